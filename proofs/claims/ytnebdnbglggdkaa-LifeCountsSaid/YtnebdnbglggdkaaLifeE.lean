/- Pods over abstract heaps: Ripe. -/
import Derived.Test.YtnebdnbglggdkaaLifeD
namespace Go.Proofs.YtnebdnbglggdkaaW.Am
open Go Go.RowKit
/-- A pod that had its time is ready. -/
def rpF (now after : Int) (v : Pd) : Pd := if v.2.1 = 1 ∧ v.2.2.2 + after ≤ now then (v.1, 2, v.2.2.1, v.2.2.2) else v
theorem end_zero {P : Program} {R : Value → Hp → Prop} {env : Env} {h : Hp} (r : R (.tuple #[]) h) : endQ P [] R .ret env h := ⟨[], rfl, r⟩
theorem end_zeroN {P : Program} {R : Value → Hp → Prop} {env : Env} {h : Hp} (r : R (.tuple #[]) h) : endQ P [] R .normal env h := ⟨[], rfl, r⟩
theorem ripe_no (h : Hp) {L : Nat} {now after : Int} (hn : after < 0 ∨ 100 < after) : ACall PP 23 [ptr L, nI now, nI after] h (fun _ h' => h = h') := by
  refine acall Go.Proofs.Try.func23 c23 (by simp [ir23]) ?_
  unfold ir23
  dsimp only
  refine ai_seq (ai_seq (ai_reg ?_))
  iterate 3 refine st rfl ?_
  refine stT rfl rfl rfl ?_
  by_cases h0 : after < 0
  · refine stT (v := .bool true) rfl rfl (o_v rfl (congrArg Value.bool (by simp; omega))) ?_
    iterate 2 refine st rfl ?_
    iterate 2 refine stF rfl rfl ?_
    refine st rfl ?_
    refine ai_cond (b := true) rfl (fun _ => ?_) (fun hb => by cases hb)
    refine ai_ret ?_
    simp only [thenQ_r]
    exact end_zero rfl
  · refine stT (v := .bool false) rfl rfl (o_v rfl (congrArg Value.bool (by simp; omega))) ?_
    iterate 2 refine st rfl ?_
    refine stT rfl rfl rfl ?_
    refine stT (v := .bool true) rfl rfl (o_v rfl (congrArg Value.bool (by simp; omega))) ?_
    refine st rfl ?_
    refine ai_cond (b := true) rfl (fun _ => ?_) (fun hb => by cases hb)
    refine ai_ret ?_
    simp only [thenQ_r]
    exact end_zero rfl
def rps (now after : Int) (ps : List (Nat × Pd)) (i : Nat) : List (Nat × Pd) := (ps.take i).map (fun p => (p.1, rpF now after p.2)) ++ ps.drop i
theorem rps_len (now after : Int) (ps : List (Nat × Pd)) {i : Nat} (hi : i ≤ ps.length) : (rps now after ps i).length = ps.length := by simp [rps]; omega
theorem rps_get (now after : Int) {ps : List (Nat × Pd)} {i : Nat} (hi : i < ps.length) : (rps now after ps i)[i]? = some ps[i] := by
  rw [rps, List.getElem?_append_right (by simp; omega)]
  simp [Nat.min_eq_left (Nat.le_of_lt hi), hi]
theorem rps_succ (now after : Int) {ps : List (Nat × Pd)} {i : Nat} (hi : i < ps.length) : rps now after ps (i + 1) = (rps now after ps i).set i (ps[i].1, rpF now after ps[i].2) := by
  have hl : ((ps.take i).map (fun p => (p.1, rpF now after p.2))).length = i := by simp; omega
  rw [rps, rps, List.set_append_right _ _ (by omega), hl, Nat.sub_self, List.drop_eq_getElem_cons hi, List.set_cons_zero, List.take_succ_eq_append_getElem hi, List.map_append, List.append_assoc]
  rfl
theorem rps_all (now after : Int) (ps : List (Nat × Pd)) : rps now after ps ps.length = ps.map (fun p => (p.1, rpF now after p.2)) := by simp [rps]
theorem ripe_ok (h : Hp) {L j : Nat} {ps : List (Nat × Pd)} {made now after : Int} (a : LA h L j ps made) (hb : ps.length ≤ 1000) (h0 : 0 ≤ after) (h1 : after ≤ 100) (hs : ∀ p ∈ ps, 0 ≤ p.2.2.2.2 ∧ p.2.2.2.2 ≤ 1099511627776) :
    ACall PP 23 [ptr L, nI now, nI after] h (fun _ h' => LA h' L j (ps.map fun p => (p.1, rpF now after p.2)) made ∧ ModL L j ps h h') := by
  refine acall Go.Proofs.Try.func23 c23 (by simp [ir23]) ?_
  unfold ir23
  dsimp only
  refine ai_seq (ai_seq (ai_reg ?_))
  iterate 3 refine st rfl ?_
  refine stT rfl rfl rfl ?_
  refine stT (v := .bool false) rfl rfl (o_v rfl (congrArg Value.bool (by simp; omega))) ?_
  iterate 2 refine st rfl ?_
  refine stT rfl rfl rfl ?_
  refine stT (v := .bool false) rfl rfl (o_v rfl (congrArg Value.bool (by simp; omega))) ?_
  refine st rfl ?_
  refine ai_cond (b := false) rfl (fun hb => by cases hb) (fun _ => ai_skip ?_)
  obtain ⟨s, hg, hls⟩ := a.row
  obtain ⟨x, c, e⟩ := hls.len
  subst e
  rw [List.length_map] at hg
  refine ai_seq (ai_reg ?_)
  iterate 3 refine st rfl ?_
  refine st_ld rfl (rd_f hg rfl) ?_
  iterate 2 refine st rfl ?_
  refine ai_block (ai_loopE (γ := Nat) (fun i => [(0, ptr L), (1, nI now), (2, nI after), (22, nI ps.length), (23, nI i)]) (fun i h' => LA h' L j (rps now after ps i) made ∧ ModL L j ps h h' ∧ i ≤ ps.length) (fun i => ps.length - i) 0
    (le_cons rfl (le_cons rfl (le_cons rfl (le_cons rfl (le_cons rfl le_nil))))) ⟨by simpa [rps] using a, ModL.of_ext (Ext.refl _), Nat.zero_le _⟩ ?_)
  rintro i h2 ⟨a2, m2, hi⟩
  refine ai_seq (ai_reg ?_)
  refine st rfl ?_
  by_cases hlt : i < ps.length
  case neg =>
    obtain rfl : i = ps.length := by omega
    refine ai_seq (ai_cond (b := false) (by simp [evA, Env.get, Env.put]) (fun hb => by cases hb) fun _ => ?_)
    refine ai_exit ?_
    rw [rps_all] at a2
    exact end_zeroN (R := fun _ h' => LA h' L j (ps.map fun p => (p.1, rpF now after p.2)) made ∧ ModL L j ps h h') ⟨a2, m2⟩
  refine ai_seq (ai_cond (b := true) (by simp [evA, Env.get, Env.put, hlt]) (fun _ => ?_) fun hb => by cases hb)
  refine ai_skip ?_
  have hget := rps_get now after hlt
  have hsuc := rps_succ now after hlt
  have hsi := hs ps[i] (List.getElem_mem _)
  have hmem : ps[i] ∈ ps := List.getElem_mem _
  generalize ps[i] = p at hget hsuc hsi hmem
  refine ai_join (γ := Unit) (fun _ => [(0, ptr L), (1, nI now), (2, nI after), (22, nI ps.length), (23, nI i)]) (fun _ h' => LA h' L j (rps now after ps (i + 1)) made ∧ ModL L j ps h h') ?_ ?_
  case refine_2 =>
    rintro _ h3 ⟨a3, m3⟩
    refine ai_reg ?_
    refine st_w rfl (by omega) ?_
    refine st rfl ?_
    exact ⟨i + 1, le_cons rfl (le_cons rfl (le_cons rfl (le_cons rfl (le_cons (by simp [Env.get, Env.put]) le_nil)))), ⟨a3, m3, by omega⟩, by dsimp only; omega⟩
  refine ai_block ?_
  refine ai_seq (ai_reg ?_)
  iterate 2 refine st rfl ?_
  refine ai_seq (ai_reg ?_)
  iterate 2 refine st rfl ?_
  refine stC rfl ((pod_ok h2 a2 hget).mono ?_)
  rintro w _ ⟨rfl, rfl⟩
  refine st rfl ?_
  refine ai_seq (ai_reg ?_)
  iterate 3 refine st rfl ?_
  refine st_ld rfl (rd_f (x := 1) (a2.cell hget) rfl) ?_
  by_cases hc : p.2.2.1 = 1
  · refine st_v (v2 := .bool true) rfl (congrArg Value.bool (by simp [hc])) ?_
    refine st rfl ?_
    iterate 3 refine stT rfl rfl rfl ?_
    refine stT rfl rfl (o_ld rfl (rd_f (x := 3) (a2.cell hget) rfl)) ?_
    refine stT rfl rfl rfl ?_
    refine stT rfl rfl (o_w rfl (by omega)) ?_
    refine stT rfl rfl rfl ?_
    by_cases hd : p.2.2.2.2 + after ≤ now
    · refine stT (v := .bool true) rfl rfl (o_v rfl (congrArg Value.bool (by simp [hd]))) ?_
      refine st rfl ?_
      refine ai_cond (b := true) rfl (fun _ => ?_) fun hb => by cases hb
      refine ai_reg ?_
      iterate 3 refine st rfl ?_
      refine st_st rfl rfl (wr_f (a2.cell hget) (x := 1) (by simp [p4]) rfl) ?_
      have hset := a2.set hget (rpF now after p.2)
      rw [← hsuc] at hset
      have e : (p4 p.2).set 1 (nI 2) = p4 (rpF now after p.2) := by rw [rpF, if_pos ⟨hc, hd⟩]; rfl
      rw [e]
      refine ⟨rfl, (), le_cons rfl (le_cons rfl (le_cons rfl (le_cons rfl (le_cons rfl le_nil)))), hset.1, ⟨m2.1, fun k h1 h2 h3 h4 => (hput_ne _ _ (h4 p hmem)).trans (m2.2 k h1 h2 h3 h4)⟩⟩
    · refine stT (v := .bool false) rfl rfl (o_v rfl (congrArg Value.bool (by simp; omega))) ?_
      refine st rfl ?_
      refine ai_cond (b := false) rfl (fun hb => by cases hb) fun _ => ai_skip ?_
      have e : rpF now after p.2 = p.2 := by rw [rpF, if_neg fun h => hd h.2]
      rw [e] at hsuc
      have hsame : (rps now after ps i).set i (p.1, p.2) = rps now after ps i := by
        obtain ⟨hl, he⟩ := List.getElem?_eq_some_iff.1 hget
        rw [← he]
        exact List.set_getElem_self hl
      rw [hsame] at hsuc
      rw [hsuc]
      exact ⟨rfl, (), le_cons rfl (le_cons rfl (le_cons rfl (le_cons rfl (le_cons rfl le_nil)))), a2, m2⟩
  · refine st_v (v2 := .bool false) rfl (congrArg Value.bool (by simp [hc])) ?_
    refine st rfl ?_
    iterate 8 refine stF rfl rfl ?_
    refine st rfl ?_
    refine ai_cond (b := false) rfl (fun hb => by cases hb) fun _ => ai_skip ?_
    have e : rpF now after p.2 = p.2 := by rw [rpF, if_neg fun h => hc h.1]
    rw [e] at hsuc
    have hsame : (rps now after ps i).set i (p.1, p.2) = rps now after ps i := by
      obtain ⟨hl, he⟩ := List.getElem?_eq_some_iff.1 hget
      rw [← he]
      exact List.set_getElem_self hl
    rw [hsame] at hsuc
    rw [hsuc]
    exact ⟨rfl, (), le_cons rfl (le_cons rfl (le_cons rfl (le_cons rfl (le_cons rfl le_nil)))), a2, m2⟩
end Go.Proofs.YtnebdnbglggdkaaW.Am
