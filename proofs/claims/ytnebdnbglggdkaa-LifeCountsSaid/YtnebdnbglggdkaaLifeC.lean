/- Pods over abstract heaps: where a pod stands (slices.IndexFunc with its closure); Ripe. -/
import Derived.Test.YtnebdnbglggdkaaLifeB
namespace Go.Proofs.YtnebdnbglggdkaaW.Am
open Go Go.RowKit
theorem stCV {P : Program} {CT : CTy} {r : List In} {env : Env} {h : Hp} {Q : Env → Hp → Prop} {d : Option Nat} {x : Operand} {xs : List Operand} {vs : List Value} {f : FuncId} {a b : Array Value} (e : evA env x = some (.func (.func f) a b)) (e2 : mapE env xs = some vs)
    (c : CT f (a.toList ++ vs ++ b.toList) h fun v h' => wpS P CT r (env.put d v) h' Q) : wpS P CT (⟨d, none, .callv x xs⟩ :: r) env h Q := by
  unfold wpS wpIn
  simp only [wanted, e, e2]
  exact c
/-- Where the first pod of a number stands; -1: nowhere. -/
def ixF (ps : List (Nat × Pd)) (id : Int) : Int := if ps.findIdx (fun p => decide (p.2.1 = id)) < ps.length then (ps.findIdx (fun p => decide (p.2.1 = id)) : Nat) else -1
theorem same_ok (h : Hp) {P B : Nat} {p : Pd} {id : Int} (hP : h.get P = some ⟨p4 p, true, 0⟩) (hB : h.get B = some ⟨[nI id], true, 0⟩) : ACall PP 64 [pE P, ptr B] h (fun v h' => v = .bool (decide (p.1 = id)) ∧ h = h') := by
  refine acall Go.Proofs.Try.func64 c64 (by simp [ir64]) ?_
  unfold ir64
  dsimp only
  refine ai_seq (ai_reg ?_)
  refine st rfl ?_
  refine ai_seq (ai_drw (by kernel_rfl) ?_)
  refine dr rfl ?_
  refine dr (v := ptr P) (h' := h) rfl ?_
  iterate 2 refine dr rfl ?_
  refine dr (o_ld rfl (rd_f (x := 0) hP rfl)) ?_
  refine dr (o_ld rfl (rd_f (x := 0) hB rfl)) ?_
  refine dr (v := .bool (decide (p.1 = id))) (o_v rfl (congrArg Value.bool (by rw [Bool.eq_iff_iff]; simp))) ?_
  refine dr rfl ?_
  refine ai_ret ?_
  exact end_one rfl ⟨rfl, rfl⟩
theorem index_ok (h : Hp) {L j B : Nat} {s : Value} {ps : List (Nat × Pd)} {id : Int} (hs : LR h L j s (ps.map fun p => pE p.1)) (hp : ∀ p ∈ ps, h.get p.1 = some ⟨p4 p.2, true, 0⟩) (hB : h.get B = some ⟨[nI id], true, 0⟩) (hb : ps.length ≤ 1000) :
    ACall PP 63 [s, .func (.func 64) #[] #[ptr B]] h (fun v h' => v = nI (ixF ps id) ∧ h = h') := by
  obtain ⟨x, c, e⟩ := hs.len
  subst e
  rw [List.length_map] at *
  refine acall Go.Proofs.Try.func63 c63 (by simp [ir63]) ?_
  unfold ir63
  dsimp only
  refine ai_seq (ai_reg ?_)
  refine st rfl ?_
  refine ai_seq (ai_seq (ai_reg ?_))
  iterate 3 refine st rfl ?_
  refine ai_block (ai_loopE (γ := Nat) (fun i => [(0, .slice x ps.length c), (1, .func (.func 64) #[] #[ptr B]), (7, nI ps.length), (8, nI i)]) (fun i h' => h = h' ∧ i ≤ ps.length ∧ i ≤ ps.findIdx (fun p => decide (p.2.1 = id))) (fun i => ps.length - i) 0
    (le_cons rfl (le_cons rfl (le_cons rfl (le_cons rfl le_nil)))) ⟨rfl, Nat.zero_le _, Nat.zero_le _⟩ ?_)
  rintro i _ ⟨rfl, hi, hix⟩
  refine ai_seq (ai_reg ?_)
  refine st rfl ?_
  by_cases hlt : i < ps.length
  case neg =>
    refine ai_seq (ai_cond (b := false) (by simp [evA, Env.get, Env.put, hlt]) (fun hb => by cases hb) fun _ => ?_)
    refine ai_exit ?_
    refine ai_seq (ai_reg ?_)
    refine st rfl ?_
    refine ai_ret ?_
    exact end_one rfl ⟨by rw [ixF, if_neg (by omega)], rfl⟩
  refine ai_seq (ai_cond (b := true) (by simp [evA, Env.get, Env.put, hlt]) (fun _ => ?_) fun hb => by cases hb)
  refine ai_skip ?_
  have hu : (ps.map fun p => pE p.1)[i]? = some (pE ps[i].1) := by simp [hlt]
  have hpi := hp ps[i] (List.getElem_mem _)
  obtain ⟨c', e, hr⟩ := hs.at hu
  rw [List.length_map] at e
  cases e
  refine ai_seq (ai_block ?_)
  refine ai_seq (ai_reg ?_)
  iterate 2 refine st rfl ?_
  refine ai_seq (ai_reg ?_)
  iterate 3 refine st rfl ?_
  refine st_iad rfl (by omega) ?_
  refine st_ld rfl (by rw [Int.toNat_natCast]; exact hr) ?_
  refine stCV rfl rfl ((same_ok h hpi hB).mono ?_)
  rintro v _ ⟨rfl, rfl⟩
  by_cases hc : ps[i].2.1 = id
  · rw [decide_eq_true hc]
    refine ai_cond (b := true) rfl (fun _ => ?_) fun hb => by cases hb
    refine ai_seq (ai_reg ?_)
    iterate 2 refine st rfl ?_
    refine ai_ret ?_
    have e : ps.findIdx (fun p => decide (p.2.1 = id)) = i := by
      refine (List.findIdx_eq hlt).2 ⟨decide_eq_true hc, fun k hk => ?_⟩
      have := List.not_of_lt_findIdx (show k < ps.findIdx (fun p => decide (p.2.1 = id)) by omega)
      simpa using this
    simp only [thenQ_r, blockQ_r, roundE]
    exact end_one rfl ⟨by rw [ixF, e, if_pos hlt], rfl⟩
  · rw [decide_eq_false hc]
    refine ai_cond (b := false) rfl (fun hb => by cases hb) fun _ => ai_skip ?_
    refine ai_reg ?_
    refine st_w rfl (by omega) ?_
    refine st rfl ?_
    refine ⟨i + 1, le_cons rfl (le_cons rfl (le_cons rfl (le_cons (by simp [Env.get, Env.put]) le_nil))), ⟨rfl, by omega, ?_⟩, by dsimp only; omega⟩
    rcases Nat.lt_or_ge i (ps.findIdx (fun p => decide (p.2.1 = id))) with h1 | h1
    · omega
    · exfalso
      have e : ps.findIdx (fun p => decide (p.2.1 = id)) = i := by omega
      have := List.findIdx_getElem (xs := ps) (p := fun p => decide (p.2.1 = id)) (w := by omega)
      simp only [e] at this
      exact hc (of_decide_eq_true this)
theorem at_ok (h : Hp) {L j : Nat} {ps : List (Nat × Pd)} {made id : Int} (a : LA h L j ps made) (hb : ps.length ≤ 1000) : ACall PP 52 [ptr L, nI id] h (fun v h' => v = nI (ixF ps id) ∧ Ext h h') := by
  have a1 := a.ext (Ext.new h ⟨[nI id], true, 0⟩)
  obtain ⟨hL, hj, ⟨s, hg, hs⟩, hp, hn⟩ := a1
  refine acall Go.Proofs.Try.func52 c52 (by simp [ir52]) ?_
  unfold ir52
  dsimp only
  refine ai_seq (ai_reg ?_)
  refine st (v := ptr h.nx) (h' := h.new ⟨[nI id], true, 0⟩) rfl ?_
  refine st rfl ?_
  refine ai_seq (ai_reg ?_)
  iterate 3 refine st rfl ?_
  refine st_ld rfl (rd_f hg rfl) ?_
  refine st (v := .func (.func 64) #[] #[ptr h.nx]) rfl ?_
  refine stC rfl ((index_ok _ hs (fun p hp' => (hp p hp').1) (B := h.nx) (id := id) (by simp [Hp.new]) hb).mono ?_)
  rintro v _ ⟨rfl, rfl⟩
  refine st rfl ?_
  refine ai_ret ?_
  exact end_one rfl ⟨rfl, Ext.new _ _⟩
end Go.Proofs.YtnebdnbglggdkaaW.Am
