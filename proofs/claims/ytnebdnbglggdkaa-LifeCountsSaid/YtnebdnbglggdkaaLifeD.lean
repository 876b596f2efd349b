/- Pods over abstract heaps: one pod turned; Enter. -/
import Derived.Test.YtnebdnbglggdkaaLifeC
namespace Go.Proofs.YtnebdnbglggdkaaW.Am
open Go Go.RowKit
/-- What turns: the Life, its row, its pods alone. -/
def ModL (L j : Nat) (ps : List (Nat × Pd)) (h h' : Hp) : Prop := h.nx ≤ h'.nx ∧ ∀ k, k < h.nx → k ≠ L → k ≠ j → (∀ p ∈ ps, k ≠ p.1) → h'.get k = h.get k
theorem ModL.of_ext {L j : Nat} {ps : List (Nat × Pd)} {h h' : Hp} (x : Ext h h') : ModL L j ps h h' := ⟨x.1, fun k hk _ _ _ => x.2 k hk⟩
theorem ModL.trans {L j : Nat} {ps : List (Nat × Pd)} {a b c : Hp} (x : ModL L j ps a b) (y : ModL L j ps b c) : ModL L j ps a c :=
  ⟨Nat.le_trans x.1 y.1, fun k h1 h2 h3 h4 => (y.2 k (Nat.lt_of_lt_of_le h1 x.1) h2 h3 h4).trans (x.2 k h1 h2 h3 h4)⟩
theorem LA.set {h : Hp} {L j : Nat} {ps : List (Nat × Pd)} {made : Int} (a : LA h L j ps made) {i : Nat} {p : Nat × Pd} (hi : ps[i]? = some p) (v : Pd) : LA (h.put p.1 ⟨p4 v, true, 0⟩) L j (ps.set i (p.1, v)) made ∧ ModL L j ps h (h.put p.1 ⟨p4 v, true, 0⟩) := by
  obtain ⟨hL, hj, ⟨s, hg, hs⟩, hp, hn⟩ := a
  obtain ⟨hil, hie⟩ := List.getElem?_eq_some_iff.1 hi
  have hpm : p ∈ ps := List.mem_of_getElem? hi
  have hpp := hp p hpm
  have e1 : (ps.set i (p.1, v)).map (fun p => pE p.1) = ps.map fun p => pE p.1 := by
    rw [List.map_set]
    refine List.ext_getElem (by simp) fun k h1 h2 => ?_
    rw [List.getElem_set]
    split
    · next h => subst h; simp [hie]
    · rfl
  have e2 : (ps.set i (p.1, v)).map (·.1) = ps.map (·.1) := by
    rw [List.map_set]
    refine List.ext_getElem (by simp) fun k h1 h2 => ?_
    rw [List.getElem_set]
    split
    · next h => subst h; simp [hie]
    · rfl
  refine ⟨⟨hL, hj, ⟨s, (hput_ne _ _ (Ne.symm hpp.2.2.1)).trans hg, ?_⟩, fun q hq => ?_, by rw [e2]; exact hn⟩, Nat.le_refl _, fun k _ _ _ h4 => hput_ne _ _ (h4 p hpm)⟩
  · rw [e1]
    exact hs.keep fun _ => hput_ne _ _ (Ne.symm hpp.2.2.2)
  · obtain ⟨k, hk, rfl⟩ := List.getElem_of_mem hq
    rw [List.length_set] at hk
    rw [List.getElem_set]
    split
    · exact ⟨hput_same _ _ _, hpp.2.1, hpp.2.2.1, hpp.2.2.2⟩
    · next hne =>
      have hq := hp ps[k] (List.getElem_mem _)
      have hd : ps[k].1 ≠ p.1 := by
        intro e
        have h1 := (List.nodup_iff_pairwise_ne.1 hn)
        have h2 := List.pairwise_iff_getElem.1 h1
        have hi2 : p.1 = (ps.map (·.1))[i]'(by simpa using hil) := by simp [hie]
        have hk2 : ps[k].1 = (ps.map (·.1))[k]'(by simpa using hk) := by simp
        rcases Nat.lt_or_gt_of_ne hne with h | h
        · exact h2 i k (by simpa using hil) (by simpa using hk) h (by rw [← hi2, ← hk2, e])
        · exact h2 k i (by simpa using hk) (by simpa using hil) h (by rw [← hi2, ← hk2, e])
      exact ⟨(hput_ne _ _ hd).trans hq.1, hq.2.1, hq.2.2.1, hq.2.2.2⟩
theorem LA.cell {h : Hp} {L j : Nat} {ps : List (Nat × Pd)} {made : Int} (a : LA h L j ps made) {i : Nat} {p : Nat × Pd} (hi : ps[i]? = some p) : h.get p.1 = some ⟨p4 p.2, true, 0⟩ := (a.pods p (List.mem_of_getElem? hi)).1
theorem ixF_cases (ps : List (Nat × Pd)) (id : Int) : ixF ps id = -1 ∨ ∃ k p, ixF ps id = (k : Nat) ∧ ps[k]? = some p ∧ p.2.1 = id := by
  unfold ixF
  split
  · next h =>
    refine .inr ⟨_, _, rfl, List.getElem?_eq_getElem h, ?_⟩
    exact of_decide_eq_true (List.findIdx_getElem (xs := ps) (p := fun p => decide (p.2.1 = id)) (w := h))
  · exact .inl rfl
theorem enter_no (h : Hp) {L j : Nat} {ps : List (Nat × Pd)} {made id : Int} (a : LA h L j ps made) (hb : ps.length ≤ 1000) (hn : ixF ps id = -1 ∨ ∃ k p, ixF ps id = (k : Nat) ∧ ps[k]? = some p ∧ p.2.2.1 ≠ 2) : ACall PP 24 [ptr L, nI id] h (fun v h' => v = nI 7 ∧ Ext h h') := by
  refine acall Go.Proofs.Try.func24 c24 (by simp [ir24]) ?_
  unfold ir24
  dsimp only
  refine ai_seq (ai_reg ?_)
  refine st rfl ?_
  refine ai_seq (ai_seq (ai_reg ?_))
  iterate 2 refine st rfl ?_
  refine ai_cond (b := false) rfl (fun hb => by cases hb) (fun _ => ai_skip ?_)
  refine ai_seq (ai_reg ?_)
  iterate 2 refine st rfl ?_
  refine stC rfl ((at_ok h a hb).mono ?_)
  rintro v h1 ⟨rfl, x1⟩
  refine st rfl ?_
  refine ai_seq (ai_seq (ai_reg ?_))
  refine st rfl ?_
  rcases hn with e | ⟨k, p, e, hk, hne⟩
  · rw [e]
    iterate 2 refine st rfl ?_
    iterate 7 refine stF rfl rfl ?_
    refine st rfl ?_
    refine ai_cond (b := true) rfl (fun _ => ?_) (fun hb => by cases hb)
    refine ai_seq (ai_reg ?_)
    refine st rfl ?_
    refine ai_ret ?_
    simp only [thenQ_r]
    exact end_one rfl ⟨rfl, x1⟩
  · rw [e]
    have a1 := a.ext x1
    refine st_v (v2 := .bool false) rfl (congrArg Value.bool (by simp)) ?_
    refine st rfl ?_
    iterate 2 refine stT rfl rfl rfl ?_
    refine stCT rfl rfl rfl ((pod_ok h1 a1 hk).mono ?_)
    rintro v _ ⟨rfl, rfl⟩
    iterate 2 refine stT rfl rfl rfl ?_
    refine stT rfl rfl (o_ld rfl (rd_f (x := 1) (a1.cell hk) rfl)) ?_
    refine stT (v := .bool true) rfl rfl (o_v rfl (congrArg Value.bool (by simp [hne]))) ?_
    refine st rfl ?_
    refine ai_cond (b := true) rfl (fun _ => ?_) (fun hb => by cases hb)
    refine ai_seq (ai_reg ?_)
    refine st rfl ?_
    refine ai_ret ?_
    simp only [thenQ_r]
    exact end_one rfl ⟨rfl, x1⟩
theorem enter_ok (h : Hp) {L j : Nat} {ps : List (Nat × Pd)} {made id : Int} (a : LA h L j ps made) (hb : ps.length ≤ 1000) {k : Nat} {p : Nat × Pd} (e : ixF ps id = (k : Nat)) (hk : ps[k]? = some p) (hs : p.2.2.1 = 2) (hB : 0 ≤ p.2.2.2.1 ∧ p.2.2.2.1 ≤ 1000000) :
    ACall PP 24 [ptr L, nI id] h (fun v h' => v = nI 0 ∧ LA h' L j (ps.set k (p.1, (p.2.1, p.2.2.1, p.2.2.2.1 + 1, p.2.2.2.2))) made ∧ ModL L j ps h h') := by
  refine acall Go.Proofs.Try.func24 c24 (by simp [ir24]) ?_
  unfold ir24
  dsimp only
  refine ai_seq (ai_reg ?_)
  refine st rfl ?_
  refine ai_seq (ai_seq (ai_reg ?_))
  iterate 2 refine st rfl ?_
  refine ai_cond (b := false) rfl (fun hb => by cases hb) (fun _ => ai_skip ?_)
  refine ai_seq (ai_reg ?_)
  iterate 2 refine st rfl ?_
  refine stC rfl ((at_ok h a hb).mono ?_)
  rintro v h1 ⟨rfl, x1⟩
  refine st rfl ?_
  have a1 := a.ext x1
  refine ai_seq (ai_seq (ai_reg ?_))
  refine st rfl ?_
  rw [e]
  refine st_v (v2 := .bool false) rfl (congrArg Value.bool (by simp)) ?_
  refine st rfl ?_
  iterate 2 refine stT rfl rfl rfl ?_
  refine stCT rfl rfl rfl ((pod_ok h1 a1 hk).mono ?_)
  rintro v _ ⟨rfl, rfl⟩
  iterate 2 refine stT rfl rfl rfl ?_
  refine stT rfl rfl (o_ld rfl (rd_f (x := 1) (a1.cell hk) rfl)) ?_
  refine stT (v := .bool false) rfl rfl (o_v rfl (congrArg Value.bool (by simp [hs]))) ?_
  refine st rfl ?_
  refine ai_cond (b := false) rfl (fun hb => by cases hb) (fun _ => ai_skip ?_)
  refine ai_seq (ai_reg ?_)
  iterate 2 refine st rfl ?_
  refine stC rfl ((pod_ok h1 a1 hk).mono ?_)
  rintro v _ ⟨rfl, rfl⟩
  iterate 2 refine st rfl ?_
  refine st_ld rfl (rd_f (x := 2) (a1.cell hk) rfl) ?_
  refine st_w rfl (by omega) ?_
  iterate 2 refine st rfl ?_
  refine st_st rfl rfl (wr_f (a1.cell hk) (x := 2) (by simp [p4]) rfl) ?_
  refine ai_seq (ai_reg ?_)
  refine st rfl ?_
  refine ai_ret ?_
  have hset := a1.set hk (p.2.1, p.2.2.1, p.2.2.2.1 + 1, p.2.2.2.2)
  exact end_one rfl ⟨rfl, hset.1, (ModL.of_ext x1).trans hset.2⟩
end Go.Proofs.YtnebdnbglggdkaaW.Am
