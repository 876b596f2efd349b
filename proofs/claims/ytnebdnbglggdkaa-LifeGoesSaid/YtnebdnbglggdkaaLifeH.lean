/- Pods over abstract heaps: one goes; Leave. -/
import Derived.Test.YtnebdnbglggdkaaLifeG
namespace Go.Proofs.YtnebdnbglggdkaaW.Am
open Go Go.RowKit
theorem LA.sep {h : Hp} {L j : Nat} {ps : List (Nat × Pd)} {made : Int} (a : LA h L j ps made) {k : Nat} (hk : k < ps.length) : j ≠ L := by
  obtain ⟨s, _, hs⟩ := a.row
  rcases hs with ⟨_, e⟩ | ⟨_, _, _, _, e⟩
  · rw [List.map_eq_nil_iff] at e; subst e; simp at hk
  · exact e
theorem LA.del {h h1 : Hp} {L j : Nat} {ps : List (Nat × Pd)} {made : Int} {v : Value} (a : LA h L j ps made) {i : Nat} (hi : i < ps.length) (lr : LR h1 L j v ((ps.map fun p => pE p.1).take i ++ (ps.map fun p => pE p.1).drop (i + 1))) (hn : h1.nx = h.nx) (hk : ∀ k, k ≠ j → h1.get k = h.get k) :
    LA (h1.put L ⟨[v, nI made], true, 0⟩) L j (ps.take i ++ ps.drop (i + 1)) made ∧ ModL L j ps h (h1.put L ⟨[v, nI made], true, 0⟩) := by
  have hjL := a.sep hi
  obtain ⟨hL, hj, ⟨s, hg, hs⟩, hp, hnd⟩ := a
  have hsub : List.Sublist (ps.take i ++ ps.drop (i + 1)) ps := by
    have h1 : List.Sublist (ps.take i ++ ps.drop (i + 1)) (ps.take i ++ ps.drop i) := List.Sublist.append_left (by rw [List.drop_eq_getElem_cons hi]; exact List.sublist_cons_self _ _) _
    rwa [List.take_append_drop] at h1
  refine ⟨⟨by rw [hput_nx]; omega, by rw [hput_nx]; omega, ⟨v, hput_same _ _ _, ?_⟩, fun q hq => ?_, (hsub.map _).nodup hnd⟩, ⟨by rw [hput_nx]; omega, fun k _ k2 k3 _ => (hput_ne _ _ k2).trans (hk k k3)⟩⟩
  · rw [List.map_append, List.map_take, List.map_drop]
    exact lr.keep fun _ => hput_ne _ _ hjL
  · have hq' := hp q (hsub.subset hq)
    exact ⟨(hput_ne _ _ hq'.2.2.1).trans ((hk _ hq'.2.2.2).trans hq'.1), by rw [hput_nx, hn]; exact hq'.2.1, hq'.2.2⟩

theorem leave_no (h : Hp) {L j : Nat} {ps : List (Nat × Pd)} {made id : Int} (a : LA h L j ps made) (hb : ps.length ≤ 1000) (hn : ixF ps id = -1 ∨ ∃ k p, ixF ps id = (k : Nat) ∧ ps[k]? = some p ∧ p.2.2.2.1 = 0) : ACall PP 26 [ptr L, nI id] h (fun v h' => v = nI 7 ∧ Ext h h') := by
  refine acall Go.Proofs.Try.func26 c26 (by simp [ir26]) ?_
  unfold ir26
  dsimp only
  refine ai_seq (ai_reg ?_)
  refine st rfl ?_
  refine ai_seq (ai_seq (ai_reg ?_))
  iterate 2 refine st rfl ?_
  refine ai_cond (b := false) rfl (fun hb => by cases hb) (fun _ => ai_skip ?_)
  refine ai_seq (ai_reg ?_)
  iterate 2 refine st rfl ?_
  refine stC rfl ((at_ok h a hb).mono ?_)
  rintro v h1 ⟨rfl, x1⟩
  refine st rfl ?_
  refine ai_seq (ai_seq (ai_reg ?_))
  refine st rfl ?_
  rcases hn with e | ⟨k, p, e, hk, hne⟩
  · rw [e]
    iterate 2 refine st rfl ?_
    iterate 7 refine stF rfl rfl ?_
    refine st rfl ?_
    refine ai_cond (b := true) rfl (fun _ => ?_) (fun hb => by cases hb)
    refine ai_seq (ai_reg ?_)
    refine st rfl ?_
    refine ai_ret ?_
    simp only [thenQ_r]
    exact end_one rfl ⟨rfl, x1⟩
  · rw [e]
    have a1 := a.ext x1
    refine st_v (v2 := .bool false) rfl (congrArg Value.bool (by simp)) ?_
    refine st rfl ?_
    iterate 2 refine stT rfl rfl rfl ?_
    refine stCT rfl rfl rfl ((pod_ok h1 a1 hk).mono ?_)
    rintro v _ ⟨rfl, rfl⟩
    iterate 2 refine stT rfl rfl rfl ?_
    refine stT rfl rfl (o_ld rfl (rd_f (x := 2) (a1.cell hk) rfl)) ?_
    refine stT (v := .bool true) rfl rfl (o_v rfl (congrArg Value.bool (by simp [hne]))) ?_
    refine st rfl ?_
    refine ai_cond (b := true) rfl (fun _ => ?_) (fun hb => by cases hb)
    refine ai_seq (ai_reg ?_)
    refine st rfl ?_
    refine ai_ret ?_
    simp only [thenQ_r]
    exact end_one rfl ⟨rfl, x1⟩
theorem leave_ok (h : Hp) {L j : Nat} {ps : List (Nat × Pd)} {made id : Int} (a : LA h L j ps made) (hb : ps.length ≤ 1000) {k : Nat} {p : Nat × Pd} (e : ixF ps id = (k : Nat)) (hk : ps[k]? = some p) (hB : 1 ≤ p.2.2.2.1 ∧ p.2.2.2.1 ≤ 1000000) :
    ACall PP 26 [ptr L, nI id] h (fun v h' => v = nI 0 ∧ LA h' L j (if p.2.2.2.1 = 1 ∧ p.2.2.1 = 3 then ps.take k ++ ps.drop (k + 1) else ps.set k (p.1, (p.2.1, p.2.2.1, p.2.2.2.1 - 1, p.2.2.2.2))) made ∧ ModL L j ps h h') := by
  have hkl := (List.getElem?_eq_some_iff.1 hk).1
  refine acall Go.Proofs.Try.func26 c26 (by simp [ir26]) ?_
  unfold ir26
  dsimp only
  refine ai_seq (ai_reg ?_)
  refine st rfl ?_
  refine ai_seq (ai_seq (ai_reg ?_))
  iterate 2 refine st rfl ?_
  refine ai_cond (b := false) rfl (fun hb => by cases hb) (fun _ => ai_skip ?_)
  refine ai_seq (ai_reg ?_)
  iterate 2 refine st rfl ?_
  refine stC rfl ((at_ok h a hb).mono ?_)
  rintro v h1 ⟨rfl, x1⟩
  refine st rfl ?_
  have a1 := a.ext x1
  refine ai_seq (ai_seq (ai_reg ?_))
  refine st rfl ?_
  rw [e]
  refine st_v (v2 := .bool false) rfl (congrArg Value.bool (by simp)) ?_
  refine st rfl ?_
  iterate 2 refine stT rfl rfl rfl ?_
  refine stCT rfl rfl rfl ((pod_ok h1 a1 hk).mono ?_)
  rintro v _ ⟨rfl, rfl⟩
  iterate 2 refine stT rfl rfl rfl ?_
  refine stT rfl rfl (o_ld rfl (rd_f (x := 2) (a1.cell hk) rfl)) ?_
  refine stT (v := .bool false) rfl rfl (o_v rfl (congrArg Value.bool (by simp; omega))) ?_
  refine st rfl ?_
  refine ai_cond (b := false) rfl (fun hb => by cases hb) (fun _ => ai_skip ?_)
  refine ai_seq (ai_reg ?_)
  iterate 2 refine st rfl ?_
  refine stC rfl ((pod_ok h1 a1 hk).mono ?_)
  rintro v _ ⟨rfl, rfl⟩
  refine st rfl ?_
  refine ai_seq (ai_seq (ai_reg ?_))
  iterate 3 refine st rfl ?_
  refine st_ld rfl (rd_f (x := 2) (a1.cell hk) rfl) ?_
  refine st_w rfl (by omega) ?_
  iterate 2 refine st rfl ?_
  have hset := a1.set hk (p.2.1, p.2.2.1, p.2.2.2.1 - 1, p.2.2.2.2)
  refine st_st (h' := h1.put p.1 ⟨p4 (p.2.1, p.2.2.1, p.2.2.2.1 - 1, p.2.2.2.2), true, 0⟩) rfl rfl (wr_f (a1.cell hk) (x := 2) (by simp [p4]) rfl) ?_
  have hP : (h1.put p.1 ⟨p4 (p.2.1, p.2.2.1, p.2.2.2.1 - 1, p.2.2.2.2), true, 0⟩).get p.1 = some ⟨p4 (p.2.1, p.2.2.1, p.2.2.2.1 - 1, p.2.2.2.2), true, 0⟩ := hput_same _ _ _
  obtain ⟨a2, m2⟩ := hset
  generalize h1.put p.1 ⟨p4 (p.2.1, p.2.2.1, p.2.2.2.1 - 1, p.2.2.2.2), true, 0⟩ = h2 at a2 m2 hP
  have m3 : ModL L j ps h h2 := (ModL.of_ext x1).trans m2
  refine ai_seq (ai_reg ?_)
  iterate 3 refine st rfl ?_
  refine st_ld rfl (rd_f (x := 2) hP rfl) ?_
  by_cases h1b : p.2.2.2.1 = 1
  · refine st_v (v2 := .bool true) rfl (congrArg Value.bool (by simp; omega)) ?_
    refine st rfl ?_
    iterate 3 refine stT rfl rfl rfl ?_
    refine stT rfl rfl (o_ld rfl (rd_f (x := 1) hP rfl)) ?_
    by_cases h3 : p.2.2.1 = 3
    · refine stT (v := .bool true) rfl rfl (o_v rfl (congrArg Value.bool (by simp [h3]))) ?_
      refine st rfl ?_
      refine ai_cond (b := true) rfl (fun _ => ?_) (fun hb => by cases hb)
      have hkl2 : k < (ps.set k (p.1, (p.2.1, p.2.2.1, p.2.2.2.1 - 1, p.2.2.2.2))).length := by simpa using hkl
      obtain ⟨s, hg, hs⟩ := a2.row
      refine ai_reg ?_
      iterate 4 refine st rfl ?_
      refine st_ld rfl (rd_f hg rfl) ?_
      iterate 2 refine st rfl ?_
      refine st_w rfl (by omega) ?_
      refine stC rfl ((delete_ok h2 hs (i := k) (by simpa using hkl) (by simpa using hb)).mono ?_)
      rintro w h3' ⟨lr, hn3, hk3⟩
      iterate 2 refine st rfl ?_
      have hjL := a2.sep hkl2
      have hg3 := (hk3 L (Ne.symm hjL)).trans hg
      have hone : one w = true ∧ w.cells = #[w] := by rcases lr with ⟨rfl, _⟩ | ⟨_, rfl, _⟩ <;> exact ⟨rfl, rfl⟩
      refine st_st (h' := h3'.put L ⟨[w, nI made], true, 0⟩) rfl (by rw [hone.2]; rfl) (by rw [hone.2]; exact wr_f hg3 (x := 0) (by simp) hone.1) ?_
      refine ai_seq (ai_reg ?_)
      refine st rfl ?_
      refine ai_ret ?_
      obtain ⟨a4, m4⟩ := a2.del hkl2 lr hn3 hk3
      have e1 : (ps.set k (p.1, (p.2.1, p.2.2.1, p.2.2.2.1 - 1, p.2.2.2.2))).take k ++ (ps.set k (p.1, (p.2.1, p.2.2.1, p.2.2.2.1 - 1, p.2.2.2.2))).drop (k + 1) = ps.take k ++ ps.drop (k + 1) := by
        rw [List.take_set_of_le (by omega), List.drop_set_of_lt (by omega)]
      rw [e1] at a4
      refine end_one rfl ⟨rfl, by rw [if_pos ⟨h1b, h3⟩]; exact a4, Nat.le_trans m3.1 m4.1, fun q q1 q2 q3 q4 => (m4.2 q (Nat.lt_of_lt_of_le q1 m3.1) q2 q3 fun r hr => ?_).trans (m3.2 q q1 q2 q3 q4)⟩
      rcases List.mem_or_eq_of_mem_set hr with hr | rfl
      · exact q4 r hr
      · exact q4 p (List.mem_of_getElem? hk)
    · refine stT (v := .bool false) rfl rfl (o_v rfl (congrArg Value.bool (by simp [h3]))) ?_
      refine st rfl ?_
      refine ai_cond (b := false) rfl (fun hb => by cases hb) (fun _ => ai_skip ?_)
      refine ai_seq (ai_reg ?_)
      refine st rfl ?_
      refine ai_ret ?_
      exact end_one rfl ⟨rfl, by rw [if_neg fun h => h3 h.2]; exact a2, m3⟩
  · refine st_v (v2 := .bool false) rfl (congrArg Value.bool (by simp; omega)) ?_
    refine st rfl ?_
    iterate 5 refine stF rfl rfl ?_
    refine st rfl ?_
    refine ai_cond (b := false) rfl (fun hb => by cases hb) (fun _ => ai_skip ?_)
    refine ai_seq (ai_reg ?_)
    refine st rfl ?_
    refine ai_ret ?_
    exact end_one rfl ⟨rfl, by rw [if_neg fun h => h1b h.1]; exact a2, m3⟩
end Go.Proofs.YtnebdnbglggdkaaW.Am
