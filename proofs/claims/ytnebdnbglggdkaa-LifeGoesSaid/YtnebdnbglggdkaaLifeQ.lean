/- Pods over abstract heaps: Scale to fewer. -/
import Derived.Test.YtnebdnbglggdkaaLifeP
namespace Go.Proofs.YtnebdnbglggdkaaW.Am
open Go Go.RowKit
set_option maxHeartbeats 1000000 in
theorem scale_dn (h : Hp) {L j : Nat} {ps : List (Nat × Pd)} {made now : Int} {w : Nat} (a : LA h L j ps made) (hb : ps.length ≤ 800) (hc : w ≤ cF (ps.map (·.2))) (hw : w ≤ 100) (hn : 0 ≤ now ∧ now ≤ 1099511627776) :
    ACall PP 22 [ptr L, nI w, nI now] h (fun v h' => v = nI 0 ∧ ∃ ps', ps'.map (·.2) = dnN now (ps.map (·.2)) (cF (ps.map (·.2)) - w) ∧ (∀ p ∈ ps', ∃ q ∈ ps, q.1 = p.1) ∧ LA h' L j ps' made ∧ ModL L j ps h h') := by
  refine acall Go.Proofs.Try.func22 c22 (by simp [ir22]) ?_
  unfold ir22
  dsimp only
  refine ai_seq (ai_reg ?_)
  refine st rfl ?_
  refine ai_seq (ai_block ?_)
  refine ai_seq (ai_reg ?_)
  iterate 3 refine st rfl ?_
  refine ai_cond (b := false) rfl (fun hb => by cases hb) (fun _ => ?_)
  refine ai_seq (ai_reg ?_)
  refine st rfl ?_
  refine st_v (v2 := .bool false) rfl (congrArg Value.bool (by first | (simp; done) | (simp; omega))) ?_
  refine st rfl ?_
  refine stT rfl rfl rfl ?_
  refine stT (v := .bool false) rfl rfl (o_v rfl (congrArg Value.bool (by first | (simp; done) | (simp; omega)))) ?_
  iterate 2 refine st rfl ?_
  refine stT rfl rfl rfl ?_
  refine stT (v := .bool false) rfl rfl (o_v rfl (congrArg Value.bool (by first | (simp; done) | (simp; omega)))) ?_
  iterate 2 refine st rfl ?_
  refine stT rfl rfl rfl ?_
  refine stT (v := .bool false) rfl rfl (o_v rfl (congrArg Value.bool (by first | (simp; done) | (simp; omega)))) ?_
  iterate 2 refine st rfl ?_
  refine ai_cond (b := false) rfl (fun hb => by cases hb) (fun _ => ?_)
  refine ai_skip ?_
  refine ai_join (γ := Unit) (fun _ => [(0, ptr L), (1, nI w), (2, nI now)]) (fun _ h' => Ext h h') ?_ ?_
  · refine ai_block (ai_loopE (γ := Unit) (fun _ => [(0, ptr L), (1, nI w), (2, nI now)]) (fun _ h' => Ext h h') (fun _ => 0) () (le_cons rfl (le_cons rfl (le_cons rfl le_nil))) (Ext.refl _) ?_)
    rintro _ h2 x2
    refine ai_seq (ai_seq (ai_reg ?_))
    refine st rfl ?_
    refine stC rfl ((count_ok h2 (a.ext x2) (by omega)).mono ?_)
    rintro v h3 ⟨rfl, x3⟩
    refine st rfl ?_
    refine st_v (v2 := .bool false) rfl (congrArg Value.bool (by first | (simp; done) | (simp; omega))) ?_
    refine ai_cond (b := false) rfl (fun hb => by cases hb) (fun _ => ?_)
    refine ai_exit ?_
    exact ⟨rfl, (), le_cons rfl (le_cons rfl (le_cons rfl le_nil)), x2.trans x3⟩
  rintro _ h1 x1
  have a1 := a.ext x1
  refine ai_join (γ := Unit) (fun _ => []) (fun _ h' => ∃ ps', ps'.map (·.2) = dnN now (ps.map (·.2)) (cF (ps.map (·.2)) - w) ∧ (∀ p ∈ ps', ∃ q ∈ ps, q.1 = p.1) ∧ LA h' L j ps' made ∧ ModL L j ps h h') ?_ ?_
  case refine_2 =>
    rintro _ h2 hR
    refine ai_seq (ai_reg ?_)
    refine st rfl ?_
    refine ai_ret ?_
    exact end_one rfl ⟨rfl, hR⟩
  refine ai_block (ai_loopE (γ := Nat) (fun _ => [(0, ptr L), (1, nI w), (2, nI now)]) (fun k h' => (∃ ps', ps'.map (·.2) = dnN now (ps.map (·.2)) k ∧ (∀ p ∈ ps', ∃ q ∈ ps, q.1 = p.1) ∧ LA h' L j ps' made ∧ ModL L j ps h h') ∧ k + w ≤ cF (ps.map (·.2))) (fun k => cF (ps.map (·.2)) - k) 0
    (le_cons rfl (le_cons rfl (le_cons rfl le_nil))) ⟨⟨ps, rfl, fun p hp => ⟨p, hp, rfl⟩, a1, ModL.of_ext x1⟩, by omega⟩ ?_)
  rintro k h2 ⟨⟨qs, hq, hsub, a2, m2⟩, hk⟩
  have hcn := dnN_c now (ps.map (·.2)) k (by omega)
  have hln := dnN_len now (ps.map (·.2)) k
  rw [← hq] at hcn hln
  simp only [List.length_map] at hln
  refine ai_seq (ai_seq (ai_reg ?_))
  refine st rfl ?_
  refine stC rfl ((count_ok h2 a2 (by omega)).mono ?_)
  rintro v h3 ⟨rfl, x3⟩
  have a3 := a2.ext x3
  have m3 := m2.trans (ModL.of_ext (L := L) (j := j) (ps := ps) x3)
  refine st rfl ?_
  by_cases hlt : w < cF (qs.map (·.2))
  case neg =>
    refine st_v (v2 := .bool false) rfl (congrArg Value.bool (by first | (simp; done) | (simp; omega))) ?_
    refine ai_cond (b := false) rfl (fun hb => by cases hb) (fun _ => ?_)
    refine ai_exit ?_
    exact ⟨rfl, (), le_nil, qs, by rw [hq]; congr 1; omega, hsub, a3, m3⟩
  refine st_v (v2 := .bool true) rfl (congrArg Value.bool (by first | (simp; done) | (simp; omega))) ?_
  refine ai_cond (b := true) rfl (fun _ => ?_) (fun hb => by cases hb)
  refine ai_skip ?_
  refine ai_block ?_
  refine ai_seq (ai_reg ?_)
  refine st rfl ?_
  refine stC rfl ((next_ok h3 a3 (by omega)).mono ?_)
  rintro v h4 ⟨rfl, x4⟩
  have a4 := a3.ext x4
  have m4 := m3.trans (ModL.of_ext (L := L) (j := j) (ps := ps) x4)
  obtain ⟨i, hi, hx, hst⟩ := nx_at (qs.map (·.2)) (by omega)
  have hdn := dnF_at now (qs.map (·.2)) hi hx
  rw [List.length_map] at hx hi
  rw [hx]
  have hu : qs[i]? = some qs[i] := List.getElem?_eq_getElem hi
  rw [List.getElem_map] at hdn
  have hmem : ∃ r ∈ ps, r.1 = qs[i].1 := hsub _ (List.getElem_mem hi)
  generalize qs[i] = p at hu hdn hmem
  refine st rfl ?_
  refine ai_seq (ai_reg ?_)
  iterate 2 refine st rfl ?_
  refine stC rfl ((pod_ok h4 a4 hu).mono ?_)
  rintro v _ ⟨rfl, rfl⟩
  refine st rfl ?_
  refine ai_seq (ai_seq (ai_reg ?_))
  iterate 3 refine st rfl ?_
  refine st_ld rfl (rd_f (x := 2) (a4.cell hu) rfl) ?_
  by_cases hB : p.2.2.2.1 = 0
  · refine st_v (v2 := .bool true) rfl (congrArg Value.bool (by simp [hB])) ?_
    refine ai_cond (b := true) rfl (fun _ => ?_) (fun hb => by cases hb)
    refine ai_seq (ai_reg ?_)
    obtain ⟨s, hg, hs⟩ := a4.row
    iterate 4 refine st rfl ?_
    refine st_ld rfl (rd_f hg rfl) ?_
    iterate 2 refine st rfl ?_
    refine st_w rfl (by omega) ?_
    refine stC rfl ((delete_ok h4 hs (i := i) (by simpa using hi) (by simpa using by omega)).mono ?_)
    rintro v h5 ⟨lr, hn5, hk5⟩
    iterate 2 refine st rfl ?_
    have hjL := a4.sep hi
    have hg5 := (hk5 L (Ne.symm hjL)).trans hg
    have hone : one v = true ∧ v.cells = #[v] := by rcases lr with ⟨rfl, _⟩ | ⟨_, rfl, _⟩ <;> exact ⟨rfl, rfl⟩
    refine st_st (h' := h5.put L ⟨[v, nI made], true, 0⟩) rfl (by rw [hone.2]; rfl) (by rw [hone.2]; exact wr_f hg5 (x := 0) (by simp) hone.1) ?_
    refine ai_exit ?_
    obtain ⟨a6, m6⟩ := a4.del hi lr hn5 hk5
    refine ⟨k + 1, le_cons rfl (le_cons rfl (le_cons rfl le_nil)), ⟨⟨_, ?_, ?_, a6, m4.trans (m6.sub hsub)⟩, by omega⟩, by dsimp only; omega⟩
    · simp only [dnN]
      rw [← hq, hdn, if_pos hB, List.map_append, List.map_take, List.map_drop]
    · intro r hr
      rcases List.mem_append.1 hr with hr | hr
      · exact hsub r (List.mem_of_mem_take hr)
      · exact hsub r (List.mem_of_mem_drop hr)
  · refine st_v (v2 := .bool false) rfl (congrArg Value.bool (by simp [hB])) ?_
    refine ai_cond (b := false) rfl (fun hb => by cases hb) (fun _ => ?_)
    refine ai_skip ?_
    refine ai_reg ?_
    iterate 5 refine st rfl ?_
    have hw1 := wr_f (a4.cell hu) (x := 1) (by simp [p4]) (v := nI 3) rfl
    refine st_st (h' := h4.put p.1 ⟨p4 (p.2.1, 3, p.2.2.2.1, p.2.2.2.2), true, 0⟩) rfl rfl hw1 ?_
    have hP : (h4.put p.1 ⟨p4 (p.2.1, 3, p.2.2.2.1, p.2.2.2.2), true, 0⟩).get p.1 = some ⟨p4 (p.2.1, 3, p.2.2.2.1, p.2.2.2.2), true, 0⟩ := hput_same _ _ _
    iterate 2 refine st rfl ?_
    refine st_st (h' := (h4.put p.1 ⟨p4 (p.2.1, 3, p.2.2.2.1, p.2.2.2.2), true, 0⟩).put p.1 ⟨p4 (p.2.1, 3, p.2.2.2.1, now), true, 0⟩) rfl rfl (wr_f hP (x := 3) (by simp [p4]) rfl) ?_
    rw [put_put]
    obtain ⟨a6, m6⟩ := a4.set hu (p.2.1, 3, p.2.2.2.1, now)
    refine ⟨k + 1, le_cons rfl (le_cons rfl (le_cons rfl le_nil)), ⟨⟨_, ?_, ?_, a6, m4.trans (m6.sub hsub)⟩, by omega⟩, by dsimp only; omega⟩
    · simp only [dnN]
      rw [← hq, hdn, if_neg hB, List.map_set]
    · intro r hr
      rcases List.mem_or_eq_of_mem_set hr with hr | rfl
      · exact hsub r hr
      · exact hmem
end Go.Proofs.YtnebdnbglggdkaaW.Am
