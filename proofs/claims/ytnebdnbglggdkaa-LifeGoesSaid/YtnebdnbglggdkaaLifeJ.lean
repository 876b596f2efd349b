/- Pods over abstract heaps: Crash of one that is there. -/
import Derived.Test.YtnebdnbglggdkaaLifeI
namespace Go.Proofs.YtnebdnbglggdkaaW.Am
open Go Go.RowKit
set_option maxHeartbeats 1000000 in
theorem crash_ok (h : Hp) {L j : Nat} {ps : List (Nat × Pd)} {made : Int} (a : LA h L j ps made) (hb : ps.length ≤ 1000) {k : Nat} {p : Nat × Pd} (hk : ps[k]? = some p) :
    ACall PP 25 [ptr L, nI k] h (fun v h' => v = .tuple #[.agg ⟨p4 p.2⟩, nI 0] ∧ LA h' L j (ps.take k ++ ps.drop (k + 1)) made ∧ ModL L j ps h h') := by
  have hkl := (List.getElem?_eq_some_iff.1 hk).1
  have hLl := a.ll
  have hjl := a.jl
  have hpl := (a.pods p (List.mem_of_getElem? hk)).2.1
  have a1 := a.ext (Ext.new h ⟨p4 (0, 0, 0, 0), true, 0⟩)
  have hO : (h.new ⟨p4 (0, 0, 0, 0), true, 0⟩).get h.nx = some ⟨p4 (0, 0, 0, 0), true, 0⟩ := by simp [Hp.new]
  refine acall Go.Proofs.Try.func25 c25 (by simp [ir25]) ?_
  unfold ir25
  dsimp only
  refine ai_seq (ai_reg ?_)
  refine st (v := ptr h.nx) (h' := h.new ⟨p4 (0, 0, 0, 0), true, 0⟩) rfl ?_
  refine st rfl ?_
  have x1 := Ext.new h ⟨p4 (0, 0, 0, 0), true, 0⟩
  have hnx : h.nx < (h.new ⟨p4 (0, 0, 0, 0), true, 0⟩).nx := by simp [Hp.new]
  generalize h.new ⟨p4 (0, 0, 0, 0), true, 0⟩ = h1 at *
  obtain ⟨s, hg, hs⟩ := a1.row
  have hlen := hs.len
  refine ai_seq (ai_block ?_)
  refine ai_seq (ai_reg ?_)
  iterate 3 refine st rfl ?_
  refine ai_cond (b := false) rfl (fun hb => by cases hb) (fun _ => ?_)
  refine ai_seq (ai_reg ?_)
  refine st rfl ?_
  refine st_v (v2 := .bool false) rfl (congrArg Value.bool (by simp)) ?_
  refine st rfl ?_
  iterate 4 refine stT rfl rfl rfl ?_
  refine stT rfl rfl (o_ld rfl (rd_f (x := 0) hg rfl)) ?_
  refine stT (v := nI ps.length) (h' := h1) rfl rfl (by obtain ⟨x, c, rfl⟩ := hlen; rw [List.length_map]; rfl) ?_
  refine stT (v := .bool false) rfl rfl (o_v rfl (congrArg Value.bool (by simp; omega))) ?_
  iterate 2 refine st rfl ?_
  refine ai_cond (b := false) rfl (fun hb => by cases hb) (fun _ => ai_skip ?_)
  refine ai_seq (ai_reg ?_)
  iterate 2 refine st rfl ?_
  refine stC rfl ((pod_ok h1 a1 hk).mono ?_)
  rintro v _ ⟨rfl, rfl⟩
  refine st rfl ?_
  refine st_ldn (us := p4 p.2) rfl (by simp only [Hp.rd, a1.cell hk]; rfl) ?_
  refine st (v := ptr h1.nx) (h' := h1.new ⟨[nI 0, nI 0, nI 0, nI 0], true, 0⟩) rfl ?_
  refine st_st (h' := (h1.new ⟨[nI 0, nI 0, nI 0, nI 0], true, 0⟩).put h1.nx ⟨p4 p.2, true, 0⟩) rfl rfl (copy_wr h1 p.2) ?_
  have x2 := copy_ext h1 p.2
  have hC : ((h1.new ⟨[nI 0, nI 0, nI 0, nI 0], true, 0⟩).put h1.nx ⟨p4 p.2, true, 0⟩).get h1.nx = some ⟨p4 p.2, true, 0⟩ := hput_same _ _ _
  generalize (h1.new ⟨[nI 0, nI 0, nI 0, nI 0], true, 0⟩).put h1.nx ⟨p4 p.2, true, 0⟩ = h2 at x2 hC ⊢
  have a2 := a1.ext x2
  have hg2 := (x2.2 L a1.ll).trans hg
  have hs2 : LR h2 L j s (ps.map fun p => pE p.1) := hs.keep fun _ => x2.2 j a1.jl
  have hO2 := (x2.2 h.nx hnx).trans hO
  refine ai_seq (ai_reg ?_)
  iterate 4 refine st rfl ?_
  refine st_ld rfl (rd_f hg2 rfl) ?_
  iterate 2 refine st rfl ?_
  refine st_w rfl (by omega) ?_
  refine stC rfl ((delete_ok h2 hs2 (i := k) (by simpa using hkl) (by simpa using hb)).mono ?_)
  rintro w h3 ⟨lr, hn3, hk3⟩
  iterate 2 refine st rfl ?_
  have hjL := a2.sep hkl
  have hg3 := (hk3 L (Ne.symm hjL)).trans hg2
  have hone : one w = true ∧ w.cells = #[w] := by rcases lr with ⟨rfl, _⟩ | ⟨_, rfl, _⟩ <;> exact ⟨rfl, rfl⟩
  refine st_st (h' := h3.put L ⟨[w, nI made], true, 0⟩) rfl (by rw [hone.2]; rfl) (by rw [hone.2]; exact wr_f hg3 (x := 0) (by simp) hone.1) ?_
  obtain ⟨a4, m4⟩ := a2.del hkl lr hn3 hk3
  have hnx1 : h1.nx ≠ L ∧ h1.nx ≠ j := by have := a1.ll; have := a1.jl; omega
  have hC4 : (h3.put L ⟨[w, nI made], true, 0⟩).get h1.nx = some ⟨p4 p.2, true, 0⟩ := (hput_ne _ _ hnx1.1).trans ((hk3 _ hnx1.2).trans hC)
  have hO4 : (h3.put L ⟨[w, nI made], true, 0⟩).get h.nx = some ⟨p4 (0, 0, 0, 0), true, 0⟩ := (hput_ne _ _ (by omega)).trans ((hk3 _ (by omega)).trans hO2)
  have hn4 : (h3.put L ⟨[w, nI made], true, 0⟩).nx = h2.nx := by rw [hput_nx, hn3]
  generalize h3.put L ⟨[w, nI made], true, 0⟩ = h4 at a4 m4 hC4 hO4 hn4 ⊢
  refine ai_seq (ai_reg ?_)
  refine st_ldn (us := p4 p.2) rfl (by simp only [Hp.rd, hC4]; rfl) ?_
  refine st_st (h' := h4.put h.nx ⟨p4 p.2, true, 0⟩) rfl rfl (by unfold Hp.wr; rw [hO4]; rfl) ?_
  refine st rfl ?_
  refine ai_ret ?_
  have hx2n := x2.1
  have hx1n := x1.1
  refine end_cell rfl (hput_same _ _ _) rfl ⟨rfl, ?_, by rw [hput_nx]; omega, fun q q1 q2 q3 q4 => ?_⟩
  · obtain ⟨b1, b2, ⟨s4, b3, b4⟩, b5, b6⟩ := a4
    refine ⟨b1, b2, ⟨s4, (hput_ne _ _ (by omega)).trans b3, b4.keep fun _ => hput_ne _ _ (by omega)⟩, fun r hr => ?_, b6⟩
    have hr1 := b5 r hr
    have hrl : r.1 < h.nx := by
      have : r ∈ ps := by
        rcases List.mem_append.1 hr with hr | hr
        · exact List.mem_of_mem_take hr
        · exact List.mem_of_mem_drop hr
      exact (a.pods r this).2.1
    exact ⟨(hput_ne _ _ (by omega)).trans hr1.1, hr1.2⟩
  · exact (hput_ne _ _ (by omega)).trans ((m4.2 q (by omega) q2 q3 q4).trans ((x2.2 q (by omega)).trans (x1.2 q q1)))
end Go.Proofs.YtnebdnbglggdkaaW.Am
