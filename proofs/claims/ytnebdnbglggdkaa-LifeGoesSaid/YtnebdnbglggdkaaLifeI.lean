/- Pods over abstract heaps: Crash. -/
import Derived.Test.YtnebdnbglggdkaaLifeH
namespace Go.Proofs.YtnebdnbglggdkaaW.Am
open Go Go.RowKit
theorem end_cell {t u : Nat} {R : Value → Hp → Prop} {env : Env} {h : Hp} {i : Nat} {p : Pd} {w : Value} (e : env.get t = some (ptr i)) (hg : h.get i = some ⟨p4 p, true, 0⟩) (e2 : env.get u = some w) (r : R (.tuple #[.agg ⟨p4 p⟩, w]) h) : endQ PP [.cell t 25, .tmp u] R .ret env h := by
  refine ⟨[.agg ⟨p4 p⟩, w], ?_, r⟩
  have hi : ∃ d ti, PP.underlying 25 = some d ∧ PP.info? 25 = some ti ∧ isAggD d = true ∧ ti.size = 4 := by
    have hm : (PP.info? 25).map (·.size) = some 4 := by kernel_rfl
    cases hti : PP.info? 25 with
    | none => rw [hti] at hm; cases hm
    | some ti =>
      rw [hti] at hm
      refine ⟨_, ti, Go.Proofs.Try.underlying25, rfl, rfl, ?_⟩
      exact Option.some.inj hm
  obtain ⟨d, ti, h1, h2, h3, h4⟩ := hi
  have hr : h.rd i 0 4 = some (p4 p) := by unfold Hp.rd; simp only [hg]; rfl
  simp only [resAll, resOne, e, h1, h2, h3, if_true, h4, hr, Option.map_some, e2]
theorem crash_no (h : Hp) {L j : Nat} {ps : List (Nat × Pd)} {made k : Int} (a : LA h L j ps made) (hk : k < 0 ∨ (ps.length : Int) ≤ k) : ACall PP 25 [ptr L, nI k] h (fun v h' => v = .tuple #[.agg ⟨p4 (0, 0, 0, 0)⟩, nI 7] ∧ Ext h h') := by
  have a1 := a.ext (Ext.new h ⟨p4 (0, 0, 0, 0), true, 0⟩)
  obtain ⟨s, hg, hs⟩ := a1.row
  have hO : (h.new ⟨p4 (0, 0, 0, 0), true, 0⟩).get h.nx = some ⟨p4 (0, 0, 0, 0), true, 0⟩ := by simp [Hp.new]
  refine acall Go.Proofs.Try.func25 c25 (by simp [ir25]) ?_
  unfold ir25
  dsimp only
  refine ai_seq (ai_reg ?_)
  refine st (v := ptr h.nx) (h' := h.new ⟨p4 (0, 0, 0, 0), true, 0⟩) rfl ?_
  refine st rfl ?_
  have x1 := Ext.new h ⟨p4 (0, 0, 0, 0), true, 0⟩
  have hnx : h.nx < (h.new ⟨p4 (0, 0, 0, 0), true, 0⟩).nx := by simp [Hp.new]
  generalize h.new ⟨p4 (0, 0, 0, 0), true, 0⟩ = h1 at *
  have hx2 : Ext h (h1.put h.nx ⟨p4 (0, 0, 0, 0), true, 0⟩) := ⟨x1.1, fun q hq => (hput_ne _ _ (by omega)).trans (x1.2 q hq)⟩
  refine ai_seq (ai_block ?_)
  refine ai_seq (ai_reg ?_)
  iterate 3 refine st rfl ?_
  refine ai_cond (b := false) rfl (fun hb => by cases hb) (fun _ => ?_)
  refine ai_seq (ai_reg ?_)
  refine st rfl ?_
  have hwr : h1.wr h.nx 0 (p4 (0, 0, 0, 0)) = some (h1.put h.nx ⟨p4 (0, 0, 0, 0), true, 0⟩) := by
    unfold Hp.wr
    rw [hO]
    rfl
  by_cases h0 : k < 0
  · refine st_v (v2 := .bool true) rfl (congrArg Value.bool (by simp; omega)) ?_
    refine st rfl ?_
    iterate 7 refine stF rfl rfl ?_
    iterate 2 refine st rfl ?_
    refine ai_cond (b := true) rfl (fun _ => ?_) (fun hb => by cases hb)
    refine ai_seq (ai_reg ?_)
    refine st (v := .agg ⟨p4 (0, 0, 0, 0)⟩) (h' := h1) rfl ?_
    refine st_st rfl rfl hwr ?_
    refine st rfl ?_
    refine ai_ret ?_
    simp only [thenQ_r, blockQ_r]
    exact end_cell rfl (hput_same _ _ _) rfl ⟨rfl, hx2⟩
  · have hk2 : (ps.length : Int) ≤ k := hk.resolve_left h0
    obtain ⟨x, c, e⟩ := hs.len
    subst e
    rw [List.length_map] at hg
    refine st_v (v2 := .bool false) rfl (congrArg Value.bool (by simp; omega)) ?_
    refine st rfl ?_
    iterate 4 refine stT rfl rfl rfl ?_
    refine stT rfl rfl (o_ld rfl (rd_f (x := 0) hg rfl)) ?_
    refine stT rfl rfl rfl ?_
    refine stT (v := .bool true) rfl rfl (o_v rfl (congrArg Value.bool (by simp; omega))) ?_
    iterate 2 refine st rfl ?_
    refine ai_cond (b := true) rfl (fun _ => ?_) (fun hb => by cases hb)
    refine ai_seq (ai_reg ?_)
    refine st (v := .agg ⟨p4 (0, 0, 0, 0)⟩) (h' := h1) rfl ?_
    refine st_st rfl rfl hwr ?_
    refine st rfl ?_
    refine ai_ret ?_
    simp only [thenQ_r, blockQ_r]
    exact end_cell rfl (hput_same _ _ _) rfl ⟨rfl, hx2⟩
end Go.Proofs.YtnebdnbglggdkaaW.Am
