/- The closed check of the law's package: sample. -/
import Derived.Test.YtcdfoicebcmlaaaSampleB
namespace Go.Proofs.YtcdfoicebcmlaaaW.Am
open Go Go.RowKit

theorem which_nil (h : Hp) : ACall PP 21 [.slice none 0 0, .int .i64 0, .int .i64 0] h (fun v h' => v = .slice none 0 0 ∧ h = h') := by
  refine acall Go.Proofs.Try.func21 c21 (by simp [ir21]) ?_
  unfold ir21
  dsimp only
  refine ai_seq (ai_reg ?_)
  refine st rfl ?_
  refine ai_seq (ai_reg ?_)
  iterate 3 refine st rfl ?_
  refine ai_seq (ai_reg ?_)
  refine st rfl ?_
  refine stC rfl ((size_ok 0 h (by omega) (by omega)).mono ?_)
  rintro v h' ⟨rfl, rfl⟩
  refine st rfl ?_
  refine ai_seq (ai_seq (ai_reg ?_))
  refine st rfl ?_
  refine st_v (v2 := .bool false) rfl rfl ?_
  refine st rfl ?_
  iterate 3 refine stF rfl rfl ?_
  refine st rfl ?_
  refine ai_cond (b := false) rfl (fun hb => by cases hb) fun _ => ai_skip ?_
  refine ai_seq (ai_reg ?_)
  refine st rfl ?_
  refine ai_seq (ai_seq (ai_reg ?_))
  iterate 2 refine st rfl ?_
  refine ai_block (ai_loopE (γ := Unit) (fun _ => [(9, .slice none 0 0), (26, .int .i64 0), (27, .int .i64 0)]) (fun _ h' => h = h') (fun _ => 0) () (le_cons rfl (le_cons rfl (le_cons rfl le_nil))) rfl ?_)
  rintro _ _ rfl
  refine ai_seq (ai_reg ?_)
  refine st rfl ?_
  refine ai_seq (ai_cond (b := false) rfl (fun hb => by cases hb) fun _ => ?_)
  refine ai_exit ?_
  simp only [thenQ_x, roundE, blockQ_x, if_true, thenQ_n]
  refine ai_seq (ai_reg ?_)
  iterate 2 refine st rfl ?_
  refine ai_ret ?_
  exact end_one rfl ⟨rfl, rfl⟩

theorem told_ok (h : Hp) : ACall PP 20 [] h (fun v h' => v = .bool true ∧ Ext h h') := by
  refine acall Go.Proofs.Try.func20 c20 (by simp [ir20]) ?_
  unfold ir20
  dsimp only
  refine ai_seq (ai_reg ?_)
  refine st rfl ?_
  refine ai_seq (ai_reg ?_)
  refine st (v := .slice (some ⟨h.nx, 0, none⟩) 2 2) (h' := h.new ⟨[.int .i64 5, .int .i64 6], true, 1⟩) rfl ?_
  refine stC rfl ((which_ok [5, 6] 1 1 _ (i := h.nx) (o := 0) (by simp [Hp.new]) (by simp [Hp.rd, Hp.new]) (by simp) (by simp)).mono ?_)
  rintro l h1 ⟨hx1, how1⟩
  have hw1 : whichF [5, 6] 1 1 = [6] := by decide
  rw [hw1] at how1
  obtain ⟨hl, _⟩ | ⟨i1, hi1, hi2, rfl, hg1, _, _⟩ := how1
  · simp at *
  refine st rfl ?_
  refine ai_seq (ai_reg ?_)
  refine stC rfl ((size_ok 0 h1 (by omega) (by omega)).mono ?_)
  rintro v h' ⟨rfl, rfl⟩
  refine st_v (v2 := .bool true) rfl (congrArg Value.bool (by decide)) ?_
  refine st rfl ?_
  refine stCT rfl rfl rfl ((size_ok 3 h1 (by omega) (by omega)).mono ?_)
  rintro v h' ⟨rfl, rfl⟩
  refine stT (v := .bool true) (h' := h1) rfl rfl (o_v rfl (congrArg Value.bool (by decide))) ?_
  iterate 2 refine st rfl ?_
  refine stCT rfl rfl rfl ((size_ok 13 h1 (by omega) (by omega)).mono ?_)
  rintro v h' ⟨rfl, rfl⟩
  refine stT (v := .bool true) (h' := h1) rfl rfl (o_v rfl (congrArg Value.bool (by decide))) ?_
  iterate 2 refine st rfl ?_
  refine stCT rfl rfl rfl ((size_ok 1000000 h1 (by omega) (by omega)).mono ?_)
  rintro v h' ⟨rfl, rfl⟩
  refine stT (v := .bool true) (h' := h1) rfl rfl (o_v rfl (congrArg Value.bool (by decide))) ?_
  iterate 2 refine st rfl ?_
  iterate 2 refine stT rfl rfl rfl ?_
  refine stT (v := .bool true) (h' := h1) rfl rfl (o_v rfl (congrArg Value.bool (by decide))) ?_
  iterate 2 refine st rfl ?_
  refine stT rfl rfl rfl ?_
  refine stT rfl rfl (o_iad rfl (by decide)) ?_
  refine stT (v := .int .i64 6) rfl rfl (o_ld rfl (by simp [Hp.rd, hg1])) ?_
  refine stT (v := .bool true) (h' := h1) rfl rfl (o_v rfl (congrArg Value.bool (by decide))) ?_
  iterate 2 refine st rfl ?_
  refine stCT rfl rfl rfl ((which_nil h1).mono ?_)
  rintro v h' ⟨rfl, rfl⟩
  refine stT rfl rfl rfl ?_
  refine stT (v := .bool true) (h' := h1) rfl rfl (o_v rfl (congrArg Value.bool (by decide))) ?_
  iterate 2 refine st rfl ?_
  refine stT (v := .slice (some ⟨h1.nx, 0, none⟩) 3 3) (h' := h1.new ⟨[.int .i64 1, .int .i64 2, .int .i64 3], true, 1⟩) rfl rfl rfl ?_
  refine stCT rfl rfl rfl ((which_ok [1, 2, 3] 0 (-5) _ (i := h1.nx) (o := 0) (by simp [Hp.new]) (by simp [Hp.rd, Hp.new]) (by simp) (by simp)).mono ?_)
  rintro l h2 ⟨hx2, how2⟩
  have hw2 : whichF [1, 2, 3] 0 (-5) = [1, 2, 3] := by decide
  rw [hw2] at how2
  obtain ⟨hl, _⟩ | ⟨i2, _, _, rfl, _⟩ := how2
  · simp at *
  refine stT rfl rfl rfl ?_
  refine stT (v := .bool true) (h' := h2) rfl rfl (o_v rfl (congrArg Value.bool (by decide))) ?_
  iterate 2 refine st rfl ?_
  refine ai_ret ?_
  exact end_one rfl ⟨rfl, ((Ext.new h _).trans hx1).trans ((Ext.new h1 _).trans hx2)⟩
end Go.Proofs.YtcdfoicebcmlaaaW.Am
