/- Pods over abstract heaps: Scale where it is refused. -/
import Derived.Test.YtnebdnbglggdkaaLifeK
namespace Go.Proofs.YtnebdnbglggdkaaW.Am
open Go Go.RowKit
theorem scale_nil (h : Hp) (w t : Int) : ACall PP 22 [.pointer none, nI w, nI t] h (fun v h' => v = nI 8 ∧ h = h') := by
  refine acall Go.Proofs.Try.func22 c22 (by simp [ir22]) ?_
  unfold ir22
  dsimp only
  refine ai_seq (ai_reg ?_)
  refine st rfl ?_
  refine ai_seq (ai_block ?_)
  refine ai_seq (ai_reg ?_)
  iterate 3 refine st rfl ?_
  refine ai_cond (b := true) rfl (fun _ => ?_) (fun hb => by cases hb)
  refine ai_seq (ai_reg ?_)
  refine st rfl ?_
  refine ai_ret ?_
  simp only [thenQ_r, blockQ_r]
  exact end_one rfl ⟨rfl, rfl⟩
theorem scale_neg (h : Hp) {L : Nat} {w t : Int} (hw : w < 0) : ACall PP 22 [ptr L, nI w, nI t] h (fun v h' => v = nI 1 ∧ h = h') := by
  refine acall Go.Proofs.Try.func22 c22 (by simp [ir22]) ?_
  unfold ir22
  dsimp only
  refine ai_seq (ai_reg ?_)
  refine st rfl ?_
  refine ai_seq (ai_block ?_)
  refine ai_seq (ai_reg ?_)
  iterate 3 refine st rfl ?_
  refine ai_cond (b := false) rfl (fun hb => by cases hb) (fun _ => ?_)
  refine ai_seq (ai_reg ?_)
  refine st rfl ?_
  refine st_v (v2 := .bool true) rfl (congrArg Value.bool (by simp; omega)) ?_
  refine st rfl ?_
  iterate 2 refine stF rfl rfl ?_
  iterate 2 refine st rfl ?_
  iterate 2 refine stF rfl rfl ?_
  iterate 2 refine st rfl ?_
  iterate 2 refine stF rfl rfl ?_
  iterate 2 refine st rfl ?_
  refine ai_cond (b := true) rfl (fun _ => ?_) (fun hb => by cases hb)
  refine ai_seq (ai_reg ?_)
  refine st rfl ?_
  refine ai_ret ?_
  simp only [thenQ_r, blockQ_r]
  exact end_one rfl ⟨rfl, rfl⟩
end Go.Proofs.YtnebdnbglggdkaaW.Am
