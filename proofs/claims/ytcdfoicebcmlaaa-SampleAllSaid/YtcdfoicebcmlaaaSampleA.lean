/- Contracts of sample.Size and sample.Which over abstract heaps. -/
import Derived.Test.YtcdfoicebcmlaaaAmV
import Derived.Test.YtcdfoicebcmlaaaIrS
namespace Go.Proofs.YtcdfoicebcmlaaaW.Am
open Go Go.RowKit
noncomputable abbrev PP := Go.Proofs.Try.prog

def sizeF (n : Int) : Int := if n < 1 then 0 else if n ≤ 3 then n else if 208 < n then 16 else max 3 ((16 * n + n + 12) / (n + 13))

theorem size_ok (n : Int) (h : Hp) (hn : 0 ≤ n) (hn2 : n ≤ 1000000) : ACall PP 19 [.int .i64 n] h (fun v h' => v = .int .i64 (sizeF n) ∧ h = h') := by
  refine acall Go.Proofs.Try.func19 c19 (by simp [ir19]) ?_
  unfold ir19
  dsimp only
  refine ai_seq (ai_reg ?_)
  refine st rfl ?_
  refine ai_seq (ai_block ?_)
  refine ai_seq (ai_reg ?_)
  iterate 3 refine st rfl ?_
  refine ai_cond (b := decide (n < 1)) rfl ?_ ?_
  · intro hb
    refine ai_seq (ai_reg ?_)
    refine st rfl ?_
    refine ai_ret ?_
    simp only [thenQ_r, blockQ_r]
    refine end_one rfl ⟨?_, rfl⟩
    simp at hb
    simp [sizeF, hb]
  · intro hb
    simp at hb
    refine ai_seq (ai_reg ?_)
    iterate 3 refine st rfl ?_
    refine ai_cond (b := decide (n ≤ 3)) rfl ?_ ?_
    · intro hc
      simp at hc
      refine ai_seq (ai_reg ?_)
      iterate 2 refine st rfl ?_
      refine ai_ret ?_
      simp only [thenQ_r, blockQ_r]
      refine end_one rfl ⟨?_, rfl⟩
      simp [sizeF, hc, show ¬ n < 1 by omega]
    · intro hc
      simp at hc
      refine ai_seq (ai_reg ?_)
      iterate 3 refine st rfl ?_
      refine ai_cond (b := decide (n > 208)) rfl ?_ ?_
      · intro hd
        simp at hd
        refine ai_seq (ai_reg ?_)
        refine st rfl ?_
        refine ai_ret ?_
        simp only [thenQ_r, blockQ_r]
        refine end_one rfl ⟨?_, rfl⟩
        simp [sizeF, hd, show ¬ n < 1 by omega, show ¬ n ≤ 3 by omega]
      · intro hd
        simp at hd
        refine ai_skip ?_
        show AI PP _ _ _ _ _
        refine ai_seq (ai_reg ?_)
        refine st rfl ?_
        refine st_w rfl (by omega) ?_
        refine st rfl ?_
        refine st_w rfl (by omega) ?_
        refine st_w rfl (by omega) ?_
        refine st_w rfl (by omega) ?_
        refine st rfl ?_
        refine st_w rfl (by omega) ?_
        refine st_quo rfl (by omega) (by omega) (by omega) ?_
        refine st rfl ?_
        refine st rfl ?_
        refine ai_ret ?_
        refine end_one rfl ⟨?_, rfl⟩
        have e : 16 * n + n + 13 - 1 = 16 * n + n + 12 := by omega
        simp only [sizeF, show ¬ n < 1 by omega, show ¬ n ≤ 3 by omega, show ¬ 208 < n by omega, if_false, e]
        congr 1
        rw [Int.max_def]
        simp only [if_true]
        split <;> split <;> omega
end Go.Proofs.YtcdfoicebcmlaaaW.Am
