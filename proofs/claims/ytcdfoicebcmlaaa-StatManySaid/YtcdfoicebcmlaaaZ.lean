/- Small facts on whole numbers that the statements' own bounds are made of ('int(uint(n) % m)'), for the pure texts of this seat.
Conditions: each fact's own. -/
import Derived.RowKit
import Derived.WalkKit
namespace Go.Proofs.Ytcdfoicebcmlaaa.Z
open Go.RowKit

theorem u64_wrap (x : Int) : IntKind.u64.wrap x = x % 18446744073709551616 := by
  simp [IntKind.wrap, IntKind.bits, IntKind.signed]

theorem wrap_small {n : Int} (h0 : -9223372036854775808 ≤ n) (h1 : n < 9223372036854775808) : wrap64 n = n := by
  unfold wrap64; omega

/-- 'int(uint(x) % m)' lies from 0 to m - 1. -/
theorem pick (x m : Int) (h0 : 0 < m) (h1 : m ≤ 4611686018427387904) : ∃ r, wrap64 (Int.tmod (IntKind.u64.wrap x) m) = r ∧ 0 ≤ r ∧ r < m := by
  rw [u64_wrap]
  have hx : 0 ≤ x % 18446744073709551616 := Int.emod_nonneg _ (by decide)
  rw [Int.tmod_eq_emod_of_nonneg hx]
  have h2 := Int.emod_nonneg (x % 18446744073709551616) (show m ≠ 0 by omega)
  have h3 := Int.emod_lt_of_pos (x % 18446744073709551616) h0
  exact ⟨_, wrap_small (by omega) (by omega), h2, h3⟩

end Go.Proofs.Ytcdfoicebcmlaaa.Z
