/- Each kind of event has its bounds: for any kind, any number near a bound, a text or not.
Conditions: none beyond the statement's own. -/
import Derived.Test.YtcdfoicebcmlaaaPEventx5
import Derived.Test.YtcdfoicebcmlaaaEventF
set_option linter.unusedSimpArgs false
set_option linter.unusedVariables false
namespace Go.Proofs.Ytcdfoicebcmlaaa.Pure
open Go.RowKit Go.Proofs.Ytcdfoicebcmlaaa.PEvent Go.Proofs.YtcdfoicebcmlaaaW.PrintWords Go.Proofs.YtcdfoicebcmlaaaW.PrintLast Go.Proofs.YtcdfoicebcmlaaaW.PrintMore
open Go.Proofs.Ytcdfoicebcmlaaa.EventF

theorem bounds_all : ∀ (i : Fin 8) (j : Fin 11) (b : Bool),
    spinnakerlaw23_EventBounds.j0 40 b (((i : Nat) : Int) - 1) (rd [(-1), 0, 1, 50, 51, 100, 101, 200, 201, 999, 1000] ((j : Nat) : Int)) (((i : Nat) : Int) - 1) (rd [(-1), 0, 1, 50, 51, 100, 101, 200, 201, 999, 1000] ((j : Nat) : Int)) (if b = true then (⟨#[97]⟩ : ByteArray) else (⟨#[]⟩ : ByteArray)) = some true := by
  decide +kernel

theorem tmod_pick (x m : Int) (h0 : 0 < m) : ∃ r, Int.tmod (IntKind.u64.wrap x) m = r ∧ 0 ≤ r ∧ r < m := by
  rw [Z.u64_wrap]
  have hx : 0 ≤ x % 18446744073709551616 := Int.emod_nonneg _ (by decide)
  rw [Int.tmod_eq_emod_of_nonneg hx]
  exact ⟨_, rfl, Int.emod_nonneg _ (by omega), Int.emod_lt_of_pos _ h0⟩

theorem EventBounds : spinnakerlaw23_EventBounds.Pure := by
  intro a0 a1 b _ _
  refine ⟨40, ?_⟩
  unfold spinnakerlaw23_EventBounds.f
  obtain ⟨i, hi, i0, i1⟩ := Z.pick a0 8 (by omega) (by omega)
  obtain ⟨j, hj, j0, j1⟩ := tmod_pick a1 11 (by omega)
  obtain ⟨m, rfl⟩ := Int.eq_ofNat_of_zero_le i0
  obtain ⟨n, rfl⟩ := Int.eq_ofNat_of_zero_le j0
  rw [hi, hj, Z.wrap_small (n := (m : Int) - 1) (by omega) (by omega)]
  simp only [Option.bind_some]
  rw [if_pos j0, if_pos (by simpa using j1)]
  have h := bounds_all ⟨m, by omega⟩ ⟨n, by omega⟩ b
  cases b with
  | true => rw [if_pos rfl]; simpa using h
  | false => rw [if_neg (by simp)]; simpa using h

end Go.Proofs.Ytcdfoicebcmlaaa.Pure
