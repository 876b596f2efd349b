/- The size of a sample is at most sixteen, at most the number of pods, at least three of three and more, and it grows with that number: for every number of pods below a million.
Conditions: none beyond the statement's own. -/
import Derived.Test.YtcdfoicebcmlaaaPSampleFewx1
import Derived.Test.YtcdfoicebcmlaaaZ
namespace Go.Proofs.Ytcdfoicebcmlaaa.Pure
open Go.RowKit Go.Proofs.Ytcdfoicebcmlaaa.PSampleFew Go.Proofs.YtcdfoicebcmlaaaW.PrintWords Go.Proofs.YtcdfoicebcmlaaaW.PrintLast Go.Proofs.YtcdfoicebcmlaaaW.PrintMore

theorem few_small : ∀ n : Fin 210, ∃ s t : Int, sample_Size.f ((n : Nat) : Int) = some s ∧ sample_Size.f (((n : Nat) : Int) + 1) = some t ∧ s ≤ 16 ∧ s ≤ ((n : Nat) : Int) ∧ (3 ≤ ((n : Nat) : Int) → 3 ≤ s) ∧ s ≤ t := by
  have h : ∀ n : Fin 210, ((sample_Size.f ((n : Nat) : Int)).bind fun s => (sample_Size.f (((n : Nat) : Int) + 1)).bind fun t => some (decide (s ≤ 16 ∧ s ≤ ((n : Nat) : Int) ∧ (3 ≤ ((n : Nat) : Int) → 3 ≤ s) ∧ s ≤ t))) = some true := by decide +kernel
  intro n
  have h := h n
  cases hs : sample_Size.f ((n : Nat) : Int) with
  | none => rw [hs] at h; cases h
  | some s =>
    rw [hs] at h
    cases ht : sample_Size.f (((n : Nat) : Int) + 1) with
    | none => rw [ht] at h; cases h
    | some t =>
      rw [ht] at h
      simp only [Option.bind_some, Option.some.injEq, decide_eq_true_eq] at h
      exact ⟨s, t, rfl, rfl, h⟩

theorem few_great (n : Int) (h : 208 < n) : sample_Size.f n = some 16 := by
  unfold sample_Size.f
  rw [if_neg (by omega), if_neg (by omega), if_pos (by omega)]

theorem few_any (n : Int) (h0 : 0 ≤ n) : ∃ s t : Int, sample_Size.f n = some s ∧ sample_Size.f (n + 1) = some t ∧ s ≤ 16 ∧ s ≤ n ∧ (3 ≤ n → 3 ≤ s) ∧ s ≤ t := by
  by_cases h : n < 210
  · obtain ⟨m, rfl⟩ := Int.eq_ofNat_of_zero_le h0
    exact few_small ⟨m, by omega⟩
  · exact ⟨16, 16, few_great _ (by omega), few_great _ (by omega), by omega, by omega, fun _ => by omega, by omega⟩

theorem few_told : spinnakerlaw10_told.f 30 = some true := by decide +kernel

theorem SampleFew : spinnakerlaw10_SampleFew.Pure := by
  intro a0 _
  refine ⟨30, ?_⟩
  unfold spinnakerlaw10_SampleFew.f
  obtain ⟨m, hm, h0, h1⟩ := Z.pick a0 1000000 (by omega) (by omega)
  rw [hm]
  obtain ⟨s, t, hs, ht, h2, h3, h4, h5⟩ := few_any m h0
  have hw : wrap64 (m + 1) = m + 1 := Z.wrap_small (by omega) (by omega)
  rw [hs, few_told, hw, ht]
  simp only [Option.bind_some, if_true]
  rw [if_pos h2, if_pos h3]
  by_cases h6 : m < 3
  · rw [if_pos h6]; simp [h5]
  · rw [if_neg h6, if_pos (h4 (by omega))]; simp [h5]

end Go.Proofs.Ytcdfoicebcmlaaa.Pure
