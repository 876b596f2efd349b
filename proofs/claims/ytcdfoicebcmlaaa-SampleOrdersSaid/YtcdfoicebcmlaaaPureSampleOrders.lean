/- Who is asked stands as the numbers do, round about, and the first round begins with the first: for any number of pods up to 60 and any round.
Conditions: none beyond the statement's own. -/
import Derived.Test.YtcdfoicebcmlaaaPSamplex2
import Derived.Test.YtcdfoicebcmlaaaSampleF
set_option linter.unusedSimpArgs false
set_option linter.unusedVariables false
namespace Go.Proofs.Ytcdfoicebcmlaaa.Pure
open Go.RowKit Go.Proofs.Ytcdfoicebcmlaaa.PSample Go.Proofs.YtcdfoicebcmlaaaW.PrintWords Go.Proofs.YtcdfoicebcmlaaaW.PrintLast Go.Proofs.YtcdfoicebcmlaaaW.PrintMore
open Go.Proofs.Ytcdfoicebcmlaaa.SampleF

namespace Orders
def ids (n : Nat) : List Int := (List.range n).map fun i : Nat => 7 * (i : Int) + 3
theorem ids_length (n : Nat) : (ids n).length = n := by simp [ids]
theorem ids_rd (n : Nat) (j : Int) (h0 : 0 ≤ j) (h1 : j < (n : Int)) : rd (ids n) j = 7 * j + 3 := by
  obtain ⟨m, rfl⟩ := Int.eq_ofNat_of_zero_le h0
  have hm : m < n := by omega
  rw [rd, List.getD_eq_getElem?_getD]
  simp [ids, hm]

/-- The second loop: one behind the other. -/
theorem l1_walk (n : Nat) (hn : n ≤ 60) (b : Int) (hb0 : 0 ≤ b) (hb1 : b ≤ 1000000) (s : Nat) (hs : s ≤ n) (K : Nat)
    (hfin : ∀ k, K ≤ k → ∀ i, (s : Int) ≤ i → spinnakerlaw10_SampleOrders.l1 (k + 1) (n : Int) (ids n) (asks (ids n) b 0 s) i = some true) (d : Nat) :
    ∀ (k : Nat) (i : Int), 1 ≤ i → i + d = max (s : Int) 1 → K + d < k → spinnakerlaw10_SampleOrders.l1 k (n : Int) (ids n) (asks (ids n) b 0 s) i = some true := by
  induction d with
  | zero =>
    intro k i h0 h1 hk
    obtain ⟨k, rfl⟩ : ∃ m, k = m + 1 := ⟨k - 1, by omega⟩
    exact hfin k (by omega) i (by omega)
  | succ d ih =>
    intro k i h0 h1 hk
    obtain ⟨k, rfl⟩ : ∃ m, k = m + 1 := ⟨k - 1, by omega⟩
    have hlt : i < (s : Int) := by omega
    have hn0 : (0 : Int) < (n : Int) := by omega
    simp only [spinnakerlaw10_SampleOrders.l1]
    have hw1 : wrap64 (i - 1) = i - 1 := Z.wrap_small (by omega) (by omega)
    have hw2 : wrap64 (i + 1) = i + 1 := Z.wrap_small (by omega) (by omega)
    have hw3 : wrap64 (wrap64 (7 * wrap64 ((n : Int) - 1)) + 3) = 7 * (n : Int) - 4 := by
      rw [Z.wrap_small (n := (n : Int) - 1) (by omega) (by omega), Z.wrap_small (n := 7 * ((n : Int) - 1)) (by omega) (by omega), Z.wrap_small (by omega) (by omega)]; omega
    rw [asks_length, hw1, hw2, hw3, if_pos hlt, if_pos (by omega), if_pos (by omega)]
    have p0 := Int.emod_nonneg (b + (i - 1)) (show (n : Int) ≠ 0 by omega)
    have p1 := Int.emod_lt_of_pos (b + (i - 1)) hn0
    have q0 := Int.emod_nonneg (b + i) (show (n : Int) ≠ 0 by omega)
    have q1 := Int.emod_lt_of_pos (b + i) hn0
    have e1 : rd (asks (ids n) b 0 s) (i - 1) = 7 * ((b + (i - 1)) % (n : Int)) + 3 := by
      rw [asks_rd _ _ _ _ (by omega) (by omega), ids_length, ids_rd n _ p0 p1]
    have e2 : rd (asks (ids n) b 0 s) i = 7 * ((b + i) % (n : Int)) + 3 := by
      rw [asks_rd _ _ _ _ (by omega) (by omega), ids_length, ids_rd n _ q0 q1]
    have hstep : (b + i) % (n : Int) = if (b + (i - 1)) % (n : Int) = (n : Int) - 1 then 0 else (b + (i - 1)) % (n : Int) + 1 := by
      have h1 : (b + i) % (n : Int) = ((b + (i - 1)) % (n : Int) + 1) % (n : Int) := by
        rw [Int.emod_add_emod]; congr 1; omega
      rw [h1]
      split
      · rename_i h; rw [h, show (n : Int) - 1 + 1 = (n : Int) by omega]; simp
      · exact Int.emod_eq_of_lt (by omega) (by omega)
    rw [e1, e2]
    have hnext := ih k (i + 1) (by omega) (by omega) (by omega)
    generalize (b + (i - 1)) % (n : Int) = p at *
    by_cases hp : p = (n : Int) - 1
    · rw [if_pos hp] at hstep
      rw [if_pos (by omega), if_pos (by omega), if_pos (by omega)]
      exact hnext
    · rw [if_neg hp] at hstep
      rw [if_neg (by omega), if_pos (by omega), Z.wrap_small (n := 7 * p + 3 + 7) (by omega) (by omega), if_pos (by omega)]
      exact hnext

theorem l0_walk (n : Nat) (hn : n ≤ 60) (x1 : Int) (d : Nat) : ∀ (k : Nat) (i : Nat), i + d = n → d < k → ∃ k', k = k' + d ∧
    spinnakerlaw10_SampleOrders.l0 k x1 (n : Int) (ids i) (i : Int) = spinnakerlaw10_SampleOrders.l0 k' x1 (n : Int) (ids n) (n : Int) := by
  induction d with
  | zero =>
    intro k i h1 hk
    obtain rfl : i = n := by omega
    exact ⟨k, by omega, rfl⟩
  | succ d ih =>
    intro k i h1 hk
    obtain ⟨k, rfl⟩ : ∃ m, k = m + 1 := ⟨k - 1, by omega⟩
    obtain ⟨k', hk', h2⟩ := ih k (i + 1) (by omega) (by omega)
    refine ⟨k', by omega, ?_⟩
    rw [← h2]
    conv => lhs; unfold spinnakerlaw10_SampleOrders.l0
    have hw1 : wrap64 (wrap64 (7 * (i : Int)) + 3) = 7 * (i : Int) + 3 := by
      rw [Z.wrap_small (n := 7 * (i : Int)) (by omega) (by omega), Z.wrap_small (by omega) (by omega)]
    rw [if_pos (by omega), if_pos (by rw [ids_length]; omega), hw1, Z.wrap_small (n := (i : Int) + 1) (by omega) (by omega)]
    rw [show ids (i + 1) = ids i ++ [7 * (i : Int) + 3] by simp [ids, List.range_succ], show ((i + 1 : Nat) : Int) = (i : Int) + 1 by omega]
end Orders

open Orders in
theorem SampleOrders : spinnakerlaw10_SampleOrders.Pure := by
  intro a0 a1 _ _
  obtain ⟨m, hm, h0, h1⟩ := Z.pick a0 61 (by omega) (by omega)
  obtain ⟨r, hr, r0, r1⟩ := Z.pick a1 100000 (by omega) (by omega)
  obtain ⟨n, rfl⟩ := Int.eq_ofNat_of_zero_le h0
  refine ⟨3000 + n, ?_⟩
  unfold spinnakerlaw10_SampleOrders.f
  rw [hm]
  obtain ⟨k', hk', e⟩ := l0_walk n (by omega) a1 n (3000 + n) 0 (by omega) (by omega)
  have e' : spinnakerlaw10_SampleOrders.l0 (3000 + n) a1 (n : Int) ([] : List Int) 0 = spinnakerlaw10_SampleOrders.l0 k' a1 (n : Int) (ids n) (n : Int) := e
  obtain ⟨K, rfl⟩ : ∃ K, k' = K + 1 := ⟨k' - 1, by omega⟩
  have hK : 2999 ≤ K := by omega
  rw [e']
  simp only [spinnakerlaw10_SampleOrders.l0]
  rw [if_neg (by omega), hr]
  obtain ⟨s, q, hs, hq, hw⟩ := which_spec (ids n) (by rw [ids_length]; omega) 0 r r0 K (by omega)
  obtain ⟨s', hs', s0, s1, s2, s3⟩ := size_any n
  rw [ids_length] at hs
  obtain rfl : s = s' := by rw [hs] at hs'; exact Option.some.inj hs'
  rw [if_neg (by omega)] at hq
  subst hq
  rw [hw, hs]
  simp only [Option.bind_some]
  rw [asks_length, if_pos (by omega), ids_length]
  have hb0 : 0 ≤ r % (n : Int) * q := by
    rcases Nat.eq_zero_or_pos n with hz | hz
    · have : q = 0 := by omega
      rw [this]; simp
    · exact Int.mul_nonneg (Int.emod_nonneg _ (by omega)) s0
  have hb1 : r % (n : Int) * q ≤ 1000000 := by
    rcases Nat.eq_zero_or_pos n with hz | hz
    · have : q = 0 := by omega
      rw [this]; simp
    · have := Int.emod_lt_of_pos r (show (0 : Int) < (n : Int) by omega)
      have := Int.mul_le_mul (show r % (n : Int) ≤ 100 by omega) (show q ≤ 16 by omega) s0 (show (0 : Int) ≤ 100 by omega)
      omega
  refine l1_walk n (by omega) (r % (n : Int) * q) hb0 hb1 q.toNat (by omega) 1100 ?_ (max q 1 - 1).toNat K 1 (by omega) (by omega) (by omega)
  intro k hk i hi
  simp only [spinnakerlaw10_SampleOrders.l1]
  rw [asks_length, if_neg (by omega)]
  obtain ⟨s2', q2, hs2, hq2, hw2⟩ := which_spec (ids n) (by rw [ids_length]; omega) 0 0 (by omega) k (by omega)
  rw [ids_length] at hs2
  obtain rfl : q = s2' := by rw [hs] at hs2; exact Option.some.inj hs2
  rw [if_neg (by omega)] at hq2
  subst hq2
  rw [hw2, at_rounds (fun k => spinnakerlaw10_told.mono k) (show 30 ≤ k by omega) told_spec]
  simp only [Option.bind_some, if_true]
  rw [asks_length]
  by_cases hz : (n : Int) = 0
  · rw [if_pos hz, if_pos (by omega)]
  · rw [if_neg hz, if_pos (by omega), if_pos (by omega), if_pos (by omega), asks_rd _ _ _ _ (by omega) (by omega), ids_length]
    simp only [Int.zero_emod, Int.zero_mul, Int.zero_add, Option.some.injEq, beq_iff_eq]
    rw [ids_rd n 0 (by omega) (by omega)]
    rfl

end Go.Proofs.Ytcdfoicebcmlaaa.Pure
