/- Pods with one load tell it together, and so many times as many as are ready: for any load below a billion, any number of pods from 1 to 30, any number of ready ones up to 100.
Conditions: none beyond the statement's own. -/
import Derived.Test.YtcdfoicebcmlaaaPStatx2
import Derived.Test.YtcdfoicebcmlaaaStatF
set_option linter.unusedSimpArgs false
set_option linter.unusedVariables false
namespace Go.Proofs.Ytcdfoicebcmlaaa.Pure
open Go.RowKit Go.Proofs.Ytcdfoicebcmlaaa.PStat Go.Proofs.YtcdfoicebcmlaaaW.PrintWords Go.Proofs.YtcdfoicebcmlaaaW.PrintLast Go.Proofs.YtcdfoicebcmlaaaW.PrintMore
open Go.Proofs.Ytcdfoicebcmlaaa.StatF

namespace AlikeL
def mk (x : Int) (n : Nat) : List S67 := (List.range n).map fun j : Nat => (⟨(j : Int), (j : Int), x⟩ : S67)
theorem mk_length (x : Int) (n : Nat) : (mk x n).length = n := by simp [mk]
theorem l0_walk (x x9 : Int) (n : Nat) (hn : n ≤ 60) (d : Nat) : ∀ (k : Nat) (i : Nat), i + d = n → d < k → ∃ k', k = k' + d ∧
    spinnakerlaw9_StatAlike.l0 k x (n : Int) x9 (mk x i) (i : Int) = spinnakerlaw9_StatAlike.l0 k' x (n : Int) x9 (mk x n) (n : Int) := by
  induction d with
  | zero =>
    intro k i h1 hk
    obtain rfl : i = n := by omega
    exact ⟨k, by omega, rfl⟩
  | succ d ih =>
    intro k i h1 hk
    obtain ⟨k, rfl⟩ : ∃ m, k = m + 1 := ⟨k - 1, by omega⟩
    obtain ⟨k', hk', h2⟩ := ih k (i + 1) (by omega) (by omega)
    refine ⟨k', by omega, ?_⟩
    rw [← h2]
    conv => lhs; unfold spinnakerlaw9_StatAlike.l0
    rw [if_pos (by omega), if_pos (by rw [mk_length]; omega), Z.wrap_small (n := (i : Int) + 1) (by omega) (by omega)]
    rw [show mk x (i + 1) = mk x i ++ [(⟨(i : Int), (i : Int), x⟩ : S67)] by simp [mk, List.range_succ], show ((i + 1 : Nat) : Int) = (i : Int) + 1 by omega]
theorem old_mk (y x : Int) (n : Nat) (hx0 : 0 ≤ x) (hx1 : x ≤ 1000000000) (hn0 : 0 < n) (hn1 : n ≤ 60) : ∃ m : Int, 0 < m ∧ m ≤ (n : Int) ∧ (y = 0 → m = (n : Int)) ∧ old y (mk x n) = (x * m, m, 0) := by
  have hall : ∀ s ∈ mk x n, x ≤ s.f2 ∧ s.f2 ≤ x := by
    intro s hs
    obtain ⟨j, _, rfl⟩ := List.mem_map.1 hs
    simp
  have hok : ∀ s ∈ mk x n, okS 0 s = true := by
    intro s hs
    obtain ⟨j, _, rfl⟩ := List.mem_map.1 hs
    simp [okS, hx0]
  have key : ∀ z : Int, tot z (mk x n) (0, 0, 0) = (x * cnt z (mk x n), cnt z (mk x n), 0) ∧ 0 ≤ cnt z (mk x n) ∧ cnt z (mk x n) ≤ (n : Int) := by
    intro z
    have h1 := sm_between z x x (mk x n) hall
    have h2 := cnt_le z (mk x n)
    rw [mk_length] at h2
    have h3 := cnt_nonneg z (mk x n)
    have h4 : x * cnt z (mk x n) ≤ 60000000000 := by
      have := Int.mul_le_mul hx1 (show cnt z (mk x n) ≤ 60 by omega) h3 (by omega : (0 : Int) ≤ 1000000000)
      omega
    refine ⟨?_, h3, h2⟩
    rw [tot_plain z (mk x n) 0 0 (by omega) (by omega)]
    simp only [Prod.mk.injEq, and_true]
    omega
  have h0 : cnt 0 (mk x n) = (n : Int) := by rw [cnt_all 0 _ hok, mk_length]
  unfold old
  obtain ⟨e, c0, c1⟩ := key y
  obtain ⟨e0, _, _⟩ := key 0
  rw [e, e0]
  by_cases hc : cnt y (mk x n) = 0
  · rw [if_pos hc]
    exact ⟨_, by omega, by omega, fun _ => h0, rfl⟩
  · rw [if_neg hc]
    exact ⟨_, by omega, c1, fun h => by subst h; exact h0, rfl⟩
end AlikeL

open AlikeL in
theorem StatAlike : spinnakerlaw9_StatAlike.Pure := by
  intro a0 a1 a2 _ _ _
  obtain ⟨x, hx, x0, x1⟩ := Z.pick a0 1000000000 (by omega) (by omega)
  obtain ⟨m, hm, m0, m1⟩ := Z.pick a1 30 (by omega) (by omega)
  obtain ⟨r, hr, r0, r1⟩ := Z.pick a2 101 (by omega) (by omega)
  obtain ⟨n, hn⟩ := Int.eq_ofNat_of_zero_le (show 0 ≤ 1 + m by omega)
  refine ⟨200 + n, ?_⟩
  unfold spinnakerlaw9_StatAlike.f
  rw [hx, hm, hr, Z.wrap_small (n := 1 + m) (by omega) (by omega), hn]
  obtain ⟨k', hk', e⟩ := l0_walk x r n (by omega) n (200 + n) 0 (by omega) (by omega)
  have e' : spinnakerlaw9_StatAlike.l0 (200 + n) x (n : Int) r ([] : List S67) 0 = spinnakerlaw9_StatAlike.l0 k' x (n : Int) r (mk x n) (n : Int) := e
  obtain ⟨K, rfl⟩ : ∃ K, k' = K + 1 := ⟨k' - 1, by omega⟩
  rw [e']
  simp only [spinnakerlaw9_StatAlike.l0]
  rw [if_neg (by omega)]
  have hb : ∀ s ∈ mk x n, s.f2 ≤ 9223372036854775807 := by
    intro s hs
    obtain ⟨j, _, rfl⟩ := List.mem_map.1 hs
    show x ≤ _
    omega
  have hlen : (mk x n).length ≤ 1000 := by rw [mk_length]; omega
  have hK : (mk x n).length < K := by rw [mk_length]; omega
  obtain ⟨c, c0, c1, cz, hc⟩ := old_mk 0 x n x0 (by omega) (by omega) (by omega)
  obtain rfl := cz rfl
  obtain ⟨g, g0, g1, _, hg⟩ := old_mk (wrap64 (Int.tdiv (n : Int) 2)) x n x0 (by omega) (by omega) (by omega)
  have hprod : ∀ t : Int, 0 ≤ t → t ≤ (n : Int) → 0 ≤ x * t ∧ x * t ≤ 60000000000 := fun t t0 t1 =>
    ⟨Int.mul_nonneg x0 t0, by have := Int.mul_le_mul (show x ≤ 1000000000 by omega) (show t ≤ 60 by omega) t0 (by omega : (0 : Int) ≤ 1000000000); omega⟩
  have p1 := hprod (n : Int) (by omega) (by omega)
  have p2 := hprod g (by omega) g1
  have p3 : x * g * r ≤ 6060000000000 := by
    have := Int.mul_le_mul (show x * g ≤ 60000000000 by omega) (show r ≤ 101 by omega) r0 (by omega : (0 : Int) ≤ 60000000000); omega
  have p4 : 0 ≤ x * r ∧ x * r ≤ 101000000000 := ⟨Int.mul_nonneg x0 r0, by have := Int.mul_le_mul (show x ≤ 1000000000 by omega) (show r ≤ 101 by omega) r0 (by omega : (0 : Int) ≤ 1000000000); omega⟩
  rw [mean_spec 0 _ hlen hb K hK _ _ hc p1.1 (by omega) c0, spread_spec _ _ hlen hb K hK _ _ r hg p2.1 (by omega) g0 r0 (by omega) (by omega),
    at_rounds (fun k => spinnakerlaw9_told.mono k) (show 30 ≤ K by omega) told_spec]
  simp only [Option.bind_some, if_true]
  rw [Int.mul_ediv_cancel _ (show (n : Int) ≠ 0 by omega), if_pos rfl, Z.wrap_small (n := x * r) (by omega) (by omega)]
  have : x * g * r / g = x * r := by
    rw [show x * g * r = x * r * g by grind]
    exact Int.mul_ediv_cancel _ (by omega)
  simp [this]

end Go.Proofs.Ytcdfoicebcmlaaa.Pure
