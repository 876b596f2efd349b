/- What pods tell together lies between the least and the greatest of them: for any loads (1 to 30) up to a million; for other numbers of loads the statement asks only the document's few.
Conditions: none beyond the statement's own. -/
import Derived.Test.YtcdfoicebcmlaaaPStatx2
import Derived.Test.YtcdfoicebcmlaaaStatF
set_option linter.unusedSimpArgs false
set_option linter.unusedVariables false
namespace Go.Proofs.Ytcdfoicebcmlaaa.Pure
open Go.RowKit Go.Proofs.Ytcdfoicebcmlaaa.PStat Go.Proofs.YtcdfoicebcmlaaaW.PrintWords Go.Proofs.YtcdfoicebcmlaaaW.PrintLast Go.Proofs.YtcdfoicebcmlaaaW.PrintMore
open Go.Proofs.Ytcdfoicebcmlaaa.StatF

namespace BetweenL
def ld (x : List Int) (j : Int) : Int := wrap64 (Int.tmod (IntKind.u64.wrap (rd x j)) 1000000)
theorem ld_range (x : List Int) (j : Int) : 0 ≤ ld x j ∧ ld x j < 1000000 := by
  obtain ⟨r, hr, h0, h1⟩ := Z.pick (rd x j) 1000000 (by omega) (by omega)
  unfold ld
  rw [hr]
  exact ⟨h0, h1⟩
def mk (x : List Int) (n : Nat) : List S67 := (List.range n).map fun j : Nat => (⟨(j : Int), 0, ld x (j : Int)⟩ : S67)
theorem mk_length (x : List Int) (n : Nat) : (mk x n).length = n := by simp [mk]
theorem mk_succ (x : List Int) (n : Nat) : mk x (n + 1) = mk x n ++ [(⟨(n : Int), 0, ld x (n : Int)⟩ : S67)] := by simp [mk, List.range_succ]
theorem mk_ok (x : List Int) (n : Nat) : ∀ s ∈ mk x n, okS 0 s = true := by
  intro s hs
  obtain ⟨j, _, rfl⟩ := List.mem_map.1 hs
  simp [okS, (ld_range x j).1]
theorem l0_walk (x : List Int) (hx : x.length ≤ 30) (d : Nat) : ∀ (k : Nat) (i : Nat) (lo hi : Int), i + d = x.length → d < k → (∀ s ∈ mk x i, lo ≤ s.f2 ∧ s.f2 ≤ hi) → ∃ (k' : Nat) (lo' hi' : Int), k = k' + d ∧ (∀ s ∈ mk x x.length, lo' ≤ s.f2 ∧ s.f2 ≤ hi') ∧
    spinnakerlaw9_StatBetween.l0 k x (mk x i) lo hi (i : Int) = spinnakerlaw9_StatBetween.l0 k' x (mk x x.length) lo' hi' (x.length : Int) := by
  induction d with
  | zero =>
    intro k i lo hi h1 hk h
    obtain rfl : i = x.length := by omega
    exact ⟨k, lo, hi, by omega, h, rfl⟩
  | succ d ih =>
    intro k i lo hi h1 hk h
    obtain ⟨k, rfl⟩ : ∃ m, k = m + 1 := ⟨k - 1, by omega⟩
    obtain ⟨k', lo', hi', hk', hh, h2⟩ := ih k (i + 1) (mn lo (ld x i)) (mx hi (ld x i)) (by omega) (by omega) (by
      intro s hs
      rw [mk_succ] at hs
      have hm : mn lo (ld x i) ≤ lo ∧ mn lo (ld x i) ≤ ld x i := by unfold mn; split <;> omega
      have hM : hi ≤ mx hi (ld x i) ∧ ld x i ≤ mx hi (ld x i) := by unfold mx; split <;> omega
      rcases List.mem_append.1 hs with hs | hs
      · have := h s hs; omega
      · rw [List.mem_singleton.1 hs]
        exact ⟨hm.2, hM.2⟩)
    refine ⟨k', lo', hi', by omega, hh, ?_⟩
    rw [← h2]
    conv => lhs; unfold spinnakerlaw9_StatBetween.l0
    rw [if_pos (by omega), if_pos (by omega), if_pos (by rw [mk_length]; omega), Z.wrap_small (n := (i : Int) + 1) (by omega) (by omega), mk_succ, show ((i + 1 : Nat) : Int) = (i : Int) + 1 by omega]
    rfl

theorem sum_l1 (l : List S67) (hl : l.length ≤ 30) (hok : ∀ s ∈ l, okS 0 s = true) (hb : ∀ s ∈ l, s.f2 < 1000000) (x4 x5 x8 x9 x10 x11 x12 x13 : Int) (d : Nat) : ∀ (k : Nat) (i s : Int), 0 ≤ i → i + d = l.length → d < k → 0 ≤ s → s ≤ 1000000 * i →
    ∃ k', k = k' + d ∧ spinnakerlaw9_StatBetween.l1 k l x4 x5 x8 x9 x10 x11 x12 x13 s i = spinnakerlaw9_StatBetween.l1 k' l x4 x5 x8 x9 x10 x11 x12 x13 (s + sm 0 (l.drop i.toNat)) (l.length : Int) := by
  induction d with
  | zero =>
    intro k i s h0 h1 hk _ _
    refine ⟨k, by omega, ?_⟩
    rw [List.drop_of_length_le (by omega), show i = (l.length : Int) by omega]
    simp [sm]
  | succ d ih =>
    intro k i s h0 h1 hk hs0 hs1
    obtain ⟨k, rfl⟩ : ∃ m, k = m + 1 := ⟨k - 1, by omega⟩
    have hlt : i < (l.length : Int) := by omega
    have hm := rd_mem l i h0 hlt
    have h3 := hb _ hm
    have h4 : 0 ≤ (rd_T67 l i).f2 := (of_decide_eq_true (hok _ hm)).2.2.1
    obtain ⟨k', hk', e⟩ := ih k (i + 1) (s + (rd_T67 l i).f2) (by omega) (by omega) (by omega) (by omega) (by omega)
    refine ⟨k', by omega, ?_⟩
    rw [rd_drop l i h0 hlt, sm_cons, hok _ hm, if_pos rfl, ← Int.add_assoc, ← e]
    conv => lhs; unfold spinnakerlaw9_StatBetween.l1
    rw [if_pos hlt, if_pos h0, Z.wrap_small (n := s + (rd_T67 l i).f2) (by omega) (by omega), Z.wrap_small (n := i + 1) (by omega) (by omega)]
end BetweenL

open BetweenL in
theorem StatBetween : spinnakerlaw9_StatBetween.Pure := by
  intro l _ hl2 _
  have htold : ∀ k, 30 ≤ k → spinnakerlaw9_told.f k = some true := fun k hk => at_rounds (fun k => spinnakerlaw9_told.mono k) hk told_spec
  by_cases h0 : (l.length : Int) < 1
  · refine ⟨31, ?_⟩
    unfold spinnakerlaw9_StatBetween.f
    rw [if_pos h0]
    simp only [spinnakerlaw9_StatBetween.j0]
    rw [if_pos trivial, htold 30 (by omega)]
    rfl
  by_cases h1 : (l.length : Int) > 30
  · refine ⟨31, ?_⟩
    unfold spinnakerlaw9_StatBetween.f
    rw [if_neg h0]
    simp only [spinnakerlaw9_StatBetween.j0]
    rw [if_pos (by simpa using h1), htold 30 (by omega)]
    rfl
  obtain ⟨n, hn⟩ : ∃ n, l.length = n := ⟨_, rfl⟩
  refine ⟨300 + n + n, ?_⟩
  unfold spinnakerlaw9_StatBetween.f
  rw [if_neg h0]
  obtain ⟨K, hK⟩ : ∃ K, 300 + n + n = K + 1 := ⟨299 + n + n, by omega⟩
  rw [hK]
  simp only [spinnakerlaw9_StatBetween.j0]
  rw [if_neg (by simpa using h1)]
  obtain ⟨k', lo, hi, hk', hh, e⟩ := l0_walk l (by omega) l.length K 0 1152921504606846976 0 (by omega) (by omega) (by simp [mk])
  have e' : spinnakerlaw9_StatBetween.l0 K l ([] : List S67) 1152921504606846976 0 0 = spinnakerlaw9_StatBetween.l0 k' l (mk l l.length) lo hi (l.length : Int) := e
  rw [e']
  obtain ⟨K2, rfl⟩ : ∃ K, k' = K + 1 := ⟨k' - 1, by omega⟩
  simp only [spinnakerlaw9_StatBetween.l0]
  rw [if_neg (by omega)]
  have hlen : (mk l l.length).length = l.length := mk_length _ _
  have hlt : ∀ s ∈ mk l l.length, s.f2 < 1000000 := by
    intro s hs
    obtain ⟨j, _, rfl⟩ := List.mem_map.1 hs
    exact (ld_range l j).2
  have hb : ∀ s ∈ mk l l.length, s.f2 ≤ 9223372036854775807 := fun s hs => by have := hlt s hs; omega
  have hc : cnt 0 (mk l l.length) = (l.length : Int) := by rw [cnt_all 0 _ (mk_ok l l.length), hlen]
  obtain ⟨S, hS⟩ : ∃ S, sm 0 (mk l l.length) = S := ⟨_, rfl⟩
  have b1 := sm_between 0 lo hi (mk l l.length) hh
  have b2 := sm_between 0 0 1000000 (mk l l.length) (fun s hs => by
    have h1 := hlt s hs
    have h2 : 0 ≤ s.f2 := (of_decide_eq_true (mk_ok l l.length s hs)).2.2.1
    omega)
  rw [hc, hS] at b1 b2
  have hold : old 0 (mk l l.length) = (S, (l.length : Int), 0) := by
    unfold old
    rw [tot_plain 0 (mk l l.length) 0 0 (by omega) (by rw [hS]; omega), hc, hS]
    simp only [Int.zero_add, ite_self]
  have hp : S * (l.length : Int) ≤ 900000000 := by
    have := Int.mul_le_mul (show S ≤ 30000000 by omega) (show (l.length : Int) ≤ 30 by omega) (by omega) (by omega : (0 : Int) ≤ 30000000)
    omega
  rw [mean_spec 0 _ (by omega) hb K2 (by omega) S (l.length : Int) hold (by omega) (by omega) (by omega)]
  simp only [Option.bind_some, hlen]
  rw [spread_spec 0 _ (by omega) hb K2 (by omega) S (l.length : Int) (l.length : Int) hold (by omega) (by omega) (by omega) (by omega) (by omega) (by omega),
    spread_spec 0 _ (by omega) hb K2 (by omega) S (l.length : Int) 0 hold (by omega) (by omega) (by omega) (by omega) (by omega) (by omega)]
  simp only [Option.bind_some, Int.mul_zero, Int.zero_ediv]
  rw [Int.mul_ediv_cancel _ (show (l.length : Int) ≠ 0 by omega)]
  obtain ⟨k3, hk3, e3⟩ := sum_l1 (mk l l.length) (by omega) (mk_ok l l.length) hlt lo hi (S / (l.length : Int)) (l.length : Int) S 0 0 0 l.length K2 0 0 (by omega) (by omega) (by omega) (by omega) (by omega)
  rw [e3]
  obtain ⟨K3, rfl⟩ : ∃ K, k3 = K + 1 := ⟨k3 - 1, by omega⟩
  simp only [spinnakerlaw9_StatBetween.l1]
  rw [if_neg (by omega), htold K3 (by omega)]
  have c1 : lo ≤ S / (l.length : Int) := Int.le_ediv_of_mul_le (by omega) (by omega)
  have c2 : S / (l.length : Int) ≤ hi := Int.ediv_le_of_le_mul (by omega) (by omega)
  simp only [Option.bind_some, if_true, Int.toNat_zero, List.drop_zero, Int.zero_add, hS, hlen]
  rw [if_pos c1, if_pos c2]
  simp

end Go.Proofs.Ytcdfoicebcmlaaa.Pure
