/- Young pods count just if there are no others: whichever of twelve pods are young, whatever their loads.
Conditions: none beyond the statement's own. -/
import Derived.Test.YtcdfoicebcmlaaaPYoungx2
import Derived.Test.YtcdfoicebcmlaaaStatFY
set_option linter.unusedSimpArgs false
set_option linter.unusedVariables false
namespace Go.Proofs.Ytcdfoicebcmlaaa.Pure
open Go.RowKit Go.Proofs.Ytcdfoicebcmlaaa.PYoung Go.Proofs.YtcdfoicebcmlaaaW.PrintWords Go.Proofs.YtcdfoicebcmlaaaW.PrintLast Go.Proofs.YtcdfoicebcmlaaaW.PrintMore
open Go.Proofs.Ytcdfoicebcmlaaa.StatFY

namespace YoungL
/-- Is the pod of this place old? -/
def isOld (mask : Int) (j : Int) : Prop := (Go.bits .and .i64 (shr .i64 mask (IntKind.u64.wrap j)) 1) = 0
instance (mask j : Int) : Decidable (isOld mask j) := inferInstanceAs (Decidable (_ = _))
def ld (x : List Int) (j : Int) : Int := if j < (x.length : Int) then wrap64 (Int.tmod (IntKind.u64.wrap (rd x j)) 1000000) else j
theorem ld_range (x : List Int) (j : Int) (h0 : 0 ≤ j) (h1 : j ≤ 12) : 0 ≤ ld x j ∧ ld x j < 1000000 := by
  unfold ld
  split
  · obtain ⟨r, hr, h0, h1⟩ := Z.pick (rd x j) 1000000 (by omega) (by omega)
    rw [hr]
    exact ⟨h0, h1⟩
  · omega
def el (mask : Int) (x : List Int) (j : Int) : S67 := ⟨j, if isOld mask j then 10 else 3, ld x j⟩
def mk (mask : Int) (x : List Int) (n : Nat) : List S67 := (List.range n).map fun j : Nat => el mask x (j : Int)
theorem mk_length (mask : Int) (x : List Int) (n : Nat) : (mk mask x n).length = n := by simp [mk]
theorem mk_succ (mask : Int) (x : List Int) (n : Nat) : mk mask x (n + 1) = mk mask x n ++ [el mask x (n : Int)] := by simp [mk, List.range_succ]
theorem sm_append (y : Int) (a b : List S67) : sm y (a ++ b) = sm y a + sm y b := by simp [sm, List.filter_append, List.sum_append]
theorem cnt_append (y : Int) (a b : List S67) : cnt y (a ++ b) = cnt y a + cnt y b := by simp [cnt, List.filter_append]
theorem ok0 (mask : Int) (x : List Int) (j : Int) (h0 : 0 ≤ j) (h1 : j ≤ 12) : okS 0 (el mask x j) = true := by
  have := ld_range x j h0 h1
  unfold okS el
  by_cases h : isOld mask j <;> simp [h, h0, this.1]
theorem ok10 (mask : Int) (x : List Int) (j : Int) (h0 : 0 ≤ j) (h1 : j ≤ 12) : okS 10 (el mask x j) = decide (isOld mask j) := by
  have := ld_range x j h0 h1
  unfold okS el
  by_cases h : isOld mask j <;> simp [h, h0, this.1]
theorem bounds (mask : Int) (x : List Int) : ∀ n : Nat, n ≤ 12 → (0 ≤ sm 0 (mk mask x n) ∧ sm 0 (mk mask x n) ≤ 1000000 * n) ∧ (0 ≤ sm 10 (mk mask x n) ∧ sm 10 (mk mask x n) ≤ 1000000 * n) ∧ (0 ≤ cnt 10 (mk mask x n) ∧ cnt 10 (mk mask x n) ≤ n) := by
  intro n hn
  have hb : ∀ s ∈ mk mask x n, (0 : Int) ≤ s.f2 ∧ s.f2 ≤ 1000000 := by
    intro s hs
    obtain ⟨j, hj, rfl⟩ := List.mem_map.1 hs
    have hj' : j < n := by simpa using hj
    have := ld_range x (j : Int) (by omega) (by omega)
    show 0 ≤ ld x (j : Int) ∧ ld x (j : Int) ≤ 1000000
    omega
  have h0 := sm_between 0 0 1000000 _ hb
  have h1 := sm_between 10 0 1000000 _ hb
  have c0 := cnt_le 0 (mk mask x n)
  have c1 := cnt_le 10 (mk mask x n)
  have c2 := cnt_nonneg 10 (mk mask x n)
  have c3 := cnt_nonneg 0 (mk mask x n)
  rw [mk_length] at c0 c1
  omega

theorem l0_walk (mask : Int) (x : List Int) (d : Nat) : ∀ (k : Nat) (i : Nat), i + d = 12 → d < k → ∃ k', k = k' + d ∧
    spinnakerlaw9_StatYoung.l0 k mask x (mk mask x i) (sm 10 (mk mask x i)) (cnt 10 (mk mask x i)) (sm 0 (mk mask x i)) (i : Int) =
      spinnakerlaw9_StatYoung.l0 k' mask x (mk mask x 12) (sm 10 (mk mask x 12)) (cnt 10 (mk mask x 12)) (sm 0 (mk mask x 12)) 12 := by
  induction d with
  | zero =>
    intro k i h1 hk
    obtain rfl : i = 12 := by omega
    exact ⟨k, by omega, rfl⟩
  | succ d ih =>
    intro k i h1 hk
    obtain ⟨k, rfl⟩ : ∃ m, k = m + 1 := ⟨k - 1, by omega⟩
    obtain ⟨k', hk', h2⟩ := ih k (i + 1) (by omega) (by omega)
    refine ⟨k', by omega, ?_⟩
    rw [← h2]
    obtain ⟨b0, b1, b2⟩ := bounds mask x i (by omega)
    have hl := ld_range x (i : Int) (by omega) (by omega)
    have hs0 : sm 0 (mk mask x (i + 1)) = sm 0 (mk mask x i) + ld x (i : Int) := by
      rw [mk_succ, sm_append, sm_cons, ok0 mask x (i : Int) (by omega) (by omega), if_pos rfl]
      simp [sm, el]
    have hs1 : sm 10 (mk mask x (i + 1)) = sm 10 (mk mask x i) + (if isOld mask (i : Int) then ld x (i : Int) else 0) := by
      rw [mk_succ, sm_append, sm_cons, ok10 mask x (i : Int) (by omega) (by omega)]
      by_cases h : isOld mask (i : Int) <;> simp [h, sm, el]
    have hc1 : cnt 10 (mk mask x (i + 1)) = cnt 10 (mk mask x i) + (if isOld mask (i : Int) then 1 else 0) := by
      rw [mk_succ, cnt_append, cnt_cons, ok10 mask x (i : Int) (by omega) (by omega)]
      by_cases h : isOld mask (i : Int) <;> simp [h, cnt]
    have hu : 0 ≤ IntKind.u64.wrap (i : Int) := by rw [Z.u64_wrap]; omega
    rw [hs0, hs1, hc1, mk_succ, show ((i + 1 : Nat) : Int) = (i : Int) + 1 by omega]
    conv => lhs; unfold spinnakerlaw9_StatYoung.l0
    rw [if_pos (by omega), Z.wrap_small (n := (i : Int) + 1) (by omega) (by omega), Z.wrap_small (n := cnt 10 (mk mask x i) + 1) (by omega) (by omega)]
    by_cases hi : (i : Int) < (x.length : Int)
    · have hld : wrap64 (Int.tmod (IntKind.u64.wrap (rd x (i : Int))) 1000000) = ld x (i : Int) := by unfold ld; rw [if_pos hi]
      rw [if_pos hi, if_pos (by omega), if_pos hu, hld, Z.wrap_small (n := sm 10 (mk mask x i) + ld x (i : Int)) (by omega) (by omega), Z.wrap_small (n := sm 0 (mk mask x i) + ld x (i : Int)) (by omega) (by omega), mk_length]
      by_cases ho : isOld mask (i : Int)
      · have ho' : Go.bits .and .i64 (shr .i64 mask (IntKind.u64.wrap (i : Int))) 1 = 0 := ho
        simp only [if_pos ho', if_pos (show i < 5864062014805 by omega)]; simp [ho, el]
      · have ho' : ¬ Go.bits .and .i64 (shr .i64 mask (IntKind.u64.wrap (i : Int))) 1 = 0 := ho
        simp only [if_neg ho', if_pos (show i < 5864062014805 by omega)]; simp [ho, el]
    · have hld : (i : Int) = ld x (i : Int) := by unfold ld; rw [if_neg hi]
      rw [if_neg hi, if_pos hu, Z.wrap_small (n := sm 10 (mk mask x i) + (i : Int)) (by omega) (by omega), Z.wrap_small (n := sm 0 (mk mask x i) + (i : Int)) (by omega) (by omega), mk_length]
      by_cases ho : isOld mask (i : Int)
      · have ho' : Go.bits .and .i64 (shr .i64 mask (IntKind.u64.wrap (i : Int))) 1 = 0 := ho
        simp only [if_pos ho', if_pos (show i < 5864062014805 by omega)]; simp [ho, el, ← hld]
      · have ho' : ¬ Go.bits .and .i64 (shr .i64 mask (IntKind.u64.wrap (i : Int))) 1 = 0 := ho
        simp only [if_neg ho', if_pos (show i < 5864062014805 by omega)]; simp [ho, el, ← hld]
end YoungL

open YoungL in
theorem StatYoung : spinnakerlaw9_StatYoung.Pure := by
  intro mask x _ _ _ _
  refine ⟨200, ?_⟩
  unfold spinnakerlaw9_StatYoung.f
  obtain ⟨k', hk', e⟩ := l0_walk mask x 12 200 0 (by omega) (by omega)
  have e' : spinnakerlaw9_StatYoung.l0 200 mask x ([] : List S67) 0 0 0 0 = spinnakerlaw9_StatYoung.l0 k' mask x (mk mask x 12) (sm 10 (mk mask x 12)) (cnt 10 (mk mask x 12)) (sm 0 (mk mask x 12)) 12 := e
  rw [e']
  obtain ⟨K, rfl⟩ : ∃ K, k' = K + 1 := ⟨k' - 1, by omega⟩
  simp only [spinnakerlaw9_StatYoung.l0]
  rw [if_neg (by omega)]
  obtain ⟨b0, b1, b2⟩ := bounds mask x 12 (by omega)
  have hlen : (mk mask x 12).length ≤ 1000 := by rw [mk_length]; omega
  have hK : (mk mask x 12).length < K := by rw [mk_length]; omega
  have hb : ∀ s ∈ mk mask x 12, s.f2 ≤ 9223372036854775807 := by
    intro s hs
    obtain ⟨j, hj, rfl⟩ := List.mem_map.1 hs
    have hj' : j < 12 := by simpa using hj
    have := ld_range x (j : Int) (by omega) (by omega)
    show ld x (j : Int) ≤ _
    omega
  have hc0 : cnt 0 (mk mask x 12) = 12 := by
    rw [cnt_all 0 _ (fun s hs => by
      obtain ⟨j, hj, rfl⟩ := List.mem_map.1 hs
      have hj' : j < 12 := by simpa using hj
      exact ok0 mask x (j : Int) (by omega) (by omega)), mk_length]
    rfl
  have htold : spinnakerlaw9_told.f K = some true := at_rounds (fun k => spinnakerlaw9_told.mono k) (show 30 ≤ K by omega) told_spec
  by_cases hz : cnt 10 (mk mask x 12) = 0
  · have hold : old 10 (mk mask x 12) = (sm 0 (mk mask x 12), 12, 0) := by
      unfold old
      rw [tot_plain 10 _ 0 0 (by omega) (by omega), tot_plain 0 _ 0 0 (by omega) (by omega), hc0, hz]
      simp
    rw [mean_spec 10 _ hlen hb K hK _ _ hold (by omega) (by omega) (by omega)]
    simp only [Option.bind_some]
    rw [if_pos hz, htold]
    simp only [Option.bind_some, if_true]
    rw [Int.tdiv_eq_ediv_of_nonneg (by omega), Z.wrap_small (by omega) (by omega)]
    simp
  · have hold : old 10 (mk mask x 12) = (sm 10 (mk mask x 12), cnt 10 (mk mask x 12), 0) := by
      unfold old
      rw [tot_plain 10 _ 0 0 (by omega) (by omega)]
      simp [hz]
    have hq := Int.ediv_le_self (cnt 10 (mk mask x 12)) (show 0 ≤ sm 10 (mk mask x 12) by omega)
    have hq0 := Int.ediv_nonneg (show 0 ≤ sm 10 (mk mask x 12) by omega) (show 0 ≤ cnt 10 (mk mask x 12) by omega)
    rw [mean_spec 10 _ hlen hb K hK _ _ hold (by omega) (by omega) (by omega)]
    simp only [Option.bind_some]
    rw [if_neg hz, htold]
    simp only [Option.bind_some, if_true]
    rw [Int.tdiv_eq_ediv_of_nonneg (by omega), Z.wrap_small (by omega) (by omega)]
    simp

end Go.Proofs.Ytcdfoicebcmlaaa.Pure
