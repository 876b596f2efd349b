/- A pod more with the mean's load leaves the mean; stats that may not be count not: for any load below a million, any number of pods from 1 to 20, any raw stat.
Conditions: none beyond the statement's own. -/
import Derived.Test.YtcdfoicebcmlaaaPManyx
import Derived.Test.YtcdfoicebcmlaaaStatFM
set_option linter.unusedSimpArgs false
set_option linter.unusedVariables false
namespace Go.Proofs.Ytcdfoicebcmlaaa.Pure
open Go.RowKit Go.Proofs.Ytcdfoicebcmlaaa.PMany Go.Proofs.YtcdfoicebcmlaaaW.PrintWords Go.Proofs.YtcdfoicebcmlaaaW.PrintLast Go.Proofs.YtcdfoicebcmlaaaW.PrintMore
open Go.Proofs.Ytcdfoicebcmlaaa.StatFM

namespace ManyL
def mk (x : Int) (n : Nat) : List S67 := (List.range n).map fun j : Nat => (⟨(j : Int), 0, x + (j : Int) % 2⟩ : S67)
theorem mk_succ (x : Int) (n : Nat) : mk x (n + 1) = mk x n ++ [(⟨(n : Int), 0, x + (n : Int) % 2⟩ : S67)] := by simp [mk, List.range_succ]
theorem mk_length (x : Int) (n : Nat) : (mk x n).length = n := by simp [mk]
theorem sm_append (y : Int) (l m : List S67) : sm y (l ++ m) = sm y l + sm y m := by simp [sm]
theorem cnt_append (y : Int) (l m : List S67) : cnt y (l ++ m) = cnt y l + cnt y m := by simp [cnt]
theorem sm_one (y : Int) (s : S67) : sm y [s] = if okS y s then s.f2 else 0 := by
  rw [sm_cons]; simp [sm]
theorem cnt_one (y : Int) (s : S67) : cnt y [s] = if okS y s then 1 else 0 := by
  rw [cnt_cons]; simp [cnt]
theorem mk_sum (x : Int) (h0 : 0 ≤ x) : ∀ n : Nat, sm 0 (mk x n) = (n : Int) * x + (n : Int) / 2 ∧ cnt 0 (mk x n) = (n : Int) := by
  intro n
  induction n with
  | zero => simp [mk, sm, cnt]
  | succ n ih =>
    have hok : okS 0 (⟨(n : Int), 0, x + (n : Int) % 2⟩ : S67) = true := by
      unfold okS
      apply decide_eq_true
      simp only
      omega
    rw [mk_succ, sm_append, cnt_append, sm_one, cnt_one, hok, ih.1, ih.2]
    simp only [if_true]
    refine ⟨?_, by omega⟩
    have : ((n + 1 : Nat) : Int) * x = (n : Int) * x + x := by rw [show ((n + 1 : Nat) : Int) = (n : Int) + 1 by omega]; grind
    rw [this]
    omega
theorem old0 (l : List S67) (h : sm 0 l ≤ 9223372036854775807) : old 0 l = (sm 0 l, cnt 0 l, 0) := by
  unfold old
  rw [tot_plain 0 l 0 0 (by omega) (by omega)]
  simp
theorem l0_walk (x p q r : Int) (n : Nat) (h0 : 0 ≤ x) (h1 : x < 1000000) (hn : n ≤ 60) (d : Nat) : ∀ (k : Nat) (i : Nat), i + d = n → d < k → ∃ k', k = k' + d ∧
    spinnakerlaw9_StatMany.l0 k x (n : Int) (mk x i) (i : Int) p q r = spinnakerlaw9_StatMany.l0 k' x (n : Int) (mk x n) (n : Int) p q r := by
  induction d with
  | zero =>
    intro k i h1 hk
    obtain rfl : i = n := by omega
    exact ⟨k, by omega, rfl⟩
  | succ d ih =>
    intro k i h1 hk
    obtain ⟨k, rfl⟩ : ∃ m, k = m + 1 := ⟨k - 1, by omega⟩
    obtain ⟨k', hk', h2⟩ := ih k (i + 1) (by omega) (by omega)
    refine ⟨k', by omega, ?_⟩
    rw [← h2]
    conv => lhs; unfold spinnakerlaw9_StatMany.l0
    rw [if_pos (by omega), if_pos (by rw [mk_length]; omega), Z.wrap_small (n := (i : Int) + 1) (by omega) (by omega), Int.tmod_eq_emod_of_nonneg (by omega), Z.wrap_small (n := x + (i : Int) % 2) (by omega) (by omega)]
    rw [mk_succ, show ((i + 1 : Nat) : Int) = (i : Int) + 1 by omega]
end ManyL

open ManyL in
theorem StatMany : spinnakerlaw9_StatMany.Pure := by
  intro a0 a1 raw _ _ hw
  obtain ⟨x, hx, x0, x1⟩ := Z.pick a0 1000000 (by omega) (by omega)
  obtain ⟨m, hm, m0, m1⟩ := Z.pick a1 20 (by omega) (by omega)
  obtain ⟨n, hn⟩ := Int.eq_ofNat_of_zero_le (show 0 ≤ 1 + m by omega)
  refine ⟨200 + n, ?_⟩
  unfold spinnakerlaw9_StatMany.f
  rw [hx, hm, Z.wrap_small (n := 1 + m) (by omega) (by omega), hn]
  obtain ⟨k', hk', e⟩ := l0_walk x raw.f0 raw.f1 raw.f2 n x0 (by omega) (by omega) n (200 + n) 0 (by omega) (by omega)
  have e' : spinnakerlaw9_StatMany.l0 (200 + n) x (n : Int) ([] : List S67) 0 raw.f0 raw.f1 raw.f2 = spinnakerlaw9_StatMany.l0 k' x (n : Int) (mk x n) (n : Int) raw.f0 raw.f1 raw.f2 := e
  obtain ⟨K, rfl⟩ : ∃ K, k' = K + 1 := ⟨k' - 1, by omega⟩
  rw [e']
  simp only [spinnakerlaw9_StatMany.l0]
  rw [if_neg (by omega)]
  obtain ⟨hs, hc⟩ := mk_sum x x0 n
  have hnx : 0 ≤ (n : Int) * x ∧ (n : Int) * x ≤ 20000000 := ⟨Int.mul_nonneg (by omega) x0, by
    have := Int.mul_le_mul (show (n : Int) ≤ 20 by omega) (show x ≤ 1000000 by omega) x0 (by omega : (0 : Int) ≤ 20); omega⟩
  have hmax : raw.f2 ≤ 9223372036854775807 := by
    have := hw.2.2
    simp [Lit.wf] at this
    exact Int.le_trans this.2 (by decide)
  have hb : ∀ s ∈ mk x n, s.f2 ≤ 9223372036854775807 := by
    intro s hs
    obtain ⟨j, _, rfl⟩ := List.mem_map.1 hs
    simp only
    omega
  have hbo : ∀ o : S67, o.f2 ≤ 9223372036854775807 → ∀ s ∈ mk x n ++ [o], s.f2 ≤ 9223372036854775807 := by
    intro o ho s hs
    rcases List.mem_append.1 hs with hs | hs
    · exact hb s hs
    · rw [List.mem_singleton.1 hs]; exact ho
  have hlen : (mk x n).length ≤ 1000 := by rw [mk_length]; omega
  have hlo : ∀ o : S67, (mk x n ++ [o]).length ≤ 1000 := by intro o; rw [List.length_append, mk_length]; simp; omega
  have hK : (mk x n).length < K := by rw [mk_length]; omega
  have hKo : ∀ o : S67, (mk x n ++ [o]).length < K := by intro o; rw [List.length_append, mk_length]; simp; omega
  have o1 := old0 (mk x n) (by rw [hs]; omega)
  rw [hs, hc] at o1
  have q1 : ((n : Int) * x + (n : Int) / 2) / (n : Int) = x := by
    rw [show (n : Int) * x + (n : Int) / 2 = (n : Int) / 2 + x * (n : Int) by grind, Int.add_mul_ediv_right _ _ (by omega), Int.ediv_eq_zero_of_lt (by omega) (by omega)]
    omega
  rw [mean_spec 0 _ hlen hb K hK _ _ o1 (by omega) (by omega) (by omega)]
  simp only [Option.bind_some]
  rw [q1, if_pos (by rw [mk_length]; omega)]
  have hok : okS 0 (⟨99, 0, x⟩ : S67) = true := by unfold okS; apply decide_eq_true; simp only; omega
  have o2 : old 0 (mk x n ++ [(⟨99, 0, x⟩ : S67)]) = ((n : Int) * x + (n : Int) / 2 + x, (n : Int) + 1, 0) := by
    rw [old0 _ (by rw [sm_append, sm_one, hok, hs]; simp only [if_true]; omega), sm_append, sm_one, cnt_append, cnt_one, hok, hs, hc]
    simp
  have q2 : ((n : Int) * x + (n : Int) / 2 + x) / ((n : Int) + 1) = x := by
    rw [show (n : Int) * x + (n : Int) / 2 + x = (n : Int) / 2 + x * ((n : Int) + 1) by grind, Int.add_mul_ediv_right _ _ (by omega), Int.ediv_eq_zero_of_lt (by omega) (by omega)]
    omega
  rw [mean_spec 0 _ (hlo _) (hbo _ (by simp only; omega)) K (hKo _) _ _ o2 (by omega) (by omega) (by omega)]
  simp only [Option.bind_some]
  rw [q2]
  have hmay : stat_May.f raw.f0 raw.f1 raw.f2 = some (okS 0 raw) := by unfold stat_May.f; rw [may_spec]; rfl
  rw [hmay, at_rounds (fun k => spinnakerlaw9_told.mono k) (show 30 ≤ K by omega) told_spec, Z.wrap_small (n := (n : Int) + 1) (by omega) (by omega)]
  have o3 : ∀ o : S67, okS 0 o = false → old 0 (mk x n ++ [o]) = ((n : Int) * x + (n : Int) / 2, (n : Int), 0) := by
    intro o ho
    rw [old0 _ (by rw [sm_append, sm_one, ho, hs]; simp; omega), sm_append, sm_one, cnt_append, cnt_one, ho, hs, hc]
    simp
  have last : ∀ o : S67, okS 0 o = false → o.f2 ≤ 9223372036854775807 → stat_Mean.f K (mk x n ++ [o]) 0 = some (x, (n : Int)) := by
    intro o ho hm
    rw [mean_spec 0 _ (hlo _) (hbo _ hm) K (hKo _) _ _ (o3 o ho) (by omega) (by omega) (by omega), q1]
  simp only [Option.bind_some]
  cases hr : okS 0 raw with
  | true =>
    rw [if_pos rfl, last ⟨-1, raw.f1, raw.f2⟩ (by unfold okS; apply decide_eq_false; simp only; omega) hmax]
    simp
  | false =>
    rw [if_neg (by simp), last ⟨raw.f0, raw.f1, raw.f2⟩ hr hmax]
    simp
end Go.Proofs.Ytcdfoicebcmlaaa.Pure
