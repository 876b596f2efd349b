/- What pods tell together, and spread over all, is what the document's reference tells: for any stats (at most 40 of them), raw ones too, any age, any number of pods.
Conditions: none beyond the statement's own. -/
import Derived.Test.YtcdfoicebcmlaaaPStatx4
import Derived.Test.YtcdfoicebcmlaaaStatF
set_option linter.unusedSimpArgs false
set_option linter.unusedVariables false
namespace Go.Proofs.Ytcdfoicebcmlaaa.Pure
open Go.RowKit Go.Proofs.Ytcdfoicebcmlaaa.PStat Go.Proofs.YtcdfoicebcmlaaaW.PrintWords Go.Proofs.YtcdfoicebcmlaaaW.PrintLast Go.Proofs.YtcdfoicebcmlaaaW.PrintMore
open Go.Proofs.Ytcdfoicebcmlaaa.StatF

namespace AsksL
theorem wf_i64 {n : Int} (h : (Lit.int .i64 n).wf = true) : -9223372036854775808 ≤ n ∧ n ≤ 9223372036854775807 := by
  simp [Lit.wf] at h
  exact ⟨Int.le_trans (by decide) h.1, Int.le_trans h.2 (by decide)⟩
theorem refadd (k : Nat) (a b : Int) (h0 : 0 ≤ a) (ha : a ≤ 9223372036854775807) (h1 : 0 ≤ b) (hb : b ≤ 9223372036854775807) : spinnakerref1_Add.f (k + 1) a b = some (sat a b) := by
  unfold spinnakerref1_Add.f sat
  by_cases hp : b > 0
  · rw [if_pos hp, Z.wrap_small (n := 9223372036854775807 - b) (by omega) (by omega)]
    simp only [spinnakerref1_Add.j0]
    by_cases h : a + b ≤ 9223372036854775807
    · rw [if_pos h, if_neg (by simp; omega), if_neg (by omega), Z.wrap_small (by omega) (by omega)]
    · rw [if_neg h, if_pos (by simp; omega)]
  · rw [if_neg hp]
    simp only [spinnakerref1_Add.j0]
    rw [if_neg (by simp), if_neg (by omega), if_pos (by omega), Z.wrap_small (by omega) (by omega)]

theorem refmay (s : S67) : spinnakerref5_MayStat.f s.f0 s.f1 s.f2 = some (decide (0 ≤ s.f0 ∧ 0 ≤ s.f1 ∧ 0 ≤ s.f2)) := by
  unfold spinnakerref5_MayStat.f
  by_cases h0 : 0 ≤ s.f0 <;> by_cases h1 : 0 ≤ s.f1 <;> by_cases h2 : 0 ≤ s.f2 <;> simp [h0, h1, h2]

/-- The reference tells by a bool what the program tells by a code. -/
def toB (t : Int × Int × Int) : Int × Int × Bool := (t.1, t.2.1, t.2.2 != 0)

theorem sat_code (a b : Int) : (sat a b).2 = 0 ∨ (sat a b).2 = 2 := by unfold sat; split <;> simp

theorem reftotal_l0 (y : Int) (l : List S67) (hl : l.length ≤ 1000) (hb : ∀ s ∈ l, s.f2 ≤ 9223372036854775807) (d : Nat) : ∀ (k : Nat) (i s n c : Int), 0 ≤ i → i + d = l.length → d < k → 0 ≤ s → s ≤ 9223372036854775807 → 0 ≤ n → n ≤ i → (c = 0 ∨ c = 2) →
    spinnakerref5_total.l0 k l y s n (c != 0) i = some (toB (tot y (l.drop i.toNat) (s, n, c))) := by
  induction d with
  | zero =>
    intro k i s n c h0 h1 hk _ _ _ _ _
    obtain ⟨k, rfl⟩ : ∃ m, k = m + 1 := ⟨k - 1, by omega⟩
    simp only [spinnakerref5_total.l0]
    rw [if_neg (by omega), List.drop_of_length_le (by omega)]
    rfl
  | succ d ih =>
    intro k i s n c h0 h1 hk hs0 hs1 hn0 hn1 hc
    obtain ⟨k, rfl⟩ : ∃ m, k = m + 1 := ⟨k - 1, by omega⟩
    have hlt : i < (l.length : Int) := by omega
    have hm := rd_mem l i h0 hlt
    simp only [spinnakerref5_total.l0]
    rw [if_pos hlt, if_pos h0, refmay, rd_drop l i h0 hlt, Z.wrap_small (n := i + 1) (by omega) (by omega)]
    simp only [Option.bind_some, tot]
    generalize hx : rd_T67 l i = x at *
    by_cases hmay : 0 ≤ x.f0 ∧ 0 ≤ x.f1 ∧ 0 ≤ x.f2
    · rw [if_pos (by simpa using hmay)]
      by_cases hage : x.f1 ≥ y
      · have hok : okS y x = true := by simp [okS, hmay, hage]
        rw [if_pos hage, hok, if_pos rfl]
        obtain ⟨k, rfl⟩ : ∃ m, k = m + 1 := ⟨k - 1, by omega⟩
        rw [refadd k s x.f2 hs0 hs1 hmay.2.2 (hb _ hm), Z.wrap_small (n := n + 1) (by omega) (by omega)]
        have hr := sat_range hs0 hmay.2.2
        have hsc := sat_code s x.f2
        have hmx : mx c (sat s x.f2).2 = 0 ∨ mx c (sat s x.f2).2 = 2 := by unfold mx; split <;> omega
        have h4 := ih (k + 1) (i + 1) (sat s x.f2).1 (n + 1) (mx c (sat s x.f2).2) (by omega) (by omega) (by omega) hr.1 hr.2 (by omega) (by omega) hmx
        simp only [Option.bind_some]
        rw [← h4]
        rcases hc with rfl | rfl
        · rw [if_neg (by simp)]
          congr 1
          rcases hsc with e | e <;> rw [e] <;> rfl
        · rw [if_pos (by simp)]
          congr 1
          rcases hsc with e | e <;> rw [e] <;> rfl
      · have hok : okS y x = false := by simp [okS, hmay, hage]
        rw [if_neg hage, hok, if_neg (by simp)]
        exact ih k (i + 1) _ _ _ (by omega) (by omega) (by omega) hs0 hs1 hn0 (by omega) hc
    · have hok : okS y x = false := by
        unfold okS
        rw [decide_eq_false]
        intro h
        exact hmay ⟨h.1, h.2.1, h.2.2.1⟩
      rw [if_neg (by simpa using hmay), hok, if_neg (by simp)]
      exact ih k (i + 1) _ _ _ (by omega) (by omega) (by omega) hs0 hs1 hn0 (by omega) hc

theorem reftotal (y : Int) (l : List S67) (hl : l.length ≤ 1000) (hb : ∀ s ∈ l, s.f2 ≤ 9223372036854775807) (k : Nat) (hk : l.length < k) : spinnakerref5_total.f k l y = some (toB (tot y l (0, 0, 0))) := by
  unfold spinnakerref5_total.f
  have := reftotal_l0 y l hl hb l.length k 0 0 0 0 (by omega) (by omega) (by omega) (by omega) (by omega) (by omega) (by omega) (.inl rfl)
  exact this

/-- What holds of a sum, a number, a code. -/
theorem tot_inv (y : Int) : ∀ (l : List S67) (s n c : Int), 0 ≤ s → s ≤ 9223372036854775807 → 0 ≤ n → (c = 0 ∨ c = 2) → (∀ x ∈ l, x.f2 ≤ 9223372036854775807) →
    0 ≤ (tot y l (s, n, c)).1 ∧ (tot y l (s, n, c)).1 ≤ 9223372036854775807 ∧ 0 ≤ (tot y l (s, n, c)).2.1 ∧ (tot y l (s, n, c)).2.1 ≤ n + l.length ∧ ((tot y l (s, n, c)).2.2 = 0 ∨ (tot y l (s, n, c)).2.2 = 2) := by
  intro l
  induction l with
  | nil => intro s n c h0 h1 h2 h3 _; simp [tot, h0, h1, h2, h3]
  | cons x xs ih =>
    intro s n c h0 h1 h2 h3 hb
    simp only [tot]
    cases hok : okS y x with
    | true =>
      have hx : 0 ≤ x.f2 := (of_decide_eq_true hok).2.2.1
      have hr := sat_range h0 hx
      have hsc := sat_code s x.f2
      have hmx : mx c (sat s x.f2).2 = 0 ∨ mx c (sat s x.f2).2 = 2 := by unfold mx; split <;> omega
      have h4 := ih (sat s x.f2).1 (n + 1) _ hr.1 hr.2 (by omega) hmx (fun z hz => hb z (List.mem_cons_of_mem _ hz))
      rw [if_pos rfl]
      refine ⟨h4.1, h4.2.1, h4.2.2.1, ?_, h4.2.2.2.2⟩
      have := h4.2.2.2.1
      simp only [List.length_cons]
      omega
    | false =>
      rw [if_neg (by simp)]
      have h4 := ih s n c h0 h1 h2 h3 (fun z hz => hb z (List.mem_cons_of_mem _ hz))
      refine ⟨h4.1, h4.2.1, h4.2.2.1, ?_, h4.2.2.2.2⟩
      have := h4.2.2.2.1
      simp only [List.length_cons]
      omega
theorem old_inv (y : Int) (l : List S67) (hb : ∀ x ∈ l, x.f2 ≤ 9223372036854775807) :
    0 ≤ (old y l).1 ∧ (old y l).1 ≤ 9223372036854775807 ∧ 0 ≤ (old y l).2.1 ∧ (old y l).2.1 ≤ l.length ∧ ((old y l).2.2 = 0 ∨ (old y l).2.2 = 2) := by
  unfold old
  split
  · simpa using tot_inv 0 l 0 0 0 (by omega) (by omega) (by omega) (.inl rfl) hb
  · simpa using tot_inv y l 0 0 0 (by omega) (by omega) (by omega) (.inl rfl) hb
theorem refall (y : Int) (l : List S67) (hl : l.length ≤ 1000) (hb : ∀ s ∈ l, s.f2 ≤ 9223372036854775807) (k : Nat) (hk : l.length < k) : spinnakerref5_all.f k l y = some (toB (old y l)) := by
  unfold spinnakerref5_all.f old
  rw [reftotal y l hl hb k hk, reftotal 0 l hl hb k hk]
  have h := tot_inv y l 0 0 0 (by omega) (by omega) (by omega) (.inl rfl) hb
  simp only [Option.bind_some, toB]
  by_cases hz : (tot y l (0, 0, 0)).2.1 = 0
  · rw [if_neg (by omega), if_pos hz]
  · rw [if_pos (by omega), if_neg hz]

theorem mean_same (y : Int) (l : List S67) (hl : l.length ≤ 1000) (hb : ∀ s ∈ l, s.f2 ≤ 9223372036854775807) (k : Nat) (hk : l.length < k) : ∃ r, stat_Mean.f k l y = some r ∧ spinnakerref5_Mean.f k l y = some r := by
  unfold stat_Mean.f spinnakerref5_Mean.f
  rw [old_spec y l hl hb k hk, refall y l hl hb k hk]
  simp only [Option.bind_some, toB]
  split
  · exact ⟨_, rfl, rfl⟩
  · exact ⟨_, rfl, rfl⟩

theorem spread_same (y r : Int) (hr : -9223372036854775808 ≤ r) (hr1 : r ≤ 9223372036854775807) (l : List S67) (hl : l.length ≤ 1000) (hb : ∀ s ∈ l, s.f2 ≤ 9223372036854775807) (k : Nat) (hk : l.length < k) : ∃ p, stat_Spread.f k l y r = some p ∧ spinnakerref5_Spread.f k l y r = some p := by
  unfold stat_Spread.f spinnakerref5_Spread.f
  rw [old_spec y l hl hb k hk, refall y l hl hb k hk]
  obtain ⟨s0, s1, n0, n1, hc⟩ := old_inv y l hb
  obtain ⟨⟨s, n, c⟩, ho⟩ : ∃ t, old y l = t := ⟨_, rfl⟩
  rw [ho] at s0 s1 n0 n1 hc ⊢
  simp only [Option.bind_some, toB] at s0 s1 n0 n1 hc ⊢
  by_cases hn : n = 0
  · rw [if_pos hn, if_pos hn]; exact ⟨_, rfl, rfl⟩
  rw [if_neg hn, if_neg hn]
  by_cases hneg : r < 0
  · rw [if_pos hneg, if_pos hneg]; exact ⟨_, rfl, rfl⟩
  rw [if_neg hneg, if_neg hneg, Z.u64_wrap, Z.u64_wrap, Int.emod_eq_of_lt (a := s) (by omega) (by omega), Int.emod_eq_of_lt (a := r) (by omega) (by omega), mul64_spec s r (by omega) (by omega) (by omega) (by omega)]
  simp only [Option.bind_some]
  obtain ⟨k, rfl⟩ : ∃ m, k = m + 1 := ⟨k - 1, by omega⟩
  have hp0 : 0 ≤ s * r := Int.mul_nonneg s0 (by omega)
  have hcut : Int.tdiv 9223372036854775807 r = 9223372036854775807 / r := Int.tdiv_eq_ediv_of_nonneg (by decide)
  by_cases hover : 9223372036854775807 < s * r
  · have hr0 : 0 < r := by
      rcases Int.lt_or_eq_of_le (show 0 ≤ r by omega) with h | h
      · exact h
      · rw [← h] at hover; simp at hover
    have hgt : 9223372036854775807 / r < s := Int.ediv_lt_of_lt_mul hr0 hover
    have hq0 : 0 ≤ 9223372036854775807 / r := Int.ediv_nonneg (by decide) (by omega)
    have e : (if s * r / 18446744073709551616 > 0 then some (wrap64 (Int.tdiv 9223372036854775807 n), (2 : Int)) else if s * r % 18446744073709551616 > 9223372036854775807 then some (wrap64 (Int.tdiv 9223372036854775807 n), 2) else some (wrap64 (Int.tdiv (wrap64 (s * r % 18446744073709551616)) n), c)) = some (wrap64 (Int.tdiv 9223372036854775807 n), 2) := by
      by_cases h1 : s * r / 18446744073709551616 > 0
      · rw [if_pos h1]
      · rw [if_neg h1, if_pos (by omega)]
    rw [e, if_pos hr0, if_neg (by omega), hcut, Z.wrap_small (n := 9223372036854775807 / r) (by omega) (by omega)]
    simp only [spinnakerref5_Spread.j0]
    rw [if_pos (by simpa using hgt), if_neg hn]
    exact ⟨_, rfl, rfl⟩
  · have e1 : s * r / 18446744073709551616 = 0 := Int.ediv_eq_zero_of_lt hp0 (by omega)
    have e2 : s * r % 18446744073709551616 = s * r := Int.emod_eq_of_lt hp0 (by omega)
    rw [e1, if_neg (by omega), e2, if_neg (by omega)]
    have key : spinnakerref5_Spread.j0 (k + 1) r s n (c != 0) false = some (wrap64 (Int.tdiv (wrap64 (s * r)) n), c) := by
      simp only [spinnakerref5_Spread.j0]
      rcases hc with rfl | rfl
      · rw [if_neg (by simp), if_neg (by simp), if_neg hn]
      · rw [if_neg (by simp), if_pos (by simp), if_neg hn]
    by_cases hr0 : r > 0
    · have hle : ¬ 9223372036854775807 / r < s := by
        have : s ≤ 9223372036854775807 / r := Int.le_ediv_of_mul_le hr0 (by omega)
        omega
      have hq0 : 0 ≤ 9223372036854775807 / r := Int.ediv_nonneg (by decide) (by omega)
      have hq1 : 9223372036854775807 / r ≤ 9223372036854775807 := Int.ediv_le_self r (by decide)
      rw [if_pos hr0, if_neg (by omega), hcut, Z.wrap_small (n := 9223372036854775807 / r) (by omega) (by omega), show decide (s > 9223372036854775807 / r) = false by simpa using hle, key]
      exact ⟨_, rfl, rfl⟩
    · rw [if_neg hr0, key]
      exact ⟨_, rfl, rfl⟩

theorem l0_walk (l : List S67) (hl : l.length ≤ 40) (y r : Int) (d : Nat) : ∀ (k : Nat) (i : Int), 0 ≤ i → i + d = l.length → d < k → ∃ k', k = k' + d ∧
    spinnakerlaw9_StatAsks.l0 k l y r i = spinnakerlaw9_StatAsks.l0 k' l y r (l.length : Int) := by
  induction d with
  | zero => intro k i h0 h1 hk; exact ⟨k, by omega, by rw [show i = (l.length : Int) by omega]⟩
  | succ d ih =>
    intro k i h0 h1 hk
    obtain ⟨k, rfl⟩ : ∃ m, k = m + 1 := ⟨k - 1, by omega⟩
    obtain ⟨k', hk', e⟩ := ih k (i + 1) (by omega) (by omega) (by omega)
    refine ⟨k', by omega, ?_⟩
    rw [← e]
    conv => lhs; unfold spinnakerlaw9_StatAsks.l0
    have hmay : stat_May.f (rd_T67 l i).f0 (rd_T67 l i).f1 (rd_T67 l i).f2 = some (decide (0 ≤ (rd_T67 l i).f0 ∧ 0 ≤ (rd_T67 l i).f1 ∧ 0 ≤ (rd_T67 l i).f2)) := by
      unfold stat_May.f
      rw [may_spec]
      simp only [Option.bind_some, okS]
      congr 2
      apply propext
      omega
    rw [if_pos (by omega), if_pos h0, hmay, refmay, Z.wrap_small (n := i + 1) (by omega) (by omega)]
    simp
end AsksL

open AsksL in
theorem StatAsks : spinnakerlaw9_StatAsks.Pure := by
  intro l y r hw _ hy hr
  have htold : ∀ k, 30 ≤ k → spinnakerlaw9_told.f k = some true := fun k hk => at_rounds (fun k => spinnakerlaw9_told.mono k) hk told_spec
  have hr' := wf_i64 hr
  have hb : ∀ s ∈ l, s.f2 ≤ 9223372036854775807 := by
    intro s hs
    exact (wf_i64 (hw.2 s hs).2.2).2
  by_cases h0 : (l.length : Int) > 40
  · refine ⟨30, ?_⟩
    unfold spinnakerlaw9_StatAsks.f
    rw [if_pos h0, htold 30 (by omega)]
    rfl
  obtain ⟨k', hk', e⟩ := l0_walk l (by omega) y r l.length (1000 + l.length) 0 (by omega) (by omega) (by omega)
  refine ⟨1000 + l.length, ?_⟩
  unfold spinnakerlaw9_StatAsks.f
  rw [if_neg h0, e]
  obtain ⟨K, rfl⟩ : ∃ K, k' = K + 1 := ⟨k' - 1, by omega⟩
  simp only [spinnakerlaw9_StatAsks.l0]
  rw [if_neg (by omega)]
  obtain ⟨m, m1, m2⟩ := mean_same y l (by omega) hb K (by omega)
  obtain ⟨p, p1, p2⟩ := spread_same y r hr'.1 hr'.2 l (by omega) hb K (by omega)
  rw [m1, m2, p1, p2, htold K (by omega)]
  simp

end Go.Proofs.Ytcdfoicebcmlaaa.Pure
