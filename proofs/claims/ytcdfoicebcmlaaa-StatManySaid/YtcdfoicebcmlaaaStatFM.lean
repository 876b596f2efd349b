/- What the printed functions of package stat come to, as plain functions on lists: for the pure texts of the laws of layer 9.
Conditions: each fact's own bounds. -/
import Derived.Test.YtcdfoicebcmlaaaPManyx1
import Derived.Test.YtcdfoicebcmlaaaZ
set_option linter.unusedSimpArgs false
namespace Go.Proofs.Ytcdfoicebcmlaaa.StatFM
open Go.RowKit Go.Proofs.Ytcdfoicebcmlaaa.PMany Go.Proofs.YtcdfoicebcmlaaaW.PrintWords Go.Proofs.YtcdfoicebcmlaaaW.PrintLast Go.Proofs.YtcdfoicebcmlaaaW.PrintMore

/-- A stat that may be, and is so old. -/
def okS (y : Int) (s : S67) : Bool := decide (0 ≤ s.f0 ∧ 0 ≤ s.f1 ∧ 0 ≤ s.f2 ∧ y ≤ s.f1)

theorem may_spec (s : S67) (y : Int) : stat_may.f s.f0 s.f1 s.f2 y = some (okS y s) := by
  unfold stat_may.f okS
  by_cases h0 : 0 ≤ s.f0 <;> by_cases h1 : 0 ≤ s.f1 <;> by_cases h2 : 0 ≤ s.f2 <;> simp [h0, h1, h2]

theorem add_spec {a b : Int} (h0 : 0 ≤ a) (h1 : 0 ≤ b) (h : a + b ≤ 9223372036854775807) : milli_Add.f a b = some (a + b, 0) := by
  unfold milli_Add.f
  have hw : wrap64 (a + b) = a + b := Z.wrap_small (by omega) (by omega)
  by_cases hb : b > 0
  · rw [if_pos hb, Z.wrap_small (n := 9223372036854775807 - b) (by omega) (by omega), if_neg (by omega), if_neg (by omega), hw]
  · rw [if_neg hb, if_neg (by omega), hw]

theorem add_over {a b : Int} (h0 : 0 ≤ a) (h1 : 0 ≤ b) (hb : b ≤ 9223372036854775807) (h : 9223372036854775807 < a + b) (ha : a ≤ 9223372036854775807) : milli_Add.f a b = some (9223372036854775807, 2) := by
  unfold milli_Add.f
  rw [if_pos (by omega), Z.wrap_small (n := 9223372036854775807 - b) (by omega) (by omega), if_pos (by omega)]
  rfl

/-- The sum of two that are not below nought, cut at the end of 64 bits; and whether it was cut. -/
def sat (a b : Int) : Int × Int := if a + b ≤ 9223372036854775807 then (a + b, 0) else (9223372036854775807, 2)
theorem add_sat {a b : Int} (h0 : 0 ≤ a) (ha : a ≤ 9223372036854775807) (h1 : 0 ≤ b) (hb : b ≤ 9223372036854775807) : milli_Add.f a b = some (sat a b) := by
  unfold sat
  by_cases h : a + b ≤ 9223372036854775807
  · rw [if_pos h]; exact add_spec h0 h1 h
  · rw [if_neg h]; exact add_over h0 h1 hb (by omega) ha
theorem sat_range {a b : Int} (h0 : 0 ≤ a) (h1 : 0 ≤ b) : 0 ≤ (sat a b).1 ∧ (sat a b).1 ≤ 9223372036854775807 := by
  unfold sat; split <;> constructor <;> simp <;> omega

/-- Sum, number, code: one by one. -/
def tot (y : Int) : List S67 → Int × Int × Int → Int × Int × Int
  | [], acc => acc
  | x :: xs, (s, n, c) => if okS y x then tot y xs ((sat s x.f2).1, n + 1, mx c (sat s x.f2).2) else tot y xs (s, n, c)

theorem rd_drop (l : List S67) (i : Int) (h0 : 0 ≤ i) (h1 : i < (l.length : Int)) : l.drop i.toNat = rd_T67 l i :: l.drop (i + 1).toNat := by
  have hi : i.toNat < l.length := by omega
  rw [List.drop_eq_getElem_cons hi, show (i + 1).toNat = i.toNat + 1 by omega]
  unfold rd_T67
  rw [List.getD_eq_getElem?_getD, List.getElem?_eq_getElem hi]
  rfl

theorem rd_mem (l : List S67) (i : Int) (h0 : 0 ≤ i) (h1 : i < (l.length : Int)) : rd_T67 l i ∈ l := by
  have hi : i.toNat < l.length := by omega
  unfold rd_T67
  rw [List.getD_eq_getElem?_getD, List.getElem?_eq_getElem hi]
  exact List.getElem_mem _

theorem total_l0 (y : Int) (l : List S67) (hl : l.length ≤ 1000) (hb : ∀ s ∈ l, s.f2 ≤ 9223372036854775807) (d : Nat) : ∀ (k : Nat) (i s n c : Int), 0 ≤ i → i + d = l.length → d < k → 0 ≤ s → s ≤ 9223372036854775807 → 0 ≤ n → n ≤ i →
    stat_total.l0 k y s n c l (l.length : Int) i = some (tot y (l.drop i.toNat) (s, n, c)) := by
  induction d with
  | zero =>
    intro k i s n c h0 h1 hk _ _ _ _
    obtain ⟨k, rfl⟩ : ∃ m, k = m + 1 := ⟨k - 1, by omega⟩
    simp only [stat_total.l0]
    rw [if_neg (by omega), List.drop_of_length_le (by omega)]
    rfl
  | succ d ih =>
    intro k i s n c h0 h1 hk hs0 hs1 hn0 hn1
    obtain ⟨k, rfl⟩ : ∃ m, k = m + 1 := ⟨k - 1, by omega⟩
    have hlt : i < (l.length : Int) := by omega
    simp only [stat_total.l0]
    rw [if_pos hlt, if_pos h0, if_pos hlt, may_spec, rd_drop l i h0 hlt]
    simp only [Option.bind_some, tot]
    rw [Z.wrap_small (n := i + 1) (by omega) (by omega)]
    cases hok : okS y (rd_T67 l i) with
    | true =>
      have h2 : 0 ≤ (rd_T67 l i).f2 := by
        unfold okS at hok
        exact (of_decide_eq_true hok).2.2.1
      rw [if_pos rfl, add_sat hs0 hs1 h2 (hb _ (rd_mem l i h0 hlt))]
      have hr := sat_range hs0 h2
      simp only [Option.bind_some, if_true]
      rw [Z.wrap_small (n := n + 1) (by omega) (by omega)]
      exact ih k (i + 1) _ _ _ (by omega) (by omega) (by omega) hr.1 hr.2 (by omega) (by omega)
    | false =>
      rw [if_neg (by simp), if_neg (by simp)]
      exact ih k (i + 1) _ _ _ (by omega) (by omega) (by omega) hs0 hs1 hn0 (by omega)

theorem total_spec (y : Int) (l : List S67) (hl : l.length ≤ 1000) (hb : ∀ s ∈ l, s.f2 ≤ 9223372036854775807) (k : Nat) (hk : l.length < k) : stat_total.f k l y = some (tot y l (0, 0, 0)) := by
  unfold stat_total.f
  rw [total_l0 y l hl hb l.length k 0 0 0 0 (by omega) (by omega) hk (by omega) (by omega) (by omega) (by omega)]
  rfl

/-- The loads of those that are not young; of all, if there are none. -/
def old (y : Int) (l : List S67) : Int × Int × Int := if (tot y l (0, 0, 0)).2.1 = 0 then tot 0 l (0, 0, 0) else tot y l (0, 0, 0)
theorem old_spec (y : Int) (l : List S67) (hl : l.length ≤ 1000) (hb : ∀ s ∈ l, s.f2 ≤ 9223372036854775807) (k : Nat) (hk : l.length < k) : stat_old.f k l y = some (old y l) := by
  unfold stat_old.f old
  rw [total_spec y l hl hb k hk, total_spec 0 l hl hb k hk]
  simp only [Option.bind_some]
  split <;> rfl

/-- Where the sum does not reach the end, it is the plain one. -/
def cnt (y : Int) (l : List S67) : Int := ((l.filter (okS y)).length : Int)
def sm (y : Int) (l : List S67) : Int := ((l.filter (okS y)).map S67.f2).sum
theorem sm_nonneg (y : Int) (l : List S67) : 0 ≤ sm y l := by
  unfold sm
  induction l with
  | nil => simp
  | cons x xs ih =>
    cases hok : okS y x with
    | true =>
      have h2 : 0 ≤ x.f2 := (of_decide_eq_true hok).2.2.1
      simp only [List.filter_cons, hok, if_true, List.map_cons, List.sum_cons]
      omega
    | false => simpa [List.filter_cons, hok] using ih
theorem cnt_nonneg (y : Int) (l : List S67) : 0 ≤ cnt y l := by unfold cnt; omega
theorem cnt_cons (y : Int) (x : S67) (xs : List S67) : cnt y (x :: xs) = (if okS y x then 1 else 0) + cnt y xs := by
  unfold cnt
  cases hok : okS y x <;> simp [List.filter_cons, hok]; omega
theorem sm_cons (y : Int) (x : S67) (xs : List S67) : sm y (x :: xs) = (if okS y x then x.f2 else 0) + sm y xs := by
  unfold sm
  cases hok : okS y x <;> simp [List.filter_cons, hok]
theorem tot_plain (y : Int) : ∀ (l : List S67) (s n : Int), 0 ≤ s → s + sm y l ≤ 9223372036854775807 → tot y l (s, n, 0) = (s + sm y l, n + cnt y l, 0) := by
  intro l
  induction l with
  | nil => intro s n _ _; simp [tot, sm, cnt]
  | cons x xs ih =>
    intro s n hs h
    rw [sm_cons] at h
    have h3 := sm_nonneg y xs
    simp only [tot, sm_cons, cnt_cons]
    cases hok : okS y x with
    | true =>
      have h2 : 0 ≤ x.f2 := (of_decide_eq_true hok).2.2.1
      rw [hok] at h
      simp only [if_true] at h ⊢
      have hsat : sat s x.f2 = (s + x.f2, 0) := by unfold sat; rw [if_pos (by omega)]
      rw [hsat]
      have : mx 0 0 = 0 := rfl
      simp only [this]
      rw [ih (s + x.f2) (n + 1) (by omega) (by omega)]
      simp only [Prod.mk.injEq, and_true]
      omega
    | false =>
      rw [hok] at h
      simp only [Bool.false_eq_true, if_false] at h ⊢
      rw [ih s n hs (by omega)]
      simp only [Prod.mk.injEq, and_true]
      omega

theorem and32 (x : Int) (h0 : 0 ≤ x) (h1 : x < 18446744073709551616) : Go.bits .and .u64 x 4294967295 = x % 4294967296 :=
  bits_mask .u64 64 (by decide) (fun n h0 h1 => by rw [Z.u64_wrap]; omega) 32 (by decide) x h0 h1

theorem half_bound {x y : Int} (hx0 : 0 ≤ x) (hx1 : x ≤ 4294967295) (hy0 : 0 ≤ y) (hy1 : y ≤ 4294967295) : 0 ≤ x * y ∧ x * y ≤ 18446744065119617025 :=
  ⟨Int.mul_nonneg hx0 hy0, by have := Int.mul_le_mul hx1 hy1 hy0 (by omega : (0:Int) ≤ 4294967295); omega⟩

/-- The whole product of two numbers of 64 bits, in two halves. -/
theorem mul64_spec (a b : Int) (ha0 : 0 ≤ a) (ha1 : a < 18446744073709551616) (hb0 : 0 ≤ b) (hb1 : b < 18446744073709551616) :
    bits_Mul64.f a b = some ((a * b) / 18446744073709551616, (a * b) % 18446744073709551616) := by
  unfold bits_Mul64.f
  simp only [Z.u64_wrap]
  rw [and32 a ha0 ha1, and32 b hb0 hb1]
  obtain ⟨a1, ea1⟩ : ∃ x, a / 4294967296 = x := ⟨_, rfl⟩
  obtain ⟨a0, ea0⟩ : ∃ x, a % 4294967296 = x := ⟨_, rfl⟩
  obtain ⟨b1, eb1⟩ : ∃ x, b / 4294967296 = x := ⟨_, rfl⟩
  obtain ⟨b0, eb0⟩ : ∃ x, b % 4294967296 = x := ⟨_, rfl⟩
  rw [ea1, ea0, eb1, eb0]
  have ha : a = 4294967296 * a1 + a0 := by omega
  have hb : b = 4294967296 * b1 + b0 := by omega
  have h11 := half_bound (x := a1) (y := b1) (by omega) (by omega) (by omega) (by omega)
  have h10 := half_bound (x := a1) (y := b0) (by omega) (by omega) (by omega) (by omega)
  have h01 := half_bound (x := a0) (y := b1) (by omega) (by omega) (by omega) (by omega)
  have h00 := half_bound (x := a0) (y := b0) (by omega) (by omega) (by omega) (by omega)
  have e : a * b = 18446744073709551616 * (a1 * b1) + 4294967296 * (a1 * b0) + 4294967296 * (a0 * b1) + a0 * b0 := by
    rw [ha, hb]; grind
  rw [e]
  clear e ha hb ea1 ea0 eb1 eb0
  generalize a1 * b1 = p at *
  generalize a1 * b0 = q at *
  generalize a0 * b1 = r at *
  generalize a0 * b0 = s at *
  rw [Int.emod_eq_of_lt (a := p) (by omega) (by omega), Int.emod_eq_of_lt (a := q) (by omega) (by omega), Int.emod_eq_of_lt (a := r) (by omega) (by omega), Int.emod_eq_of_lt (a := s) (by omega) (by omega)]
  rw [Int.emod_eq_of_lt (a := q + s / 4294967296) (by omega) (by omega)]
  rw [and32 _ (by omega) (by omega)]
  simp only [Option.some.injEq, Prod.mk.injEq, and_true]
  omega

theorem cnt_le (y : Int) (l : List S67) : cnt y l ≤ (l.length : Int) := by
  unfold cnt
  have := List.length_filter_le (okS y) l
  omega
theorem cnt_all (y : Int) (l : List S67) (h : ∀ s ∈ l, okS y s = true) : cnt y l = (l.length : Int) := by
  unfold cnt
  rw [List.filter_eq_self.2 h]
theorem sm_between (y lo hi : Int) (l : List S67) (h : ∀ s ∈ l, lo ≤ s.f2 ∧ s.f2 ≤ hi) : lo * cnt y l ≤ sm y l ∧ sm y l ≤ hi * cnt y l := by
  induction l with
  | nil => simp [cnt, sm]
  | cons x xs ih =>
    have h1 := ih (fun s hs => h s (List.mem_cons_of_mem _ hs))
    have h2 := h x (List.mem_cons_self ..)
    rw [sm_cons, cnt_cons]
    cases okS y x with
    | true => simp only [if_true, Int.mul_add, Int.mul_one]; omega
    | false => simpa using h1

theorem told_spec : spinnakerlaw9_told.f 30 = some true := by decide +kernel

theorem mean_spec (y : Int) (l : List S67) (hl : l.length ≤ 1000) (hb : ∀ s ∈ l, s.f2 ≤ 9223372036854775807) (k : Nat) (hk : l.length < k) (s n : Int) (ho : old y l = (s, n, 0)) (hs0 : 0 ≤ s) (hs1 : s ≤ 9223372036854775807) (hn : 0 < n) :
    stat_Mean.f k l y = some (s / n, n) := by
  unfold stat_Mean.f
  rw [old_spec y l hl hb k hk, ho]
  simp only [Option.bind_some]
  rw [if_neg (by omega), Int.tdiv_eq_ediv_of_nonneg hs0, Z.wrap_small]
  · have := Int.ediv_nonneg hs0 (show 0 ≤ n by omega); omega
  · have := Int.ediv_le_self n hs0; omega

theorem spread_spec (y : Int) (l : List S67) (hl : l.length ≤ 1000) (hb : ∀ s ∈ l, s.f2 ≤ 9223372036854775807) (k : Nat) (hk : l.length < k) (s n r : Int) (ho : old y l = (s, n, 0)) (hs0 : 0 ≤ s) (hs1 : s ≤ 4611686018427387904) (hn : 0 < n) (hr0 : 0 ≤ r) (hr1 : r ≤ 4611686018427387904)
    (hp : s * r ≤ 9223372036854775807) : stat_Spread.f k l y r = some (s * r / n, 0) := by
  unfold stat_Spread.f
  rw [old_spec y l hl hb k hk, ho]
  simp only [Option.bind_some]
  have hp0 : 0 ≤ s * r := Int.mul_nonneg hs0 hr0
  rw [if_neg (by omega), if_neg (by omega), Z.u64_wrap, Z.u64_wrap, Int.emod_eq_of_lt (a := s) hs0 (by omega), Int.emod_eq_of_lt (a := r) hr0 (by omega), mul64_spec s r hs0 (by omega) hr0 (by omega)]
  simp only [Option.bind_some]
  rw [Int.ediv_eq_zero_of_lt hp0 (by omega), if_neg (by omega), Int.emod_eq_of_lt hp0 (by omega), if_neg (by omega), Z.wrap_small (n := s * r) (by omega) (by omega), Int.tdiv_eq_ediv_of_nonneg hp0, Z.wrap_small]
  · have := Int.ediv_nonneg hp0 (show 0 ≤ n by omega); omega
  · have := Int.ediv_le_self n hp0; omega

end Go.Proofs.Ytcdfoicebcmlaaa.StatFM
