/- What the printed functions of package sample come to, as plain functions on lists: for the pure texts of the laws of layer 10.
Conditions: each fact's own bounds. -/
import Derived.Test.YtcdfoicebcmlaaaPSamplex1
import Derived.Test.YtcdfoicebcmlaaaZ
set_option linter.unusedSimpArgs false
namespace Go.Proofs.Ytcdfoicebcmlaaa.SampleF
open Go.RowKit Go.Proofs.Ytcdfoicebcmlaaa.PSample Go.Proofs.YtcdfoicebcmlaaaW.PrintWords Go.Proofs.YtcdfoicebcmlaaaW.PrintLast Go.Proofs.YtcdfoicebcmlaaaW.PrintMore

theorem size_small : ∀ n : Fin 210, ∃ s : Int, sample_Size.f ((n : Nat) : Int) = some s ∧ 0 ≤ s ∧ s ≤ 16 ∧ s ≤ ((n : Nat) : Int) ∧ (1 ≤ ((n : Nat) : Int) → 1 ≤ s) := by
  have h : ∀ n : Fin 210, ((sample_Size.f ((n : Nat) : Int)).bind fun s => some (decide (0 ≤ s ∧ s ≤ 16 ∧ s ≤ ((n : Nat) : Int) ∧ (1 ≤ ((n : Nat) : Int) → 1 ≤ s)))) = some true := by decide +kernel
  intro n
  have h := h n
  cases hs : sample_Size.f ((n : Nat) : Int) with
  | none => rw [hs] at h; cases h
  | some s =>
    rw [hs] at h
    simp only [Option.bind_some, Option.some.injEq, decide_eq_true_eq] at h
    exact ⟨s, rfl, h⟩
theorem size_any (n : Nat) : ∃ s : Int, sample_Size.f (n : Int) = some s ∧ 0 ≤ s ∧ s ≤ 16 ∧ s ≤ (n : Int) ∧ (1 ≤ (n : Int) → 1 ≤ s) := by
  by_cases h : n < 210
  · exact size_small ⟨n, h⟩
  · refine ⟨16, ?_, by omega, by omega, by omega, by omega⟩
    unfold sample_Size.f
    rw [if_neg (by omega), if_neg (by omega), if_pos (by omega)]

/-- Who is asked: so many, from a place on, round about. -/
def asks (ids : List Int) (b : Int) (s d : Nat) : List Int := (List.range' s d).map fun j : Nat => rd ids ((b + (j : Int)) % (ids.length : Int))

theorem which_l0 (ids : List Int) (hn : 0 < ids.length) (hl : ids.length ≤ 1000) (r q : Int) (hr : 0 ≤ r) (hq0 : 0 ≤ q) (hq1 : q ≤ 1000) (d : Nat) : ∀ (k : Nat) (i : Nat) (out : List Int), (i : Int) + d = q → d < k → out.length = i →
    sample_Which.l0 k ids r (ids.length : Int) q out q (i : Int) = some (out ++ asks ids ((r % (ids.length : Int)) * q) i d) := by
  induction d with
  | zero =>
    intro k i out h1 hk hout
    obtain ⟨k, rfl⟩ : ∃ m, k = m + 1 := ⟨k - 1, by omega⟩
    simp only [sample_Which.l0]
    rw [if_neg (by omega)]
    simp [asks]
  | succ d ih =>
    intro k i out h1 hk hout
    obtain ⟨k, rfl⟩ : ∃ m, k = m + 1 := ⟨k - 1, by omega⟩
    have hm : mx r 0 = r := by unfold mx; split <;> omega
    have h2 := Int.emod_nonneg r (show (ids.length : Int) ≠ 0 by omega)
    have h3 := Int.emod_lt_of_pos r (show (0 : Int) < (ids.length : Int) by omega)
    have h4 : 0 ≤ (r % (ids.length : Int)) * q ∧ (r % (ids.length : Int)) * q ≤ 1000000 :=
      ⟨Int.mul_nonneg h2 hq0, by have := Int.mul_le_mul (show r % (ids.length : Int) ≤ 1000 by omega) hq1 hq0 (show (0 : Int) ≤ 1000 by omega); omega⟩
    simp only [sample_Which.l0]
    rw [hm, if_pos (by omega), if_neg (by omega)]
    generalize hb : (r % (ids.length : Int)) * q = b at *
    rw [Z.wrap_small (n := b) (by omega) (by omega), Z.wrap_small (n := b + (i : Int)) (by omega) (by omega), Z.wrap_small (n := (i : Int) + 1) (by omega) (by omega),
      Int.tmod_eq_emod_of_nonneg (by omega)]
    have h5 := Int.emod_nonneg (b + (i : Int)) (show (ids.length : Int) ≠ 0 by omega)
    have h6 := Int.emod_lt_of_pos (b + (i : Int)) (show (0 : Int) < (ids.length : Int) by omega)
    rw [if_pos h5, if_pos h6, if_pos (by omega)]
    have h7 := ih k (i + 1) (out ++ [rd ids ((b + (i : Int)) % (ids.length : Int))]) (by omega) (by omega) (by simp [hout])
    rw [show ((i + 1 : Nat) : Int) = (i : Int) + 1 by omega] at h7
    rw [h7]
    simp [asks, List.range'_succ]

theorem which_spec (ids : List Int) (hl : ids.length ≤ 1000) (most r : Int) (hr : 0 ≤ r) (k : Nat) (hk : 1010 ≤ k) :
    ∃ s q : Int, sample_Size.f (ids.length : Int) = some s ∧ q = (if 0 < most ∧ most < s then most else s) ∧ sample_Which.f k ids most r = some (asks ids ((r % (ids.length : Int)) * q) 0 q.toNat) := by
  obtain ⟨s, hs, h0, h1, h2, h3⟩ := size_any ids.length
  refine ⟨s, _, hs, rfl, ?_⟩
  obtain ⟨k, rfl⟩ : ∃ m, k = m + 2 := ⟨k - 2, by omega⟩
  unfold sample_Which.f
  rw [hs]
  simp only [Option.bind_some]
  have key : ∀ q : Int, 0 ≤ q → q ≤ s → sample_Which.l0 k ids r (ids.length : Int) q ([] : List Int) q 0 = some (asks ids ((r % (ids.length : Int)) * q) 0 q.toNat) := by
    intro q hq0 hq1
    rcases Nat.eq_zero_or_pos ids.length with hz | hz
    · have : q = 0 := by omega
      subst this
      obtain ⟨k, rfl⟩ : ∃ m, k = m + 1 := ⟨k - 1, by omega⟩
      simp only [sample_Which.l0]
      rw [if_neg (by omega)]
      simp [asks]
    · have := which_l0 ids hz hl r q hr hq0 (by omega) q.toNat k 0 [] (by omega) (by omega) rfl
      simpa using this
  have hj1 : ∀ q, sample_Which.j1 (k + 1) ids r (ids.length : Int) q = sample_Which.l0 k ids r (ids.length : Int) q ([] : List Int) q 0 := fun q => by simp only [sample_Which.j1]
  by_cases hm : most > 0
  · rw [if_pos hm]
    simp only [sample_Which.j0]
    by_cases hm2 : most < s
    · rw [if_pos (by simpa using hm2), if_pos ⟨hm, hm2⟩, hj1]
      exact key most (by omega) (by omega)
    · rw [if_neg (by simpa using hm2), if_neg (by omega), hj1]
      exact key s (by omega) (by omega)
  · rw [if_neg hm]
    simp only [sample_Which.j0]
    rw [if_neg (by simp), if_neg (by omega), hj1]
    exact key s (by omega) (by omega)

theorem asks_length (ids : List Int) (b : Int) (s d : Nat) : (asks ids b s d).length = d := by simp [asks]
theorem asks_rd (ids : List Int) (b : Int) (d : Nat) (j : Int) (h0 : 0 ≤ j) (h1 : j < (d : Int)) : rd (asks ids b 0 d) j = rd ids ((b + j) % (ids.length : Int)) := by
  unfold asks
  obtain ⟨m, rfl⟩ := Int.eq_ofNat_of_zero_le h0
  have hm : m < d := by omega
  rw [rd, List.getD_eq_getElem?_getD]
  simp [hm]

theorem told_spec : spinnakerlaw10_told.f 30 = some true := by decide +kernel

end Go.Proofs.Ytcdfoicebcmlaaa.SampleF
