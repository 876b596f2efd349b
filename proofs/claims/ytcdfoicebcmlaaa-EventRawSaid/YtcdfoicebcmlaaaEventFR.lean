/- What the printed functions of package event come to, as plain functions on lists: for the pure texts of the laws of layer 23.
Conditions: each fact's own bounds. -/
import Derived.Test.YtcdfoicebcmlaaaPEvRawx4
import Derived.Test.YtcdfoicebcmlaaaZ
set_option linter.unusedSimpArgs false
set_option linter.unusedVariables false
namespace Go.Proofs.Ytcdfoicebcmlaaa.EventFR
open Go.RowKit Go.Proofs.Ytcdfoicebcmlaaa.PEvRaw Go.Proofs.YtcdfoicebcmlaaaW.PrintWords Go.Proofs.YtcdfoicebcmlaaaW.PrintLast Go.Proofs.YtcdfoicebcmlaaaW.PrintMore

theorem toList_nil (s : ByteArray) : s.toList = [] ↔ s.size = 0 := by
  rw [ByteArray.toList_eq, ← data_length, List.length_eq_zero_iff]

theorem toList_bne (s : ByteArray) : (s.toList != []) = decide (s.size ≠ 0) := by
  by_cases h : s.size = 0
  · rw [(toList_nil s).2 h]; simp [h]
  · have : s.toList ≠ [] := fun e => h ((toList_nil s).1 e)
    simp [h, this]

/-- Which events may be. -/
def may (s : S50) : Bool :=
  if s.f0 = 5 then decide (s.f1 = 0 ∧ s.f2.size ≤ 200)
  else decide (s.f2.size = 0) && (if s.f0 = 1 then decide (1 ≤ s.f1 ∧ s.f1 ≤ 200) else if s.f0 = 2 then decide (1 ≤ s.f1 ∧ s.f1 ≤ 100) else if s.f0 = 3 ∨ s.f0 = 4 then decide (0 ≤ s.f1 ∧ s.f1 ≤ 999) else if s.f0 = 6 then decide (1 ≤ s.f1 ∧ s.f1 ≤ 50) else false)

theorem ite_dec {p q : Prop} [Decidable p] [Decidable q] : (if p then some (decide q) else some false) = some (decide (p ∧ q)) := by
  by_cases h : p <;> simp [h]

theorem may_spec (k : Nat) (a b : Int) (t : ByteArray) : event_May.f (k + 2) a b t = some (may ⟨a, b, t⟩) := by
  unfold event_May.f event_of.f may
  simp only [Option.bind_some]
  have hsz : ((t.size : Int) ≤ 200) = (t.size ≤ 200) := by apply propext; omega
  by_cases h5 : a = 5
  · subst h5
    simp only [if_true, event_May.j0, event_May.j1]
    rw [if_neg (by simp), if_neg (by decide), if_neg (by decide), if_neg (by decide), if_neg (by decide), ite_dec]
    simp only [hsz, if_pos]
  · rw [if_neg h5, if_neg h5, toList_bne]
    simp only [event_May.j0, event_May.j1]
    by_cases hz : t.size = 0
    · rw [if_neg (by simp [hz])]
      by_cases h1 : a = 1
      · rw [if_pos h1, if_pos h1]; simp [hz, ite_dec]
      rw [if_neg h1, if_neg h1]
      by_cases h2 : a = 2
      · rw [if_pos h2, if_pos h2]; simp [hz, ite_dec]
      rw [if_neg h2, if_neg h2]
      by_cases h3 : a = 3
      · subst h3; simp [hz, ite_dec]
      rw [if_neg h3]
      by_cases h4 : a = 4
      · subst h4; simp [hz, ite_dec]
      by_cases h6 : a = 6
      · subst h6; simp [hz, ite_dec]
      simp [h3, h4, h5, h6, hz]
    · rw [if_pos (by simp [hz])]; simp [hz]

theorem may_at (k : Nat) (hk : 2 ≤ k) (s : S50) : event_May.f k s.f0 s.f1 s.f2 = some (may s) := by
  obtain ⟨k, rfl⟩ : ∃ m, k = m + 2 := ⟨k - 2, by omega⟩
  exact may_spec k s.f0 s.f1 s.f2

/-- An event's bytes. -/
def enc (s : S50) : List Int := if s.f0 = 5 then s.f0 % 256 :: (s.f2.size : Int) % 256 :: bytesOf s.f2 else [s.f0 % 256, (s.f1 / 256) % 256, s.f1 % 256]
theorem may_size {s : S50} (h : may s = true) : s.f2.size ≤ 200 := by
  unfold may at h
  by_cases h5 : s.f0 = 5
  · rw [if_pos h5] at h; exact (of_decide_eq_true h).2
  · rw [if_neg h5] at h
    simp only [Bool.and_eq_true, decide_eq_true_eq] at h
    omega
theorem enc_len {s : S50} (h : may s = true) : 2 ≤ (enc s).length ∧ (enc s).length ≤ 202 := by
  have := may_size h
  unfold enc
  split <;> simp [bytesOf_length] <;> omega
def encs_ (l : List S50) : List Int := l.flatMap enc

theorem rd_drop (l : List S50) (i : Int) (h0 : 0 ≤ i) (h1 : i < (l.length : Int)) : l.drop i.toNat = rd_T50 l i :: l.drop (i + 1).toNat := by
  have hi : i.toNat < l.length := by omega
  rw [List.drop_eq_getElem_cons hi, show (i + 1).toNat = i.toNat + 1 by omega]
  unfold rd_T50
  rw [List.getD_eq_getElem?_getD, List.getElem?_eq_getElem hi]
  rfl

theorem put_l0 (l : List S50) (hl : l.length ≤ 1000) (d : Nat) : ∀ (k : Nat) (i : Int) (out : List Int), 0 ≤ i → i + d = l.length → d + 2 < k → (out.length : Int) ≤ 202 * i →
    event_Put.l0 k out l (l.length : Int) i = cond ((l.drop i.toNat).all may) (some (out ++ encs_ (l.drop i.toNat), 0)) (some ([], 1)) := by
  induction d with
  | zero =>
    intro k i out h0 h1 hk _
    obtain ⟨k, rfl⟩ : ∃ m, k = m + 1 := ⟨k - 1, by omega⟩
    simp only [event_Put.l0]
    rw [if_neg (by omega), List.drop_of_length_le (by omega)]
    simp [encs_]
  | succ d ih =>
    intro k i out h0 h1 hk ho
    obtain ⟨k, rfl⟩ : ∃ m, k = m + 1 := ⟨k - 1, by omega⟩
    have hlt : i < (l.length : Int) := by omega
    simp only [event_Put.l0]
    rw [if_pos hlt, if_pos h0, if_pos hlt, may_at k (by omega), rd_drop l i h0 hlt, Z.wrap_small (n := i + 1) (by omega) (by omega)]
    simp only [Option.bind_some, List.all_cons]
    generalize hx : rd_T50 l i = x
    by_cases hm : may x = true
    case neg => rw [if_neg hm]; simp [hm]
    case pos =>
      have hs := may_size hm
      have hlen := enc_len hm
      rw [if_pos hm, if_pos (by omega)]
      simp only [hm, Bool.true_and]
      by_cases h5 : x.f0 = 5
      · rw [if_pos h5, if_pos (by simp; omega), if_pos (by simp; omega)]
        rw [ih k (i + 1) _ (by omega) (by omega) (by omega) (by simp [bytesOf_length]; omega)]
        simp [encs_, enc, h5]
      · rw [if_neg h5, if_pos (by simp; omega)]
        rw [ih k (i + 1) _ (by omega) (by omega) (by omega) (by simp; omega)]
        simp [encs_, enc, h5]

theorem put_spec (l : List S50) (hl : l.length ≤ 1000) (k : Nat) (hk : l.length + 2 < k) : event_Put.f k l = cond (l.all may) (some (encs_ l, 0)) (some ([], 1)) := by
  unfold event_Put.f
  rw [put_l0 l hl l.length k 0 [] (by omega) (by omega) hk (by simp)]
  simp
end Go.Proofs.Ytcdfoicebcmlaaa.EventFR
