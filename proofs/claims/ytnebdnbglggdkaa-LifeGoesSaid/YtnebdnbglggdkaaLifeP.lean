/- Pods over abstract heaps: what is left when one goes. -/
import Derived.Test.YtnebdnbglggdkaaLifeO
namespace Go.Proofs.YtnebdnbglggdkaaW.Am
open Go Go.RowKit
abbrev p0 : Pd := (0, 0, 0, 0)
/-- One goes: at once, or it drains. -/
def dnF (now : Int) (l : List Pd) : List Pd :=
  if (l.getD (nxF l l.length).toNat p0).2.2.1 = 0 then l.take (nxF l l.length).toNat ++ l.drop ((nxF l l.length).toNat + 1)
  else l.set (nxF l l.length).toNat ((l.getD (nxF l l.length).toNat p0).1, 3, (l.getD (nxF l l.length).toNat p0).2.2.1, now)
def dnN (now : Int) (l : List Pd) : Nat → List Pd
  | 0 => l
  | k + 1 => dnF now (dnN now l k)
theorem nxF_st (l : List Pd) : ∀ i, 0 ≤ nxF l i → (l.getD (nxF l i).toNat p0).2.1 ≠ 3
  | 0, h => by simp [nxF] at h
  | i + 1, h => by
    have ih := nxF_st l i
    simp only [nxF, nxS] at h ⊢
    split
    · next h3 => rw [if_pos h3] at h; exact ih h
    · next h3 =>
      split
      · rw [Int.toNat_natCast]; exact h3
      · split
        · rw [Int.toNat_natCast]; exact h3
        · exact ih (by omega)
theorem nxF_ge (l : List Pd) : ∀ i, (∃ m, m < i ∧ (l.getD m p0).2.1 ≠ 3) → 0 ≤ nxF l i
  | 0, ⟨m, h, _⟩ => by omega
  | i + 1, ⟨m, h, h2⟩ => by
    simp only [nxF, nxS]
    split
    · next h3 =>
      refine nxF_ge l i ⟨m, ?_, h2⟩
      rcases Nat.lt_or_ge m i with h4 | h4
      · exact h4
      · exact absurd h3 (by rw [show i = m by omega]; exact h2)
    · next h3 =>
      split
      · omega
      · split <;> omega
theorem cF_pos (l : List Pd) (h : 0 < cF l) : ∃ m, m < l.length ∧ (l.getD m p0).2.1 ≠ 3 := by
  obtain ⟨p, hp⟩ := List.exists_mem_of_length_pos h
  obtain ⟨h1, h2⟩ := List.mem_filter.1 hp
  obtain ⟨m, hm, rfl⟩ := List.getElem_of_mem h1
  exact ⟨m, hm, by rw [List.getD_eq_getElem?_getD, List.getElem?_eq_getElem hm]; simpa using h2⟩
theorem cF_app2 (l k : List Pd) : cF (l ++ k) = cF l + cF k := by simp [cF]
theorem cF_split (l : List Pd) {k : Nat} (hk : k < l.length) : cF l = cF (l.take k) + cF [l[k]] + cF (l.drop (k + 1)) := by
  rw [← cF_app2, ← cF_app2]
  congr 1
  rw [List.append_assoc]
  simp
/-- Of the one that goes: where it stands, and that it does not drain. -/
theorem nx_at (l : List Pd) (h : 0 < cF l) : ∃ (k : Nat) (hk : k < l.length), nxF l l.length = k ∧ (l[k]).2.1 ≠ 3 := by
  have h0 := nxF_ge l l.length (cF_pos l h)
  have h1 := nxF_bd l l.length
  have h2 := nxF_st l l.length h0
  refine ⟨(nxF l l.length).toNat, by omega, by omega, ?_⟩
  rwa [List.getD_eq_getElem?_getD, List.getElem?_eq_getElem (by omega)] at h2
theorem dnF_at (now : Int) (l : List Pd) {k : Nat} (hk : k < l.length) (e : nxF l l.length = k) : dnF now l = if (l[k]).2.2.1 = 0 then l.take k ++ l.drop (k + 1) else l.set k ((l[k]).1, 3, (l[k]).2.2.1, now) := by
  unfold dnF
  have : l.getD k p0 = l[k] := by rw [List.getD_eq_getElem?_getD, List.getElem?_eq_getElem hk]; rfl
  rw [e, Int.toNat_natCast, this]
theorem dnF_c (now : Int) (l : List Pd) (h : 0 < cF l) : cF (dnF now l) + 1 = cF l := by
  obtain ⟨k, hk, e, h3⟩ := nx_at l h
  have hs := cF_split l hk
  have h1 : cF [l[k]] = 1 := by simp [cF, h3]
  rw [dnF_at now l hk e]
  split
  · rw [cF_app2]; omega
  · have hs2 := cF_split (l.set k ((l[k]).1, 3, (l[k]).2.2.1, now)) (k := k) (by simpa using hk)
    rw [List.take_set_of_le (by omega), List.drop_set_of_lt (by omega)] at hs2
    have : cF [(l.set k ((l[k]).1, 3, (l[k]).2.2.1, now))[k]'(by simpa using hk)] = 0 := by simp [cF]
    omega
theorem dnN_c (now : Int) (l : List Pd) : ∀ k, k ≤ cF l → cF (dnN now l k) + k = cF l
  | 0, _ => rfl
  | k + 1, h => by
    have := dnN_c now l k (by omega)
    have := dnF_c now (dnN now l k) (by omega)
    simp only [dnN]
    omega
theorem dnF_len (now : Int) (l : List Pd) : (dnF now l).length ≤ l.length := by
  unfold dnF
  split
  · simp; omega
  · simp
theorem dnN_len (now : Int) (l : List Pd) : ∀ k, (dnN now l k).length ≤ l.length
  | 0 => Nat.le_refl _
  | k + 1 => Nat.le_trans (dnF_len now _) (dnN_len now l k)
theorem ModL.sub {L j : Nat} {ps qs : List (Nat × Pd)} {h h' : Hp} (m : ModL L j ps h h') (hs : ∀ p ∈ ps, ∃ q ∈ qs, q.1 = p.1) : ModL L j qs h h' :=
  ⟨m.1, fun k h1 h2 h3 h4 => m.2 k h1 h2 h3 fun p hp => let ⟨q, hq, e⟩ := hs p hp; e ▸ h4 q hq⟩
end Go.Proofs.YtnebdnbglggdkaaW.Am
