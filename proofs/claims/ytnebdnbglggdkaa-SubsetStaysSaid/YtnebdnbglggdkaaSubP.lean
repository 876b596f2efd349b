/- Subsets, plain: the first of those sorted, in their old order, are those with few ahead of them. -/
import Derived.Test.YtnebdnbglggdkaaSubB
namespace Go.Proofs.YtnebdnbglggdkaaW.Am
open Go Go.RowKit
/-- Numbers with their places. -/
def zL : Nat → List Int → List (Int × Int)
  | _, [] => []
  | k, a :: l => (a, (k : Int)) :: zL (k + 1) l
theorem zL_len : ∀ (l : List Int) (k : Nat), (zL k l).length = l.length
  | [], _ => rfl
  | a :: l, k => by simp [zL, zL_len l]
theorem zL_fst : ∀ (l : List Int) (k : Nat), (zL k l).map (·.1) = l
  | [], _ => rfl
  | a :: l, k => by simp [zL, zL_fst l]
theorem zL_app : ∀ (l : List Int) (k : Nat) (a : Int), zL k (l ++ [a]) = zL k l ++ [(a, ((k + l.length : Nat) : Int))]
  | [], k, a => by simp [zL]
  | b :: l, k, a => by simp [zL, zL_app l (k + 1) a]; omega
theorem zL_mem : ∀ {l : List Int} {k : Nat} {p : Int × Int}, p ∈ zL k l → (k : Int) ≤ p.2
  | [], _, _, h => by cases h
  | a :: l, k, p, h => by
    simp only [zL, List.mem_cons] at h
    rcases h with rfl | h
    · exact Int.le_refl _
    · have := zL_mem h; omega
theorem zL_pw : ∀ (l : List Int) (k : Nat), (zL k l).Pairwise fun x y => x.2 < y.2
  | [], _ => .nil
  | a :: l, k => .cons (fun p hp => by have := zL_mem hp; dsimp only; omega) (zL_pw l (k + 1))
theorem zL_get : ∀ {l : List Int} {k i : Nat} {a : Int}, l[i]? = some a → (zL k l)[i]? = some (a, ((k + i : Nat) : Int))
  | [], _, _, _, h => by cases h
  | b :: l, k, 0, a, h => by cases h; rfl
  | b :: l, k, i + 1, a, h => by
    have := zL_get (l := l) (k := k + 1) (i := i) (a := a) (by simpa using h)
    simp only [zL, List.getElem?_cons_succ, this]
    rw [show k + 1 + i = k + (i + 1) by omega]
/-- How many stand ahead. -/
def rk (L : List (Int × Int)) (x : Int × Int) : Nat := L.countP fun y => decide (ahF y x)
def subL (ids : List Int) (m : Nat) : List (Int × Int) := (zL 0 ids).filter fun x => decide (rk (zL 0 ids) x < m)
def subF (ids : List Int) (most : Int) : List Int := if most < 1 ∨ (ids.length : Int) ≤ most then ids else (subL ids most.toNat).map (·.1)
theorem ahF_irr (x : Int × Int) : ¬ ahF x x := by unfold ahF; omega
theorem ahF_asym {x y : Int × Int} (h : ahF x y) : ¬ ahF y x := by unfold ahF at *; omega
theorem ahF_tri {x y : Int × Int} (h : ¬ ahF y x) : ahF x y ∨ x = y := by
  obtain ⟨a, b⟩ := x
  obtain ⟨c, d⟩ := y
  unfold ahF at *
  dsimp only at *
  rcases Int.lt_trichotomy (scF a) (scF c) with h1 | h1 | h1
  · exact .inl (.inl h1)
  · rcases Int.lt_trichotomy a c with h2 | h2 | h2
    · exact .inl (.inr ⟨h1, .inl h2⟩)
    · rcases Int.lt_trichotomy b d with h3 | h3 | h3
      · exact .inl (.inr ⟨h1, .inr ⟨h2, h3⟩⟩)
      · exact .inr (by rw [h2, h3])
      · exact absurd (.inr ⟨h1.symm, .inr ⟨h2.symm, h3⟩⟩) h
    · exact absurd (.inr ⟨h1.symm, .inl h2⟩) h
  · exact absurd (.inl h1) h
theorem rk_at : ∀ {S : List (Int × Int)}, S.Pairwise ahF → ∀ {i : Nat} {x}, S[i]? = some x → rk S x = i
  | [], _, _, _, h => by cases h
  | a :: S, hp, 0, x, h => by
    cases h
    have hp := List.pairwise_cons.1 hp
    unfold rk
    rw [List.countP_cons, if_neg (by simp [ahF_irr])]
    rw [List.countP_eq_zero.2 fun y hy => by simp [ahF_asym (hp.1 y hy)]]
  | a :: S, hp, i + 1, x, h => by
    have hp := List.pairwise_cons.1 hp
    have h2 : S[i]? = some x := by simpa using h
    have := rk_at hp.2 h2
    unfold rk at *
    rw [List.countP_cons, this, if_pos (by simp [hp.1 x (List.mem_of_getElem? h2)])]
theorem filter_take {α : Type} {p : α → Bool} : ∀ (S : List α) (m : Nat), (∀ (i : Nat) x, S[i]? = some x → (p x = true ↔ i < m)) → S.filter p = S.take m
  | [], m, _ => by simp
  | a :: S, 0, h => by
    have h0 := h 0 a rfl
    rw [List.take_zero, List.filter_eq_nil_iff]
    intro x hx
    obtain ⟨i, hi⟩ := List.mem_iff_getElem?.1 hx
    have := h i x hi
    simp at this
    simpa using this
  | a :: S, m + 1, h => by
    have h0 := (h 0 a rfl).2 (by omega)
    rw [List.filter_cons, if_pos h0, List.take_succ_cons, filter_take S m fun i x hx => (h (i + 1) x (by simpa using hx)).trans (by omega)]
theorem pw_of {S : List (Int × Int)} (hs : S.Pairwise fun x y => ¬ ahF y x) (hn : S.Nodup) : S.Pairwise ahF := by
  refine (hs.and hn).imp ?_
  rintro x y ⟨h1, h2⟩
  exact (ahF_tri h1).resolve_right h2
theorem pw2_nodup {L : List (Int × Int)} (h : L.Pairwise fun x y => x.2 < y.2) : L.Nodup := h.imp fun h e => by rw [e] at h; omega
theorem pw2_uniq : ∀ {L : List (Int × Int)}, (L.Pairwise fun x y => x.2 < y.2) → ∀ {a b : Int × Int}, a ∈ L → b ∈ L → a.2 = b.2 → a = b
  | [], _, _, _, h, _, _ => by cases h
  | c :: L, h, a, b, ha, hb, e => by
    have h := List.pairwise_cons.1 h
    rcases List.mem_cons.1 ha with h1 | h1 <;> rcases List.mem_cons.1 hb with h2 | h2
    · rw [h1, h2]
    · have := h.1 b h2; rw [h1] at e; omega
    · have := h.1 a h1; rw [h2] at e; omega
    · exact pw2_uniq h.2 h1 h2 e
/-- What the two sorts leave. -/
theorem two_sorts {L S T : List (Int × Int)} {m : Nat} (hL : L.Pairwise fun x y => x.2 < y.2) (hS : S.Perm L) (hs : S.Pairwise fun x y => ¬ ahF y x) (hT : T.Perm (S.take m)) (ht : T.Pairwise fun x y => ¬ y.2 < x.2) :
    T = L.filter fun x => decide (rk L x < m) := by
  have hn := pw2_nodup hL
  have hp := pw_of hs (hS.nodup_iff.2 hn)
  have hrk : ∀ x, rk L x = rk S x := fun x => (hS.countP_eq _).symm
  have h1 : S.take m = S.filter fun x => decide (rk L x < m) := (filter_take S m fun i x hx => by rw [hrk, rk_at hp hx]; simp).symm
  rw [h1] at hT
  have h2 : T.Perm (L.filter fun x => decide (rk L x < m)) := hT.trans (hS.filter _)
  refine List.Perm.eq_of_pairwise (le := fun x y => x.2 ≤ y.2 ∧ (x ∈ L → y ∈ L → x.2 = y.2 → x = y)) ?_ ?_ ?_ h2
  · intro a b ha hb h3 h4
    have hab : a.2 = b.2 := by omega
    have ma : a ∈ L := (List.mem_filter.1 (h2.subset ha)).1
    have mb : b ∈ L := (List.mem_filter.1 hb).1
    exact h3.2 ma mb hab
  · refine ht.imp_of_mem fun {a b} ha hb h => ⟨by omega, fun ma mb e => ?_⟩
    exact pw2_uniq hL ma mb e
  · exact ((hL.sublist List.filter_sublist).imp fun h => ⟨by omega, fun ma mb e => by omega⟩)
end Go.Proofs.YtnebdnbglggdkaaW.Am
