/- Subsets, plain: how many, who is in. -/
import Derived.Test.YtnebdnbglggdkaaSubP
namespace Go.Proofs.YtnebdnbglggdkaaW.Am
open Go Go.RowKit
theorem subL_len (l : List Int) (m : Nat) : (subL l m).length = min m l.length := by
  have hn := pw2_nodup (zL_pw l 0)
  have hP : ((zL 0 l).mergeSort fun x y => decide (¬ ahF y x)).Perm (zL 0 l) := List.mergeSort_perm _ _
  have hs : ((zL 0 l).mergeSort fun x y => decide (¬ ahF y x)).Pairwise fun x y => decide (¬ ahF y x) = true := by
    refine List.pairwise_mergeSort (fun a b c h1 h2 => ?_) (fun a b => ?_) _
    · simp only [decide_eq_true_eq] at *
      unfold ahF at *
      omega
    · rw [Bool.or_eq_true, decide_eq_true_eq, decide_eq_true_eq]
      unfold ahF
      omega
  generalize ((zL 0 l).mergeSort fun x y => decide (¬ ahF y x)) = S at hP hs
  have hp := pw_of (hs.imp fun h => by simpa using h) (hP.nodup_iff.2 hn)
  have hrk : ∀ x, rk (zL 0 l) x = rk S x := fun x => (hP.countP_eq _).symm
  have h1 : (S.filter fun x => decide (rk (zL 0 l) x < m)) = S.take m := filter_take S m fun i x hx => by rw [hrk, rk_at hp hx]; simp
  have h2 : (subL l m).Perm (S.take m) := by
    rw [← h1]
    exact (hP.filter _).symm
  rw [h2.length_eq, List.length_take, hP.length_eq, zL_len]
theorem subF_len (l : List Int) {m : Int} (hm : 1 ≤ m) : ((subF l m).length : Int) = min m l.length := by
  unfold subF
  split
  · omega
  · rw [List.length_map, subL_len]; omega
theorem subF_sub (l : List Int) (m : Int) : (subF l m).Sublist l := by
  unfold subF
  split
  · exact List.Sublist.refl _
  · have := (List.filter_sublist (p := fun x => decide (rk (zL 0 l) x < m.toNat)) (l := zL 0 l)).map (·.1)
    rw [zL_fst] at this
    exact this
theorem subF_mono (l : List Int) {x y : Int} (hx : 1 ≤ x) (hxy : x ≤ y) : (subF l x).Sublist (subF l y) := by
  by_cases hy : (l.length : Int) ≤ y
  · have : subF l y = l := by unfold subF; rw [if_pos (.inr hy)]
    rw [this]
    exact subF_sub l x
  · unfold subF
    rw [if_neg (by omega), if_neg (by omega)]
    refine List.Sublist.map _ ?_
    unfold subL
    have : (zL 0 l).filter (fun z => decide (rk (zL 0 l) z < x.toNat)) = ((zL 0 l).filter fun z => decide (rk (zL 0 l) z < y.toNat)).filter fun z => decide (rk (zL 0 l) z < x.toNat) := by
      rw [List.filter_filter]
      refine List.filter_congr fun z _ => ?_
      by_cases h : rk (zL 0 l) z < x.toNat
      · have h2 : rk (zL 0 l) z < y.toNat := by omega
        simp [h, h2]
      · simp [h]
    rw [this]
    exact List.filter_sublist
/-- Ahead, by scores and numbers. -/
def bfI (b a : Int) : Prop := scF b < scF a ∨ (scF b = scF a ∧ b < a)
instance (b a : Int) : Decidable (bfI b a) := by unfold bfI; infer_instance
def rkI (l : List Int) (a : Int) : Nat := l.countP fun b => decide (bfI b a)
theorem zL_at : ∀ {l : List Int} {k : Nat} {p : Int × Int}, p ∈ zL k l → ∃ i : Nat, l[i]? = some p.1 ∧ p.2 = ((k + i : Nat) : Int)
  | [], _, _, h => by cases h
  | a :: l, k, p, h => by
    simp only [zL, List.mem_cons] at h
    rcases h with rfl | h
    · exact ⟨0, rfl, by simp⟩
    · obtain ⟨i, h1, h2⟩ := zL_at h
      exact ⟨i + 1, by simpa using h1, by rw [h2]; congr 1; omega⟩
theorem nodup_at {l : List Int} (hn : l.Nodup) {i j : Nat} {a : Int} (h1 : l[i]? = some a) (h2 : l[j]? = some a) : i = j := by
  have hi := (List.getElem?_eq_some_iff.1 h1).1
  exact (List.getElem?_inj hi hn).1 (h1.trans h2.symm)
theorem rk_rkI {l : List Int} (hn : l.Nodup) {p : Int × Int} (hp : p ∈ zL 0 l) : rk (zL 0 l) p = rkI l p.1 := by
  have h1 : rkI l p.1 = (zL 0 l).countP fun y => decide (bfI y.1 p.1) := by
    unfold rkI
    conv => lhs; rw [← zL_fst l 0]
    rw [List.countP_map]
    rfl
  rw [h1]
  unfold rk
  refine List.countP_congr fun y hy => ?_
  simp only [decide_eq_true_eq]
  obtain ⟨i, e1, e2⟩ := zL_at hp
  obtain ⟨j, f1, f2⟩ := zL_at hy
  unfold ahF bfI
  constructor
  · rintro (h | ⟨h, h3 | ⟨h3, h4⟩⟩)
    · exact .inl h
    · exact .inr ⟨h, h3⟩
    · rw [h3] at f1
      have := nodup_at hn f1 e1
      omega
  · rintro (h | ⟨h, h3⟩)
    · exact .inl h
    · exact .inr ⟨h, .inl h3⟩
theorem rkI_lt {l : List Int} {a : Int} (ha : a ∈ l) : rkI l a < l.length := by
  unfold rkI
  rcases Nat.lt_or_ge (l.countP fun b => decide (bfI b a)) l.length with h | h
  · exact h
  · have h2 := List.countP_eq_length.1 (Nat.le_antisymm List.countP_le_length h) a ha
    simp only [decide_eq_true_eq] at h2
    unfold bfI at h2
    omega
theorem mem_subF {l : List Int} (hn : l.Nodup) {m : Int} (hm : 1 ≤ m) {a : Int} : a ∈ subF l m ↔ a ∈ l ∧ (rkI l a : Int) < m := by
  unfold subF
  split
  · next h =>
    constructor
    · intro ha
      have := rkI_lt ha
      exact ⟨ha, by omega⟩
    · exact fun h => h.1
  · next h =>
    constructor
    · intro ha
      obtain ⟨p, hp, rfl⟩ := List.mem_map.1 ha
      obtain ⟨h1, h2⟩ := List.mem_filter.1 hp
      rw [rk_rkI hn h1] at h2
      obtain ⟨i, e1, _⟩ := zL_at h1
      exact ⟨List.mem_of_getElem? e1, by simp at h2; omega⟩
    · rintro ⟨ha, h2⟩
      obtain ⟨i, hi⟩ := List.mem_iff_getElem?.1 ha
      have h1 : (a, ((0 + i : Nat) : Int)) ∈ zL 0 l := List.mem_of_getElem? (zL_get hi)
      refine List.mem_map.2 ⟨(a, ((0 + i : Nat) : Int)), List.mem_filter.2 ⟨h1, ?_⟩, rfl⟩
      rw [rk_rkI hn h1]
      simp only [decide_eq_true_eq]
      omega
/-- Numbers by steps. -/
def stI (b st : Int) (k : Nat) : List Int := (List.range k).map fun i : Nat => b + st * (i : Int)
theorem stI_len (b st : Int) (k : Nat) : (stI b st k).length = k := by simp [stI]
theorem stI_succ (b st : Int) (k : Nat) : stI b st (k + 1) = stI b st k ++ [b + st * (k : Int)] := by simp [stI, List.range_succ]
theorem stI_get {b st : Int} {k i : Nat} (h : i < k) : (stI b st k)[i]? = some (b + st * (i : Int)) := by simp [stI, h]
theorem stI_pw {b st : Int} (h : 0 < st) (k : Nat) : (stI b st k).Pairwise fun x y => x < y := by
  unfold stI
  rw [List.pairwise_map]
  refine List.pairwise_lt_range.imp fun {i j} hij => ?_
  have : st * (i : Int) < st * (j : Int) := Int.mul_lt_mul_of_pos_left (by omega) h
  omega
theorem pw_nd {l : List Int} (h : l.Pairwise fun x y => x < y) : l.Nodup := h.imp fun h => by omega
/-- Without one. -/
theorem less_mem {l : List Int} (hn : l.Nodup) {w : Nat} {z : Int} (hw : l[w]? = some z) {a : Int} : a ∈ l.take w ++ l.drop (w + 1) ↔ a ∈ l ∧ a ≠ z := by
  obtain ⟨hl, hz⟩ := List.getElem?_eq_some_iff.1 hw
  have hsp : l = l.take w ++ z :: l.drop (w + 1) := by
    have := List.take_append_drop w l
    rw [List.drop_eq_getElem_cons hl, hz] at this
    exact this.symm
  have hn2 := hn
  rw [hsp] at hn2
  have h3 := List.nodup_append.1 hn2
  have h4 := List.nodup_cons.1 h3.2.1
  constructor
  · intro ha
    refine ⟨?_, ?_⟩
    · rw [hsp]
      rcases List.mem_append.1 ha with h | h
      · exact List.mem_append_left _ h
      · exact List.mem_append_right _ (List.mem_cons_of_mem _ h)
    · rintro rfl
      rcases List.mem_append.1 ha with h | h
      · exact h3.2.2 a h a (List.mem_cons_self ..) rfl
      · exact h4.1 h
  · rintro ⟨ha, hne⟩
    rw [hsp] at ha
    rcases List.mem_append.1 ha with h | h
    · exact List.mem_append_left _ h
    · rcases List.mem_cons.1 h with h | h
      · exact absurd h hne
      · exact List.mem_append_right _ h
theorem less_sub (l : List Int) (w : Nat) : (l.take w ++ l.drop (w + 1)).Sublist l := by
  have h : (l.drop (w + 1)).Sublist (l.drop w) := by rw [← List.drop_drop]; exact List.drop_sublist _ _
  have := (List.Sublist.refl (l.take w)).append h
  rwa [List.take_append_drop] at this
theorem less_rk (l : List Int) (w : Nat) (a : Int) : rkI (l.take w ++ l.drop (w + 1)) a ≤ rkI l a := (less_sub l w).countP_le
theorem stays {l : List Int} (hn : l.Nodup) {w : Nat} {z : Int} (hw : l[w]? = some z) {m : Int} (hm : 1 ≤ m) {a : Int} (ha : a ∈ subF l m) (hne : a ≠ z) : a ∈ subF (l.take w ++ l.drop (w + 1)) m := by
  obtain ⟨h1, h2⟩ := (mem_subF hn hm).1 ha
  refine (mem_subF (hn.sublist (less_sub l w)) hm).2 ⟨(less_mem hn hw).2 ⟨h1, hne⟩, ?_⟩
  have := less_rk l w a
  omega
end Go.Proofs.YtnebdnbglggdkaaW.Am
