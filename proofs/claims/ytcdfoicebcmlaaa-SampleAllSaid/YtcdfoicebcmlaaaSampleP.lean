/- Plain counting for SampleAll: in as many rounds as there are pods each one is asked, and as often as each other. -/
import Derived.Test.YtcdfoicebcmlaaaSampleC
namespace Go.Proofs.YtcdfoicebcmlaaaW.Am
open Go Go.RowKit

def sumN (g : Nat → Nat) : Nat → Nat
  | 0 => 0
  | k + 1 => sumN g k + g k
theorem sumN_congr {g f : Nat → Nat} {n : Nat} (h : ∀ i, i < n → g i = f i) : sumN g n = sumN f n := by
  induction n with
  | zero => rfl
  | succ n ih => simp only [sumN]; rw [ih fun i hi => h i (by omega), h n (by omega)]
theorem sumN_le {g : Nat → Nat} {n b : Nat} (h : ∀ i, i < n → g i ≤ b) : sumN g n ≤ n * b := by
  induction n with
  | zero => simp [sumN]
  | succ n ih =>
    have h1 := ih fun i hi => h i (by omega)
    have h2 := h n (by omega)
    simp only [sumN]
    rw [Nat.succ_mul]
    omega
theorem sumN_add (g : Nat → Nat) (a b : Nat) : sumN g (a + b) = sumN g a + sumN (fun i => g (a + i)) b := by
  induction b with
  | zero => simp [sumN]
  | succ b ih =>
    show sumN g (a + b) + g (a + b) = sumN g a + (sumN (fun i => g (a + i)) b + g (a + b))
    rw [ih]; omega
theorem sumN_shift (g : Nat → Nat) (n : Nat) : sumN (fun r => g (r + 1)) n + g 0 = sumN g n + g n := by
  induction n with
  | zero => simp [sumN]
  | succ n ih => simp only [sumN]; omega
theorem sumN_rot (g : Nat → Nat) (n a : Nat) : sumN (fun r => g ((a + r) % n)) n = sumN g n := by
  induction a with
  | zero => exact sumN_congr fun i hi => by simp [Nat.mod_eq_of_lt hi]
  | succ a ih =>
    have h := sumN_shift (fun r => g ((a + r) % n)) n
    simp only [Nat.add_zero, Nat.add_mod_right] at h
    rw [ih] at h
    have : sumN (fun r => g ((a + 1 + r) % n)) n = sumN (fun r => g ((a + (r + 1)) % n)) n := sumN_congr fun i _ => by rw [show a + 1 + i = a + (i + 1) by omega]
    omega
theorem sumN_one {n j : Nat} (hj : j < n) : sumN (fun u => if u = j then 1 else 0) n = 1 := by
  have h0 : ∀ m, m ≤ j → sumN (fun u => if u = j then 1 else 0) m = 0 := by
    intro m
    induction m with
    | zero => intro _; rfl
    | succ m ih => intro hm; simp only [sumN]; rw [ih (by omega), if_neg (by omega)]
  have h1 : ∀ m, j < m → sumN (fun u => if u = j then 1 else 0) m = 1 := by
    intro m
    induction m with
    | zero => intro h; omega
    | succ m ih =>
      intro hm
      simp only [sumN]
      by_cases h : m = j
      · subst h; rw [h0 m (Nat.le_refl _), if_pos rfl]
      · rw [ih (by omega), if_neg h]
  exact h1 n hj
theorem sumN_mod {n j : Nat} (hj : j < n) (s : Nat) : sumN (fun t => if t % n = j then 1 else 0) (s * n) = s := by
  induction s with
  | zero => simp [sumN]
  | succ s ih =>
    rw [Nat.succ_mul, sumN_add, ih]
    have : sumN (fun i => if (s * n + i) % n = j then 1 else 0) n = sumN (fun u => if u = j then 1 else 0) n := sumN_congr fun i hi => by
      rw [Nat.mul_comm, Nat.mul_add_mod, Nat.mod_eq_of_lt hi]
    rw [this, sumN_one hj]
theorem sumN_blocks (c : Nat → Nat) (s n : Nat) : sumN (fun q => sumN (fun i => c (q * s + i)) s) n = sumN c (n * s) := by
  induction n with
  | zero => simp [sumN]
  | succ n ih => simp only [sumN]; rw [ih, Nat.succ_mul, sumN_add]
/-- Over n rounds one behind the other, s places a round, each place is met s times. -/
theorem met (n s j a : Nat) (hj : j < n) : sumN (fun r => sumN (fun i => if ((a + r) % n * s + i) % n = j then 1 else 0) s) n = s := by
  have h := sumN_rot (fun q => sumN (fun i => if (q * s + i) % n = j then 1 else 0) s) n a
  rw [h, sumN_blocks (fun t => if t % n = j then 1 else 0), Nat.mul_comm, sumN_mod hj]

/-- One more at each place that a list names. -/
def bump (of : List Int) (p : Nat) : List Int := of.set p (of.getD p 0 + 1)
def bumps (of : List Int) (l : List Nat) : List Int := l.foldl bump of
theorem bump_len (of : List Int) (p : Nat) : (bump of p).length = of.length := by simp [bump]
theorem bumps_len (l : List Nat) : ∀ of : List Int, (bumps of l).length = of.length := by
  induction l with
  | nil => intro of; rfl
  | cons p l ih => intro of; simp only [bumps, List.foldl_cons]; exact (ih _).trans (bump_len _ _)
theorem bump_get {of : List Int} {p j : Nat} (hp : p < of.length) : (bump of p).getD j 0 = of.getD j 0 + if p = j then 1 else 0 := by
  unfold bump
  simp only [List.getD_eq_getElem?_getD, List.getElem?_set]
  by_cases h : p = j
  · subst h; simp [hp]
  · simp [h]
/-- How often each place is met by the first i of a round. -/
theorem bumps_get {f : Nat → Nat} {of : List Int} {j : Nat} : ∀ (i : Nat), (∀ t, t < i → f t < of.length) → (bumps of ((List.range i).map f)).getD j 0 = of.getD j 0 + sumN (fun t => if f t = j then 1 else 0) i := by
  intro i
  induction i with
  | zero => intro _; simp [bumps, sumN]
  | succ i ih =>
    intro hf
    have h := ih fun t ht => hf t (by omega)
    rw [List.range_succ, List.map_append, List.map_cons, List.map_nil]
    unfold bumps at h ⊢
    rw [List.foldl_append]
    simp only [List.foldl_cons, List.foldl_nil]
    rw [bump_get (by have := bumps_len ((List.range i).map f) of; unfold bumps at this; rw [this]; exact hf i (by omega)), h]
    simp only [sumN]
    split <;> omega
/-- What has been counted behind r rounds. -/
def ofR (n s a : Nat) : Nat → List Int
  | 0 => List.replicate 60 0
  | r + 1 => bumps (ofR n s a r) ((List.range s).map fun i => ((a + r) % n * s + i) % n)
theorem ofR_len (n s a : Nat) : ∀ r, (ofR n s a r).length = 60 := by
  intro r
  induction r with
  | zero => simp [ofR]
  | succ r ih => simp only [ofR]; rw [bumps_len, ih]
theorem ofR_get {n s a j : Nat} (hn : 0 < n) (hn2 : n ≤ 60) : ∀ r, (ofR n s a r).getD j 0 = sumN (fun r => sumN (fun i => if ((a + r) % n * s + i) % n = j then 1 else 0) s) r := by
  intro r
  induction r with
  | zero =>
    simp only [ofR, sumN, List.getD_eq_getElem?_getD, List.getElem?_replicate]
    split <;> rfl
  | succ r ih =>
    simp only [ofR, sumN]
    rw [bumps_get s (fun t _ => by rw [ofR_len]; have := Nat.mod_lt ((a + r) % n * s + t) hn; omega), ih]
    omega
theorem ofR_all {n s a j : Nat} (hn2 : n ≤ 60) (hj : j < n) : (ofR n s a n).getD j 0 = s := by
  rw [ofR_get (by omega) hn2, met n s j a hj]

/-- The pods' numbers. -/
def idsF (n : Nat) : List Int := (List.range n).map fun (i : Nat) => (100 + (i : Int) : Int)
theorem which_ids {n m first r : Nat} (hn : 1 ≤ n) : whichF (idsF n) m ((first : Int) + r) = (List.range (kF n m).toNat).map fun (i : Nat) => (100 + (((first + r) % n * (kF n m).toNat + i) % n : Nat) : Int) := by
  have hk := kF_bd (n := n) (most := m) (by omega)
  have hl : (idsF n).length = n := by simp [idsF]
  unfold whichF
  rw [hl]
  refine List.map_congr_left fun i _ => ?_
  have hp : posF n m ((first : Int) + r) i = ((((first + r) % n * (kF n m).toNat + i) % n : Nat) : Int) := by
    unfold posF
    have h1 : max ((first : Int) + r) 0 = ((first + r : Nat) : Int) := by rw [Int.max_def]; split <;> omega
    rw [h1]
    obtain ⟨q, hq⟩ := Int.eq_ofNat_of_zero_le (show 0 ≤ kF n m by omega)
    rw [hq]
    simp
  rw [hp, Int.toNat_natCast]
  have hlt : ((first + r) % n * (kF n m).toNat + i) % n < n := Nat.mod_lt _ (by omega)
  simp [idsF, List.getD_eq_getElem?_getD, hlt]
theorem apart_at {n s q i j : Nat} (hs : s ≤ n) (hij : i < j) (hj : j < s) : (q * s + i) % n ≠ (q * s + j) % n := by
  intro h
  have hn : 0 < n := by omega
  have := Nat.sub_mod_eq_zero_of_mod_eq h.symm
  rw [show q * s + j - (q * s + i) = j - i by omega, Nat.mod_eq_of_lt (by omega)] at this
  omega
end Go.Proofs.YtcdfoicebcmlaaaW.Am
