/- Abstract memory for walks: an abstract heap of objects, the relation between abstract and true values, and the relation between an abstract heap and the true world. -/
import Derived.Below
import Derived.RowKit3
namespace Go.Proofs.YtnebdnbglggdkaaDoorW.Am
open Go Go.RowKit

/-- Where an abstract object lies: its block, its first cell there, and how many elements more its array bears than is known. -/
structure Loc where
  blk : Nat
  off : Nat
  slack : Nat

/-- Where objects lie; which blocks are maps. -/
structure Mu where
  f : Nat → Option Loc
  mp : Nat → Option Nat
instance : CoeFun Mu fun _ => Nat → Option Loc := ⟨Mu.f⟩

/-- An abstract object: its cells (abstract values); may it be written; the size of its elements (for what append may do). -/
structure Ob where
  cells : List Value
  rw : Bool
  esz : Nat

structure Hp where
  get : Nat → Option Ob
  nx : Nat

def Mu.le (m m' : Mu) : Prop := (∀ i l, m i = some l → m' i = some l) ∧ ∀ i b, m.mp i = some b → m'.mp i = some b
theorem Mu.le_refl (m : Mu) : m.le m := ⟨fun _ _ h => h, fun _ _ h => h⟩
theorem Mu.le_trans {a b c : Mu} (h : a.le b) (k : b.le c) : a.le c := ⟨fun i l e => k.1 i l (h.1 i l e), fun i l e => k.2 i l (h.2 i l e)⟩

/-- An abstract value stands for a true one. Addresses: block = an object's number; a slice's spot tells that its capacity is a lower bound. -/
inductive RV (m : Mu) : Value → Value → Prop
  | bool (b) : RV m (.bool b) (.bool b)
  | int (k n) : RV m (.int k n) (.int k n)
  | float (k b) : RV m (.float k b) (.float k b)
  | complex (k a b) : RV m (.complex k a b) (.complex k a b)
  | string (s) : RV m (.string s) (.string s)
  | nilp : RV m (.pointer none) (.pointer none)
  | ptr {i o : Nat} {l : Loc} : m i = some l → RV m (.pointer (some ⟨i, o, none⟩)) (.pointer (some ⟨l.blk, l.off + o, none⟩))
  | nils (n c) : RV m (.slice none n c) (.slice none n c)
  | slice {i o n c : Nat} {l : Loc} : m i = some l → RV m (.slice (some ⟨i, o, none⟩) n c) (.slice (some ⟨l.blk, l.off + o, none⟩) n c)
  | sliceX {i o n c : Nat} {l : Loc} : m i = some l → RV m (.slice (some ⟨i, o, some 0⟩) n c) (.slice (some ⟨l.blk, l.off + o, none⟩) n (c + l.slack))
  | sliceZ {i o s : Nat} {l : Loc} : m i = some l → RV m (.slice (some ⟨i, o, some (s + 1)⟩) 0 0) (.slice (some ⟨l.blk, l.off + o, none⟩) 0 l.slack)
  | sliceY {i o s : Nat} {l : Loc} (a : Addr) : m i = some l → RV m (.slice (some ⟨i, o, some (s + 1)⟩) 0 0) (.slice (some a) 0 0)
  | nilm : RV m (.map none) (.map none)
  | mapv {i b : Nat} : m.mp i = some b → RV m (.map (some i)) (.map (some b))
  | nilc : RV m (.chan none) (.chan none)
  | func {f : Fn} {a a' b b' : List Value} : a.length = a'.length → b.length = b'.length → (∀ (i : Nat) v v', a[i]? = some v → a'[i]? = some v' → RV m v v') → (∀ (i : Nat) v v', b[i]? = some v → b'[i]? = some v' → RV m v v') → RV m (.func f ⟨a⟩ ⟨b⟩) (.func f ⟨a'⟩ ⟨b'⟩)
  | nilf : RV m .nilFunc .nilFunc
  | iface {t v v'} : RV m v v' → RV m (.iface t v) (.iface t v')
  | nili : RV m .nilIface .nilIface
  | agg {a a' : List Value} : a.length = a'.length → (∀ (i : Nat) v v', a[i]? = some v → a'[i]? = some v' → RV m v v') → RV m (.agg ⟨a⟩) (.agg ⟨a'⟩)
  | tuple {a a' : List Value} : a.length = a'.length → (∀ (i : Nat) v v', a[i]? = some v → a'[i]? = some v' → RV m v v') → RV m (.tuple ⟨a⟩) (.tuple ⟨a'⟩)

theorem RV.mono {m m' : Mu} (hm : m.le m') {v v' : Value} (h : RV m v v') : RV m' v v' := by
  induction h with
  | bool b => exact .bool b
  | int k n => exact .int k n
  | float k b => exact .float k b
  | complex k a b => exact .complex k a b
  | string s => exact .string s
  | nilp => exact .nilp
  | ptr h => exact .ptr (hm.1 _ _ h)
  | nils n c => exact .nils n c
  | slice h => exact .slice (hm.1 _ _ h)
  | sliceX h => exact .sliceX (hm.1 _ _ h)
  | sliceZ h => exact .sliceZ (hm.1 _ _ h)
  | sliceY a h => exact .sliceY a (hm.1 _ _ h)
  | nilm => exact .nilm
  | mapv h => exact .mapv (hm.2 _ _ h)
  | nilc => exact .nilc
  | func h1 h2 _ _ h3 h4 => exact .func h1 h2 h3 h4
  | nilf => exact .nilf
  | iface _ h => exact .iface h
  | nili => exact .nili
  | agg h1 _ h => exact .agg h1 h
  | tuple h1 _ h => exact .tuple h1 h

/-- Lists of values, place by place. -/
def RVs (m : Mu) (a a' : List Value) : Prop := a.length = a'.length ∧ ∀ (i : Nat) v v', a[i]? = some v → a'[i]? = some v' → RV m v v'
theorem RVs.mono {m m' : Mu} (hm : m.le m') {a a' : List Value} (h : RVs m a a') : RVs m' a a' := ⟨h.1, fun i v v' x y => (h.2 i v v' x y).mono hm⟩
theorem RVs.nil (m : Mu) : RVs m [] [] := ⟨rfl, by simp⟩
theorem RVs.cons {m : Mu} {v v' : Value} {a a' : List Value} (h : RV m v v') (hs : RVs m a a') : RVs m (v :: a) (v' :: a') := by
  refine ⟨by simp [hs.1], fun i => ?_⟩
  cases i with
  | zero => intro x x' e e'; simp at e e'; subst e e'; exact h
  | succ i => intro x x' e e'; simp at e e'; exact hs.2 i x x' e e'
theorem RVs.cases_nil {m : Mu} {a' : List Value} (h : RVs m [] a') : a' = [] := by
  have := h.1; simp at this; exact List.eq_nil_of_length_eq_zero this.symm
theorem RVs.cases_cons {m : Mu} {v : Value} {a a' : List Value} (h : RVs m (v :: a) a') : ∃ v' b', a' = v' :: b' ∧ RV m v v' ∧ RVs m a b' := by
  cases a' with
  | nil => simp [RVs] at h
  | cons v' b' =>
    refine ⟨v', b', rfl, h.2 0 v v' rfl rfl, ?_, fun i x x' e e' => h.2 (i + 1) x x' (by simpa using e) (by simpa using e')⟩
    have := h.1; simpa using this
theorem RVs.append {m : Mu} {a a' b b' : List Value} (h : RVs m a a') (k : RVs m b b') : RVs m (a ++ b) (a' ++ b') := by
  refine ⟨by simp [h.1, k.1], fun i v v' e e' => ?_⟩
  rw [List.getElem?_append] at e e'
  rw [← h.1] at e'
  split at e
  · next hi => rw [if_pos hi] at e'; exact h.2 _ _ _ e e'
  · next hi => rw [if_neg hi] at e'; exact k.2 _ _ _ e e'
theorem RVs.take {m : Mu} {a a' : List Value} (h : RVs m a a') (n : Nat) : RVs m (a.take n) (a'.take n) := by
  refine ⟨by simp [h.1], fun i v v' e e' => ?_⟩
  rw [List.getElem?_take] at e e'
  split at e
  · next hi => rw [if_pos hi] at e'; exact h.2 _ _ _ e e'
  · cases e
theorem RVs.drop {m : Mu} {a a' : List Value} (h : RVs m a a') (n : Nat) : RVs m (a.drop n) (a'.drop n) := by
  refine ⟨by simp [h.1], fun i v v' e e' => ?_⟩
  rw [List.getElem?_drop] at e e'
  exact h.2 _ _ _ e e'
theorem RVs.get {m : Mu} {a a' : List Value} (h : RVs m a a') {i : Nat} {v : Value} (e : a[i]? = some v) : ∃ v', a'[i]? = some v' ∧ RV m v v' := by
  have hi : i < a'.length := by rw [← h.1]; exact (List.getElem?_eq_some_iff.1 e).1
  exact ⟨a'[i], List.getElem?_eq_getElem hi, h.2 i v _ e (List.getElem?_eq_getElem hi)⟩
theorem RVs.set {m : Mu} {a a' : List Value} (h : RVs m a a') (i : Nat) {v v' : Value} (k : RV m v v') : RVs m (a.set i v) (a'.set i v') := by
  refine ⟨by simp [h.1], fun j x x' e e' => ?_⟩
  rw [List.getElem?_set] at e e'
  rw [← h.1] at e'
  split at e
  · next hij =>
    rw [if_pos hij] at e'
    split at e
    · next hl => rw [if_pos hl] at e'; cases e; cases e'; exact k
    · cases e
  · next hij => rw [if_neg hij] at e'; exact h.2 _ _ _ e e'
theorem RVs.of_agg {m : Mu} {a : List Value} {x : Value} (h : RV m (.agg ⟨a⟩) x) : ∃ a', x = .agg ⟨a'⟩ ∧ RVs m a a' := by
  cases h with | agg h1 h2 => exact ⟨_, rfl, h1, h2⟩
theorem RVs.of_tuple {m : Mu} {a : List Value} {x : Value} (h : RV m (.tuple ⟨a⟩) x) : ∃ a', x = .tuple ⟨a'⟩ ∧ RVs m a a' := by
  cases h with | tuple h1 h2 => exact ⟨_, rfl, h1, h2⟩

/-- A value without an address (looked into to some depth). -/
def flatN : Nat → Value → Bool
  | 0, _ => false
  | n + 1, v => match v with
    | .pointer (some _) => false
    | .slice (some _) _ _ => false
    | .map (some _) => false
    | .chan (some _) => false
    | .func _ a b => a.toList.all (flatN n) && b.toList.all (flatN n)
    | .iface _ v => flatN n v
    | .agg cs => cs.toList.all (flatN n)
    | .tuple cs => cs.toList.all (flatN n)
    | _ => true
def flat (v : Value) : Bool := flatN 8 v
def flatL (l : List Value) : Bool := l.all flat
theorem all_get {p : Value → Bool} {l : List Value} (h : l.all p = true) {i : Nat} {v : Value} (e : l[i]? = some v) : p v = true :=
  List.all_eq_true.1 h v (List.mem_of_getElem? e)
theorem RV.of_flatN (m : Mu) : ∀ (n : Nat) (v : Value), flatN n v = true → RV m v v := by
  intro n
  induction n with
  | zero => intro v h; simp [flatN] at h
  | succ n ih =>
    have hl : ∀ (l : List Value), l.all (flatN n) = true → ∀ (i : Nat) v v', l[i]? = some v → l[i]? = some v' → RV m v v' := by
      intro l hl i v v' e e'
      rw [e] at e'; cases e'
      exact ih v (all_get hl e)
    intro v h
    cases v with
    | bool b => exact .bool b
    | int k n => exact .int k n
    | float k b => exact .float k b
    | complex k a b => exact .complex k a b
    | string s => exact .string s
    | pointer a => cases a with
      | none => exact .nilp
      | some a => simp [flatN] at h
    | slice a n c => cases a with
      | none => exact .nils n c
      | some a => simp [flatN] at h
    | map a => cases a with
      | none => exact .nilm
      | some a => simp [flatN] at h
    | chan a => cases a with
      | none => exact .nilc
      | some a => simp [flatN] at h
    | func f a b =>
      obtain ⟨a⟩ := a
      obtain ⟨b⟩ := b
      simp only [flatN, Bool.and_eq_true] at h
      exact .func rfl rfl (hl a h.1) (hl b h.2)
    | nilFunc => exact .nilf
    | iface t v => exact .iface (ih v (by simpa [flatN] using h))
    | nilIface => exact .nili
    | agg a => obtain ⟨a⟩ := a; exact .agg rfl (hl a (by simpa only [flatN] using h))
    | tuple a => obtain ⟨a⟩ := a; exact .tuple rfl (hl a (by simpa only [flatN] using h))
theorem RV.of_flat (m : Mu) (v : Value) (h : flat v = true) : RV m v v := RV.of_flatN m 8 v h
theorem RVs.of_flat {m : Mu} {l : List Value} (h : flatL l = true) : RVs m l l := ⟨rfl, fun i v v' e e' => by rw [e] at e'; cases e'; exact RV.of_flat m v (all_get h e)⟩
theorem eq_at {a a' : List Value} {i : Nat} (hl : a.length = a'.length) (h : ∀ v v', a[i]? = some v → a'[i]? = some v' → v' = v) : a'[i]? = a[i]? := by
  cases e : a[i]? with
  | none => rw [List.getElem?_eq_none_iff] at e ⊢; omega
  | some v =>
    have hi := (List.getElem?_eq_some_iff.1 e).1
    have : a'[i]? = some a'[i] := List.getElem?_eq_getElem (by omega)
    rw [this, h v _ e this]
/-- A flat value stands for itself alone. -/
theorem RV.flatN_eq {m : Mu} {v v' : Value} (h : RV m v v') : ∀ n, flatN n v = true → v' = v := by
  induction h with
  | ptr h => intro n f; cases n <;> simp [flatN] at f
  | slice h => intro n f; cases n <;> simp [flatN] at f
  | sliceX h => intro n f; cases n <;> simp [flatN] at f
  | sliceZ h => intro n f; cases n <;> simp [flatN] at f
  | sliceY a h => intro n f; cases n <;> simp [flatN] at f
  | mapv h => intro n f; cases n <;> simp [flatN] at f
  | func h1 h2 _ _ h3 h4 =>
    intro n f
    cases n with
    | zero => simp [flatN] at f
    | succ n =>
      simp only [flatN, Bool.and_eq_true] at f
      rw [List.ext_getElem? fun i => eq_at h1 (fun v v' x y => h3 i v v' x y n (all_get f.1 x)), List.ext_getElem? fun i => eq_at h2 (fun v v' x y => h4 i v v' x y n (all_get f.2 x))]
  | iface _ ih =>
    intro n f
    cases n with
    | zero => simp [flatN] at f
    | succ n => rw [ih n (by simpa [flatN] using f)]
  | agg h1 _ h3 =>
    intro n f
    cases n with
    | zero => simp [flatN] at f
    | succ n =>
      simp only [flatN] at f
      rw [List.ext_getElem? fun i => eq_at h1 (fun v v' x y => h3 i v v' x y n (all_get f x))]
  | tuple h1 _ h3 =>
    intro n f
    cases n with
    | zero => simp [flatN] at f
    | succ n =>
      simp only [flatN] at f
      rw [List.ext_getElem? fun i => eq_at h1 (fun v v' x y => h3 i v v' x y n (all_get f x))]
  | _ => intro _ _; rfl
theorem RV.flat_eq {m : Mu} {v v' : Value} (h : RV m v v') (f : flat v = true) : v' = v := h.flatN_eq 8 f
theorem RVs.flat_eq {m : Mu} {a a' : List Value} (h : RVs m a a') (f : flatL a = true) : a' = a :=
  List.ext_getElem? fun i => eq_at h.1 fun v v' x y => (h.2 i v v' x y).flat_eq (all_get f x)
end Go.Proofs.YtnebdnbglggdkaaDoorW.Am
