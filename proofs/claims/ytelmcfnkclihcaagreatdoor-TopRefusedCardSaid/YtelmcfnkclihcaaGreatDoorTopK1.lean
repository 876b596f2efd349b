/- Abstract memory for walks: an abstract heap of objects, the relation between abstract and true values, and the relation between an abstract heap and the true world. -/
import Derived.Below
import Derived.RowKit3
import Derived.Test.YtelmcfnkclihcaaGreatDoorProg
import Derived.Lib.LaidTab
import Derived.Lib.AppendIntMem
import Derived.Laws.AppendOwn
import Derived.Laws.Tables
import Derived.Laws.MakeOwn
import Derived.Great.BuildSlice
import Derived.Laws.Slices
import Derived.Laws.IdiomCopy
import Derived.Laws.StructEq
import Derived.Lib.UnsafeStr
import Derived.Orders
namespace Go.Proofs.YtelmcfnkclihcaaGreatDoorW.Am
open Go Go.RowKit
class Fl where
 on : Prop
 tb : World → Prop
structure Loc where
 blk : Nat
 off : Nat
 slack : Nat
structure Mu where
 f : Nat → Option Loc
 mp : Nat → Option Nat
instance : CoeFun Mu fun _ => Nat → Option Loc := ⟨Mu.f⟩
structure Ob where
 cells : List Value
 rw : Bool
 esz : Nat
structure Hp where
 get : Nat → Option Ob
 nx : Nat
def Mu.le (m m' : Mu) : Prop := (∀ i l,m i = some l → m' i = some l) ∧ ∀ i b,m.mp i = some b → m'.mp i = some b
theorem Mu.le_refl (m : Mu) : m.le m := ⟨fun _ _ h => h,fun _ _ h => h⟩
theorem Mu.le_trans {a b c : Mu} (h : a.le b) (k : b.le c) : a.le c := ⟨fun i l e => k.1 i l (h.1 i l e),fun i l e => k.2 i l (h.2 i l e)⟩
inductive RV (m : Mu) : Value → Value → Prop
 | bool (b) : RV m (.bool b) (.bool b)
 | int (k n) : RV m (.int k n) (.int k n)
 | float (k b) : RV m (.float k b) (.float k b)
 | complex (k a b) : RV m (.complex k a b) (.complex k a b)
 | string (s) : RV m (.string s) (.string s)
 | nilp : RV m (.pointer none) (.pointer none)
 | ptr {i o : Nat} {l : Loc} : m i = some l → RV m (.pointer (some ⟨i,o,none⟩)) (.pointer (some ⟨l.blk,l.off + o,none⟩))
 | nils (n c) : RV m (.slice none n c) (.slice none n c)
 | slice {i o n c : Nat} {l : Loc} : m i = some l → RV m (.slice (some ⟨i,o,none⟩) n c) (.slice (some ⟨l.blk,l.off + o,none⟩) n c)
 | sliceX {i o n c : Nat} {l : Loc} : m i = some l → RV m (.slice (some ⟨i,o,some 0⟩) n c) (.slice (some ⟨l.blk,l.off + o,none⟩) n (c + l.slack))
 | sliceZ {i o s : Nat} {l : Loc} : m i = some l → RV m (.slice (some ⟨i,o,some (s + 1)⟩) 0 0) (.slice (some ⟨l.blk,l.off + o,none⟩) 0 l.slack)
 | sliceY {i o s : Nat} {l : Loc} (a : Addr) : m i = some l → RV m (.slice (some ⟨i,o,some (s + 1)⟩) 0 0) (.slice (some a) 0 0)
 | nilm : RV m (.map none) (.map none)
 | mapv {i b : Nat} : m.mp i = some b → RV m (.map (some i)) (.map (some b))
 | nilc : RV m (.chan none) (.chan none)
 | func {f : Fn} {a a' b b' : List Value} : a.length = a'.length → b.length = b'.length → (∀ (i : Nat) v v',a[i]? = some v → a'[i]? = some v' → RV m v v') → (∀ (i : Nat) v v',b[i]? = some v → b'[i]? = some v' → RV m v v') → RV m (.func f ⟨a⟩ ⟨b⟩) (.func f ⟨a'⟩ ⟨b'⟩)
 | nilf : RV m .nilFunc .nilFunc
 | iface {t v v'} : RV m v v' → RV m (.iface t v) (.iface t v')
 | nili : RV m .nilIface .nilIface
 | agg {a a' : List Value} : a.length = a'.length → (∀ (i : Nat) v v',a[i]? = some v → a'[i]? = some v' → RV m v v') → RV m (.agg ⟨a⟩) (.agg ⟨a'⟩)
 | tuple {a a' : List Value} : a.length = a'.length → (∀ (i : Nat) v v',a[i]? = some v → a'[i]? = some v' → RV m v v') → RV m (.tuple ⟨a⟩) (.tuple ⟨a'⟩)
theorem RV.mono {m m' : Mu} (hm : m.le m') {v v' : Value} (h : RV m v v') : RV m' v v' := by
 induction h with
 | bool b => exact .bool b
 | int k n => exact .int k n
 | float k b => exact .float k b
 | complex k a b => exact .complex k a b
 | string s => exact .string s
 | nilp => exact .nilp
 | ptr h => exact .ptr (hm.1 _ _ h)
 | nils n c => exact .nils n c
 | slice h => exact .slice (hm.1 _ _ h)
 | sliceX h => exact .sliceX (hm.1 _ _ h)
 | sliceZ h => exact .sliceZ (hm.1 _ _ h)
 | sliceY a h => exact .sliceY a (hm.1 _ _ h)
 | nilm => exact .nilm
 | mapv h => exact .mapv (hm.2 _ _ h)
 | nilc => exact .nilc
 | func h1 h2 _ _ h3 h4 => exact .func h1 h2 h3 h4
 | nilf => exact .nilf
 | iface _ h => exact .iface h
 | nili => exact .nili
 | agg h1 _ h => exact .agg h1 h
 | tuple h1 _ h => exact .tuple h1 h
def RVs (m : Mu) (a a' : List Value) : Prop := a.length = a'.length ∧ ∀ (i : Nat) v v',a[i]? = some v → a'[i]? = some v' → RV m v v'
theorem RVs.mono {m m' : Mu} (hm : m.le m') {a a' : List Value} (h : RVs m a a') : RVs m' a a' := ⟨h.1,fun i v v' x y => (h.2 i v v' x y).mono hm⟩
theorem RVs.nil (m : Mu) : RVs m [] [] := ⟨rfl,by simp⟩
theorem RVs.cons {m : Mu} {v v' : Value} {a a' : List Value} (h : RV m v v') (hs : RVs m a a') : RVs m (v :: a) (v' :: a') := by
 refine ⟨by simp [hs.1],fun i => ?_⟩
 cases i with
 | zero => intro x x' e e'; simp at e e'; subst e e'; exact h
 | succ i => intro x x' e e'; simp at e e'; exact hs.2 i x x' e e'
theorem RVs.cases_nil {m : Mu} {a' : List Value} (h : RVs m [] a') : a' = [] := by
 have := h.1; simp at this; exact List.eq_nil_of_length_eq_zero this.symm
theorem RVs.cases_cons {m : Mu} {v : Value} {a a' : List Value} (h : RVs m (v :: a) a') : ∃ v' b',a' = v' :: b' ∧ RV m v v' ∧ RVs m a b' := by
 cases a' with
 | nil => simp [RVs] at h
 | cons v' b' =>
  refine ⟨v',b',rfl,h.2 0 v v' rfl rfl,?_,fun i x x' e e' => h.2 (i + 1) x x' (by simpa using e) (by simpa using e')⟩
  have := h.1; simpa using this
theorem RVs.append {m : Mu} {a a' b b' : List Value} (h : RVs m a a') (k : RVs m b b') : RVs m (a ++ b) (a' ++ b') := by
 refine ⟨by simp [h.1,k.1],fun i v v' e e' => ?_⟩
 rw [List.getElem?_append] at e e'
 rw [← h.1] at e'
 split at e
 ·next hi => rw [if_pos hi] at e'; exact h.2 _ _ _ e e'
 ·next hi => rw [if_neg hi] at e'; exact k.2 _ _ _ e e'
theorem RVs.take {m : Mu} {a a' : List Value} (h : RVs m a a') (n : Nat) : RVs m (a.take n) (a'.take n) := by
 refine ⟨by simp [h.1],fun i v v' e e' => ?_⟩
 rw [List.getElem?_take] at e e'
 split at e
 ·next hi => rw [if_pos hi] at e'; exact h.2 _ _ _ e e'
 ·cases e
theorem RVs.drop {m : Mu} {a a' : List Value} (h : RVs m a a') (n : Nat) : RVs m (a.drop n) (a'.drop n) := by
 refine ⟨by simp [h.1],fun i v v' e e' => ?_⟩
 rw [List.getElem?_drop] at e e'
 exact h.2 _ _ _ e e'
theorem RVs.get {m : Mu} {a a' : List Value} (h : RVs m a a') {i : Nat} {v : Value} (e : a[i]? = some v) : ∃ v',a'[i]? = some v' ∧ RV m v v' := by
 have hi : i < a'.length := by rw [← h.1]; exact (List.getElem?_eq_some_iff.1 e).1
 exact ⟨a'[i],List.getElem?_eq_getElem hi,h.2 i v _ e (List.getElem?_eq_getElem hi)⟩
theorem RVs.set {m : Mu} {a a' : List Value} (h : RVs m a a') (i : Nat) {v v' : Value} (k : RV m v v') : RVs m (a.set i v) (a'.set i v') := by
 refine ⟨by simp [h.1],fun j x x' e e' => ?_⟩
 rw [List.getElem?_set] at e e'
 rw [← h.1] at e'
 split at e
 ·next hij =>
  rw [if_pos hij] at e'
  split at e
  ·next hl => rw [if_pos hl] at e'; cases e; cases e'; exact k
  ·cases e
 ·next hij => rw [if_neg hij] at e'; exact h.2 _ _ _ e e'
theorem RVs.of_agg {m : Mu} {a : List Value} {x : Value} (h : RV m (.agg ⟨a⟩) x) : ∃ a',x = .agg ⟨a'⟩ ∧ RVs m a a' := by
 cases h with | agg h1 h2 => exact ⟨_,rfl,h1,h2⟩
theorem RVs.of_tuple {m : Mu} {a : List Value} {x : Value} (h : RV m (.tuple ⟨a⟩) x) : ∃ a',x = .tuple ⟨a'⟩ ∧ RVs m a a' := by
 cases h with | tuple h1 h2 => exact ⟨_,rfl,h1,h2⟩
def flatN : Nat → Value → Bool
 | 0,_ => false
 | n + 1,v => match v with
  | .pointer (some _) => false
  | .slice (some _) _ _ => false
  | .map (some _) => false
  | .chan (some _) => false
  | .func _ a b => a.toList.all (flatN n) && b.toList.all (flatN n)
  | .iface _ v => flatN n v
  | .agg cs => cs.toList.all (flatN n)
  | .tuple cs => cs.toList.all (flatN n)
  | _ => true
def flat (v : Value) : Bool := flatN 8 v
def flatL (l : List Value) : Bool := l.all flat
theorem all_get {p : Value → Bool} {l : List Value} (h : l.all p = true) {i : Nat} {v : Value} (e : l[i]? = some v) : p v = true :=
 List.all_eq_true.1 h v (List.mem_of_getElem? e)
theorem RV.of_flatN (m : Mu) : ∀ (n : Nat) (v : Value),flatN n v = true → RV m v v := by
 intro n
 induction n with
 | zero => intro v h; simp [flatN] at h
 | succ n ih =>
  have hl : ∀ (l : List Value),l.all (flatN n) = true → ∀ (i : Nat) v v',l[i]? = some v → l[i]? = some v' → RV m v v' := by
   intro l hl i v v' e e'
   rw [e] at e'; cases e'
   exact ih v (all_get hl e)
  intro v h
  cases v with
  | bool b => exact .bool b
  | int k n => exact .int k n
  | float k b => exact .float k b
  | complex k a b => exact .complex k a b
  | string s => exact .string s
  | pointer a => cases a with
   | none => exact .nilp
   | some a => simp [flatN] at h
  | slice a n c => cases a with
   | none => exact .nils n c
   | some a => simp [flatN] at h
  | map a => cases a with
   | none => exact .nilm
   | some a => simp [flatN] at h
  | chan a => cases a with
   | none => exact .nilc
   | some a => simp [flatN] at h
  | func f a b =>
   obtain ⟨a⟩ := a
   obtain ⟨b⟩ := b
   simp only [flatN,Bool.and_eq_true] at h
   exact .func rfl rfl (hl a h.1) (hl b h.2)
  | nilFunc => exact .nilf
  | iface t v => exact .iface (ih v (by simpa [flatN] using h))
  | nilIface => exact .nili
  | agg a => obtain ⟨a⟩ := a; exact .agg rfl (hl a (by simpa only [flatN] using h))
  | tuple a => obtain ⟨a⟩ := a; exact .tuple rfl (hl a (by simpa only [flatN] using h))
theorem RV.of_flat (m : Mu) (v : Value) (h : flat v = true) : RV m v v := RV.of_flatN m 8 v h
theorem RVs.of_flat {m : Mu} {l : List Value} (h : flatL l = true) : RVs m l l := ⟨rfl,fun i v v' e e' => by rw [e] at e'; cases e'; exact RV.of_flat m v (all_get h e)⟩
theorem eq_at {a a' : List Value} {i : Nat} (hl : a.length = a'.length) (h : ∀ v v',a[i]? = some v → a'[i]? = some v' → v' = v) : a'[i]? = a[i]? := by
 cases e : a[i]? with
 | none => rw [List.getElem?_eq_none_iff] at e ⊢; omega
 | some v =>
  have hi := (List.getElem?_eq_some_iff.1 e).1
  have : a'[i]? = some a'[i] := List.getElem?_eq_getElem (by omega)
  rw [this,h v _ e this]
theorem RV.flatN_eq {m : Mu} {v v' : Value} (h : RV m v v') : ∀ n,flatN n v = true → v' = v := by
 induction h with
 | ptr h => intro n f; cases n <;> simp [flatN] at f
 | slice h => intro n f; cases n <;> simp [flatN] at f
 | sliceX h => intro n f; cases n <;> simp [flatN] at f
 | sliceZ h => intro n f; cases n <;> simp [flatN] at f
 | sliceY a h => intro n f; cases n <;> simp [flatN] at f
 | mapv h => intro n f; cases n <;> simp [flatN] at f
 | func h1 h2 _ _ h3 h4 =>
  intro n f
  cases n with
  | zero => simp [flatN] at f
  | succ n =>
   simp only [flatN,Bool.and_eq_true] at f
   rw [List.ext_getElem? fun i => eq_at h1 (fun v v' x y => h3 i v v' x y n (all_get f.1 x)),List.ext_getElem? fun i => eq_at h2 (fun v v' x y => h4 i v v' x y n (all_get f.2 x))]
 | iface _ ih =>
  intro n f
  cases n with
  | zero => simp [flatN] at f
  | succ n => rw [ih n (by simpa [flatN] using f)]
 | agg h1 _ h3 =>
  intro n f
  cases n with
  | zero => simp [flatN] at f
  | succ n =>
   simp only [flatN] at f
   rw [List.ext_getElem? fun i => eq_at h1 (fun v v' x y => h3 i v v' x y n (all_get f x))]
 | tuple h1 _ h3 =>
  intro n f
  cases n with
  | zero => simp [flatN] at f
  | succ n =>
   simp only [flatN] at f
   rw [List.ext_getElem? fun i => eq_at h1 (fun v v' x y => h3 i v v' x y n (all_get f x))]
 | _ => intro _ _; rfl
theorem RV.flat_eq {m : Mu} {v v' : Value} (h : RV m v v') (f : flat v = true) : v' = v := h.flatN_eq 8 f
theorem RVs.flat_eq {m : Mu} {a a' : List Value} (h : RVs m a a') (f : flatL a = true) : a' = a :=
 List.ext_getElem? fun i => eq_at h.1 fun v v' x y => (h.2 i v v' x y).flat_eq (all_get f x)
abbrev gMax : Nat := 0
def TbP (w : World) : Prop := Go.Lib.TabIs Tryz.prog w "internal/strconv.uint64pow10" .u64 Go.Lib.pow10Tab ∧ ∃ m, w.cell? ⟨gMax, 0, none⟩ = some (.int .i64 m)
def DrOn : Prop := False
theorem tb_of {W : World} (h : TbP W) : ∀ w',Below W.heap.size W w' → TbP w' := fun w' hb => by
 refine ⟨Go.Lib.tabBelow_of_tabIs h.1 w' hb,?_⟩
 obtain ⟨m,hm⟩ := h.2
 refine ⟨m,?_⟩
 have hlt : gMax < W.heap.size := by
  unfold World.cell? at hm
  split at hm
  ·next e => exact (Array.getElem?_eq_some_iff.1 e).1
  ·cases hm
 have := hb.block gMax hlt
 unfold World.cell? at hm ⊢
 rw [this]
 exact hm
instance : Fl := ⟨DrOn,TbP⟩
def one : Value → Bool
 | .agg _ | .tuple _ => false
 | _ => true
theorem one_of [Fl] {m : Mu} {v v' : Value} (h : RV m v v') (o : one v = true) : one v' = true := by
 cases h <;> first | rfl | (simp [one] at o)
def Lies (m : Mu) (w : World) (l : Loc) (cs : List Value) : Prop :=
 ∀ (j : Nat) v,cs[j]? = some v → ∃ v',w.cell? ⟨l.blk,l.off + j,none⟩ = some v' ∧ RV m v v'
def mkE : Nat := 1099511627776
def Whole (w : World) (l : Loc) (ob : Ob) : Prop :=
 ∃ c e f,w.heap[l.blk]? = some (.cells c e f) ∧ (∀ o,o < c.size → ¬ (f.1 ≤ o ∧ o < f.2)) ∧ l.off + ob.cells.length + l.slack * (ob.esz % mkE) ≤ c.size ∧ (mkE ≤ ob.esz → l.off = 0 ∧ ob.esz / mkE = e + 1 ∧ (ob.esz % mkE = 0 → c.size = ob.cells.length))
def Tb [Fl] (base : Nat) (w0 : World) : Prop := ∀ w',Below base w0 w' → Fl.tb w'
structure Bel [Fl] (base : Nat) (w0 w : World) : Prop where
 bl : Below base w0 w
 dr : Fl.on → w0.drawn ≤ w.drawn
 tb : Tb base w0
theorem Bel.trans [Fl] {base : Nat} {a b c : World} (h : Bel base a b) (k : Below base b c) (d : Fl.on → b.drawn ≤ c.drawn) : Bel base a c := ⟨h.bl.trans k,fun o => Nat.le_trans (h.dr o) (d o),h.tb⟩
theorem Bel.refl [Fl] {base : Nat} {w : World} (t : Tb base w) : Bel base w w := ⟨Below.refl _ _,fun _ => Nat.le_refl _,t⟩
def entL (es : Array MapEntry) : List Value := es.toList.flatMap fun e => [e.key,e.val]
structure MS (base : Nat) (m : Mu) (h : Hp) (w : World) : Prop where
 fr : ∀ i,h.nx ≤ i → m.mp i = none
 ex : ∀ i l,m i = some l → m.mp i = none
 lv : ∀ i b,m.mp i = some b → ∃ ob es ck,h.get i = some ob ∧ w.heap[b]? = some (Obj.map es ck) ∧ entL es = ob.cells ∧ base ≤ b
 ap : ∀ i j b,m.mp i = some b → m.mp j = some b → i = j
theorem MS.keep [Fl] {base : Nat} {m m' : Mu} {h h' : Hp} {w w' : World} (s : MS base m h w) (hm : m'.mp = m.mp) (hw : ∀ (b : Nat) es ck,w.heap[b]? = some (Obj.map es ck) → w'.heap[b]? = w.heap[b]?) (hg : ∀ i b,m.mp i = some b → h'.get i = h.get i) (hn : h.nx ≤ h'.nx) (hx : ∀ i l,m' i = some l → m.mp i = none) : MS base m' h' w' :=
 ⟨fun i hi => by rw [hm]; exact s.fr i (Nat.le_trans hn hi),fun i l e => by rw [hm]; exact hx i l e,fun i b e => by
  rw [hm] at e
  obtain ⟨ob,es,ck,h1,h2,h3,h4⟩ := s.lv i b e
  exact ⟨ob,es,ck,(hg i b e).trans h1,(hw b es ck h2).trans h2,h3,h4⟩,fun i j b e e' => by rw [hm] at e e'; exact s.ap i j b e e'⟩
theorem MS.nx [Fl] {base : Nat} {m : Mu} {h : Hp} {w : World} (s : MS base m h w) {i b : Nat} (e : m.mp i = some b) : i < h.nx := by
 rcases Nat.lt_or_ge i h.nx with h1 | h1
 ·exact h1
 ·rw [s.fr i h1] at e; cases e
theorem MS.empty [Fl] (base : Nat) (f : Nat → Option Loc) (h : Hp) (w : World) : MS base ⟨f,fun _ => none⟩ h w := ⟨fun _ _ => rfl,fun _ _ _ => rfl,fun _ _ e => (by cases e),fun _ _ _ e => (by cases e)⟩
structure Sim [Fl] (base : Nat) (w0 : World) (m : Mu) (h : Hp) (w : World) : Prop where
 below : Bel base w0 w
 big : base ≤ w.heap.size
 fresh : ∀ i,h.nx ≤ i → m i = none
 lt : ∀ i l,m i = some l → l.blk < w.heap.size
 ms : MS base m h w
 obs : ∀ i ob,h.get i = some ob → m.mp i = none → ∃ l,m i = some l ∧ Lies m w l ob.cells ∧ (ob.rw = true → base ≤ l.blk ∧ Whole w l ob)
 apart : ∀ i j a b l l',h.get i = some a → h.get j = some b → i ≠ j → a.rw = true → m i = some l → m j = some l' → l.blk ≠ l'.blk
def Mu.add (m : Mu) (i : Nat) (l : Loc) : Mu := ⟨fun j => if j = i then some l else m j,m.mp⟩
theorem Mu.add_f [Fl] (m : Mu) (i j : Nat) (l : Loc) : (m.add i l) j = if j = i then some l else m j := rfl
def Hp.put (h : Hp) (i : Nat) (o : Ob) : Hp := ⟨fun j => if j = i then some o else h.get j,h.nx⟩
def Hp.del (h : Hp) (i : Nat) : Hp := ⟨fun j => if j = i then none else h.get j,h.nx⟩
def Hp.new (h : Hp) (o : Ob) : Hp := ⟨fun j => if j = h.nx then some o else h.get j,h.nx + 1⟩
theorem Mu.le_add [Fl] {m : Mu} {i : Nat} (l : Loc) (h : m i = none) : m.le (m.add i l) := by
 refine ⟨fun j l' e => ?_,fun _ _ e => e⟩
 rw [Mu.add_f]
 split
 ·next hj => subst hj; rw [h] at e; cases e
 ·exact e
theorem Mu.add_same [Fl] (m : Mu) (i : Nat) (l : Loc) : m.add i l i = some l := by simp [Mu.add]
theorem Sim.world [Fl] {base w0 m h w} (s : Sim base w0 m h w) {w' : World} (hb : Below base w w') (hd : Fl.on → w.drawn ≤ w'.drawn) (hs : w.heap.size ≤ w'.heap.size) (hmm : ∀ (b : Nat) es ck,w.heap[b]? = some (Obj.map es ck) → w'.heap[b]? = w.heap[b]?)
  (hh : ∀ i l ob,h.get i = some ob → m i = some l → w'.heap[l.blk]? = w.heap[l.blk]?) : Sim base w0 m h w' := by
 refine ⟨s.below.trans hb hd,Nat.le_trans s.big hs,s.fresh,fun i l e => Nat.lt_of_lt_of_le (s.lt i l e) hs,s.ms.keep rfl hmm (fun _ _ _ => rfl) (Nat.le_refl _) s.ms.ex,fun i ob e hno => ?_,s.apart⟩
 obtain ⟨l,hl,h1,h2⟩ := s.obs i ob e hno
 have hbk := hh i l ob e hl
 refine ⟨l,hl,fun j v ej => ?_,fun r => ⟨(h2 r).1,?_⟩⟩
 ·obtain ⟨v',hv,rv⟩ := h1 j v ej
  refine ⟨v',?_,rv⟩
  unfold World.cell? at hv ⊢
  rw [hbk]; exact hv
 ·obtain ⟨c,el,f,h3,h4⟩ := (h2 r).2
  exact ⟨c,el,f,by rw [hbk]; exact h3,h4⟩
theorem Sim.drawn [Fl] {base w0 m h w} (s : Sim base w0 m h w) (n : Nat) (hn : w.drawn ≤ n) : Sim base w0 m h { w with drawn := n } :=
 s.world ⟨rfl,rfl,rfl,Nat.le_refl _,fun _ _ => rfl⟩ (fun _ => hn) (Nat.le_refl _) (fun _ _ _ _ => rfl) (fun _ _ _ _ _ => rfl)
theorem heap_push_old [Fl] {w : World} {o : Obj} {b : Nat} (h : b < w.heap.size) : (w.heap.push o)[b]? = w.heap[b]? := by
 rw [Array.getElem?_push,if_neg (by omega)]
theorem heap_push_new [Fl] {w : World} {o : Obj} : (w.heap.push o)[w.heap.size]? = some o := by simp
theorem Lies.mono [Fl] {m m' : Mu} (hm : m.le m') {w l cs} (h : Lies m w l cs) : Lies m' w l cs := fun j v e =>
 let ⟨v',a,b⟩ := h j v e; ⟨v',a,b.mono hm⟩
theorem Sim.alloc [Fl] {base w0 m h w} (s : Sim base w0 m h w) {cs cs' : List Value} {more : List Value} {k esz : Nat} (e : TypeId) (hr : RVs m cs cs') (hk : more.length = k * (esz % mkE)) (hmk : mkE ≤ esz → esz / mkE = e + 1 ∧ (esz % mkE = 0 → more = [])) (f : Nat × Nat)
  (hf : ∀ o,o < (cs' ++ more).length → ¬ (f.1 ≤ o ∧ o < f.2)) :
  Sim base w0 (m.add h.nx ⟨w.heap.size,0,k⟩) (h.new ⟨cs,true,esz⟩) { w with heap := w.heap.push (.cells (cs' ++ more).toArray e f) } := by
 have hn := s.fresh _ (Nat.le_refl _)
 have hm : m.le (m.add h.nx ⟨w.heap.size,0,k⟩) := Mu.le_add _ hn
 refine ⟨?_,by simp; have := s.big; omega,?_,?_,?_,?_,?_⟩
 ·exact s.below.trans ⟨rfl,rfl,rfl,by simp,fun k hk => heap_push_old (Nat.lt_of_lt_of_le hk s.big)⟩ (fun _ => Nat.le_refl _)
 ·intro i hi
  simp only [Hp.new] at hi
  rw [Mu.add_f,if_neg (by omega)]
  exact s.fresh i (by omega)
 ·intro i l el
  rw [Mu.add_f] at el
  split at el
  ·cases el; simp
  ·have := s.lt i l el; simp; omega
 ·refine s.ms.keep rfl (fun b es ck hb => ?_) (fun i b hb => ?_) (Nat.le_succ _) fun i l el => ?_
  ·have hlt : b < w.heap.size := (Array.getElem?_eq_some_iff.1 hb).1
   exact heap_push_old hlt
  ·have := s.ms.nx hb
   simp only [Hp.new]
   rw [if_neg (by omega)]
  ·rw [Mu.add_f] at el
   split at el
   ·next e => rw [e]; exact s.ms.fr _ (Nat.le_refl _)
   ·exact s.ms.ex i l el
 ·intro i ob ei hno
  simp only [Hp.new] at ei
  split at ei
  ·next hi =>
   subst hi; cases ei
   refine ⟨_,Mu.add_same _ _ _,fun j v ej => ?_,fun _ => ⟨s.big,?_⟩⟩
   ·obtain ⟨v',e',rv⟩ := hr.get ej
    refine ⟨v',?_,rv.mono hm⟩
    have hj := (List.getElem?_eq_some_iff.1 e').1
    have : ((cs' ++ more).toArray)[j]? = some v' := by
     rw [List.getElem?_toArray,List.getElem?_append_left hj]; exact e'
    simp [World.cell?,this]
   ·refine ⟨_,e,f,heap_push_new,fun o ho => hf o (by simpa using ho),?_⟩
    have := hr.1
    refine ⟨by simp only [List.size_toArray,List.length_append]; omega,fun hm2 => ⟨rfl,(hmk hm2).1,fun h0 => ?_⟩⟩
    rw [(hmk hm2).2 h0]
    simp only [List.append_nil,List.size_toArray]
    omega
  ·next hi =>
   obtain ⟨l,hl,h1,h2⟩ := s.obs i ob ei hno
   have hlt := s.lt i l hl
   refine ⟨l,hm.1 _ _ hl,fun j v ej => ?_,fun r => ⟨(h2 r).1,?_⟩⟩
   ·obtain ⟨v',hv,rv⟩ := h1 j v ej
    refine ⟨v',?_,rv.mono hm⟩
    unfold World.cell? at hv ⊢
    rw [show ((w.heap.push _)[l.blk]? : Option Obj) = _ from heap_push_old hlt]; exact hv
   ·obtain ⟨c,el,g,h3,h4⟩ := (h2 r).2
    exact ⟨c,el,g,by rw [show ((w.heap.push _)[l.blk]? : Option Obj) = _ from heap_push_old hlt]; exact h3,h4⟩
 ·intro i j a b l l' ei ej hij ra el el'
  simp only [Hp.new] at ei ej
  rw [Mu.add_f] at el el'
  split at ei <;> split at ej
  ·next h1 h2 => exact absurd (h1.trans h2.symm) hij
  ·next h1 h2 =>
   rw [if_pos h1] at el; rw [if_neg h2] at el'
   cases el
   have := s.lt j l' el'
   simp; omega
  ·next h1 h2 =>
   rw [if_neg h1] at el; rw [if_pos h2] at el'
   cases el'
   have := s.lt i l el
   simp; omega
  ·next h1 h2 =>
   rw [if_neg h1] at el; rw [if_neg h2] at el'
   exact s.apart i j a b l l' ei ej hij ra el el'
theorem Sim.del [Fl] {base w0 m h w} (s : Sim base w0 m h w) (i : Nat) (hmi : m.mp i = none) : Sim base w0 m (h.del i) w := by
 refine ⟨s.below,s.big,s.fresh,s.lt,s.ms.keep rfl (fun _ _ _ _ => rfl) (fun j b e => ?_) (Nat.le_refl _) s.ms.ex,fun j ob e hno => ?_,fun j k a b l l' e e' => ?_⟩
 ·simp only [Hp.del]
  rw [if_neg (fun hj => by rw [hj,hmi] at e; cases e)]
 ·simp only [Hp.del] at e
  split at e
  ·cases e
  ·exact s.obs j ob e hno
 ·simp only [Hp.del] at e e'
  split at e
  ·cases e
  ·split at e'
   ·cases e'
   ·exact s.apart j k a b l l' e e'
theorem heap_setCell [Fl] {w : World} {a : Addr} {v : Value} {b : Nat} (h : b ≠ a.block) : (w.setCell a v).heap[b]? = w.heap[b]? := by
 simp only [World.setCell,Array.getElem?_modify]
 rw [if_neg (by omega)]
theorem Sim.store [Fl] {base w0 m h w} (s : Sim base w0 m h w) {i j : Nat} {ob : Ob} {l : Loc} {v v' : Value} (hi : h.get i = some ob) (hl : m i = some l) (hw : ob.rw = true)
  (hj : j < ob.cells.length) (hv : RV m v v') :
  Sim base w0 m (h.put i { ob with cells := ob.cells.set j v }) (w.setCell ⟨l.blk,l.off + j,none⟩ v') := by
 obtain ⟨l2,hl2,hlies,hob⟩ := s.obs i ob hi (s.ms.ex _ _ hl)
 rw [hl] at hl2; cases hl2
 obtain ⟨hbase,c,e,f,hblk,hfr,hsz,hmk⟩ := hob hw
 have hnew : (w.setCell ⟨l.blk,l.off + j,none⟩ v').heap[l.blk]? = some (.cells (c.setIfInBounds (l.off + j) v') e f) := by
  simp [World.setCell,Array.getElem?_modify,hblk]
 refine ⟨s.below.trans ⟨rfl,rfl,rfl,by simp [World.setCell],fun k hk => heap_setCell (by simp; omega)⟩ (fun _ => Nat.le_refl _),by simp [World.setCell]; exact s.big,s.fresh,fun k q hq => by simp [World.setCell]; exact s.lt k q hq,?_,?_,?_⟩
 ·refine s.ms.keep rfl (fun b es ck hb => heap_setCell fun e => ?_) (fun k b hb => ?_) (Nat.le_refl _) s.ms.ex
  ·rw [show b = l.blk from e,hblk] at hb; cases hb
  ·simp only [Hp.put]
   rw [if_neg (fun e => by rw [e,s.ms.ex _ _ hl] at hb; cases hb)]
 ·intro k o ek hno
  simp only [Hp.put] at ek
  split at ek
  ·next hk =>
   subst hk; cases ek
   refine ⟨l,hl,fun n x ex => ?_,fun _ => ⟨hbase,_,e,f,hnew,by simpa using hfr,by simpa using hsz,fun hm2 => ⟨(hmk hm2).1,(hmk hm2).2.1,fun h0 => by simpa using (hmk hm2).2.2 h0⟩⟩⟩
   simp only [List.getElem?_set] at ex
   split at ex
   ·next hjn =>
    subst hjn
    cases ex
    refine ⟨v',?_,hv⟩
    simp only [World.cell?,hnew]
    simp [Array.getElem?_setIfInBounds]
    have : l.slack * (ob.esz % mkE) ≥ 0 := Nat.zero_le _
    omega
   ·next hjn =>
    obtain ⟨x',hx,rx⟩ := hlies n x ex
    refine ⟨x',?_,rx⟩
    simp only [World.cell?,hblk] at hx
    simp only [World.cell?,hnew]
    have hne : ¬ (l.off + j = l.off + n) := by omega
    simp only [Array.getElem?_setIfInBounds,if_neg hne]
    exact hx
  ·next hk =>
   obtain ⟨q,hq,h1,h2⟩ := s.obs k o ek hno
   have hne : q.blk ≠ l.blk := fun eb => s.apart i k ob o l q hi ek (fun e => hk e.symm) hw hl hq eb.symm
   have hsame := heap_setCell (w := w) (a := ⟨l.blk,l.off + j,none⟩) (v := v') (b := q.blk) hne
   refine ⟨q,hq,fun n x ex => ?_,fun r => ⟨(h2 r).1,?_⟩⟩
   ·obtain ⟨x',hx,rx⟩ := h1 n x ex
    refine ⟨x',?_,rx⟩
    unfold World.cell? at hx ⊢
    rw [show ((w.setCell _ v').heap[q.blk]? : Option Obj) = _ from hsame]; exact hx
   ·obtain ⟨c',e',f',h3,h4⟩ := (h2 r).2
    exact ⟨c',e',f',hsame.trans h3,h4⟩
 ·intro k n a b p q ek en hkn ra ep eq
  simp only [Hp.put] at ek en
  split at ek <;> split at en
  ·next h1 h2 => exact absurd (h1.trans h2.symm) hkn
  ·next h1 h2 => cases ek; subst h1; exact s.apart k n ob b p q hi en hkn hw ep eq
  ·next h1 h2 => cases en; subst h2; exact s.apart k n a ob p q ek hi hkn ra ep eq
  ·exact s.apart k n a b p q ek en hkn ra ep eq
theorem Sim.loc [Fl] {base w0 m h w} (s : Sim base w0 m h w) {i : Nat} {ob : Ob} {l : Loc} (hi : h.get i = some ob) (hl : m i = some l) :
  Lies m w l ob.cells ∧ (ob.rw = true → base ≤ l.blk ∧ Whole w l ob) := by
 obtain ⟨l2,hl2,h1,h2⟩ := s.obs i ob hi (s.ms.ex _ _ hl)
 rw [hl] at hl2; cases hl2
 exact ⟨h1,h2⟩
theorem Sim.cell [Fl] {base w0 m h w} (s : Sim base w0 m h w) {i j : Nat} {ob : Ob} {l : Loc} {v : Value} (hi : h.get i = some ob) (hl : m i = some l) (hj : ob.cells[j]? = some v) :
  ∃ v',w.cell? ⟨l.blk,l.off + j,none⟩ = some v' ∧ RV m v v' := (s.loc hi hl).1 j v hj
theorem Sim.thaw [Fl] {base w0 m h w} (s : Sim base w0 m h w) {i j : Nat} {ob : Ob} {l : Loc} (hi : h.get i = some ob) (hl : m i = some l) (hw : ob.rw = true) (hj : j < ob.cells.length) :
  w.frozen? ⟨l.blk,l.off + j,none⟩ = false := by
 obtain ⟨_,c,e,f,hblk,hfr,hsz,_⟩ := (s.loc hi hl).2 hw
 simp only [World.frozen?,hblk]
 have := hfr (l.off + j) (by have : l.slack * (ob.esz % mkE) ≥ 0 := Nat.zero_le _; omega)
 simp
 omega
section
theorem add_lit' [Fl] (b o n : Nat) : (⟨b,o,none⟩ : Addr).add n = ⟨b,o + n,none⟩ := by
 unfold Addr.add
 split
 ·next h => subst h; rfl
 ·rfl
def Hp.rd (h : Hp) (i o n : Nat) : Option (List Value) :=
 match h.get i with
 | some ob => if o + n ≤ ob.cells.length then some ((ob.cells.drop o).take n) else none
 | none => none
def splice (cs : List Value) (p : Nat) : List Value → List Value
 | [] => cs
 | v :: r => splice (cs.set p v) (p + 1) r
def Hp.wr (h : Hp) (i o : Nat) (vs : List Value) : Option Hp :=
 match h.get i with
 | some ob => if ob.rw = true ∧ o + vs.length ≤ ob.cells.length ∧ vs.all one = true then some (h.put i { ob with cells := splice ob.cells o vs }) else none
 | none => none
theorem Hp.rd_some [Fl] {h : Hp} {i o n : Nat} {vs : List Value} (e : h.rd i o n = some vs) : ∃ ob,h.get i = some ob ∧ o + n ≤ ob.cells.length ∧ vs = (ob.cells.drop o).take n := by
 unfold Hp.rd at e
 split at e
 ·next ob hob =>
  split at e
  ·next hl => cases e; exact ⟨ob,hob,hl,rfl⟩
  ·cases e
 ·cases e
theorem Hp.wr_some [Fl] {h h' : Hp} {i o : Nat} {vs : List Value} (e : h.wr i o vs = some h') : ∃ ob,h.get i = some ob ∧ ob.rw = true ∧ o + vs.length ≤ ob.cells.length ∧ vs.all one = true ∧ h' = h.put i { ob with cells := splice ob.cells o vs } := by
 unfold Hp.wr at e
 split at e
 ·next ob hob =>
  split at e
  ·next hl => cases e; exact ⟨ob,hob,hl.1,hl.2.1,hl.2.2,rfl⟩
  ·cases e
 ·cases e
theorem Hp.put_put [Fl] (h : Hp) (i : Nat) (a b : Ob) : (h.put i a).put i b = h.put i b := by
 simp only [Hp.put,Hp.mk.injEq,and_true]
 funext j
 split <;> rfl
theorem Hp.put_self [Fl] (h : Hp) (i : Nat) (a : Ob) (e : h.get i = some a) : h.put i a = h := by
 obtain ⟨g,n⟩ := h
 simp only [Hp.put,Hp.mk.injEq,and_true]
 funext j
 split
 ·next hj => subst hj; exact e.symm
 ·rfl
theorem Hp.put_get [Fl] (h : Hp) (i : Nat) (a : Ob) : (h.put i a).get i = some a := by simp [Hp.put]
section
variable {P : Program} {base : Nat} {w0 w : World} {m : Mu} {h : Hp}
theorem cells_of [Fl] (s : Sim base w0 m h w) {i o n : Nat} {l : Loc} {vs : List Value} (hl : m i = some l) (e : h.rd i o n = some vs) :
  ∃ vs',RVs m vs vs' ∧ vs'.length = n ∧ (∀ (j : Nat) v,vs'[j]? = some v → w.cell? ((⟨l.blk,l.off + o,none⟩ : Addr).add j) = some v) := by
 obtain ⟨ob,hob,hn,rfl⟩ := Hp.rd_some e
 have hlies := (s.loc hob hl).1
 have key : ∀ k,k ≤ n → ∃ vs' : List Value,RVs m ((ob.cells.drop o).take k) vs' ∧ vs'.length = k ∧ (∀ (j : Nat) v,vs'[j]? = some v → w.cell? ((⟨l.blk,l.off + o,none⟩ : Addr).add j) = some v) := by
  intro k
  induction k with
  | zero => intro _; exact ⟨[],by simpa using RVs.nil m,rfl,by simp⟩
  | succ k ih =>
   intro hk
   obtain ⟨vs',h1,h2,h3⟩ := ih (by omega)
   have hlt : o + k < ob.cells.length := by omega
   obtain ⟨x',hx,rx⟩ := hlies (o + k) _ (List.getElem?_eq_getElem hlt)
   refine ⟨vs' ++ [x'],?_,by simp [h2],?_⟩
   ·rw [List.take_add_one,List.getElem?_drop,List.getElem?_eq_getElem hlt]
    exact h1.append (RVs.cons rx (RVs.nil m))
   ·intro j v ej
    rw [List.getElem?_append] at ej
    split at ej
    ·exact h3 j v ej
    ·next hj =>
     have hjk : j - vs'.length = 0 := by
      have := (List.getElem?_eq_some_iff.1 ej).1
      simp at this; omega
     rw [hjk] at ej
     simp at ej
     subst ej
     have : j = k := by omega
     subst this
     rw [add_lit',Nat.add_assoc]
     exact hx
 exact key n (Nat.le_refl _)
theorem run_loadCells' [Fl] (s : Sim base w0 m h w) {i o n : Nat} {l : Loc} {vs : List Value} (hl : m i = some l) (e : h.rd i o n = some vs) :
  ∃ vs',RVs m vs vs' ∧ vs'.length = n ∧ (loadCells ⟨l.blk,l.off + o,none⟩ n).run P w = .ok vs'.toArray w := by
 obtain ⟨vs',h1,h2,h3⟩ := cells_of s hl e
 refine ⟨vs',h1,h2,?_⟩
 have := run_loadCells_list (P := P) (w := w) ⟨l.blk,l.off + o,none⟩ vs' h3
 rw [h2] at this
 exact this
theorem run_store' [Fl] (s : Sim base w0 m h w) {i j : Nat} {l : Loc} {ob : Ob} {v v' : Value} (hl : m i = some l) (hi : h.get i = some ob) (hw : ob.rw = true) (hj : j < ob.cells.length) (rv : RV m v v') (ho : one v = true) :
  (store ⟨l.blk,l.off + j,none⟩ v').run P w = .ok () (w.setCell ⟨l.blk,l.off + j,none⟩ v') := by
 obtain ⟨x,hx,_⟩ := s.cell hi hl (List.getElem?_eq_getElem hj)
 have hf := s.thaw hi hl hw hj
 have ho' := one_of rv ho
 unfold store
 cases v' <;> first | (simp only [Sem.run,hx,hf]; rfl) | exact absurd ho' (by simp [one])
theorem run_storeCells' [Fl] {i o : Nat} {l : Loc} {ob : Ob} : ∀ (vs vs' : List Value) (k : Nat) (cs : List Value) (w : World),Sim base w0 m (h.put i { ob with cells := cs }) w → m i = some l → ob.rw = true →
  o + k + vs.length ≤ cs.length → vs.all one = true → RVs m vs vs' →
  ∃ w',(storeCells ⟨l.blk,l.off + o,none⟩ vs' k).run P w = .ok () w' ∧ w'.heap.size = w.heap.size ∧ w'.drawn = w.drawn ∧ Sim base w0 m (h.put i { ob with cells := splice cs (o + k) vs }) w' := by
 intro vs
 induction vs with
 | nil =>
  intro vs' k cs w s hl hw hb ho hr
  obtain rfl := RVs.cases_nil hr
  exact ⟨w,rfl,rfl,rfl,s⟩
 | cons v r ih =>
  intro vs' k cs w s hl hw hb ho hr
  obtain ⟨v',r',rfl,rv,hr⟩ := RVs.cases_cons hr
  simp only [List.all_cons,Bool.and_eq_true] at ho
  simp only [List.length_cons] at hb
  have hget := Hp.put_get h i { ob with cells := cs }
  have hst := run_store' (P := P) (j := o + k) s hl hget hw (by show o + k < cs.length; omega) rv ho.1
  have s2 := s.store (j := o + k) hget hl hw (by show o + k < cs.length; omega) rv
  rw [Hp.put_put] at s2
  obtain ⟨w',hrun,hs1,hs2,s3⟩ := ih r' (k + 1) (cs.set (o + k) v) _ s2 hl hw (by simp; omega) ho.2 hr
  refine ⟨w',?_,hs1.trans (by simp [World.setCell]),hs2.trans rfl,s3⟩
  unfold storeCells
  have ha : (⟨l.blk,l.off + o,none⟩ : Addr).add k = ⟨l.blk,l.off + (o + k),none⟩ := by rw [add_lit',Nat.add_assoc]
  rw [ha]
  simp only [Sem.run_bind,hst,Result.andThen_ok]
  exact hrun
theorem run_wr [Fl] (s : Sim base w0 m h w) {i o : Nat} {l : Loc} {vs vs' : List Value} {h' : Hp} (hl : m i = some l) (e : h.wr i o vs = some h') (hr : RVs m vs vs') :
  ∃ w',(storeCells ⟨l.blk,l.off + o,none⟩ vs').run P w = .ok () w' ∧ w'.heap.size = w.heap.size ∧ w'.drawn = w.drawn ∧ Sim base w0 m h' w' := by
 obtain ⟨ob,hob,hw,hb,ho,rfl⟩ := Hp.wr_some e
 have s' : Sim base w0 m (h.put i { ob with cells := ob.cells }) w := by rw [Hp.put_self h i _ hob]; exact s
 exact run_storeCells' vs vs' 0 ob.cells w s' hl hw (by omega) ho hr
def pureSem {α : Type} (P : Program) : Sem α → Option α
 | .pure a => some a
 | .program k => pureSem P (k P)
 | _ => none
theorem pureSem_run [Fl] {α : Type} {s : Sem α} {a : α} (e : pureSem P s = some a) (w : World) : s.run P w = .ok a w := by
 induction s with
 | pure x => simp [pureSem] at e; subst e; rfl
 | program k ih => simp only [pureSem] at e; simpa [Sem.run] using ih P e
 | _ => simp [pureSem] at e
end
end
inductive K
 | mv | pick | bin (op : BinOp) | bbin (op : BinOp) | isn (neg : Bool) | not | neg | cvt (k : IntKind)
 | new (e : TypeId) (z : Value) | newB (e : TypeId) (z : Value) | box (e : TypeId)
 | bld (z : Array Value) (pls : List (Nat × Nat)) (ix : List Nat)
 | bsl (e : TypeId) (esz len : Nat) (z : Array Value) (ix : List Nat)
 | ld1 | ldn (n : Nat) | st (n : Nat)
 | nck | ifc (t : TypeId) | tas (t : TypeId) (ok : Bool) (z : Value) | clo (fn : Fn) (nf : Nat)
 | mks (e : TypeId) (esz bytes : Nat) (z : Array Value)
 | slc (esz : Nat) (lo hi mx : Bool) | sla (n esz : Nat) (lo hi mx : Bool) | sls (lo hi : Bool)
 | fad (off : Nat) | fld (off n : Nat) (agg : Bool)
 | iad (esz : Nat) | iaa (len esz : Nat) | ixa (len esz n : Nat) (agg : Bool) | ixs
 | ext (i : Nat) | len | lens | lenc (n : Nat)
 | app (e : TypeId) (esz bytes : Nat) | aps (e : TypeId)
 | cpy (esz : Nat) | clr (esz : Nat) (z : Value)
 | b2s | s2b (e : TypeId) | mm (mx : Bool)
 | mkm | mlk (z : Value) (ok : Bool) | mup
 | sdt | ust (e : TypeId)
 deriving Inhabited
def binA (op : BinOp) : Value → Value → Option Value
 | .int k a,.int k' b =>
  match op with
  | .shl => if b < 0 then none else some (.int k (k.wrap (a * 2 ^ (min b.toNat k.bits))))
  | .shr => if b < 0 then none else some (.int k (a.fdiv (2 ^ (min b.toNat k.bits))))
  | .add => if k = k' then some (.int k (k.wrap (a + b))) else none
  | .sub => if k = k' then some (.int k (k.wrap (a - b))) else none
  | .mul => if k = k' then some (.int k (k.wrap (a * b))) else none
  | .quo => if k = k' ∧ b ≠ 0 then some (.int k (k.wrap (a.tdiv b))) else none
  | .rem => if k = k' ∧ b ≠ 0 then some (.int k (a.tmod b)) else none
  | .and => if k = k' then some (.int k (k.wrap (BitVec.ofInt k.bits a &&& BitVec.ofInt k.bits b).toNat)) else none
  | .or => if k = k' then some (.int k (k.wrap (BitVec.ofInt k.bits a ||| BitVec.ofInt k.bits b).toNat)) else none
  | .xor => if k = k' then some (.int k (k.wrap (BitVec.ofInt k.bits a ^^^ BitVec.ofInt k.bits b).toNat)) else none
  | .andNot => if k = k' then some (.int k (k.wrap (BitVec.ofInt k.bits a &&& ~~~(BitVec.ofInt k.bits b)).toNat)) else none
  | .eql => if k = k' then some (.bool (a == b)) else none
  | .neq => if k = k' then some (.bool (a != b)) else none
  | .lss => if k = k' then some (.bool (a < b)) else none
  | .leq => if k = k' then some (.bool (a ≤ b)) else none
  | .gtr => if k = k' then some (.bool (a > b)) else none
  | .geq => if k = k' then some (.bool (a ≥ b)) else none
 | .string x,.string y =>
  match op with
  | .add => if x.size + y.size ≤ 9223372036854775807 then some (.string (x ++ y)) else none
  | .eql => some (.bool (x.toList == y.toList))
  | .neq => some (.bool !(x.toList == y.toList))
  | .lss => some (.bool (Op.bytesLess x.toList y.toList))
  | .leq => some (.bool (Op.bytesLess x.toList y.toList || x.toList == y.toList))
  | .gtr => some (.bool !(Op.bytesLess x.toList y.toList || x.toList == y.toList))
  | .geq => some (.bool !(Op.bytesLess x.toList y.toList))
  | _ => none
 | .bool a,.bool b => match op with
  | .eql => some (.bool (a == b))
  | .neq => some (.bool !(a == b))
  | _ => none
 | _,_ => none
def isnil : Value → Value → Option Bool
 | .pointer a,.pointer none => some a.isNone
 | .slice a _ _,.slice none _ _ => some a.isNone
 | .map a,.map none => some a.isNone
 | .nilFunc,.nilFunc => some true
 | .func _ _ _,.nilFunc => some false
 | .nilIface,.nilIface => some true
 | .iface _ _,.nilIface => some false
 | _,_ => none
def takeB : Bool → List Value → Option (Option Value × List Value)
 | false,vs => some (none,vs)
 | true,.int k n :: r => some (some (.int k n),r)
 | true,_ => none
def bnd (v : Option Value) (y : Nat) (d : Option Nat) : Option Nat :=
 match v with
 | some (.int _ i) => if 0 ≤ i ∧ i ≤ y then some i.toNat else none
 | some _ => none
 | none => d
def bounds (len cap : Nat) (lo hi mx : Option Value) : Option (Nat × Nat × Nat) :=
 match bnd mx cap (some cap) with
 | none => none
 | some m => match bnd hi m (if mx.isSome ∨ cap < len then none else some len) with
  | none => none
  | some h => match bnd lo h (some 0) with
   | none => none
   | some l => some (l,h,m)
def get3 (lo hi mx : Bool) (vs : List Value) : Option (Option Value × Option Value × Option Value) :=
 match takeB lo vs with
 | none => none
 | some (l,r) => match takeB hi r with
  | none => none
  | some (h,r) => match takeB mx r with
   | some (m,[]) => some (l,h,m)
   | _ => none
def sliceA (esz : Nat) (a : Option Addr) (len cap : Nat) (lo hi mx : Option Value) : Option Value :=
 match bounds len cap lo hi mx with
 | none => none
 | some (l,h,m) => match a with
  | none => some (.slice none (h - l) (m - l))
  | some ⟨i,o,none⟩ => some (.slice (some (if m = l then ⟨i,o,none⟩ else ⟨i,o + l * esz,none⟩)) (h - l) (m - l))
  | some ⟨i,o,some 0⟩ =>
   if mx.isSome then some (.slice (some (if m = l then ⟨i,o,none⟩ else ⟨i,o + l * esz,none⟩)) (h - l) (m - l))
   else some (.slice (some ⟨i,o + l * esz,some (if m = l then 1 else 0)⟩) (h - l) (m - l))
  | some ⟨i,o,some (s + 1)⟩ => some (.slice (some ⟨i,o,some (s + 1)⟩) (h - l) (m - l))
def maxA (mx : Bool) : Value → Value → Option Value
 | .int k x,.int k' y => if k = k' then some (.int k (if mx then (if y > x then y else x) else (if y < x then y else x))) else none
 | _,_ => none
def putPtr (h : Hp) (cells : List Value) (esz : Nat) : Value × Hp := (.pointer (some ⟨h.nx,0,none⟩),h.new ⟨cells,true,esz⟩)
def rdS (h : Hp) (a : Option Addr) (n : Nat) : Option (List Value) :=
 match a with
 | none => some []
 | some ⟨i,o,sp⟩ => if n = 0 then some [] else if (sp.getD 0) = 0 then h.rd i o n else none
def appA (esz bytes : Nat) (h : Hp) (a : Option Addr) (len cap : Nat) (xs : List Value) (n : Nat) : Option (Value × Hp) :=
 if xs.length = n * esz ∧ xs.all one = true ∧ 0 < esz ∧ (len + n) * bytes ≤ 140737488355328 ∧ len + n ≤ 140737488355328 then
  match a with
  | none => if len = 0 ∧ cap = 0 then (if n = 0 then some (.slice none 0 0,h) else some (.slice (some ⟨h.nx,0,some 0⟩) n n,h.new ⟨xs,true,esz⟩)) else none
  | some ⟨i,o,sp⟩ =>
   if n = 0 then (if len ≤ cap then some (.slice (some ⟨i,o,sp⟩) len cap,h) else none)
   else if len + n ≤ cap then (h.wr i (o + len * esz) xs).map (.slice (some ⟨i,o,sp⟩) (len + n) cap,·)
   else match (if len = 0 then some [] else h.rd i o (len * esz)),sp with
    | some old,none => some (.slice (some ⟨h.nx,0,some 0⟩) (len + n) (len + n),h.new ⟨old ++ xs,true,esz⟩)
    | some old,some _ => match h.get i with
     | some ob => if ob.rw = true ∧ ob.esz = esz ∧ o + cap * esz = ob.cells.length ∧ len ≤ cap ∧ old.all one = true then some (.slice (some ⟨h.nx,0,some 0⟩) (len + n) (len + n),(h.del i).new ⟨old ++ xs,true,esz⟩) else none
     | none => none
    | none,_ => none
 else none
def appG (esz bytes sz : Nat) (h : Hp) (a : Option Addr) (len cap : Nat) (xs : List Value) (n : Nat) : Option (Value × Hp) :=
 if xs.length = n * esz ∧ xs.all one = true ∧ 0 < esz ∧ (len + n) * bytes ≤ 140737488355328 ∧ len + n ≤ 140737488355328 then
  match a with
  | none => if len = 0 ∧ cap = 0 then (if n = 0 then some (.slice none 0 0,h) else some (.slice (some ⟨h.nx,0,some 0⟩) n n,h.new ⟨xs,true,sz⟩)) else none
  | some ⟨i,o,sp⟩ =>
   if n = 0 then (if len ≤ cap then some (.slice (some ⟨i,o,sp⟩) len cap,h) else none)
   else if len + n ≤ cap then (h.wr i (o + len * esz) xs).map (.slice (some ⟨i,o,sp⟩) (len + n) cap,·)
   else match (if len = 0 then some [] else h.rd i o (len * esz)),sp with
    | some old,none => some (.slice (some ⟨h.nx,0,some 0⟩) (len + n) (len + n),h.new ⟨old ++ xs,true,sz⟩)
    | some old,some _ => match h.get i with
     | some ob => if ob.rw = true ∧ ob.esz = sz ∧ o + cap * esz = ob.cells.length ∧ len ≤ cap ∧ old.all one = true ∧ (mkE ≤ sz → o = 0) then some (.slice (some ⟨h.nx,0,some 0⟩) (len + n) (len + n),(h.del i).new ⟨old ++ xs,true,sz⟩) else none
     | none => none
    | none,_ => none
 else none
theorem appA_G [Fl] {esz bytes : Nat} (hs : esz < mkE) {h : Hp} {a : Option Addr} {len cap : Nat} {xs : List Value} {n : Nat} {r : Value × Hp} (e : appA esz bytes h a len cap xs n = some r) : appG esz bytes esz h a len cap xs n = some r := by
 unfold appA at e
 unfold appG
 have hn : ¬ mkE ≤ esz := Nat.not_le.2 hs
 simp only [hn,false_implies,and_true]
 exact e
def aszB (e : TypeId) : Nat := 1 + mkE * (e + 1)
def bytesV : List Value → Option (List UInt8)
 | [] => some []
 | .int .u8 n :: r => if 0 ≤ n ∧ n < 256 then (bytesV r).map (UInt8.ofNat n.toNat :: ·) else none
 | _ => none
def mfind (k : ByteArray) : List Value → Option (Option Value)
 | [] => some none
 | .string s :: v :: r => if (k == s) = true then some (some v) else mfind k r
 | _ => none
def mput (k : ByteArray) (x : Value) : List Value → Option (List Value)
 | [] => some [.string k,x]
 | .string s :: v :: r => if (k == s) = true then some (.string k :: x :: r) else (mput k x r).map fun r' => .string s :: v :: r'
 | _ => none
def stepK : K → List Value → Hp → Option (Value × Hp)
 | .mv,[x],h => some (x,h)
 | .pick,[.bool b,x,y],h => some (if b then x else y,h)
 | .bin op,[x,y],h => match x with
  | .bool _ => none
  | _ => (binA op x y).map (·,h)
 | .bbin op,[.bool a,y],h => (binA op (.bool a) y).map (·,h)
 | .isn neg,[x,y],h => (isnil x y).map fun b => (.bool (if neg then !b else b),h)
 | .not,[.bool b],h => some (.bool !b,h)
 | .neg,[.int k n],h => some (.int k (k.wrap (0 - n)),h)
 | .cvt k,[.int _ n],h => some (.int k (k.wrap n),h)
 | .new _ z,[],h => some (putPtr h z.cells.toList 0)
 | .newB e z,[],h => some (putPtr h z.cells.toList (mkE * (e + 1)))
 | .box _,[v],h => some (putPtr h v.cells.toList 0)
 | .bld z pls ix,vs,h => if ix.length = vs.length then (Instr.fill (fun i => pls[i]?) z (ix.zip vs)).map fun c => (.agg c,h) else none
 | .bsl _ esz len z ix,vs,h => if ix.length = vs.length then (Instr.fill (fun i => some (i * esz,esz)) z (ix.zip vs)).map fun c => (.slice (some ⟨h.nx,0,none⟩) len len,h.new ⟨c.toList,true,esz⟩) else none
 | .ld1,[.pointer (some ⟨i,o,none⟩)],h => match h.rd i o 1 with
  | some [v] => some (v,h)
  | _ => none
 | .ldn n,[.pointer (some ⟨i,o,none⟩)],h => (h.rd i o n).map fun vs => (.agg ⟨vs⟩,h)
 | .st n,[.pointer (some ⟨i,o,none⟩),v],h => if v.cells.size = n then (h.wr i o v.cells.toList).map (undef,·) else none
 | .nck,[x],h => match x with
  | .pointer (some a) => some (.pointer (some a),h)
  | .iface t v => some (.iface t v,h)
  | .func (.func f) a b => some (.func (.func f) a b,h)
  | _ => none
 | .ifc t,[x],h => some (.iface t x,h)
 | .tas t ok z,[x],h => match x with
  | .iface t' v => if t' = t then some (if ok then .tuple #[v,.bool true] else v,h) else if ok then some (.tuple #[z,.bool false],h) else none
  | .nilIface => if ok then some (.tuple #[z,.bool false],h) else none
  | _ => none
 | .clo fn nf,vs,h => some (.func fn ⟨vs.take nf⟩ ⟨vs.drop nf⟩,h)
 | .mks _ esz bytes z,[.int _ l,.int _ c],h => if 0 ≤ l ∧ l ≤ c ∧ (bytes : Int) * c ≤ 140737488355328 ∧ c ≤ 140737488355328 then
   some (.slice (some ⟨h.nx,0,none⟩) l.toNat c.toNat,h.new ⟨(madeCells z (c.toNat * esz)).toList,true,esz⟩) else none
 | .slc esz lo hi mx,.slice a len cap :: vs,h => match get3 lo hi mx vs with
  | some (l,u,m) => (sliceA esz a len cap l u m).map (·,h)
  | none => none
 | .sla n esz lo hi mx,.pointer (some ⟨i,o,none⟩) :: vs,h => match get3 lo hi mx vs with
  | some (l,u,m) => (sliceA esz (some ⟨i,o,none⟩) n n l u m).map (·,h)
  | none => none
 | .sls lo hi,.string s :: vs,h => match get3 lo hi false vs with
  | some (l,u,_) => (bounds s.size s.size l u none).map fun b => (.string (s.extract b.1 b.2.1),h)
  | none => none
 | .fad off,[.pointer (some ⟨i,o,none⟩)],h => some (.pointer (some ⟨i,o + off,none⟩),h)
 | .fld off n agg,[.agg cs],h => if agg then some (.agg (cs.extract off (off + n)),h) else (cs[off]?).map (·,h)
 | .iad esz,[.slice (some ⟨i,o,_⟩) len _,.int _ x],h => if 0 ≤ x ∧ x < len then some (.pointer (some ⟨i,o + x.toNat * esz,none⟩),h) else none
 | .iaa len esz,[.pointer (some ⟨i,o,none⟩),.int _ x],h => if 0 ≤ x ∧ x < len then some (.pointer (some ⟨i,o + x.toNat * esz,none⟩),h) else none
 | .ixa len esz n agg,[.agg cs,.int _ x],h => if 0 ≤ x ∧ x < len then (if agg then some (.agg (cs.extract (x.toNat * esz) (x.toNat * esz + n)),h) else (cs[x.toNat * esz]?).map (·,h)) else none
 | .ixs,[.string s,.int _ x],h => if 0 ≤ x then (s[x.toNat]?).map fun b => (.int .u8 b.toNat,h) else none
 | .ext i,[.tuple vs],h => (vs[i]?).map (·,h)
 | .len,[.slice _ n _],h => some (.int .i64 n,h)
 | .lens,[.string s],h => some (.int .i64 s.size,h)
 | .lenc n,[_],h => some (.int .i64 n,h)
 | .app _ esz bytes,[.slice a len cap,.slice b n _],h => match rdS h b (n * esz) with
  | some xs => appA esz bytes h a len cap xs n
  | none => none
 | .aps e,[.slice a len cap,.string s],h => appG 1 1 (aszB e) h a len cap (s.data.toList.map fun b => .int .u8 b.toNat) s.size
 | .cpy esz,[.slice a len _,.slice b n _],h => match rdS h b (Nat.min n len * esz) with
  | some xs => match a with
   | none => if xs = [] then some (.int .i64 (Nat.min n len),h) else none
   | some ⟨i,o,_⟩ => if xs = [] then some (.int .i64 (Nat.min n len),h) else (h.wr i o xs).map (.int .i64 (Nat.min n len),·)
  | none => none
 | .clr esz z,[.slice a n _],h => match a with
  | none => some (.tuple #[],h)
  | some ⟨i,o,_⟩ => if n = 0 then some (.tuple #[],h) else if z.cells.size = esz then (h.wr i o (Builtin.zeroCells z.cells n).toList).map (.tuple #[],·) else none
 | .mm mx,[x,y],h => (maxA mx x y).map (·,h)
 | .mkm,[],h => some (.map (some h.nx),h.new ⟨[],false,0⟩)
 | .mlk z ok,[.map (some i),.string k],h => match h.get i with
  | some ob => match mfind k ob.cells with
   | some (some v) => if flat v then some (if ok then .tuple #[v,.bool true] else v,h) else none
   | some none => some (if ok then .tuple #[z,.bool false] else z,h)
   | none => none
  | none => none
 | .mup,[.map (some i),.string k,v],h => if flat v then (match h.get i with
  | some ob => match mput k v ob.cells with
   | some c => some (undef,h.put i ⟨c,ob.rw,ob.esz⟩)
   | none => none
  | none => none) else none
 | .sdt,[.slice a _ c],h => match a with
  | none => some (.pointer none,h)
  | some ⟨i,o,sp⟩ => if c = 0 then none else match sp with
   | none => some (.pointer (some ⟨i,o,none⟩),h)
   | some 0 => some (.pointer (some ⟨i,o,none⟩),h)
   | some _ => none
 | .ust e,[.pointer a,.int .i64 n],h => if n < 0 ∨ 9223372036854775807 < n then none else match a with
  | none => if n = 0 then some (.string ⟨#[]⟩,h) else none
  | some ⟨i,0,none⟩ => if n = 0 then some (.string ⟨#[]⟩,h) else match h.get i with
   | some ob => if ob.rw = true ∧ ob.esz = aszB e then (match h.rd i 0 n.toNat with
    | some vs => (bytesV vs).map fun l => (.string ⟨l.toArray⟩,h.del i)
    | none => none) else none
   | none => none
  | some _ => none
 | _,_,_ => none
def isBld (z : Value) : Bool := match z with
 | .agg ⟨[.pointer none,.slice none 0 0]⟩ => true
 | _ => false
def compB (P : Program) (b : Builtin) (ts : List TypeId) (xs : List Operand) : Option (K × List Operand) :=
 match b,ts,xs with
 | .len,[t],[x] => match P.underlying t with
  | some (.slice _) => some (.len,[x])
  | some .string => some (.lens,[x])
  | some (.array n _) => some (.lenc n,[x])
  | _ => none
 | .append,[t,u],[x,y] => match P.underlying t,P.underlying u with
  | some (.slice el),some du => match P.info? el with
   | some ti => match ti.zero with
    | some z => if z.cells.size = ti.size ∧ ti.size < mkE then (match du with
     | .slice _ => some (.app el ti.size ti.bytes,[x,y])
     | .string => if ti.size = 1 ∧ ti.bytes = 1 then some (.aps el,[x,y]) else none
     | _ => none) else none
    | none => none
   | none => none
  | _,_ => none
 | .copy,[t,_],[x,y] => match P.underlying t with
  | some (.slice el) => match P.info? el with
   | some ti => some (.cpy ti.size,[x,y])
   | none => none
  | _ => none
 | .clear,[t],[x] => match P.underlying t with
  | some (.slice el) => match P.info? el with
   | some ti => match ti.zero with
    | some z => if flatL z.cells.toList then some (.clr ti.size z,[x]) else none
    | none => none
   | none => none
  | _ => none
 | .max,[_,_],[x,y] => some (.mm true,[x,y])
 | .min,[_,_],[x,y] => some (.mm false,[x,y])
 | .unsafeSliceData,[_],[x] => some (.sdt,[x])
 | .unsafeString,[t,_],[x,y] => match P.underlying t with
  | some (.pointer el) => if P.cellsOf el = 1 then some (.ust el,[x,y]) else none
  | _ => none
 | _,_,_ => none
def zrow (zv : Value) (n : Nat) : Array Value := if n = 0 then #[] else (Array.range n).map (zv.cells[· % zv.cells.size]!)
def isNil (d : TypeDesc) : Operand → Bool
 | .const c => match d,c with
  | .pointer _,.pointer none => true
  | .slice _,.slice none _ _ => true
  | .map _ _,.map none => true
  | .func _ _ _,.nilFunc => true
  | .interface _,.nilIface => true
  | _,_ => false
 | _ => false
def isAggD : TypeDesc → Bool
 | .struct _ | .array _ _ => true
 | _ => false
def compOp (P : Program) : Op → Option (K × List Operand)
 | .move x | .assign x => some (.mv,[x])
 | .pick c a b => some (.pick,[c,a,b])
 | .alloc e => match P.info? e with
  | some i => match i.zero with
   | some z => if flat z then some (if isBld z then .newB e z else .new e z,[]) else none
   | none => none
  | none => none
 | .box e v => some (.box e,[v])
 | .build t parts => match P.underlying t,P.info? t with
  | some (.struct fs),some it => match it.zero,fs.toList.mapM (fun f => (P.info? f.type).map fun i => (f.offset,i.size)) with
   | some z,some pl => if flatL z.cells.toList then some (.bld z.cells pl (parts.toList.map (·.1)),parts.toList.map (·.2)) else none
   | _,_ => none
  | some (.array n el),some it => match it.zero,P.info? el with
   | some z,some ie => if flatL z.cells.toList then some (.bld z.cells ((List.range n).map fun i => (i * ie.size,ie.size)) (parts.toList.map (·.1)),parts.toList.map (·.2)) else none
   | _,_ => none
  | _,_ => none
 | .buildSlice t len parts => match P.underlying t with
  | some (.slice el) => match P.info? el with
   | some ie => match ie.zero with
    | some zv =>
     if (¬ len * ie.size > 2 ^ 24 ∧ ie.size < mkE) ∧ flatL (zrow zv (len * ie.size)).toList then
      some (.bsl el ie.size len (zrow zv (len * ie.size)) (parts.toList.map (·.1)),parts.toList.map (·.2)) else none
    | none => none
   | none => none
  | _ => none
 | .load t a => match P.underlying t,P.info? t with
  | some d,some i => some (if isAggD d then .ldn i.size else .ld1,[a])
  | _,_ => none
 | .store t a v => match P.info? t with
  | some i => some (.st i.size,[a,v])
  | none => none
 | .nilCheck x => some (.nck,[x])
 | .binOp op t x y _ => match P.underlying t with
  | some (.int _) => some (.bin op,[x,y])
  | some .string => some (.bin op,[x,y])
  | some .bool => some (.bbin op,[x,y])
  | some d => match op with
   | .eql => if isNil d y then some (.isn false,[x,y]) else none
   | .neq => if isNil d y then some (.isn true,[x,y]) else none
   | _ => none
  | none => none
 | .unOp op _ x => match op with
  | .not => some (.not,[x])
  | .neg => some (.neg,[x])
  | _ => none
 | .convert s d x => match P.underlying s,P.underlying d with
  | some (.int _),some (.int k) => some (.cvt k,[x])
  | _,_ => none
 | .makeInterface t x => match P.underlying t with
  | some (.interface _) => none
  | some _ => some (.ifc t,[x])
  | none => none
 | .typeAssert x _ t ok => match P.underlying t with
  | some (.interface _) => none
  | some _ => if ok then (match P.info? t with
    | some i => match i.zero with
     | some z => if flat z then some (.tas t true z,[x]) else none
     | none => none
    | none => none) else some (.tas t false .nilIface,[x])
  | none => none
 | .makeFunc fn first captured => some (.clo fn first.size,first.toList ++ captured.toList)
 | .makeSlice t l c => match P.underlying t with
  | some (.slice el) => match P.info? el with
   | some ti => match ti.zero with
    | some z => if flatL z.cells.toList ∧ z.cells.size = ti.size ∧ ti.size < mkE then some (.mks el ti.size ti.bytes z.cells,[l,c]) else none
    | none => none
   | none => none
  | _ => none
 | .slice t x lo hi mx => match P.underlying t with
  | some (.slice el) => match P.info? el with
   | some ti => some (.slc ti.size lo.isSome hi.isSome mx.isSome,x :: (lo.toList ++ (hi.toList ++ mx.toList)))
   | none => none
  | some (.array n el) => match P.info? el with
   | some ti => some (.sla n ti.size lo.isSome hi.isSome mx.isSome,x :: (lo.toList ++ (hi.toList ++ mx.toList)))
   | none => none
  | some .string => if mx.isNone then some (.sls lo.isSome hi.isSome,x :: (lo.toList ++ (hi.toList ++ mx.toList))) else none
  | _ => none
 | .fieldAddr t x f => match P.underlying t with
  | some (.struct fs) => match fs[f]? with
   | some fd => match P.info? fd.type with
    | some i => if i.size ≠ 0 then some (.fad fd.offset,[x]) else none
    | none => none
   | none => none
  | _ => none
 | .field t x f => match P.underlying t with
  | some (.struct fs) => match fs[f]? with
   | some fd => match P.underlying fd.type,P.info? fd.type with
    | some d,some i => some (.fld fd.offset i.size (isAggD d),[x])
    | _,_ => none
   | none => none
  | _ => none
 | .indexAddr t x i => match P.underlying t with
  | some (.slice el) => match P.info? el with
   | some ti => some (.iad ti.size,[x,i])
   | none => none
  | some (.array n el) => match P.info? el with
   | some ti => some (.iaa n ti.size,[x,i])
   | none => none
  | _ => none
 | .index t x i => match P.underlying t with
  | some (.array n el) => match P.underlying el,P.info? el with
   | some d,some ti => some (.ixa n ti.size ti.size (isAggD d),[x,i])
   | _,_ => none
  | some .string => some (.ixs,[x,i])
  | _ => none
 | .extract t i => some (.ext i,[t])
 | .makeMap _ none => some (.mkm,[])
 | .lookup t x i ok => match P.underlying t with
  | some (.map key el) => match P.underlying key,P.info? el with
   | some .string,some ei => match ei.zero with
    | some z => if flat z then some (.mlk z ok,[x,i]) else none
    | none => none
   | _,_ => none
  | _ => none
 | .mapUpdate t x k v => match P.underlying t with
  | some (.map key _) => match P.underlying key with
   | some .string => some (.mup,[x,k,v])
   | _ => none
  | _ => none
 | .call { callee := .builtin b,args,argTypes } => compB P b argTypes.toList args.toList
 | _ => none
section
def Snd [Fl] (P : Program) (base : Nat) (w0 : World) (m : Mu) (w : World) (s : Sem Value) (v : Value) (h' : Hp) : Prop :=
 ∃ m' v' w',s.run P w = .ok v' w' ∧ m.le m' ∧ RV m' v v' ∧ Sim base w0 m' h' w'
section
variable {P : Program} {base : Nat} {w0 w : World} {m : Mu} {h : Hp}
theorem Snd.pure [Fl] (s : Sim base w0 m h w) {x : Sem Value} {v v' : Value} (hr : x.run P w = .ok v' w) (rv : RV m v v') : Snd P base w0 m w x v h :=
 ⟨m,v',w,hr,m.le_refl,rv,s⟩
theorem eq_bool [Fl] (d : Nat) {t : TypeId} {a b : Bool} (ht : P.underlying t = some .bool) : (Op.equalIn (d + 1) t (.bool a) (.bool b)).run P w = .ok (a == b) w := by
 simp [Op.equalIn,run_underlying ht]
theorem bin_sound [Fl] {op : BinOp} {x y v : Value} {t : TypeId} (e : binA op x y = some v) (hb : ∀ a,x = .bool a → P.underlying t = some .bool) : (binOp op t x y).run P w = .ok v w := by
 cases x <;> cases y <;> simp only [binA] at e <;> try (cases e; done)
 case int.int k a k' b =>
  cases op <;> simp only at e <;> (split at e <;> cases e) <;> rename_i hc
  case shl => simp [binOp,Op.shift,show ¬ b < 0 from hc]
  case shr => simp [binOp,Op.shift,show ¬ b < 0 from hc]
  case quo => obtain ⟨rfl,h0⟩ := hc; simp [binOp,Op.intDiv,h0]
  case rem => obtain ⟨rfl,h0⟩ := hc; simp [binOp,Op.intDiv,h0]
  all_goals (subst hc; simp [binOp,Op.intArith,Op.intBits,Op.intCmp])
 case string.string a b =>
  cases op <;> simp only at e <;> try (cases e; done)
  case add =>
   split at e <;> cases e
   rename_i hc
   have : ¬ (((a.size + b.size : Nat) : Int) > IntKind.i64.max) := by
    have : IntKind.i64.max = 9223372036854775807 := by decide
    omega
   simp only [binOp,Op.stringOp]
   rw [if_neg this]; rfl
  all_goals (cases e; rfl)
 case bool.bool a b =>
  have ht := hb a rfl
  have hq : (Op.equal t (.bool a) (.bool b)).run P w = .ok (a == b) w := eq_bool 9999 ht
  cases op <;> simp only at e <;> try (cases e; done)
  all_goals (cases e; simp only [binOp,Sem.run_bind,hq,Result.andThen_ok]; rfl)
theorem RV.scalar_int [Fl] {v : Value} {k : IntKind} {n : Int} (r : RV m (.int k n) v) : v = .int k n := by cases r; rfl
theorem RV.scalar_bool [Fl] {v : Value} {b : Bool} (r : RV m (.bool b) v) : v = .bool b := by cases r; rfl
theorem RV.scalar_string [Fl] {v : Value} {s : ByteArray} (r : RV m (.string s) v) : v = .string s := by cases r; rfl
theorem binA_flat [Fl] {op : BinOp} {x y v x' y' : Value} (e : binA op x y = some v) (rx : RV m x x') (ry : RV m y y') : x' = x ∧ y' = y ∧ RV m v v := by
 have hx : (∃ k a,x = .int k a) ∨ (∃ s,x = .string s) ∨ (∃ b,x = .bool b) := by
  cases x <;> first | (exact .inl ⟨_,_,rfl⟩) | (exact .inr (.inl ⟨_,rfl⟩)) | (exact .inr (.inr ⟨_,rfl⟩)) | (simp [binA] at e)
 have hy : (∃ k a,y = .int k a) ∨ (∃ s,y = .string s) ∨ (∃ b,y = .bool b) := by
  cases y <;> first | (exact .inl ⟨_,_,rfl⟩) | (exact .inr (.inl ⟨_,rfl⟩)) | (exact .inr (.inr ⟨_,rfl⟩)) | (cases x <;> simp [binA] at e)
 have hv : (∃ k a,v = .int k a) ∨ (∃ s,v = .string s) ∨ (∃ b,v = .bool b) := by
  obtain ⟨k,a,rfl⟩ | ⟨a,rfl⟩ | ⟨a,rfl⟩ := hx <;> obtain ⟨k',b,rfl⟩ | ⟨b,rfl⟩ | ⟨b,rfl⟩ := hy <;> simp only [binA] at e <;> try (cases e; done)
  all_goals (cases op <;> simp only at e <;> first | (cases e; done) | (split at e <;> cases e <;> first | exact .inl ⟨_,_,rfl⟩ | exact .inr (.inl ⟨_,rfl⟩) | exact .inr (.inr ⟨_,rfl⟩)) | (cases e; first | exact .inl ⟨_,_,rfl⟩ | exact .inr (.inl ⟨_,rfl⟩) | exact .inr (.inr ⟨_,rfl⟩)))
 refine ⟨?_,?_,?_⟩
 ·obtain ⟨k,a,rfl⟩ | ⟨a,rfl⟩ | ⟨a,rfl⟩ := hx
  ·exact rx.scalar_int
  ·exact rx.scalar_string
  ·exact rx.scalar_bool
 ·obtain ⟨k,a,rfl⟩ | ⟨a,rfl⟩ | ⟨a,rfl⟩ := hy
  ·exact ry.scalar_int
  ·exact ry.scalar_string
  ·exact ry.scalar_bool
 ·obtain ⟨k,a,rfl⟩ | ⟨a,rfl⟩ | ⟨a,rfl⟩ := hv
  ·exact .int _ _
  ·exact .string _
  ·exact .bool _
theorem isn_at [Fl] (q : Nat) {t : TypeId} {d : TypeDesc} {x y x' y' : Value} {b : Bool} (hu : P.underlying t = some d) (hd : isNil d (.const y) = true) (e : isnil x y = some b) (rx : RV m x x') (ry : RV m y y') :
  (Op.equalIn (q + 1) t x' y').run P w = .ok b w ∧ y' = y := by
 cases y <;> cases d <;> simp only [isNil,Bool.false_eq_true] at hd
 case pointer.pointer a el =>
  cases a <;> try (exact absurd hd Bool.false_ne_true)
  cases ry
  cases x <;> simp only [isnil] at e <;> try (cases e; done)
  cases e
  refine ⟨?_,rfl⟩
  cases rx <;> simp [Op.equalIn,run_underlying hu]
 case slice.slice a n c el =>
  cases a <;> try (exact absurd hd Bool.false_ne_true)
  cases ry
  cases x <;> simp only [isnil] at e <;> try (cases e; done)
  cases e
  refine ⟨?_,rfl⟩
  cases rx <;> simp [Op.equalIn,run_underlying hu]
 case map.map a k el =>
  cases a <;> try (exact absurd hd Bool.false_ne_true)
  cases ry
  cases x <;> simp only [isnil] at e <;> try (cases e; done)
  cases e
  refine ⟨?_,rfl⟩
  cases rx <;> simp [Op.equalIn,run_underlying hu]
 case nilFunc.func ps rs vr =>
  cases ry
  refine And.intro ?_ rfl
  cases rx <;> simp only [isnil,reduceCtorEq,Option.some.injEq] at e <;> (subst e; simp [Op.equalIn,run_underlying hu])
 case nilIface.interface ms =>
  cases ry
  refine And.intro ?_ rfl
  cases rx <;> simp only [isnil,reduceCtorEq,Option.some.injEq] at e <;> (subst e; simp [Op.equalIn,run_underlying hu])
theorem isn_sound [Fl] {t : TypeId} {d : TypeDesc} {x y x' y' : Value} {b : Bool} (hu : P.underlying t = some d) (hd : isNil d (.const y) = true) (e : isnil x y = some b) (rx : RV m x x') (ry : RV m y y') :
  (Op.equal t x' y').run P w = .ok b w ∧ y' = y := isn_at 9999 hu hd e rx ry
end
end
section
theorem RV.cells [Fl] {m : Mu} {v v' : Value} (r : RV m v v') : RVs m v.cells.toList v'.cells.toList := by
 cases r with
 | agg h1 h2 => exact ⟨h1,h2⟩
 | bool b => exact RVs.cons (.bool b) (RVs.nil m)
 | int k n => exact RVs.cons (.int k n) (RVs.nil m)
 | float k b => exact RVs.cons (.float k b) (RVs.nil m)
 | complex k a b => exact RVs.cons (.complex k a b) (RVs.nil m)
 | string s => exact RVs.cons (.string s) (RVs.nil m)
 | nilp => exact RVs.cons .nilp (RVs.nil m)
 | ptr h => exact RVs.cons (.ptr h) (RVs.nil m)
 | nils n c => exact RVs.cons (.nils n c) (RVs.nil m)
 | slice h => exact RVs.cons (.slice h) (RVs.nil m)
 | sliceX h => exact RVs.cons (.sliceX h) (RVs.nil m)
 | sliceZ h => exact RVs.cons (.sliceZ h) (RVs.nil m)
 | sliceY a h => exact RVs.cons (.sliceY a h) (RVs.nil m)
 | nilm => exact RVs.cons .nilm (RVs.nil m)
 | mapv h => exact RVs.cons (.mapv h) (RVs.nil m)
 | nilc => exact RVs.cons .nilc (RVs.nil m)
 | func a b c d => exact RVs.cons (.func a b c d) (RVs.nil m)
 | nilf => exact RVs.cons .nilf (RVs.nil m)
 | iface h => exact RVs.cons (.iface h) (RVs.nil m)
 | nili => exact RVs.cons .nili (RVs.nil m)
 | tuple a b => exact RVs.cons (.tuple a b) (RVs.nil m)
theorem RV.cells_size [Fl] {m : Mu} {v v' : Value} (r : RV m v v') : v'.cells.size = v.cells.size := by
 have := r.cells.1
 simpa using this.symm
section
variable {P : Program} {base : Nat} {w0 w : World} {m : Mu} {h : Hp}
theorem run_newRow' [Fl] (e : TypeId) (c : Array Value) : (newRow e c).run P w = .ok ⟨w.heap.size,0,none⟩ { w with heap := w.heap.push (.cells c e) } := rfl
theorem new_obj [Fl] (s : Sim base w0 m h w) {cs cs' : List Value} (e : TypeId) (esz : Nat) (hr : RVs m cs cs') (hmk : mkE ≤ esz → esz / mkE = e + 1) :
  m.le (m.add h.nx ⟨w.heap.size,0,0⟩) ∧ Sim base w0 (m.add h.nx ⟨w.heap.size,0,0⟩) (h.new ⟨cs,true,esz⟩) { w with heap := w.heap.push (.cells cs'.toArray e) } := by
 refine ⟨Mu.le_add _ (s.fresh _ (Nat.le_refl _)),?_⟩
 have := s.alloc (more := []) (k := 0) (esz := esz) e hr (by simp) (fun q => ⟨hmk q,fun _ => rfl⟩) (0,0) (by simp)
 simpa using this
theorem snd_newVar [Fl] (s : Sim base w0 m h w) (e : TypeId) {v v' : Value} (r : RV m v v') (esz : Nat) (hmk : mkE ≤ esz → esz / mkE = e + 1) :
  Snd P base w0 m w (do pure (.pointer (some (← newVar e v')))) (putPtr h v.cells.toList esz).1 (putPtr h v.cells.toList esz).2 := by
 obtain ⟨h1,h2⟩ := new_obj s e esz r.cells hmk
 refine ⟨_,.pointer (some ⟨w.heap.size,0,none⟩),_,?_,h1,?_,h2⟩
 ·simp [newVar,run_newRow']
 ·have := RV.ptr (m := m.add h.nx ⟨w.heap.size,0,0⟩) (i := h.nx) (o := 0) (Mu.add_same m h.nx ⟨w.heap.size,0,0⟩)
  simpa [putPtr] using this
theorem snd_box [Fl] (s : Sim base w0 m h w) (e : TypeId) {v v' : Value} (r : RV m v v') :
  Snd P base w0 m w (Instr.box e v') (putPtr h v.cells.toList 0).1 (putPtr h v.cells.toList 0).2 := snd_newVar s e r 0 (fun q => absurd q (by decide))
theorem snd_new [Fl] (s : Sim base w0 m h w) (e : TypeId) {i : TypeInfo} {z : Value} (hi : P.info? e = some i) (hz : i.zero = some z) (hf : flat z = true) (x : Value) (esz : Nat) (hmk : mkE ≤ esz → esz / mkE = e + 1) :
  Snd P base w0 m w (Instr.alloc e true x) (putPtr h z.cells.toList esz).1 (putPtr h z.cells.toList esz).2 := by
 obtain ⟨m',v',w',hr,h1,h2,h3⟩ := snd_newVar (P := P) s e (RV.of_flat m z hf) esz hmk
 refine ⟨m',v',w',?_,h1,h2,h3⟩
 rw [← hr]
 simp [Instr.alloc,zeroValue,typeInfo,hi,hz]
theorem Snd.mono' [Fl] {x y : Sem Value} {v : Value} {h' : Hp} (k : Snd P base w0 m w x v h') (e : y.run P w = x.run P w) : Snd P base w0 m w y v h' := by
 obtain ⟨m',v',w',hr,h1,h2,h3⟩ := k
 exact ⟨m',v',w',e.trans hr,h1,h2,h3⟩
theorem run_load1 [Fl] (s : Sim base w0 m h w) {t : TypeId} {d : TypeDesc} (hu : P.underlying t = some d) (hd : isAggD d = false)
  {i o : Nat} {x v : Value} (rx : RV m (.pointer (some ⟨i,o,none⟩)) x) (e : h.rd i o 1 = some [v]) : ∃ v',(Instr.loadAt t x).run P w = .ok v' w ∧ RV m v v' := by
 cases rx with
 | @ptr _ _ l hl =>
  obtain ⟨vs',h1,h2,h3⟩ := cells_of s hl e
  obtain ⟨v',b,rfl,rv,_⟩ := h1.cases_cons
  have hc := h3 0 v' rfl
  rw [add_lit',Nat.add_zero] at hc
  refine ⟨v',?_,rv⟩
  have ha : (isAgg t).run P w = .ok false w := by
   unfold isAgg
   simp only [Sem.run_bind,run_underlying hu,Result.andThen_ok]
   cases d <;> first | rfl | exact absurd hd (by simp [isAggD])
  simp [Instr.loadAt,Instr.sureAddr,loadVar,ha,hc]
theorem run_loadn [Fl] (s : Sim base w0 m h w) {t : TypeId} {d : TypeDesc} {n : Nat} {ti : TypeInfo} (hu : P.underlying t = some d) (hd : isAggD d = true)
  (hi : P.info? t = some ti) (hn : ti.size = n)
  {i o : Nat} {x : Value} {vs : List Value} (rx : RV m (.pointer (some ⟨i,o,none⟩)) x) (e : h.rd i o n = some vs) : ∃ v',(Instr.loadAt t x).run P w = .ok v' w ∧ RV m (.agg ⟨vs⟩) v' := by
 cases rx with
 | @ptr _ _ l hl =>
  obtain ⟨vs',h1,h2,h3⟩ := run_loadCells' (P := P) s hl e
  refine ⟨.agg ⟨vs'⟩,?_,.agg h1.1 h1.2⟩
  have ha : (isAgg t).run P w = .ok true w := by
   unfold isAgg
   simp only [Sem.run_bind,run_underlying hu,Result.andThen_ok]
   cases d <;> first | rfl | exact absurd hd (by simp [isAggD])
  simp only [Instr.loadAt,Instr.sureAddr,loadVar,Sem.run_bind,Sem.run_pure,Result.andThen_ok,ha,if_true,sizeOf,typeInfo,program,Sem.run]
  simp [hi,hn,h3]
theorem snd_load1 [Fl] (s : Sim base w0 m h w) {t : TypeId} {d : TypeDesc} (hu : P.underlying t = some d) (hd : isAggD d = false)
  {i o : Nat} {x v : Value} (rx : RV m (.pointer (some ⟨i,o,none⟩)) x) (e : h.rd i o 1 = some [v]) : Snd P base w0 m w (Instr.loadAt t x) v h :=
 let ⟨_,h1,h2⟩ := run_load1 (P := P) s hu hd rx e; Snd.pure s h1 h2
theorem snd_loadn [Fl] (s : Sim base w0 m h w) {t : TypeId} {d : TypeDesc} {n : Nat} {ti : TypeInfo} (hu : P.underlying t = some d) (hd : isAggD d = true)
  (hi : P.info? t = some ti) (hn : ti.size = n)
  {i o : Nat} {x : Value} {vs : List Value} (rx : RV m (.pointer (some ⟨i,o,none⟩)) x) (e : h.rd i o n = some vs) : Snd P base w0 m w (Instr.loadAt t x) (.agg ⟨vs⟩) h :=
 let ⟨_,h1,h2⟩ := run_loadn (P := P) s hu hd hi hn rx e; Snd.pure s h1 h2
theorem run_storeVar' [Fl] (s : Sim base w0 m h w) {t : TypeId} {n : Nat} {ti : TypeInfo} (hi : P.info? t = some ti) (hn : ti.size = n)
  {i o : Nat} {x v v' : Value} {h' : Hp} (rx : RV m (.pointer (some ⟨i,o,none⟩)) x) (rv : RV m v v') (hs : v.cells.size = n) (e : h.wr i o v.cells.toList = some h') :
  ∃ w',(Instr.storeAt t x v').run P w = .ok () w' ∧ Sim base w0 m h' w' := by
 cases rx with
 | @ptr _ _ l hl =>
  obtain ⟨w',hr,_,_,hsim⟩ := run_wr (P := P) s hl e rv.cells
  refine ⟨w',?_,hsim⟩
  have h2 : v'.cells.size = ti.size := by rw [rv.cells_size,hs,hn]
  simp [Instr.storeAt,Instr.sureAddr,storeVar,sizeOf,typeInfo,hi,h2,hr]
theorem fold_rel [Fl] {off : Nat} : ∀ (ps ps' : List (Value × Nat)) (cs cs' : Array Value),ps.length = ps'.length → (∀ (j : Nat) x x',ps[j]? = some x → ps'[j]? = some x' → RV m x.1 x'.1 ∧ x.2 = x'.2) → RVs m cs.toList cs'.toList →
  RVs m (ps.foldl (fun cs (c,j) => cs.setIfInBounds (off + j) c) cs).toList (ps'.foldl (fun cs (c,j) => cs.setIfInBounds (off + j) c) cs').toList := by
 intro ps
 induction ps with
 | nil =>
  intro ps' cs cs' hl _ hr
  cases ps' with
  | nil => exact hr
  | cons a b => simp at hl
 | cons p ps ih =>
  intro ps' cs cs' hl hp hr
  cases ps' with
  | nil => simp at hl
  | cons p' ps' =>
   simp only [List.foldl_cons]
   obtain ⟨r1,r2⟩ := hp 0 p p' rfl rfl
   refine ih ps' _ _ (by simpa using hl) (fun j x x' e e' => hp (j + 1) x x' (by simpa using e) (by simpa using e')) ?_
   rw [← r2]
   simp only [Array.toList_setIfInBounds]
   exact hr.set _ r1
theorem fill_rel [Fl] (place place' : Nat → Option (Nat × Nat)) (hp : ∀ i q,place i = some q → place' i = some q) : ∀ (ix : List Nat) (vs vs' : List Value) (z z' c : Array Value),RVs m vs vs' → RVs m z.toList z'.toList →
  Instr.fill place z (ix.zip vs) = some c → ∃ c',Instr.fill place' z' (ix.zip vs') = some c' ∧ RVs m c.toList c'.toList := by
 intro ix
 induction ix with
 | nil =>
  intro vs vs' z z' c _ hz e
  simp [Instr.fill] at e
  subst e
  exact ⟨z',by simp [Instr.fill],hz⟩
 | cons i ix ih =>
  intro vs vs' z z' c hv hz e
  cases vs with
  | nil =>
   obtain rfl := hv.cases_nil
   simp [Instr.fill] at e
   subst e
   exact ⟨z',by simp [Instr.fill],hz⟩
  | cons v vs =>
   obtain ⟨v',vs',rfl,rv,hv⟩ := hv.cases_cons
   simp only [List.zip_cons_cons,Instr.fill] at e ⊢
   split at e
   ·cases e
   ·next off size hpl =>
    rw [hp i _ hpl]
    have hsz := rv.cells_size
    have hzz : z'.size = z.size := by have := hz.1; simpa using this.symm
    simp only [hsz,hzz] at e ⊢
    split at e
    ·cases e
    ·next hc =>
     rw [if_neg hc]
     refine ih vs vs' _ _ c hv ?_ e
     have hcl := rv.cells
     have h1 := fold_rel (m := m) (off := off) v.cells.zipIdx.toList v'.cells.zipIdx.toList z z' (by simpa using hcl.1) (fun j x x' e e' => by
      simp only [Array.toList_zipIdx,List.getElem?_zipIdx,Option.map_eq_some_iff] at e e'
      obtain ⟨a,ha,rfl⟩ := e
      obtain ⟨b,hb,rfl⟩ := e'
      exact ⟨hcl.2 j a b ha hb,rfl⟩) hz
     simpa only [Array.foldl_toList] using h1
end
end
section
section
variable {P : Program} {base : Nat} {w0 w : World} {m : Mu} {h : Hp}
theorem zip_parts [Fl] (parts : Array (Nat × Value)) : parts.toList = (parts.toList.map (·.1)).zip (parts.toList.map (·.2)) := by
 generalize parts.toList = l
 induction l with
 | nil => rfl
 | cons a l ih => simp only [List.map_cons,List.zip_cons_cons]; rw [← ih]
theorem RVs.of_arr [Fl] {z : Array Value} (hf : flatL z.toList = true) : RVs m z.toList z.toList := RVs.of_flat hf
theorem snd_bldS [Fl] (s : Sim base w0 m h w) {t : TypeId} {it : TypeInfo} {fields : Array Field} {z : Value} {places : List (Nat × Nat)} (hu : P.underlying t = some (.struct fields)) (hi : P.info? t = some it) (hz : it.zero = some z)
  (hp : fields.toList.mapM (fun f => (P.info? f.type).map fun i => (f.offset,i.size)) = some places) (hf : flatL z.cells.toList = true)
  {ix : List Nat} {vs : List Value} {parts : Array (Nat × Value)} {c : Array Value} (hix : parts.toList.map (·.1) = ix) (hv : RVs m vs (parts.toList.map (·.2)))
  (e : Instr.fill (fun i => places[i]?) z.cells (ix.zip vs) = some c) : Snd P base w0 m w (Instr.build t parts) (.agg c) h := by
 obtain ⟨c',h1,h2⟩ := fill_rel (m := m) (fun i => places[i]?) (fun i => places.toArray[i]?) (by intro i q hq; simpa using hq) ix vs _ z.cells z.cells c hv (RVs.of_arr hf) e
 refine Snd.pure s (v' := .agg c') ?_ (by obtain ⟨c⟩ := c; obtain ⟨c'⟩ := c'; exact .agg h2.1 h2.2)
 refine run_build w t parts c' ?_
 unfold Program.built
 rw [hi,hu]
 simp only [hz,hp]
 rw [zip_parts parts,hix]
 exact h1
theorem snd_bldA [Fl] (s : Sim base w0 m h w) {t el : TypeId} {n : Nat} {it ie : TypeInfo} {z : Value} {places : List (Nat × Nat)} (hu : P.underlying t = some (.array n el)) (hi : P.info? t = some it) (hz : it.zero = some z)
  (he : P.info? el = some ie) (hp : ∀ i q,places[i]? = some q → some (i * ie.size,ie.size) = some q) (hf : flatL z.cells.toList = true)
  {ix : List Nat} {vs : List Value} {parts : Array (Nat × Value)} {c : Array Value} (hix : parts.toList.map (·.1) = ix) (hv : RVs m vs (parts.toList.map (·.2)))
  (e : Instr.fill (fun i => places[i]?) z.cells (ix.zip vs) = some c) : Snd P base w0 m w (Instr.build t parts) (.agg c) h := by
 obtain ⟨c',h1,h2⟩ := fill_rel (m := m) (fun i => places[i]?) (fun i => some (i * ie.size,ie.size)) hp ix vs _ z.cells z.cells c hv (RVs.of_arr hf) e
 refine Snd.pure s (v' := .agg c') ?_ (by obtain ⟨c⟩ := c; obtain ⟨c'⟩ := c'; exact .agg h2.1 h2.2)
 refine run_build w t parts c' ?_
 unfold Program.built
 rw [hi,hu]
 simp only [hz,he]
 rw [zip_parts parts,hix]
 exact h1
theorem snd_bsl [Fl] (s : Sim base w0 m h w) {t el : TypeId} {len : Nat} {ie : TypeInfo} {zv : Value} {z : Array Value} (hu : P.underlying t = some (.slice el)) (he : P.info? el = some ie) (hz : ie.zero = some zv)
  (hsmall : ¬ len * ie.size > 2 ^ 24) (hmk : ie.size < mkE) (hzz : z = zrow zv (len * ie.size)) (hf : flatL z.toList = true)
  {ix : List Nat} {vs : List Value} {parts : Array (Nat × Value)} {c : Array Value} (hix : parts.toList.map (·.1) = ix) (hv : RVs m vs (parts.toList.map (·.2)))
  (e : Instr.fill (fun i => some (i * ie.size,ie.size)) z (ix.zip vs) = some c) :
  Snd P base w0 m w (Instr.buildSlice t len parts) (.slice (some ⟨h.nx,0,none⟩) len len) (h.new ⟨c.toList,true,ie.size⟩) := by
 obtain ⟨c',h1,h2⟩ := fill_rel (m := m) (fun i => some (i * ie.size,ie.size)) (fun i => some (i * ie.size,ie.size)) (fun _ _ hq => hq) ix vs _ z z c hv (RVs.of_arr hf) e
 obtain ⟨hm,hs⟩ := new_obj s el ie.size h2 (fun q => absurd hmk (Nat.not_lt.2 q))
 rw [← hix,← zip_parts parts] at h1
 refine ⟨_,.slice (some ⟨w.heap.size,0,none⟩) len len,_,?_,hm,?_,hs⟩
 ·by_cases h0 : len * ie.size = 0
  ·unfold zrow at hzz
   rw [if_pos h0] at hzz
   subst hzz
   simp [Instr.buildSlice,run_underlying hu,sizeOf,typeInfo,he,h0,newRow,h1,Array.range_zero']
  ·unfold zrow at hzz
   rw [if_neg h0] at hzz
   subst hzz
   rw [run_buildSlice w t el len parts c' ie zv hu he hz hsmall h0 h1]
   simp
 ·have := RV.slice (m := m.add h.nx ⟨w.heap.size,0,0⟩) (i := h.nx) (o := 0) (n := len) (c := len) (Mu.add_same m h.nx ⟨w.heap.size,0,0⟩)
  simpa using this
theorem snd_fad [Fl] (s : Sim base w0 m h w) {t : TypeId} {fields : Array Field} {f : Nat} {fd : Field} {n : Nat} {ti : TypeInfo} (hu : P.underlying t = some (.struct fields)) (hf : fields[f]? = some fd) (hi : P.info? fd.type = some ti) (hn : ti.size = n) (h0 : n ≠ 0)
  {i o : Nat} {x : Value} (rx : RV m (.pointer (some ⟨i,o,none⟩)) x) : Snd P base w0 m w (Instr.fieldAt t x f) (.pointer (some ⟨i,o + fd.offset,none⟩)) h := by
 cases rx with
 | @ptr _ _ l hl =>
  refine Snd.pure s (v' := .pointer (some ⟨l.blk,l.off + o + fd.offset,none⟩)) ?_ (by have := RV.ptr (m := m) (i := i) (o := o + fd.offset) hl; rwa [← Nat.add_assoc] at this)
  have hn' : ¬ ti.size = 0 := by rw [hn]; exact h0
  simp [Instr.fieldAt,run_underlying hu,hf,Instr.sureAddr,fieldPlace,sizeOf,typeInfo,hi,hn',add_lit']
theorem RVs.extract [Fl] {a a' : Array Value} (hr : RVs m a.toList a'.toList) (i j : Nat) : RVs m (a.extract i j).toList (a'.extract i j).toList := by
 simp only [Array.toList_extract,List.extract_eq_take_drop]
 exact (hr.drop i).take (j - i)
theorem RVs.toAgg [Fl] {a a' : Array Value} (hr : RVs m a.toList a'.toList) : RV m (.agg a) (.agg a') := by
 obtain ⟨a⟩ := a; obtain ⟨a'⟩ := a'; exact .agg hr.1 hr.2
theorem RV.ofAgg [Fl] {a : Array Value} {x : Value} (r : RV m (.agg a) x) : ∃ a',x = .agg a' ∧ RVs m a.toList a'.toList := by
 obtain ⟨a⟩ := a
 obtain ⟨a',rfl,hr⟩ := RVs.of_agg r
 exact ⟨⟨a'⟩,rfl,hr⟩
theorem RV.ofTuple [Fl] {a : Array Value} {x : Value} (r : RV m (.tuple a) x) : ∃ a',x = .tuple a' ∧ RVs m a.toList a'.toList := by
 obtain ⟨a⟩ := a
 obtain ⟨a',rfl,hr⟩ := RVs.of_tuple r
 exact ⟨⟨a'⟩,rfl,hr⟩
theorem RVs.aget [Fl] {a a' : Array Value} (hr : RVs m a.toList a'.toList) {i : Nat} {v : Value} (e : a[i]? = some v) : ∃ v',a'[i]? = some v' ∧ RV m v v' := by
 have := hr.get (i := i) (v := v) (by simpa using e)
 simpa using this
theorem snd_part [Fl] (s : Sim base w0 m h w) {t : TypeId} {d : TypeDesc} {ti : TypeInfo} {n off : Nat} {agg : Bool} (hu : P.underlying t = some d) (hd : isAggD d = agg)
  (hi : P.info? t = some ti) (hn : ti.size = n) {cs cs' : Array Value} (hr : RVs m cs.toList cs'.toList) {v : Value}
  (e : (if agg then some (.agg (cs.extract off (off + n))) else cs[off]?) = some v) : Snd P base w0 m w (part t cs' off) v h := by
 have ha : (isAgg t).run P w = .ok agg w := by
  unfold isAgg
  simp only [Sem.run_bind,run_underlying hu,Result.andThen_ok]
  cases d <;> (simp only [isAggD] at hd; subst hd; rfl)
 cases agg with
 | true =>
  simp only [if_true,Option.some.injEq] at e
  subst e
  refine Snd.pure s (v' := .agg (cs'.extract off (off + n))) ?_ (RVs.toAgg (hr.extract _ _))
  simp [part,ha,sizeOf,typeInfo,hi,hn]
 | false =>
  simp only [Bool.false_eq_true,if_false] at e
  obtain ⟨v',hv,rv⟩ := hr.aget e
  refine Snd.pure s (v' := v') ?_ rv
  simp [part,ha,hv]
theorem snd_fld [Fl] (s : Sim base w0 m h w) {t : TypeId} {fields : Array Field} {f : Nat} {fd : Field} {d : TypeDesc} {n : Nat} {agg : Bool} {ti : TypeInfo} (hu : P.underlying t = some (.struct fields)) (hf : fields[f]? = some fd) (hud : P.underlying fd.type = some d)
  (hd : isAggD d = agg) (hi : P.info? fd.type = some ti) (hn : ti.size = n) {cs : Array Value} {x v : Value} (rx : RV m (.agg cs) x)
  (e : (if agg then some (.agg (cs.extract fd.offset (fd.offset + n))) else cs[fd.offset]?) = some v) : Snd P base w0 m w (Instr.field t x f) v h := by
 obtain ⟨cs',rfl,hr⟩ := RV.ofAgg rx
 refine (snd_part (P := P) s hud hd hi hn hr e).mono' ?_
 simp [Instr.field,run_underlying hu,hf,asAgg]
theorem snd_iad [Fl] (s : Sim base w0 m h w) {t el : TypeId} {esz : Nat} {ti : TypeInfo} (hu : P.underlying t = some (.slice el)) (hi : P.info? el = some ti) (hn : ti.size = esz)
  {i o len cap : Nat} {sp : Option Nat} {k : IntKind} {x : Int} {y z : Value} (ry : RV m (.slice (some ⟨i,o,sp⟩) len cap) y) (rz : RV m (.int k x) z) (hb : 0 ≤ x ∧ x < len) :
  Snd P base w0 m w (Instr.indexAt t y z) (.pointer (some ⟨i,o + x.toNat * esz,none⟩)) h := by
 obtain rfl := rz.scalar_int
 have hy : ∃ l c,m i = some l ∧ y = .slice (some ⟨l.blk,l.off + o,none⟩) len c := by
  cases ry with
  | slice hl => exact ⟨_,_,hl,rfl⟩
  | sliceX hl => exact ⟨_,_,hl,rfl⟩
  | sliceZ hl => exact absurd hb (by omega)
  | sliceY a hl => exact absurd hb (by omega)
 obtain ⟨l,c,hl,rfl⟩ := hy
 refine Snd.pure s (v' := .pointer (some ⟨l.blk,l.off + o + x.toNat * esz,none⟩)) ?_ (by have := RV.ptr (m := m) (i := i) (o := o + x.toNat * esz) hl; rwa [← Nat.add_assoc] at this)
 simp [Instr.indexAt,asIntOf,run_underlying hu,sizeOf,typeInfo,hi,hn,hb,add_lit']
theorem snd_iaa [Fl] (s : Sim base w0 m h w) {t el : TypeId} {esz len : Nat} {ti : TypeInfo} (hu : P.underlying t = some (.array len el)) (hi : P.info? el = some ti) (hn : ti.size = esz)
  {i o : Nat} {k : IntKind} {x : Int} {y z : Value} (ry : RV m (.pointer (some ⟨i,o,none⟩)) y) (rz : RV m (.int k x) z) (hb : 0 ≤ x ∧ x < len) :
  Snd P base w0 m w (Instr.indexAt t y z) (.pointer (some ⟨i,o + x.toNat * esz,none⟩)) h := by
 obtain rfl := rz.scalar_int
 cases ry with
 | @ptr _ _ l hl =>
  refine Snd.pure s (v' := .pointer (some ⟨l.blk,l.off + o + x.toNat * esz,none⟩)) ?_ (by have := RV.ptr (m := m) (i := i) (o := o + x.toNat * esz) hl; rwa [← Nat.add_assoc] at this)
  simp [Instr.indexAt,asIntOf,run_underlying hu,Instr.sureAddr,sizeOf,typeInfo,hi,hn,hb,add_lit']
theorem snd_ixa [Fl] (s : Sim base w0 m h w) {t el : TypeId} {d : TypeDesc} {esz len n : Nat} {agg : Bool} {ti : TypeInfo} (hu : P.underlying t = some (.array len el)) (hud : P.underlying el = some d) (hd : isAggD d = agg)
  (hi : P.info? el = some ti) (hn : ti.size = esz) (hnn : ti.size = n) {cs : Array Value} {k : IntKind} {x : Int} {y z v : Value} (ry : RV m (.agg cs) y) (rz : RV m (.int k x) z) (hb : 0 ≤ x ∧ x < len)
  (e : (if agg then some (.agg (cs.extract (x.toNat * esz) (x.toNat * esz + n))) else cs[x.toNat * esz]?) = some v) : Snd P base w0 m w (Instr.index t y z) v h := by
 obtain rfl := rz.scalar_int
 obtain ⟨cs',rfl,hr⟩ := RV.ofAgg ry
 refine (snd_part (P := P) s hud hd hi hnn hr e).mono' ?_
 simp [Instr.index,asIntOf,run_underlying hu,sizeOf,typeInfo,hi,hn,hb]
theorem snd_ixs [Fl] (s : Sim base w0 m h w) {t : TypeId} (hu : P.underlying t = some .string) {str : ByteArray} {k : IntKind} {x : Int} {y z : Value} {b : UInt8} (ry : RV m (.string str) y) (rz : RV m (.int k x) z) (h0 : 0 ≤ x) (hb : str[x.toNat]? = some b) :
  Snd P base w0 m w (Instr.index t y z) (.int .u8 b.toNat) h := by
 obtain rfl := rz.scalar_int
 obtain rfl := ry.scalar_string
 refine Snd.pure s (v' := .int .u8 b.toNat) ?_ (.int _ _)
 simp [Instr.index,asIntOf,run_underlying hu,h0,hb]
theorem run_bounds [Fl] {is : Bool} {len cap : Nat} {lo hi mx : Option Value} {l u q : Nat} (e : bounds len cap lo hi mx = some (l,u,q)) : (Instr.sliceBounds is len cap lo hi mx).run P w = .ok (l,u,q) w := by
 have hb : ∀ (v : Option Value) (y r : Nat) (d : Option Nat) (code : BoundsCode),bnd v y d = some r → (∃ x,v = some x ∧ (Instr.sliceBound x y code).run P w = .ok r w) ∨ (v = none ∧ d = some r) := by
  intro v y r d code e
  unfold bnd at e
  split at e
  ·next k i =>
   split at e
   ·next hc => cases e; exact .inl ⟨_,rfl,run_sliceBound w k i y code hc.1 hc.2⟩
   ·cases e
  ·cases e
  ·exact .inr ⟨rfl,e⟩
 unfold bounds at e
 split at e
 ·cases e
 next m1 hm =>
 split at e
 ·cases e
 next h1 hh =>
 split at e
 ·cases e
 next l1 hl =>
 cases e
 unfold Instr.sliceBounds
 rcases hb mx cap q (some cap) (if is then .slice3Acap else .slice3Alen) hm with ⟨x,rfl,hx⟩ | ⟨rfl,hx⟩
 ·simp only [Sem.run_bind,hx,Result.andThen_ok]
  rcases hb hi q u _ .slice3B hh with ⟨y,rfl,hy⟩ | ⟨rfl,hy⟩
  ·simp only [Sem.run_bind,hy,Result.andThen_ok]
   rcases hb lo u l _ .slice3C hl with ⟨z,rfl,hz⟩ | ⟨rfl,hz⟩
   ·simp only [Option.isSome_some,if_true,Sem.run_bind,hz,Result.andThen_ok]; rfl
   ·simp only [Option.some.injEq] at hz; subst hz; simp only [Sem.run_bind,Sem.run_pure,Result.andThen_ok]
  ·simp at hy
 ·simp only [Option.some.injEq] at hx
  subst hx
  simp only [Sem.run_bind,Sem.run_pure,Result.andThen_ok]
  rcases hb hi cap u _ (if is then .sliceAcap else .sliceAlen) hh with ⟨y,rfl,hy⟩ | ⟨rfl,hy⟩
  ·simp only [Sem.run_bind,hy,Result.andThen_ok]
   rcases hb lo u l _ .sliceB hl with ⟨z,rfl,hz⟩ | ⟨rfl,hz⟩
   ·simp only [Option.isSome_none,Bool.false_eq_true,if_false,Sem.run_bind,hz,Result.andThen_ok]; rfl
   ·simp only [Option.some.injEq] at hz; subst hz; simp only [Sem.run_bind,Sem.run_pure,Result.andThen_ok]
  ·simp only [Option.isSome_none,Bool.false_eq_true,false_or] at hy
   split at hy
   ·cases hy
   simp only [Option.some.injEq] at hy
   subst hy
   simp only [Sem.run_bind,Sem.run_pure,Result.andThen_ok]
   rcases hb lo len l _ .sliceB hl with ⟨z,rfl,hz⟩ | ⟨rfl,hz⟩
   ·simp only [Option.isSome_none,Bool.false_eq_true,if_false,Sem.run_bind,hz,Result.andThen_ok]; rfl
   ·simp only [Option.some.injEq] at hz; subst hz; simp only [Sem.run_bind,Sem.run_pure,Result.andThen_ok]
end
end
section
section
variable {P : Program} {base : Nat} {w0 w : World} {m : Mu} {h : Hp}
theorem bnd_grow [Fl] {v : Option Value} {y y' r : Nat} {d d' : Option Nat} (hy : y ≤ y') (e : bnd v y d = some r) : (v.isSome = true ∧ bnd v y' d' = some r) ∨ (v = none ∧ d = some r) := by
 unfold bnd at e
 split at e
 ·next k i =>
  split at e
  ·next hc => cases e; refine .inl ⟨rfl,?_⟩; simp only [bnd]; rw [if_pos ⟨hc.1,by omega⟩]
  ·cases e
 ·cases e
 ·exact .inr ⟨rfl,e⟩
theorem bnd_le [Fl] {v : Option Value} {y r : Nat} {d : Option Nat} (e : bnd v y d = some r) : (v.isSome = true ∧ r ≤ y) ∨ (v = none ∧ d = some r) := by
 unfold bnd at e
 split at e
 ·split at e
  ·next hc => cases e; exact .inl ⟨rfl,by omega⟩
  ·cases e
 ·cases e
 ·exact .inr ⟨rfl,e⟩
theorem bounds_some [Fl] {len cap l u q : Nat} {lo hi mx : Option Value} (e : bounds len cap lo hi mx = some (l,u,q)) :
  bnd mx cap (some cap) = some q ∧ bnd hi q (if mx.isSome ∨ cap < len then none else some len) = some u ∧ bnd lo u (some 0) = some l := by
 unfold bounds at e
 split at e
 ·cases e
 next m1 hm =>
 split at e
 ·cases e
 next h1 hh =>
 split at e
 ·cases e
 next l1 hl =>
 cases e
 exact ⟨hm,hh,hl⟩
theorem bounds_of [Fl] {len cap l u q : Nat} {lo hi mx : Option Value} (h1 : bnd mx cap (some cap) = some q) (h2 : bnd hi q (if mx.isSome ∨ cap < len then none else some len) = some u) (h3 : bnd lo u (some 0) = some l) :
  bounds len cap lo hi mx = some (l,u,q) := by
 unfold bounds
 simp only [h1,h2,h3]
theorem bounds_le [Fl] {len cap l u q : Nat} {lo hi mx : Option Value} (e : bounds len cap lo hi mx = some (l,u,q)) : l ≤ u ∧ u ≤ q ∧ q ≤ cap := by
 obtain ⟨h1,h2,h3⟩ := bounds_some e
 have hq : q ≤ cap := by
  rcases bnd_le h1 with ⟨_,h⟩ | ⟨_,h⟩
  ·exact h
  ·cases h; exact Nat.le_refl _
 have hl : l ≤ u := by
  rcases bnd_le h3 with ⟨_,h⟩ | ⟨_,h⟩
  ·exact h
  ·cases h; exact Nat.zero_le _
 refine ⟨hl,?_,hq⟩
 rcases bnd_le h2 with ⟨_,h⟩ | ⟨rfl,h⟩
 ·exact h
 ·split at h
  ·cases h
  ·next hc =>
   cases h
   rcases bnd_le h1 with ⟨hs,_⟩ | ⟨_,hx⟩
   ·exact absurd (Or.inl hs) hc
   ·cases hx
    have : ¬ cap < len := fun x => hc (Or.inr x)
    omega
theorem bounds_grow [Fl] {len cap cap' l u q : Nat} {lo hi mx : Option Value} (hc : cap ≤ cap') (e : bounds len cap lo hi mx = some (l,u,q)) :
  (mx.isSome = true ∧ bounds len cap' lo hi mx = some (l,u,q)) ∨ (mx = none ∧ q = cap ∧ bounds len cap' lo hi mx = some (l,u,cap')) := by
 obtain ⟨h1,h2,h3⟩ := bounds_some e
 rcases bnd_grow (d' := some cap') hc h1 with ⟨hs,h4⟩ | ⟨rfl,h4⟩
 ·refine .inl ⟨hs,bounds_of h4 ?_ h3⟩
  rw [if_pos (Or.inl hs)] at h2 ⊢
  exact h2
 ·cases h4
  refine .inr ⟨rfl,rfl,bounds_of rfl ?_ h3⟩
  rcases bnd_grow (d' := if (none : Option Value).isSome = true ∨ cap' < len then none else some len) hc h2 with ⟨_,h5⟩ | ⟨rfl,h5⟩
  ·exact h5
  ·split at h5
   ·cases h5
   ·next hn =>
    cases h5
    have : ¬ cap < len := fun x => hn (Or.inr x)
    simp only [bnd,Option.isSome_none,Bool.false_eq_true,false_or]
    rw [if_neg (by omega)]
theorem run_sliceAt' [Fl] {t el : TypeId} {ti : TypeInfo} {esz : Nat} (hu : P.underlying t = some (.slice el)) (hi : P.info? el = some ti) (hn : ti.size = esz) {a : Option Addr} {len cap l u q : Nat} {lo up mx : Option Value}
  (e : bounds len cap lo up mx = some (l,u,q)) : (Instr.sliceAt t (.slice a len cap) lo up mx).run P w = .ok (.slice (if q = l then a else a.map (·.add (l * esz))) (u - l) (q - l)) w := by
 simp only [Instr.sliceAt,Instr.slice,Sem.run_bind,run_underlying hu,Result.andThen_ok,run_bounds e,sizeOf,typeInfo,program,Sem.run]
 simp [hi,hn]
theorem snd_slc [Fl] (s : Sim base w0 m h w) {t el : TypeId} {ti : TypeInfo} {esz : Nat} (hu : P.underlying t = some (.slice el)) (hi : P.info? el = some ti) (hn : ti.size = esz) {a : Option Addr} {len cap : Nat} {lo up mx : Option Value} {y v : Value}
  (ry : RV m (.slice a len cap) y) (e : sliceA esz a len cap lo up mx = some v) : Snd P base w0 m w (Instr.sliceAt t y lo up mx) v h := by
 unfold sliceA at e
 split at e
 ·cases e
 next l u q hb =>
 have hrun := fun (b : Option Addr) (c : Nat) (l u q : Nat) (e : bounds len c lo up mx = some (l,u,q)) => run_sliceAt' (P := P) (w := w) hu hi hn (a := b) e
 split at e
 ·cases e
  cases ry
  exact Snd.pure s (v' := .slice none (u - l) (q - l)) (by rw [hrun none cap l u q hb]; simp) (.nils _ _)
 ·next i o =>
  cases e
  cases ry with
  | @slice _ _ _ _ loc hl =>
   refine Snd.pure s (hrun _ cap l u q hb) ?_
   split
   ·exact .slice hl
   ·rw [Option.map_some,add_lit']
    have := RV.slice (m := m) (i := i) (o := o + l * esz) (n := u - l) (c := q - l) hl
    rwa [← Nat.add_assoc] at this
 ·next i o =>
  cases ry with
  | @sliceX _ _ _ _ loc hl =>
   rcases bounds_grow (cap' := cap + loc.slack) (by omega) hb with ⟨hm,hb'⟩ | ⟨rfl,hq,hb'⟩
   ·rw [if_pos hm] at e
    cases e
    refine Snd.pure s (hrun _ _ l u q hb') ?_
    split
    ·exact .slice hl
    ·rw [Option.map_some,add_lit']
     have := RV.slice (m := m) (i := i) (o := o + l * esz) (n := u - l) (c := q - l) hl
     rwa [← Nat.add_assoc] at this
   ·subst hq
    simp only [Option.isSome_none,Bool.false_eq_true,if_false,Option.some.injEq] at e
    subst e
    have hlu := bounds_le hb
    refine Snd.pure s (hrun _ _ l u (q + loc.slack) hb') ?_
    by_cases hql : q = l
    ·subst hql
     rw [if_pos rfl,show u - q = 0 by omega,Nat.sub_self]
     by_cases hs : loc.slack = 0
     ·rw [if_pos (by omega),show q + loc.slack - q = 0 by omega]
      exact .sliceY _ hl
     ·rw [if_neg (by omega),Option.map_some,add_lit',show q + loc.slack - q = loc.slack by omega]
      have := RV.sliceZ (m := m) (i := i) (o := o + q * esz) (s := 0) hl
      rwa [← Nat.add_assoc] at this
    ·rw [if_neg hql,if_neg (by omega),Option.map_some,add_lit',show q + loc.slack - l = (q - l) + loc.slack by omega]
     have := RV.sliceX (m := m) (i := i) (o := o + l * esz) (n := u - l) (c := q - l) hl
     rwa [← Nat.add_assoc] at this
 ·next i o s' =>
  cases e
  cases ry with
  | @sliceZ _ _ _ loc hl =>
   have hlu := bounds_le hb
   rcases bounds_grow (cap' := loc.slack) (by omega) hb with ⟨hm,hb'⟩ | ⟨rfl,hq,hb'⟩
   ·refine Snd.pure s (hrun _ _ l u q hb') ?_
    rw [if_pos (by omega),show u - l = 0 by omega,show q - l = 0 by omega]
    exact .sliceY _ hl
   ·refine Snd.pure s (hrun _ _ l u _ hb') ?_
    rw [show u - l = 0 by omega,show q - l = 0 by omega,show l = 0 by omega]
    simp only [Nat.zero_mul,Option.map_some,Nat.sub_zero,add_lit',Nat.add_zero,ite_self]
    exact .sliceZ hl
  | sliceY b hl =>
   have hlu := bounds_le hb
   refine Snd.pure s (hrun _ _ l u q hb) ?_
   rw [if_pos (by omega),show u - l = 0 by omega,show q - l = 0 by omega]
   exact .sliceY _ hl
end
end
section
section
variable {P : Program} {base : Nat} {w0 w : World} {m : Mu} {h : Hp}
theorem Sim.adopt [Fl] (s : Sim base w0 m h w) {l' : Loc} {o' : Ob} (hno : ∀ j ob l,h.get j = some ob → m j = some l → l.blk ≠ l'.blk) (hb : base ≤ l'.blk) (hlt : l'.blk < w.heap.size)
  (hlies : Lies m w l' o'.cells) (hwhole : Whole w l' o') : Sim base w0 (m.add h.nx l') (h.new o') w := by
 have hn := s.fresh _ (Nat.le_refl _)
 have hm : m.le (m.add h.nx l') := Mu.le_add _ hn
 refine ⟨s.below,s.big,?_,?_,?_,?_,?_⟩
 ·intro j hj
  simp only [Hp.new] at hj
  rw [Mu.add_f,if_neg (by omega)]
  exact s.fresh j (by omega)
 ·intro j k ek
  rw [Mu.add_f] at ek
  split at ek
  ·cases ek; exact hlt
  ·exact s.lt j k ek
 ·refine s.ms.keep rfl (fun _ _ _ _ => rfl) (fun j b hb => ?_) (Nat.le_succ _) fun j l el => ?_
  ·have := s.ms.nx hb
   simp only [Hp.new]
   rw [if_neg (by omega)]
  ·rw [Mu.add_f] at el
   split at el
   ·next e => rw [e]; exact s.ms.fr _ (Nat.le_refl _)
   ·exact s.ms.ex j l el
 ·intro j o ej hno
  have ej' : (if j = h.nx then some o' else h.get j) = some o := ej
  by_cases hj : j = h.nx
  ·rw [if_pos hj] at ej'
   subst hj; cases ej'
   exact ⟨l',Mu.add_same _ _ _,hlies.mono hm,fun _ => ⟨hb,hwhole⟩⟩
  ·rw [if_neg hj] at ej'
   obtain ⟨k,hk,h1,h2⟩ := s.obs j o ej' hno
   exact ⟨k,hm.1 _ _ hk,h1.mono hm,h2⟩
 ·intro j k a b p q ej ek hjk ra ep eq
  have ej' : (if j = h.nx then some o' else h.get j) = some a := ej
  have ek' : (if k = h.nx then some o' else h.get k) = some b := ek
  rw [Mu.add_f] at ep eq
  by_cases h1 : j = h.nx <;> by_cases h2 : k = h.nx
  ·exact absurd (h1.trans h2.symm) hjk
  ·rw [if_pos h1] at ep; rw [if_neg h2] at eq ek'
   cases ep
   exact fun e => hno k b q ek' eq e.symm
  ·rw [if_neg h1] at ep ej'; rw [if_pos h2] at eq
   cases eq
   exact hno j a p ej' ep
  ·rw [if_neg h1] at ep ej'; rw [if_neg h2] at eq ek'
   exact s.apart j k a b p q ej' ek' hjk ra ep eq
theorem run_store_raw [Fl] (g o : Nat) (e : TypeId) (f : Nat × Nat) : ∀ (vs : List Value) (i : Nat) (c : Array Value) (w : World),w.heap[g]? = some (.cells c e f) → (∀ x,x < c.size → ¬ (f.1 ≤ x ∧ x < f.2)) →
  o + i + vs.length ≤ c.size → vs.all one = true →
  ∃ w' c',(storeCells ⟨g,o,none⟩ vs i).run P w = .ok () w' ∧ w'.heap[g]? = some (.cells c' e f) ∧ c'.size = c.size ∧ (∀ j,j < o + i → c'[j]? = c[j]?) ∧ (∀ (j : Nat) v,vs[j]? = some v → c'[o + i + j]? = some v) ∧
   (∀ b,b ≠ g → w'.heap[b]? = w.heap[b]?) ∧ w'.heap.size = w.heap.size ∧ w'.os = w.os ∧ w'.tape = w.tape ∧ w'.output = w.output ∧ w'.drawn = w.drawn := by
 intro vs
 induction vs with
 | nil =>
  intro i c w hc _ _ _
  exact ⟨w,c,rfl,hc,rfl,fun _ _ => rfl,by simp,fun _ _ => rfl,rfl,rfl,rfl,rfl,rfl⟩
 | cons v vs ih =>
  intro i c w hc hf hl ho
  simp only [List.all_cons,Bool.and_eq_true] at ho
  simp only [List.length_cons] at hl
  have hcell : w.cell? ⟨g,o + i,none⟩ = some c[o + i] := by
   simp only [World.cell?,hc]
   simp [Array.getElem?_eq_getElem (show o + i < c.size by omega)]
  have hfr : w.frozen? ⟨g,o + i,none⟩ = false := by
   simp only [World.frozen?,hc]
   have := hf (o + i) (by omega)
   simp
   omega
  have hst : (store ⟨g,o + i,none⟩ v).run P w = .ok () (w.setCell ⟨g,o + i,none⟩ v) := by
   have ho' := ho.1
   unfold store
   cases v <;> first | (simp only [Sem.run,hcell,hfr]; rfl) | exact absurd ho' (by simp [one])
  have hblk : (w.setCell ⟨g,o + i,none⟩ v).heap[g]? = some (.cells (c.setIfInBounds (o + i) v) e f) := by
   simp [World.setCell,Array.getElem?_modify,hc]
  obtain ⟨w',c',h1,h2,h3,h4,h5,h6,h7,h8,h9,h10,h11⟩ := ih (i + 1) (c.setIfInBounds (o + i) v) _ hblk (by simpa using hf) (by simp; omega) ho.2
  refine ⟨w',c',?_,h2,by simpa using h3,?_,?_,fun b hb => (h6 b hb).trans (heap_setCell hb),by simpa [World.setCell] using h7,h8,h9,h10,h11⟩
  ·unfold storeCells
   rw [add_lit']
   simp only [Sem.run_bind,hst,Result.andThen_ok]
   exact h1
  ·intro j hj
   rw [h4 j (by omega),Array.getElem?_setIfInBounds,if_neg (by omega)]
  ·intro j x ex
   cases j with
   | zero =>
    simp only [List.getElem?_cons_zero,Option.some.injEq] at ex
    subst ex
    rw [h4 (o + i + 0) (by omega)]
    simp [show o + i < c.size by omega]
   | succ j =>
    simp only [List.getElem?_cons_succ] at ex
    have := h5 j x ex
    rwa [show o + (i + 1) + j = o + i + (j + 1) by omega] at this
theorem run_app_room [Fl] {t u ty el : TypeId} {du : TypeDesc} {ti : TypeInfo} {esz n sLen sCap : Nat} {b : Option Addr} {x' : Value} {xs' : List Value} {w' : World} (hu : P.underlying t = some (.slice el)) (huu : P.underlying u = some du) (hdu : (∃ e2,du = .slice e2) ∨ du = .string)
  (hi : P.info? el = some ti) (hn : ti.size = esz) (hlen : (Builtin.lenOf x').run P w = .ok n w) (hf : (Builtin.firstCells esz n x').run P w = .ok xs'.toArray w) (hroom : sLen + n ≤ sCap)
  (hst : (match b with | some a => storeCells (a.add (sLen * esz)) xs' | none => pure ()).run P w = .ok () w') :
  (Builtin.append_ #[t,u] ty #[.slice b sLen sCap,x']).run P w = .ok (.slice b (sLen + n) sCap) w' := by
 cases b with
 | none =>
  simp only [Sem.run_pure] at hst
  cases hst
  obtain ⟨e2,rfl⟩ | rfl := hdu
  ·simp [Builtin.append_,run_underlying hu,run_underlying huu,sizeOf,typeInfo,hi,hn,hlen,hroom,hf]
  ·simp [Builtin.append_,run_underlying hu,run_underlying huu,sizeOf,typeInfo,hi,hn,hlen,hroom,hf]
 | some a =>
  simp only at hst
  obtain ⟨e2,rfl⟩ | rfl := hdu
  ·simp [Builtin.append_,run_underlying hu,run_underlying huu,sizeOf,typeInfo,hi,hn,hlen,hroom,hf,hst]
  ·simp [Builtin.append_,run_underlying hu,run_underlying huu,sizeOf,typeInfo,hi,hn,hlen,hroom,hf,hst]
theorem run_app_grow [Fl] {t u ty el : TypeId} {du : TypeDesc} {ti : TypeInfo} {z : Value} {esz n sLen sCap : Nat} {b : Option Addr} {x' : Value} {xs' olds : List Value} (hu : P.underlying t = some (.slice el)) (huu : P.underlying u = some du) (hdu : (∃ e2,du = .slice e2) ∨ du = .string)
  (hi : P.info? el = some ti) (hn : ti.size = esz) (hz : ti.zero = some z) (hlen : (Builtin.lenOf x').run P w = .ok n w) (hf : (Builtin.firstCells esz n x').run P w.drew = .ok xs'.toArray w.drew)
  (hold : (Builtin.firstCells esz sLen (.slice b sLen sCap)).run P w.drew = .ok olds.toArray w.drew) (hgrow : sCap < sLen + n) (h63 : sLen + n ≤ 140737488355328) (hfit : Builtin.nextslicecap (sLen + n) sCap * ti.bytes ≤ 281474976710656) :
  (Builtin.append_ #[t,u] ty #[.slice b sLen sCap,x']).run P w =
   .ok (.slice (some ⟨w.heap.size,0,none⟩) (sLen + n) (grownCap w (sLen + n) sCap el)) (w.drew.alloc (.cells ((olds ++ xs').toArray ++ Builtin.zeroCells z.cells (grownCap w (sLen + n) sCap el - (sLen + n))) el)) := by
 have hnn : ¬ (sLen + n ≤ sCap) := by omega
 have h63' : ¬ (9223372036854775807 < ((sLen : Int) + (n : Int))) := by omega
 have h48' : ¬ (281474976710656 < Builtin.nextslicecap (sLen + n) sCap * ti.bytes) := by omega
 obtain ⟨e2,rfl⟩ | rfl := hdu
 ·simp [Builtin.append_,run_underlying hu,run_underlying huu,sizeOf,typeInfo,zeroValue,hi,hz,hn,hlen,hnn,h63',h48',Question.forced,hf,hold,newRow,grownCap]
  rw [← Array.append_assoc]
  congr 3
  simp
 ·simp [Builtin.append_,run_underlying hu,run_underlying huu,sizeOf,typeInfo,zeroValue,hi,hz,hn,hlen,hnn,h63',h48',Question.forced,hf,hold,newRow,grownCap]
  rw [← Array.append_assoc]
  congr 3
  simp
theorem loadCells_k [Fl] (s : Sim base w0 m h w) {i o n : Nat} {l : Loc} {vs : List Value} (hl : m i = some l) (e : h.rd i o n = some vs) :
  ∃ vs',RVs m vs vs' ∧ ∀ k,(loadCells ⟨l.blk,l.off + o,none⟩ n).run P { w with drawn := k } = .ok vs'.toArray { w with drawn := k } := by
 obtain ⟨vs',h1,h2,h3⟩ := cells_of s hl e
 refine ⟨vs',h1,fun k => ?_⟩
 have := run_loadCells_list (P := P) (w := { w with drawn := k }) ⟨l.blk,l.off + o,none⟩ vs' h3
 rw [h2] at this
 exact this
theorem firstS [Fl] (s : Sim base w0 m h w) {esz n : Nat} {a : Option Addr} {len c : Nat} {y : Value} {xs : List Value} (ry : RV m (.slice a len c) y) (e : rdS h a (n * esz) = some xs) :
  ∃ xs',RVs m xs xs' ∧ ∀ k,(Builtin.firstCells esz n y).run P { w with drawn := k } = .ok xs'.toArray { w with drawn := k } := by
 have h0 : ∀ (b : Option Addr) (len c : Nat),n * esz = 0 → ∀ k,(Builtin.firstCells esz n (.slice b len c)).run P { w with drawn := k } = .ok #[] { w with drawn := k } := by
  intro b len c h0 k
  cases b <;> simp [Builtin.firstCells,h0,loadCells,loadCellsFrom]
 cases ry with
 | nils => simp only [rdS,Option.some.injEq] at e; subst e; exact ⟨[],RVs.nil m,fun _ => rfl⟩
 | @slice i o _ _ l hl =>
  simp only [rdS] at e
  split at e
  ·next hn => cases e; exact ⟨[],RVs.nil m,h0 _ _ _ hn⟩
  ·simp only [Option.getD_none,if_true] at e
   exact loadCells_k s hl e
 | @sliceX i o _ _ l hl =>
  simp only [rdS] at e
  split at e
  ·next hn => cases e; exact ⟨[],RVs.nil m,h0 _ _ _ hn⟩
  ·simp only [Option.getD_some,if_true] at e
   exact loadCells_k s hl e
 | sliceZ hl =>
  simp only [rdS] at e
  split at e
  ·next hn => cases e; exact ⟨[],RVs.nil m,h0 _ _ _ hn⟩
  ·simp at e
 | sliceY b hl =>
  simp only [rdS] at e
  split at e
  ·next hn => cases e; exact ⟨[],RVs.nil m,h0 _ _ _ hn⟩
  ·simp at e
theorem one_all [Fl] {l l' : List Value} (hr : RVs m l l') (ho : l.all one = true) : l'.all one = true := by
 rw [List.all_eq_true] at ho ⊢
 intro x hx
 obtain ⟨i,hi⟩ := List.getElem?_of_mem hx
 have hlt := (List.getElem?_eq_some_iff.1 hi).1
 have hlt' : i < l.length := by rw [hr.1]; exact hlt
 have : l[i]? = some l[i] := List.getElem?_eq_getElem hlt'
 exact one_of (hr.2 i _ _ this hi) (ho _ (List.mem_of_getElem? this))
theorem grownCap_ge [Fl] (w : World) (need old : Nat) (e : TypeId) : need ≤ grownCap w need old e := by
 unfold grownCap Question.cut
 simp
theorem snd_grown [Fl] (s : Sim base w0 m h w) {z : Value} {esz sz need cp : Nat} {el : TypeId} (hz : z.cells.size = esz) (hsz : sz % mkE = esz) (hpos : 0 < esz) (hmk : mkE ≤ sz → sz / mkE = el + 1) (hc : need ≤ cp) {cs cs' : List Value} (hr : RVs m cs cs') {s1 : Sem Value}
  (hrun : s1.run P w = .ok (.slice (some ⟨w.heap.size,0,none⟩) need cp) (w.drew.alloc (.cells (cs'.toArray ++ Builtin.zeroCells z.cells (cp - need)) el))) :
  Snd P base w0 m w s1 (.slice (some ⟨h.nx,0,some 0⟩) need need) (h.new ⟨cs,true,sz⟩) := by
 have s2 : Sim base w0 m h w.drew := s.drawn _ (Nat.le_succ _)
 have s3 := s2.alloc (more := (Builtin.zeroCells z.cells (cp - need)).toList) (k := cp - need) (esz := sz) el hr (by simp [Builtin.zeroCells,hz,hsz]) (fun q => ⟨hmk q,fun h0 => by omega⟩) (0,0) (by simp)
 refine ⟨m.add h.nx ⟨w.heap.size,0,cp - need⟩,_,_,hrun,Mu.le_add _ (s.fresh _ (Nat.le_refl _)),?_,?_⟩
 ·have := RV.sliceX (m := m.add h.nx ⟨w.heap.size,0,cp - need⟩) (i := h.nx) (o := 0) (n := need) (c := need) (Mu.add_same m h.nx _)
  simp only [Nat.add_zero] at this
  rwa [show need + (cp - need) = cp by omega] at this
 ·have e : ((cs' ++ (Builtin.zeroCells z.cells (cp - need)).toList).toArray) = cs'.toArray ++ Builtin.zeroCells z.cells (cp - need) := by simp
  rw [e] at s3
  exact s3
theorem snd_inplace [Fl] (s : Sim base w0 m h w) {i o len n rc esz sz : Nat} {l : Loc} {ob : Ob} {old xs xs' : List Value} (hl : m i = some l) (hob : h.get i = some ob) (hw : ob.rw = true) (hesz : ob.esz = sz) (hszm : sz % mkE = esz) (hpos : 0 < esz) (ho0 : mkE ≤ sz → o = 0)
  (hold : (if len = 0 then some [] else h.rd i o (len * esz)) = some old) (hlo : old.length = len * esz) (hx : xs.length = n * esz) (hxo : xs.all one = true) (hr : RVs m xs xs') (hroom : len + n ≤ rc) (hend : l.off + o + rc * esz ≤ l.off + ob.cells.length + l.slack * esz)
  {s1 : Sem Value} (hrun : ∀ w',(storeCells ⟨l.blk,l.off + o + len * esz,none⟩ xs').run P w = .ok () w' → s1.run P w = .ok (.slice (some ⟨l.blk,l.off + o,none⟩) (len + n) rc) w') :
  Snd P base w0 m w s1 (.slice (some ⟨h.nx,0,some 0⟩) (len + n) (len + n)) ((h.del i).new ⟨old ++ xs,true,sz⟩) := by
 obtain ⟨hlies,hwh⟩ := s.loc hob hl
 obtain ⟨hbase,c,e,f,hblk,hfr,hsz,hmk⟩ := hwh hw
 rw [hesz] at hmk
 rw [hesz,hszm] at hsz
 have hxl : xs'.length = n * esz := by rw [← hr.1,hx]
 have hmul : (len + n) * esz ≤ rc * esz := Nat.mul_le_mul_right _ hroom
 rw [Nat.add_mul] at hmul
 obtain ⟨w',c',h1,h2,h3,h4,h5,h6,h7,h8,h9,h10,h11⟩ := run_store_raw (P := P) l.blk (l.off + o + len * esz) e f xs' 0 c w hblk hfr (by omega) (one_all hr hxo)
 have hlt := s.lt i l hl
 have sd : Sim base w0 m (h.del i) w' := by
  refine (s.del i (s.ms.ex _ _ hl)).world ⟨h8,h9,h10,Nat.le_of_eq h7.symm,fun k hk => h6 k (by omega)⟩ (fun _ => Nat.le_of_eq h11.symm) (Nat.le_of_eq h7.symm) (fun b es ck hb => h6 b fun e => by rw [e,hblk] at hb; cases hb) ?_
  intro j q ob2 ej eq
  simp only [Hp.del] at ej
  split at ej
  ·cases ej
  ·next hj => exact h6 _ (fun eb => s.apart i j ob ob2 l q hob ej (fun x => hj x.symm) hw hl eq eb.symm)
 have hmm : rc * esz = (len + n) * esz + (rc - (len + n)) * esz := by rw [← Nat.add_mul]; congr 1; omega
 have sa := sd.adopt (l' := ⟨l.blk,l.off + o,rc - (len + n)⟩) (o' := ⟨old ++ xs,true,sz⟩) (by
   intro j ob2 q ej eq
   simp only [Hp.del] at ej
   split at ej
   ·cases ej
   ·next hj => exact fun eb => s.apart i j ob ob2 l q hob ej (fun x => hj x.symm) hw hl eq eb.symm) hbase (by rw [h7]; exact hlt) (by
   intro j v ej
   rw [List.getElem?_append] at ej
   split at ej
   ·next hj =>
    have hl0 : len ≠ 0 := by intro h0; rw [hlo,h0] at hj; omega
    rw [if_neg hl0] at hold
    obtain ⟨vs',g1,g2,g3⟩ := cells_of s hl hold
    obtain ⟨v',ev,rv⟩ := g1.get ej
    refine ⟨v',?_,rv⟩
    have := g3 j v' ev
    rw [add_lit'] at this
    simp only [World.cell?,hblk] at this
    simp only [World.cell?,h2]
    simp only [Option.isSome_none,Bool.false_eq_true,if_false] at this ⊢
    rw [h4 (l.off + o + j) (by omega)]
    exact this
   ·next hj =>
    obtain ⟨v',ev,rv⟩ := hr.get ej
    refine ⟨v',?_,rv⟩
    have := h5 _ v' ev
    simp only [World.cell?,h2,Option.isSome_none,Bool.false_eq_true,if_false]
    rw [← this]
    congr 1
    omega) ⟨c',e,f,h2,by rw [h3]; exact hfr,by rw [h3,hszm]; simp only [List.length_append]; rw [hlo,hx,← Nat.add_mul]; omega,fun q => ⟨by have h1 := (hmk q).1; have h2 := ho0 q; show l.off + o = 0; omega,(hmk q).2.1,fun h0 => by have h1 : sz % mkE = 0 := h0; rw [hszm] at h1; omega⟩⟩
 refine ⟨m.add (h.del i).nx ⟨l.blk,l.off + o,rc - (len + n)⟩,_,w',hrun w' h1,Mu.le_add _ (by have := s.fresh _ (Nat.le_refl _); exact this),?_,sa⟩
 have := RV.sliceX (m := m.add (h.del i).nx ⟨l.blk,l.off + o,rc - (len + n)⟩) (i := h.nx) (o := 0) (n := len + n) (c := len + n) (Mu.add_same m h.nx _)
 simp only [Nat.add_zero] at this
 rwa [show len + n + (rc - (len + n)) = rc by omega] at this
end
end
section
section
variable {P : Program} {base : Nat} {w0 w : World} {m : Mu} {h : Hp}
theorem snd_app [Fl] (s : Sim base w0 m h w) {t u ty el : TypeId} {du : TypeDesc} {ti : TypeInfo} {z : Value} {esz sz n len cap : Nat} {a : Option Addr} {y x' : Value} {xs xs' : List Value} {v : Value} {h' : Hp}
  (hu : P.underlying t = some (.slice el)) (huu : P.underlying u = some du) (hdu : (∃ e2,du = .slice e2) ∨ du = .string)
  (hi : P.info? el = some ti) (hn : ti.size = esz) (hz : ti.zero = some z) (hzs : z.cells.size = esz) (hsz : sz % mkE = esz) (hmk : mkE ≤ sz → sz / mkE = el + 1) (ry : RV m (.slice a len cap) y) (hr : RVs m xs xs')
  (hlen : ∀ k,(Builtin.lenOf x').run P { w with drawn := k } = .ok n { w with drawn := k }) (hf : ∀ k,(Builtin.firstCells esz n x').run P { w with drawn := k } = .ok xs'.toArray { w with drawn := k })
  (e : appG esz ti.bytes sz h a len cap xs n = some (v,h')) : Snd P base w0 m w (Builtin.append_ #[t,u] ty #[y,x']) v h' := by
 unfold appG at e
 split at e
 case isFalse => cases e
 case isTrue hc =>
 obtain ⟨hxl,hxo,hpos,hby,h47⟩ := hc
 have hl0 := hlen w.drawn
 have hf0 := hf w.drawn
 have hxl' : xs'.length = n * esz := by rw [← hr.1,hxl]
 -- growth,whatever the slice was
 have grow : ∀ (h2 : Hp) (b : Option Addr) (rc : Nat) (old : List Value),y = .slice b len rc → rc < len + n → Sim base w0 m h2 w → (if len = 0 then some [] else (match a with | some ⟨i,o,_⟩ => h.rd i o (len * esz) | none => none)) = some old →
   (∀ i o s',a = some ⟨i,o,some (s' + 1)⟩ → len = 0) → Snd P base w0 m w (Builtin.append_ #[t,u] ty #[y,x']) (.slice (some ⟨h2.nx,0,some 0⟩) (len + n) (len + n)) (h2.new ⟨old ++ xs,true,sz⟩) := by
  intro h2 b rc old hy hg s2 hold hz1
  have hrd : rdS h a (len * esz) = some old := by
   by_cases hlz : len = 0
   ·rw [if_pos hlz] at hold
    cases hold
    subst hlz
    unfold rdS
    cases a <;> simp
   ·rw [if_neg hlz] at hold
    unfold rdS
    cases a with
    | none => cases hold
    | some ad =>
     obtain ⟨i,o,sp⟩ := ad
     simp only at hold ⊢
     have : len * esz ≠ 0 := Nat.mul_ne_zero hlz (by omega)
     rw [if_neg this]
     cases sp with
     | none => simpa using hold
     | some q => cases q with
      | zero => simpa using hold
      | succ q => exact absurd (hz1 i o q rfl) hlz
  obtain ⟨olds,ro,hfo⟩ := firstS (P := P) s (n := len) (esz := esz) ry hrd
  have hg2 := growslice_fits (bytes := ti.bytes) hg hby
  subst hy
  refine snd_grown (el := el) s2 hzs hsz hpos hmk (grownCap_ge w (len + n) rc el) (ro.append hr) ?_
  exact run_app_grow hu huu hdu hi hn hz hl0 (hf (w.drawn + 1)) (hfo (w.drawn + 1)) hg h47 hg2
 cases a with
 | none =>
  simp only at e
  split at e
  case isFalse => cases e
  case isTrue hlc =>
  obtain ⟨rfl,rfl⟩ := hlc
  cases ry
  split at e
  ·next h0 =>
   subst h0
   cases e
   refine Snd.pure s (v' := .slice none 0 0) ?_ (.nils _ _)
   exact run_app_room hu huu hdu hi hn hl0 hf0 (Nat.le_refl _) rfl
  ·next h0 =>
   cases e
   have := grow h none 0 [] rfl (by omega) s rfl (by intro i o s' e; cases e)
   simpa using this
 | some ad =>
  obtain ⟨i,o,sp⟩ := ad
  simp only at e
  split at e
  ·next h0 =>
   subst h0
   split at e
   case isFalse => cases e
   case isTrue hle =>
   cases e
   have hx0 : xs' = [] := List.eq_nil_of_length_eq_zero (by simpa using hxl')
   have hy : ∃ b rc,y = .slice (some b) len rc ∧ cap ≤ rc := by
    cases ry with
    | slice hl => exact ⟨_,_,rfl,Nat.le_refl _⟩
    | sliceX hl => exact ⟨_,_,rfl,Nat.le_add_right _ _⟩
    | sliceZ hl => exact ⟨_,_,rfl,Nat.zero_le _⟩
    | sliceY b hl => exact ⟨_,_,rfl,Nat.le_refl _⟩
   obtain ⟨b,rc,rfl,hcr⟩ := hy
   refine Snd.pure s (v' := .slice (some b) len rc) ?_ ry
   exact run_app_room hu huu hdu hi hn hl0 hf0 (by omega) (by rw [hx0]; rfl)
  ·next h0 =>
   split at e
   ·next hroom =>
    simp only [Option.map_eq_some_iff] at e
    obtain ⟨h2,hw,he⟩ := e
    cases he
    have hy : ∃ l rc,m i = some l ∧ y = .slice (some ⟨l.blk,l.off + o,none⟩) len rc ∧ cap ≤ rc ∧ RV m (.slice (some ⟨i,o,sp⟩) (len + n) cap) (.slice (some ⟨l.blk,l.off + o,none⟩) (len + n) rc) := by
     cases ry with
     | slice hl => exact ⟨_,_,hl,rfl,Nat.le_refl _,.slice hl⟩
     | sliceX hl => exact ⟨_,_,hl,rfl,Nat.le_add_right _ _,.sliceX hl⟩
     | sliceZ hl => exact absurd hroom (by omega)
     | sliceY b hl => exact absurd hroom (by omega)
    obtain ⟨l,rc,hl,rfl,hcr,rv⟩ := hy
    obtain ⟨w',hst,_,_,hs⟩ := run_wr (P := P) s hl hw hr
    refine ⟨m,_,w',?_,m.le_refl,rv,hs⟩
    exact run_app_room hu huu hdu hi hn hl0 hf0 (by omega) (by simp only [add_lit']; rw [← Nat.add_assoc] at hst; exact hst)
   ·next hroom =>
    split at e
    ·next old hold =>
     cases e
     cases ry with
     | slice hl => exact grow h _ cap old rfl (by omega) s (by simpa using hold) (by intro i o s' e; cases e)
    ·next old q hold =>
     split at e
     case h_2 => cases e
     case h_1 ob hob =>
     split at e
     case isFalse => cases e
     case isTrue hc =>
     cases e
     obtain ⟨hw,he,hend,hle,hone,hso⟩ := hc
     have hlo : old.length = len * esz := by
      by_cases hlz : len = 0
      ·rw [if_pos hlz] at hold; cases hold; simp [hlz]
      ·rw [if_neg hlz] at hold
       obtain ⟨ob2,_,h2,rfl⟩ := Hp.rd_some hold
       simp; omega
     have inpl : ∀ (l : Loc) (rc : Nat),m i = some l → y = .slice (some ⟨l.blk,l.off + o,none⟩) len rc → len + n ≤ rc → o + rc * esz ≤ ob.cells.length + l.slack * esz →
       Snd P base w0 m w (Builtin.append_ #[t,u] ty #[y,x']) (.slice (some ⟨h.nx,0,some 0⟩) (len + n) (len + n)) ((h.del i).new ⟨old ++ xs,true,sz⟩) := by
      intro l rc hl hy hroom2 hend2
      refine snd_inplace s hl hob hw he hsz hpos hso hold hlo hxl hxo hr hroom2 (by omega) ?_
      intro w' hst
      subst hy
      exact run_app_room hu huu hdu hi hn hl0 hf0 hroom2 (by simp only [add_lit']; exact hst)
     cases ry with
     | @sliceX _ _ _ _ l hl =>
      by_cases hg : len + n ≤ cap + l.slack
      ·exact inpl l (cap + l.slack) hl rfl hg (by rw [Nat.add_mul]; omega)
      ·exact grow (h.del i) _ _ old rfl (by omega) (s.del i (s.ms.ex _ _ hl)) (by simpa using hold) (by intro i o s' e; cases e)
     | @sliceZ _ _ _ l hl =>
      by_cases hg : 0 + n ≤ l.slack
      ·exact inpl l l.slack hl rfl hg (by omega)
      ·exact grow (h.del i) _ _ old rfl (by omega) (s.del i (s.ms.ex _ _ hl)) (by simpa using hold) (by intro _ _ _ _; rfl)
     | sliceY b hl => exact grow (h.del i) _ _ old rfl (by omega) (s.del i (s.ms.ex _ _ hl)) (by simpa using hold) (by intro _ _ _ _; rfl)
    ·cases e
end
end
section
section
variable {P : Program} {base : Nat} {w0 w : World} {m : Mu} {h : Hp}
theorem snd_cpy [Fl] (s : Sim base w0 m h w) {t u ty el : TypeId} {ti : TypeInfo} {esz len cap n c : Nat} {a b : Option Addr} {x y : Value} {xs : List Value} {h' : Hp} {v : Value}
  (hu : P.underlying t = some (.slice el)) (hi : P.info? el = some ti) (hn : ti.size = esz) (rx : RV m (.slice a len cap) x) (ry : RV m (.slice b n c) y)
  (hrd : rdS h b (Nat.min n len * esz) = some xs)
  (e : stepK (.cpy esz) [.slice a len cap,.slice b n c] h = some (v,h')) :
  Snd P base w0 m w (Builtin.copy_ #[t,u] ty #[x,y]) v h' := by
 simp only [stepK,hrd] at e
 obtain ⟨xs',hr,hf'⟩ := firstS (P := P) s ry hrd
 have hf := hf' w.drawn
 have hy : (Builtin.lenOf y).run P w = .ok n w := by cases ry <;> rfl
 have hx : ∃ a' c',x = .slice a' len c' ∧ (a = none → a' = none) := by
  cases rx with
  | nils => exact ⟨_,_,rfl,fun _ => rfl⟩
  | slice hl => exact ⟨_,_,rfl,fun h => by cases h⟩
  | sliceX hl => exact ⟨_,_,rfl,fun h => by cases h⟩
  | sliceZ hl => exact ⟨_,_,rfl,fun h => by cases h⟩
  | sliceY b hl => exact ⟨_,_,rfl,fun h => by cases h⟩
 obtain ⟨a',c',rfl,hnone⟩ := hx
 have hrun : ∀ w',(match a' with | some q => storeCells q xs' | none => pure ()).run P w = .ok () w' → (Builtin.copy_ #[t,u] ty #[.slice a' len c',y]).run P w = .ok (.int .i64 (Nat.min n len)) w' := by
  intro w' hst
  cases a' with
  | none => simp only [Sem.run_pure] at hst; cases hst; simp [Builtin.copy_,run_underlying hu,hy,sizeOf,typeInfo,hi,hn,hf,goInt]
  | some q => simp [Builtin.copy_,run_underlying hu,hy,sizeOf,typeInfo,hi,hn,hf,hst,goInt]
 by_cases h0 : xs = []
 ·subst h0
  have hx0 : xs' = [] := List.eq_nil_of_length_eq_zero (by rw [← hr.1]; rfl)
  subst hx0
  have he : v = .int .i64 (Nat.min n len) ∧ h' = h := by
   cases a with
   | none => simp at e; exact ⟨e.1.symm,e.2.symm⟩
   | some ad => obtain ⟨i,o,sp⟩ := ad; simp at e; exact ⟨e.1.symm,e.2.symm⟩
  obtain ⟨rfl,rfl⟩ := he
  exact Snd.pure s (hrun w (by cases a' <;> rfl)) (.int _ _)
 ·cases a with
  | none => simp [h0] at e
  | some ad =>
   obtain ⟨i,o,sp⟩ := ad
   simp only [h0,if_false,Option.map_eq_some_iff] at e
   obtain ⟨h2,hw,he⟩ := e
   cases he
   have hlen0 : len ≠ 0 := by
    intro hz
    subst hz
    have : Nat.min n 0 * esz = 0 := by simp
    rw [this] at hrd
    unfold rdS at hrd
    cases b with
    | none => cases hrd; exact h0 rfl
    | some q => simp at hrd; exact h0 hrd
   have hq : ∃ l,m i = some l ∧ a' = some ⟨l.blk,l.off + o,none⟩ := by
    cases rx with
    | slice hl => exact ⟨_,hl,rfl⟩
    | sliceX hl => exact ⟨_,hl,rfl⟩
    | sliceZ hl => exact absurd rfl hlen0
    | sliceY b hl => exact absurd rfl hlen0
   obtain ⟨l,hl,rfl⟩ := hq
   obtain ⟨w',hst,_,_,hs⟩ := run_wr (P := P) s hl hw hr
   exact ⟨m,_,w',hrun w' hst,m.le_refl,.int _ _,hs⟩
theorem snd_clr [Fl] (s : Sim base w0 m h w) {t ty el : TypeId} {ti : TypeInfo} {z : Value} {esz n c : Nat} {a : Option Addr} {x : Value} {h' : Hp} {v : Value}
  (hu : P.underlying t = some (.slice el)) (hi : P.info? el = some ti) (hz : ti.zero = some z) (hf : flatL z.cells.toList = true) (rx : RV m (.slice a n c) x)
  (e : stepK (.clr esz z) [.slice a n c] h = some (v,h')) :
  Snd P base w0 m w (Builtin.clear_ #[t] ty #[x]) v h' := by
 simp only [stepK] at e
 have ht : RV m (.tuple #[]) (.tuple #[]) := .tuple rfl (by simp)
 cases a with
 | none =>
  cases e
  cases rx
  exact Snd.pure s (v' := .tuple #[]) (by simp [Builtin.clear_,run_underlying hu]) ht
 | some ad =>
  obtain ⟨i,o,sp⟩ := ad
  simp only at e
  split at e
  ·next h0 =>
   subst h0
   cases e
   cases rx <;> exact Snd.pure s (v' := .tuple #[]) (by simp [Builtin.clear_,run_underlying hu]) ht
  ·next h0 =>
   split at e
   case isFalse => cases e
   case isTrue hsz =>
   simp only [Option.map_eq_some_iff] at e
   obtain ⟨h2,hw,he⟩ := e
   cases he
   have hq : ∃ l c',m i = some l ∧ x = .slice (some ⟨l.blk,l.off + o,none⟩) n c' := by
    cases rx with
    | slice hl => exact ⟨_,_,hl,rfl⟩
    | sliceX hl => exact ⟨_,_,hl,rfl⟩
    | sliceZ hl => exact absurd rfl h0
    | sliceY b hl => exact absurd rfl h0
   obtain ⟨l,c',hl,rfl⟩ := hq
   have hzr : RVs m (Builtin.zeroCells z.cells n).toList (Builtin.zeroCells z.cells n).toList := by
    refine ⟨rfl,fun j v v' e e' => ?_⟩
    rw [e] at e'; cases e'
    simp only [Builtin.zeroCells,Array.toList_map,List.getElem?_map,Option.map_eq_some_iff,Array.toList_range] at e
    obtain ⟨q,hq,rfl⟩ := e
    by_cases hz0 : z.cells.size = 0
    ·rw [hz0,Nat.mul_zero] at hq; simp at hq
    ·have hlt : q % z.cells.size < z.cells.size := Nat.mod_lt _ (by omega)
     rw [getElem!_pos z.cells _ hlt]
     refine RV.of_flat m _ (all_get hf (i := q % z.cells.size) ?_)
     simp [hlt]
   obtain ⟨w',hst,_,_,hs⟩ := run_wr (P := P) s hl hw hzr
   refine ⟨m,.tuple #[],w',?_,m.le_refl,ht,hs⟩
   cases n with
   | zero => exact absurd rfl h0
   | succ n => simp [Builtin.clear_,run_underlying hu,zeroValue,typeInfo,hi,hz,hst]
theorem snd_mks [Fl] (s : Sim base w0 m h w) {t el : TypeId} {ti : TypeInfo} {z : Value} {esz : Nat} {kl kc : IntKind} {l c : Int} {x y : Value} (hu : P.underlying t = some (.slice el)) (hi : P.info? el = some ti) (hn : ti.size = esz) (hz : ti.zero = some z) (hf : flatL z.cells.toList = true) (hzs : z.cells.size = esz) (hmk : esz < mkE)
  (rx : RV m (.int kl l) x) (ry : RV m (.int kc c) y) (h0 : 0 ≤ l) (hlc : l ≤ c) (hb : (ti.bytes : Int) * c ≤ 140737488355328) (hc : c ≤ 140737488355328) :
  Snd P base w0 m w (Instr.makeSlice t x y) (.slice (some ⟨h.nx,0,none⟩) l.toNat c.toNat) (h.new ⟨(madeCells z.cells (c.toNat * esz)).toList,true,esz⟩) := by
 obtain rfl := rx.scalar_int
 obtain rfl := ry.scalar_int
 have hr : RVs m (madeCells z.cells (c.toNat * esz)).toList (madeCells z.cells (c.toNat * esz)).toList := by
  refine ⟨rfl,fun j v v' e e' => ?_⟩
  rw [e] at e'; cases e'
  simp only [madeCells,Array.toList_map,List.getElem?_map,Option.map_eq_some_iff,Array.toList_range] at e
  obtain ⟨q,hq,rfl⟩ := e
  by_cases hz0 : z.cells.size = 0
  ·rw [← hzs,hz0,Nat.mul_zero] at hq; simp at hq
  ·have hlt : q % z.cells.size < z.cells.size := Nat.mod_lt _ (by omega)
   rw [getElem!_pos z.cells _ hlt]
   refine RV.of_flat m _ (all_get hf (i := q % z.cells.size) ?_)
   simp [hlt]
 obtain ⟨h1,h2⟩ := new_obj s el esz hr (fun q => absurd hmk (Nat.not_lt.2 q))
 have hrun := run_make (P := P) w t el ti z hu hi hz kl kc l c h0 hlc (by omega) (by omega)
 rw [hn] at hrun
 refine ⟨_,_,_,hrun,h1,?_,h2⟩
 have := RV.slice (m := m.add h.nx ⟨w.heap.size,0,0⟩) (i := h.nx) (o := 0) (n := l.toNat) (c := c.toNat) (Mu.add_same m h.nx ⟨w.heap.size,0,0⟩)
 simpa using this
theorem snd_sla [Fl] (s : Sim base w0 m h w) {t el : TypeId} {ti : TypeInfo} {n esz i o : Nat} {lo up mx : Option Value} {y v : Value} (hu : P.underlying t = some (.array n el)) (hi : P.info? el = some ti) (hn : ti.size = esz)
  (ry : RV m (.pointer (some ⟨i,o,none⟩)) y) (e : sliceA esz (some ⟨i,o,none⟩) n n lo up mx = some v) : Snd P base w0 m w (Instr.sliceAt t y lo up mx) v h := by
 unfold sliceA at e
 split at e
 ·cases e
 next l u q hb =>
 simp only at e
 cases e
 cases ry with
 | @ptr _ _ loc hl =>
  refine Snd.pure s (v' := .slice (some (if q = l then ⟨loc.blk,loc.off + o,none⟩ else (⟨loc.blk,loc.off + o,none⟩ : Addr).add (l * esz))) (u - l) (q - l)) ?_ ?_
  ·simp only [Instr.sliceAt,Sem.run_bind,run_underlying hu,Result.andThen_ok,Instr.sureAddr,Sem.run_pure,run_bounds hb,sizeOf,typeInfo,program,Sem.run]
   simp [hi,hn]
  ·split
   ·exact .slice hl
   ·rw [add_lit']
    have := RV.slice (m := m) (i := i) (o := o + l * esz) (n := u - l) (c := q - l) hl
    rwa [← Nat.add_assoc] at this
theorem snd_sls [Fl] (s : Sim base w0 m h w) {t : TypeId} {str : ByteArray} {lo up : Option Value} {y : Value} {b : Nat × Nat × Nat} (hu : P.underlying t = some .string) (ry : RV m (.string str) y) (e : bounds str.size str.size lo up none = some b) :
  Snd P base w0 m w (Instr.sliceAt t y lo up none) (.string (str.extract b.1 b.2.1)) h := by
 obtain rfl := ry.scalar_string
 obtain ⟨l,u,q⟩ := b
 refine Snd.pure s (v' := .string (str.extract l u)) ?_ (.string _)
 simp only [Instr.sliceAt,Instr.slice,Sem.run_bind,run_underlying hu,Result.andThen_ok,Option.isSome_none,Bool.false_eq_true,if_false,Sem.run_pure]
 simp [run_bounds e]
theorem snd_tas [Fl] (s : Sim base w0 m h w) {xt at_ : TypeId} {d : TypeDesc} {ok : Bool} {z x y v : Value} (hu : P.underlying at_ = some d) (hd : ∀ ms,d ≠ .interface ms) (hz : ok = true → ∃ ti,P.info? at_ = some ti ∧ ti.zero = some z ∧ flat z = true) (rx : RV m x y)
  {h' : Hp} (e : stepK (.tas at_ ok z) [x] h = some (v,h')) : Snd P base w0 m w (Instr.typeAssert y xt at_ ok) v h' := by
 have zf : ok = true → RV m (.tuple #[z,.bool false]) (.tuple #[z,.bool false]) ∧ (zeroValue at_).run P w = .ok z w := by
  intro ho
  obtain ⟨ti,h1,h2,h3⟩ := hz ho
  refine ⟨?_,by simp [zeroValue,typeInfo,h1,h2]⟩
  have := RVs.cons (RV.of_flat m z h3) (RVs.cons (.bool false) (RVs.nil m))
  exact .tuple this.1 this.2
 cases rx with
 | @iface t' v1 v2 rv =>
  simp only [stepK] at e
  split at e
  ·next ht =>
   subst ht
   cases ok with
   | true =>
    simp only [if_true,Option.some.injEq,Prod.mk.injEq] at e
    obtain ⟨rfl,rfl⟩ := e
    refine Snd.pure s (v' := .tuple #[v2,.bool true]) ?_ (by have := RVs.cons rv (RVs.cons (.bool true) (RVs.nil m)); exact .tuple this.1 this.2)
    cases d <;> first | exact absurd rfl (hd _) | simp [Instr.typeAssert,run_underlying hu]
   | false =>
    simp only [Bool.false_eq_true,if_false,Option.some.injEq,Prod.mk.injEq] at e
    obtain ⟨rfl,rfl⟩ := e
    refine Snd.pure s (v' := v2) ?_ rv
    cases d <;> first | exact absurd rfl (hd _) | simp [Instr.typeAssert,run_underlying hu]
  ·next ht =>
   split at e
   case isFalse => cases e
   case isTrue ho =>
   simp only [Option.some.injEq,Prod.mk.injEq] at e
   obtain ⟨rfl,rfl⟩ := e
   subst ho
   obtain ⟨h1,h2⟩ := zf rfl
   refine Snd.pure s (v' := .tuple #[z,.bool false]) ?_ h1
   cases d <;> first | exact absurd rfl (hd _) | simp [Instr.typeAssert,run_underlying hu,ht,h2]
 | nili =>
  simp only [stepK] at e
  split at e
  case isFalse => cases e
  case isTrue ho =>
  simp only [Option.some.injEq,Prod.mk.injEq] at e
  obtain ⟨rfl,rfl⟩ := e
  subst ho
  obtain ⟨h1,h2⟩ := zf rfl
  refine Snd.pure s (v' := .tuple #[z,.bool false]) ?_ h1
  cases d <;> first | exact absurd rfl (hd _) | simp [Instr.typeAssert,run_underlying hu,h2]
 | _ => simp [stepK] at e
theorem nil_back [Fl] {d : TypeDesc} {b c : Value} (hd : isNil d (.const c) = true) (r : RV m b c) : b = c ∧ (∀ aas,c ≠ .agg aas) ∧ ∀ (xx : Value) (t : TypeId),binOp .eql t xx c = (do pure (.bool (← Op.equal t xx c))) ∧ binOp .neq t xx c = (do pure (.bool (!(← Op.equal t xx c)))) := by
 cases d <;> cases c <;> try (exact absurd hd Bool.false_ne_true)
 case pointer.pointer el a =>
  cases a with
  | some a => exact absurd hd Bool.false_ne_true
  | none => cases r; exact ⟨rfl,by simp,fun xx t => by cases xx <;> exact ⟨rfl,rfl⟩⟩
 case slice.slice el a n k =>
  cases a with
  | some a => exact absurd hd Bool.false_ne_true
  | none => cases r; exact ⟨rfl,by simp,fun xx t => by cases xx <;> exact ⟨rfl,rfl⟩⟩
 case map.map ek el a =>
  cases a with
  | some a => exact absurd hd Bool.false_ne_true
  | none => cases r; exact ⟨rfl,by simp,fun xx t => by cases xx <;> exact ⟨rfl,rfl⟩⟩
 case func.nilFunc => cases r; exact ⟨rfl,by simp,fun xx t => by cases xx <;> exact ⟨rfl,rfl⟩⟩
 case interface.nilIface => cases r; exact ⟨rfl,by simp,fun xx t => by cases xx <;> exact ⟨rfl,rfl⟩⟩
theorem maxA_flat [Fl] {mx : Bool} {x y v x' y' : Value} (e : maxA mx x y = some v) (rx : RV m x x') (ry : RV m y y') : x' = x ∧ y' = y ∧ RV m v v ∧ ((if mx then Builtin.max2 x y else Builtin.min2 x y).run P w = .ok v w) := by
 cases x <;> cases y <;> simp only [maxA] at e <;> try (cases e; done)
 split at e
 ·next hk =>
  cases e
  refine ⟨rx.scalar_int,ry.scalar_int,.int _ _,?_⟩
  cases mx <;> simp [Builtin.max2,Builtin.min2]
 ·cases e
end
end
section
def Snd1 [Fl] (P : Program) (base : Nat) (w0 : World) (m : Mu) (w : World) (s : Sem Next) (v : Value) (h' : Hp) : Prop :=
 ∃ m' v' w',(s.run P w = .ok (.value v') w' ∨ (s.run P w = .ok .skip w' ∧ v' = undef)) ∧ m.le m' ∧ RV m' v v' ∧ Sim base w0 m' h' w'
section
variable {P : Program} {base : Nat} {w0 w : World} {m : Mu} {h : Hp}
theorem snd_one [Fl] {x : Sem Value} {v : Value} {h' : Hp} (k : Snd P base w0 m w x v h') : Snd1 P base w0 m w (do pure (Next.value (← x)) : Sem Next) v h' := by
 obtain ⟨m',v',w',hr,h1,h2,h3⟩ := k
 exact ⟨m',v',w',.inl (by simp [hr]),h1,h2,h3⟩
theorem RVs.r_nil [Fl] {vs : List Value} (hr : RVs m vs []) : vs = [] := List.eq_nil_of_length_eq_zero hr.1
theorem RVs.r_cons [Fl] {vs ys : List Value} {y : Value} (hr : RVs m vs (y :: ys)) : ∃ v us,vs = v :: us ∧ RV m v y ∧ RVs m us ys := by
 cases vs with
 | nil => have := hr.1; simp at this
 | cons v us =>
  obtain ⟨v',b',he,r1,r2⟩ := hr.cases_cons
  cases he
  exact ⟨v,us,rfl,r1,r2⟩
theorem RVs.r_one [Fl] {vs : List Value} {y : Value} (hr : RVs m vs [y]) : ∃ v,vs = [v] ∧ RV m v y := by
 obtain ⟨v,us,rfl,r,hs⟩ := hr.r_cons
 obtain rfl := hs.r_nil
 exact ⟨v,rfl,r⟩
theorem RVs.r_two [Fl] {vs : List Value} {y z : Value} (hr : RVs m vs [y,z]) : ∃ v u,vs = [v,u] ∧ RV m v y ∧ RV m u z := by
 obtain ⟨v,us,rfl,r,hs⟩ := hr.r_cons
 obtain ⟨u,rfl,r2⟩ := hs.r_one
 exact ⟨v,u,rfl,r,r2⟩
theorem RVs.r_three [Fl] {vs : List Value} {x y z : Value} (hr : RVs m vs [x,y,z]) : ∃ t v u,vs = [t,v,u] ∧ RV m t x ∧ RV m v y ∧ RV m u z := by
 obtain ⟨t,us,rfl,r,hs⟩ := hr.r_cons
 obtain ⟨v,u,rfl,r2,r3⟩ := hs.r_two
 exact ⟨t,v,u,rfl,r,r2,r3⟩
theorem eqGuard_pure [Fl] {op : BinOp} {t : TypeId} {x y : Operand} {a b : Value} (h1 : a = .nilIface → b = .nilIface → (∃ v,x = .const v) ∨ (∃ v,y = .const v)) (h2 : ∀ aas bs,a = .agg aas → b = .agg bs → False) :
  (eqGuard op t x y a b).run P w = .ok () w := by
 unfold eqGuard
 cases op <;> try rfl
 all_goals
  cases a <;> cases b <;> first
   | rfl
   | exact (h2 _ _ rfl rfl).elim
   | (obtain ⟨v,rfl⟩ | ⟨v,rfl⟩ := h1 rfl rfl <;> (try rfl) <;> (cases x <;> rfl))
theorem binA_kinds [Fl] {op : BinOp} {x y v : Value} (e : binA op x y = some v) : x ≠ .nilIface ∧ (∀ aas,x ≠ .agg aas) := by
 constructor
 ·rintro rfl; simp [binA] at e
 ·rintro aas rfl; simp [binA] at e
theorem takeB_rel [Fl] {o : Option Operand} {ρ : Operand → Value} {vs : List Value} {rest : List Value} {q : Option Value} {r : List Value} (hr : RVs m vs (o.toList.map ρ ++ rest)) (e : takeB o.isSome vs = some (q,r)) :
  q = o.map ρ ∧ RVs m r rest := by
 cases o with
 | none =>
  simp only [Option.isSome_none,takeB,Option.some.injEq,Prod.mk.injEq] at e
  obtain ⟨rfl,rfl⟩ := e
  exact ⟨rfl,by simpa using hr⟩
 | some x =>
  simp only [Option.toList_some,List.map_cons,List.map_nil,List.cons_append,List.nil_append] at hr
  obtain ⟨v,us,rfl,rv,hs⟩ := hr.r_cons
  simp only [Option.isSome_some] at e
  cases v <;> simp only [takeB,Option.some.injEq,Prod.mk.injEq,reduceCtorEq] at e
  obtain ⟨rfl,rfl⟩ := e
  exact ⟨by rw [Option.map_some,rv.scalar_int],hs⟩
theorem get3_rel [Fl] {lo hi mx : Option Operand} {ρ : Operand → Value} {vs : List Value} {l u q : Option Value} (hr : RVs m vs ((lo.toList ++ (hi.toList ++ mx.toList)).map ρ)) (e : get3 lo.isSome hi.isSome mx.isSome vs = some (l,u,q)) :
  l = lo.map ρ ∧ u = hi.map ρ ∧ q = mx.map ρ := by
 unfold get3 at e
 split at e
 ·cases e
 next l1 r1 h1 =>
 split at e
 ·cases e
 next u1 r2 h2 =>
 split at e
 ·next q1 h3 =>
  cases e
  simp only [List.map_append] at hr
  obtain ⟨g1,hr1⟩ := takeB_rel (o := lo) hr h1
  obtain ⟨g2,hr2⟩ := takeB_rel (o := hi) hr1 h2
  obtain ⟨g3,_⟩ := takeB_rel (o := mx) (rest := []) (by simpa using hr2) h3
  exact ⟨g1,g2,g3⟩
 ·cases e
theorem op_move [Fl] {x : Operand} {ρ : Operand → Value} {ty : TypeId} {dst : Option Tmp} {pos : String} {after : Array Edge} {guard : Option (Nat × Bool)} {k : K} {xs : List Operand} {vs : List Value} {v : Value} {h' : Hp}
  (s : Sim base w0 m h w) (hc : compOp P (.move x) = some (k,xs)) (hv : RVs m vs (xs.map ρ)) (e : stepK k vs h = some (v,h')) : Snd1 P base w0 m w (execOp ρ ⟨dst,.move x,ty,pos,after,guard⟩) v h' := by
 simp only [compOp,Option.some.injEq,Prod.mk.injEq] at hc
 obtain ⟨rfl,rfl⟩ := hc
 obtain ⟨a,rfl,r⟩ := RVs.r_one hv
 cases e
 exact ⟨m,ρ x,w,.inl rfl,m.le_refl,r,s⟩
theorem op_assign [Fl] {x : Operand} {ρ : Operand → Value} {ty : TypeId} {dst : Option Tmp} {pos : String} {after : Array Edge} {guard : Option (Nat × Bool)} {k : K} {xs : List Operand} {vs : List Value} {v : Value} {h' : Hp}
  (s : Sim base w0 m h w) (hc : compOp P (.assign x) = some (k,xs)) (hv : RVs m vs (xs.map ρ)) (e : stepK k vs h = some (v,h')) : Snd1 P base w0 m w (execOp ρ ⟨dst,.assign x,ty,pos,after,guard⟩) v h' := by
 simp only [compOp,Option.some.injEq,Prod.mk.injEq] at hc
 obtain ⟨rfl,rfl⟩ := hc
 obtain ⟨a,rfl,r⟩ := RVs.r_one hv
 cases e
 exact ⟨m,ρ x,w,.inl rfl,m.le_refl,r,s⟩
theorem op_pick [Fl] {c a b : Operand} {ρ : Operand → Value} {ty : TypeId} {dst : Option Tmp} {pos : String} {after : Array Edge} {guard : Option (Nat × Bool)} {k : K} {xs : List Operand} {vs : List Value} {v : Value} {h' : Hp}
  (s : Sim base w0 m h w) (hc : compOp P (.pick c a b) = some (k,xs)) (hv : RVs m vs (xs.map ρ)) (e : stepK k vs h = some (v,h')) : Snd1 P base w0 m w (execOp ρ ⟨dst,.pick c a b,ty,pos,after,guard⟩) v h' := by
 simp only [compOp,Option.some.injEq,Prod.mk.injEq] at hc
 obtain ⟨rfl,rfl⟩ := hc
 obtain ⟨x,y,z,rfl,r1,r2,r3⟩ := RVs.r_three hv
 cases x <;> simp only [stepK,reduceCtorEq,Option.some.injEq,Prod.mk.injEq] at e
 next t =>
 obtain ⟨rfl,rfl⟩ := e
 have hb := r1.scalar_bool
 refine ⟨m,if t then ρ a else ρ b,w,.inl ?_,m.le_refl,?_,s⟩
 ·cases t <;> simp [execOp,hb,asBool]
 ·cases t <;> assumption
theorem op_alloc [Fl] {el : TypeId} {ρ : Operand → Value} {ty : TypeId} {dst : Option Tmp} {pos : String} {after : Array Edge} {guard : Option (Nat × Bool)} {k : K} {xs : List Operand} {vs : List Value} {v : Value} {h' : Hp}
  (s : Sim base w0 m h w) (hc : compOp P (.alloc el) = some (k,xs)) (hv : RVs m vs (xs.map ρ)) (e : stepK k vs h = some (v,h')) : Snd1 P base w0 m w (execOp ρ ⟨dst,.alloc el,ty,pos,after,guard⟩) v h' := by
 simp only [compOp] at hc
 split at hc
 case h_2 => cases hc
 case h_1 i hi =>
 split at hc
 case h_2 => cases hc
 case h_1 z hz =>
 split at hc
 case isFalse => cases hc
 case isTrue hf =>
 cases hc
 cases hb : isBld z
 ·rw [hb] at e
  obtain rfl := RVs.r_nil hv
  cases e
  exact snd_one (snd_new s el hi hz hf _ 0 (fun q => absurd q (by decide)))
 ·rw [hb] at e
  obtain rfl := RVs.r_nil hv
  cases e
  exact snd_one (snd_new s el hi hz hf _ (mkE * (el + 1)) (fun _ => Nat.mul_div_cancel_left _ (by decide)))
theorem op_box [Fl] {el : TypeId} {x : Operand} {ρ : Operand → Value} {ty : TypeId} {dst : Option Tmp} {pos : String} {after : Array Edge} {guard : Option (Nat × Bool)} {k : K} {xs : List Operand} {vs : List Value} {v : Value} {h' : Hp}
  (s : Sim base w0 m h w) (hc : compOp P (.box el x) = some (k,xs)) (hv : RVs m vs (xs.map ρ)) (e : stepK k vs h = some (v,h')) : Snd1 P base w0 m w (execOp ρ ⟨dst,.box el x,ty,pos,after,guard⟩) v h' := by
 simp only [compOp,Option.some.injEq,Prod.mk.injEq] at hc
 obtain ⟨rfl,rfl⟩ := hc
 obtain ⟨a,rfl,r⟩ := RVs.r_one hv
 cases e
 exact snd_one (snd_box s el r)
theorem op_build [Fl] {t : TypeId} {parts : Array (Nat × Operand)} {ρ : Operand → Value} {ty : TypeId} {dst : Option Tmp} {pos : String} {after : Array Edge} {guard : Option (Nat × Bool)} {k : K} {xs : List Operand} {vs : List Value} {v : Value} {h' : Hp}
  (s : Sim base w0 m h w) (hc : compOp P (.build t parts) = some (k,xs)) (hv : RVs m vs (xs.map ρ)) (e : stepK k vs h = some (v,h')) : Snd1 P base w0 m w (execOp ρ ⟨dst,.build t parts,ty,pos,after,guard⟩) v h' := by
 have hm : ∀ (l : List (Nat × Operand)),(l.map fun p => (p.1,ρ p.2)).map (·.1) = l.map (·.1) ∧ (l.map fun p => (p.1,ρ p.2)).map (·.2) = (l.map (·.2)).map ρ := by
  intro l; simp [List.map_map,Function.comp_def]
 simp only [compOp] at hc
 split at hc
 ·next fs it hu hi =>
  split at hc
  case h_2 => cases hc
  case h_1 z pl hz hpl =>
  split at hc
  case isFalse => cases hc
  case isTrue hf =>
  cases hc
  simp only [stepK] at e
  split at e
  case isFalse => cases e
  case isTrue hl =>
  simp only [Option.map_eq_some_iff] at e
  obtain ⟨c,hfill,he⟩ := e
  cases he
  refine snd_one (snd_bldS s hu hi hz hpl hf (ix := parts.toList.map (·.1)) (parts := parts.map fun (i,x) => (i,ρ x)) ?_ ?_ hfill)
  ·rw [Array.toList_map]; exact (hm _).1
  ·rw [Array.toList_map]; exact (hm _).2 ▸ hv
 ·next n el it hu hi =>
  split at hc
  case h_2 => cases hc
  case h_1 z ie hz hie =>
  split at hc
  case isFalse => cases hc
  case isTrue hf =>
  cases hc
  simp only [stepK] at e
  split at e
  case isFalse => cases e
  case isTrue hl =>
  simp only [Option.map_eq_some_iff] at e
  obtain ⟨c,hfill,he⟩ := e
  cases he
  refine snd_one (snd_bldA s hu hi hz hie (places := (List.range n).map fun i => (i * ie.size,ie.size)) ?_ hf (ix := parts.toList.map (·.1)) (parts := parts.map fun (i,x) => (i,ρ x)) ?_ ?_ hfill)
  ·intro i q hq
   simp only [List.getElem?_map,Option.map_eq_some_iff] at hq
   obtain ⟨j,hj,rfl⟩ := hq
   have := (List.getElem?_eq_some_iff.1 hj).2
   simp at this
   rw [this]
  ·rw [Array.toList_map]; exact (hm _).1
  ·rw [Array.toList_map]; exact (hm _).2 ▸ hv
 ·cases hc
theorem op_buildSlice [Fl] {t : TypeId} {len : Nat} {parts : Array (Nat × Operand)} {ρ : Operand → Value} {ty : TypeId} {dst : Option Tmp} {pos : String} {after : Array Edge} {guard : Option (Nat × Bool)} {k : K} {xs : List Operand} {vs : List Value} {v : Value} {h' : Hp}
  (s : Sim base w0 m h w) (hc : compOp P (.buildSlice t len parts) = some (k,xs)) (hv : RVs m vs (xs.map ρ)) (e : stepK k vs h = some (v,h')) : Snd1 P base w0 m w (execOp ρ ⟨dst,.buildSlice t len parts,ty,pos,after,guard⟩) v h' := by
 have hm : ∀ (l : List (Nat × Operand)),(l.map fun p => (p.1,ρ p.2)).map (·.1) = l.map (·.1) ∧ (l.map fun p => (p.1,ρ p.2)).map (·.2) = (l.map (·.2)).map ρ := by
  intro l; simp [List.map_map,Function.comp_def]
 simp only [compOp] at hc
 split at hc
 case h_2 => cases hc
 case h_1 el hu =>
 split at hc
 case h_2 => cases hc
 case h_1 ie hi =>
 split at hc
 case h_2 => cases hc
 case h_1 zv hz =>
 split at hc
 case isFalse => cases hc
 case isTrue hf =>
 cases hc
 simp only [stepK] at e
 split at e
 case isFalse => cases e
 case isTrue hl =>
 simp only [Option.map_eq_some_iff] at e
 obtain ⟨c,hfill,he⟩ := e
 cases he
 obtain ⟨hf1,hf2⟩ := hf
 have hb := snd_bsl (len := len) (z := zrow zv (len * ie.size)) s hu hi hz hf1.1 hf1.2 rfl hf2 (ix := parts.toList.map (·.1)) (vs := vs) (parts := parts.map fun (i,x) => (i,ρ x)) (by rw [Array.toList_map]; exact (hm _).1) (by rw [Array.toList_map]; exact (hm _).2 ▸ hv) hfill
 exact snd_one hb
theorem op_load [Fl] {t : TypeId} {a : Operand} {ρ : Operand → Value} {ty : TypeId} {dst : Option Tmp} {pos : String} {after : Array Edge} {guard : Option (Nat × Bool)} {k : K} {xs : List Operand} {vs : List Value} {v : Value} {h' : Hp}
  (s : Sim base w0 m h w) (hc : compOp P (.load t a) = some (k,xs)) (hv : RVs m vs (xs.map ρ)) (e : stepK k vs h = some (v,h')) : Snd1 P base w0 m w (execOp ρ ⟨dst,.load t a,ty,pos,after,guard⟩) v h' := by
 simp only [compOp] at hc
 split at hc
 case h_2 => cases hc
 case h_1 d i hu hi =>
 simp only [Option.some.injEq,Prod.mk.injEq] at hc
 obtain ⟨hk,rfl⟩ := hc
 obtain ⟨x,rfl,r⟩ := RVs.r_one hv
 by_cases hd : isAggD d = true
 ·rw [if_pos hd] at hk
  subst hk
  cases x <;> simp only [stepK,reduceCtorEq] at e
  next ad =>
  cases ad with
  | none => simp at e
  | some ad =>
   obtain ⟨i1,o1,sp⟩ := ad
   cases sp with
   | some q => simp at e
   | none =>
    simp only [Option.map_eq_some_iff] at e
    obtain ⟨c,hrd,he⟩ := e
    cases he
    exact snd_one (snd_loadn s hu hd hi rfl r hrd)
 ·rw [if_neg hd] at hk
  subst hk
  cases x <;> simp only [stepK,reduceCtorEq] at e
  next ad =>
  cases ad with
  | none => simp at e
  | some ad =>
   obtain ⟨i1,o1,sp⟩ := ad
   cases sp with
   | some q => simp at e
   | none =>
    simp only at e
    split at e
    ·next v0 hrd =>
     cases e
     exact snd_one (snd_load1 s hu (by simpa using hd) r hrd)
    ·cases e
theorem op_store [Fl] {t : TypeId} {a x : Operand} {ρ : Operand → Value} {ty : TypeId} {dst : Option Tmp} {pos : String} {after : Array Edge} {guard : Option (Nat × Bool)} {k : K} {xs : List Operand} {vs : List Value} {v : Value} {h' : Hp}
  (s : Sim base w0 m h w) (hc : compOp P (.store t a x) = some (k,xs)) (hv : RVs m vs (xs.map ρ)) (e : stepK k vs h = some (v,h')) : Snd1 P base w0 m w (execOp ρ ⟨dst,.store t a x,ty,pos,after,guard⟩) v h' := by
 simp only [compOp] at hc
 split at hc
 case h_2 => cases hc
 case h_1 i hi =>
 cases hc
 obtain ⟨y,z,rfl,r1,r2⟩ := RVs.r_two hv
 cases y <;> simp only [stepK,reduceCtorEq] at e
 next ad =>
 cases ad with
 | none => simp at e
 | some ad =>
  obtain ⟨i1,o1,sp⟩ := ad
  cases sp with
  | some q => simp at e
  | none =>
   simp only at e
   split at e
   case isFalse => cases e
   case isTrue hs =>
   simp only [Option.map_eq_some_iff] at e
   obtain ⟨h2,hw,he⟩ := e
   cases he
   obtain ⟨w',hr,hsim⟩ := run_storeVar' (P := P) s hi rfl r1 r2 hs hw
   refine ⟨m,undef,w',.inr ⟨?_,rfl⟩,m.le_refl,.tuple rfl (by simp),hsim⟩
   simp [execOp,hr]
end
end
section
section
variable {P : Program} {base : Nat} {w0 w : World} {m : Mu} {h : Hp}
theorem op_nilCheck [Fl] {x : Operand} {ρ : Operand → Value} {ty : TypeId} {dst : Option Tmp} {pos : String} {after : Array Edge} {guard : Option (Nat × Bool)} {k : K} {xs : List Operand} {vs : List Value} {v : Value} {h' : Hp}
  (s : Sim base w0 m h w) (hc : compOp P (.nilCheck x) = some (k,xs)) (hv : RVs m vs (xs.map ρ)) (e : stepK k vs h = some (v,h')) : Snd1 P base w0 m w (execOp ρ ⟨dst,.nilCheck x,ty,pos,after,guard⟩) v h' := by
 cases hc
 obtain ⟨a,rfl,r⟩ := RVs.r_one hv
 have fin : ∀ a2,execOp ρ ⟨dst,.nilCheck x,ty,pos,after,guard⟩ = (pure (.value (ρ x)) : Sem Next) → RV m a2 (ρ x) → a2 = v → h = h' → Snd1 P base w0 m w (execOp ρ ⟨dst,.nilCheck x,ty,pos,after,guard⟩) v h' := by
  intro a2 hx ra hav hhh
  subst hav hhh
  exact ⟨m,ρ x,w,.inl (by rw [hx]; rfl),m.le_refl,ra,s⟩
 generalize hy : ρ x = y at r
 cases r with
 | ptr hl =>
  simp only [stepK,Option.some.injEq,Prod.mk.injEq] at e
  exact fin _ (by simp [execOp,hy]) (by rw [hy]; exact .ptr hl) e.1 e.2
 | iface rv =>
  simp only [stepK,Option.some.injEq,Prod.mk.injEq] at e
  exact fin _ (by simp [execOp,hy]) (by rw [hy]; exact .iface rv) e.1 e.2
 | @func f a a' b b' h1 h2 h3 h4 =>
  cases f <;> simp only [stepK,reduceCtorEq,Option.some.injEq,Prod.mk.injEq] at e
  exact fin _ (by simp [execOp,hy]) (by rw [hy]; exact .func h1 h2 h3 h4) e.1 e.2
 | _ => simp [stepK] at e
theorem op_unOp [Fl] {op : UnOp} {t : TypeId} {x : Operand} {ρ : Operand → Value} {ty : TypeId} {dst : Option Tmp} {pos : String} {after : Array Edge} {guard : Option (Nat × Bool)} {k : K} {xs : List Operand} {vs : List Value} {v : Value} {h' : Hp}
  (s : Sim base w0 m h w) (hc : compOp P (.unOp op t x) = some (k,xs)) (hv : RVs m vs (xs.map ρ)) (e : stepK k vs h = some (v,h')) : Snd1 P base w0 m w (execOp ρ ⟨dst,.unOp op t x,ty,pos,after,guard⟩) v h' := by
 simp only [compOp] at hc
 cases op <;> simp only [reduceCtorEq,Option.some.injEq,Prod.mk.injEq] at hc
 ·obtain ⟨rfl,rfl⟩ := hc
  obtain ⟨a,rfl,r⟩ := RVs.r_one hv
  cases a <;> simp only [stepK,reduceCtorEq,Option.some.injEq,Prod.mk.injEq] at e
  obtain ⟨rfl,rfl⟩ := e
  exact ⟨m,_,w,.inl (by simp only [execOp,r.scalar_int]; rfl),m.le_refl,.int _ _,s⟩
 ·obtain ⟨rfl,rfl⟩ := hc
  obtain ⟨a,rfl,r⟩ := RVs.r_one hv
  cases a <;> simp only [stepK,reduceCtorEq,Option.some.injEq,Prod.mk.injEq] at e
  obtain ⟨rfl,rfl⟩ := e
  exact ⟨m,_,w,.inl (by simp only [execOp,r.scalar_bool]; rfl),m.le_refl,.bool _,s⟩
theorem op_convert [Fl] {a b : TypeId} {x : Operand} {ρ : Operand → Value} {ty : TypeId} {dst : Option Tmp} {pos : String} {after : Array Edge} {guard : Option (Nat × Bool)} {k : K} {xs : List Operand} {vs : List Value} {v : Value} {h' : Hp}
  (s : Sim base w0 m h w) (hc : compOp P (.convert a b x) = some (k,xs)) (hv : RVs m vs (xs.map ρ)) (e : stepK k vs h = some (v,h')) : Snd1 P base w0 m w (execOp ρ ⟨dst,.convert a b x,ty,pos,after,guard⟩) v h' := by
 simp only [compOp] at hc
 split at hc
 case h_2 => cases hc
 case h_1 k1 k2 ha hb =>
 cases hc
 obtain ⟨y,rfl,r⟩ := RVs.r_one hv
 cases y <;> simp only [stepK,reduceCtorEq,Option.some.injEq,Prod.mk.injEq] at e
 obtain ⟨rfl,rfl⟩ := e
 refine snd_one (Snd.pure s (v' := _) ?_ (.int _ _))
 simp [r.scalar_int,convert,run_underlying ha,run_underlying hb,Conv.intToInt]
theorem op_makeInterface [Fl] {t : TypeId} {x : Operand} {ρ : Operand → Value} {ty : TypeId} {dst : Option Tmp} {pos : String} {after : Array Edge} {guard : Option (Nat × Bool)} {k : K} {xs : List Operand} {vs : List Value} {v : Value} {h' : Hp}
  (s : Sim base w0 m h w) (hc : compOp P (.makeInterface t x) = some (k,xs)) (hv : RVs m vs (xs.map ρ)) (e : stepK k vs h = some (v,h')) : Snd1 P base w0 m w (execOp ρ ⟨dst,.makeInterface t x,ty,pos,after,guard⟩) v h' := by
 simp only [compOp] at hc
 split at hc
 ·cases hc
 ·next d hn hu =>
  cases hc
  obtain ⟨y,rfl,r⟩ := RVs.r_one hv
  cases e
  refine snd_one (Snd.pure s (v' := .iface t (ρ x)) ?_ (.iface r))
  cases d <;> first | simp [Instr.makeInterface,run_underlying hu]; done | exact absurd rfl (hn _)
 ·cases hc
theorem op_typeAssert [Fl] {x : Operand} {xt t : TypeId} {ok : Bool} {ρ : Operand → Value} {ty : TypeId} {dst : Option Tmp} {pos : String} {after : Array Edge} {guard : Option (Nat × Bool)} {k : K} {xs : List Operand} {vs : List Value} {v : Value} {h' : Hp}
  (s : Sim base w0 m h w) (hc : compOp P (.typeAssert x xt t ok) = some (k,xs)) (hv : RVs m vs (xs.map ρ)) (e : stepK k vs h = some (v,h')) : Snd1 P base w0 m w (execOp ρ ⟨dst,.typeAssert x xt t ok,ty,pos,after,guard⟩) v h' := by
 simp only [compOp] at hc
 split at hc
 ·cases hc
 ·next d hn hu =>
  have hd : ∀ ms,d ≠ .interface ms := fun ms he => hn ms he
  split at hc
  ·next ho =>
   subst ho
   split at hc
   case h_2 => cases hc
   case h_1 i hi =>
   split at hc
   case h_2 => cases hc
   case h_1 z hz =>
   split at hc
   case isFalse => cases hc
   case isTrue hf =>
   cases hc
   obtain ⟨y,rfl,r⟩ := RVs.r_one hv
   exact snd_one (snd_tas s hu hd (fun _ => ⟨_,hi,hz,hf⟩) r e)
  ·next ho =>
   have ho : ok = false := by simpa using ho
   subst ho
   cases hc
   obtain ⟨y,rfl,r⟩ := RVs.r_one hv
   exact snd_one (snd_tas s hu hd (fun h => by cases h) r e)
 ·cases hc
theorem op_makeFunc [Fl] {fn : Fn} {first cap : Array Operand} {ρ : Operand → Value} {ty : TypeId} {dst : Option Tmp} {pos : String} {after : Array Edge} {guard : Option (Nat × Bool)} {k : K} {xs : List Operand} {vs : List Value} {v : Value} {h' : Hp}
  (s : Sim base w0 m h w) (hc : compOp P (.makeFunc fn first cap) = some (k,xs)) (hv : RVs m vs (xs.map ρ)) (e : stepK k vs h = some (v,h')) : Snd1 P base w0 m w (execOp ρ ⟨dst,.makeFunc fn first cap,ty,pos,after,guard⟩) v h' := by
 cases hc
 simp only [stepK,Option.some.injEq,Prod.mk.injEq] at e
 obtain ⟨rfl,rfl⟩ := e
 rw [List.map_append] at hv
 refine snd_one (Snd.pure s (v' := .func fn (first.map ρ) (cap.map ρ)) rfl ?_)
 have hsz : vs.length = first.size + cap.size := by have := hv.1; simpa using this
 have h1 := hv.take first.size
 have h2 := hv.drop first.size
 rw [List.take_left' (by simp)] at h1
 rw [List.drop_left' (by simp)] at h2
 have e1 : first.map ρ = ⟨first.toList.map ρ⟩ := by apply Array.ext'; simp
 have e2 : cap.map ρ = ⟨cap.toList.map ρ⟩ := by apply Array.ext'; simp
 rw [e1,e2]
 exact .func h1.1 h2.1 h1.2 h2.2
theorem op_makeSlice [Fl] {t : TypeId} {l c : Operand} {ρ : Operand → Value} {ty : TypeId} {dst : Option Tmp} {pos : String} {after : Array Edge} {guard : Option (Nat × Bool)} {k : K} {xs : List Operand} {vs : List Value} {v : Value} {h' : Hp}
  (s : Sim base w0 m h w) (hc : compOp P (.makeSlice t l c) = some (k,xs)) (hv : RVs m vs (xs.map ρ)) (e : stepK k vs h = some (v,h')) : Snd1 P base w0 m w (execOp ρ ⟨dst,.makeSlice t l c,ty,pos,after,guard⟩) v h' := by
 simp only [compOp] at hc
 split at hc
 case h_2 => cases hc
 case h_1 el hu =>
 split at hc
 case h_2 => cases hc
 case h_1 ti hi =>
 split at hc
 case h_2 => cases hc
 case h_1 z hz =>
 split at hc
 case isFalse => cases hc
 case isTrue hf =>
 cases hc
 obtain ⟨y,y2,rfl,r1,r2⟩ := RVs.r_two hv
 cases y <;> cases y2 <;> simp only [stepK,reduceCtorEq] at e
 split at e
 case isFalse => cases e
 case isTrue hb =>
 cases e
 exact snd_one (snd_mks s hu hi rfl hz hf.1 hf.2.1 hf.2.2 r1 r2 hb.1 hb.2.1 hb.2.2.1 hb.2.2.2)
theorem op_slice [Fl] {t : TypeId} {x : Operand} {lo hi mx : Option Operand} {ρ : Operand → Value} {ty : TypeId} {dst : Option Tmp} {pos : String} {after : Array Edge} {guard : Option (Nat × Bool)} {k : K} {xs : List Operand} {vs : List Value} {v : Value} {h' : Hp}
  (s : Sim base w0 m h w) (hc : compOp P (.slice t x lo hi mx) = some (k,xs)) (hv : RVs m vs (xs.map ρ)) (e : stepK k vs h = some (v,h')) : Snd1 P base w0 m w (execOp ρ ⟨dst,.slice t x lo hi mx,ty,pos,after,guard⟩) v h' := by
 simp only [compOp] at hc
 split at hc
 ·next el hu =>
  split at hc
  case h_2 => cases hc
  case h_1 ti hi2 =>
  cases hc
  rw [List.map_cons] at hv
  obtain ⟨y,us,rfl,r,hs⟩ := hv.r_cons
  cases y <;> simp only [stepK,reduceCtorEq] at e
  split at e
  ·next l u q hg =>
   obtain ⟨rfl,rfl,rfl⟩ := get3_rel hs hg
   simp only [Option.map_eq_some_iff] at e
   obtain ⟨v2,hsl,he⟩ := e
   cases he
   exact snd_one (snd_slc s hu hi2 rfl r hsl)
  ·cases e
 ·next n el hu =>
  split at hc
  case h_2 => cases hc
  case h_1 ti hi2 =>
  cases hc
  rw [List.map_cons] at hv
  obtain ⟨y,us,rfl,r,hs⟩ := hv.r_cons
  cases y <;> simp only [stepK,reduceCtorEq] at e
  next ad =>
  cases ad with
  | none => simp at e
  | some ad =>
   obtain ⟨i1,o1,sp⟩ := ad
   cases sp with
   | some q => simp at e
   | none =>
    simp only at e
    split at e
    ·next l u q hg =>
     obtain ⟨rfl,rfl,rfl⟩ := get3_rel hs hg
     simp only [Option.map_eq_some_iff] at e
     obtain ⟨v2,hsl,he⟩ := e
     cases he
     exact snd_one (snd_sla s hu hi2 rfl r hsl)
    ·cases e
 ·next hu =>
  split at hc
  case isFalse => cases hc
  case isTrue hm =>
  cases hc
  obtain rfl : mx = none := by simpa using hm
  rw [List.map_cons] at hv
  obtain ⟨y,us,rfl,r,hs⟩ := hv.r_cons
  cases y <;> simp only [stepK,reduceCtorEq] at e
  split at e
  ·next l u q hg =>
   obtain ⟨rfl,rfl,_⟩ := get3_rel (mx := none) hs hg
   simp only [Option.map_eq_some_iff] at e
   obtain ⟨v2,hsl,he⟩ := e
   cases he
   exact snd_one (snd_sls s hu r hsl)
  ·cases e
 ·cases hc
theorem op_fieldAddr [Fl] {t : TypeId} {x : Operand} {f : Nat} {ρ : Operand → Value} {ty : TypeId} {dst : Option Tmp} {pos : String} {after : Array Edge} {guard : Option (Nat × Bool)} {k : K} {xs : List Operand} {vs : List Value} {v : Value} {h' : Hp}
  (s : Sim base w0 m h w) (hc : compOp P (.fieldAddr t x f) = some (k,xs)) (hv : RVs m vs (xs.map ρ)) (e : stepK k vs h = some (v,h')) : Snd1 P base w0 m w (execOp ρ ⟨dst,.fieldAddr t x f,ty,pos,after,guard⟩) v h' := by
 simp only [compOp] at hc
 split at hc
 case h_2 => cases hc
 case h_1 fs hu =>
 split at hc
 case h_2 => cases hc
 case h_1 fd hf =>
 split at hc
 case h_2 => cases hc
 case h_1 i hi =>
 split at hc
 case isFalse => cases hc
 case isTrue h0 =>
 cases hc
 obtain ⟨y,rfl,r⟩ := RVs.r_one hv
 cases y <;> simp only [stepK,reduceCtorEq] at e
 next ad =>
 cases ad with
 | none => simp at e
 | some ad =>
  obtain ⟨i1,o1,sp⟩ := ad
  cases sp with
  | some q => simp at e
  | none =>
   simp only [Option.some.injEq,Prod.mk.injEq] at e
   obtain ⟨rfl,rfl⟩ := e
   exact snd_one (snd_fad s hu hf hi rfl h0 r)
theorem op_field [Fl] {t : TypeId} {x : Operand} {f : Nat} {ρ : Operand → Value} {ty : TypeId} {dst : Option Tmp} {pos : String} {after : Array Edge} {guard : Option (Nat × Bool)} {k : K} {xs : List Operand} {vs : List Value} {v : Value} {h' : Hp}
  (s : Sim base w0 m h w) (hc : compOp P (.field t x f) = some (k,xs)) (hv : RVs m vs (xs.map ρ)) (e : stepK k vs h = some (v,h')) : Snd1 P base w0 m w (execOp ρ ⟨dst,.field t x f,ty,pos,after,guard⟩) v h' := by
 simp only [compOp] at hc
 split at hc
 case h_2 => cases hc
 case h_1 fs hu =>
 split at hc
 case h_2 => cases hc
 case h_1 fd hf =>
 split at hc
 case h_2 => cases hc
 case h_1 d i hud hi =>
 cases hc
 obtain ⟨y,rfl,r⟩ := RVs.r_one hv
 cases y <;> simp only [stepK,reduceCtorEq] at e
 next cs =>
 have e2 : (if isAggD d then some (.agg (cs.extract fd.offset (fd.offset + i.size))) else cs[fd.offset]?) = some v ∧ h = h' := by
  split at e
  ·next hd => rw [if_pos hd]; cases e; exact ⟨rfl,rfl⟩
  ·next hd =>
   rw [if_neg hd]
   simp only [Option.map_eq_some_iff] at e
   obtain ⟨v2,hv2,he⟩ := e
   cases he
   exact ⟨hv2,rfl⟩
 obtain ⟨e3,rfl⟩ := e2
 exact snd_one (snd_fld s hu hf hud rfl hi rfl r e3)
theorem op_indexAddr [Fl] {t : TypeId} {x i : Operand} {ρ : Operand → Value} {ty : TypeId} {dst : Option Tmp} {pos : String} {after : Array Edge} {guard : Option (Nat × Bool)} {k : K} {xs : List Operand} {vs : List Value} {v : Value} {h' : Hp}
  (s : Sim base w0 m h w) (hc : compOp P (.indexAddr t x i) = some (k,xs)) (hv : RVs m vs (xs.map ρ)) (e : stepK k vs h = some (v,h')) : Snd1 P base w0 m w (execOp ρ ⟨dst,.indexAddr t x i,ty,pos,after,guard⟩) v h' := by
 simp only [compOp] at hc
 split at hc
 ·next el hu =>
  split at hc
  case h_2 => cases hc
  case h_1 ti hi =>
  cases hc
  obtain ⟨y,z,rfl,r1,r2⟩ := RVs.r_two hv
  cases y <;> cases z <;> simp only [stepK,reduceCtorEq] at e
  next ad len cap k1 n1 =>
  cases ad with
  | none => simp at e
  | some ad =>
   obtain ⟨i1,o1,sp⟩ := ad
   simp only at e
   split at e
   case isFalse => cases e
   case isTrue hb =>
   cases e
   exact snd_one (snd_iad s hu hi rfl r1 r2 hb)
 ·next n el hu =>
  split at hc
  case h_2 => cases hc
  case h_1 ti hi =>
  cases hc
  obtain ⟨y,z,rfl,r1,r2⟩ := RVs.r_two hv
  cases y <;> cases z <;> simp only [stepK,reduceCtorEq] at e
  next ad k1 n1 =>
  cases ad with
  | none => simp at e
  | some ad =>
   obtain ⟨i1,o1,sp⟩ := ad
   cases sp with
   | some q => simp at e
   | none =>
    simp only at e
    split at e
    case isFalse => cases e
    case isTrue hb =>
    cases e
    exact snd_one (snd_iaa s hu hi rfl r1 r2 hb)
 ·cases hc
theorem op_index [Fl] {t : TypeId} {x i : Operand} {ρ : Operand → Value} {ty : TypeId} {dst : Option Tmp} {pos : String} {after : Array Edge} {guard : Option (Nat × Bool)} {k : K} {xs : List Operand} {vs : List Value} {v : Value} {h' : Hp}
  (s : Sim base w0 m h w) (hc : compOp P (.index t x i) = some (k,xs)) (hv : RVs m vs (xs.map ρ)) (e : stepK k vs h = some (v,h')) : Snd1 P base w0 m w (execOp ρ ⟨dst,.index t x i,ty,pos,after,guard⟩) v h' := by
 simp only [compOp] at hc
 split at hc
 ·next n el hu =>
  split at hc
  case h_2 => cases hc
  case h_1 d ti hud hi =>
  cases hc
  obtain ⟨y,z,rfl,r1,r2⟩ := RVs.r_two hv
  cases y <;> cases z <;> simp only [stepK,reduceCtorEq] at e
  next cs k1 n1 =>
  split at e
  case isFalse => cases e
  case isTrue hb =>
  have e2 : (if isAggD d then some (.agg (cs.extract (n1.toNat * ti.size) (n1.toNat * ti.size + ti.size))) else cs[n1.toNat * ti.size]?) = some v ∧ h = h' := by
   split at e
   ·next hd => rw [if_pos hd]; cases e; exact ⟨rfl,rfl⟩
   ·next hd =>
    rw [if_neg hd]
    simp only [Option.map_eq_some_iff] at e
    obtain ⟨v2,hv2,he⟩ := e
    cases he
    exact ⟨hv2,rfl⟩
  obtain ⟨e3,rfl⟩ := e2
  exact snd_one (snd_ixa s hu hud rfl hi rfl rfl r1 r2 hb e3)
 ·next hu =>
  cases hc
  obtain ⟨y,z,rfl,r1,r2⟩ := RVs.r_two hv
  cases y <;> cases z <;> simp only [stepK,reduceCtorEq] at e
  split at e
  case isFalse => cases e
  case isTrue hb =>
  simp only [Option.map_eq_some_iff] at e
  obtain ⟨b,hb2,he⟩ := e
  cases he
  exact snd_one (snd_ixs s hu r1 r2 hb hb2)
 ·cases hc
theorem op_extract [Fl] {x : Operand} {i : Nat} {ρ : Operand → Value} {ty : TypeId} {dst : Option Tmp} {pos : String} {after : Array Edge} {guard : Option (Nat × Bool)} {k : K} {xs : List Operand} {vs : List Value} {v : Value} {h' : Hp}
  (s : Sim base w0 m h w) (hc : compOp P (.extract x i) = some (k,xs)) (hv : RVs m vs (xs.map ρ)) (e : stepK k vs h = some (v,h')) : Snd1 P base w0 m w (execOp ρ ⟨dst,.extract x i,ty,pos,after,guard⟩) v h' := by
 cases hc
 obtain ⟨y,rfl,r⟩ := RVs.r_one hv
 cases y <;> simp only [stepK,reduceCtorEq,Option.map_eq_some_iff] at e
 next cs =>
 obtain ⟨v2,hv2,he⟩ := e
 cases he
 obtain ⟨cs',hy,hr⟩ := RV.ofTuple r
 obtain ⟨v',hv',rv⟩ := hr.aget hv2
 exact snd_one (Snd.pure s (v' := v') (by simp [hy,Instr.extract,hv']) rv)
theorem op_binOp [Fl] {op : BinOp} {t u : TypeId} {x y : Operand} {ρ : Operand → Value} {ty : TypeId} {dst : Option Tmp} {pos : String} {after : Array Edge} {guard : Option (Nat × Bool)} {k : K} {xs : List Operand} {vs : List Value} {v : Value} {h' : Hp}
  (hρ : ∀ c,y = .const c → ρ y = c) (s : Sim base w0 m h w) (hc : compOp P (.binOp op t x y u) = some (k,xs)) (hv : RVs m vs (xs.map ρ)) (e : stepK k vs h = some (v,h')) : Snd1 P base w0 m w (execOp ρ ⟨dst,.binOp op t x y u,ty,pos,after,guard⟩) v h' := by
 have plain : ∀ (a b : Value),vs = [a,b] → (∀ c,a = .bool c → P.underlying t = some .bool) → binA op a b = some v → h' = h → RVs m vs ([x,y].map ρ) → Snd1 P base w0 m w (execOp ρ ⟨dst,.binOp op t x y u,ty,pos,after,guard⟩) v h' := by
  intro a b hvs hb he hh hr
  subst hh
  subst hvs
  obtain ⟨a2,b2,h2,r1,r2⟩ := RVs.r_two hr
  cases h2
  obtain ⟨e1,e2,rv⟩ := binA_flat he r1 r2
  obtain ⟨g1,g2⟩ := binA_kinds he
  refine snd_one (Snd.pure s (v' := v) ?_ rv)
  have hg := eqGuard_pure (P := P) (w := w) (op := op) (t := t) (x := x) (y := y) (a := ρ x) (b := ρ y) (fun hn _ => absurd (e1.symm.trans hn) g1) (fun aas bs ha _ => g2 aas (e1.symm.trans ha))
  simp only [Sem.run_bind,hg,Result.andThen_ok]
  rw [e1,e2]
  exact bin_sound he hb
 have nils : ∀ (neg : Bool) (d : TypeDesc),(op = if neg then .neq else .eql) → P.underlying t = some d → isNil d y = true → stepK (.isn neg) vs h = some (v,h') → RVs m vs ([x,y].map ρ) → (∀ c,y = .const c → ρ y = c) →
   Snd1 P base w0 m w (execOp ρ ⟨dst,.binOp op t x y u,ty,pos,after,guard⟩) v h' := by
  intro neg d hop hu hd he hr hρ
  obtain ⟨a,b,rfl,r1,r2⟩ := RVs.r_two hr
  simp only [stepK,Option.map_eq_some_iff] at he
  obtain ⟨q,hq,he⟩ := he
  cases he
  cases y with
  | const c =>
   have hyc := hρ c rfl
   rw [hyc] at r2
   obtain ⟨hbc,hna,hbin⟩ := nil_back hd r2
   subst hbc
   obtain ⟨hrun,_⟩ := isn_sound (P := P) (w := w) hu hd hq r1 r2
   have hg := eqGuard_pure (P := P) (w := w) (op := op) (t := t) (x := x) (y := .const b) (a := ρ x) (b := b) (fun _ _ => .inr ⟨_,rfl⟩) (fun aas bs _ hb => hna bs hb)
   obtain ⟨g1,g2⟩ := hbin (ρ x) t
   refine snd_one (Snd.pure s (v' := .bool (if neg then !q else q)) ?_ (.bool _))
   simp only [Sem.run_bind,hyc,hg,Result.andThen_ok]
   cases neg with
   | false => simp only [Bool.false_eq_true,if_false] at hop ⊢; subst hop; rw [g1]; simp [hrun]
   | true => simp only [if_true] at hop ⊢; subst hop; rw [g2]; simp [hrun]
  | _ => simp [isNil] at hd
 simp only [compOp] at hc
 split at hc
 ·next hu =>
  cases hc
  obtain ⟨a,b,rfl,r1,r2⟩ := RVs.r_two hv
  simp only [stepK] at e
  split at e
  ·cases e
  ·next hn =>
   simp only [Option.map_eq_some_iff] at e
   obtain ⟨q,hq,he⟩ := e
   cases he
   exact plain a b rfl (fun c hc => (hn c hc).elim) hq rfl hv
 ·next hu =>
  cases hc
  obtain ⟨a,b,rfl,r1,r2⟩ := RVs.r_two hv
  simp only [stepK] at e
  split at e
  ·cases e
  ·next hn =>
   simp only [Option.map_eq_some_iff] at e
   obtain ⟨q,hq,he⟩ := e
   cases he
   exact plain a b rfl (fun c hc => (hn c hc).elim) hq rfl hv
 ·next hu =>
  cases hc
  obtain ⟨a,b,rfl,r1,r2⟩ := RVs.r_two hv
  cases a <;> simp only [stepK,reduceCtorEq,Option.map_eq_some_iff] at e
  obtain ⟨q,hq,he⟩ := e
  cases he
  exact plain _ b rfl (fun c hc => hu) hq rfl hv
 ·next d _ _ _ hu =>
  cases op <;> simp only [reduceCtorEq] at hc
  ·split at hc
   case isFalse => cases hc
   case isTrue hd =>
   cases hc
   exact nils false d rfl hu hd e hv hρ
  ·split at hc
   case isFalse => cases hc
   case isTrue hd =>
   cases hc
   exact nils true d rfl hu hd e hv hρ
 ·cases hc
end
end
section
def entE (es : List MapEntry) : List Value := es.flatMap fun e => [e.key,e.val]
theorem entL_eq [Fl] (es : Array MapEntry) : entL es = entE es.toList := rfl
theorem find_none [Fl] {k : ByteArray} : ∀ {es : List MapEntry} {i : Nat},mfind k (entE es) = some none → Instr.findNow .string (.string k) es i = some none
 | [],_,_ => rfl
 | e :: es,i,h => by
  obtain ⟨key,val,born⟩ := e
  cases key <;> simp only [entE,List.flatMap_cons,List.cons_append,List.nil_append,mfind,reduceCtorEq] at h
  next s =>
  split at h
  ·cases h
  ·next hc =>
   have hc : (k == s) = false := by simpa using hc
   simp only [Instr.findNow,Instr.sameNow,hc]
   exact find_none (es := es) h
theorem find_some [Fl] {k : ByteArray} {v : Value} : ∀ {es : List MapEntry} {i : Nat},mfind k (entE es) = some (some v) → ∃ j,Instr.findNow .string (.string k) es i = some (some (j,v))
 | [],_,h => by simp [entE,mfind] at h
 | e :: es,i,h => by
  obtain ⟨key,val,born⟩ := e
  cases key <;> simp only [entE,List.flatMap_cons,List.cons_append,List.nil_append,mfind,reduceCtorEq] at h
  next s =>
  split at h
  ·next hc =>
   simp only [Option.some.injEq] at h
   subst h
   exact ⟨i,by simp [Instr.findNow,Instr.sameNow,hc]⟩
  ·next hc =>
   have hc : (k == s) = false := by simpa using hc
   simp only [Instr.findNow,Instr.sameNow,hc]
   exact find_some (es := es) h
theorem put_of [Fl] {k : ByteArray} {x : Value} : ∀ {es : List MapEntry} {i : Nat} {c : List Value},mput k x (entE es) = some c →
  (Instr.findNow .string (.string k) es i = some none ∧ c = entE es ++ [.string k,x]) ∨
  ∃ j e s,es[j]? = some e ∧ e.key = .string s ∧ (k == s) = true ∧ Instr.findNow .string (.string k) es i = some (some (i + j,e.val)) ∧ c = entE (es.set j { e with key := .string k,val := x })
 | [],i,c,h => by
  simp only [entE,List.flatMap_nil,mput,Option.some.injEq] at h
  subst h
  exact .inl ⟨rfl,rfl⟩
 | e :: es,i,c,h => by
  obtain ⟨key,val,born⟩ := e
  cases key <;> simp only [entE,List.flatMap_cons,List.cons_append,List.nil_append,mput,reduceCtorEq] at h
  next s =>
  split at h
  ·next hc =>
   simp only [Option.some.injEq] at h
   subst h
   exact .inr ⟨0,_,s,rfl,rfl,hc,by simp [Instr.findNow,Instr.sameNow,hc],by simp [entE]⟩
  ·next hc =>
   have hc : (k == s) = false := by simpa using hc
   simp only [Option.map_eq_some_iff] at h
   obtain ⟨c',h',rfl⟩ := h
   rcases put_of (es := es) (i := i + 1) h' with ⟨h1,h2⟩ | ⟨j,e,s',h1,h2,h3,h4,h5⟩
   ·refine .inl ⟨by simp only [Instr.findNow,Instr.sameNow,hc]; exact h1,?_⟩
    rw [h2]
    simp [entE]
   ·refine .inr ⟨j + 1,e,s',by simpa using h1,h2,h3,?_,?_⟩
    ·simp only [Instr.findNow,Instr.sameNow,hc,h4]
     rw [show i + 1 + j = i + (j + 1) by omega]
    ·rw [h5]
     simp [entE]
section
variable {P : Program} {base : Nat} {w0 w : World} {m : Mu} {h : Hp}
theorem Sim.newMap [Fl] (s : Sim base w0 m h w) : m.le ⟨m.f,fun j => if j = h.nx then some w.heap.size else m.mp j⟩ ∧ Sim base w0 ⟨m.f,fun j => if j = h.nx then some w.heap.size else m.mp j⟩ (h.new ⟨[],false,0⟩) { w with heap := w.heap.push (.map #[] 0) } := by
 have hle : m.le ⟨m.f,fun j => if j = h.nx then some w.heap.size else m.mp j⟩ := ⟨fun _ _ e => e,fun i b e => by
  show (if i = h.nx then some w.heap.size else m.mp i) = some b
  rw [if_neg (by have := s.ms.nx e; omega)]; exact e⟩
 refine ⟨hle,s.below.trans ⟨rfl,rfl,rfl,by simp,fun k hk => heap_push_old (Nat.lt_of_lt_of_le hk s.big)⟩ (fun _ => Nat.le_refl _),by simp; have := s.big; omega,fun i hi => s.fresh i (by simp only [Hp.new] at hi; omega),fun i l e => by have := s.lt i l e; simp; omega,?_,?_,?_⟩
 ·refine ⟨fun i hi => ?_,fun i l e => ?_,fun i b e => ?_,fun i j b e e' => ?_⟩
  ·simp only [Hp.new] at hi
   show (if i = h.nx then some w.heap.size else m.mp i) = none
   rw [if_neg (by omega)]
   exact s.ms.fr i (by omega)
  ·show (if i = h.nx then some w.heap.size else m.mp i) = none
   have hf : m.f i = some l := e
   rw [if_neg (fun hi => by rw [hi,s.fresh _ (Nat.le_refl _)] at hf; cases hf)]
   exact s.ms.ex i l e
  ·have e : (if i = h.nx then some w.heap.size else m.mp i) = some b := e
   split at e
   ·next hi =>
    cases e
    subst hi
    exact ⟨⟨[],false,0⟩,#[],0,by simp [Hp.new],heap_push_new,rfl,s.big⟩
   ·next hi =>
    obtain ⟨ob,es,ck,h1,h2,h3,h4⟩ := s.ms.lv i b e
    refine ⟨ob,es,ck,by simp only [Hp.new]; rw [if_neg hi]; exact h1,?_,h3,h4⟩
    exact (heap_push_old (Array.getElem?_eq_some_iff.1 h2).1).trans h2
  ·have e : (if i = h.nx then some w.heap.size else m.mp i) = some b := e
   have e' : (if j = h.nx then some w.heap.size else m.mp j) = some b := e'
   have key : ∀ i b,m.mp i = some b → b < w.heap.size := fun i b e => by
    obtain ⟨_,_,_,_,h2,_⟩ := s.ms.lv i b e
    exact (Array.getElem?_eq_some_iff.1 h2).1
   split at e <;> split at e'
   ·next h1 h2 => exact h1.trans h2.symm
   ·cases e; have := key _ _ e'; omega
   ·cases e'; have := key _ _ e; omega
   ·exact s.ms.ap i j b e e'
 ·intro i ob e hno
  have hno : (if i = h.nx then some w.heap.size else m.mp i) = none := hno
  split at hno
  ·cases hno
  ·next hi =>
   simp only [Hp.new] at e
   rw [if_neg hi] at e
   obtain ⟨l,hl,h1,h2⟩ := s.obs i ob e hno
   have hlt := s.lt i l hl
   refine ⟨l,hl,fun j v ej => ?_,fun r => ⟨(h2 r).1,?_⟩⟩
   ·obtain ⟨v',hv,rv⟩ := h1 j v ej
    refine ⟨v',?_,rv.mono hle⟩
    unfold World.cell? at hv ⊢
    rw [show ((w.heap.push _)[l.blk]? : Option Obj) = _ from heap_push_old hlt]; exact hv
   ·obtain ⟨c,el,g,h3,h4⟩ := (h2 r).2
    exact ⟨c,el,g,by rw [show ((w.heap.push _)[l.blk]? : Option Obj) = _ from heap_push_old hlt]; exact h3,h4⟩
 ·intro i j a b l l' ei ej hij ra el el'
  have el : m.f i = some l := el
  have el' : m.f j = some l' := el'
  simp only [Hp.new] at ei ej
  rw [if_neg (fun hi => by rw [hi,s.fresh _ (Nat.le_refl _)] at el; cases el)] at ei
  rw [if_neg (fun hi => by rw [hi,s.fresh _ (Nat.le_refl _)] at el'; cases el')] at ej
  exact s.apart i j a b l l' ei ej hij ra el el'
theorem Sim.setMap [Fl] (s : Sim base w0 m h w) {i b : Nat} {ob : Ob} {es' : Array MapEntry} {ck' : Nat} {c : List Value} (hi : h.get i = some ob) (hb : m.mp i = some b) (he : entL es' = c) : Sim base w0 m (h.put i ⟨c,ob.rw,ob.esz⟩) { w with heap := w.heap.setIfInBounds b (.map es' ck') } := by
 obtain ⟨ob',es,ck,h1,h2,h3,h4⟩ := s.ms.lv i b hb
 rw [hi] at h1; cases h1
 have hlt : b < w.heap.size := (Array.getElem?_eq_some_iff.1 h2).1
 have same : ∀ k,k ≠ b → (w.heap.setIfInBounds b (.map es' ck'))[k]? = w.heap[k]? := fun k hk => by rw [Array.getElem?_setIfInBounds,if_neg (fun e => hk e.symm)]
 refine ⟨s.below.trans ⟨rfl,rfl,rfl,by simp,fun k hk => same k (by omega)⟩ (fun _ => Nat.le_refl _),by simp; exact s.big,s.fresh,fun k q hq => by simp; exact s.lt k q hq,?_,?_,?_⟩
 ·refine ⟨s.ms.fr,s.ms.ex,fun k b2 e => ?_,s.ms.ap⟩
  by_cases hk : k = i
  ·subst hk
   rw [hb] at e; cases e
   exact ⟨⟨c,ob.rw,ob.esz⟩,es',ck',by simp [Hp.put],by simp [hlt],he,h4⟩
  ·obtain ⟨ob2,es2,ck2,g1,g2,g3,g4⟩ := s.ms.lv k b2 e
   have hne : b2 ≠ b := fun eb => hk (s.ms.ap k i b (by rw [← eb]; exact e) hb)
   exact ⟨ob2,es2,ck2,by simp only [Hp.put]; rw [if_neg hk]; exact g1,(same b2 hne).trans g2,g3,g4⟩
 ·intro k o ek hno
  have hk : k ≠ i := fun e => by rw [e,hb] at hno; cases hno
  simp only [Hp.put] at ek
  rw [if_neg hk] at ek
  obtain ⟨q,hq,g1,g2⟩ := s.obs k o ek hno
  refine ⟨q,hq,fun n x ex => ?_,fun r => ⟨(g2 r).1,?_⟩⟩
  ·obtain ⟨x',hx,rx⟩ := g1 n x ex
   refine ⟨x',?_,rx⟩
   have hne : q.blk ≠ b := fun eb => by unfold World.cell? at hx; simp only [eb,h2] at hx; cases hx
   unfold World.cell? at hx ⊢
   rw [show ((w.heap.setIfInBounds b _)[q.blk]? : Option Obj) = _ from same q.blk hne]; exact hx
  ·obtain ⟨c',e',f',g3,g5⟩ := (g2 r).2
   have hne : q.blk ≠ b := fun eb => by rw [eb,h2] at g3; cases g3
   exact ⟨c',e',f',(same q.blk hne).trans g3,g5⟩
 ·intro k n a d p q ek en hkn ra ep eq
  simp only [Hp.put] at ek en
  rw [if_neg (fun e => by have := s.ms.ex _ _ ep; rw [e,hb] at this; cases this)] at ek
  rw [if_neg (fun e => by have := s.ms.ex _ _ eq; rw [e,hb] at this; cases this)] at en
  exact s.apart k n a d p q ek en hkn ra ep eq
theorem op_makeMap [Fl] {t : TypeId} {r : Option Operand} {ρ : Operand → Value} {ty : TypeId} {dst : Option Tmp} {pos : String} {after : Array Edge} {guard : Option (Nat × Bool)} {k : K} {xs : List Operand} {vs : List Value} {v : Value} {h' : Hp}
  (s : Sim base w0 m h w) (hc : compOp P (.makeMap t r) = some (k,xs)) (hv : RVs m vs (xs.map ρ)) (e : stepK k vs h = some (v,h')) : Snd1 P base w0 m w (execOp ρ ⟨dst,.makeMap t r,ty,pos,after,guard⟩) v h' := by
 cases r with
 | some r => simp [compOp] at hc
 | none =>
 cases hc
 obtain rfl := RVs.r_nil hv
 cases e
 obtain ⟨h1,h2⟩ := s.newMap
 exact ⟨_,.map (some w.heap.size),_,.inl rfl,h1,.mapv (by simp),h2⟩
theorem run_getMap [Fl] {b : Nat} {es : Array MapEntry} {ck : Nat} (hb : w.heap[b]? = some (Obj.map es ck)) : (getObj b).run P w = .ok (.map es ck) w := by
 simp [getObj,Sem.run,hb]
theorem run_setMap [Fl] {b : Nat} {es : Array MapEntry} {ck : Nat} {o : Obj} (hb : w.heap[b]? = some (Obj.map es ck)) : (setObj b o).run P w = .ok () { w with heap := w.heap.setIfInBounds b o } := by
 simp [setObj,Sem.run,hb]
theorem run_findS [Fl] {key : TypeId} {k : ByteArray} {es : List MapEntry} {r : Option (Nat × Value)} (hk : P.underlying key = some .string) (h : Instr.findNow .string (.string k) es 0 = some r) : (Instr.findKey key (.string k) es).run P w = .ok r w := by
 simp [Instr.findKey,run_underlying hk,h]
theorem run_checkN [Fl] (n : Nat) {key : TypeId} {k : ByteArray} {b : Bool} (hk : P.underlying key = some .string) : (Instr.checkKey b (n + 1) key (.string k)).run P w = .ok () w := by
 simp only [Instr.checkKey,Sem.run_bind,run_underlying hk,Result.andThen_ok]
 rfl
theorem run_checkS [Fl] {key : TypeId} {k : ByteArray} {b : Bool} (hk : P.underlying key = some .string) : (Instr.checkKey b 10000 key (.string k)).run P w = .ok () w := run_checkN 9999 hk
theorem op_lookup [Fl] {t : TypeId} {x i : Operand} {ok : Bool} {ρ : Operand → Value} {ty : TypeId} {dst : Option Tmp} {pos : String} {after : Array Edge} {guard : Option (Nat × Bool)} {k : K} {xs : List Operand} {vs : List Value} {v : Value} {h' : Hp}
  (s : Sim base w0 m h w) (hc : compOp P (.lookup t x i ok) = some (k,xs)) (hv : RVs m vs (xs.map ρ)) (e : stepK k vs h = some (v,h')) : Snd1 P base w0 m w (execOp ρ ⟨dst,.lookup t x i ok,ty,pos,after,guard⟩) v h' := by
 simp only [compOp] at hc
 split at hc
 case h_2 => cases hc
 case h_1 key el hu =>
 split at hc
 case h_2 => cases hc
 case h_1 ei hk hi =>
 split at hc
 case h_2 => cases hc
 case h_1 z hz =>
 split at hc
 case isFalse => cases hc
 case isTrue hf =>
 cases hc
 obtain ⟨y1,y2,rfl,r1,r2⟩ := RVs.r_two hv
 cases y1 <;> simp only [stepK,reduceCtorEq] at e
 next mi =>
 cases mi with
 | none => simp at e
 | some mi =>
 cases y2 <;> simp only [reduceCtorEq] at e
 next kk =>
 have r2 := r2.scalar_string
 generalize hx : ρ x = xx at r1
 cases r1 with
 | @mapv _ b hb =>
 obtain ⟨ob,es,ck,g1,g2,g3,g4⟩ := s.ms.lv mi b hb
 rw [g1] at e
 simp only [← g3,entL_eq] at e
 have hrun : ∀ {r : Option (Nat × Value)} {q : Value × Bool},Instr.findNow .string (.string kk) es.toList 0 = some r → (match r with | some (_,v) => (v,true) | none => (z,false)) = q →
   (Instr.lookup t (.map (some b)) (.string kk) ok).run P w = .ok (if ok then .tuple #[q.1,.bool q.2] else q.1) w := by
  intro r q h1 h2
  cases r with
  | none =>
   subst h2
   simp [Instr.lookup,run_underlying hu,run_getMap g2,run_checkS hk,run_findS hk h1,zeroValue,typeInfo,hi,hz]
  | some r =>
   subst h2
   simp [Instr.lookup,run_underlying hu,run_getMap g2,run_checkS hk,run_findS hk h1]
 have fin : ∀ {q : Value × Bool},flat q.1 = true → (Instr.lookup t (.map (some b)) (.string kk) ok).run P w = .ok (if ok then .tuple #[q.1,.bool q.2] else q.1) w → (if ok then .tuple #[q.1,.bool q.2] else q.1) = v → h = h' → Snd1 P base w0 m w (execOp ρ ⟨dst,.lookup t x i ok,ty,pos,after,guard⟩) v h' := by
  intro q hq hr hv2 hh
  subst hh
  refine ⟨m,v,w,.inl ?_,m.le_refl,?_,s⟩
  ·simp only [execOp,hx,r2,Sem.run_bind]
   rw [hr,hv2]
   rfl
  ·rw [← hv2]
   cases ok
   ·exact RV.of_flat m _ hq
   ·exact .tuple rfl fun j v v' e1 e2 => by
     have h3 : v = v' := Option.some.inj (e1.symm.trans e2)
     subst h3
     match j,e1 with
     | 0,e1 => cases e1; exact RV.of_flat m _ hq
     | 1,e1 => cases e1; exact .bool _
 split at e
 ·next v1 hm =>
  split at e
  case isFalse => cases e
  case isTrue hfl =>
  obtain ⟨j,hj⟩ := find_some (i := 0) hm
  simp only [Option.some.injEq,Prod.mk.injEq] at e
  exact fin (q := (v1,true)) hfl (hrun hj rfl) e.1 e.2
 ·next hm =>
  simp only [Option.some.injEq,Prod.mk.injEq] at e
  exact fin (q := (z,false)) hf (hrun (find_none (i := 0) hm) rfl) e.1 e.2
 ·cases e
theorem beq_sym [Fl] {a b : ByteArray} (h : (a == b) = true) : (b == a) = true := by
 rw [beq_toListBytes,beq_iff_eq] at *
 exact h.symm
theorem op_mapUpdate [Fl] {t : TypeId} {x y z : Operand} {ρ : Operand → Value} {ty : TypeId} {dst : Option Tmp} {pos : String} {after : Array Edge} {guard : Option (Nat × Bool)} {k : K} {xs : List Operand} {vs : List Value} {v : Value} {h' : Hp}
  (s : Sim base w0 m h w) (hc : compOp P (.mapUpdate t x y z) = some (k,xs)) (hv : RVs m vs (xs.map ρ)) (e : stepK k vs h = some (v,h')) : Snd1 P base w0 m w (execOp ρ ⟨dst,.mapUpdate t x y z,ty,pos,after,guard⟩) v h' := by
 simp only [compOp] at hc
 split at hc
 case h_2 => cases hc
 case h_1 key el hu =>
 split at hc
 case h_2 => cases hc
 case h_1 hk =>
 cases hc
 obtain ⟨y1,y2,y3,rfl,r1,r2,r3⟩ := RVs.r_three hv
 cases y1 <;> simp only [stepK,reduceCtorEq] at e
 next mi =>
 cases mi with
 | none => simp at e
 | some mi =>
 cases y2 <;> simp only [reduceCtorEq] at e
 next kk =>
 have r2 := r2.scalar_string
 split at e
 case isFalse => cases e
 case isTrue hfl =>
 have r3 := r3.flat_eq hfl
 generalize hx : ρ x = xx at r1
 cases r1 with
 | @mapv _ b hb =>
 obtain ⟨ob,es,ck,g1,g2,g3,g4⟩ := s.ms.lv mi b hb
 rw [g1] at e
 simp only [← g3,entL_eq] at e
 split at e
 case h_2 => cases e
 case h_1 c hput =>
 simp only [Option.some.injEq,Prod.mk.injEq] at e
 obtain ⟨rfl,rfl⟩ := e
 rcases put_of (i := 0) hput with ⟨h1,h2⟩ | ⟨j,en,s2,h1,h2,h3,h4,h5⟩
 ·have hr : (Instr.mapUpdate t (.map (some b)) (.string kk) y3).run P w = .ok () { w with heap := w.heap.setIfInBounds b (.map (es.push { key := .string kk,val := y3,born := ck }) (ck + 1)) } := by
   simp [Instr.mapUpdate,run_underlying hu,run_getMap g2,run_checkS hk,run_findS hk h1,run_setMap g2]
  refine ⟨m,undef,_,.inr ⟨?_,rfl⟩,m.le_refl,.tuple rfl (by simp),s.setMap g1 hb (es' := es.push { key := .string kk,val := y3,born := ck }) (ck' := ck + 1) ?_⟩
  ·simp only [execOp,hx,r2,r3,Sem.run_bind,hr]
   rfl
  ·rw [h2,entL_eq]
   simp [entE]
 ·rw [Nat.zero_add] at h4
  have hj : es[j]? = some en := by simpa using h1
  have hr : (Instr.mapUpdate t (.map (some b)) (.string kk) y3).run P w = .ok () { w with heap := w.heap.setIfInBounds b (.map (es.modify j fun e => { e with key := .string kk,val := y3 }) ck) } := by
   have hks : (Instr.keyThatStays (.string s2) (.string kk)).run P w = .ok (.string kk) w := by
    simp [Instr.keyThatStays,Instr.sameBits,beq_sym h3]
   simp [Instr.mapUpdate,run_underlying hu,run_getMap g2,run_checkS hk,run_findS hk h4,hj,h2,hks,run_setMap g2]
  refine ⟨m,undef,_,.inr ⟨?_,rfl⟩,m.le_refl,.tuple rfl (by simp),s.setMap g1 hb (es' := es.modify j fun e => { e with key := .string kk,val := y3 }) (ck' := ck) ?_⟩
  ·simp only [execOp,hx,r2,r3,Sem.run_bind,hr]
   rfl
  ·rw [h5,entL_eq]
   congr 1
   rw [Array.toList_modify]
   refine List.ext_getElem? fun n => ?_
   rw [List.getElem?_modify,List.getElem?_set]
   by_cases hn : j = n
   ·subst hn
    have hl := (List.getElem?_eq_some_iff.1 h1).1
    simp [h1]
    simpa using hl
   ·simp [hn]
end
end
section
section
variable {P : Program} {base : Nat} {w0 w : World} {m : Mu} {h : Hp}
theorem aszB_div [Fl] (e : TypeId) : aszB e / mkE = e + 1 := by
 unfold aszB
 rw [Nat.add_mul_div_left _ _ (by decide)]
 rw [show 1 / mkE = 0 by decide]
 omega
theorem aszB_ge [Fl] (e : TypeId) : mkE ≤ aszB e := by
 unfold aszB mkE
 omega
theorem snd_sdt [Fl] (s : Sim base w0 m h w) {ts : Array TypeId} {ty : TypeId} {a x v : Value} {h' : Hp} (r : RV m a x) (e : stepK .sdt [a] h = some (v,h')) : Snd P base w0 m w (Builtin.unsafeSliceData_ ts ty #[x]) v h' := by
 cases a <;> simp only [stepK,reduceCtorEq] at e
 next ad n c =>
 cases ad with
 | none =>
  cases e
  cases r
  exact Snd.pure s (v' := .pointer none) rfl .nilp
 | some ad =>
  obtain ⟨i,o,sp⟩ := ad
  simp only at e
  split at e
  ·cases e
  next hc =>
  cases r with
  | slice hl =>
   cases e
   refine Snd.pure s (v' := .pointer (some _)) ?_ (.ptr hl)
   exact Go.Lib.run_unsafeSliceData_row _ _ _ _ _ _ hc
  | sliceX hl =>
   cases e
   refine Snd.pure s (v' := .pointer (some _)) ?_ (.ptr hl)
   exact Go.Lib.run_unsafeSliceData_row _ _ _ _ _ _ (by omega)
  | sliceZ hl => cases e
  | sliceY b hl => cases e
theorem bytesV_cells [Fl] : ∀ {vs : List Value} {l : List UInt8},bytesV vs = some l → vs = l.map fun b => .int .u8 b.toNat
 | [],l,e => by cases e; rfl
 | .int .u8 n :: r,l,e => by
  simp only [bytesV] at e
  split at e
  case isFalse => cases e
  next hn =>
  simp only [Option.map_eq_some_iff] at e
  obtain ⟨l',hl',rfl⟩ := e
  rw [bytesV_cells hl']
  have : ((UInt8.ofNat n.toNat).toNat : Int) = n := by
   rw [UInt8.toNat_ofNat']
   omega
  simp only [List.map_cons,this]
theorem snd_ust [Fl] (s : Sim base w0 m h w) {t u ty el : TypeId} {a b x y v : Value} {h' : Hp} (hu : P.underlying t = some (.pointer el)) (hc : P.cellsOf el = 1) (r1 : RV m a x) (r2 : RV m b y) (e : stepK (.ust el) [a,b] h = some (v,h')) :
  Snd P base w0 m w (Builtin.unsafeString_ #[t,u] ty #[x,y]) v h' := by
 cases a <;> first | (simp [stepK] at e; done) | skip
 next ad =>
 cases b <;> first | (simp [stepK] at e; done) | skip
 next k n =>
 cases k <;> first | (simp [stepK] at e; done) | skip
 simp only [stepK] at e
 rw [r2.scalar_int]
 split at e
 ·cases e
 next hn =>
 have none0 : ∀ q,n = 0 → (Builtin.unsafeString_ #[t,u] ty #[.pointer q,.int .i64 n]).run P w = .ok (.string ⟨#[]⟩) w := by
  intro q hz
  subst hz
  exact Go.Lib.run_unsafeString_none w t u ty q
 cases ad with
 | none =>
  simp only at e
  split at e
  case isFalse => cases e
  next hz =>
  cases e
  cases r1
  exact Snd.pure s (none0 _ hz) (.string _)
 | some ad =>
  obtain ⟨i,o,sp⟩ := ad
  cases o with
  | succ o => simp at e
  | zero =>
  cases sp with
  | some q => simp at e
  | none =>
  simp only at e
  cases r1 with
  | ptr hl =>
  rename_i l
  split at e
  ·next hz =>
   cases e
   exact Snd.pure s (none0 _ hz) (.string _)
  next hz =>
  split at e
  case h_2 => cases e
  case h_1 ob hob =>
  split at e
  case isFalse => cases e
  next hw =>
  split at e
  case h_2 => cases e
  case h_1 vs hrd =>
  simp only [Option.map_eq_some_iff] at e
  obtain ⟨lb,hlb,he⟩ := e
  cases he
  have hvs := bytesV_cells hlb
  obtain ⟨hlies,hwh⟩ := s.loc hob hl
  obtain ⟨hbase,c,el2,f,hblk,hfr,hsz,hmk⟩ := hwh hw.1
  rw [hw.2] at hmk hsz
  obtain ⟨h0,hel,_⟩ := hmk (aszB_ge el)
  rw [aszB_div] at hel
  obtain rfl : el = el2 := Nat.succ.inj hel
  obtain ⟨vs',g1,g2,g3⟩ := cells_of s hl hrd
  have evs : vs' = vs := g1.flat_eq (by rw [hvs]; exact List.all_eq_true.2 (by intro x hx; obtain ⟨b,_,rfl⟩ := List.mem_map.1 hx; rfl))
  subst evs
  have hln : lb.length = n.toNat := by rw [← g2,hvs,List.length_map]
  obtain ⟨ob2,hob2,hle,_⟩ := Hp.rd_some hrd
  rw [hob] at hob2
  cases hob2
  have hrun : (Builtin.unsafeString_ #[t,u] ty #[.pointer (some ⟨l.blk,l.off + 0,none⟩),.int .i64 n]).run P w = .ok (.string ⟨lb.toArray⟩) (w.freeze ⟨l.blk,0,none⟩ lb.length) := by
   have hnn : n = (lb.length : Int) := by omega
   rw [h0,hnn]
   refine Go.Lib.run_unsafeString_row (w := w) t u ty el hu hc l.blk c.size (by simp [World.shape?,hblk]) lb (by intro q; rw [q] at hln; simp at hln; omega) (by omega) (by omega) ?_
   intro j x hx
   have := g3 j (.int .u8 x.toNat) (by rw [hvs]; simp [hx])
   rwa [h0] at this
  have hoth : ∀ b,b ≠ l.blk → (w.freeze ⟨l.blk,0,none⟩ lb.length).heap[b]? = w.heap[b]? := by
   intro b hb
   unfold World.freeze
   split
   ·rfl
   ·simp only [Array.getElem?_modify]
    rw [if_neg (fun q => hb q.symm)]
  have hsize : (w.freeze ⟨l.blk,0,none⟩ lb.length).heap.size = w.heap.size := by
   unfold World.freeze
   split
   ·rfl
   ·simp
  have hrest : (w.freeze ⟨l.blk,0,none⟩ lb.length).os = w.os ∧ (w.freeze ⟨l.blk,0,none⟩ lb.length).tape = w.tape ∧ (w.freeze ⟨l.blk,0,none⟩ lb.length).output = w.output ∧ (w.freeze ⟨l.blk,0,none⟩ lb.length).drawn = w.drawn := by
   unfold World.freeze
   split <;> exact ⟨rfl,rfl,rfl,rfl⟩
  obtain ⟨q1,q2,q3,q4⟩ := hrest
  refine ⟨m,.string ⟨lb.toArray⟩,_,hrun,m.le_refl,.string _,?_⟩
  refine (s.del i (s.ms.ex _ _ hl)).world ⟨q1,q2,q3,Nat.le_of_eq hsize.symm,fun k hk => hoth k (by omega)⟩ (fun _ => Nat.le_of_eq q4.symm) (Nat.le_of_eq hsize.symm) (fun b es ck hb => hoth b fun e => by rw [e,hblk] at hb; cases hb) ?_
  intro j q ob2 ej eq
  simp only [Hp.del] at ej
  split at ej
  ·cases ej
  ·next hj => exact hoth _ (fun eb => s.apart i j ob ob2 l q hob ej (fun x => hj x.symm) hw.1 hl eq eb.symm)
theorem arr_of [Fl] {α : Type} {a : Array α} {l : List α} (e : a.toList = l) : a = ⟨l⟩ := by cases a; simp at e; subst e; rfl
theorem compB_split [Fl] {b : Builtin} {ts : List TypeId} {ys : List Operand} {k : K} {xs : List Operand} (hc : compB P b ts ys = some (k,xs)) : xs = ys := by
 unfold compB at hc
 split at hc
 ·split at hc <;> first | (cases hc; done) | (cases hc; rfl)
 ·split at hc
  ·split at hc
   ·split at hc
    ·split at hc
     ·split at hc
      ·cases hc; rfl
      ·split at hc
       ·cases hc; rfl
       ·cases hc
      ·cases hc
     ·cases hc
    ·cases hc
   ·cases hc
  ·cases hc
 ·split at hc
  ·split at hc
   ·cases hc; rfl
   ·cases hc
  ·cases hc
 ·split at hc
  ·split at hc
   ·split at hc
    ·split at hc
     ·cases hc; rfl
     ·cases hc
    ·cases hc
   ·cases hc
  ·cases hc
 ·cases hc; rfl
 ·cases hc; rfl
 ·cases hc; rfl
 ·split at hc
  ·split at hc
   ·cases hc; rfl
   ·cases hc
  ·cases hc
 ·cases hc
theorem op_builtin [Fl] {b : Builtin} {args : Array Operand} {argTypes : Array TypeId} {ρ : Operand → Value} {ty : TypeId} {dst : Option Tmp} {pos : String} {after : Array Edge} {guard : Option (Nat × Bool)} {k : K} {xs : List Operand} {vs : List Value} {v : Value} {h' : Hp}
  (s : Sim base w0 m h w) (hc : compB P b argTypes.toList args.toList = some (k,xs)) (hv : RVs m vs (xs.map ρ)) (e : stepK k vs h = some (v,h')) :
  Snd1 P base w0 m w (execOp ρ ⟨dst,.call { callee := .builtin b,args,argTypes },ty,pos,after,guard⟩) v h' := by
 have hxs := compB_split hc
 subst hxs
 have fin : ∀ (A : Array Value) (x : Sem Value),args.map ρ = A → (∀ C,builtin b argTypes ty C A = (do pure (Next.value (← x)) : Sem Next)) → Snd P base w0 m w x v h' →
   Snd1 P base w0 m w (execOp ρ ⟨dst,.call { callee := .builtin b,args,argTypes },ty,pos,after,guard⟩) v h' := by
  intro A x hA hx hs
  have := snd_one hs
  rw [← hx (args.map fun | .const _ => true | _ => false),← hA] at this
  exact this
 unfold compB at hc
 split at hc
 ·-- len
  next t x hts hys =>
  have ha := arr_of hts
  have hb := arr_of hys
  subst ha hb
  obtain ⟨y,rfl,r⟩ := RVs.r_one hv
  refine fin #[ρ x] (Builtin.len_ #[t] ty #[ρ x]) (by simp) (fun _ => rfl) ?_
  split at hc
  ·next el hu =>
   cases hc
   cases y <;> simp only [stepK,reduceCtorEq,Option.some.injEq,Prod.mk.injEq] at e
   obtain ⟨rfl,rfl⟩ := e
   refine Snd.pure s (v' := .int .i64 _) ?_ (.int _ _)
   generalize ρ x = xx at r
   cases r <;> simp [Builtin.len_,run_underlying hu,goInt]
  ·next hu =>
   cases hc
   cases y <;> simp only [stepK,reduceCtorEq,Option.some.injEq,Prod.mk.injEq] at e
   obtain ⟨rfl,rfl⟩ := e
   refine Snd.pure s (v' := .int .i64 _) ?_ (.int _ _)
   rw [r.scalar_string]
   simp [Builtin.len_,run_underlying hu,goInt]
  ·next n el hu =>
   cases hc
   cases e
   refine Snd.pure s (v' := .int .i64 _) ?_ (.int _ _)
   simp [Builtin.len_,run_underlying hu,goInt]
  ·cases hc
 ·-- append
  next t u x y hts hys =>
  have ha := arr_of hts
  have hb := arr_of hys
  subst ha hb
  obtain ⟨a,b,rfl,r1,r2⟩ := RVs.r_two hv
  refine fin #[ρ x,ρ y] (Builtin.append_ #[t,u] ty #[ρ x,ρ y]) (by simp) (fun _ => rfl) ?_
  split at hc
  case h_2 => cases hc
  case h_1 el du hu huu =>
  split at hc
  case h_2 => cases hc
  case h_1 ti hi =>
  split at hc
  case h_2 => cases hc
  case h_1 z hz =>
  split at hc
  case isFalse => cases hc
  case isTrue hzs =>
  split at hc
  ·next e2 =>
   cases hc
   cases a <;> simp only [stepK,reduceCtorEq] at e
   next a1 len cap =>
   cases b <;> simp only [reduceCtorEq] at e
   next b1 n c =>
   split at e
   ·next cells hrd =>
    obtain ⟨xs',hr,hf⟩ := firstS (P := P) s r2 hrd
    have hlen : ∀ k,(Builtin.lenOf (ρ y)).run P { w with drawn := k } = .ok n { w with drawn := k } := by
     intro k
     generalize ρ y = yy at r2
     cases r2 <;> rfl
    exact snd_app s hu huu (.inl ⟨_,rfl⟩) hi rfl hz hzs.1 (Nat.mod_eq_of_lt hzs.2) (fun q => absurd hzs.2 (Nat.not_lt.2 q)) r1 hr hlen hf (appA_G hzs.2 e)
   ·cases e
  ·split at hc
   case isFalse => cases hc
   case isTrue h11 =>
   cases hc
   cases a <;> simp only [stepK,reduceCtorEq] at e
   next a1 len cap =>
   cases b <;> simp only [reduceCtorEq] at e
   next str =>
   rw [r2.scalar_string]
   refine snd_app (xs := str.data.toList.map fun b => .int .u8 b.toNat) (xs' := str.data.toList.map fun b => .int .u8 b.toNat) s hu huu (.inr rfl) hi h11.1 hz (by rw [hzs.1,h11.1]) (Nat.add_mul_mod_self_left _ _ _) (fun _ => aszB_div _) r1 (RVs.of_flat (List.all_eq_true.2 (by intro x hx; obtain ⟨b,_,rfl⟩ := List.mem_map.1 hx; rfl))) (fun _ => rfl) (fun k => ?_) (by rw [h11.2]; exact e)
   simp [Builtin.firstCells]
   apply Array.ext'
   simp
  ·cases hc
 ·-- copy
  next t u x y hts hys =>
  have ha := arr_of hts
  have hb := arr_of hys
  subst ha hb
  obtain ⟨a,b,rfl,r1,r2⟩ := RVs.r_two hv
  refine fin #[ρ x,ρ y] (Builtin.copy_ #[t,u] ty #[ρ x,ρ y]) (by simp) (fun _ => rfl) ?_
  split at hc
  case h_2 => cases hc
  case h_1 el hu =>
  split at hc
  case h_2 => cases hc
  case h_1 ti hi =>
  cases hc
  cases a <;> simp only [stepK,reduceCtorEq] at e
  next a1 len cap =>
  cases b <;> simp only [reduceCtorEq] at e
  next b1 n c =>
  split at e
  ·next cells hrd => exact snd_cpy s hu hi rfl r1 r2 hrd (by simp only [stepK,hrd]; exact e)
  ·cases e
 ·-- clear
  next t x hts hys =>
  have ha := arr_of hts
  have hb := arr_of hys
  subst ha hb
  obtain ⟨a,rfl,r1⟩ := RVs.r_one hv
  refine fin #[ρ x] (Builtin.clear_ #[t] ty #[ρ x]) (by simp) (fun _ => rfl) ?_
  split at hc
  case h_2 => cases hc
  case h_1 el hu =>
  split at hc
  case h_2 => cases hc
  case h_1 ti hi =>
  split at hc
  case h_2 => cases hc
  case h_1 z hz =>
  split at hc
  case isFalse => cases hc
  case isTrue hf =>
  cases hc
  cases a <;> simp only [stepK,reduceCtorEq] at e
  exact snd_clr s hu hi hz hf r1 (by simp only [stepK]; exact e)
 ·next t u x y hts hys =>
  have ha := arr_of hts
  have hb := arr_of hys
  subst ha hb
  cases hc
  obtain ⟨a,b,rfl,r1,r2⟩ := RVs.r_two hv
  refine fin #[ρ x,ρ y] (Builtin.max_ #[t,u] ty #[ρ x,ρ y]) (by simp) (fun _ => rfl) ?_
  simp only [stepK,Option.map_eq_some_iff] at e
  obtain ⟨q,hq,he⟩ := e
  cases he
  obtain ⟨e1,e2,rv,hrun⟩ := maxA_flat (P := P) (w := w) hq r1 r2
  refine Snd.pure s (v' := v) ?_ rv
  rw [e1,e2]
  simpa [Builtin.max_] using hrun
 ·next t u x y hts hys =>
  have ha := arr_of hts
  have hb := arr_of hys
  subst ha hb
  cases hc
  obtain ⟨a,b,rfl,r1,r2⟩ := RVs.r_two hv
  refine fin #[ρ x,ρ y] (Builtin.min_ #[t,u] ty #[ρ x,ρ y]) (by simp) (fun _ => rfl) ?_
  simp only [stepK,Option.map_eq_some_iff] at e
  obtain ⟨q,hq,he⟩ := e
  cases he
  obtain ⟨e1,e2,rv,hrun⟩ := maxA_flat (P := P) (w := w) hq r1 r2
  refine Snd.pure s (v' := v) ?_ rv
  rw [e1,e2]
  simpa [Builtin.min_] using hrun
 ·next t x hts hys =>
  have ha := arr_of hts
  have hb := arr_of hys
  subst ha hb
  cases hc
  obtain ⟨a,rfl,r1⟩ := RVs.r_one hv
  exact fin #[ρ x] (Builtin.unsafeSliceData_ #[t] ty #[ρ x]) (by simp) (fun _ => rfl) (snd_sdt s r1 e)
 ·next t u x y hts hys =>
  have ha := arr_of hts
  have hb := arr_of hys
  subst ha hb
  obtain ⟨a,b,rfl,r1,r2⟩ := RVs.r_two hv
  refine fin #[ρ x,ρ y] (Builtin.unsafeString_ #[t,u] ty #[ρ x,ρ y]) (by simp) (fun _ => rfl) ?_
  split at hc
  case h_2 => cases hc
  case h_1 el hu =>
  split at hc
  case isFalse => cases hc
  case isTrue hc1 =>
  cases hc
  exact snd_ust s hu hc1 r1 r2 e
 ·cases hc
end
end
section
abbrev Env := List (Nat × Value)
def Env.get : Env → Nat → Option Value
 | [],_ => none
 | (k,v) :: r,t => if k = t then some v else Env.get r t
def Env.put (env : Env) (d : Option Nat) (v : Value) : Env :=
 match d with
 | some d => (d,v) :: env
 | none => env
def evA (env : Env) : Operand → Option Value
 | .tmp t => env.get t
 | .const v => if flat v then some v else none
 | .func f => some (.func (.func f) #[] #[])
 | .global _ => none
def mapE (env : Env) : List Operand → Option (List Value)
 | [] => some []
 | x :: r => match evA env x with
  | some v => match mapE env r with
   | some vs => some (v :: vs)
   | none => none
  | none => none
def allFlat (env : Env) (xs : List Operand) : Bool := xs.all fun x => match evA env x with | some v => flat v | none => false
def flatStep (P : Program) (env : Env) (op : Op) (ty : TypeId) : Option Value :=
 if allFlat env op.operands.toList = true then
  match pureSem P (execOp (fun x => (evA env x).getD undef) ⟨none, op, ty, "", #[], none⟩) with
  | some (.value v) => if flat v then some v else none
  | _ => none
 else none
inductive IK
 | op (k : K) (xs : List Operand)
 | fl (op : Op) (ty : TypeId)
 | call (f : FuncId) (xs : List Operand)
 | callv (x : Operand) (xs : List Operand)
structure In where
 d : Option Nat
 g : Option (Nat × Bool)
 k : IK
def wanted (g : Option (Nat × Bool)) (env : Env) : Option Bool :=
 match g with
 | none => some true
 | some (t,b) => match env.get t with
  | some (.bool c) => some (c == b)
  | some (.tuple ⟨[]⟩) => some false
  | _ => none
abbrev CTy := FuncId → List Value → Hp → (Value → Hp → Prop) → Prop
def wpIn (P : Program) (CT : CTy) (i : In) (env : Env) (h : Hp) (R : Value → Hp → Prop) : Prop :=
 match wanted i.g env with
 | none => False
 | some false => R undef h
 | some true => match i.k with
  | .op k xs => match mapE env xs with
   | none => False
   | some vs => match stepK k vs h with
    | none => False
    | some (v,h') => R v h'
  | .fl op ty => match flatStep P env op ty with
   | none => False
   | some v => R v h
  | .call f xs => match mapE env xs with
   | none => False
   | some vs => CT f vs h R
  | .callv x xs => match evA env x,mapE env xs with
   | some (.func (.func f) a b),some vs => CT f (a.toList ++ vs ++ b.toList) h R
   | _,_ => False
def wpS (P : Program) (CT : CTy) : List In → Env → Hp → (Env → Hp → Prop) → Prop
 | [],env,h,Q => Q env h
 | i :: r,env,h,Q => wpIn P CT i env h fun v h' => wpS P CT r (env.put i.d v) h' Q
def REnv (m : Mu) (n : Nat) (env : Env) (tmps : Array Value) : Prop := tmps.size = n ∧ ∀ t v,env.get t = some v → ∃ v',tmps[t]? = some v' ∧ RV m v v'
def Enters (P : Program) (f : FuncId) : Prop := ∃ fn, P.funcs[f]? = some fn ∧ fn.body ≠ none ∧ fn.name ≠ "runtime.NumGoroutine"
def ACall [Fl] (P : Program) (f : FuncId) (args : List Value) (h : Hp) (R : Value → Hp → Prop) : Prop :=
 Enters P f ∧ ∀ base w0 m w args',RVs m args args' → Sim base w0 m h w →
  Calls P f args'.toArray w fun e w' => ∃ m' v v' h',e = .returned v' ∧ m.le m' ∧ RV m' v v' ∧ Sim base w0 m' h' w' ∧ R v h'
theorem ACall.mono [Fl] {P : Program} {f : FuncId} {args : List Value} {h : Hp} {R R' : Value → Hp → Prop} (c : ACall P f args h R) (hr : ∀ v h',R v h' → R' v h') : ACall P f args h R' :=
 ⟨c.1,fun base w0 m w args' ra s => (c.2 base w0 m w args' ra s).mono fun _ _ ⟨m',v,v',h',h1,h2,h3,h4,h5⟩ => ⟨m',v,v',h',h1,h2,h3,h4,hr _ _ h5⟩⟩
section
variable {P : Program} {base : Nat} {w0 w : World} {m : Mu} {h : Hp} {n : Nat} {env : Env}
theorem REnv.mono [Fl] {m m' : Mu} (hm : m.le m') {tmps : Array Value} (r : REnv m n env tmps) : REnv m' n env tmps :=
 ⟨r.1,fun t v e => let ⟨v',a,b⟩ := r.2 t v e; ⟨v',a,b.mono hm⟩⟩
theorem REnv.eval [Fl] {a : Act} (r : REnv m n env a.tmps) {x : Operand} {v : Value} (e : evA env x = some v) : RV m v (a.eval x) := by
 cases x with
 | tmp t =>
  obtain ⟨v',h1,h2⟩ := r.2 t v e
  simp only [Act.eval,Array.getD_eq_getD_getElem?,h1,Option.getD_some]
  exact h2
 | const c =>
  simp only [evA] at e
  split at e
  ·next hf => cases e; exact RV.of_flat m _ hf
  ·cases e
 | func f =>
  simp only [evA,Option.some.injEq] at e
  subst e
  exact .func rfl rfl (by simp) (by simp)
 | global g => cases e
theorem REnv.mapE [Fl] {a : Act} (r : REnv m n env a.tmps) : ∀ {xs : List Operand} {vs : List Value},mapE env xs = some vs → RVs m vs (xs.map a.eval) := by
 intro xs
 induction xs with
 | nil => intro vs e; cases e; exact RVs.nil m
 | cons x xs ih =>
  intro vs e
  simp only [Am.mapE] at e
  split at e
  ·next v hv =>
   split at e
   ·next us hus => cases e; exact RVs.cons (r.eval hv) (ih hus)
   ·cases e
  ·cases e
theorem REnv.put [Fl] {a : Act} (r : REnv m n env a.tmps) {d : Option Nat} {v v' : Value} (hd : ∀ x,d = some x → x < n) (rv : RV m v v') : REnv m n (env.put d v) (a.put d v').tmps := by
 cases d with
 | none => exact r
 | some d =>
  refine ⟨by simp [Act.put,r.1],fun t u e => ?_⟩
  simp only [Env.put,Env.get] at e
  split at e
  ·next ht =>
   subst ht; cases e
   have := hd d rfl
   exact ⟨v',by simp [Act.put,r.1,this],rv⟩
  ·next ht =>
   obtain ⟨u',h1,h2⟩ := r.2 t u e
   exact ⟨u',by simp only [Act.put]; rw [Array.getElem?_setIfInBounds,if_neg ht]; exact h1,h2⟩
theorem flatStep_sound [Fl] {a : Act} (r : REnv m n env a.tmps) {o : Oper} {v : Value} (hs : ∀ cs b,o.op ≠ .select cs b) (e : flatStep P env o.op o.type = some v) : (execOp a.eval o).run P w = .ok (.value v) w ∧ RV m v v := by
 unfold flatStep at e
 split at e
 case isFalse => cases e
 case isTrue hf =>
 split at e
 case h_2 => cases e
 case h_1 u hu =>
 split at e
 case isFalse => cases e
 case isTrue hv =>
 cases e
 refine ⟨?_,RV.of_flat m _ hv⟩
 have hc : execOp a.eval o = execOp (fun x => (evA env x).getD undef) ⟨none, o.op, o.type, "", #[], none⟩ := by
  have h1 : execOp (fun x => (evA env x).getD undef) ⟨none, o.op, o.type, "", #[], none⟩ = execOp (fun x => (evA env x).getD undef) o := by
   obtain ⟨dst,op,ty,pos,af,g⟩ := o
   rfl
  rw [h1]
  refine execOp_congr o hs ?_
  intro x hx
  unfold allFlat at hf
  rw [List.all_eq_true] at hf
  have := hf x (by simpa using hx)
  split at this
  ·next q hq => rw [hq]; exact (r.eval hq).flat_eq this
  ·cases this
 rw [hc]
 exact pureSem_run hu w
end
end
section
def compK (P : Program) (o : Oper) : Option IK :=
 match o.op with
 | .call { callee := .value (.func f),args,argTypes := _ } => some (.call f args.toList)
 | .call { callee := .value x,args,argTypes := _ } => some (.callv x args.toList)
 | .call { callee := .invoke _ _,args := _,argTypes := _ } => none
 | .go _ | .defer _ | .select _ _ | .send _ _ | .recv _ _ _ | .panic _ => none
 | op => match compOp P op with
  | some (k,xs) => some (.op k xs)
  | none => some (.fl op o.type)
def compG (ops : Array Oper) : Option (Nat × Bool) → Option (Option (Nat × Bool))
 | none => some none
 | some (j,b) => match (ops[j]?).bind (·.dst) with
  | some t => some (some (t,b))
  | none => none
def dOk (n : Nat) : Option Nat → Bool
 | some d => decide (d < n)
 | none => true
def compIn (P : Program) (n : Nat) (ops : Array Oper) (o : Oper) : Option In :=
 if dOk n o.dst = true then
  match compG ops o.guard,compK P o with
  | some g,some k => some ⟨o.dst,g,k⟩
  | _,_ => none
 else none
def compIns (P : Program) (n : Nat) (ops : Array Oper) : List Oper → Option (List In)
 | [] => some []
 | o :: r => match compIn P n ops o with
  | some i => match compIns P n ops r with
   | some is => some (i :: is)
   | none => none
  | none => none
section
variable {P : Program} {base : Nat} {w0 w : World} {m : Mu} {h : Hp} {n : Nat} {env : Env}
theorem wanted_sound [Fl] {ops : Array Oper} {o : Oper} {g : Option (Nat × Bool)} {a : Act} {b : Bool} (hg : compG ops o.guard = some g) (r : REnv m n env a.tmps) (e : wanted g env = some b) : Region.wanted o (yielded ops a.tmps) = b := by
 unfold compG at hg
 unfold Region.wanted
 split at hg
 ·next hn => cases hg; simp only [wanted,Option.some.injEq] at e; subst e; rw [hn]
 ·next j bb hn =>
  split at hg
  case h_2 => cases hg
  case h_1 t ht =>
  cases hg
  rw [hn]
  simp only [wanted] at e
  simp only [yielded,ht,Option.bind_some]
  split at e
  ·next c hc =>
   cases e
   obtain ⟨v',h1,h2⟩ := r.2 t _ hc
   rw [h1,h2.scalar_bool]
   cases c <;> cases bb <;> rfl
  ·next hc =>
   cases e
   obtain ⟨v',h1,h2⟩ := r.2 t _ hc
   cases h2 with
   | @tuple _ a' hl _ =>
    have : a' = [] := List.eq_nil_of_length_eq_zero hl.symm
    subst this
    rw [h1]
    cases bb <;> rfl
  ·cases e
theorem op_sound [Fl] {ρ : Operand → Value} {o : Oper} {k : K} {xs : List Operand} {vs : List Value} {v : Value} {h' : Hp} (hρ : ∀ c,ρ (.const c) = c)
  (s : Sim base w0 m h w) (hc : compOp P o.op = some (k,xs)) (hv : RVs m vs (xs.map ρ)) (e : stepK k vs h = some (v,h')) : Snd1 P base w0 m w (execOp ρ o) v h' := by
 obtain ⟨dst,op,ty,pos,af,g⟩ := o
 cases op with
 | move x => exact op_move s hc hv e
 | assign x => exact op_assign s hc hv e
 | pick c a b => exact op_pick s hc hv e
 | alloc el => exact op_alloc s hc hv e
 | box el x => exact op_box s hc hv e
 | build t ps => exact op_build s hc hv e
 | buildSlice t n ps => exact op_buildSlice s hc hv e
 | load t a => exact op_load s hc hv e
 | store t a x => exact op_store s hc hv e
 | nilCheck x => exact op_nilCheck s hc hv e
 | binOp op t x y u => exact op_binOp (fun c hy => by rw [hy,hρ]) s hc hv e
 | unOp op t x => exact op_unOp s hc hv e
 | convert a b x => exact op_convert s hc hv e
 | makeInterface t x => exact op_makeInterface s hc hv e
 | typeAssert x xt t ok => exact op_typeAssert s hc hv e
 | makeFunc fn a b => exact op_makeFunc s hc hv e
 | makeSlice t l c => exact op_makeSlice s hc hv e
 | slice t x lo hi mx => exact op_slice s hc hv e
 | fieldAddr t x f => exact op_fieldAddr s hc hv e
 | field t x f => exact op_field s hc hv e
 | indexAddr t x i => exact op_indexAddr s hc hv e
 | index t x i => exact op_index s hc hv e
 | extract t i => exact op_extract s hc hv e
 | makeMap t r => exact op_makeMap s hc hv e
 | lookup t x i ok => exact op_lookup s hc hv e
 | mapUpdate t x k v => exact op_mapUpdate s hc hv e
 | call c =>
  obtain ⟨callee,args,argTypes⟩ := c
  cases callee with
  | builtin b => exact op_builtin s hc hv e
  | value f => cases hc
  | invoke r n => cases hc
 | _ => cases hc
theorem upon_enter' [Fl] {o : Oper} {a : Act} {K : Act → World → Prop} {Q : Exit → Act → World → Prop} {f : FuncId} {args' : List Value} {args : List Value} {R : Value → Hp → Prop} (c : ACall P f args h R) (ra : RVs m args args') (s : Sim base w0 m h w)
  (hr : (execOp a.eval o).run P w = (callFunc f args'.toArray).run P w)
  (hk : ∀ m' v v' w' h',m.le m' → RV m' v v' → Sim base w0 m' h' w' → R v h' → K (a.put o.dst v') w') : o.wp P a w K Q := by
 obtain ⟨fn,hf,hb,hn⟩ := c.1
 have hcf : (callFunc f args'.toArray).run P w = .ok (.enter f args'.toArray) w := by
  simp [callFunc,program,Sem.run,hf,hb,hn]
 unfold Oper.wp
 rw [hr,hcf]
 show Calls P f args'.toArray w _
 refine (c.2 base w0 m w args' ra s).mono ?_
 rintro e w' ⟨m',v,v',h',rfl,h1,h2,h3,h4⟩
 exact hk m' v v' w' h' h1 h2 h3 h4
theorem wpIn_sound [Fl] {ops : Array Oper} {o : Oper} {ix : Nat} {i : In} {R : Value → Hp → Prop} {a : Act} {K : Act → World → Prop} {Q : Exit → Act → World → Prop} (hix : ops[ix]? = some o) (hi : compIn P n ops o = some i) (r : REnv m n env a.tmps) (s : Sim base w0 m h w)
  (e : wpIn P (ACall P) i env h R) (hk : ∀ m' v v' w' h',m.le m' → RV m' v v' → Sim base w0 m' h' w' → R v h' → K (a.put o.dst v') w') : wpOp P ops Q ix K a w := by
 unfold compIn at hi
 split at hi
 case isFalse => cases hi
 case isTrue hd =>
 split at hi
 case h_2 => cases hi
 case h_1 g k hg hkk =>
 cases hi
 unfold wpOp
 rw [hix]
 simp only
 unfold wpIn at e
 simp only at e
 split at e
 ·exact e.elim
 ·next hw =>
  rw [wanted_sound hg r hw,if_neg (by simp)]
  exact hk m undef undef w h m.le_refl (.tuple rfl (by simp)) s e
 ·next hw =>
  rw [wanted_sound hg r hw,if_pos rfl]
  refine .inl ?_
  have fin : ∀ (v : Value) (h' : Hp),Snd1 P base w0 m w (execOp a.eval o) v h' → R v h' → o.wp P a w K Q := by
   rintro v h' ⟨m',v',w',hr,h1,h2,h3⟩ hR
   unfold Oper.wp
   rcases hr with hr | ⟨hr,rfl⟩
   ·rw [hr]; exact hk m' v v' w' h' h1 h2 h3 hR
   ·rw [hr]; exact hk m' v undef w' h' h1 h2 h3 hR
  have plain : ∀ (op : Op),o.op = op → (match compOp P op with | some (k,xs) => some (IK.op k xs) | none => some (.fl op o.type)) = some k → (∀ cs b,op ≠ .select cs b) → o.wp P a w K Q := by
   intro op ho hc hs
   split at hc
   ·next k1 xs hcomp =>
    cases hc
    simp only at e
    split at e
    ·exact e.elim
    ·next vs hvs =>
     split at e
     ·exact e.elim
     ·next v h' hst => exact fin v h' (op_sound (fun c => rfl) s (by rw [ho]; exact hcomp) (r.mapE hvs) hst) e
   ·next hcomp =>
    cases hc
    simp only at e
    split at e
    ·exact e.elim
    ·next v hst =>
     obtain ⟨h1,h2⟩ := flatStep_sound (w := w) r (o := o) (by rw [ho]; exact hs) (by rw [ho]; exact hst)
     exact fin v h ⟨m,v,w,.inl h1,m.le_refl,h2,s⟩ e
  unfold compK at hkk
  split at hkk
  ·next f args _ ho =>
   cases hkk
   simp only at e
   split at e
   ·exact e.elim
   ·next vs hvs =>
    refine upon_enter' e (r.mapE hvs) s ?_ hk
    have : args.map a.eval = (args.toList.map a.eval).toArray := by apply Array.ext'; simp
    simp [execOp,ho,resolve,Deferred.ofValue,Act.eval,invoke,this]
  ·next x args _ hx ho =>
   cases hkk
   simp only at e
   split at e
   ·next f pa pb vs hx2 hvs =>
    have rx := r.eval hx2
    obtain ⟨pa⟩ := pa
    obtain ⟨pb⟩ := pb
    generalize hy : a.eval x = y at rx
    cases rx with
    | @func _ _ a2 _ b2 h1 h2 h3 h4 =>
     refine upon_enter' (args' := a2 ++ args.toList.map a.eval ++ b2) e (RVs.append (RVs.append ⟨h1,h3⟩ (r.mapE hvs)) ⟨h2,h4⟩) s ?_ hk
     have : args.map a.eval = (args.toList.map a.eval).toArray := by apply Array.ext'; simp
     simp [execOp,ho,resolve,Deferred.ofValue,hy,invoke,this]
   ·exact e.elim
  ·cases hkk
  ·cases hkk
  ·cases hkk
  ·cases hkk
  ·cases hkk
  ·cases hkk
  ·cases hkk
  ·next op _ _ _ _ _ _ _ _ _ _ => exact plain _ rfl hkk (by intro cs b hh; simp_all)
theorem wpS_sound [Fl] {ops : Array Oper} {Q : Env → Hp → Prop} {Q' : Exit → Act → World → Prop} : ∀ (suf pre : List Oper) (ins : List In) (m : Mu) (env : Env) (h : Hp) (a : Act) (w : World),ops.toList = pre ++ suf → compIns P n ops suf = some ins → REnv m n env a.tmps → a.defers = [] → Sim base w0 m h w →
  wpS P (ACall P) ins env h Q → (∀ m' env' h' a' w',m.le m' → REnv m' n env' a'.tmps → a'.defers = [] → Sim base w0 m' h' w' → Q env' h' → Q' .normal a' w') →
  wpOps P ops Q' (List.range' pre.length suf.length) a w := by
 intro suf
 induction suf with
 | nil =>
  intro pre ins m env h a w hop hc r hdf s e hq
  cases hc
  exact hq m env h a w m.le_refl r hdf s e
 | cons o suf ih =>
  intro pre ins m env h a w hop hc r hdf s e hq
  simp only [compIns] at hc
  split at hc
  case h_2 => cases hc
  case h_1 i hi =>
  split at hc
  case h_2 => cases hc
  case h_1 is his =>
  cases hc
  simp only [List.length_cons,List.range'_succ]
  rw [wpOps_cons]
  have hix : ops[pre.length]? = some o := by
   rw [← Array.getElem?_toList,hop]; simp
  have hdn : ∀ x,o.dst = some x → x < n := by
   intro x hx
   unfold compIn at hi
   split at hi
   ·next hd => rw [hx] at hd; simpa [dOk] using hd
   ·cases hi
  have hid : i.d = o.dst := by
   unfold compIn at hi
   split at hi
   ·split at hi
    ·cases hi; rfl
    ·cases hi
   ·cases hi
  refine wpIn_sound hix hi r s e ?_
  intro m' v v' w' h' h1 h2 h3 h4
  have := ih (pre ++ [o]) is m' (env.put i.d v) h' (a.put o.dst v') w' (by rw [hop]; simp) his (by rw [hid]; exact (r.mono h1).put hdn h2) (by cases o.dst <;> exact hdf) h3 h4 (fun m2 env' h2 a' w2 hm => hq m2 env' h2 a' w2 (Mu.le_trans h1 hm))
  simpa using this
end
end
section
def pureK : K → Bool
 | .mv | .pick | .bin _ | .bbin _ | .isn _ | .not | .neg | .cvt _ | .bld _ _ _ | .nck | .ifc _ | .tas _ _ _ | .clo _ _ | .slc _ _ _ _ | .sla _ _ _ _ _ | .sls _ _ | .fad _ | .fld _ _ _ | .iad _ | .iaa _ _ | .ixa _ _ _ _ | .ixs | .ext _ | .len | .lens | .lenc _ | .mm _ => true
 | _ => false
def readK : K → Bool
 | .ld1 | .ldn _ => true
 | _ => false
def pureIn (i : In) : Bool := match i.k with
 | .op k _ => pureK k
 | .fl _ _ => true
 | _ => false
def readIn (i : In) : Bool := match i.k with
 | .op k _ => readK k
 | _ => false
def effIn (i : In) : Bool := !(pureIn i || readIn i)
def tmpsOf : List Operand → List Nat
 | [] => []
 | .tmp t :: r => t :: tmpsOf r
 | _ :: r => tmpsOf r
def looksK : IK → List Nat
 | .op _ xs => tmpsOf xs
 | .fl op _ => tmpsOf op.operands.toList
 | .call _ xs => tmpsOf xs
 | .callv x xs => tmpsOf (x :: xs)
def looks (i : In) : List Nat := (match i.g with | some (t,_) => [t] | none => []) ++ looksK i.k
structure DE where
 ix : Nat
 i : In
 eff : Bool
 re : List In
def again (i : In) (env : Env) (h : Hp) : Prop :=
 match wanted i.g env,i.k,i.d with
 | some false,_,_ => True
 | some true,.op k xs,some d => match mapE env xs with
  | some vs => match env.get d with
   | some v => stepK k vs h = some (v,h)
   | none => False
  | none => False
 | _,_,_ => False
def allAgain (l : List In) (env : Env) (h : Hp) : Prop :=
 match l with
 | [] => True
 | i :: r => again i env h ∧ allAgain r env h
def wpD (P : Program) (CT : CTy) : List DE → Env → Hp → (Env → Hp → Prop) → Prop
 | [],env,h,Q => Q env h
 | x :: r,env,h,Q => wpIn P CT x.i env h fun v h' => allAgain x.re env h' ∧ wpD P CT r (env.put x.i.d v) h' Q
def eagerOk (mk : Nat → Nat) : Option Nat → List DE → Bool
 | _,[] => true
 | last,x :: r => (match last with | some e => (mk x.ix).testBit e | none => true) && eagerOk mk (if x.eff then some x.ix else last) r
section
variable {P : Program} {base : Nat} {w0 w : World} {m : Mu} {h : Hp} {n : Nat} {env : Env}
theorem pureK_step [Fl] {k : K} (hk : pureK k = true) {vs : List Value} {v : Value} {h h' h2 : Hp} (e : stepK k vs h = some (v,h')) : h' = h ∧ stepK k vs h2 = some (v,h2) := by
 revert e
 fun_cases stepK k vs h <;> first | (exact absurd hk Bool.false_ne_true) | (intro e; simp_all [stepK]; done) | (intro e; simp_all [stepK]; obtain ⟨_,h1,rfl,rfl⟩ := e; simp_all; done) | (intro e; simp_all [stepK]; obtain ⟨h1,rfl,rfl⟩ | ⟨h1,rfl,rfl⟩ := e <;> (simp_all; done)) | (intro e; simp_all [stepK]; obtain ⟨a,b,h1,rfl,rfl⟩ := e; exact ⟨rfl,a,b,h1,rfl⟩)
theorem readK_step [Fl] {k : K} (hk : readK k = true) {vs : List Value} {v : Value} {h h' : Hp} (e : stepK k vs h = some (v,h')) : h' = h := by
 revert e
 fun_cases stepK k vs h <;> first | (exact absurd hk Bool.false_ne_true) | (intro e; simp_all; done) | (intro e; simp at e; obtain ⟨_,_,_,rfl⟩ := e; rfl)
theorem mem_tmpsOf [Fl] {xs : List Operand} {t : Nat} (hx : Operand.tmp t ∈ xs) : t ∈ tmpsOf xs := by
 induction xs with
 | nil => cases hx
 | cons x xs ih =>
  cases x with
  | tmp u =>
   rcases List.mem_cons.1 hx with h | h
   ·cases h; simp [tmpsOf]
   ·simp [tmpsOf,ih h]
  | const c => rcases List.mem_cons.1 hx with h | h; cases h; exact ih h
  | global g => rcases List.mem_cons.1 hx with h | h; cases h; exact ih h
  | func f => rcases List.mem_cons.1 hx with h | h; cases h; exact ih h
theorem evA_congr [Fl] {env' : Env} {x : Operand} (hx : ∀ t,x = .tmp t → env.get t = env'.get t) : evA env x = evA env' x := by
 cases x <;> simp only [evA]
 exact hx _ rfl
theorem mapE_congr [Fl] {env' : Env} {xs : List Operand} (hx : ∀ t,t ∈ tmpsOf xs → env.get t = env'.get t) : mapE env xs = mapE env' xs := by
 induction xs with
 | nil => rfl
 | cons x xs ih =>
  have h1 : evA env x = evA env' x := evA_congr fun t ht => hx t (mem_tmpsOf (by rw [ht]; simp))
  have h2 : mapE env xs = mapE env' xs := ih fun t ht => hx t (by cases x <;> simp [tmpsOf,ht])
  simp only [mapE,h1,h2]
theorem flatStep_congr [Fl] {env' : Env} {op : Op} {ty : TypeId} (hs : ∀ cs b,op ≠ .select cs b) (hx : ∀ t,t ∈ tmpsOf op.operands.toList → env.get t = env'.get t) : flatStep P env op ty = flatStep P env' op ty := by
 have h1 : ∀ x ∈ op.operands.toList,evA env x = evA env' x := fun x hxm => evA_congr fun t ht => hx t (mem_tmpsOf (by rw [← ht]; exact hxm))
 unfold flatStep
 have h2 : allFlat env op.operands.toList = allFlat env' op.operands.toList := by
  unfold allFlat
  rw [Bool.eq_iff_iff,List.all_eq_true,List.all_eq_true]
  constructor
  ·intro h x hxm; rw [← h1 x hxm]; exact h x hxm
  ·intro h x hxm; rw [h1 x hxm]; exact h x hxm
 have h3 : execOp (fun x => (evA env x).getD undef) ⟨none, op, ty, "", #[], none⟩ = execOp (fun x => (evA env' x).getD undef) ⟨none, op, ty, "", #[], none⟩ := execOp_congr _ hs fun x hxm => by rw [h1 x (by simpa using hxm)]
 rw [h2,h3]
theorem wanted_congr [Fl] {env' : Env} {g : Option (Nat × Bool)} (hx : ∀ t b,g = some (t,b) → env.get t = env'.get t) : wanted g env = wanted g env' := by
 cases g with
 | none => rfl
 | some p => obtain ⟨t,b⟩ := p; simp only [wanted,hx t b rfl]
def noSel (i : In) : Prop := ∀ op ty,i.k = .fl op ty → ∀ cs b,op ≠ .select cs b
theorem wpIn_congr [Fl] {CT : CTy} {env' : Env} {i : In} {R : Value → Hp → Prop} (hs : noSel i) (hx : ∀ t,t ∈ looks i → env.get t = env'.get t) (e : wpIn P CT i env h R) : wpIn P CT i env' h R := by
 have hg : wanted i.g env' = wanted i.g env := (wanted_congr fun t b hb => (hx t (by simp [looks,hb]))).symm
 have hk : ∀ t,t ∈ looksK i.k → env.get t = env'.get t := fun t ht => hx t (by simp [looks,ht])
 unfold wpIn at e ⊢
 rw [hg]
 split at e
 ·exact e
 ·exact e
 ·split at e
  ·next k xs hik =>
   rw [← mapE_congr (env := env) (env' := env') fun t ht => hk t (by rw [hik]; exact ht)]
   exact e
  ·next op ty hik =>
   rw [← flatStep_congr (env := env) (env' := env') (hs _ _ hik) fun t ht => hk t (by rw [hik]; exact ht)]
   exact e
  ·next f xs hik =>
   rw [← mapE_congr (env := env) (env' := env') fun t ht => hk t (by rw [hik]; exact ht)]
   exact e
  ·next x xs hik =>
   have h1 : evA env' x = evA env x := (evA_congr fun t ht => hk t (by rw [hik]; subst ht; simp [looksK,tmpsOf])).symm
   have h2 : mapE env' xs = mapE env xs := (mapE_congr fun t ht => hk t (by rw [hik]; cases x <;> simp [looksK,tmpsOf,ht])).symm
   rw [h1,h2]
   exact e
theorem noSel_of [Fl] {ops : Array Oper} {o : Oper} {i : In} (hi : compIn P n ops o = some i) : noSel i := by
 intro op ty hk cs b hop
 unfold compIn at hi
 split at hi
 ·split at hi
  ·next g k hg hkk =>
   cases hi
   simp only at hk
   subst hk
   have h1 : op = o.op := by
    unfold compK at hkk
    split at hkk <;> try (cases hkk; done)
    split at hkk <;> cases hkk
    rfl
   have h2 : compK P o = none := by
    unfold compK
    rw [← h1,hop]
   rw [h2] at hkk
   cases hkk
  ·cases hi
 ·cases hi
theorem quiet_in [Fl] {CT : CTy} {i : In} {R : Value → Hp → Prop} (hq : pureIn i = true ∨ readIn i = true) (e : wpIn P CT i env h R) : ∃ v,R v h ∧ wpIn P CT i env h (fun u h' => u = v ∧ h' = h) := by
 unfold wpIn at e ⊢
 split at e
 ·exact e.elim
 ·exact ⟨_,e,rfl,rfl⟩
 ·split at e
  ·next k xs hik =>
   split at e
   ·exact e.elim
   ·split at e
    ·exact e.elim
    ·next v h' hst =>
     have : h' = h := by
      rcases hq with hq | hq
      ·exact (pureK_step (h2 := h) (by simpa [pureIn,hik] using hq) hst).1
      ·exact readK_step (by simpa [readIn,hik] using hq) hst
     subst this
     exact ⟨v,e,rfl,rfl⟩
  ·split at e
   ·exact e.elim
   ·exact ⟨_,e,rfl,rfl⟩
  ·next hik => simp [pureIn,readIn,hik] at hq
  ·next hik => simp [pureIn,readIn,hik] at hq
theorem pure_in [Fl] {CT : CTy} {i : In} {v : Value} {h2 : Hp} (hq : pureIn i = true) (e : wpIn P CT i env h (fun u h' => u = v ∧ h' = h)) : wpIn P CT i env h2 (fun u h' => u = v ∧ h' = h2) := by
 unfold wpIn at e ⊢
 split at e
 ·exact e.elim
 ·exact ⟨e.1,rfl⟩
 ·split at e
  ·next k xs hik =>
   split at e
   ·exact e.elim
   ·split at e
    ·exact e.elim
    ·next u h' hst =>
     rw [(pureK_step (h2 := h2) (by simpa [pureIn,hik] using hq) hst).2]
     exact ⟨e.1,rfl⟩
  ·split at e
   ·exact e.elim
   ·exact ⟨e.1,rfl⟩
  ·next hik => simp [pureIn,hik] at hq
  ·next hik => simp [pureIn,hik] at hq
theorem again_in [Fl] {CT : CTy} {i : In} (_ : readIn i = true) (e : again i env h) : wpIn P CT i env h (fun u h' => h' = h ∧ ∀ d,i.d = some d → wanted i.g env = some true → env.get d = some u) := by
 unfold again at e
 unfold wpIn
 split at e
 ·next hw => rw [hw]; exact ⟨rfl,fun d _ h => by cases h⟩
 ·next k xs d hw hk hd =>
  rw [hw,hk]
  simp only
  split at e
  ·next vs hvs =>
   split at e
   ·next v hg =>
    simp only [hvs,e]
    exact ⟨trivial,fun d' hd' _ => by rw [hd] at hd'; cases hd'; exact hg⟩
   ·exact e.elim
  ·exact e.elim
 ·exact e.elim
end
end
section
structure Fine (P : Program) (n : Nat) (ops : Array Oper) (mk : Nat → Nat) (L : List DE) : Prop where
 of : ∀ x ∈ L,∃ o,ops[x.ix]? = some o ∧ compIn P n ops o = some x.i ∧ (x.eff = false → pureIn x.i = true ∨ readIn x.i = true)
 nodup : (L.map (·.ix)).Nodup
 all : ∀ i,i < ops.size → i ∈ L.map (·.ix)
 pred : ∀ p x q,L = p ++ x :: q → ∀ o,ops[x.ix]? = some o → ∀ e ∈ o.after,Region.binds .any e = true → e.on ∈ p.map (·.ix)
 ssa : ∀ p x q,L = p ++ x :: q → (x.eff = false → ∀ d,x.i.d = some d → d ∉ looks x.i) ∧ ∀ y ∈ q,∀ d,y.i.d = some d → (d ∉ looks x.i ∧ x.i.d ≠ some d) ∨ (y.eff = true ∧ (mk y.ix).testBit x.ix = true)
 data : ∀ p x q,L = p ++ x :: q → ∀ y ∈ p,y.eff = false → ∀ d,y.i.d = some d → d ∈ looks x.i → ∃ o e,ops[x.ix]? = some o ∧ e ∈ o.after ∧ Region.binds .any e = true ∧ e.on = y.ix
 len : L.length = ops.size
 re : ∀ p x q,L = p ++ x :: q → x.eff = true → effIn x.i = true → ∀ y ∈ p,y.eff = false → pureIn y.i = false → (mk x.ix).testBit y.ix = false → y.i ∈ x.re
 dst : ∀ x ∈ L,x.eff = false → pureIn x.i = false → x.i.d.isSome = true
 mask : ∀ (D : Nat → Prop),(∀ i o,ops[i]? = some o → D i → ∀ e ∈ o.after,Region.binds .any e = true → D e.on) → ∀ i o,ops[i]? = some o → (∀ e ∈ o.after,Region.binds .any e = true → D e.on) → ∀ j,(mk i).testBit j = true → D j
section
variable {P : Program} {base : Nat} {w0 w : World} {m : Mu} {h : Hp} {n : Nat} {env : Env} {ops : Array Oper} {mk : Nat → Nat} {L : List DE}
inductive DT where
 | nil : DT
 | one : DE → DT → DT
 | alt : DT → DT → DT
def wpT (P : Program) (CT : CTy) : DT → Env → Hp → (Env → Hp → Prop) → Prop
 | .nil,env,h,Q => Q env h
 | .one x t,env,h,Q => wpIn P CT x.i env h fun v h' => allAgain x.re env h' ∧ wpT P CT t (env.put x.i.d v) h' Q
 | .alt a b,env,h,Q => wpT P CT a env h Q ∧ wpT P CT b env h Q
def DT.heads : DT → List DE
 | .nil => []
 | .one x _ => [x]
 | .alt a b => a.heads ++ b.heads
def DT.paths : DT → List (List DE)
 | .nil => [[]]
 | .one x t => t.paths.map (x :: ·)
 | .alt a b => a.paths ++ b.paths
def DT.chain : List DE → DT
 | [] => .nil
 | x :: r => .one x (.chain r)
def DT.quiet1 : DT → Bool
 | .one x _ => !x.eff
 | _ => false
def hdT (mk : Nat → Nat) (R : List Nat) (t : DT) : Bool :=
 t.quiet1 || (t.heads.all (·.eff) && R.all fun y => t.heads.any (·.ix == y) || R.any fun z => (mk y).testBit z)
def covT (mk : Nat → Nat) : Bool → List Nat → DT → Bool
 | _,_,.nil => true
 | tp,R,.one x t => (!tp || hdT mk R (.one x t)) && covT mk true (R.filter (· != x.ix)) t
 | tp,R,.alt a b => (!tp || hdT mk R (.alt a b)) && covT mk false R a && covT mk false R b
theorem DT.paths_ne [Fl] : ∀ t : DT,∃ C,C ∈ t.paths
 | .nil => ⟨[],by simp [DT.paths]⟩
 | .one x t => by obtain ⟨C,h⟩ := t.paths_ne; exact ⟨x :: C,by simpa [DT.paths] using h⟩
 | .alt a b => by obtain ⟨C,h⟩ := a.paths_ne; exact ⟨C,by simp [DT.paths,h]⟩
theorem wpT_end [Fl] {CT : CTy} {env : Env} {h : Hp} {Q : Env → Hp → Prop} : ∀ {t : DT},[] ∈ t.paths → wpT P CT t env h Q → Q env h
 | .nil,_,w => w
 | .one x t,e,_ => by simp [DT.paths] at e
 | .alt a b,e,w => by
  rcases List.mem_append.1 (show [] ∈ a.paths ++ b.paths from e) with e | e
  ·exact wpT_end e w.1
  ·exact wpT_end e w.2
theorem cov_low [Fl] {mk : Nat → Nat} {R : List Nat} : ∀ {t : DT},covT mk true R t = true → covT mk false R t = true
 | .nil,_ => rfl
 | .one x t,h => by unfold covT at h ⊢; rw [Bool.and_eq_true] at h ⊢; exact ⟨rfl,h.2⟩
 | .alt a b,h => by unfold covT at h ⊢; simp only [Bool.and_eq_true] at h ⊢; exact ⟨⟨rfl,h.1.2⟩,h.2⟩
theorem cov_hd [Fl] {mk : Nat → Nat} {R : List Nat} : ∀ {t : DT},covT mk true R t = true → t = .nil ∨ hdT mk R t = true
 | .nil,_ => .inl rfl
 | .one x t,h => by unfold covT at h; simp only [Bool.and_eq_true,Bool.not_true,Bool.false_or] at h; exact .inr h.1
 | .alt a b,h => by unfold covT at h; simp only [Bool.and_eq_true,Bool.not_true,Bool.false_or] at h; exact .inr h.1.1
theorem DT.pick [Fl] {CT : CTy} {mk : Nat → Nat} {R : List Nat} {x : DE} : ∀ {t : DT},x ∈ t.heads → ∃ t2 : DT,(∀ env h Q,wpT P CT t env h Q → wpT P CT (.one x t2) env h Q) ∧ (∀ C ∈ t2.paths,x :: C ∈ t.paths) ∧ (covT mk false R t = true → covT mk true (R.filter (· != x.ix)) t2 = true)
 | .nil,h => by cases h
 | .one y t,h => by
  obtain rfl : x = y := by simpa [DT.heads] using h
  refine ⟨t,fun _ _ _ w => w,fun C hC => by simpa [DT.paths] using hC,fun c => ?_⟩
  unfold covT at c
  rw [Bool.and_eq_true] at c
  exact c.2
 | .alt a b,h => by
  rcases List.mem_append.1 (show x ∈ a.heads ++ b.heads from h) with h | h
  ·obtain ⟨t2,h1,h2,h3⟩ := DT.pick (t := a) h
   refine ⟨t2,fun _ _ _ w => h1 _ _ _ w.1,fun C hC => List.mem_append_left _ (h2 C hC),fun c => h3 ?_⟩
   unfold covT at c
   simp only [Bool.and_eq_true] at c
   exact c.1.2
  ·obtain ⟨t2,h1,h2,h3⟩ := DT.pick (t := b) h
   refine ⟨t2,fun _ _ _ w => h1 _ _ _ w.2,fun C hC => List.mem_append_right _ (h2 C hC),fun c => h3 ?_⟩
   unfold covT at c
   simp only [Bool.and_eq_true] at c
   exact c.2
def Pend [Fl] (P : Program) (env : Env) (h : Hp) (i : In) : Prop := wpIn P (ACall P) i env h fun v h' => h' = h ∧ ∀ d,i.d = some d → env.get d = some v
structure Inv [Fl] (P : Program) (base : Nat) (w0 : World) (n : Nat) (ops : Array Oper) (mk : Nat → Nat) (T : DT) (Q : Env → Hp → Prop) (m0 : Mu) (D : Nat → Prop) (don : List DE) (t : DT) (U : List DE) (m : Mu) (env : Env) (h : Hp) (a : Act) (w : World) : Prop where
 pre : ∀ C ∈ t.paths,don ++ C ∈ T.paths
 sub : U.Sublist don
 quiet : ∀ u ∈ U,u.eff = false
 wp : wpT P (ACall P) t env h Q
 dn : ∀ i,i < ops.size → (D i ↔ i ∈ don.map (·.ix) ∧ i ∉ U.map (·.ix))
 lt : ∀ i,D i → i < ops.size
 closed : ∀ i o,ops[i]? = some o → D i → ∀ e ∈ o.after,Region.binds .any e = true → D e.on
 cov : ∃ R,(∀ i,i ∈ R ↔ i < ops.size ∧ i ∉ don.map (·.ix)) ∧ covT mk true R t = true
 pend : ∀ u ∈ U,Pend P env h u.i
 tm : a.tmps.size = n ∧ ∀ t v,env.get t = some v → (∀ u ∈ U,u.i.d ≠ some t) → ∃ v',a.tmps[t]? = some v' ∧ RV m v v'
 df : a.defers = []
 sim : Sim base w0 m h w
 le : m0.le m
theorem get_put_ne [Fl] {env : Env} {d : Option Nat} {v : Value} {t : Nat} (ht : d ≠ some t) : (env.put d v).get t = env.get t := by
 cases d with
 | none => rfl
 | some d => simp only [Env.put,Env.get]; rw [if_neg (fun e => ht (by rw [e]))]
theorem get_put_same [Fl] {env : Env} {d : Nat} {v : Value} : (env.put (some d) v).get d = some v := by simp [Env.put,Env.get]
theorem dlt_of [Fl] {o : Oper} {i : In} (hi : compIn P n ops o = some i) : i.d = o.dst ∧ ∀ x,o.dst = some x → x < n := by
 unfold compIn at hi
 split at hi
 ·next hd =>
  split at hi
  ·cases hi
   exact ⟨rfl,fun x hx => by rw [hx] at hd; simpa [dOk] using hd⟩
  ·cases hi
 ·cases hi
theorem wpIn_mono [Fl] {i : In} {env : Env} {h : Hp} {R R' : Value → Hp → Prop} (e : wpIn P (ACall P) i env h R) (hr : ∀ v h',R v h' → R' v h') : wpIn P (ACall P) i env h R' := by
 unfold wpIn at e ⊢
 split at e
 ·exact e
 ·exact hr _ _ e
 ·split at e
  ·split at e
   ·exact e
   ·split at e
    ·exact e
    ·exact hr _ _ e
  ·split at e
   ·exact e
   ·exact hr _ _ e
  ·split at e
   ·exact e
   ·exact e.mono hr
  ·split at e
   ·exact e.mono hr
   ·exact e
theorem wpT_chain [Fl] : ∀ {L : List DE} {env : Env} {h : Hp} {Q : Env → Hp → Prop},wpD P (ACall P) L env h Q → wpT P (ACall P) (.chain L) env h Q
 | [],_,_,_,e => e
 | x :: r,env,h,Q,e => by
  unfold wpD at e
  unfold DT.chain wpT
  exact wpIn_mono e fun v h' hh => ⟨hh.1,wpT_chain hh.2⟩
theorem Inv.advance [Fl] {T t : DT} {Q : Env → Hp → Prop} {m0 : Mu} {D : Nat → Prop} {don U : List DE} {c : DE} {a : Act} (F : ∀ L ∈ T.paths,Fine P n ops mk L) (I : Inv P base w0 n ops mk T Q m0 D don (.one c t) U m env h a w) (hq : c.eff = false) :
  ∃ env',Inv P base w0 n ops mk T Q m0 D (don ++ [c]) t (U ++ [c]) m env' h a w := by
 obtain ⟨C,hC⟩ := t.paths_ne
 have hsp : don ++ c :: C ∈ T.paths := I.pre _ (by simpa [DT.paths] using hC)
 have F' := F _ hsp
 obtain ⟨o,ho,hci,hqu⟩ := F'.of c (by simp)
 have hw := I.wp
 simp only [wpT] at hw
 obtain ⟨v,⟨_,hR⟩,hv⟩ := quiet_in (hqu hq) hw
 obtain ⟨s1,s2⟩ := F'.ssa don c C rfl
 have hns := noSel_of hci
 have hcl : c.ix < ops.size := (Array.getElem?_eq_some_iff.1 ho).1
 have hnd : c.ix ∉ don.map (·.ix) := by
  intro hm
  have := F'.nodup
  rw [List.map_append,List.nodup_append] at this
  exact this.2.2 _ hm _ (by simp) rfl
 refine ⟨env.put c.i.d v,?_⟩
 have keep : ∀ t,t ∈ looks c.i → (env.put c.i.d v).get t = env.get t := fun t ht => get_put_ne fun hd => s1 hq t hd ht
 have keepU : ∀ u ∈ U,∀ t,(t ∈ looks u.i ∨ u.i.d = some t) → (env.put c.i.d v).get t = env.get t := by
  intro u hu t ht
  refine get_put_ne fun hd => ?_
  obtain ⟨p,q,hpq⟩ := List.append_of_mem (I.sub.subset hu)
  have := ((F'.ssa p u (q ++ c :: C) (by rw [hpq]; simp)).2 c (by simp) t hd).resolve_right (fun h => by rw [hq] at h; cases h.1)
  rcases ht with ht | ht
  ·exact this.1 ht
  ·exact this.2 ht
 obtain ⟨R,hR1,hR2⟩ := I.cov
 refine ⟨fun C' hC' => ?_,I.sub.append (List.Sublist.refl _),?_,hR,?_,I.lt,I.closed,⟨R.filter (· != c.ix),fun i => ?_,?_⟩,?_,⟨I.tm.1,?_⟩,I.df,I.sim,I.le⟩
 ·rw [List.append_assoc]
  exact I.pre _ (by simpa [DT.paths] using hC')
 ·intro u hu
  rcases List.mem_append.1 hu with hu | hu
  ·exact I.quiet u hu
  ·simp at hu; subst hu; exact hq
 ·intro i hi
  rw [I.dn i hi]
  simp only [List.map_cons,List.map_append,List.mem_append,List.map_nil,List.mem_cons,List.not_mem_nil,or_false]
  constructor
  ·rintro ⟨h1,h2⟩
   exact ⟨.inl h1,fun hu => hu.elim h2 fun hc => hnd (hc ▸ h1)⟩
  ·rintro ⟨h1,h2⟩
   exact ⟨h1.resolve_right fun hc => h2 (.inr hc),fun hu => h2 (.inl hu)⟩
 ·rw [List.mem_filter,hR1]
  simp only [List.map_append,List.mem_append,List.map_cons,List.map_nil,List.mem_cons,List.not_mem_nil,or_false,bne_iff_ne,ne_eq,not_or]
  exact ⟨fun h => ⟨h.1.1,h.1.2,h.2⟩,fun h => ⟨⟨h.1,h.2.1⟩,h.2.2⟩⟩
 ·unfold covT at hR2
  rw [Bool.and_eq_true] at hR2
  exact hR2.2
 ·intro u hu
  rcases List.mem_append.1 hu with hu | hu
  ·have hp := I.pend u hu
   obtain ⟨ou,_,hcu,_⟩ := F'.of u (List.mem_append_left _ (I.sub.subset hu))
   unfold Pend at hp ⊢
   refine wpIn_congr (noSel_of hcu) (fun t ht => (keepU u hu t (.inl ht)).symm) (wpIn_mono hp ?_)
   rintro v2 h2 ⟨rfl,hg⟩
   exact ⟨rfl,fun d hd => by rw [keepU u hu d (.inr hd)]; exact hg d hd⟩
  ·simp at hu
   subst hu
   unfold Pend
   refine wpIn_congr hns (fun t ht => (keep t ht).symm) (wpIn_mono hv ?_)
   rintro v2 h2 ⟨rfl,rfl⟩
   exact ⟨rfl,fun d hd => by rw [hd]; exact get_put_same⟩
 ·intro t x e hu
  have hne : c.i.d ≠ some t := hu c (by simp)
  rw [get_put_ne hne] at e
  exact I.tm.2 t x e fun u hu' => hu u (List.mem_append_left _ hu')
theorem Inv.settle1 [Fl] {T t : DT} {Q : Env → Hp → Prop} {m0 : Mu} {D : Nat → Prop} {a : Act} {i : Nat} {o : Oper} {don U : List DE} (F : ∀ L ∈ T.paths,Fine P n ops mk L) (ho : ops[i]? = some o) (hr : ∀ e ∈ o.after,Region.binds .any e = true → D e.on) (hi : ¬ D i)
  (I : Inv P base w0 n ops mk T Q m0 D don t U m env h a w) (hq : t.quiet1 = false) :
  ∃ don' t' U' env',Inv P base w0 n ops mk T Q m0 D don' t' U' m env' h a w ∧ U'.length + don.length = U.length + don'.length ∧ (i ∈ U'.map (·.ix) ∨ ∃ c ∈ t'.heads,c.ix = i ∧ c.eff = true) := by
 have hil := (Array.getElem?_eq_some_iff.1 ho).1
 refine ⟨don,t,U,env,I,by omega,?_⟩
 by_cases hu : i ∈ U.map (·.ix)
 ·exact .inl hu
 have hdon : i ∉ don.map (·.ix) := fun hd => hi ((I.dn i hil).2 ⟨hd,hu⟩)
 obtain ⟨R,hR1,hR2⟩ := I.cov
 have hiR := (hR1 i).2 ⟨hil,hdon⟩
 rcases cov_hd hR2 with rfl | hh
 ·have F' := F _ (I.pre [] (by simp [DT.paths]))
  rw [List.append_nil] at F'
  exact absurd (F'.all i hil) hdon
 ·unfold hdT at hh
  rw [hq,Bool.false_or,Bool.and_eq_true] at hh
  have h1 := List.all_eq_true.1 hh.2 i hiR
  rw [Bool.or_eq_true] at h1
  rcases h1 with h1 | h1
  ·obtain ⟨c,hc,hci⟩ := List.any_eq_true.1 h1
   exact .inr ⟨c,hc,by simpa using hci,List.all_eq_true.1 hh.1 c hc⟩
  ·obtain ⟨z,hz,hb⟩ := List.any_eq_true.1 h1
   obtain ⟨C,hC⟩ := t.paths_ne
   have hD := (F _ (I.pre _ hC)).mask D I.closed i o ho hr z hb
   exact absurd ((I.dn z (I.lt z hD)).1 hD).1 ((hR1 z).1 hz).2
theorem Inv.settle [Fl] {T : DT} {Q : Env → Hp → Prop} {m0 : Mu} {D : Nat → Prop} {a : Act} {i : Nat} {o : Oper} (F : ∀ L ∈ T.paths,Fine P n ops mk L) (ho : ops[i]? = some o) (hr : ∀ e ∈ o.after,Region.binds .any e = true → D e.on) (hi : ¬ D i) :
  ∀ (t : DT) {don U : List DE} {env : Env},Inv P base w0 n ops mk T Q m0 D don t U m env h a w →
  ∃ don' t' U' env',Inv P base w0 n ops mk T Q m0 D don' t' U' m env' h a w ∧ U'.length + don.length = U.length + don'.length ∧ (i ∈ U'.map (·.ix) ∨ ∃ c ∈ t'.heads,c.ix = i ∧ c.eff = true) := by
 intro t
 induction t with
 | nil =>
  intro don U env I
  have hil := (Array.getElem?_eq_some_iff.1 ho).1
  refine ⟨don,.nil,U,env,I,by omega,.inl ?_⟩
  have F' := F _ (I.pre [] (by simp [DT.paths]))
  rw [List.append_nil] at F'
  by_cases hu : i ∈ U.map (·.ix)
  ·exact hu
  ·exact absurd ((I.dn i hil).2 ⟨F'.all i hil,hu⟩) hi
 | one c t ih =>
  intro don U env I
  by_cases hc : c.eff = false
  ·obtain ⟨env',I'⟩ := I.advance F hc
   obtain ⟨don',t',U',env2,I2,hl,hh⟩ := ih I'
   exact ⟨don',t',U',env2,I2,by simp at hl ⊢; omega,hh⟩
  ·exact I.settle1 F ho hr hi (by simpa [DT.quiet1] using hc)
 | alt x y _ _ =>
  intro don U env I
  exact I.settle1 F ho hr hi rfl
def keepE (U : List DE) (env : Env) : Env := env.filter fun p => U.all fun u => u.i.d != some p.1
theorem get_keep [Fl] {U : List DE} : ∀ {env : Env} {t : Nat},(keepE U env).get t = if (∀ u ∈ U,u.i.d ≠ some t) then env.get t else none := by
 intro env
 induction env with
 | nil => intro t; simp [keepE,Env.get]
 | cons p env ih =>
  intro t
  obtain ⟨k,v⟩ := p
  have ih := ih (t := t)
  unfold keepE at ih ⊢
  by_cases hk : (U.all fun u => u.i.d != some k) = true
  ·rw [List.filter_cons_of_pos (p := fun p : Nat × Value => U.all fun u => u.i.d != some p.1) (a := (k,v)) hk]
   simp only [Env.get]
   by_cases hkt : k = t
   ·subst hkt
    have : ∀ u ∈ U,u.i.d ≠ some k := by simpa using hk
    rw [if_pos this,if_pos rfl,if_pos rfl]
   ·simp only [if_neg hkt]; exact ih
  ·rw [List.filter_cons_of_neg (p := fun p : Nat × Value => U.all fun u => u.i.d != some p.1) (a := (k,v)) hk]
   simp only [Env.get]
   by_cases hkt : k = t
   ·subst hkt
    have : ¬ ∀ u ∈ U,u.i.d ≠ some k := fun hh => hk (by simpa using hh)
    rw [if_neg this]
    rw [if_neg this] at ih
    exact ih
   ·simp only [if_neg hkt]; exact ih
theorem Inv.keep [Fl] {T t : DT} {Q : Env → Hp → Prop} {m0 : Mu} {D : Nat → Prop} {don U : List DE} {a : Act} (I : Inv P base w0 n ops mk T Q m0 D don t U m env h a w) : REnv m n (keepE U env) a.tmps := by
 refine ⟨I.tm.1,fun t v e => ?_⟩
 rw [get_keep] at e
 split at e
 ·next hu => exact I.tm.2 t v e hu
 ·cases e
theorem Inv.apart [Fl] {T t : DT} {Q : Env → Hp → Prop} {m0 : Mu} {D : Nat → Prop} {don C U : List DE} {a : Act} {x : DE} {o : Oper} (F : ∀ L ∈ T.paths,Fine P n ops mk L) (I : Inv P base w0 n ops mk T Q m0 D don t U m env h a w)
  (hC : C ∈ t.paths) (hx : x ∈ don ++ C) (ho : ops[x.ix]? = some o) (hr : ∀ e ∈ o.after,Region.binds .any e = true → D e.on) : ∀ t ∈ looks x.i,∀ u ∈ U,u.i.d ≠ some t := by
 intro t ht u hu hd
 have F' := F _ (I.pre _ hC)
 obtain ⟨p,q,hL⟩ := List.append_of_mem hx
 have huL : u ∈ don ++ C := List.mem_append_left _ (I.sub.subset hu)
 rw [hL] at huL
 rcases List.mem_append.1 huL with h1 | h1
 ·obtain ⟨o2,e,ho2,he,hb,hon⟩ := F'.data p x q hL u h1 (I.quiet u hu) t hd ht
  rw [ho] at ho2
  cases ho2
  have hD := hr e he hb
  rw [hon] at hD
  exact ((I.dn _ (I.lt _ hD)).1 hD).2 (List.mem_map_of_mem hu)
 ·rcases List.mem_cons.1 h1 with rfl | h1
  ·exact (F'.ssa p u q hL).1 (I.quiet u hu) t hd ht
  ·exact (((F'.ssa p x q hL).2 u h1 t hd).resolve_right (fun h => by rw [I.quiet u hu] at h; cases h.1)).1 ht
theorem setT_get [Fl] {l : Array Bool} {i j : Nat} (hi : i < l.size) : (l.setIfInBounds i true)[j]? = some true ↔ (l[j]? = some true ∨ j = i) := by
 rw [Array.getElem?_setIfInBounds]
 by_cases h : i = j
 ·subst h
  rw [if_pos rfl,if_pos hi]
  simp
 ·rw [if_neg h]
  constructor
  ·exact .inl
  ·rintro (h1 | h1)
   ·exact h1
   ·exact absurd h1.symm h
theorem ix_inj [Fl] {L : List DE} (hn : (L.map (·.ix)).Nodup) {x y : DE} (hx : x ∈ L) (hy : y ∈ L) (e : x.ix = y.ix) : x = y := by
 obtain ⟨i,hi⟩ := List.getElem?_of_mem hx
 obtain ⟨j,hj⟩ := List.getElem?_of_mem hy
 have h1 : (L.map (·.ix))[i]? = some x.ix := by simp [hi]
 have h2 : (L.map (·.ix))[j]? = some x.ix := by simp [hj,e]
 have hij := (List.getElem?_inj (by have := (List.getElem?_eq_some_iff.1 h1).1; exact this) hn).1 (h1.trans h2.symm)
 subst hij
 rw [hi] at hj
 exact Option.some.inj hj
theorem apart_of [Fl] {L p q : List DE} (hn : (L.map (·.ix)).Nodup) (hL : L = p ++ q) {x y : DE} (hx : x ∈ p) (hy : y ∈ q) : x.ix ≠ y.ix := by
 rw [hL,List.map_append,List.nodup_append] at hn
 exact hn.2.2 _ (List.mem_map_of_mem hx) _ (List.mem_map_of_mem hy)
theorem pend_again [Fl] {i : In} {h2 : Hp} (hr : readIn i = true) (p : Pend P env h i) (a : again i env h2) : Pend P env h2 i := by
 have ha := again_in (P := P) (CT := ACall P) hr a
 unfold Pend at p ⊢
 unfold wpIn at p ha ⊢
 split at p
 ·exact p.elim
 ·next hw => exact ⟨rfl,p.2⟩
 ·next hw =>
  simp only [hw] at ha
  simp only
  split at ha
  ·next k xs hk =>
   try simp only [hk]
   split at ha
   ·exact ha.elim
   ·next vs hvs =>
    try simp only [hvs]
    split at ha
    ·exact ha.elim
    ·next v h3 hst => exact ⟨ha.1,fun d hd => ha.2 d hd trivial⟩
  ·next hk => simp [readIn,hk] at hr
  ·next hk => simp [readIn,hk] at hr
  ·next hk => simp [readIn,hk] at hr
theorem pend_pure [Fl] {i : In} {h2 : Hp} (hr : pureIn i = true) (p : Pend P env h i) : Pend P env h2 i := by
 unfold Pend at p ⊢
 obtain ⟨v,⟨_,hv⟩,hw⟩ := quiet_in (.inl hr) p
 refine wpIn_mono (pure_in (h2 := h2) hr hw) ?_
 rintro v2 h3 ⟨rfl,rfl⟩
 exact ⟨rfl,hv⟩
theorem allAgain_mem [Fl] {l : List In} {i : In} (a : allAgain l env h) (hi : i ∈ l) : again i env h := by
 induction l with
 | nil => cases hi
 | cons x l ih =>
  simp only [allAgain] at a
  rcases List.mem_cons.1 hi with rfl | hi
  ·exact a.1
  ·exact ih a.2 hi
theorem Inv.run [Fl] {T : DT} {Q : Env → Hp → Prop} {m0 : Mu} {Q' : Exit → Act → World → Prop} (F : ∀ L ∈ T.paths,Fine P n ops mk L)
  (hq : ∀ m' env' h' a' w',m0.le m' → REnv m' n env' a'.tmps → a'.defers = [] → Sim base w0 m' h' w' → Q env' h' → Q' .normal a' w') :
  ∀ (fuel : Nat) (listed : Array Bool) (don : List DE) (t : DT) (U : List DE) (m : Mu) (env : Env) (h : Hp) (a : Act) (w : World),listed.size = ops.size → U.length + ops.size = fuel + don.length →
   Inv P base w0 n ops mk T Q m0 (fun i => listed[i]? = some true) don t U m env h a w → wpAny P .any ops Q' fuel listed a w := by
 intro fuel
 induction fuel with
 | zero =>
  intro listed don t U m env h a w hls hf I
  obtain ⟨C,hC⟩ := t.paths_ne
  have F' := F _ (I.pre _ hC)
  have hlen := F'.len
  rw [List.length_append] at hlen
  have hU : U = [] := List.eq_nil_of_length_eq_zero (by omega)
  have hC0 : C = [] := List.eq_nil_of_length_eq_zero (by omega)
  subst hU hC0
  rw [List.append_nil] at F'
  have hQ := wpT_end hC I.wp
  refine ⟨?_,?_⟩
  ·refine List.eq_nil_iff_forall_not_mem.2 fun j hj => ?_
   obtain ⟨h1,o,ho,_⟩ := mem_ready.1 hj
   have hjl := (Array.getElem?_eq_some_iff.1 ho).1
   have := (I.dn j hjl).2 ⟨F'.all j hjl,by simp⟩
   simp [Array.getD_eq_getD_getElem?,this] at h1
  ·refine hq m env h a w I.le ⟨I.tm.1,fun t v e => I.tm.2 t v e (by simp)⟩ I.df I.sim hQ
 | succ fuel ih =>
  intro listed don t U m env h a w hls hf I
  refine ⟨fun hnil => ?_,fun i hi => ?_⟩
  ·exfalso
   obtain ⟨C,hC⟩ := t.paths_ne
   have hsp := I.pre _ hC
   have F' := F _ hsp
   obtain ⟨L,hLE⟩ : ∃ L,don ++ C = L := ⟨_,rfl⟩
   rw [hLE] at hsp F'
   -- what stands first is ready
   have key : ∀ (p q : List DE) (x : DE),L = p ++ x :: q → (∀ y ∈ p,y ∉ C ∧ y ∉ U) → ¬ (listed[x.ix]? = some true) → False := by
    intro p q x hL hp hx
    obtain ⟨o,ho,_⟩ := F'.of x (by rw [hL]; simp)
    have hxl := (Array.getElem?_eq_some_iff.1 ho).1
    have : x.ix ∈ Region.ready .any ops listed := by
     rw [mem_ready]
     refine ⟨?_,o,ho,fun e he hb => ?_⟩
     ·have hlt : x.ix < listed.size := by rw [hls]; exact hxl
      rw [Array.getElem?_eq_getElem hlt] at hx
      simp [Array.getD_eq_getD_getElem?,Array.getElem?_eq_getElem hlt]
      simpa using hx
     ·have hon := F'.pred p x q hL o ho e he hb
      obtain ⟨y,hy,hyi⟩ := List.mem_map.1 hon
      have hyL : y ∈ L := by rw [hL]; simp [hy]
      obtain ⟨oy,hoy,_⟩ := F'.of y hyL
      have hyl := (Array.getElem?_eq_some_iff.1 hoy).1
      have hny : ∀ (S : List DE),S ⊆ L → y ∉ S → y.ix ∉ S.map (·.ix) := by
       intro S hS hyS hm
       obtain ⟨z,hz,hzi⟩ := List.mem_map.1 hm
       have := ix_inj F'.nodup (hS hz) hyL hzi
       exact hyS (this ▸ hz)
      have hydon : y ∈ don := by
       rw [← hLE] at hyL
       exact (List.mem_append.1 hyL).resolve_right (hp y hy).1
      have hD := (I.dn y.ix hyl).2 ⟨List.mem_map_of_mem hydon,hny U (fun z hz => by rw [← hLE]; exact List.mem_append_left _ (I.sub.subset hz)) (hp y hy).2⟩
      rw [hyi] at hD
      simp [Array.getD_eq_getD_getElem?,hD]
    rw [hnil] at this
    cases this
   have hlen := F'.len
   rw [← hLE,List.length_append] at hlen
   cases U with
   | nil =>
    cases C with
    | nil => simp at hf hlen; omega
    | cons c C =>
     have hnd := F'.nodup
     rw [← hLE] at hnd
     refine key don C c hLE.symm (fun y hy => ⟨fun hc => ?_,by simp⟩) (fun hD => ?_)
     ·rw [List.map_append,List.nodup_append] at hnd
      exact hnd.2.2 _ (List.mem_map_of_mem hy) _ (List.mem_map_of_mem hc) rfl
     ·obtain ⟨o,ho,_⟩ := F'.of c (by rw [← hLE]; simp)
      have hm := ((I.dn c.ix (Array.getElem?_eq_some_iff.1 ho).1).1 hD).1
      rw [List.map_append,List.nodup_append] at hnd
      exact hnd.2.2 _ hm _ (by simp) rfl
   | cons u U =>
    obtain ⟨r1,r2,hr,hu,hsub⟩ := List.cons_sublist_iff.1 I.sub
    obtain ⟨a1,a2,hr1⟩ := List.append_of_mem hu
    have hL : L = a1 ++ u :: (a2 ++ (r2 ++ C)) := by rw [← hLE,hr,hr1]; simp
    refine key a1 _ u hL (fun y hy => ⟨fun hc => ?_,fun hc => ?_⟩) (fun hD => ?_)
    ·exact apart_of F'.nodup hL hy (y := y) (by simp [hc]) rfl
    ·rcases List.mem_cons.1 hc with rfl | hc
     ·exact apart_of F'.nodup hL hy (y := y) (by simp) rfl
     ·exact apart_of F'.nodup hL hy (y := y) (by simp [hsub.subset hc]) rfl
    ·obtain ⟨o,ho,_⟩ := F'.of u (by rw [hL]; simp)
     exact ((I.dn u.ix (Array.getElem?_eq_some_iff.1 ho).1).1 hD).2 (by simp)
  ·obtain ⟨h1,o,ho,hpred⟩ := mem_ready.1 hi
   have hil := (Array.getElem?_eq_some_iff.1 ho).1
   have hnD : ¬ (listed[i]? = some true) := by
    intro hD
    simp [Array.getD_eq_getD_getElem?,hD] at h1
   have hpr : ∀ e ∈ o.after,Region.binds .any e = true → listed[e.on]? = some true := by
    intro e he hb
    have := hpred e he hb
    cases hx : listed[e.on]? with
    | none => simp [Array.getD_eq_getD_getElem?,hx] at this
    | some b => simp [Array.getD_eq_getD_getElem?,hx] at this; rw [this]
   obtain ⟨don',t',U',env',I',hlen,hcase⟩ := I.settle F ho hpr hnD
   obtain ⟨C',hC'⟩ := t'.paths_ne
   have F' := F _ (I'.pre _ hC')
   have hls' : (listed.setIfInBounds i true).size = ops.size := by simpa using hls
   have hcl : ∀ (j : Nat) (o2 : Oper),ops[j]? = some o2 → (listed.setIfInBounds i true)[j]? = some true → ∀ e ∈ o2.after,Region.binds .any e = true → (listed.setIfInBounds i true)[e.on]? = some true := by
    intro j o2 ho2 hj e he hb
    rw [setT_get (by rw [hls]; exact hil)] at hj ⊢
    rcases hj with hj | rfl
    ·exact .inl (I'.closed j o2 ho2 hj e he hb)
    ·rw [ho] at ho2; cases ho2
     exact .inl (hpr e he hb)
   have hlt : ∀ j,(listed.setIfInBounds i true)[j]? = some true → j < ops.size := by
    intro j hj
    have := (Array.getElem?_eq_some_iff.1 hj).1
    omega
   rcases hcase with hu | ⟨c,hch,hci,hceff⟩
   ·-- a read that waited
    obtain ⟨u,huU,hui⟩ := List.mem_map.1 hu
    obtain ⟨p,q,hU⟩ := List.append_of_mem huU
    have huL : u ∈ don' ++ C' := List.mem_append_left _ (I'.sub.subset huU)
    obtain ⟨o2,ho2,hcu,_⟩ := F'.of u huL
    rw [hui,ho] at ho2
    cases ho2
    have hap := I'.apart F hC' huL (by rw [hui]; exact ho) hpr
    have hpend := I'.pend u huU
    unfold Pend at hpend
    have hpend2 := wpIn_congr (env' := keepE U' env') (noSel_of hcu) (fun t ht => by rw [get_keep,if_pos (hap t ht)]) hpend
    refine wpIn_sound ho hcu I'.keep I'.sim hpend2 ?_
    rintro m2 v v' w2 h2 hm rv s2 ⟨rfl,hv⟩
    obtain ⟨hd1,hd2⟩ := dlt_of hcu
    have hUn : ∀ y ∈ p ++ q,y.ix ≠ u.ix := by
     intro y hy
     have hnU : (U'.map (·.ix)).Nodup := by
      have := F'.nodup
      rw [List.map_append,List.nodup_append] at this
      exact (I'.sub.map _).nodup this.1
     rw [hU,List.map_append,List.map_cons,List.nodup_append,List.nodup_cons] at hnU
     rcases List.mem_append.1 hy with hy | hy
     ·exact hnU.2.2 _ (List.mem_map_of_mem hy) _ (by simp)
     ·exact fun e => hnU.2.1.1 (by rw [← e]; exact List.mem_map_of_mem hy)
    refine ih _ don' t' (p ++ q) m2 env' h2 _ w2 hls' (by rw [hU] at hlen; simp at hlen ⊢; omega) ⟨I'.pre,?_,?_,I'.wp,?_,hlt,hcl,I'.cov,?_,⟨by cases o.dst <;> simp [Act.put,I'.tm.1],?_⟩,?_,s2,Mu.le_trans I'.le hm⟩
    ·exact List.Sublist.trans (by rw [hU]; exact List.Sublist.append (List.Sublist.refl _) (List.sublist_cons_self _ _)) I'.sub
    ·intro y hy; exact I'.quiet y (by rw [hU]; rcases List.mem_append.1 hy with h | h <;> simp [h])
    ·intro j hj
     rw [setT_get (by rw [hls]; exact hil),I'.dn j hj,hU]
     simp only [List.map_append,List.map_cons,List.mem_append,List.mem_cons]
     constructor
     ·rintro (⟨h1,h2⟩ | rfl)
      ·exact ⟨h1,fun h => h2 (h.elim .inl fun h => .inr (.inr h))⟩
      ·refine ⟨?_,fun hc => ?_⟩
       ·rw [← hui]; exact List.mem_map_of_mem (I'.sub.subset huU)
       ·rcases hc with hc | hc
        ·obtain ⟨y,hy,hyi⟩ := List.mem_map.1 hc
         exact hUn y (List.mem_append_left _ hy) (by rw [hyi,hui])
        ·obtain ⟨y,hy,hyi⟩ := List.mem_map.1 hc
         exact hUn y (List.mem_append_right _ hy) (by rw [hyi,hui])
     ·rintro ⟨h1,h2⟩
      by_cases hji : j = i
      ·exact .inr hji
      ·exact .inl ⟨h1,fun h => h.elim (fun h => h2 (.inl h)) fun h => h.elim (fun h => hji (by rw [h,hui])) fun h => h2 (.inr h)⟩
    ·intro y hy; exact I'.pend y (by rw [hU]; rcases List.mem_append.1 hy with h | h <;> simp [h])
    ·intro t x e hne
     by_cases hut : u.i.d = some t
     ·have hx := hv t hut
      rw [e] at hx
      cases hx
      rw [hd1] at hut
      refine ⟨v',?_,rv⟩
      simp [hut,Act.put,I'.tm.1,hd2 t hut]
     ·obtain ⟨x',h1,h2⟩ := I'.tm.2 t x e (by
       intro y hy
       rw [hU] at hy
       rcases List.mem_append.1 hy with h | h
       ·exact hne y (by simp [h])
       ·rcases List.mem_cons.1 h with rfl | h
        ·exact hut
        ·exact hne y (by simp [h]))
      refine ⟨x',?_,h2.mono hm⟩
      rw [hd1] at hut
      cases hdd : o.dst with
      | none => exact h1
      | some d => simp only [Act.put]; rw [Array.getElem?_setIfInBounds,if_neg (fun e => hut (by rw [hdd,e]))]; exact h1
    ·have := I'.df; cases o.dst <;> exact this
   ·-- one of the next writes
    obtain ⟨t2,ht1,ht2,ht3⟩ := DT.pick (CT := ACall P) (mk := mk) (R := I'.cov.choose) hch
    obtain ⟨hR1,hR2⟩ := I'.cov.choose_spec
    generalize I'.cov.choose = R at ht3 hR1 hR2
    obtain ⟨C2,hC2⟩ := t2.paths_ne
    have hCP := ht2 C2 hC2
    have F' := F _ (I'.pre _ hCP)
    have hcL : c ∈ don' ++ c :: C2 := by simp
    obtain ⟨o2,ho2,hcu,_⟩ := F'.of c hcL
    rw [hci,ho] at ho2
    cases ho2
    have hap := I'.apart F hCP hcL (by rw [hci]; exact ho) hpr
    have hw := ht1 _ _ _ I'.wp
    simp only [wpT] at hw
    have hw1 : wpIn P (ACall P) c.i env' h (fun v h' => (allAgain c.re env' h' ∧ wpT P (ACall P) t2 (env'.put c.i.d v) h' Q) ∧ (effIn c.i = false → h' = h)) := by
     by_cases hef : effIn c.i = true
     ·exact wpIn_mono hw fun v h' hh => ⟨hh,fun he => by rw [hef] at he; cases he⟩
     ·have hqq : pureIn c.i = true ∨ readIn c.i = true := by
       cases hp : pureIn c.i with
       | true => exact .inl rfl
       | false => right; simpa [effIn,hp] using hef
      obtain ⟨v,hR,hv⟩ := quiet_in hqq hw
      refine wpIn_mono hv ?_
      rintro u h' ⟨rfl,rfl⟩
      exact ⟨hR,fun _ => rfl⟩
    have hw2 := wpIn_congr (env' := keepE U' env') (noSel_of hcu) (fun t ht => by rw [get_keep,if_pos (hap t ht)]) hw1
    refine wpIn_sound ho hcu I'.keep I'.sim hw2 ?_
    rintro m2 v v' w2 h2 hm rv s2 ⟨⟨hag,hwD⟩,hsame⟩
    obtain ⟨hd1,hd2⟩ := dlt_of hcu
    have hcd : c.ix ∉ don'.map (·.ix) := by
     intro hx
     have := F'.nodup
     rw [List.map_append,List.nodup_append] at this
     exact this.2.2 _ hx _ (by simp) rfl
    have keepU : ∀ u ∈ U',∀ t,(t ∈ looks u.i ∨ u.i.d = some t) → (env'.put c.i.d v).get t = env'.get t := by
     intro u hu t ht
     refine get_put_ne fun hd => ?_
     obtain ⟨p,q,hpq⟩ := List.append_of_mem (I'.sub.subset hu)
     have := ((F'.ssa p u (q ++ c :: C2) (by rw [hpq]; simp)).2 c (by simp) t hd).resolve_right (fun h => by
      have hb := h.2
      rw [hci] at hb
      have hD := F'.mask _ I'.closed i o ho hpr u.ix hb
      have huL : u ∈ don' ++ c :: C2 := List.mem_append_left _ (I'.sub.subset hu)
      obtain ⟨ou,hou,_⟩ := F'.of u huL
      exact ((I'.dn u.ix (Array.getElem?_eq_some_iff.1 hou).1).1 hD).2 (List.mem_map_of_mem hu))
     rcases ht with ht | ht
     ·exact this.1 ht
     ·exact this.2 ht
    refine ih _ (don' ++ [c]) t2 U' m2 (env'.put c.i.d v) h2 _ w2 hls' (by simp at hlen ⊢; omega) ⟨fun C3 hC3 => ?_,List.Sublist.trans I'.sub (List.sublist_append_left _ _),I'.quiet,hwD,?_,hlt,hcl,⟨R.filter (· != c.ix),fun j => ?_,ht3 (cov_low hR2)⟩,?_,⟨by cases o.dst <;> simp [Act.put,I'.tm.1],?_⟩,?_,s2,Mu.le_trans I'.le hm⟩
    ·rw [List.append_assoc]
     exact I'.pre _ (ht2 C3 hC3)
    ·intro j hj
     rw [setT_get (by rw [hls]; exact hil),I'.dn j hj]
     simp only [List.map_append,List.map_cons,List.map_nil,List.mem_append,List.mem_cons,List.not_mem_nil,or_false]
     constructor
     ·rintro (⟨h1,h2⟩ | rfl)
      ·exact ⟨.inl h1,h2⟩
      ·refine ⟨.inr hci.symm,fun hc => ?_⟩
       obtain ⟨y,hy,hyi⟩ := List.mem_map.1 hc
       exact hcd (by rw [hci,← hyi]; exact List.mem_map_of_mem (I'.sub.subset hy))
     ·rintro ⟨h1,h2⟩
      rcases h1 with h1 | h1
      ·exact .inl ⟨h1,h2⟩
      ·exact .inr (h1.trans hci)
    ·rw [List.mem_filter,hR1]
     simp only [List.map_append,List.mem_append,List.map_cons,List.map_nil,List.mem_cons,List.not_mem_nil,or_false,bne_iff_ne,ne_eq,not_or]
     exact ⟨fun h => ⟨h.1.1,h.1.2,h.2⟩,fun h => ⟨⟨h.1,h.2.1⟩,h.2.2⟩⟩
    ·intro u hu
     have huL : u ∈ don' ++ c :: C2 := List.mem_append_left _ (I'.sub.subset hu)
     obtain ⟨ou,hou,hcou,hqu⟩ := F'.of u huL
     have hp := I'.pend u hu
     have hp2 : Pend P env' h2 u.i := by
      by_cases hpu : pureIn u.i = true
      ·exact pend_pure hpu hp
      ·have hru : readIn u.i = true := (hqu (I'.quiet u hu)).resolve_left hpu
       by_cases hef : effIn c.i = true
       case neg => rw [hsame (by simpa using hef)]; exact hp
       refine pend_again hru hp (allAgain_mem hag ?_)
       refine F'.re don' c C2 rfl hceff hef u (I'.sub.subset hu) (I'.quiet u hu) (by simpa using hpu) ?_
       cases hb : (mk c.ix).testBit u.ix with
       | false => rfl
       | true =>
        rw [hci] at hb
        have hD := F'.mask _ I'.closed i o ho hpr u.ix hb
        exact absurd (List.mem_map_of_mem hu) ((I'.dn u.ix (Array.getElem?_eq_some_iff.1 hou).1).1 hD).2
     unfold Pend at hp2 ⊢
     refine wpIn_congr (noSel_of hcou) (fun t ht => (keepU u hu t (.inl ht)).symm) (wpIn_mono hp2 ?_)
     rintro v2 h3 ⟨rfl,hg⟩
     exact ⟨rfl,fun d hd => by rw [keepU u hu d (.inr hd)]; exact hg d hd⟩
    ·intro t x e hne
     by_cases hut : c.i.d = some t
     ·rw [hut,get_put_same] at e
      cases e
      rw [hd1] at hut
      refine ⟨v',?_,rv⟩
      simp [hut,Act.put,I'.tm.1,hd2 t hut]
     ·rw [get_put_ne hut] at e
      obtain ⟨x',h1,h2⟩ := I'.tm.2 t x e hne
      refine ⟨x',?_,h2.mono hm⟩
      rw [hd1] at hut
      cases hdd : o.dst with
      | none => exact h1
      | some d => simp only [Act.put]; rw [Array.getElem?_setIfInBounds,if_neg (fun e => hut (by rw [hdd,e]))]; exact h1
    ·have := I'.df; cases o.dst <;> exact this
end
end
section
def maskOf (acc : List Nat) (o : Oper) : Nat := o.after.toList.foldl (fun s e => if Region.binds .any e then s ||| 2 ^ e.on ||| acc.getD e.on 0 else s) 0
def masksGo : List Oper → List Nat → List Nat
 | [],acc => acc
 | o :: r,acc => masksGo r (acc ++ [maskOf acc o])
def masks (ops : Array Oper) : List Nat := masksGo ops.toList []
def readyNow (ops : Array Oper) (done : List Nat) (i : Nat) : Bool :=
 match ops[i]? with
 | some o => o.after.all fun e => !Region.binds .any e || done.contains e.on
 | none => false
def eagerGo (ops : Array Oper) (eff : Nat → Bool) : Nat → List Nat → List Nat → List Nat
 | 0,_,done => done
 | fuel + 1,left,done =>
  match left.find? (fun i => !eff i && readyNow ops done i) with
  | some i => eagerGo ops eff fuel (left.erase i) (done ++ [i])
  | none => match left.find? (fun i => readyNow ops done i) with
   | some i => eagerGo ops eff fuel (left.erase i) (done ++ [i])
   | none => done
def warOf (ins : List In) (ix : Nat) : Bool := match ins[ix]? with
 | some i => match i.d with
  | some d => (ins.take ix).any fun y => (looks y).contains d || y.d == some d
  | none => false
 | none => false
def triples (P : Program) (n : Nat) (ops : Array Oper) : List Nat → Option (List (Nat × In))
 | [] => some []
 | ix :: r => match ops[ix]? with
  | some o => match compIn P n ops o,triples P n ops r with
   | some i,some ts => some ((ix,i) :: ts)
   | _,_ => none
  | none => none
def buildL (mk : Nat → Nat) (ef : Nat → Bool) (p : List DE) : List (Nat × In) → List DE
 | [] => []
 | (ix,i) :: r =>
  let x : DE := ⟨ix,i,effIn i || ef ix,if effIn i then (p.filter fun y => !y.eff && !pureIn y.i && !(mk ix).testBit y.ix).map (·.i) else []⟩
  x :: buildL mk ef (p ++ [x]) r
def chkOne (mk : Nat → Nat) (ops : Array Oper) (p : List DE) (x : DE) (q : List DE) : Bool :=
 (match ops[x.ix]? with
  | some o => (o.after.toList.all fun e => !Region.binds .any e || (p.map (·.ix)).contains e.on) &&
   (p.all fun y => y.eff || match y.i.d with
    | some d => !(looks x.i).contains d || o.after.toList.any fun e => Region.binds .any e && e.on == y.ix
    | none => true)
  | none => false) &&
 (x.eff || match x.i.d with | some d => !(looks x.i).contains d | none => true) &&
 (q.all fun y => match y.i.d with
  | some d => (!(looks x.i).contains d && x.i.d != some d) || (y.eff && (mk y.ix).testBit x.ix)
  | none => true) &&
 (x.eff || pureIn x.i || x.i.d.isSome)
def chkL (mk : Nat → Nat) (ops : Array Oper) (p : List DE) : List DE → Bool
 | [] => true
 | x :: q => chkOne mk ops p x q && chkL mk ops (p ++ [x]) q
def drawL (P : Program) (n : Nat) (ops : Array Oper) : Option (List DE) :=
 let mk := masks ops
 match compIns P n ops ops.toList with
 | none => none
 | some ins =>
  let order := eagerGo ops (fun i => (match ins[i]? with | some x => effIn x | none => true) || warOf ins i) ops.size (List.range ops.size) []
  match triples P n ops order with
  | none => none
  | some ts =>
   let L := buildL (fun i => mk.getD i 0) (warOf ins) [] ts
   if (decide (L.length = ops.size) && decide (L.map (·.ix)).Nodup && ((List.range ops.size).all fun i => (L.map (·.ix)).contains i) && eagerOk (fun i => mk.getD i 0) none L && chkL (fun i => mk.getD i 0) ops [] L) = true then some L else none
section
variable {P : Program} {n : Nat} {ops : Array Oper} {mk : Nat → Nat}
theorem fold_bit [Fl] {acc : List Nat} {j : Nat} : ∀ (l : List Edge) (s : Nat),(l.foldl (fun s e => if Region.binds .any e then s ||| 2 ^ e.on ||| acc.getD e.on 0 else s) s).testBit j = true →
  s.testBit j = true ∨ ∃ e ∈ l,Region.binds .any e = true ∧ (e.on = j ∨ (acc.getD e.on 0).testBit j = true) := by
 intro l
 induction l with
 | nil => intro s h; exact .inl h
 | cons e l ih =>
  intro s h
  simp only [List.foldl_cons] at h
  rcases ih _ h with h1 | ⟨e',he',hh⟩
  ·split at h1
   ·next hb =>
    rw [Nat.testBit_or,Nat.testBit_or,Bool.or_eq_true,Bool.or_eq_true] at h1
    rcases h1 with (h1 | h1) | h1
    ·exact .inl h1
    ·refine .inr ⟨e,by simp,hb,.inl ?_⟩
     rw [Nat.testBit_two_pow] at h1
     simpa using h1
    ·exact .inr ⟨e,by simp,hb,.inr h1⟩
   ·exact .inl h1
  ·exact .inr ⟨e',by simp [he'],hh⟩
theorem masksGo_get [Fl] : ∀ (l : List Oper) (acc : List Nat) (i : Nat),(masksGo l acc)[i]? = if i < acc.length then acc[i]? else (match l[i - acc.length]? with | some o => some (maskOf ((masksGo l acc).take i) o) | none => none) := by
 intro l
 induction l with
 | nil =>
  intro acc i
  simp only [masksGo]
  split
  ·rfl
  ·next h => rw [List.getElem?_eq_none (by omega)]; simp
 | cons o l ih =>
  intro acc i
  simp only [masksGo]
  rw [ih]
  simp only [List.length_append,List.length_cons,List.length_nil]
  by_cases h1 : i < acc.length
  ·rw [if_pos (by omega),if_pos h1,List.getElem?_append_left h1]
  ·rw [if_neg h1]
   by_cases h2 : i = acc.length
   ·subst h2
    rw [if_pos (by omega)]
    simp only [Nat.sub_self,List.getElem?_cons_zero]
    rw [List.getElem?_append_right (Nat.le_refl _)]
    simp only [Nat.sub_self,List.getElem?_cons_zero]
    have : (masksGo l (acc ++ [maskOf acc o])).take acc.length = acc := by
     refine List.ext_getElem? fun j => ?_
     rw [List.getElem?_take]
     split
     ·next hj => rw [ih,if_pos (by simp; omega),List.getElem?_append_left hj]
     ·next hj => rw [List.getElem?_eq_none (by omega)]
    rw [this]
   ·rw [if_neg (by omega),show i - acc.length = (i - (acc.length + (0 + 1))) + 1 by omega]
    simp only [List.getElem?_cons_succ]
theorem mask_closed [Fl] (D : Nat → Prop) (hD : ∀ (i : Nat) (o : Oper),ops[i]? = some o → D i → ∀ e ∈ o.after,Region.binds .any e = true → D e.on) :
  ∀ (i : Nat) (o : Oper),ops[i]? = some o → (∀ e ∈ o.after,Region.binds .any e = true → D e.on) → ∀ j,(((masks ops).getD i 0).testBit j = true) → D j := by
 intro i
 induction i using Nat.strongRecOn with
 | _ i ih =>
  intro o ho hp j hj
  have hg := masksGo_get ops.toList [] i
  simp only [List.length_nil,Nat.not_lt_zero,if_false,Nat.sub_zero] at hg
  have hoL : ops.toList[i]? = some o := by rw [Array.getElem?_toList]; exact ho
  simp only [hoL] at hg
  unfold masks at hj
  rw [List.getD_eq_getElem?_getD,hg,Option.getD_some] at hj
  unfold maskOf at hj
  rcases fold_bit _ _ hj with h | ⟨e,he,hb,h⟩
  ·simp at h
  ·have hDe := hp e (by simpa using he) hb
   rcases h with rfl | h
   ·exact hDe
   ·rw [List.getD_eq_getElem?_getD,List.getElem?_take] at h
    split at h
    ·next hlt =>
     cases hoe : ops[e.on]? with
     | none =>
      have hl := masksGo_get ops.toList [] e.on
      simp only [List.length_nil,Nat.not_lt_zero,if_false,Nat.sub_zero] at hl
      have hoL : ops.toList[e.on]? = none := by rw [Array.getElem?_toList]; exact hoe
      simp only [hoL] at hl
      rw [hl] at h
      simp at h
     | some oe =>
      refine ih e.on hlt oe hoe (fun e2 h2 hb2 => hD e.on oe hoe hDe e2 h2 hb2) j ?_
      unfold masks
      rw [List.getD_eq_getElem?_getD]
      exact h
    ·simp at h
theorem triples_of [Fl] : ∀ {ixs : List Nat} {ts : List (Nat × In)},triples P n ops ixs = some ts → ∀ p ∈ ts,∃ o,ops[p.1]? = some o ∧ compIn P n ops o = some p.2 := by
 intro ixs
 induction ixs with
 | nil => intro ts e p hp; cases e; cases hp
 | cons ix ixs ih =>
  intro ts e p hp
  simp only [triples] at e
  split at e
  case h_2 => cases e
  case h_1 o ho =>
  split at e
  case h_2 => cases e
  case h_1 i ts' hi hts =>
  cases e
  rcases List.mem_cons.1 hp with rfl | hp
  ·exact ⟨o,ho,hi⟩
  ·exact ih hts p hp
theorem buildL_mem [Fl] {ef : Nat → Bool} : ∀ {ts : List (Nat × In)} {p : List DE} {x : DE},x ∈ buildL mk ef p ts → (x.ix,x.i) ∈ ts ∧ x.eff = (effIn x.i || ef x.ix) := by
 intro ts
 induction ts with
 | nil => intro p x hx; cases hx
 | cons t ts ih =>
  intro p x hx
  obtain ⟨ix,i⟩ := t
  simp only [buildL] at hx
  rcases List.mem_cons.1 hx with rfl | hx
  ·exact ⟨by simp,rfl⟩
  ·obtain ⟨h1,h2⟩ := ih hx
   exact ⟨by simp [h1],h2⟩
theorem buildL_re [Fl] {ef : Nat → Bool} : ∀ {ts : List (Nat × In)} {p0 p q : List DE} {x : DE},buildL mk ef p0 ts = p ++ x :: q → x.re = if effIn x.i then ((p0 ++ p).filter fun y => !y.eff && !pureIn y.i && !(mk x.ix).testBit y.ix).map (·.i) else [] := by
 intro ts
 induction ts with
 | nil => intro p0 p q x e; simp [buildL] at e
 | cons t ts ih =>
  intro p0 p q x e
  obtain ⟨ix,i⟩ := t
  simp only [buildL] at e
  cases p with
  | nil =>
   simp only [List.nil_append,List.cons.injEq] at e
   obtain ⟨rfl,_⟩ := e
   simp
  | cons y p =>
   simp only [List.cons_append,List.cons.injEq] at e
   obtain ⟨rfl,e⟩ := e
   have := ih e
   simpa using this
theorem chkL_at [Fl] : ∀ {l p0 p q : List DE} {x : DE},chkL mk ops p0 l = true → l = p ++ x :: q → chkOne mk ops (p0 ++ p) x q = true := by
 intro l
 induction l with
 | nil => intro p0 p q x _ e; simp at e
 | cons y l ih =>
  intro p0 p q x hc e
  simp only [chkL,Bool.and_eq_true] at hc
  cases p with
  | nil =>
   simp only [List.nil_append,List.cons.injEq] at e
   obtain ⟨rfl,rfl⟩ := e
   simpa using hc.1
  | cons z p =>
   simp only [List.cons_append,List.cons.injEq] at e
   obtain ⟨rfl,e⟩ := e
   have := ih hc.2 e
   simpa using this
theorem fine_of [Fl] {L : List DE} (e : drawL P n ops = some L) : Fine P n ops (fun i => (masks ops).getD i 0) L ∧ eagerOk (fun i => (masks ops).getD i 0) none L = true := by
 unfold drawL at e
 simp only at e
 split at e
 ·cases e
 next ins hins =>
 split at e
 ·cases e
 next ts hts =>
 split at e
 case isFalse => cases e
 case isTrue hc =>
 cases e
 simp only [Bool.and_eq_true,decide_eq_true_eq] at hc
 obtain ⟨⟨⟨⟨h0,h1⟩,h2⟩,h3⟩,h4⟩ := hc
 refine ⟨⟨?_,h1,?_,?_,?_,?_,h0,?_,?_,fun D hD => mask_closed D hD⟩,h3⟩
 ·intro x hx
  obtain ⟨g1,g2⟩ := buildL_mem hx
  obtain ⟨o,ho,hi⟩ := triples_of hts _ g1
  refine ⟨o,ho,hi,fun hq => ?_⟩
  rw [g2,Bool.or_eq_false_iff] at hq
  have hq := hq.1
  cases hp : pureIn x.i with
  | true => exact .inl rfl
  | false => right; simpa [effIn,hp] using hq
 ·intro i hi
  rw [List.all_eq_true] at h2
  have := h2 i (by simpa using hi)
  simpa using this
 ·intro p x q hL o ho e he hb
  have hk := chkL_at h4 hL
  simp only [chkOne,ho,List.nil_append,Bool.and_eq_true] at hk
  have := List.all_eq_true.1 hk.1.1.1.1 e (by simpa using he)
  rw [hb] at this
  simpa using this
 ·intro p x q hL
  have hk := chkL_at h4 hL
  simp only [chkOne,Bool.and_eq_true] at hk
  refine ⟨fun hxe d hd => ?_,fun y hy d hd => ?_⟩
  ·have := hk.1.1.2
   rw [hd,hxe] at this
   simpa using this
  ·have := List.all_eq_true.1 hk.1.2 y hy
   rw [hd] at this
   simp only [Bool.or_eq_true,Bool.and_eq_true] at this
   rcases this with h | h
   ·exact .inl (by simpa using h)
   ·exact .inr h
 ·intro p x q hL y hy hye d hd hm
  have hk := chkL_at h4 hL
  simp only [chkOne,List.nil_append,Bool.and_eq_true] at hk
  have hk1 := hk.1.1.1
  split at hk1
  ·next o ho =>
   simp only [Bool.and_eq_true] at hk1
   have := List.all_eq_true.1 hk1.2 y hy
   rw [hd,hye] at this
   simp only [Bool.false_or,Bool.or_eq_true] at this
   rcases this with this | this
   ·simp [hm] at this
   ·obtain ⟨e,he,hh⟩ := List.any_eq_true.1 this
    simp only [Bool.and_eq_true,beq_iff_eq] at hh
    exact ⟨o,e,ho,by simpa using he,hh.1,hh.2⟩
  ·cases hk1
 ·intro p x q hL hx hxe y hy hye hyp hb
  have := buildL_re hL
  rw [if_pos hxe] at this
  rw [this]
  refine List.mem_map_of_mem (List.mem_filter.2 ⟨by simpa using hy,?_⟩)
  rw [hye,hyp,hb]; rfl
 ·intro x hx hxe hxp
  obtain ⟨p,q,hL⟩ := List.append_of_mem hx
  have hk := chkL_at h4 hL
  simp only [chkOne,Bool.and_eq_true] at hk
  have := hk.2
  rw [hxe,hxp] at this
  simpa using this
theorem chain_paths [Fl] : ∀ L : List DE,(DT.chain L).paths = [L]
 | [] => rfl
 | x :: r => by simp [DT.chain,DT.paths,chain_paths r]
theorem eager_next [Fl] {mk : Nat → Nat} : ∀ {r : List DE} {e : Nat} {y : DE},eagerOk mk (some e) r = true → y ∈ r → ∃ e',(e' = e ∨ e' ∈ r.map (·.ix)) ∧ (mk y.ix).testBit e' = true := by
 intro r
 induction r with
 | nil => intro e y _ hy; cases hy
 | cons x r ih =>
  intro e y he hy
  simp only [eagerOk,Bool.and_eq_true] at he
  rcases List.mem_cons.1 hy with rfl | hy
  ·exact ⟨e,.inl rfl,he.1⟩
  ·by_cases hx : x.eff = true
   ·rw [if_pos hx] at he
    obtain ⟨e',h1,h2⟩ := ih he.2 hy
    refine ⟨e',.inr ?_,h2⟩
    rcases h1 with rfl | h1
    ·simp
    ·simp only [List.map_cons,List.mem_cons]; exact .inr h1
   ·rw [if_neg hx] at he
    obtain ⟨e',h1,h2⟩ := ih he.2 hy
    refine ⟨e',?_,h2⟩
    rcases h1 with rfl | h1
    ·exact .inl rfl
    ·simp only [List.map_cons,List.mem_cons]; exact .inr (.inr h1)
theorem cov_chain [Fl] {mk : Nat → Nat} : ∀ {L : List DE} {last : Option Nat} {R : List Nat},eagerOk mk last L = true → (∀ i,i ∈ R ↔ i ∈ L.map (·.ix)) → (L.map (·.ix)).Nodup → covT mk true R (.chain L) = true
 | [],_,_,_,_,_ => rfl
 | x :: r,last,R,he,hR,hn => by
  unfold DT.chain covT
  rw [List.map_cons,List.nodup_cons] at hn
  simp only [eagerOk,Bool.and_eq_true] at he
  rw [Bool.and_eq_true]
  refine ⟨?_,cov_chain he.2 (fun i => ?_) hn.2⟩
  ·unfold hdT DT.quiet1 DT.heads
   cases hx : x.eff with
   | false => simp [hx]
   | true =>
    rw [if_pos hx] at he
    simp only [Bool.not_true,Bool.false_or,List.all_cons,hx,List.all_nil,Bool.and_true,Bool.true_and,List.any_cons,List.any_nil,Bool.or_false]
    rw [List.all_eq_true]
    intro y hy
    rw [Bool.or_eq_true]
    have hy := (hR y).1 hy
    rw [List.map_cons,List.mem_cons] at hy
    rcases hy with rfl | hy
    ·exact .inl (by simp)
    ·obtain ⟨z,hz,rfl⟩ := List.mem_map.1 hy
     obtain ⟨e',h1,h2⟩ := eager_next he.2 hz
     refine .inr (List.any_eq_true.2 ⟨e',(hR e').2 ?_,h2⟩)
     rw [List.map_cons,List.mem_cons]
     exact h1
  ·rw [List.mem_filter,hR,List.map_cons,List.mem_cons]
   simp only [bne_iff_ne,ne_eq]
   constructor
   ·rintro ⟨h1 | h1,h2⟩
    ·exact absurd h1 h2
    ·exact h1
   ·intro h
    exact ⟨.inr h,fun e => hn.1 (e ▸ h)⟩
def deT (mk : Nat → Nat) (ins : List In) (done : List DE) (ix : Nat) (i : In) : DE :=
 ⟨ix,i,effIn i || warOf ins ix,if effIn i then (done.filter fun y => !y.eff && !pureIn y.i && !(mk ix).testBit y.ix).map (·.i) else []⟩
def altsT : List DT → DT
 | [] => .nil
 | [t] => t
 | t :: r => .alt t (altsT r)
def genT (P : Program) (n : Nat) (mk : Nat → Nat) (ops : Array Oper) (ins : List In) : Nat → List Nat → List DE → DT
 | 0,_,_ => .nil
 | fuel + 1,left,done =>
  let step := fun i => match ops[i]?.bind fun o => compIn P n ops o with
   | some x => DT.one (deT mk ins done i x) (genT P n mk ops ins fuel (left.erase i) (done ++ [deT mk ins done i x]))
   | none => .nil
  match left.find? (fun i => !(match ins[i]? with | some x => effIn x || warOf ins i | none => true) && readyNow ops (done.map (·.ix)) i) with
  | some i => step i
  | none => altsT ((left.filter fun i => readyNow ops (done.map (·.ix)) i).map step)
def chkP (mk : Nat → Nat) (ops : Array Oper) (L : List DE) : Bool :=
 decide (L.length = ops.size) && decide (L.map (·.ix)).Nodup && ((List.range ops.size).all fun i => (L.map (·.ix)).contains i) && chkL mk ops [] L
def drawT (P : Program) (n : Nat) (ops : Array Oper) : Option DT :=
 let mk := fun i => (masks ops).getD i 0
 match compIns P n ops ops.toList with
 | none => none
 | some ins =>
  let T := genT P n mk ops ins (ops.size + 1) (List.range ops.size) []
  if ((T.paths.all fun L => chkP mk ops L) && covT mk true (List.range ops.size) T) = true then some T else none
theorem alts_paths [Fl] : ∀ {ts : List DT} {L : List DE},L ∈ (altsT ts).paths → L = [] ∨ ∃ t ∈ ts,L ∈ t.paths
 | [],L,h => .inl (by simpa [altsT,DT.paths] using h)
 | [t],L,h => .inr ⟨t,by simp,h⟩
 | t :: u :: r,L,h => by
  rcases List.mem_append.1 (show L ∈ t.paths ++ (altsT (u :: r)).paths from h) with h | h
  ·exact .inr ⟨t,by simp,h⟩
  ·rcases alts_paths h with h | ⟨s,hs,h⟩
   ·exact .inl h
   ·exact .inr ⟨s,List.mem_cons_of_mem _ hs,h⟩
theorem gen_paths [Fl] {ins : List In} : ∀ {fuel : Nat} {left : List Nat} {done : List DE} {L : List DE},L ∈ (genT P n mk ops ins fuel left done).paths → ∀ p x q,L = p ++ x :: q → ∃ o,ops[x.ix]? = some o ∧ compIn P n ops o = some x.i ∧ x = deT mk ins (done ++ p) x.ix x.i := by
 intro fuel
 induction fuel with
 | zero => intro left done L h p x q e; simp [genT,DT.paths] at h; subst h; simp at e
 | succ fuel ih =>
  intro left done L h p x q e
  have step : ∀ i,L ∈ (match ops[i]?.bind fun o => compIn P n ops o with
   | some x => DT.one (deT mk ins done i x) (genT P n mk ops ins fuel (left.erase i) (done ++ [deT mk ins done i x]))
   | none => .nil).paths → ∃ o,ops[x.ix]? = some o ∧ compIn P n ops o = some x.i ∧ x = deT mk ins (done ++ p) x.ix x.i := by
   intro i hL
   split at hL
   ·next y hy =>
    obtain ⟨o,ho,hc⟩ := Option.bind_eq_some_iff.1 hy
    obtain ⟨L',hL',rfl⟩ := List.mem_map.1 (show L ∈ List.map _ _ from hL)
    cases p with
    | nil =>
     simp only [List.nil_append,List.cons.injEq] at e
     obtain ⟨rfl,_⟩ := e
     exact ⟨o,ho,hc,by rw [List.append_nil]; rfl⟩
    | cons z p =>
     simp only [List.cons_append,List.cons.injEq] at e
     obtain ⟨rfl,e⟩ := e
     obtain ⟨o2,h1,h2,h3⟩ := ih hL' p x q e
     exact ⟨o2,h1,h2,by rw [List.append_assoc] at h3; exact h3⟩
   ·simp [DT.paths] at hL; subst hL; simp at e
  unfold genT at h
  dsimp only at h
  split at h
  ·exact step _ h
  ·rcases alts_paths h with rfl | ⟨t,ht,hL⟩
   ·simp at e
   ·obtain ⟨i,_,rfl⟩ := List.mem_map.1 ht
    exact step i hL
theorem fine_path [Fl] {ins : List In} {L : List DE} (hmk : mk = fun i => (masks ops).getD i 0) (hg : ∀ p x q,L = p ++ x :: q → ∃ o,ops[x.ix]? = some o ∧ compIn P n ops o = some x.i ∧ x = deT mk ins p x.ix x.i) (hc : chkP mk ops L = true) : Fine P n ops mk L := by
 unfold chkP at hc
 simp only [Bool.and_eq_true,decide_eq_true_eq] at hc
 obtain ⟨⟨⟨h0,h1⟩,h2⟩,h4⟩ := hc
 refine ⟨?_,h1,?_,?_,?_,?_,h0,?_,?_,fun D hD => by rw [hmk]; exact mask_closed D hD⟩
 ·intro x hx
  obtain ⟨p,q,hL⟩ := List.append_of_mem hx
  obtain ⟨o,ho,hi,hd⟩ := hg p x q hL
  refine ⟨o,ho,hi,fun hq => ?_⟩
  have hq2 : (effIn x.i || warOf ins x.ix) = false := by rw [hd] at hq; exact hq
  rw [Bool.or_eq_false_iff] at hq2
  have hq := hq2.1
  cases hp : pureIn x.i with
  | true => exact .inl rfl
  | false => right; simpa [effIn,hp] using hq
 ·intro i hi
  rw [List.all_eq_true] at h2
  have := h2 i (by simpa using hi)
  simpa using this
 ·intro p x q hL o ho e he hb
  have hk := chkL_at h4 hL
  simp only [chkOne,ho,List.nil_append,Bool.and_eq_true] at hk
  have := List.all_eq_true.1 hk.1.1.1.1 e (by simpa using he)
  rw [hb] at this
  simpa using this
 ·intro p x q hL
  have hk := chkL_at h4 hL
  simp only [chkOne,Bool.and_eq_true] at hk
  refine ⟨fun hxe d hd => ?_,fun y hy d hd => ?_⟩
  ·have := hk.1.1.2
   rw [hd,hxe] at this
   simpa using this
  ·have := List.all_eq_true.1 hk.1.2 y hy
   rw [hd] at this
   simp only [Bool.or_eq_true,Bool.and_eq_true] at this
   rcases this with h | h
   ·exact .inl (by simpa using h)
   ·exact .inr h
 ·intro p x q hL y hy hye d hd hm
  have hk := chkL_at h4 hL
  simp only [chkOne,List.nil_append,Bool.and_eq_true] at hk
  have hk1 := hk.1.1.1
  split at hk1
  ·next o ho =>
   simp only [Bool.and_eq_true] at hk1
   have := List.all_eq_true.1 hk1.2 y hy
   rw [hd,hye] at this
   simp only [Bool.false_or,Bool.or_eq_true] at this
   rcases this with this | this
   ·simp [hm] at this
   ·obtain ⟨e,he,hh⟩ := List.any_eq_true.1 this
    simp only [Bool.and_eq_true,beq_iff_eq] at hh
    exact ⟨o,e,ho,by simpa using he,hh.1,hh.2⟩
  ·cases hk1
 ·intro p x q hL hx hxe y hy hye hyp hb
  obtain ⟨_,_,_,hd⟩ := hg p x q hL
  have hre : x.re = if effIn x.i then (p.filter fun y => !y.eff && !pureIn y.i && !(mk x.ix).testBit y.ix).map (·.i) else [] := by
   conv => lhs; rw [hd]
   rfl
  rw [hre,if_pos hxe]
  refine List.mem_map_of_mem (List.mem_filter.2 ⟨hy,?_⟩)
  rw [hye,hyp,hb]; rfl
 ·intro x hx hxe hxp
  obtain ⟨p,q,hL⟩ := List.append_of_mem hx
  have hk := chkL_at h4 hL
  simp only [chkOne,Bool.and_eq_true] at hk
  have := hk.2
  rw [hxe,hxp] at this
  simpa using this
theorem tree_sound [Fl] {base : Nat} {w0 w : World} {m : Mu} {h : Hp} {env : Env} {T : DT} {Q : Env → Hp → Prop} {Q' : Exit → Act → World → Prop} {a : Act} (F : ∀ L ∈ T.paths,Fine P n ops mk L) (hc : ∃ R,(∀ i,i ∈ R ↔ i < ops.size) ∧ covT mk true R T = true) (r : REnv m n env a.tmps) (hd : a.defers = []) (s : Sim base w0 m h w) (hw : wpT P (ACall P) T env h Q)
  (hq : ∀ m' env' h' a' w',m.le m' → REnv m' n env' a'.tmps → a'.defers = [] → Sim base w0 m' h' w' → Q env' h' → Q' .normal a' w') :
  wpAny P .any ops Q' ops.size (Array.replicate ops.size false) a w := by
 obtain ⟨R,hR1,hR2⟩ := hc
 refine Inv.run F (m0 := m) hq ops.size _ [] T [] m env h a w (by simp) (by simp) ⟨fun C hC => hC,List.Sublist.refl _,by simp,hw,?_,?_,?_,⟨R,by simpa using hR1,hR2⟩,by simp,⟨r.1,fun t v ev _ => r.2 t v ev⟩,hd,s,m.le_refl⟩
 ·intro i hi
  constructor
  ·intro hx; simp [hi] at hx
  ·rintro ⟨h1,_⟩; simp at h1
 ·intro i hx
  have := (Array.getElem?_eq_some_iff.1 hx).1
  simpa using this
 ·intro i o _ hx
  have hi := (Array.getElem?_eq_some_iff.1 hx).1
  simp at hi
  simp [hi] at hx
theorem draw_sound [Fl] {base : Nat} {w0 w : World} {m : Mu} {h : Hp} {env : Env} {L : List DE} {Q : Env → Hp → Prop} {Q' : Exit → Act → World → Prop} {a : Act} (e : drawL P n ops = some L) (r : REnv m n env a.tmps) (hd : a.defers = []) (s : Sim base w0 m h w) (hw : wpD P (ACall P) L env h Q)
  (hq : ∀ m' env' h' a' w',m.le m' → REnv m' n env' a'.tmps → a'.defers = [] → Sim base w0 m' h' w' → Q env' h' → Q' .normal a' w') :
  wpAny P .any ops Q' ops.size (Array.replicate ops.size false) a w := by
 obtain ⟨F,he⟩ := fine_of e
 refine tree_sound (T := .chain L) (fun L' hL' => ?_) ⟨L.map (·.ix),fun i => ⟨fun hi => ?_,F.all i⟩,cov_chain he (fun _ => Iff.rfl) F.nodup⟩ r hd s (wpT_chain hw) hq
 ·rw [chain_paths,List.mem_singleton] at hL'
  subst hL'
  exact F
 ·obtain ⟨x,hx,rfl⟩ := List.mem_map.1 hi
  obtain ⟨o,ho,_⟩ := F.of x hx
  exact (Array.getElem?_eq_some_iff.1 ho).1
theorem drawT_sound [Fl] {base : Nat} {w0 w : World} {m : Mu} {h : Hp} {env : Env} {T : DT} {Q : Env → Hp → Prop} {Q' : Exit → Act → World → Prop} {a : Act} (e : drawT P n ops = some T) (r : REnv m n env a.tmps) (hd : a.defers = []) (s : Sim base w0 m h w) (hw : wpT P (ACall P) T env h Q)
  (hq : ∀ m' env' h' a' w',m.le m' → REnv m' n env' a'.tmps → a'.defers = [] → Sim base w0 m' h' w' → Q env' h' → Q' .normal a' w') :
  wpAny P .any ops Q' ops.size (Array.replicate ops.size false) a w := by
 unfold drawT at e
 dsimp only at e
 split at e
 ·cases e
 next ins hins =>
 split at e
 case isFalse => cases e
 case isTrue hc =>
 cases e
 rw [Bool.and_eq_true] at hc
 refine tree_sound (mk := fun i => (masks ops).getD i 0) (fun L hL => ?_) ⟨List.range ops.size,by simp,hc.2⟩ r hd s hw hq
 exact fine_path rfl (fun p x q hpq => by
  have := gen_paths hL p x q hpq
  rwa [List.nil_append] at this) (List.all_eq_true.1 hc.1 L hL)
end
end
end Go.Proofs.YtelmcfnkclihcaaGreatDoorW.Am
