/- Runs over memory that is spoken of abstractly: reading and writing cells. -/
import Derived.Test.YtnebdnbglggdkaaDoorAmB
import Derived.Laws.AppendOwn
namespace Go.Proofs.YtnebdnbglggdkaaDoorW.Am
open Go Go.RowKit

theorem add_lit' (b o n : Nat) : (⟨b, o, none⟩ : Addr).add n = ⟨b, o + n, none⟩ := by
  unfold Addr.add
  split
  · next h => subst h; rfl
  · rfl

/-- n cells of an object from a place on. -/
def Hp.rd (h : Hp) (i o n : Nat) : Option (List Value) :=
  match h.get i with
  | some ob => if o + n ≤ ob.cells.length then some ((ob.cells.drop o).take n) else none
  | none => none
def splice (cs : List Value) (p : Nat) : List Value → List Value
  | [] => cs
  | v :: r => splice (cs.set p v) (p + 1) r
theorem splice_length (vs : List Value) : ∀ (cs : List Value) (p : Nat), (splice cs p vs).length = cs.length := by
  induction vs with
  | nil => intro cs p; rfl
  | cons v r ih => intro cs p; simp [splice, ih]
/-- Cells of an object are written from a place on. -/
def Hp.wr (h : Hp) (i o : Nat) (vs : List Value) : Option Hp :=
  match h.get i with
  | some ob => if ob.rw = true ∧ o + vs.length ≤ ob.cells.length ∧ vs.all one = true then some (h.put i { ob with cells := splice ob.cells o vs }) else none
  | none => none

theorem Hp.rd_some {h : Hp} {i o n : Nat} {vs : List Value} (e : h.rd i o n = some vs) : ∃ ob, h.get i = some ob ∧ o + n ≤ ob.cells.length ∧ vs = (ob.cells.drop o).take n := by
  unfold Hp.rd at e
  split at e
  · next ob hob =>
    split at e
    · next hl => cases e; exact ⟨ob, hob, hl, rfl⟩
    · cases e
  · cases e
theorem Hp.wr_some {h h' : Hp} {i o : Nat} {vs : List Value} (e : h.wr i o vs = some h') : ∃ ob, h.get i = some ob ∧ ob.rw = true ∧ o + vs.length ≤ ob.cells.length ∧ vs.all one = true ∧ h' = h.put i { ob with cells := splice ob.cells o vs } := by
  unfold Hp.wr at e
  split at e
  · next ob hob =>
    split at e
    · next hl => cases e; exact ⟨ob, hob, hl.1, hl.2.1, hl.2.2, rfl⟩
    · cases e
  · cases e
theorem Hp.put_put (h : Hp) (i : Nat) (a b : Ob) : (h.put i a).put i b = h.put i b := by
  simp only [Hp.put, Hp.mk.injEq, and_true]
  funext j
  split <;> rfl
theorem Hp.put_self (h : Hp) (i : Nat) (a : Ob) (e : h.get i = some a) : h.put i a = h := by
  obtain ⟨g, n⟩ := h
  simp only [Hp.put, Hp.mk.injEq, and_true]
  funext j
  split
  · next hj => subst hj; exact e.symm
  · rfl
theorem Hp.put_get (h : Hp) (i : Nat) (a : Ob) : (h.put i a).get i = some a := by simp [Hp.put]

section
variable {P : Program} {base : Nat} {w0 w : World} {m : Mu} {h : Hp}

theorem cells_of (s : Sim base w0 m h w) {i o n : Nat} {l : Loc} {vs : List Value} (hl : m i = some l) (e : h.rd i o n = some vs) :
    ∃ vs', RVs m vs vs' ∧ vs'.length = n ∧ (∀ (j : Nat) v, vs'[j]? = some v → w.cell? ((⟨l.blk, l.off + o, none⟩ : Addr).add j) = some v) := by
  obtain ⟨ob, hob, hn, rfl⟩ := Hp.rd_some e
  have hlies := (s.loc hob hl).1
  have key : ∀ k, k ≤ n → ∃ vs' : List Value, RVs m ((ob.cells.drop o).take k) vs' ∧ vs'.length = k ∧ (∀ (j : Nat) v, vs'[j]? = some v → w.cell? ((⟨l.blk, l.off + o, none⟩ : Addr).add j) = some v) := by
    intro k
    induction k with
    | zero => intro _; exact ⟨[], by simpa using RVs.nil m, rfl, by simp⟩
    | succ k ih =>
      intro hk
      obtain ⟨vs', h1, h2, h3⟩ := ih (by omega)
      have hlt : o + k < ob.cells.length := by omega
      obtain ⟨x', hx, rx⟩ := hlies (o + k) _ (List.getElem?_eq_getElem hlt)
      refine ⟨vs' ++ [x'], ?_, by simp [h2], ?_⟩
      · rw [List.take_add_one, List.getElem?_drop, List.getElem?_eq_getElem hlt]
        exact h1.append (RVs.cons rx (RVs.nil m))
      · intro j v ej
        rw [List.getElem?_append] at ej
        split at ej
        · exact h3 j v ej
        · next hj =>
          have hjk : j - vs'.length = 0 := by
            have := (List.getElem?_eq_some_iff.1 ej).1
            simp at this; omega
          rw [hjk] at ej
          simp at ej
          subst ej
          have : j = k := by omega
          subst this
          rw [add_lit', Nat.add_assoc]
          exact hx
  exact key n (Nat.le_refl _)

theorem run_loadCells' (s : Sim base w0 m h w) {i o n : Nat} {l : Loc} {vs : List Value} (hl : m i = some l) (e : h.rd i o n = some vs) :
    ∃ vs', RVs m vs vs' ∧ vs'.length = n ∧ (loadCells ⟨l.blk, l.off + o, none⟩ n).run P w = .ok vs'.toArray w := by
  obtain ⟨vs', h1, h2, h3⟩ := cells_of s hl e
  refine ⟨vs', h1, h2, ?_⟩
  have := run_loadCells_list (P := P) (w := w) ⟨l.blk, l.off + o, none⟩ vs' h3
  rw [h2] at this
  exact this

theorem run_store' (s : Sim base w0 m h w) {i j : Nat} {l : Loc} {ob : Ob} {v v' : Value} (hl : m i = some l) (hi : h.get i = some ob) (hw : ob.rw = true) (hj : j < ob.cells.length) (rv : RV m v v') (ho : one v = true) :
    (store ⟨l.blk, l.off + j, none⟩ v').run P w = .ok () (w.setCell ⟨l.blk, l.off + j, none⟩ v') := by
  obtain ⟨x, hx, _⟩ := s.cell hi hl (List.getElem?_eq_getElem hj)
  have hf := s.thaw hi hl hw hj
  have ho' := one_of rv ho
  unfold store
  cases v' <;> first | (simp only [Sem.run, hx, hf]; rfl) | exact absurd ho' (by simp [one])

theorem run_storeCells' {i o : Nat} {l : Loc} {ob : Ob} : ∀ (vs vs' : List Value) (k : Nat) (cs : List Value) (w : World), Sim base w0 m (h.put i { ob with cells := cs }) w → m i = some l → ob.rw = true →
    o + k + vs.length ≤ cs.length → vs.all one = true → RVs m vs vs' →
    ∃ w', (storeCells ⟨l.blk, l.off + o, none⟩ vs' k).run P w = .ok () w' ∧ w'.heap.size = w.heap.size ∧ w'.drawn = w.drawn ∧ Sim base w0 m (h.put i { ob with cells := splice cs (o + k) vs }) w' := by
  intro vs
  induction vs with
  | nil =>
    intro vs' k cs w s hl hw hb ho hr
    obtain rfl := RVs.cases_nil hr
    exact ⟨w, rfl, rfl, rfl, s⟩
  | cons v r ih =>
    intro vs' k cs w s hl hw hb ho hr
    obtain ⟨v', r', rfl, rv, hr⟩ := RVs.cases_cons hr
    simp only [List.all_cons, Bool.and_eq_true] at ho
    simp only [List.length_cons] at hb
    have hget := Hp.put_get h i { ob with cells := cs }
    have hst := run_store' (P := P) (j := o + k) s hl hget hw (by show o + k < cs.length; omega) rv ho.1
    have s2 := s.store (j := o + k) hget hl hw (by show o + k < cs.length; omega) rv
    rw [Hp.put_put] at s2
    obtain ⟨w', hrun, hs1, hs2, s3⟩ := ih r' (k + 1) (cs.set (o + k) v) _ s2 hl hw (by simp; omega) ho.2 hr
    refine ⟨w', ?_, hs1.trans (by simp [World.setCell]), hs2.trans rfl, s3⟩
    unfold storeCells
    have ha : (⟨l.blk, l.off + o, none⟩ : Addr).add k = ⟨l.blk, l.off + (o + k), none⟩ := by rw [add_lit', Nat.add_assoc]
    rw [ha]
    simp only [Sem.run_bind, hst, Result.andThen_ok]
    exact hrun

theorem run_wr (s : Sim base w0 m h w) {i o : Nat} {l : Loc} {vs vs' : List Value} {h' : Hp} (hl : m i = some l) (e : h.wr i o vs = some h') (hr : RVs m vs vs') :
    ∃ w', (storeCells ⟨l.blk, l.off + o, none⟩ vs').run P w = .ok () w' ∧ w'.heap.size = w.heap.size ∧ w'.drawn = w.drawn ∧ Sim base w0 m h' w' := by
  obtain ⟨ob, hob, hw, hb, ho, rfl⟩ := Hp.wr_some e
  have s' : Sim base w0 m (h.put i { ob with cells := ob.cells }) w := by rw [Hp.put_self h i _ hob]; exact s
  exact run_storeCells' vs vs' 0 ob.cells w s' hl hw (by omega) ho hr

/-- A pure run: no memory, no draw. -/
def pureSem {α : Type} (P : Program) : Sem α → Option α
  | .pure a => some a
  | .program k => pureSem P (k P)
  | _ => none
theorem pureSem_run {α : Type} {s : Sem α} {a : α} (e : pureSem P s = some a) (w : World) : s.run P w = .ok a w := by
  induction s with
  | pure x => simp [pureSem] at e; subst e; rfl
  | program k ih => simp only [pureSem] at e; simpa [Sem.run] using ih P e
  | _ => simp [pureSem] at e
end
end Go.Proofs.YtnebdnbglggdkaaDoorW.Am
