/- The relation between an abstract heap and the true world, and what keeps it. -/
import Derived.Test.YtnebdnbglggdkaaDoorAmTb
namespace Go.Proofs.YtnebdnbglggdkaaDoorW.Am
open Go Go.RowKit

def one : Value → Bool
  | .agg _ | .tuple _ => false
  | _ => true
theorem one_of {m : Mu} {v v' : Value} (h : RV m v v') (o : one v = true) : one v' = true := by
  cases h <;> first | rfl | (simp [one] at o)

/-- The cells of an object stand in the world from its place on. -/
def Lies (m : Mu) (w : World) (l : Loc) (cs : List Value) : Prop :=
  ∀ (j : Nat) v, cs[j]? = some v → ∃ v', w.cell? ⟨l.blk, l.off + j, none⟩ = some v' ∧ RV m v v'
/-- The block is there, large enough, and may be written. -/
def Whole (w : World) (l : Loc) (ob : Ob) : Prop :=
  ∃ c e f, w.heap[l.blk]? = some (.cells c e f) ∧ (∀ o, o < c.size → ¬ (f.1 ≤ o ∧ o < f.2)) ∧ l.off + ob.cells.length + l.slack * ob.esz ≤ c.size

/-- What the program's tables hold, as long as nothing below base turns. -/
def Tb (base : Nat) (w0 : World) : Prop := ∀ w', Below base w0 w' → TbP w'
theorem Tb.of {base : Nat} {w0 w : World} (h : Tb base w0) (b : Below base w0 w) (hb : base ≤ w.heap.size) : Tb w.heap.size w := fun w' k => h w' (b.trans (k.mono hb))
/-- How a world came of the one at the start. -/
structure Bel (base : Nat) (w0 w : World) : Prop where
  bl : Below base w0 w
  dr : DrOn → w0.drawn ≤ w.drawn
  tb : Tb base w0
theorem Bel.trans {base : Nat} {a b c : World} (h : Bel base a b) (k : Below base b c) (d : DrOn → b.drawn ≤ c.drawn) : Bel base a c := ⟨h.bl.trans k, fun o => Nat.le_trans (h.dr o) (d o), h.tb⟩
theorem Bel.refl {base : Nat} {w : World} (t : Tb base w) : Bel base w w := ⟨Below.refl _ _, fun _ => Nat.le_refl _, t⟩
/-- A map's entries, one behind the other. -/
def entL (es : Array MapEntry) : List Value := es.toList.flatMap fun e => [e.key, e.val]
/-- Maps: each lies in a block of its own. -/
structure MS (base : Nat) (m : Mu) (h : Hp) (w : World) : Prop where
  fr : ∀ i, h.nx ≤ i → m.mp i = none
  ex : ∀ i l, m i = some l → m.mp i = none
  lv : ∀ i b, m.mp i = some b → ∃ ob es ck, h.get i = some ob ∧ w.heap[b]? = some (Obj.map es ck) ∧ entL es = ob.cells ∧ base ≤ b
  ap : ∀ i j b, m.mp i = some b → m.mp j = some b → i = j
theorem MS.keep {base : Nat} {m m' : Mu} {h h' : Hp} {w w' : World} (s : MS base m h w) (hm : m'.mp = m.mp) (hw : ∀ (b : Nat) es ck, w.heap[b]? = some (Obj.map es ck) → w'.heap[b]? = w.heap[b]?) (hg : ∀ i b, m.mp i = some b → h'.get i = h.get i) (hn : h.nx ≤ h'.nx) (hx : ∀ i l, m' i = some l → m.mp i = none) : MS base m' h' w' :=
  ⟨fun i hi => by rw [hm]; exact s.fr i (Nat.le_trans hn hi), fun i l e => by rw [hm]; exact hx i l e, fun i b e => by
    rw [hm] at e
    obtain ⟨ob, es, ck, h1, h2, h3, h4⟩ := s.lv i b e
    exact ⟨ob, es, ck, (hg i b e).trans h1, (hw b es ck h2).trans h2, h3, h4⟩, fun i j b e e' => by rw [hm] at e e'; exact s.ap i j b e e'⟩
theorem MS.nx {base : Nat} {m : Mu} {h : Hp} {w : World} (s : MS base m h w) {i b : Nat} (e : m.mp i = some b) : i < h.nx := by
  rcases Nat.lt_or_ge i h.nx with h1 | h1
  · exact h1
  · rw [s.fr i h1] at e; cases e
theorem MS.empty (base : Nat) (f : Nat → Option Loc) (h : Hp) (w : World) : MS base ⟨f, fun _ => none⟩ h w := ⟨fun _ _ => rfl, fun _ _ _ => rfl, fun _ _ e => (by cases e), fun _ _ _ e => (by cases e)⟩
structure Sim (base : Nat) (w0 : World) (m : Mu) (h : Hp) (w : World) : Prop where
  below : Bel base w0 w
  big : base ≤ w.heap.size
  fresh : ∀ i, h.nx ≤ i → m i = none
  lt : ∀ i l, m i = some l → l.blk < w.heap.size
  ms : MS base m h w
  obs : ∀ i ob, h.get i = some ob → m.mp i = none → ∃ l, m i = some l ∧ Lies m w l ob.cells ∧ (ob.rw = true → base ≤ l.blk ∧ Whole w l ob)
  apart : ∀ i j a b l l', h.get i = some a → h.get j = some b → i ≠ j → a.rw = true → m i = some l → m j = some l' → l.blk ≠ l'.blk

def Mu.add (m : Mu) (i : Nat) (l : Loc) : Mu := ⟨fun j => if j = i then some l else m j, m.mp⟩
theorem Mu.add_f (m : Mu) (i j : Nat) (l : Loc) : (m.add i l) j = if j = i then some l else m j := rfl
def Hp.put (h : Hp) (i : Nat) (o : Ob) : Hp := ⟨fun j => if j = i then some o else h.get j, h.nx⟩
def Hp.del (h : Hp) (i : Nat) : Hp := ⟨fun j => if j = i then none else h.get j, h.nx⟩
def Hp.new (h : Hp) (o : Ob) : Hp := ⟨fun j => if j = h.nx then some o else h.get j, h.nx + 1⟩

theorem Mu.le_add {m : Mu} {i : Nat} (l : Loc) (h : m i = none) : m.le (m.add i l) := by
  refine ⟨fun j l' e => ?_, fun _ _ e => e⟩
  rw [Mu.add_f]
  split
  · next hj => subst hj; rw [h] at e; cases e
  · exact e
theorem Mu.add_same (m : Mu) (i : Nat) (l : Loc) : m.add i l i = some l := by simp [Mu.add]

theorem Sim.nx_none {base w0 m h w} (s : Sim base w0 m h w) : h.get h.nx = none := by
  cases e : h.get h.nx with
  | none => rfl
  | some ob =>
    obtain ⟨l, hl, _⟩ := s.obs _ _ e (s.ms.fr _ (Nat.le_refl _))
    rw [s.fresh _ (Nat.le_refl _)] at hl; cases hl

/-- What is only read in the world may change but for cells and blocks. -/
theorem Sim.world {base w0 m h w} (s : Sim base w0 m h w) {w' : World} (hb : Below base w w') (hd : DrOn → w.drawn ≤ w'.drawn) (hs : w.heap.size ≤ w'.heap.size) (hmm : ∀ (b : Nat) es ck, w.heap[b]? = some (Obj.map es ck) → w'.heap[b]? = w.heap[b]?)
    (hh : ∀ i l ob, h.get i = some ob → m i = some l → w'.heap[l.blk]? = w.heap[l.blk]?) : Sim base w0 m h w' := by
  refine ⟨s.below.trans hb hd, Nat.le_trans s.big hs, s.fresh, fun i l e => Nat.lt_of_lt_of_le (s.lt i l e) hs, s.ms.keep rfl hmm (fun _ _ _ => rfl) (Nat.le_refl _) s.ms.ex, fun i ob e hno => ?_, s.apart⟩
  obtain ⟨l, hl, h1, h2⟩ := s.obs i ob e hno
  have hbk := hh i l ob e hl
  refine ⟨l, hl, fun j v ej => ?_, fun r => ⟨(h2 r).1, ?_⟩⟩
  · obtain ⟨v', hv, rv⟩ := h1 j v ej
    refine ⟨v', ?_, rv⟩
    unfold World.cell? at hv ⊢
    rw [hbk]; exact hv
  · obtain ⟨c, el, f, h3, h4⟩ := (h2 r).2
    exact ⟨c, el, f, by rw [hbk]; exact h3, h4⟩
theorem Sim.drawn {base w0 m h w} (s : Sim base w0 m h w) (n : Nat) (hn : w.drawn ≤ n) : Sim base w0 m h { w with drawn := n } :=
  s.world ⟨rfl, rfl, rfl, Nat.le_refl _, fun _ _ => rfl⟩ (fun _ => hn) (Nat.le_refl _) (fun _ _ _ _ => rfl) (fun _ _ _ _ _ => rfl)

theorem cell?_lt {w : World} {b o : Nat} {v : Value} (h : w.cell? ⟨b, o, none⟩ = some v) : b < w.heap.size := by
  unfold World.cell? at h
  rcases Nat.lt_or_ge b w.heap.size with hb | hb
  · exact hb
  · rw [show (w.heap[b]? : Option Obj) = none from Array.getElem?_eq_none hb] at h; cases h

theorem heap_push_old {w : World} {o : Obj} {b : Nat} (h : b < w.heap.size) : (w.heap.push o)[b]? = w.heap[b]? := by
  rw [Array.getElem?_push, if_neg (by omega)]
theorem heap_push_new {w : World} {o : Obj} : (w.heap.push o)[w.heap.size]? = some o := by simp

theorem Lies.mono {m m' : Mu} (hm : m.le m') {w l cs} (h : Lies m w l cs) : Lies m' w l cs := fun j v e =>
  let ⟨v', a, b⟩ := h j v e; ⟨v', a, b.mono hm⟩

/-- A new block: a new object. -/
theorem Sim.alloc {base w0 m h w} (s : Sim base w0 m h w) {cs cs' : List Value} {more : List Value} {k esz : Nat} (e : TypeId) (hr : RVs m cs cs') (hk : more.length = k * esz) (f : Nat × Nat)
    (hf : ∀ o, o < (cs' ++ more).length → ¬ (f.1 ≤ o ∧ o < f.2)) :
    Sim base w0 (m.add h.nx ⟨w.heap.size, 0, k⟩) (h.new ⟨cs, true, esz⟩) { w with heap := w.heap.push (.cells (cs' ++ more).toArray e f) } := by
  have hn := s.fresh _ (Nat.le_refl _)
  have hm : m.le (m.add h.nx ⟨w.heap.size, 0, k⟩) := Mu.le_add _ hn
  refine ⟨?_, by simp; have := s.big; omega, ?_, ?_, ?_, ?_, ?_⟩
  · exact s.below.trans ⟨rfl, rfl, rfl, by simp, fun k hk => heap_push_old (Nat.lt_of_lt_of_le hk s.big)⟩ (fun _ => Nat.le_refl _)
  · intro i hi
    simp only [Hp.new] at hi
    rw [Mu.add_f, if_neg (by omega)]
    exact s.fresh i (by omega)
  · intro i l el
    rw [Mu.add_f] at el
    split at el
    · cases el; simp
    · have := s.lt i l el; simp; omega
  · refine s.ms.keep rfl (fun b es ck hb => ?_) (fun i b hb => ?_) (Nat.le_succ _) fun i l el => ?_
    · have hlt : b < w.heap.size := (Array.getElem?_eq_some_iff.1 hb).1
      exact heap_push_old hlt
    · have := s.ms.nx hb
      simp only [Hp.new]
      rw [if_neg (by omega)]
    · rw [Mu.add_f] at el
      split at el
      · next e => rw [e]; exact s.ms.fr _ (Nat.le_refl _)
      · exact s.ms.ex i l el
  · intro i ob ei hno
    simp only [Hp.new] at ei
    split at ei
    · next hi =>
      subst hi; cases ei
      refine ⟨_, Mu.add_same _ _ _, fun j v ej => ?_, fun _ => ⟨s.big, ?_⟩⟩
      · obtain ⟨v', e', rv⟩ := hr.get ej
        refine ⟨v', ?_, rv.mono hm⟩
        have hj := (List.getElem?_eq_some_iff.1 e').1
        have : ((cs' ++ more).toArray)[j]? = some v' := by
          rw [List.getElem?_toArray, List.getElem?_append_left hj]; exact e'
        simp [World.cell?, this]
      · refine ⟨_, e, f, heap_push_new, fun o ho => hf o (by simpa using ho), ?_⟩
        have := hr.1
        simp only [List.size_toArray, List.length_append]
        omega
    · next hi =>
      obtain ⟨l, hl, h1, h2⟩ := s.obs i ob ei hno
      have hlt := s.lt i l hl
      refine ⟨l, hm.1 _ _ hl, fun j v ej => ?_, fun r => ⟨(h2 r).1, ?_⟩⟩
      · obtain ⟨v', hv, rv⟩ := h1 j v ej
        refine ⟨v', ?_, rv.mono hm⟩
        unfold World.cell? at hv ⊢
        rw [show ((w.heap.push _)[l.blk]? : Option Obj) = _ from heap_push_old hlt]; exact hv
      · obtain ⟨c, el, g, h3, h4⟩ := (h2 r).2
        exact ⟨c, el, g, by rw [show ((w.heap.push _)[l.blk]? : Option Obj) = _ from heap_push_old hlt]; exact h3, h4⟩
  · intro i j a b l l' ei ej hij ra el el'
    simp only [Hp.new] at ei ej
    rw [Mu.add_f] at el el'
    split at ei <;> split at ej
    · next h1 h2 => exact absurd (h1.trans h2.symm) hij
    · next h1 h2 =>
      rw [if_pos h1] at el; rw [if_neg h2] at el'
      cases el
      have := s.lt j l' el'
      simp; omega
    · next h1 h2 =>
      rw [if_neg h1] at el; rw [if_pos h2] at el'
      cases el'
      have := s.lt i l el
      simp; omega
    · next h1 h2 =>
      rw [if_neg h1] at el; rw [if_neg h2] at el'
      exact s.apart i j a b l l' ei ej hij ra el el'

/-- An object no longer spoken of. -/
theorem Sim.del {base w0 m h w} (s : Sim base w0 m h w) (i : Nat) (hmi : m.mp i = none) : Sim base w0 m (h.del i) w := by
  refine ⟨s.below, s.big, s.fresh, s.lt, s.ms.keep rfl (fun _ _ _ _ => rfl) (fun j b e => ?_) (Nat.le_refl _) s.ms.ex, fun j ob e hno => ?_, fun j k a b l l' e e' => ?_⟩
  · simp only [Hp.del]
    rw [if_neg (fun hj => by rw [hj, hmi] at e; cases e)]
  · simp only [Hp.del] at e
    split at e
    · cases e
    · exact s.obs j ob e hno
  · simp only [Hp.del] at e e'
    split at e
    · cases e
    · split at e'
      · cases e'
      · exact s.apart j k a b l l' e e'

/-- A part of a row that nobody else speaks of, as an object of its own (behind an append in place). -/
theorem Sim.take {base w0 m h w} (s : Sim base w0 m h w) {i : Nat} {ob : Ob} {l : Loc} (hi : h.get i = some ob) (hl : m i = some l) (hw : ob.rw = true)
    {cs : List Value} {l' : Loc} {esz : Nat} (hb : l'.blk = l.blk) (hlies : Lies m w l' cs) (hwhole : Whole w l' ⟨cs, true, esz⟩) :
    Sim base w0 (m.add h.nx l') ((h.del i).new ⟨cs, true, esz⟩) w := by
  have hn := s.fresh _ (Nat.le_refl _)
  have hm : m.le (m.add h.nx l') := Mu.le_add _ hn
  have hni : i ≠ h.nx := fun e => by rw [e, hn] at hl; cases hl
  obtain ⟨l2, hl2, _, hob⟩ := s.obs i ob hi (s.ms.ex _ _ hl)
  rw [hl] at hl2; cases hl2
  refine ⟨s.below, s.big, ?_, ?_, ?_, ?_, ?_⟩
  · intro j hj
    simp only [Hp.new, Hp.del] at hj
    rw [Mu.add_f, if_neg (by omega)]
    exact s.fresh j (by omega)
  · intro j k ek
    rw [Mu.add_f] at ek
    split at ek
    · cases ek; rw [hb]; exact s.lt i l hl
    · exact s.lt j k ek
  · refine s.ms.keep rfl (fun _ _ _ _ => rfl) (fun j b hb => ?_) (Nat.le_succ _) fun j l el => ?_
    · have := s.ms.nx hb
      have hji : j ≠ i := fun e => by rw [e, s.ms.ex _ _ hl] at hb; cases hb
      show (if j = h.nx then some (⟨cs, true, esz⟩ : Ob) else if j = i then none else h.get j) = h.get j
      rw [if_neg (by omega), if_neg hji]
    · rw [Mu.add_f] at el
      split at el
      · next e => rw [e]; exact s.ms.fr _ (Nat.le_refl _)
      · exact s.ms.ex j l el
  · intro j o ej hno
    have ej' : (if j = h.nx then some (⟨cs, true, esz⟩ : Ob) else if j = i then none else h.get j) = some o := ej
    by_cases hj : j = h.nx
    · rw [if_pos hj] at ej'
      subst hj; cases ej'
      exact ⟨l', Mu.add_same _ _ _, hlies.mono hm, fun _ => ⟨by rw [hb]; exact (hob hw).1, hwhole⟩⟩
    · rw [if_neg hj] at ej'
      by_cases hji : j = i
      · rw [if_pos hji] at ej'; cases ej'
      · rw [if_neg hji] at ej'
        obtain ⟨k, hk, h1, h2⟩ := s.obs j o ej' hno
        exact ⟨k, hm.1 _ _ hk, h1.mono hm, h2⟩
  · intro j k a b p q ej ek hjk ra ep eq
    have ej' : (if j = h.nx then some (⟨cs, true, esz⟩ : Ob) else if j = i then none else h.get j) = some a := ej
    have ek' : (if k = h.nx then some (⟨cs, true, esz⟩ : Ob) else if k = i then none else h.get k) = some b := ek
    rw [Mu.add_f] at ep eq
    by_cases h1 : j = h.nx <;> by_cases h2 : k = h.nx
    · exact absurd (h1.trans h2.symm) hjk
    · rw [if_pos h1] at ep; rw [if_neg h2] at eq ek'
      cases ep
      by_cases h3 : k = i
      · rw [if_pos h3] at ek'; cases ek'
      · rw [if_neg h3] at ek'
        rw [hb]; exact s.apart i k ob b l q hi ek' (fun e => h3 e.symm) hw hl eq
    · rw [if_neg h1] at ep ej'; rw [if_pos h2] at eq
      cases eq
      by_cases h3 : j = i
      · rw [if_pos h3] at ej'; cases ej'
      · rw [if_neg h3] at ej'
        rw [hb]; exact s.apart j i a ob p l ej' hi h3 ra ep hl
    · rw [if_neg h1] at ep ej'; rw [if_neg h2] at eq ek'
      by_cases h3 : j = i
      · rw [if_pos h3] at ej'; cases ej'
      · by_cases h4 : k = i
        · rw [if_pos h4] at ek'; cases ek'
        · rw [if_neg h3] at ej'; rw [if_neg h4] at ek'
          exact s.apart j k a b p q ej' ek' hjk ra ep eq

theorem heap_setCell {w : World} {a : Addr} {v : Value} {b : Nat} (h : b ≠ a.block) : (w.setCell a v).heap[b]? = w.heap[b]? := by
  simp only [World.setCell, Array.getElem?_modify]
  rw [if_neg (by omega)]

/-- A store into a cell of an object. -/
theorem Sim.store {base w0 m h w} (s : Sim base w0 m h w) {i j : Nat} {ob : Ob} {l : Loc} {v v' : Value} (hi : h.get i = some ob) (hl : m i = some l) (hw : ob.rw = true)
    (hj : j < ob.cells.length) (hv : RV m v v') :
    Sim base w0 m (h.put i { ob with cells := ob.cells.set j v }) (w.setCell ⟨l.blk, l.off + j, none⟩ v') := by
  obtain ⟨l2, hl2, hlies, hob⟩ := s.obs i ob hi (s.ms.ex _ _ hl)
  rw [hl] at hl2; cases hl2
  obtain ⟨hbase, c, e, f, hblk, hfr, hsz⟩ := hob hw
  have hnew : (w.setCell ⟨l.blk, l.off + j, none⟩ v').heap[l.blk]? = some (.cells (c.setIfInBounds (l.off + j) v') e f) := by
    simp [World.setCell, Array.getElem?_modify, hblk]
  refine ⟨s.below.trans ⟨rfl, rfl, rfl, by simp [World.setCell], fun k hk => heap_setCell (by simp; omega)⟩ (fun _ => Nat.le_refl _), by simp [World.setCell]; exact s.big, s.fresh, fun k q hq => by simp [World.setCell]; exact s.lt k q hq, ?_, ?_, ?_⟩
  · refine s.ms.keep rfl (fun b es ck hb => heap_setCell fun e => ?_) (fun k b hb => ?_) (Nat.le_refl _) s.ms.ex
    · rw [show b = l.blk from e, hblk] at hb; cases hb
    · simp only [Hp.put]
      rw [if_neg (fun e => by rw [e, s.ms.ex _ _ hl] at hb; cases hb)]
  · intro k o ek hno
    simp only [Hp.put] at ek
    split at ek
    · next hk =>
      subst hk; cases ek
      refine ⟨l, hl, fun n x ex => ?_, fun _ => ⟨hbase, _, e, f, hnew, by simpa using hfr, by simpa using hsz⟩⟩
      simp only [List.getElem?_set] at ex
      split at ex
      · next hjn =>
        subst hjn
        cases ex
        refine ⟨v', ?_, hv⟩
        simp only [World.cell?, hnew]
        simp [Array.getElem?_setIfInBounds]
        have : l.slack * ob.esz ≥ 0 := Nat.zero_le _
        omega
      · next hjn =>
        obtain ⟨x', hx, rx⟩ := hlies n x ex
        refine ⟨x', ?_, rx⟩
        simp only [World.cell?, hblk] at hx
        simp only [World.cell?, hnew]
        have hne : ¬ (l.off + j = l.off + n) := by omega
        simp only [Array.getElem?_setIfInBounds, if_neg hne]
        exact hx
    · next hk =>
      obtain ⟨q, hq, h1, h2⟩ := s.obs k o ek hno
      have hne : q.blk ≠ l.blk := fun eb => s.apart i k ob o l q hi ek (fun e => hk e.symm) hw hl hq eb.symm
      have hsame := heap_setCell (w := w) (a := ⟨l.blk, l.off + j, none⟩) (v := v') (b := q.blk) hne
      refine ⟨q, hq, fun n x ex => ?_, fun r => ⟨(h2 r).1, ?_⟩⟩
      · obtain ⟨x', hx, rx⟩ := h1 n x ex
        refine ⟨x', ?_, rx⟩
        unfold World.cell? at hx ⊢
        rw [show ((w.setCell _ v').heap[q.blk]? : Option Obj) = _ from hsame]; exact hx
      · obtain ⟨c', e', f', h3, h4⟩ := (h2 r).2
        exact ⟨c', e', f', hsame.trans h3, h4⟩
  · intro k n a b p q ek en hkn ra ep eq
    simp only [Hp.put] at ek en
    split at ek <;> split at en
    · next h1 h2 => exact absurd (h1.trans h2.symm) hkn
    · next h1 h2 => cases ek; subst h1; exact s.apart k n ob b p q hi en hkn hw ep eq
    · next h1 h2 => cases en; subst h2; exact s.apart k n a ob p q ek hi hkn ra ep eq
    · exact s.apart k n a b p q ek en hkn ra ep eq

theorem Sim.loc {base w0 m h w} (s : Sim base w0 m h w) {i : Nat} {ob : Ob} {l : Loc} (hi : h.get i = some ob) (hl : m i = some l) :
    Lies m w l ob.cells ∧ (ob.rw = true → base ≤ l.blk ∧ Whole w l ob) := by
  obtain ⟨l2, hl2, h1, h2⟩ := s.obs i ob hi (s.ms.ex _ _ hl)
  rw [hl] at hl2; cases hl2
  exact ⟨h1, h2⟩
theorem Sim.cell {base w0 m h w} (s : Sim base w0 m h w) {i j : Nat} {ob : Ob} {l : Loc} {v : Value} (hi : h.get i = some ob) (hl : m i = some l) (hj : ob.cells[j]? = some v) :
    ∃ v', w.cell? ⟨l.blk, l.off + j, none⟩ = some v' ∧ RV m v v' := (s.loc hi hl).1 j v hj
theorem Sim.thaw {base w0 m h w} (s : Sim base w0 m h w) {i j : Nat} {ob : Ob} {l : Loc} (hi : h.get i = some ob) (hl : m i = some l) (hw : ob.rw = true) (hj : j < ob.cells.length) :
    w.frozen? ⟨l.blk, l.off + j, none⟩ = false := by
  obtain ⟨_, c, e, f, hblk, hfr, hsz⟩ := (s.loc hi hl).2 hw
  simp only [World.frozen?, hblk]
  have := hfr (l.off + j) (by have : l.slack * ob.esz ≥ 0 := Nat.zero_le _; omega)
  simp
  omega
end Go.Proofs.YtnebdnbglggdkaaDoorW.Am
