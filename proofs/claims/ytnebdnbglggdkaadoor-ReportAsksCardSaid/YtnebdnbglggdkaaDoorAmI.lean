/- The operations, fifth part: append. -/
import Derived.Test.YtnebdnbglggdkaaDoorAmH
namespace Go.Proofs.YtnebdnbglggdkaaDoorW.Am
open Go Go.RowKit
section
variable {P : Program} {base : Nat} {w0 w : World} {m : Mu} {h : Hp}

/-- A block that no object speaks of becomes an object. -/
theorem Sim.adopt (s : Sim base w0 m h w) {l' : Loc} {o' : Ob} (hno : ∀ j ob l, h.get j = some ob → m j = some l → l.blk ≠ l'.blk) (hb : base ≤ l'.blk) (hlt : l'.blk < w.heap.size)
    (hlies : Lies m w l' o'.cells) (hwhole : Whole w l' o') : Sim base w0 (m.add h.nx l') (h.new o') w := by
  have hn := s.fresh _ (Nat.le_refl _)
  have hm : m.le (m.add h.nx l') := Mu.le_add _ hn
  refine ⟨s.below, s.big, ?_, ?_, ?_, ?_, ?_⟩
  · intro j hj
    simp only [Hp.new] at hj
    rw [Mu.add_f, if_neg (by omega)]
    exact s.fresh j (by omega)
  · intro j k ek
    rw [Mu.add_f] at ek
    split at ek
    · cases ek; exact hlt
    · exact s.lt j k ek
  · refine s.ms.keep rfl (fun _ _ _ _ => rfl) (fun j b hb => ?_) (Nat.le_succ _) fun j l el => ?_
    · have := s.ms.nx hb
      simp only [Hp.new]
      rw [if_neg (by omega)]
    · rw [Mu.add_f] at el
      split at el
      · next e => rw [e]; exact s.ms.fr _ (Nat.le_refl _)
      · exact s.ms.ex j l el
  · intro j o ej hno
    have ej' : (if j = h.nx then some o' else h.get j) = some o := ej
    by_cases hj : j = h.nx
    · rw [if_pos hj] at ej'
      subst hj; cases ej'
      exact ⟨l', Mu.add_same _ _ _, hlies.mono hm, fun _ => ⟨hb, hwhole⟩⟩
    · rw [if_neg hj] at ej'
      obtain ⟨k, hk, h1, h2⟩ := s.obs j o ej' hno
      exact ⟨k, hm.1 _ _ hk, h1.mono hm, h2⟩
  · intro j k a b p q ej ek hjk ra ep eq
    have ej' : (if j = h.nx then some o' else h.get j) = some a := ej
    have ek' : (if k = h.nx then some o' else h.get k) = some b := ek
    rw [Mu.add_f] at ep eq
    by_cases h1 : j = h.nx <;> by_cases h2 : k = h.nx
    · exact absurd (h1.trans h2.symm) hjk
    · rw [if_pos h1] at ep; rw [if_neg h2] at eq ek'
      cases ep
      exact fun e => hno k b q ek' eq e.symm
    · rw [if_neg h1] at ep ej'; rw [if_pos h2] at eq
      cases eq
      exact hno j a p ej' ep
    · rw [if_neg h1] at ep ej'; rw [if_neg h2] at eq ek'
      exact s.apart j k a b p q ej' ek' hjk ra ep eq

/-- Cells written into a block of which only the size is known. -/
theorem run_store_raw (g o : Nat) (e : TypeId) (f : Nat × Nat) : ∀ (vs : List Value) (i : Nat) (c : Array Value) (w : World), w.heap[g]? = some (.cells c e f) → (∀ x, x < c.size → ¬ (f.1 ≤ x ∧ x < f.2)) →
    o + i + vs.length ≤ c.size → vs.all one = true →
    ∃ w' c', (storeCells ⟨g, o, none⟩ vs i).run P w = .ok () w' ∧ w'.heap[g]? = some (.cells c' e f) ∧ c'.size = c.size ∧ (∀ j, j < o + i → c'[j]? = c[j]?) ∧ (∀ (j : Nat) v, vs[j]? = some v → c'[o + i + j]? = some v) ∧
      (∀ b, b ≠ g → w'.heap[b]? = w.heap[b]?) ∧ w'.heap.size = w.heap.size ∧ w'.os = w.os ∧ w'.tape = w.tape ∧ w'.output = w.output ∧ w'.drawn = w.drawn := by
  intro vs
  induction vs with
  | nil =>
    intro i c w hc _ _ _
    exact ⟨w, c, rfl, hc, rfl, fun _ _ => rfl, by simp, fun _ _ => rfl, rfl, rfl, rfl, rfl, rfl⟩
  | cons v vs ih =>
    intro i c w hc hf hl ho
    simp only [List.all_cons, Bool.and_eq_true] at ho
    simp only [List.length_cons] at hl
    have hcell : w.cell? ⟨g, o + i, none⟩ = some c[o + i] := by
      simp only [World.cell?, hc]
      simp [Array.getElem?_eq_getElem (show o + i < c.size by omega)]
    have hfr : w.frozen? ⟨g, o + i, none⟩ = false := by
      simp only [World.frozen?, hc]
      have := hf (o + i) (by omega)
      simp
      omega
    have hst : (store ⟨g, o + i, none⟩ v).run P w = .ok () (w.setCell ⟨g, o + i, none⟩ v) := by
      have ho' := ho.1
      unfold store
      cases v <;> first | (simp only [Sem.run, hcell, hfr]; rfl) | exact absurd ho' (by simp [one])
    have hblk : (w.setCell ⟨g, o + i, none⟩ v).heap[g]? = some (.cells (c.setIfInBounds (o + i) v) e f) := by
      simp [World.setCell, Array.getElem?_modify, hc]
    obtain ⟨w', c', h1, h2, h3, h4, h5, h6, h7, h8, h9, h10, h11⟩ := ih (i + 1) (c.setIfInBounds (o + i) v) _ hblk (by simpa using hf) (by simp; omega) ho.2
    refine ⟨w', c', ?_, h2, by simpa using h3, ?_, ?_, fun b hb => (h6 b hb).trans (heap_setCell hb), by simpa [World.setCell] using h7, h8, h9, h10, h11⟩
    · unfold storeCells
      rw [add_lit']
      simp only [Sem.run_bind, hst, Result.andThen_ok]
      exact h1
    · intro j hj
      rw [h4 j (by omega), Array.getElem?_setIfInBounds, if_neg (by omega)]
    · intro j x ex
      cases j with
      | zero =>
        simp only [List.getElem?_cons_zero, Option.some.injEq] at ex
        subst ex
        rw [h4 (o + i + 0) (by omega)]
        simp [show o + i < c.size by omega]
      | succ j =>
        simp only [List.getElem?_cons_succ] at ex
        have := h5 j x ex
        rwa [show o + (i + 1) + j = o + i + (j + 1) by omega] at this

theorem run_app_room {t u ty el : TypeId} {du : TypeDesc} {ti : TypeInfo} {esz n sLen sCap : Nat} {b : Option Addr} {x' : Value} {xs' : List Value} {w' : World} (hu : P.underlying t = some (.slice el)) (huu : P.underlying u = some du) (hdu : (∃ e2, du = .slice e2) ∨ du = .string)
    (hi : P.info? el = some ti) (hn : ti.size = esz) (hlen : (Builtin.lenOf x').run P w = .ok n w) (hf : (Builtin.firstCells esz n x').run P w = .ok xs'.toArray w) (hroom : sLen + n ≤ sCap)
    (hst : (match b with | some a => storeCells (a.add (sLen * esz)) xs' | none => pure ()).run P w = .ok () w') :
    (Builtin.append_ #[t, u] ty #[.slice b sLen sCap, x']).run P w = .ok (.slice b (sLen + n) sCap) w' := by
  cases b with
  | none =>
    simp only [Sem.run_pure] at hst
    cases hst
    obtain ⟨e2, rfl⟩ | rfl := hdu
    · simp [Builtin.append_, run_underlying hu, run_underlying huu, sizeOf, typeInfo, hi, hn, hlen, hroom, hf]
    · simp [Builtin.append_, run_underlying hu, run_underlying huu, sizeOf, typeInfo, hi, hn, hlen, hroom, hf]
  | some a =>
    simp only at hst
    obtain ⟨e2, rfl⟩ | rfl := hdu
    · simp [Builtin.append_, run_underlying hu, run_underlying huu, sizeOf, typeInfo, hi, hn, hlen, hroom, hf, hst]
    · simp [Builtin.append_, run_underlying hu, run_underlying huu, sizeOf, typeInfo, hi, hn, hlen, hroom, hf, hst]

theorem run_app_grow {t u ty el : TypeId} {du : TypeDesc} {ti : TypeInfo} {z : Value} {esz n sLen sCap : Nat} {b : Option Addr} {x' : Value} {xs' olds : List Value} (hu : P.underlying t = some (.slice el)) (huu : P.underlying u = some du) (hdu : (∃ e2, du = .slice e2) ∨ du = .string)
    (hi : P.info? el = some ti) (hn : ti.size = esz) (hz : ti.zero = some z) (hlen : (Builtin.lenOf x').run P w = .ok n w) (hf : (Builtin.firstCells esz n x').run P w.drew = .ok xs'.toArray w.drew)
    (hold : (Builtin.firstCells esz sLen (.slice b sLen sCap)).run P w.drew = .ok olds.toArray w.drew) (hgrow : sCap < sLen + n) (h63 : sLen + n ≤ 140737488355328) (hfit : Builtin.nextslicecap (sLen + n) sCap * ti.bytes ≤ 281474976710656) :
    (Builtin.append_ #[t, u] ty #[.slice b sLen sCap, x']).run P w =
      .ok (.slice (some ⟨w.heap.size, 0, none⟩) (sLen + n) (grownCap w (sLen + n) sCap el)) (w.drew.alloc (.cells ((olds ++ xs').toArray ++ Builtin.zeroCells z.cells (grownCap w (sLen + n) sCap el - (sLen + n))) el)) := by
  have hnn : ¬ (sLen + n ≤ sCap) := by omega
  have h63' : ¬ (9223372036854775807 < ((sLen : Int) + (n : Int))) := by omega
  have h48' : ¬ (281474976710656 < Builtin.nextslicecap (sLen + n) sCap * ti.bytes) := by omega
  obtain ⟨e2, rfl⟩ | rfl := hdu
  · simp [Builtin.append_, run_underlying hu, run_underlying huu, sizeOf, typeInfo, zeroValue, hi, hz, hn, hlen, hnn, h63', h48', Question.forced, hf, hold, newRow, grownCap]
    rw [← Array.append_assoc]
    congr 3
    simp
  · simp [Builtin.append_, run_underlying hu, run_underlying huu, sizeOf, typeInfo, zeroValue, hi, hz, hn, hlen, hnn, h63', h48', Question.forced, hf, hold, newRow, grownCap]
    rw [← Array.append_assoc]
    congr 3
    simp

theorem loadCells_k (s : Sim base w0 m h w) {i o n : Nat} {l : Loc} {vs : List Value} (hl : m i = some l) (e : h.rd i o n = some vs) :
    ∃ vs', RVs m vs vs' ∧ ∀ k, (loadCells ⟨l.blk, l.off + o, none⟩ n).run P { w with drawn := k } = .ok vs'.toArray { w with drawn := k } := by
  obtain ⟨vs', h1, h2, h3⟩ := cells_of s hl e
  refine ⟨vs', h1, fun k => ?_⟩
  have := run_loadCells_list (P := P) (w := { w with drawn := k }) ⟨l.blk, l.off + o, none⟩ vs' h3
  rw [h2] at this
  exact this

theorem firstS (s : Sim base w0 m h w) {esz n : Nat} {a : Option Addr} {len c : Nat} {y : Value} {xs : List Value} (ry : RV m (.slice a len c) y) (e : rdS h a (n * esz) = some xs) :
    ∃ xs', RVs m xs xs' ∧ ∀ k, (Builtin.firstCells esz n y).run P { w with drawn := k } = .ok xs'.toArray { w with drawn := k } := by
  have h0 : ∀ (b : Option Addr) (len c : Nat), n * esz = 0 → ∀ k, (Builtin.firstCells esz n (.slice b len c)).run P { w with drawn := k } = .ok #[] { w with drawn := k } := by
    intro b len c h0 k
    cases b <;> simp [Builtin.firstCells, h0, loadCells, loadCellsFrom]
  cases ry with
  | nils => simp only [rdS, Option.some.injEq] at e; subst e; exact ⟨[], RVs.nil m, fun _ => rfl⟩
  | @slice i o _ _ l hl =>
    simp only [rdS] at e
    split at e
    · next hn => cases e; exact ⟨[], RVs.nil m, h0 _ _ _ hn⟩
    · simp only [Option.getD_none, if_true] at e
      exact loadCells_k s hl e
  | @sliceX i o _ _ l hl =>
    simp only [rdS] at e
    split at e
    · next hn => cases e; exact ⟨[], RVs.nil m, h0 _ _ _ hn⟩
    · simp only [Option.getD_some, if_true] at e
      exact loadCells_k s hl e
  | sliceZ hl =>
    simp only [rdS] at e
    split at e
    · next hn => cases e; exact ⟨[], RVs.nil m, h0 _ _ _ hn⟩
    · simp at e
  | sliceY b hl =>
    simp only [rdS] at e
    split at e
    · next hn => cases e; exact ⟨[], RVs.nil m, h0 _ _ _ hn⟩
    · simp at e

theorem one_all {l l' : List Value} (hr : RVs m l l') (ho : l.all one = true) : l'.all one = true := by
  rw [List.all_eq_true] at ho ⊢
  intro x hx
  obtain ⟨i, hi⟩ := List.getElem?_of_mem hx
  have hlt := (List.getElem?_eq_some_iff.1 hi).1
  have hlt' : i < l.length := by rw [hr.1]; exact hlt
  have : l[i]? = some l[i] := List.getElem?_eq_getElem hlt'
  exact one_of (hr.2 i _ _ this hi) (ho _ (List.mem_of_getElem? this))

theorem grownCap_ge (w : World) (need old : Nat) (e : TypeId) : need ≤ grownCap w need old e := by
  unfold grownCap Question.cut
  simp
theorem drew_eq (w : World) : w.drew = { w with drawn := w.drawn + 1 } := rfl

/-- Behind a growth: a new block holds the old cells and the new ones. -/
theorem snd_grown (s : Sim base w0 m h w) {z : Value} {esz need cp : Nat} {el : TypeId} (hz : z.cells.size = esz) (hc : need ≤ cp) {cs cs' : List Value} (hr : RVs m cs cs') {s1 : Sem Value}
    (hrun : s1.run P w = .ok (.slice (some ⟨w.heap.size, 0, none⟩) need cp) (w.drew.alloc (.cells (cs'.toArray ++ Builtin.zeroCells z.cells (cp - need)) el))) :
    Snd P base w0 m w s1 (.slice (some ⟨h.nx, 0, some 0⟩) need need) (h.new ⟨cs, true, esz⟩) := by
  have s2 : Sim base w0 m h w.drew := s.drawn _ (Nat.le_succ _)
  have s3 := s2.alloc (more := (Builtin.zeroCells z.cells (cp - need)).toList) (k := cp - need) (esz := esz) el hr (by simp [Builtin.zeroCells, hz]) (0, 0) (by simp)
  refine ⟨m.add h.nx ⟨w.heap.size, 0, cp - need⟩, _, _, hrun, Mu.le_add _ (s.fresh _ (Nat.le_refl _)), ?_, ?_⟩
  · have := RV.sliceX (m := m.add h.nx ⟨w.heap.size, 0, cp - need⟩) (i := h.nx) (o := 0) (n := need) (c := need) (Mu.add_same m h.nx _)
    simp only [Nat.add_zero] at this
    rwa [show need + (cp - need) = cp by omega] at this
  · have e : ((cs' ++ (Builtin.zeroCells z.cells (cp - need)).toList).toArray) = cs'.toArray ++ Builtin.zeroCells z.cells (cp - need) := by simp
    rw [e] at s3
    exact s3

/-- In place beyond what was known of the row. -/
theorem snd_inplace (s : Sim base w0 m h w) {i o len n rc esz : Nat} {l : Loc} {ob : Ob} {old xs xs' : List Value} (hl : m i = some l) (hob : h.get i = some ob) (hw : ob.rw = true) (hesz : ob.esz = esz)
    (hold : (if len = 0 then some [] else h.rd i o (len * esz)) = some old) (hlo : old.length = len * esz) (hx : xs.length = n * esz) (hxo : xs.all one = true) (hr : RVs m xs xs') (hroom : len + n ≤ rc) (hend : l.off + o + rc * esz ≤ l.off + ob.cells.length + l.slack * esz)
    {s1 : Sem Value} (hrun : ∀ w', (storeCells ⟨l.blk, l.off + o + len * esz, none⟩ xs').run P w = .ok () w' → s1.run P w = .ok (.slice (some ⟨l.blk, l.off + o, none⟩) (len + n) rc) w') :
    Snd P base w0 m w s1 (.slice (some ⟨h.nx, 0, some 0⟩) (len + n) (len + n)) ((h.del i).new ⟨old ++ xs, true, esz⟩) := by
  obtain ⟨hlies, hwh⟩ := s.loc hob hl
  obtain ⟨hbase, c, e, f, hblk, hfr, hsz⟩ := hwh hw
  rw [hesz] at hsz
  have hxl : xs'.length = n * esz := by rw [← hr.1, hx]
  have hmul : (len + n) * esz ≤ rc * esz := Nat.mul_le_mul_right _ hroom
  rw [Nat.add_mul] at hmul
  obtain ⟨w', c', h1, h2, h3, h4, h5, h6, h7, h8, h9, h10, h11⟩ := run_store_raw (P := P) l.blk (l.off + o + len * esz) e f xs' 0 c w hblk hfr (by omega) (one_all hr hxo)
  have hlt := s.lt i l hl
  have sd : Sim base w0 m (h.del i) w' := by
    refine (s.del i (s.ms.ex _ _ hl)).world ⟨h8, h9, h10, Nat.le_of_eq h7.symm, fun k hk => h6 k (by omega)⟩ (fun _ => Nat.le_of_eq h11.symm) (Nat.le_of_eq h7.symm) (fun b es ck hb => h6 b fun e => by rw [e, hblk] at hb; cases hb) ?_
    intro j q ob2 ej eq
    simp only [Hp.del] at ej
    split at ej
    · cases ej
    · next hj => exact h6 _ (fun eb => s.apart i j ob ob2 l q hob ej (fun x => hj x.symm) hw hl eq eb.symm)
  have hmm : rc * esz = (len + n) * esz + (rc - (len + n)) * esz := by rw [← Nat.add_mul]; congr 1; omega
  have sa := sd.adopt (l' := ⟨l.blk, l.off + o, rc - (len + n)⟩) (o' := ⟨old ++ xs, true, esz⟩) (by
      intro j ob2 q ej eq
      simp only [Hp.del] at ej
      split at ej
      · cases ej
      · next hj => exact fun eb => s.apart i j ob ob2 l q hob ej (fun x => hj x.symm) hw hl eq eb.symm) hbase (by rw [h7]; exact hlt) (by
      intro j v ej
      rw [List.getElem?_append] at ej
      split at ej
      · next hj =>
        have hl0 : len ≠ 0 := by intro h0; rw [hlo, h0] at hj; omega
        rw [if_neg hl0] at hold
        obtain ⟨vs', g1, g2, g3⟩ := cells_of s hl hold
        obtain ⟨v', ev, rv⟩ := g1.get ej
        refine ⟨v', ?_, rv⟩
        have := g3 j v' ev
        rw [add_lit'] at this
        simp only [World.cell?, hblk] at this
        simp only [World.cell?, h2]
        simp only [Option.isSome_none, Bool.false_eq_true, if_false] at this ⊢
        rw [h4 (l.off + o + j) (by omega)]
        exact this
      · next hj =>
        obtain ⟨v', ev, rv⟩ := hr.get ej
        refine ⟨v', ?_, rv⟩
        have := h5 _ v' ev
        simp only [World.cell?, h2, Option.isSome_none, Bool.false_eq_true, if_false]
        rw [← this]
        congr 1
        omega) ⟨c', e, f, h2, by rw [h3]; exact hfr, by rw [h3]; simp only [List.length_append]; rw [hlo, hx, ← Nat.add_mul]; omega⟩
  refine ⟨m.add (h.del i).nx ⟨l.blk, l.off + o, rc - (len + n)⟩, _, w', hrun w' h1, Mu.le_add _ (by have := s.fresh _ (Nat.le_refl _); exact this), ?_, sa⟩
  have := RV.sliceX (m := m.add (h.del i).nx ⟨l.blk, l.off + o, rc - (len + n)⟩) (i := h.nx) (o := 0) (n := len + n) (c := len + n) (Mu.add_same m h.nx _)
  simp only [Nat.add_zero] at this
  rwa [show len + n + (rc - (len + n)) = rc by omega] at this
end
end Go.Proofs.YtnebdnbglggdkaaDoorW.Am
