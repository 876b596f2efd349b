/- The operations, third part: literals, parts, places, slices. -/
import Derived.Test.YtnebdnbglggdkaaDoorAmF
namespace Go.Proofs.YtnebdnbglggdkaaDoorW.Am
open Go Go.RowKit
section
variable {P : Program} {base : Nat} {w0 w : World} {m : Mu} {h : Hp}

theorem zip_parts (parts : Array (Nat × Value)) : parts.toList = (parts.toList.map (·.1)).zip (parts.toList.map (·.2)) := by
  generalize parts.toList = l
  induction l with
  | nil => rfl
  | cons a l ih => simp only [List.map_cons, List.zip_cons_cons]; rw [← ih]

theorem RVs.of_arr {z : Array Value} (hf : flatL z.toList = true) : RVs m z.toList z.toList := RVs.of_flat hf

/-- A literal of a struct. -/
theorem snd_bldS (s : Sim base w0 m h w) {t : TypeId} {it : TypeInfo} {fields : Array Field} {z : Value} {places : List (Nat × Nat)} (hu : P.underlying t = some (.struct fields)) (hi : P.info? t = some it) (hz : it.zero = some z)
    (hp : fields.toList.mapM (fun f => (P.info? f.type).map fun i => (f.offset, i.size)) = some places) (hf : flatL z.cells.toList = true)
    {ix : List Nat} {vs : List Value} {parts : Array (Nat × Value)} {c : Array Value} (hix : parts.toList.map (·.1) = ix) (hv : RVs m vs (parts.toList.map (·.2)))
    (e : Instr.fill (fun i => places[i]?) z.cells (ix.zip vs) = some c) : Snd P base w0 m w (Instr.build t parts) (.agg c) h := by
  obtain ⟨c', h1, h2⟩ := fill_rel (m := m) (fun i => places[i]?) (fun i => places.toArray[i]?) (by intro i q hq; simpa using hq) ix vs _ z.cells z.cells c hv (RVs.of_arr hf) e
  refine Snd.pure s (v' := .agg c') ?_ (by obtain ⟨c⟩ := c; obtain ⟨c'⟩ := c'; exact .agg h2.1 h2.2)
  refine run_build w t parts c' ?_
  unfold Program.built
  rw [hi, hu]
  simp only [hz, hp]
  rw [zip_parts parts, hix]
  exact h1
/-- A literal of an array. -/
theorem snd_bldA (s : Sim base w0 m h w) {t el : TypeId} {n : Nat} {it ie : TypeInfo} {z : Value} {places : List (Nat × Nat)} (hu : P.underlying t = some (.array n el)) (hi : P.info? t = some it) (hz : it.zero = some z)
    (he : P.info? el = some ie) (hp : ∀ i q, places[i]? = some q → some (i * ie.size, ie.size) = some q) (hf : flatL z.cells.toList = true)
    {ix : List Nat} {vs : List Value} {parts : Array (Nat × Value)} {c : Array Value} (hix : parts.toList.map (·.1) = ix) (hv : RVs m vs (parts.toList.map (·.2)))
    (e : Instr.fill (fun i => places[i]?) z.cells (ix.zip vs) = some c) : Snd P base w0 m w (Instr.build t parts) (.agg c) h := by
  obtain ⟨c', h1, h2⟩ := fill_rel (m := m) (fun i => places[i]?) (fun i => some (i * ie.size, ie.size)) hp ix vs _ z.cells z.cells c hv (RVs.of_arr hf) e
  refine Snd.pure s (v' := .agg c') ?_ (by obtain ⟨c⟩ := c; obtain ⟨c'⟩ := c'; exact .agg h2.1 h2.2)
  refine run_build w t parts c' ?_
  unfold Program.built
  rw [hi, hu]
  simp only [hz, he]
  rw [zip_parts parts, hix]
  exact h1
/-- A literal of a slice. -/
theorem snd_bsl (s : Sim base w0 m h w) {t el : TypeId} {len : Nat} {ie : TypeInfo} {zv : Value} {z : Array Value} (hu : P.underlying t = some (.slice el)) (he : P.info? el = some ie) (hz : ie.zero = some zv)
    (hsmall : ¬ len * ie.size > 2 ^ 24) (hzz : z = zrow zv (len * ie.size)) (hf : flatL z.toList = true)
    {ix : List Nat} {vs : List Value} {parts : Array (Nat × Value)} {c : Array Value} (hix : parts.toList.map (·.1) = ix) (hv : RVs m vs (parts.toList.map (·.2)))
    (e : Instr.fill (fun i => some (i * ie.size, ie.size)) z (ix.zip vs) = some c) :
    Snd P base w0 m w (Instr.buildSlice t len parts) (.slice (some ⟨h.nx, 0, none⟩) len len) (h.new ⟨c.toList, true, ie.size⟩) := by
  obtain ⟨c', h1, h2⟩ := fill_rel (m := m) (fun i => some (i * ie.size, ie.size)) (fun i => some (i * ie.size, ie.size)) (fun _ _ hq => hq) ix vs _ z z c hv (RVs.of_arr hf) e
  obtain ⟨hm, hs⟩ := new_obj s el ie.size h2
  rw [← hix, ← zip_parts parts] at h1
  refine ⟨_, .slice (some ⟨w.heap.size, 0, none⟩) len len, _, ?_, hm, ?_, hs⟩
  · by_cases h0 : len * ie.size = 0
    · unfold zrow at hzz
      rw [if_pos h0] at hzz
      subst hzz
      simp [Instr.buildSlice, run_underlying hu, sizeOf, typeInfo, he, h0, newRow, h1, Array.range_zero']
    · unfold zrow at hzz
      rw [if_neg h0] at hzz
      subst hzz
      rw [run_buildSlice w t el len parts c' ie zv hu he hz hsmall h0 h1]
      simp
  · have := RV.slice (m := m.add h.nx ⟨w.heap.size, 0, 0⟩) (i := h.nx) (o := 0) (n := len) (c := len) (Mu.add_same m h.nx ⟨w.heap.size, 0, 0⟩)
    simpa using this

theorem snd_fad (s : Sim base w0 m h w) {t : TypeId} {fields : Array Field} {f : Nat} {fd : Field} {n : Nat} {ti : TypeInfo} (hu : P.underlying t = some (.struct fields)) (hf : fields[f]? = some fd) (hi : P.info? fd.type = some ti) (hn : ti.size = n) (h0 : n ≠ 0)
    {i o : Nat} {x : Value} (rx : RV m (.pointer (some ⟨i, o, none⟩)) x) : Snd P base w0 m w (Instr.fieldAt t x f) (.pointer (some ⟨i, o + fd.offset, none⟩)) h := by
  cases rx with
  | @ptr _ _ l hl =>
    refine Snd.pure s (v' := .pointer (some ⟨l.blk, l.off + o + fd.offset, none⟩)) ?_ (by have := RV.ptr (m := m) (i := i) (o := o + fd.offset) hl; rwa [← Nat.add_assoc] at this)
    have hn' : ¬ ti.size = 0 := by rw [hn]; exact h0
    simp [Instr.fieldAt, run_underlying hu, hf, Instr.sureAddr, fieldPlace, sizeOf, typeInfo, hi, hn', add_lit']

theorem RVs.extract {a a' : Array Value} (hr : RVs m a.toList a'.toList) (i j : Nat) : RVs m (a.extract i j).toList (a'.extract i j).toList := by
  simp only [Array.toList_extract, List.extract_eq_take_drop]
  exact (hr.drop i).take (j - i)
theorem RVs.toAgg {a a' : Array Value} (hr : RVs m a.toList a'.toList) : RV m (.agg a) (.agg a') := by
  obtain ⟨a⟩ := a; obtain ⟨a'⟩ := a'; exact .agg hr.1 hr.2
theorem RV.ofAgg {a : Array Value} {x : Value} (r : RV m (.agg a) x) : ∃ a', x = .agg a' ∧ RVs m a.toList a'.toList := by
  obtain ⟨a⟩ := a
  obtain ⟨a', rfl, hr⟩ := RVs.of_agg r
  exact ⟨⟨a'⟩, rfl, hr⟩
theorem RV.ofTuple {a : Array Value} {x : Value} (r : RV m (.tuple a) x) : ∃ a', x = .tuple a' ∧ RVs m a.toList a'.toList := by
  obtain ⟨a⟩ := a
  obtain ⟨a', rfl, hr⟩ := RVs.of_tuple r
  exact ⟨⟨a'⟩, rfl, hr⟩
theorem RVs.aget {a a' : Array Value} (hr : RVs m a.toList a'.toList) {i : Nat} {v : Value} (e : a[i]? = some v) : ∃ v', a'[i]? = some v' ∧ RV m v v' := by
  have := hr.get (i := i) (v := v) (by simpa using e)
  simpa using this

/-- A part of a struct's or an array's value. -/
theorem snd_part (s : Sim base w0 m h w) {t : TypeId} {d : TypeDesc} {ti : TypeInfo} {n off : Nat} {agg : Bool} (hu : P.underlying t = some d) (hd : isAggD d = agg)
    (hi : P.info? t = some ti) (hn : ti.size = n) {cs cs' : Array Value} (hr : RVs m cs.toList cs'.toList) {v : Value}
    (e : (if agg then some (.agg (cs.extract off (off + n))) else cs[off]?) = some v) : Snd P base w0 m w (part t cs' off) v h := by
  have ha : (isAgg t).run P w = .ok agg w := by
    unfold isAgg
    simp only [Sem.run_bind, run_underlying hu, Result.andThen_ok]
    cases d <;> (simp only [isAggD] at hd; subst hd; rfl)
  cases agg with
  | true =>
    simp only [if_true, Option.some.injEq] at e
    subst e
    refine Snd.pure s (v' := .agg (cs'.extract off (off + n))) ?_ (RVs.toAgg (hr.extract _ _))
    simp [part, ha, sizeOf, typeInfo, hi, hn]
  | false =>
    simp only [Bool.false_eq_true, if_false] at e
    obtain ⟨v', hv, rv⟩ := hr.aget e
    refine Snd.pure s (v' := v') ?_ rv
    simp [part, ha, hv]

theorem snd_fld (s : Sim base w0 m h w) {t : TypeId} {fields : Array Field} {f : Nat} {fd : Field} {d : TypeDesc} {n : Nat} {agg : Bool} {ti : TypeInfo} (hu : P.underlying t = some (.struct fields)) (hf : fields[f]? = some fd) (hud : P.underlying fd.type = some d)
    (hd : isAggD d = agg) (hi : P.info? fd.type = some ti) (hn : ti.size = n) {cs : Array Value} {x v : Value} (rx : RV m (.agg cs) x)
    (e : (if agg then some (.agg (cs.extract fd.offset (fd.offset + n))) else cs[fd.offset]?) = some v) : Snd P base w0 m w (Instr.field t x f) v h := by
  obtain ⟨cs', rfl, hr⟩ := RV.ofAgg rx
  refine (snd_part (P := P) s hud hd hi hn hr e).mono' ?_
  simp [Instr.field, run_underlying hu, hf, asAgg]

theorem snd_iad (s : Sim base w0 m h w) {t el : TypeId} {esz : Nat} {ti : TypeInfo} (hu : P.underlying t = some (.slice el)) (hi : P.info? el = some ti) (hn : ti.size = esz)
    {i o len cap : Nat} {sp : Option Nat} {k : IntKind} {x : Int} {y z : Value} (ry : RV m (.slice (some ⟨i, o, sp⟩) len cap) y) (rz : RV m (.int k x) z) (hb : 0 ≤ x ∧ x < len) :
    Snd P base w0 m w (Instr.indexAt t y z) (.pointer (some ⟨i, o + x.toNat * esz, none⟩)) h := by
  obtain rfl := rz.scalar_int
  have hy : ∃ l c, m i = some l ∧ y = .slice (some ⟨l.blk, l.off + o, none⟩) len c := by
    cases ry with
    | slice hl => exact ⟨_, _, hl, rfl⟩
    | sliceX hl => exact ⟨_, _, hl, rfl⟩
    | sliceZ hl => exact absurd hb (by omega)
    | sliceY a hl => exact absurd hb (by omega)
  obtain ⟨l, c, hl, rfl⟩ := hy
  refine Snd.pure s (v' := .pointer (some ⟨l.blk, l.off + o + x.toNat * esz, none⟩)) ?_ (by have := RV.ptr (m := m) (i := i) (o := o + x.toNat * esz) hl; rwa [← Nat.add_assoc] at this)
  simp [Instr.indexAt, asIntOf, run_underlying hu, sizeOf, typeInfo, hi, hn, hb, add_lit']

theorem snd_iaa (s : Sim base w0 m h w) {t el : TypeId} {esz len : Nat} {ti : TypeInfo} (hu : P.underlying t = some (.array len el)) (hi : P.info? el = some ti) (hn : ti.size = esz)
    {i o : Nat} {k : IntKind} {x : Int} {y z : Value} (ry : RV m (.pointer (some ⟨i, o, none⟩)) y) (rz : RV m (.int k x) z) (hb : 0 ≤ x ∧ x < len) :
    Snd P base w0 m w (Instr.indexAt t y z) (.pointer (some ⟨i, o + x.toNat * esz, none⟩)) h := by
  obtain rfl := rz.scalar_int
  cases ry with
  | @ptr _ _ l hl =>
    refine Snd.pure s (v' := .pointer (some ⟨l.blk, l.off + o + x.toNat * esz, none⟩)) ?_ (by have := RV.ptr (m := m) (i := i) (o := o + x.toNat * esz) hl; rwa [← Nat.add_assoc] at this)
    simp [Instr.indexAt, asIntOf, run_underlying hu, Instr.sureAddr, sizeOf, typeInfo, hi, hn, hb, add_lit']

theorem snd_ixa (s : Sim base w0 m h w) {t el : TypeId} {d : TypeDesc} {esz len n : Nat} {agg : Bool} {ti : TypeInfo} (hu : P.underlying t = some (.array len el)) (hud : P.underlying el = some d) (hd : isAggD d = agg)
    (hi : P.info? el = some ti) (hn : ti.size = esz) (hnn : ti.size = n) {cs : Array Value} {k : IntKind} {x : Int} {y z v : Value} (ry : RV m (.agg cs) y) (rz : RV m (.int k x) z) (hb : 0 ≤ x ∧ x < len)
    (e : (if agg then some (.agg (cs.extract (x.toNat * esz) (x.toNat * esz + n))) else cs[x.toNat * esz]?) = some v) : Snd P base w0 m w (Instr.index t y z) v h := by
  obtain rfl := rz.scalar_int
  obtain ⟨cs', rfl, hr⟩ := RV.ofAgg ry
  refine (snd_part (P := P) s hud hd hi hnn hr e).mono' ?_
  simp [Instr.index, asIntOf, run_underlying hu, sizeOf, typeInfo, hi, hn, hb]

theorem snd_ixs (s : Sim base w0 m h w) {t : TypeId} (hu : P.underlying t = some .string) {str : ByteArray} {k : IntKind} {x : Int} {y z : Value} {b : UInt8} (ry : RV m (.string str) y) (rz : RV m (.int k x) z) (h0 : 0 ≤ x) (hb : str[x.toNat]? = some b) :
    Snd P base w0 m w (Instr.index t y z) (.int .u8 b.toNat) h := by
  obtain rfl := rz.scalar_int
  obtain rfl := ry.scalar_string
  refine Snd.pure s (v' := .int .u8 b.toNat) ?_ (.int _ _)
  simp [Instr.index, asIntOf, run_underlying hu, h0, hb]

/-- The bounds of a slice expression. -/
theorem run_bounds {is : Bool} {len cap : Nat} {lo hi mx : Option Value} {l u q : Nat} (e : bounds len cap lo hi mx = some (l, u, q)) : (Instr.sliceBounds is len cap lo hi mx).run P w = .ok (l, u, q) w := by
  have hb : ∀ (v : Option Value) (y r : Nat) (d : Option Nat) (code : BoundsCode), bnd v y d = some r → (∃ x, v = some x ∧ (Instr.sliceBound x y code).run P w = .ok r w) ∨ (v = none ∧ d = some r) := by
    intro v y r d code e
    unfold bnd at e
    split at e
    · next k i =>
      split at e
      · next hc => cases e; exact .inl ⟨_, rfl, run_sliceBound w k i y code hc.1 hc.2⟩
      · cases e
    · cases e
    · exact .inr ⟨rfl, e⟩
  unfold bounds at e
  split at e
  · cases e
  next m1 hm =>
  split at e
  · cases e
  next h1 hh =>
  split at e
  · cases e
  next l1 hl =>
  cases e
  unfold Instr.sliceBounds
  rcases hb mx cap q (some cap) (if is then .slice3Acap else .slice3Alen) hm with ⟨x, rfl, hx⟩ | ⟨rfl, hx⟩
  · simp only [Sem.run_bind, hx, Result.andThen_ok]
    rcases hb hi q u _ .slice3B hh with ⟨y, rfl, hy⟩ | ⟨rfl, hy⟩
    · simp only [Sem.run_bind, hy, Result.andThen_ok]
      rcases hb lo u l _ .slice3C hl with ⟨z, rfl, hz⟩ | ⟨rfl, hz⟩
      · simp only [Option.isSome_some, if_true, Sem.run_bind, hz, Result.andThen_ok]; rfl
      · simp only [Option.some.injEq] at hz; subst hz; simp only [Sem.run_bind, Sem.run_pure, Result.andThen_ok]
    · simp at hy
  · simp only [Option.some.injEq] at hx
    subst hx
    simp only [Sem.run_bind, Sem.run_pure, Result.andThen_ok]
    rcases hb hi cap u _ (if is then .sliceAcap else .sliceAlen) hh with ⟨y, rfl, hy⟩ | ⟨rfl, hy⟩
    · simp only [Sem.run_bind, hy, Result.andThen_ok]
      rcases hb lo u l _ .sliceB hl with ⟨z, rfl, hz⟩ | ⟨rfl, hz⟩
      · simp only [Option.isSome_none, Bool.false_eq_true, if_false, Sem.run_bind, hz, Result.andThen_ok]; rfl
      · simp only [Option.some.injEq] at hz; subst hz; simp only [Sem.run_bind, Sem.run_pure, Result.andThen_ok]
    · simp only [Option.isSome_none, Bool.false_eq_true, false_or] at hy
      split at hy
      · cases hy
      simp only [Option.some.injEq] at hy
      subst hy
      simp only [Sem.run_bind, Sem.run_pure, Result.andThen_ok]
      rcases hb lo len l _ .sliceB hl with ⟨z, rfl, hz⟩ | ⟨rfl, hz⟩
      · simp only [Option.isSome_none, Bool.false_eq_true, if_false, Sem.run_bind, hz, Result.andThen_ok]; rfl
      · simp only [Option.some.injEq] at hz; subst hz; simp only [Sem.run_bind, Sem.run_pure, Result.andThen_ok]
end
end Go.Proofs.YtnebdnbglggdkaaDoorW.Am
