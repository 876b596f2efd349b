/- The operations, second part: memory. -/
import Derived.Test.YtnebdnbglggdkaaDoorAmE
namespace Go.Proofs.YtnebdnbglggdkaaDoorW.Am
open Go Go.RowKit

theorem RV.cells {m : Mu} {v v' : Value} (r : RV m v v') : RVs m v.cells.toList v'.cells.toList := by
  cases r with
  | agg h1 h2 => exact ⟨h1, h2⟩
  | bool b => exact RVs.cons (.bool b) (RVs.nil m)
  | int k n => exact RVs.cons (.int k n) (RVs.nil m)
  | float k b => exact RVs.cons (.float k b) (RVs.nil m)
  | complex k a b => exact RVs.cons (.complex k a b) (RVs.nil m)
  | string s => exact RVs.cons (.string s) (RVs.nil m)
  | nilp => exact RVs.cons .nilp (RVs.nil m)
  | ptr h => exact RVs.cons (.ptr h) (RVs.nil m)
  | nils n c => exact RVs.cons (.nils n c) (RVs.nil m)
  | slice h => exact RVs.cons (.slice h) (RVs.nil m)
  | sliceX h => exact RVs.cons (.sliceX h) (RVs.nil m)
  | sliceZ h => exact RVs.cons (.sliceZ h) (RVs.nil m)
  | sliceY a h => exact RVs.cons (.sliceY a h) (RVs.nil m)
  | nilm => exact RVs.cons .nilm (RVs.nil m)
  | mapv h => exact RVs.cons (.mapv h) (RVs.nil m)
  | nilc => exact RVs.cons .nilc (RVs.nil m)
  | func a b c d => exact RVs.cons (.func a b c d) (RVs.nil m)
  | nilf => exact RVs.cons .nilf (RVs.nil m)
  | iface h => exact RVs.cons (.iface h) (RVs.nil m)
  | nili => exact RVs.cons .nili (RVs.nil m)
  | tuple a b => exact RVs.cons (.tuple a b) (RVs.nil m)
theorem RV.cells_size {m : Mu} {v v' : Value} (r : RV m v v') : v'.cells.size = v.cells.size := by
  have := r.cells.1
  simpa using this.symm

section
variable {P : Program} {base : Nat} {w0 w : World} {m : Mu} {h : Hp}

theorem run_newRow' (e : TypeId) (c : Array Value) : (newRow e c).run P w = .ok ⟨w.heap.size, 0, none⟩ { w with heap := w.heap.push (.cells c e) } := rfl

theorem new_obj (s : Sim base w0 m h w) {cs cs' : List Value} (e : TypeId) (esz : Nat) (hr : RVs m cs cs') :
    m.le (m.add h.nx ⟨w.heap.size, 0, 0⟩) ∧ Sim base w0 (m.add h.nx ⟨w.heap.size, 0, 0⟩) (h.new ⟨cs, true, esz⟩) { w with heap := w.heap.push (.cells cs'.toArray e) } := by
  refine ⟨Mu.le_add _ (s.fresh _ (Nat.le_refl _)), ?_⟩
  have := s.alloc (more := []) (k := 0) (esz := esz) e hr (by simp) (0, 0) (by simp)
  simpa using this

theorem snd_newVar (s : Sim base w0 m h w) (e : TypeId) {v v' : Value} (r : RV m v v') (esz : Nat) :
    Snd P base w0 m w (do pure (.pointer (some (← newVar e v')))) (putPtr h v.cells.toList esz).1 (putPtr h v.cells.toList esz).2 := by
  obtain ⟨h1, h2⟩ := new_obj s e esz r.cells
  refine ⟨_, .pointer (some ⟨w.heap.size, 0, none⟩), _, ?_, h1, ?_, h2⟩
  · simp [newVar, run_newRow']
  · have := RV.ptr (m := m.add h.nx ⟨w.heap.size, 0, 0⟩) (i := h.nx) (o := 0) (Mu.add_same m h.nx ⟨w.heap.size, 0, 0⟩)
    simpa [putPtr] using this

theorem snd_box (s : Sim base w0 m h w) (e : TypeId) {v v' : Value} (r : RV m v v') :
    Snd P base w0 m w (Instr.box e v') (putPtr h v.cells.toList 0).1 (putPtr h v.cells.toList 0).2 := snd_newVar s e r 0

theorem snd_new (s : Sim base w0 m h w) (e : TypeId) {i : TypeInfo} {z : Value} (hi : P.info? e = some i) (hz : i.zero = some z) (hf : flat z = true) (x : Value) :
    Snd P base w0 m w (Instr.alloc e true x) (putPtr h z.cells.toList 0).1 (putPtr h z.cells.toList 0).2 := by
  obtain ⟨m', v', w', hr, h1, h2, h3⟩ := snd_newVar (P := P) s e (RV.of_flat m z hf) 0
  refine ⟨m', v', w', ?_, h1, h2, h3⟩
  rw [← hr]
  simp [Instr.alloc, zeroValue, typeInfo, hi, hz]

theorem Snd.mono' {x y : Sem Value} {v : Value} {h' : Hp} (k : Snd P base w0 m w x v h') (e : y.run P w = x.run P w) : Snd P base w0 m w y v h' := by
  obtain ⟨m', v', w', hr, h1, h2, h3⟩ := k
  exact ⟨m', v', w', e.trans hr, h1, h2, h3⟩

theorem run_load1 (s : Sim base w0 m h w) {t : TypeId} {d : TypeDesc} (hu : P.underlying t = some d) (hd : isAggD d = false)
    {i o : Nat} {x v : Value} (rx : RV m (.pointer (some ⟨i, o, none⟩)) x) (e : h.rd i o 1 = some [v]) : ∃ v', (Instr.loadAt t x).run P w = .ok v' w ∧ RV m v v' := by
  cases rx with
  | @ptr _ _ l hl =>
    obtain ⟨vs', h1, h2, h3⟩ := cells_of s hl e
    obtain ⟨v', b, rfl, rv, _⟩ := h1.cases_cons
    have hc := h3 0 v' rfl
    rw [add_lit', Nat.add_zero] at hc
    refine ⟨v', ?_, rv⟩
    have ha : (isAgg t).run P w = .ok false w := by
      unfold isAgg
      simp only [Sem.run_bind, run_underlying hu, Result.andThen_ok]
      cases d <;> first | rfl | exact absurd hd (by simp [isAggD])
    simp [Instr.loadAt, Instr.sureAddr, loadVar, ha, hc]

theorem run_loadn (s : Sim base w0 m h w) {t : TypeId} {d : TypeDesc} {n : Nat} {ti : TypeInfo} (hu : P.underlying t = some d) (hd : isAggD d = true)
    (hi : P.info? t = some ti) (hn : ti.size = n)
    {i o : Nat} {x : Value} {vs : List Value} (rx : RV m (.pointer (some ⟨i, o, none⟩)) x) (e : h.rd i o n = some vs) : ∃ v', (Instr.loadAt t x).run P w = .ok v' w ∧ RV m (.agg ⟨vs⟩) v' := by
  cases rx with
  | @ptr _ _ l hl =>
    obtain ⟨vs', h1, h2, h3⟩ := run_loadCells' (P := P) s hl e
    refine ⟨.agg ⟨vs'⟩, ?_, .agg h1.1 h1.2⟩
    have ha : (isAgg t).run P w = .ok true w := by
      unfold isAgg
      simp only [Sem.run_bind, run_underlying hu, Result.andThen_ok]
      cases d <;> first | rfl | exact absurd hd (by simp [isAggD])
    simp only [Instr.loadAt, Instr.sureAddr, loadVar, Sem.run_bind, Sem.run_pure, Result.andThen_ok, ha, if_true, sizeOf, typeInfo, program, Sem.run]
    simp [hi, hn, h3]

theorem snd_load1 (s : Sim base w0 m h w) {t : TypeId} {d : TypeDesc} (hu : P.underlying t = some d) (hd : isAggD d = false)
    {i o : Nat} {x v : Value} (rx : RV m (.pointer (some ⟨i, o, none⟩)) x) (e : h.rd i o 1 = some [v]) : Snd P base w0 m w (Instr.loadAt t x) v h :=
  let ⟨_, h1, h2⟩ := run_load1 (P := P) s hu hd rx e; Snd.pure s h1 h2
theorem snd_loadn (s : Sim base w0 m h w) {t : TypeId} {d : TypeDesc} {n : Nat} {ti : TypeInfo} (hu : P.underlying t = some d) (hd : isAggD d = true)
    (hi : P.info? t = some ti) (hn : ti.size = n)
    {i o : Nat} {x : Value} {vs : List Value} (rx : RV m (.pointer (some ⟨i, o, none⟩)) x) (e : h.rd i o n = some vs) : Snd P base w0 m w (Instr.loadAt t x) (.agg ⟨vs⟩) h :=
  let ⟨_, h1, h2⟩ := run_loadn (P := P) s hu hd hi hn rx e; Snd.pure s h1 h2

theorem run_storeVar' (s : Sim base w0 m h w) {t : TypeId} {n : Nat} {ti : TypeInfo} (hi : P.info? t = some ti) (hn : ti.size = n)
    {i o : Nat} {x v v' : Value} {h' : Hp} (rx : RV m (.pointer (some ⟨i, o, none⟩)) x) (rv : RV m v v') (hs : v.cells.size = n) (e : h.wr i o v.cells.toList = some h') :
    ∃ w', (Instr.storeAt t x v').run P w = .ok () w' ∧ Sim base w0 m h' w' := by
  cases rx with
  | @ptr _ _ l hl =>
    obtain ⟨w', hr, _, _, hsim⟩ := run_wr (P := P) s hl e rv.cells
    refine ⟨w', ?_, hsim⟩
    have h2 : v'.cells.size = ti.size := by rw [rv.cells_size, hs, hn]
    simp [Instr.storeAt, Instr.sureAddr, storeVar, sizeOf, typeInfo, hi, h2, hr]

/-- Rows that are filled. -/
theorem fold_rel {off : Nat} : ∀ (ps ps' : List (Value × Nat)) (cs cs' : Array Value), ps.length = ps'.length → (∀ (j : Nat) x x', ps[j]? = some x → ps'[j]? = some x' → RV m x.1 x'.1 ∧ x.2 = x'.2) → RVs m cs.toList cs'.toList →
    RVs m (ps.foldl (fun cs (c, j) => cs.setIfInBounds (off + j) c) cs).toList (ps'.foldl (fun cs (c, j) => cs.setIfInBounds (off + j) c) cs').toList := by
  intro ps
  induction ps with
  | nil =>
    intro ps' cs cs' hl _ hr
    cases ps' with
    | nil => exact hr
    | cons a b => simp at hl
  | cons p ps ih =>
    intro ps' cs cs' hl hp hr
    cases ps' with
    | nil => simp at hl
    | cons p' ps' =>
      simp only [List.foldl_cons]
      obtain ⟨r1, r2⟩ := hp 0 p p' rfl rfl
      refine ih ps' _ _ (by simpa using hl) (fun j x x' e e' => hp (j + 1) x x' (by simpa using e) (by simpa using e')) ?_
      rw [← r2]
      simp only [Array.toList_setIfInBounds]
      exact hr.set _ r1

theorem fill_rel (place place' : Nat → Option (Nat × Nat)) (hp : ∀ i q, place i = some q → place' i = some q) : ∀ (ix : List Nat) (vs vs' : List Value) (z z' c : Array Value), RVs m vs vs' → RVs m z.toList z'.toList →
    Instr.fill place z (ix.zip vs) = some c → ∃ c', Instr.fill place' z' (ix.zip vs') = some c' ∧ RVs m c.toList c'.toList := by
  intro ix
  induction ix with
  | nil =>
    intro vs vs' z z' c _ hz e
    simp [Instr.fill] at e
    subst e
    exact ⟨z', by simp [Instr.fill], hz⟩
  | cons i ix ih =>
    intro vs vs' z z' c hv hz e
    cases vs with
    | nil =>
      obtain rfl := hv.cases_nil
      simp [Instr.fill] at e
      subst e
      exact ⟨z', by simp [Instr.fill], hz⟩
    | cons v vs =>
      obtain ⟨v', vs', rfl, rv, hv⟩ := hv.cases_cons
      simp only [List.zip_cons_cons, Instr.fill] at e ⊢
      split at e
      · cases e
      · next off size hpl =>
        rw [hp i _ hpl]
        have hsz := rv.cells_size
        have hzz : z'.size = z.size := by have := hz.1; simpa using this.symm
        simp only [hsz, hzz] at e ⊢
        split at e
        · cases e
        · next hc =>
          rw [if_neg hc]
          refine ih vs vs' _ _ c hv ?_ e
          have hcl := rv.cells
          have h1 := fold_rel (m := m) (off := off) v.cells.zipIdx.toList v'.cells.zipIdx.toList z z' (by simpa using hcl.1) (fun j x x' e e' => by
            simp only [Array.toList_zipIdx, List.getElem?_zipIdx, Option.map_eq_some_iff] at e e'
            obtain ⟨a, ha, rfl⟩ := e
            obtain ⟨b, hb, rfl⟩ := e'
            exact ⟨hcl.2 j a b ha hb, rfl⟩) hz
          simpa only [Array.foldl_toList] using h1
end
end Go.Proofs.YtnebdnbglggdkaaDoorW.Am
