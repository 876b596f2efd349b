/- Words on memory that several laws share: cells of known objects, rows that are read, what turns; and from a law's contract to its row where an argument is a row of numbers. -/
import Derived.Test.YtnebdnbglggdkaaDoorAmV
namespace Go.Proofs.YtnebdnbglggdkaaDoorW.Am
open Go Go.RowKit
abbrev nI : Int → Value := Value.int .i64
abbrev ptr (q : Nat) : Value := .pointer (some ⟨q, 0, none⟩)
theorem rd_f {h : Hp} {i : Nat} {us : List Value} {b : Bool} {e : Nat} (hg : h.get i = some ⟨us, b, e⟩) {x : Nat} {v : Value} (hx : us[x]? = some v) : h.rd i (0 + x) 1 = some [v] := by
  have hl := (List.getElem?_eq_some_iff.1 hx).1
  unfold Hp.rd
  simp only [hg, Nat.zero_add]
  rw [if_pos (by omega), List.drop_eq_getElem_cons hl]
  rw [List.getElem?_eq_getElem hl] at hx
  cases hx
  rfl
theorem wr_f {h : Hp} {i : Nat} {us : List Value} {e : Nat} (hg : h.get i = some ⟨us, true, e⟩) {x : Nat} (hx : x < us.length) {v : Value} (hv : one v = true) : h.wr i (0 + x) [v] = some (h.put i ⟨us.set x v, true, e⟩) := by
  unfold Hp.wr
  simp only [hg, Nat.zero_add]
  rw [if_pos ⟨trivial, by simp; omega, by simp [hv]⟩]
  rfl
theorem hput_same (h : Hp) (i : Nat) (o : Ob) : (h.put i o).get i = some o := by simp [Hp.put]
theorem hput_ne (h : Hp) {i j : Nat} (o : Ob) (hij : j ≠ i) : (h.put i o).get j = h.get j := by simp [Hp.put, hij]
theorem hput_nx (h : Hp) (i : Nat) (o : Ob) : (h.put i o).nx = h.nx := rfl
/-- What turns: the queue and its row alone. -/
def Mod (q j : Nat) (h h' : Hp) : Prop := h.nx ≤ h'.nx ∧ ∀ k, k < h.nx → k ≠ q → k ≠ j → h'.get k = h.get k
theorem Mod.refl (q j : Nat) (h : Hp) : Mod q j h h := ⟨Nat.le_refl _, fun _ _ _ _ => rfl⟩
theorem rd_app {h : Hp} {j : Nat} {xs us : List Value} {b : Bool} {e : Nat} (hg : h.get j = some ⟨xs ++ us, b, e⟩) {x : Nat} {v : Value} (hx : us[x]? = some v) : h.rd j (xs.length + x * 1) 1 = some [v] := by
  have hl := (List.getElem?_eq_some_iff.1 hx).1
  have hx2 : (xs ++ us)[xs.length + x]? = some v := by rw [List.getElem?_append_right (by omega)]; simpa using hx
  have := rd_f hg (x := xs.length + x) hx2
  simpa using this
/-- A row that is read. -/
def Rd (h : Hp) (s : Value) (us : List Value) : Prop :=
  (s = .slice none 0 0 ∧ us = []) ∨ ∃ i o sp c, s = .slice (some ⟨i, o, sp⟩) us.length c ∧ ∀ x v, us[x]? = some v → h.rd i (o + x * 1) 1 = some [v]
theorem Ow.rdd {N : Nat} {h : Hp} {s : Value} {us : List Value} (a : Ow N h s us) : Rd h s us := by
  rcases a with a | ⟨i, _, _, rfl, hg, _⟩
  · exact .inl a
  · exact .inr ⟨i, _, _, _, rfl, fun x v hx => by have := rd_f hg hx; simpa using this⟩
theorem Rd.len {h : Hp} {s : Value} {us : List Value} (a : Rd h s us) : ∃ x c, s = .slice x us.length c := by
  rcases a with ⟨rfl, rfl⟩ | ⟨i, o, sp, c, rfl, _⟩ <;> exact ⟨_, _, rfl⟩
theorem Rd.ext {h h' : Hp} {s : Value} {us : List Value} (a : Rd h s us) (e : ∀ i o sp n c, s = .slice (some ⟨i, o, sp⟩) n c → h'.get i = h.get i) : Rd h' s us := by
  rcases a with a | ⟨i, o, sp, c, rfl, hr⟩
  · exact .inl a
  · refine .inr ⟨i, o, sp, c, rfl, fun x v hx => ?_⟩
    have := hr x v hx
    unfold Hp.rd at this ⊢
    rw [e i o sp _ _ rfl]
    exact this
theorem Ow.put {N : Nat} {h : Hp} {s : Value} {us : List Value} (a : Ow N h s us) {q : Nat} (hq : q < N) (o : Ob) : Ow N (h.put q o) s us := by
  rcases a with a | ⟨i, h1, h2, h3, h4, h5⟩
  · exact .inl a
  · exact .inr ⟨i, h1, h2, h3, (hput_ne _ _ (by omega)).trans h4, h5⟩
theorem Ext.mod {h h1 h2 : Hp} {q j : Nat} (x : Ext h h1) (m : Mod q j h1 h2) (hq : h.nx ≤ q) (hj : h.nx ≤ j) : Ext h h2 :=
  ⟨Nat.le_trans x.1 m.1, fun k hk => (m.2 k (Nat.lt_of_lt_of_le hk x.1) (by omega) (by omega)).trans (x.2 k hk)⟩
theorem Ow.mod {N : Nat} {h h' : Hp} {s : Value} {us : List Value} (a : Ow N h s us) {q j : Nat} (hq : q < N) (hj : j < N) (m : Mod q j h h') : Ow N h' s us := by
  rcases a with a | ⟨i, h1, h2, h3, h4, h5⟩
  · exact .inl a
  · exact .inr ⟨i, h1, Nat.lt_of_lt_of_le h2 m.1, h3, (m.2 i h2 (by omega) (by omega)).trans h4, h5⟩
theorem u64_rng (n : Int) : 0 ≤ IntKind.u64.wrap n ∧ IntKind.u64.wrap n ≤ 18446744073709551615 := by
  unfold IntKind.wrap
  simp only [IntKind.bits, IntKind.signed]
  simp
  omega
/-- The abstract heap at a law's call: its one row, which is read alone. -/
def roHp (us : List Value) : Hp := ⟨fun j => if j = 0 then some ⟨us, false, 0⟩ else none, 1⟩
def roMu (l : Loc) : Mu := ⟨fun j => if j = 0 then some l else none, fun _ => none⟩
theorem roHp_rd (us : List Int) {len cap : Nat} (hle : len ≤ us.length) : Rd (roHp (us.map nI)) (.slice (some ⟨0, 0, none⟩) len cap) ((us.take len).map nI) := by
  refine .inr ⟨0, 0, none, cap, by simp [Nat.min_eq_left hle], fun x v hx => ?_⟩
  have hx2 : (us.map nI)[x]? = some v := by
    rw [List.getElem?_map, List.getElem?_take] at hx
    rw [List.getElem?_map]
    split at hx
    · exact hx
    · cases hx
  have := rd_f (h := roHp (us.map nI)) (i := 0) (b := false) (e := 0) (by simp [roHp]) hx2
  simpa using this
theorem roSim {W : World} {a : Addr} {zs : List Int} (hs : a.spot = none) (hb : a.block < W.heap.size) (hc : ∀ i, i < zs.length → W.cell? (a.add i) = some (.int .i64 (zs.getD i 0))) (t : Tb W.heap.size W) :
    Sim W.heap.size W (roMu ⟨a.block, a.off, 0⟩) (roHp (zs.map nI)) W := by
  obtain ⟨b, off, sp⟩ := a
  subst hs
  refine ⟨Bel.refl t, Nat.le_refl _, fun i hi => ?_, fun i l e => ?_, MS.empty _ _ _ _, fun i ob e _ => ?_, fun i j x y l l' e e' hij hrw => ?_⟩
  · have : i ≠ 0 := by simp [roHp] at hi; omega
    simp [roMu, this]
  · simp only [roMu] at e
    split at e
    · cases e; exact hb
    · cases e
  · simp only [roHp] at e
    split at e
    · next hi =>
      cases e
      refine ⟨⟨b, off, 0⟩, by simp [roMu, hi], fun j v hv => ?_, fun h => by cases h⟩
      rw [List.getElem?_map] at hv
      cases hz : zs[j]? with
      | none => rw [hz] at hv; cases hv
      | some z =>
        rw [hz] at hv
        cases hv
        have hj := (List.getElem?_eq_some_iff.1 hz).1
        refine ⟨.int .i64 z, ?_, .int _ _⟩
        have := hc j hj
        rw [Go.WideShapes.add_plain] at this
        rw [this, List.getD_eq_getElem?_getD, hz]
        rfl
    · cases e
  · simp only [roHp] at e
    split at e
    · cases e; cases hrw
    · cases e
/-- A law whose first argument is a row of numbers, the others numbers. -/
theorem law_ints {P : Program} {f : FuncId} {W : World} {a : Addr} {len cap : Nat} {zs : List Int} {rest : List Value} (hs : a.spot = none) (hb : a.block < W.heap.size) (hc : ∀ i, i < zs.length → W.cell? (a.add i) = some (.int .i64 (zs.getD i 0))) (hf : flatL rest = true)
    (c : ACall P f (.slice (some ⟨0, 0, none⟩) len cap :: rest) (roHp (zs.map nI)) (fun v _ => v = .bool true)) (t : Tb W.heap.size W := by first | exact fun _ _ => trivial | assumption) :
    Calls P f (Value.slice (some a) len cap :: rest).toArray W fun e W' => e = .returned (.bool true) ∧ Below W.heap.size W W' := by
  have s := roSim hs hb hc t
  obtain ⟨b, off, sp⟩ := a
  subst hs
  refine (c.2 W.heap.size W _ W _ (RVs.cons (RV.slice (l := ⟨b, off, 0⟩) (by simp [roMu])) (RVs.of_flat hf)) s).mono ?_
  rintro e W' ⟨m', v, v', h', rfl, _, rv, s, rfl⟩
  cases rv
  exact ⟨rfl, s.below.bl⟩
theorem law_nil {P : Program} {f : FuncId} {W : World} {rest : List Value} (hf : flatL rest = true)
    (c : ACall P f (.slice none 0 0 :: rest) Hp.empty (fun v _ => v = .bool true)) (t : Tb W.heap.size W := by first | exact fun _ _ => trivial | assumption) :
    Calls P f (Value.slice none 0 0 :: rest).toArray W fun e W' => e = .returned (.bool true) ∧ Below W.heap.size W W' := by
  refine (c.2 W.heap.size W ⟨fun _ => none, fun _ => none⟩ W _ (RVs.cons (RV.nils 0 0) (RVs.of_flat hf)) (Sim.empty W t)).mono ?_
  rintro e W' ⟨m', v, v', h', rfl, _, rv, s, rfl⟩
  cases rv
  exact ⟨rfl, s.below.bl⟩
theorem okWide_at {P : Program} {w : World} {base : Nat} {t e : TypeId} {a : Addr} {len cap : Nat} (ht : P.underlying t = some (.slice e)) (h : Value.okWide P w .any base t (.slice (some a) len cap)) : a.spot = none ∧ a.block < w.heap.size := by
  unfold Value.okWide at h
  rw [ht] at h
  unfold Cell.okWide at h
  rw [ht] at h
  unfold Cell.ok at h
  rw [ht] at h
  obtain ⟨_, _, _, hsp, row, cells, hsh, _⟩ := h
  refine ⟨hsp, ?_⟩
  by_cases hlt : a.block < w.heap.size
  · exact hlt
  · exfalso
    unfold World.shape? at hsh
    simp [Array.getElem?_eq_none (Nat.le_of_not_lt hlt)] at hsh
section
variable {P : Program} {CT : CTy} {env : Env} {h : Hp} {Q : Env → Hp → Prop} {d : Option Nat} {xs : List Operand} {vs : List Value}
/-- In a region whose order is open: a call, behind which reads are made again. -/
theorem drCR {ix : Nat} {eff : Bool} {f : FuncId} {re : List In} {L : List DE} (e : mapE env xs = some vs) (c : CT f vs h fun v h' => allAgain re env h' ∧ wpD P CT L (env.put d v) h' Q) : wpD P CT (⟨ix, ⟨d, none, .call f xs⟩, eff, re⟩ :: L) env h Q := by
  unfold wpD wpIn
  simp only [wanted, e]
  exact c
theorem ag_ld {d t i o : Nat} {v : Value} (g1 : env.get t = some (.pointer (some ⟨i, o, none⟩))) (g2 : env.get d = some v) (hr : h.rd i o 1 = some [v]) : again ⟨some d, none, .op .ld1 [.tmp t]⟩ env h := by
  unfold again
  simp only [wanted, mapE, evA, g1, g2, stepK, hr]
end
end Go.Proofs.YtnebdnbglggdkaaDoorW.Am
