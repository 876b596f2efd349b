/- From a law's contract to its row, where an argument is a row of whole numbers. -/
import Derived.Test.YtcdfoicebcmlaaaQueueG
namespace Go.Proofs.YtcdfoicebcmlaaaW.Am
open Go Go.RowKit
/-- The abstract heap at a law's call: its one row, which is read alone. -/
def roHp (us : List Value) : Hp := ⟨fun j => if j = 0 then some ⟨us, false, 0⟩ else none, 1⟩
def roMu (l : Loc) : Mu := fun j => if j = 0 then some l else none
theorem roHp_rd (us : List Int) {len cap : Nat} (hle : len ≤ us.length) : Rd (roHp (us.map nI)) (.slice (some ⟨0, 0, none⟩) len cap) ((us.take len).map nI) := by
  refine .inr ⟨0, 0, none, cap, by simp [Nat.min_eq_left hle], fun x v hx => ?_⟩
  have hx2 : (us.map nI)[x]? = some v := by
    rw [List.getElem?_map, List.getElem?_take] at hx
    rw [List.getElem?_map]
    split at hx
    · exact hx
    · cases hx
  have := rd_f (h := roHp (us.map nI)) (i := 0) (b := false) (e := 0) (by simp [roHp]) hx2
  simpa using this
theorem roSim {W : World} {a : Addr} {zs : List Int} (hs : a.spot = none) (hb : a.block < W.heap.size) (hc : ∀ i, i < zs.length → W.cell? (a.add i) = some (.int .i64 (zs.getD i 0))) :
    Sim W.heap.size W (roMu ⟨a.block, a.off, 0⟩) (roHp (zs.map nI)) W := by
  obtain ⟨b, off, sp⟩ := a
  subst hs
  refine ⟨Below.refl _ _, Nat.le_refl _, fun i hi => ?_, fun i l e => ?_, fun i ob e => ?_, fun i j x y l l' e e' hij hrw => ?_⟩
  · have : i ≠ 0 := by simp [roHp] at hi; omega
    simp [roMu, this]
  · simp only [roMu] at e
    split at e
    · cases e; exact hb
    · cases e
  · simp only [roHp] at e
    split at e
    · next hi =>
      cases e
      refine ⟨⟨b, off, 0⟩, by simp [roMu, hi], fun j v hv => ?_, fun h => by cases h⟩
      rw [List.getElem?_map] at hv
      cases hz : zs[j]? with
      | none => rw [hz] at hv; cases hv
      | some z =>
        rw [hz] at hv
        cases hv
        have hj := (List.getElem?_eq_some_iff.1 hz).1
        refine ⟨.int .i64 z, ?_, .int _ _⟩
        have := hc j hj
        rw [Go.WideShapes.add_plain] at this
        rw [this, List.getD_eq_getElem?_getD, hz]
        rfl
    · cases e
  · simp only [roHp] at e
    split at e
    · cases e; cases hrw
    · cases e
/-- A law whose first argument is a row of numbers, the others numbers. -/
theorem law_ints {P : Program} {f : FuncId} {W : World} {a : Addr} {len cap : Nat} {zs : List Int} {rest : List Value} (hs : a.spot = none) (hb : a.block < W.heap.size) (hc : ∀ i, i < zs.length → W.cell? (a.add i) = some (.int .i64 (zs.getD i 0))) (hf : flatL rest = true)
    (c : ACall P f (.slice (some ⟨0, 0, none⟩) len cap :: rest) (roHp (zs.map nI)) (fun v _ => v = .bool true)) :
    Calls P f (Value.slice (some a) len cap :: rest).toArray W fun e W' => e = .returned (.bool true) ∧ Below W.heap.size W W' := by
  have s := roSim hs hb hc
  obtain ⟨b, off, sp⟩ := a
  subst hs
  refine (c.2 W.heap.size W _ W _ (RVs.cons (RV.slice (l := ⟨b, off, 0⟩) (by simp [roMu])) (RVs.of_flat hf)) s).mono ?_
  rintro e W' ⟨m', v, v', h', rfl, _, rv, s, rfl⟩
  cases rv
  exact ⟨rfl, s.below⟩
theorem law_nil {P : Program} {f : FuncId} {W : World} {rest : List Value} (hf : flatL rest = true)
    (c : ACall P f (.slice none 0 0 :: rest) Hp.empty (fun v _ => v = .bool true)) :
    Calls P f (Value.slice none 0 0 :: rest).toArray W fun e W' => e = .returned (.bool true) ∧ Below W.heap.size W W' := by
  refine (c.2 W.heap.size W (fun _ => none) W _ (RVs.cons (RV.nils 0 0) (RVs.of_flat hf)) (Sim.empty W)).mono ?_
  rintro e W' ⟨m', v, v', h', rfl, _, rv, s, rfl⟩
  cases rv
  exact ⟨rfl, s.below⟩
theorem okWide_at {P : Program} {w : World} {base : Nat} {t e : TypeId} {a : Addr} {len cap : Nat} (ht : P.underlying t = some (.slice e)) (h : Value.okWide P w .any base t (.slice (some a) len cap)) : a.spot = none ∧ a.block < w.heap.size := by
  unfold Value.okWide at h
  rw [ht] at h
  unfold Cell.okWide at h
  rw [ht] at h
  unfold Cell.ok at h
  rw [ht] at h
  obtain ⟨_, _, _, hsp, row, cells, hsh, _⟩ := h
  refine ⟨hsp, ?_⟩
  by_cases hlt : a.block < w.heap.size
  · exact hlt
  · exfalso
    unfold World.shape? at hsh
    simp [Array.getElem?_eq_none (Nat.le_of_not_lt hlt)] at hsh
end Go.Proofs.YtcdfoicebcmlaaaW.Am
