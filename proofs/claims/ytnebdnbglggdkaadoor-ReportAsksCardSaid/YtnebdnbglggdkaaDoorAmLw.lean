/- From a law's contract to its row, where some arguments are rows that are read alone. -/
import Derived.Test.YtnebdnbglggdkaaDoorAmW
import Derived.ChangeSlices
namespace Go.Proofs.YtnebdnbglggdkaaDoorW.Am
open Go Go.RowKit
abbrev Ro := Option (Loc × List Value)
/-- Plain cells that stand in the world. -/
def RoC (W : World) (l : Loc) (cs : List Value) : Prop := l.blk < W.heap.size ∧ ∀ (i : Nat) v, cs[i]? = some v → W.cell? ⟨l.blk, l.off + i, none⟩ = some v ∧ flat v = true
def roN (rs : List Ro) : Hp := ⟨fun j => match rs[j]? with | some (some (_, cs)) => some ⟨cs, false, 0⟩ | _ => none, rs.length⟩
def roM (rs : List Ro) : Mu := ⟨fun j => match rs[j]? with | some (some (l, _)) => some l | _ => none, fun _ => none⟩
theorem roN_get {rs : List Ro} {j : Nat} {l : Loc} {cs : List Value} (h : rs[j]? = some (some (l, cs))) : (roN rs).get j = some ⟨cs, false, 0⟩ ∧ roM rs j = some l := by simp [roN, roM, h]
theorem roN_of {rs : List Ro} {j : Nat} {ob : Ob} (h : (roN rs).get j = some ob) : ∃ l, rs[j]? = some (some (l, ob.cells)) ∧ ob.rw = false := by
  simp only [roN] at h
  split at h
  · next l cs hj => cases h; exact ⟨l, hj, rfl⟩
  · cases h
theorem roN_sim {W : World} {rs : List Ro} (h : ∀ (j : Nat) l cs, rs[j]? = some (some (l, cs)) → RoC W l cs) (t : Tb W.heap.size W) : Sim W.heap.size W (roM rs) (roN rs) W := by
  refine ⟨Bel.refl t, Nat.le_refl _, fun i hi => ?_, fun i l e => ?_, MS.empty _ _ _ _, fun i ob e _ => ?_, fun i j x y l l' e e' hij hrw => ?_⟩
  · have : rs[i]? = none := List.getElem?_eq_none hi
    simp [roM, this]
  · simp only [roM] at e
    split at e
    · next l' cs hj => cases e; exact (h _ _ _ hj).1
    · cases e
  · obtain ⟨l, hj, hw⟩ := roN_of e
    refine ⟨l, (roN_get hj).2, fun k v hv => ?_, fun hr => by rw [hw] at hr; cases hr⟩
    obtain ⟨h1, h2⟩ := (h _ _ _ hj).2 k v hv
    exact ⟨v, h1, RV.of_flat _ _ h2⟩
  · obtain ⟨_, _, hw⟩ := roN_of e
    rw [hw] at hrw; cases hrw
theorem law_ro {P : Program} {f : FuncId} {W : World} {rs : List Ro} {args args' : List Value} (h : ∀ (j : Nat) l cs, rs[j]? = some (some (l, cs)) → RoC W l cs) (ra : RVs (roM rs) args args') (c : ACall P f args (roN rs) (fun v _ => v = .bool true)) (t : Tb W.heap.size W := by first | exact fun _ _ => trivial | assumption) :
    Calls P f args'.toArray W fun e W' => e = .returned (.bool true) ∧ Below W.heap.size W W' := by
  refine (c.2 W.heap.size W _ W _ ra (roN_sim h t)).mono ?_
  rintro e W' ⟨m', v, v', h', rfl, _, rv, s, rfl⟩
  cases rv
  exact ⟨rfl, s.below.bl⟩
theorem ro_all {W : World} {rs : List Ro} (h : ∀ r ∈ rs, ∀ l cs, r = some (l, cs) → RoC W l cs) : ∀ (j : Nat) l cs, rs[j]? = some (some (l, cs)) → RoC W l cs := fun _ _ _ e => h _ (List.mem_of_getElem? e) _ _ rfl
/-- An argument that is a row of numbers. -/
structure RowArg (W : World) (j : Nat) (v : Value) (r : Ro) (s : Value) (us : List Int) : Prop where
  cells : ∀ l cs, r = some (l, cs) → RoC W l cs
  rel : ∀ rs, rs[j]? = some r → RV (roM rs) s v
  rd : ∀ rs, rs[j]? = some r → Rd (roN rs) s (us.map nI)
  lt : ∀ rs : List Ro, rs[j]? = some r → ∀ i o sp n c, s = .slice (some ⟨i, o, sp⟩) n c → i < (roN rs).nx
  wf : ∀ n ∈ us, (Lit.int .i64 n).wf = true
  pl : ∀ i o sp n c, s = .slice (some ⟨i, o, sp⟩) n c → sp.getD 0 = 0
theorem row_arg {H : Type} {enc : TypeId × Value → H} {P : Program} {W : World} {base : Nat} {spare : Nat → Bool} {held : Bool} {fuel : Nat} {t e : TypeId} {v : Value} {x : DataW H × List MemPlace} (ht : P.underlying t = some (.slice e)) (he : P.underlying e = some (.int .i64)) (hc : P.cellsOf e = 1) (hv : Value.okWide P W .any base t v)
    (h : DataW.trod enc P W 0 spare held fuel t v.cells.toList = some x) (j : Nat) : ∃ r s us, RowArg W j v r s us := by
  obtain ⟨a0, len0, cap0, rfl⟩ := Go.WideShapes.okWide_slice ht hv
  rcases Go.ChangeShapes.open_ints ht he hc h with ⟨hcs, _⟩ | ⟨a, len, cap, zs, hcs, _, hle, _, hzl, _, hcell, hwf⟩
  · obtain ⟨rfl, rfl, rfl⟩ : a0 = none ∧ len0 = 0 ∧ cap0 = 0 := by simpa using (show [Value.slice a0 len0 cap0] = _ from hcs)
    exact ⟨none, .slice none 0 0, [], (fun _ _ e => by cases e), (fun _ _ => .nils 0 0), (fun _ _ => .inl ⟨rfl, rfl⟩), (fun _ _ i o sp n c e => by cases e), (by simp), (fun i o sp n c e => by cases e)⟩
  · obtain ⟨rfl, rfl, rfl⟩ : a0 = some a ∧ len0 = len ∧ cap0 = cap := by simpa using (show [Value.slice a0 len0 cap0] = _ from hcs)
    obtain ⟨hs, hb⟩ := okWide_at ht hv
    obtain ⟨b, off, sp⟩ := a
    have hs : sp = none := hs
    subst hs
    have hlz : len0 ≤ zs.length := by rw [hzl]; split <;> omega
    refine ⟨some (⟨b, off, 0⟩, zs.map nI), .slice (some ⟨j, 0, none⟩) len0 cap0, zs.take len0, ?_, fun rs hj => ?_, fun rs hj => ?_, fun rs hj i o sp n c e => ?_, fun n hn => hwf n (List.mem_of_mem_take hn), fun i o sp n c e => by cases e; rfl⟩
    · intro l cs e
      cases e
      refine ⟨hb, fun i v hv => ?_⟩
      rw [List.getElem?_map] at hv
      cases hz : zs[i]? with
      | none => rw [hz] at hv; cases hv
      | some z =>
        rw [hz] at hv
        cases hv
        have hi := (List.getElem?_eq_some_iff.1 hz).1
        have := hcell i hi
        rw [Go.WideShapes.add_plain] at this
        exact ⟨by rw [this, List.getD_eq_getElem?_getD, hz]; rfl, rfl⟩
    · exact .slice (roN_get hj).2
    · refine .inr ⟨j, 0, none, cap0, by simp [Nat.min_eq_left hlz], fun x v hx => ?_⟩
      have hx2 : (zs.map nI)[x]? = some v := by
        rw [List.getElem?_map, List.getElem?_take] at hx
        rw [List.getElem?_map]
        split at hx
        · exact hx
        · cases hx
      have := rd_f (roN_get hj).1 hx2
      simpa using this
    · cases e
      have := (List.getElem?_eq_some_iff.1 hj).1
      simpa [roN] using this
end Go.Proofs.YtnebdnbglggdkaaDoorW.Am
