/- From the kit's contracts of the library to contracts over abstract heaps, and back. -/
import Derived.Test.YtnebdnbglggdkaaDoorAmRw
import Derived.Sort.Grow
import Derived.Deep.Draws
namespace Go.Proofs.YtnebdnbglggdkaaDoorW.Am
open Go Go.RowKit Go.Sort
theorem enters_comp {P : Program} {f : FuncId} {fn : Func} {fi : FI} (hf : P.funcs[f]? = some fn) (hc : compF P fn = some fi) : Enters P f := by
  unfold compF at hc
  split at hc
  case h_2 => cases hc
  case h_1 c hbody =>
  split at hc
  case h_2 => cases hc
  case h_1 ic hic =>
  split at hc
  · cases hc
  next hname =>
  exact ⟨fn, hf, by simp [hbody], hname⟩
/-- A contract of plain values that leaves what was there. -/
theorem bridge {P : Program} {f : FuncId} {args : List Value} {x : Value} (he : Enters P f) (fa : flatL args = true) (fx : flat x = true)
    (c : ∀ w, TbP w → Calls P f args.toArray w fun e w' => e = .returned x ∧ Below w.heap.size w w' ∧ (DrOn → w.drawn ≤ w'.drawn)) (h : Hp) : ACall P f args h (fun v g => v = x ∧ h = g) := by
  refine ⟨he, fun base w0 m w args' ra s => ?_⟩
  have ea : args' = args := ra.flat_eq fa
  subst ea
  refine (c w (s.below.tb w s.below.bl)).mono ?_
  rintro e w' ⟨rfl, hb, hd⟩
  exact ⟨m, x, x, h, rfl, m.le_refl, RV.of_flat m x fx, s.world (hb.mono s.big) hd hb.size (fun b es ck hm => hb.block _ (Array.getElem?_eq_some_iff.1 hm).1) fun i l ob _ hm => hb.block _ (s.lt i l hm), rfl, rfl⟩
/-- Back: a contract over the empty heap, of plain values, in any world. -/
theorem unbridge {P : Program} {f : FuncId} {args : List Value} {x : Value} (fa : flatL args = true) (fx : flat x = true) (c : ACall P f args Hp.empty (fun v _ => v = x)) (hd : DrOn) (W : World) (t : TbP W → Tb W.heap.size W) (t2 : TbP W) :
    Calls P f args.toArray W fun e W' => e = .returned x ∧ ∃ q os', W' = grow (W.drewN q) os' := by
  refine (c.2 W.heap.size W ⟨fun _ => none, fun _ => none⟩ W args (RVs.of_flat fa) (Sim.empty W (t t2))).mono ?_
  rintro e W' ⟨m', v, v', h', rfl, _, rv, s, rfl⟩
  obtain rfl := rv.flat_eq fx
  refine ⟨rfl, W'.drawn - W.drawn, W'.heap.extract W.heap.size W'.heap.size, ?_⟩
  have b := s.below.bl
  have d := s.below.dr hd
  obtain ⟨h1, t1, d1, o1, u1⟩ := W'
  obtain ⟨h2, t2, d2, o2, u2⟩ := W
  obtain ⟨b1, b2, b3, b4, b5⟩ := b
  dsimp only at b1 b2 b3 b4 b5 d
  subst b1 b2 b3
  unfold grow World.drewN
  have hh : h1 = h2 ++ h1.extract h2.size h1.size := by
    refine Array.ext' ?_
    rw [Array.toList_append, Array.toList_extract, List.extract_eq_take_drop]
    refine List.ext_getElem? fun i => ?_
    rcases Nat.lt_or_ge i h2.size with hi | hi
    · rw [List.getElem?_append_left (by simpa using hi)]
      have := b5 i hi
      simpa using this
    · rw [List.getElem?_append_right (by simpa using hi), List.getElem?_take, List.getElem?_drop]
      have e : h2.size + (i - h2.toList.length) = i := by simp; omega
      rw [e]
      split
      · rfl
      · next hc =>
        rw [List.getElem?_eq_none_iff]
        simp at hc ⊢
        omega
  have e : d1 = d2 + (d1 - d2) := by omega
  show (⟨h1, t1, d1, o1, u1⟩ : World) = ⟨h2 ++ h1.extract h2.size h1.size, t1, d2 + (d1 - d2), o1, u1⟩
  rw [← e, ← hh]
end Go.Proofs.YtnebdnbglggdkaaDoorW.Am
