-- Printed by this session's own program (wip/tools/widen.py over the kit's print): not the kit's print itself
import Derived.Test.YtcdfoicebcmlaaaRows
import Derived.Test.YtcdfoicebcmlaaaPEventx8
import Derived.Test.YtcdfoicebcmlaaaPureEventAsks
import Derived.Test.YtcdfoicebcmlaaaWOpens
import Derived.WalkKit
import Derived.ProofKit
import Derived.OpenShut
import Derived.ShutString
import Derived.ChangeOld
import Derived.Below
import Derived.SizedLaws
namespace Go.Proofs.Ytcdfoicebcmlaaa.eventAsks
open Go.ChangeShapes Go.WideShapes Go.ChangeAt Go.RowKit Go.Proofs.Ytcdfoicebcmlaaa.PEvent Go.Proofs.YtcdfoicebcmlaaaW.PrintWords Go.Proofs.YtcdfoicebcmlaaaW.Opens
open Go.ChangeMaps (open_string shut_string)
set_option linter.unusedVariables false
set_option linter.unusedSimpArgs false
theorem own : ownKnob Try.prog.godebug = none := by kernel_rfl
theorem laidOut : laidOutB Try.prog = true := by kernel_rfl
theorem o50 {H : Type} {enc : TypeId × Value → H} {w : World} {base : Nat} {spare : Nat → Bool} {held : Bool} : Opens enc Try.prog w base spare held 50 k50 W50 := by
  intro fuel cs x h
  obtain ⟨xs, n, _, _, hl, hx, hf⟩ := DataW.trod_struct Try.underlying50 h
  have hl' : cs.length = 3 := hl.trans (by kernel_rfl)
  have g0 := (hf 0 _ rfl).trans (List.getElem?_eq_getElem (show 0 < xs.length by rw [hx]; decide))
  rw [show Try.prog.cellsOf _ = 1 from by kernel_rfl] at g0
  obtain ⟨s0, e0, v0⟩ := (o_int Try.underlying3) n ((cs.drop 0).take 1) _ g0
  have g1 := (hf 1 _ rfl).trans (List.getElem?_eq_getElem (show 1 < xs.length by rw [hx]; decide))
  rw [show Try.prog.cellsOf _ = 1 from by kernel_rfl] at g1
  obtain ⟨s1, e1, v1⟩ := (o_int Try.underlying3) n ((cs.drop 1).take 1) _ g1
  have g2 := (hf 2 _ rfl).trans (List.getElem?_eq_getElem (show 2 < xs.length by rw [hx]; decide))
  rw [show Try.prog.cellsOf _ = 1 from by kernel_rfl] at g2
  obtain ⟨s2, e2, v2⟩ := (o_string Try.underlying9) n ((cs.drop 2).take 1) _ g2
  have t0 := cut_next cs 0 1
  have t1 := cut_next cs 1 1
  rw [cut_last (cs := cs) (o := 2) (n := 1) (by omega)] at e2
  simp only [Nat.zero_add, Nat.reduceAdd, List.drop_zero] at t0 t1
  (try simp only [List.drop_zero] at e0)
  exact ⟨⟨s0, s1, s2⟩, ⟨_, _, t0, e0, ⟨_, _, t1, e1, e2⟩⟩, ⟨v0, v1, v2⟩⟩
set_option maxRecDepth 100000 in
theorem lifted (os : Os) (started : os.Started) (H : Type) (enc : TypeId × Value → H) :
    ReturnsInHanded {} Try.checked os 11 .any (Rows.eventAsksSpec.pre6 enc Try.prog Try.f11 Rows.eventAsksRow.domain false) (Rows.eventAsksSpec.post enc Try.prog Try.f11 false true false false) := by
  refine returnsInHanded_of_change_sized (C := Try.checked) own started (by kernel_rfl) Try.func11
    (ChangeSpec.witness6 (enc := enc) (C := Try.checked) false ⟨#[], #[.slice none 0 0, .slice none 0 0], []⟩ 8 (by kernel_rfl) (by kernel_rfl) (by kernel_rfl) (by kernel_rfl)) ?_
  intro W base args ds gs before hval0 hW hcnd hsz0 _
  have hsz : (DataW.weightsEach Try.prog (Try.f11.params.toList ++ Rows.eventAsksSpec.plain.varTypes Try.prog) (ds ++ gs)).all (· ≤ reachBytes) = true := hsz0
  have hval : ∀ (j : Nat) t v, Try.f11.params[j]? = some t → args[j]? = some v → Value.okWide Try.prog W .any base t v := hval0
  have hW' := hW
  obtain ⟨p, q, hA0, hV, rfl, hfz, hnd⟩ := hW
  have hA : DataW.TrodAll enc Try.prog W 0 (fun _ => true) true Try.f11.params.toList args.toList ds p := hA0
  rw [Try.params11] at hA hval hsz
  obtain ⟨v0, vs0, d0, ds0, p0, q0, hargs, rfl, rfl, h0, r0⟩ := trodAll_cons hA
  obtain ⟨v1, vs1, d1, ds1, p1, q1, rfl, rfl, rfl, h1, r1⟩ := trodAll_cons r0
  obtain ⟨rfl, rfl, rfl⟩ := trodAll_nil r1
  obtain rfl : args = #[v0, v1] := by cases args; simp_all
  obtain ⟨rfl, rfl⟩ := trodVars_none hV
  obtain ⟨a0, len0, cap0, rfl⟩ := okWide_slice Try.underlying54 (hval 0 54 v0 rfl rfl)
  have k0 := h0
  have lt0 : ∀ x ∈ p0, x.block < W.heap.size := by obtain ⟨m, hm⟩ := k0; exact DataW.trod_lt m _ _ _ hm
  have y0 : len0 * 32 ≤ 140737488351232 := sized_any hsz (j := 0) (t := 54) rfl rfl Try.underlying54 (by kernel_rfl) h0
  obtain ⟨l0, ⟨B0, c0, e0, hc0, hr0⟩, w0⟩ : ∃ s : List (S50), (Kd.slice 50 k50).K W s [Value.slice a0 len0 cap0] ∧ (fun s => s.length ≤ maxLen ∧ ∀ y ∈ s, W50 y) s := by
    obtain ⟨fuel, hf⟩ := h0
    exact (o_slice Try.underlying54 (by kernel_rfl) o50) _ _ _ hf
  obtain ⟨rfl, rfl, rfl⟩ : a0 = B0 ∧ len0 = l0.length ∧ cap0 = c0 := by simpa using e0
  obtain ⟨a1, len1, cap1, rfl⟩ := okWide_slice Try.underlying51 (hval 1 51 v1 rfl rfl)
  have k1 := h1
  have lt1 : ∀ x ∈ p1, x.block < W.heap.size := by obtain ⟨m, hm⟩ := k1; exact DataW.trod_lt m _ _ _ hm
  have y1 : len1 * 1 ≤ 140737488351232 := sized_any hsz (j := 1) (t := 51) rfl rfl Try.underlying51 (by kernel_rfl) h1
  obtain ⟨l1, ⟨B1, c1, e1, hc1, hr1⟩, w1⟩ : ∃ s : List Int, (Kd.slice 5 (Kd.int .u8)).K W s [Value.slice a1 len1 cap1] ∧ (fun s => s.length ≤ maxLen ∧ ∀ y ∈ s, (fun s => (Lit.int .u8 s).wf = true) y) s := by
    obtain ⟨fuel, hf⟩ := h1
    exact (o_slice Try.underlying51 (by kernel_rfl) (o_int Try.underlying5)) _ _ _ hf
  obtain ⟨rfl, rfl, rfl⟩ : a1 = B1 ∧ len1 = l1.length ∧ cap1 = c1 := by simpa using e1
  clear hA0 hval0 hsz0 hsz
  obtain ⟨k, h⟩ := Pure.EventAsks l0 l1 w0 y0 w1 y1
  refine (spinnakerlaw23_EventAsks.calls k _ _ l0 _ _ l1 true W hr0 hc0 hr1 hc1 rfl h).mono fun e W' he => ?_
  obtain ⟨rfl, bel0⟩ := he
  have bel := bel0
  exact ⟨_, rfl, _, _, _, [], _, [], hW', trodAll_mk1 (shut_bool Try.underlying4 _), (trodAll_cons_mk (Below.trod laidOut (by kernel_rfl) (of_decide_eq_true (by kernel_rfl)) k0 bel lt0) (trodAll_cons_mk (Below.trod laidOut (by kernel_rfl) (of_decide_eq_true (by kernel_rfl)) k1 bel lt1) trodAll_mk0)), rfl, bel.frame _, fun h => by cases h⟩
theorem over : Rows.eventAsksRow.holds Try.pinned (OpenSpec.ofChange Rows.eventAsksSpec) :=
  OpenClaim.holds_of_wide 11 Try.f11 rfl rfl rfl rfl rfl rfl rfl ⟨rfl, rfl, rfl, rfl, rfl⟩ rfl rfl rfl rfl rfl (by kernel_rfl) Try.func11 (by kernel_rfl)
    (of_decide_eq_true (by kernel_rfl)) (by unfold Func.isWrapper; first | (rw [if_pos (by decide +kernel)]; kernel_rfl) | (rw [if_neg (by decide +kernel)]; exact ⟨rfl, rfl⟩))
    (fun os started H enc _ => lifted os started H enc)
theorem proved : Rows.EventAsksSaid := over
#print axioms proved
end Go.Proofs.Ytcdfoicebcmlaaa.eventAsks
namespace Go.Proofs.Ytcdfoicebcmlaaa
/-- The row, under a short name, for the claim. -/
theorem eventAsks_holds : Rows.EventAsksSaid := eventAsks.proved
end Go.Proofs.Ytcdfoicebcmlaaa
