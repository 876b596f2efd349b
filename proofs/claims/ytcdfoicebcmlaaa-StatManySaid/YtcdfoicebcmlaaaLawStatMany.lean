-- Printed by this session's own program (wip/tools/widen.py over the kit's print): not the kit's print itself
import Derived.Test.YtcdfoicebcmlaaaRows
import Derived.Test.YtcdfoicebcmlaaaPManyx2
import Derived.Test.YtcdfoicebcmlaaaPureStatMany
import Derived.Test.YtcdfoicebcmlaaaWOpens
import Derived.WalkKit
import Derived.ProofKit
import Derived.OpenShut
import Derived.ShutString
import Derived.ChangeOld
import Derived.Below
import Derived.SizedLaws
namespace Go.Proofs.Ytcdfoicebcmlaaa.statMany
open Go.ChangeShapes Go.WideShapes Go.ChangeAt Go.RowKit Go.Proofs.Ytcdfoicebcmlaaa.PMany Go.Proofs.YtcdfoicebcmlaaaW.PrintWords Go.Proofs.YtcdfoicebcmlaaaW.Opens
open Go.ChangeMaps (open_string shut_string)
set_option linter.unusedVariables false
set_option linter.unusedSimpArgs false
theorem own : ownKnob Try.prog.godebug = none := by kernel_rfl
theorem laidOut : laidOutB Try.prog = true := by kernel_rfl
theorem o67 {H : Type} {enc : TypeId × Value → H} {w : World} {base : Nat} {spare : Nat → Bool} {held : Bool} : Opens enc Try.prog w base spare held 67 k67 W67 := by
  intro fuel cs x h
  obtain ⟨xs, n, _, _, hl, hx, hf⟩ := DataW.trod_struct Try.underlying67 h
  have hl' : cs.length = 3 := hl.trans (by kernel_rfl)
  have g0 := (hf 0 _ rfl).trans (List.getElem?_eq_getElem (show 0 < xs.length by rw [hx]; decide))
  rw [show Try.prog.cellsOf _ = 1 from by kernel_rfl] at g0
  obtain ⟨s0, e0, v0⟩ := (o_int Try.underlying3) n ((cs.drop 0).take 1) _ g0
  have g1 := (hf 1 _ rfl).trans (List.getElem?_eq_getElem (show 1 < xs.length by rw [hx]; decide))
  rw [show Try.prog.cellsOf _ = 1 from by kernel_rfl] at g1
  obtain ⟨s1, e1, v1⟩ := (o_int Try.underlying3) n ((cs.drop 1).take 1) _ g1
  have g2 := (hf 2 _ rfl).trans (List.getElem?_eq_getElem (show 2 < xs.length by rw [hx]; decide))
  rw [show Try.prog.cellsOf _ = 1 from by kernel_rfl] at g2
  obtain ⟨s2, e2, v2⟩ := (o_int Try.underlying2) n ((cs.drop 2).take 1) _ g2
  have t0 := cut_next cs 0 1
  have t1 := cut_next cs 1 1
  rw [cut_last (cs := cs) (o := 2) (n := 1) (by omega)] at e2
  simp only [Nat.zero_add, Nat.reduceAdd, List.drop_zero] at t0 t1
  (try simp only [List.drop_zero] at e0)
  exact ⟨⟨s0, s1, s2⟩, ⟨_, _, t0, e0, ⟨_, _, t1, e1, e2⟩⟩, ⟨v0, v1, v2⟩⟩
set_option maxRecDepth 100000 in
theorem lifted (os : Os) (started : os.Started) (H : Type) (enc : TypeId × Value → H) :
    ReturnsInHanded {} Try.checked os 14 .any (Rows.statManySpec.pre6 enc Try.prog Try.f14 Rows.statManyRow.domain false) (Rows.statManySpec.post enc Try.prog Try.f14 false true false false) := by
  refine returnsInHanded_of_change_sized (C := Try.checked) own started (by kernel_rfl) Try.func14
    (ChangeSpec.witness6 (enc := enc) (C := Try.checked) false ⟨#[], #[.int .i64 0, .int .i64 0, .agg #[.int .i64 0, .int .i64 0, .int .i64 0]], []⟩ 8 (by kernel_rfl) (by kernel_rfl) (by kernel_rfl) (by kernel_rfl)) ?_
  intro W base args ds gs before hval0 hW hcnd hsz0 _
  have hsz : (DataW.weightsEach Try.prog (Try.f14.params.toList ++ Rows.statManySpec.plain.varTypes Try.prog) (ds ++ gs)).all (· ≤ reachBytes) = true := hsz0
  have hval : ∀ (j : Nat) t v, Try.f14.params[j]? = some t → args[j]? = some v → Value.okWide Try.prog W .any base t v := hval0
  have hW' := hW
  obtain ⟨p, q, hA0, hV, rfl, hfz, hnd⟩ := hW
  have hA : DataW.TrodAll enc Try.prog W 0 (fun _ => true) true Try.f14.params.toList args.toList ds p := hA0
  rw [Try.params14] at hA hval hsz
  obtain ⟨v0, vs0, d0, ds0, p0, q0, hargs, rfl, rfl, h0, r0⟩ := trodAll_cons hA
  obtain ⟨v1, vs1, d1, ds1, p1, q1, rfl, rfl, rfl, h1, r1⟩ := trodAll_cons r0
  obtain ⟨v2, vs2, d2, ds2, p2, q2, rfl, rfl, rfl, h2, r2⟩ := trodAll_cons r1
  obtain ⟨rfl, rfl, rfl⟩ := trodAll_nil r2
  obtain rfl : args = #[v0, v1, v2] := by cases args; simp_all
  obtain ⟨rfl, rfl⟩ := trodVars_none hV
  obtain ⟨a0, rfl, rfl, rfl, w0⟩ := open_int Try.underlying2 (hval 0 2 v0 rfl rfl) h0
  obtain ⟨a1, rfl, rfl, rfl, w1⟩ := open_int Try.underlying3 (hval 1 3 v1 rfl rfl) h1
  obtain ⟨cs2, rfl, _⟩ := okWide_struct Try.underlying67 (hval 2 67 v2 rfl rfl)
  have k2 := h2
  have lt2 : ∀ x ∈ p2, x.block < W.heap.size := by obtain ⟨m, hm⟩ := k2; exact DataW.trod_lt m _ _ _ hm
  obtain ⟨a2, hk2, w2⟩ : ∃ s : S67, k67.K W s cs2.toList ∧ W67 s := by
    obtain ⟨fuel, hf⟩ := h2
    exact o67 _ _ _ hf
  obtain hcs2 := k67_open hk2
  obtain rfl := agg_of_list hcs2
  clear hA0 hval0 hsz0 hsz
  obtain ⟨k, h⟩ := Pure.StatMany a0 a1 a2 w0 w1 w2
  refine (spinnakerlaw9_StatMany.calls k a0 a1 a2.f0 a2.f1 a2.f2 true W  rfl h).mono fun e W' he => ?_
  obtain ⟨rfl, bel0⟩ := he
  have bel := bel0
  exact ⟨_, rfl, _, _, _, [], _, [], hW', trodAll_mk1 (shut_bool Try.underlying4 _), (trodAll_cons_mk (shut_int Try.underlying2 w0) (trodAll_cons_mk (shut_int Try.underlying3 w1) (trodAll_cons_mk (Below.trod laidOut (by kernel_rfl) (of_decide_eq_true (by kernel_rfl)) k2 bel lt2) trodAll_mk0))), rfl, bel.frame _, fun h => by cases h⟩
theorem over : Rows.statManyRow.holds Try.pinned (OpenSpec.ofChange Rows.statManySpec) :=
  OpenClaim.holds_of_wide 14 Try.f14 rfl rfl rfl rfl rfl rfl rfl ⟨rfl, rfl, rfl, rfl, rfl⟩ rfl rfl rfl rfl rfl (by kernel_rfl) Try.func14 (by kernel_rfl)
    (of_decide_eq_true (by kernel_rfl)) (by unfold Func.isWrapper; first | (rw [if_pos (by decide +kernel)]; kernel_rfl) | (rw [if_neg (by decide +kernel)]; exact ⟨rfl, rfl⟩))
    (fun os started H enc _ => lifted os started H enc)
theorem proved : Rows.StatManySaid := over
#print axioms proved
end Go.Proofs.Ytcdfoicebcmlaaa.statMany
namespace Go.Proofs.Ytcdfoicebcmlaaa
/-- The row, under a short name, for the claim. -/
theorem statMany_holds : Rows.StatManySaid := statMany.proved
end Go.Proofs.Ytcdfoicebcmlaaa
