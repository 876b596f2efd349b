/- ReportAsks holds: lines, sums, ends, are what the document says. For every input. -/
import Derived.Test.YtnebdnbglggdkaaDoorRows
import Derived.Test.YtnebdnbglggdkaaDoorRepM
import Derived.Test.YtnebdnbglggdkaaDoorAmLw
import Derived.WalkKit
import Derived.ProofKit
import Derived.OpenShut
import Derived.ShutString
import Derived.ChangeOld
import Derived.Below
import Derived.SizedLaws
import Derived.Test.YtnebdnbglggdkaaDoorCards
import Derived.Test.YtnebdnbglggdkaaDoorTie
import Derived.Test.YtnebdnbglggdkaaDoorLaid
import Derived.ChangeSame
import Derived.ChangeVars
import Derived.JoinedOf
import Derived.LaidLaws
import Derived.SevenTiedAt
namespace Go.Proofs.YtnebdnbglggdkaaDoor.reportAsks
open Go.ChangeShapes Go.WideShapes Go.ChangeAt Go.RowKit
open Go.Proofs.YtnebdnbglggdkaaDoorW.Am
theorem laidOut : laidOutB Tryd.prog = true := by kernel_rfl
theorem own : ownKnob Tryd.prog.godebug = none := by kernel_rfl
set_option maxRecDepth 100000 in
theorem lifted (os : Os) (started : os.Started) (H : Type) (enc : TypeId × Value → H) :
    ReturnsInHanded {} Tryd.checked os 3 .any (fun w args => (Rows.reportAsksSpec.pre enc Tryd.prog Tryd.f3 [] false w args ∧ laidMet Tryd.prog laidL w) ∧ sizedMet enc Tryd.prog Tryd.f3 (OpenSpec.ofChange Rows.reportAsksSpec) false w args)
      (Rows.reportAsksSpec.post enc Tryd.prog Tryd.f3 false true false false) := by
  refine returnsInHanded_of_change_and (C := Tryd.checked) (X := fun w _ => laidMet Tryd.prog laidL w) (fun _ _ _ hh h => h.of_heap hh) own started (by kernel_rfl) Tryd.func3
    (ChangeSpec.witness_at (enc := enc) (C := Tryd.checked) (os := os) (X := fun w _ => laidMet Tryd.prog laidL w) false (laidWorld os) #[.slice none 0 0, .slice none 0 0] 8 rfl (by kernel_rfl) (by kernel_rfl) (by kernel_rfl) (by kernel_rfl) (by kernel_rfl) (laid_met os _)) ?_
  intro W base args ds gs before hval0 hW hcnd hsz0 hL _
  have tbW : Tb W.heap.size W := tb_of (tb_laid hL)
  have hval : ∀ (j : Nat) t v, Tryd.f3.params[j]? = some t → args[j]? = some v → Value.okWide Tryd.prog W .any base t v := hval0
  have hW' := hW
  obtain ⟨p, q, hA0, hV, rfl, hfz, hnd⟩ := hW
  have hA : DataW.TrodAll enc Tryd.prog W 0 (fun _ => true) true Tryd.f3.params.toList args.toList ds p := hA0
  rw [Tryd.params3] at hA hval
  obtain ⟨v0, vs0, d0, ds0, p0, q0, hargs, rfl, rfl, h0, r0⟩ := trodAll_cons hA
  obtain ⟨v1, vs1, d1, ds1, p1, q1, rfl, rfl, rfl, h1, r1⟩ := trodAll_cons r0
  obtain ⟨rfl, rfl, rfl⟩ := trodAll_nil r1
  obtain rfl : args = #[v0, v1] := by cases args; simp_all
  obtain ⟨rfl, rfl⟩ := trodVars_none hV
  have k0 := h0
  have lt0 : ∀ x ∈ p0, x.block < W.heap.size := by obtain ⟨m, hm⟩ := k0; exact DataW.trod_lt m _ _ _ hm
  have k1 := h1
  have lt1 : ∀ x ∈ p1, x.block < W.heap.size := by obtain ⟨m, hm⟩ := k1; exact DataW.trod_lt m _ _ _ hm
  have call : Calls Tryd.prog 3 #[v0, v1] W fun e W' => e = .returned (.bool true) ∧ Below W.heap.size W W' := by
    have hz := hz_laid hL
    obtain ⟨_, g0⟩ := h0
    obtain ⟨ad0, ln0, cp0, rfl⟩ := Go.WideShapes.okWide_slice Tryd.underlying22 (hval 0 22 v0 rfl rfl)
    obtain ⟨m0, cs0, wn0, rv0, tv0⟩ := open_gen hz 8 22 _ _ _ ([]) (by kernel_rfl) g0 (Wn.nil W)
    obtain ⟨s0, l0, rfl, R0, O0, L0, C0⟩ := views_of tv0
    replace rv0 := rv0.2 0 _ _ rfl rfl
    obtain ⟨_, g1⟩ := h1
    obtain ⟨ad1, ln1, cp1, rfl⟩ := Go.WideShapes.okWide_slice Tryd.underlying23 (hval 1 23 v1 rfl rfl)
    obtain ⟨m1, cs1, wn1, rv1, tv1⟩ := open_gen hz 8 23 _ _ _ ([] ++ m0) (by kernel_rfl) g1 (wn0)
    obtain ⟨s1, l1, rfl, R1, L1⟩ := reqs_of tv1
    replace rv1 := rv1.2 0 _ _ rfl rfl
    replace R0 := R0.ext (roN_app _ m1)
    replace rv0 := rv0.mono (roM_app _ m1)
    exact law_op wn1 (RVs.cons (rv0) (RVs.cons (rv1) (RVs.nil _))) (asks_ok R0 L0 O0 R1 L1)
  refine call.mono fun e W' ⟨he, bel⟩ => ?_
  subst he
  exact ⟨_, rfl, _, _, _, [], _, [], hW', trodAll_mk1 (shut_bool Tryd.underlying4 _), (trodAll_cons_mk (Below.trod laidOut (by kernel_rfl) (of_decide_eq_true (by kernel_rfl)) k0 bel lt0) (trodAll_cons_mk (Below.trod laidOut (by kernel_rfl) (of_decide_eq_true (by kernel_rfl)) k1 bel lt1) trodAll_mk0)), rfl, bel.frame _, fun h => by cases h⟩
theorem over : Rows.reportAsksRow.holds Tryd.pinned (OpenSpec.ofChange Rows.reportAsksSpec) :=
  OpenClaim.holds_of_wide 3 Tryd.f3 rfl rfl rfl rfl rfl rfl rfl ⟨rfl, rfl, rfl, rfl, rfl⟩ rfl rfl rfl rfl rfl (by kernel_rfl) Tryd.func3 (by kernel_rfl)
    (of_decide_eq_true (by kernel_rfl)) (by unfold Func.isWrapper; first | (rw [if_pos (by decide +kernel)]; kernel_rfl) | (rw [if_neg (by decide +kernel)]; exact ⟨rfl, rfl⟩))
    (fun os started H enc _ => lifted os started H enc)
theorem cardOver : Rows.ReportAsksCardSaid :=
  Claim7.holds_tied_plain_at .later [] [.data, .data, .data] true (true, "06f509bd2cac05362407c33ac33ffa80894fead0b0d0ed8c84b38f159b675a41") true
    over (fun _ h => by cases h) (by kernel_rfl) (fun _ h => by cases h) reportAsks_row_tie rfl ⟨rfl, rfl⟩ (by kernel_rfl) rfl
    (fun f fn hf hfn => by
      obtain rfl : f = 3 := Option.some.inj ((show Tryd.prog.funcNamed "spinnaker/spinnakerlaw27.ReportAsks" = some 3 by kernel_rfl).symm.trans hf) |>.symm
      obtain rfl : fn = Tryd.f3 := (Option.some.inj (Tryd.func3.symm.trans hfn)).symm
      exact ⟨by kernel_rfl, fun j t ht => by
        rw [Tryd.params3] at ht
        have h3 : t ∈ [22, 23] := List.mem_of_getElem? (by simpa using ht)
        simp only [List.mem_cons, List.not_mem_nil, or_false] at h3
        rcases h3 with rfl | rfl
        · exact (show Tryd.prog.wantsStandIn 22 = false by kernel_rfl)
        · exact (show Tryd.prog.wantsStandIn 23 = false by kernel_rfl)⟩)
    (by kernel_rfl)
theorem proved : Rows.ReportAsksCardSaid := cardOver
#print axioms proved
end Go.Proofs.YtnebdnbglggdkaaDoor.reportAsks
namespace Go.Proofs.YtnebdnbglggdkaaDoor
/-- The row, under a short name, for the claim. -/
theorem reportAsks_holds : Rows.ReportAsksCardSaid := reportAsks.proved
end Go.Proofs.YtnebdnbglggdkaaDoor
