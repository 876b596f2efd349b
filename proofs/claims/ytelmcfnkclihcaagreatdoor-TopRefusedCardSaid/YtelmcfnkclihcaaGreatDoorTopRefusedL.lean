/- TopRefused holds: An event that is refused leaves all as it was. For every input. -/
import Derived.Test.YtelmcfnkclihcaaGreatDoorRows
import Derived.Test.YtelmcfnkclihcaaGreatDoorTopK6
import Derived.WalkKit
import Derived.ProofKit
import Derived.OpenShut
import Derived.ShutString
import Derived.ChangeOld
import Derived.Below
import Derived.SizedLaws
import Derived.Test.YtelmcfnkclihcaaGreatDoorCards
import Derived.Test.YtelmcfnkclihcaaGreatDoorTie
import Derived.ChangeSame
import Derived.ChangeVars
import Derived.JoinedOf
import Derived.LaidLaws
import Derived.SevenTiedAt
namespace Go.Proofs.YtelmcfnkclihcaaGreatDoor.topRefused
open Go.ChangeShapes Go.WideShapes Go.ChangeAt Go.RowKit
open Go.Proofs.YtelmcfnkclihcaaGreatDoorW.Am
theorem laidOut : laidOutB Tryz.prog = true := by kernel_rfl
theorem own : ownKnob Tryz.prog.godebug = none := by kernel_rfl
set_option maxRecDepth 100000 in
theorem lifted (os : Os) (started : os.Started) (H : Type) (enc : TypeId × Value → H) :
    ReturnsInHanded {} Tryz.checked os 5 .any (fun w args => (Rows.topRefusedSpec.pre enc Tryz.prog Tryz.f5 [] false w args ∧ laidMet Tryz.prog laidL w) ∧ sizedMet enc Tryz.prog Tryz.f5 (OpenSpec.ofChange Rows.topRefusedSpec) false w args)
      (Rows.topRefusedSpec.post enc Tryz.prog Tryz.f5 false true false false) := by
  refine handed_and_shaped (C := Tryz.checked) (X := fun w _ => laidMet Tryz.prog laidL w) (fun _ _ _ hh h => h.of_heap hh) own started (by kernel_rfl) Tryz.func5
    (ChangeSpec.witness_at (enc := enc) (C := Tryz.checked) (os := os) (X := fun w _ => laidMet Tryz.prog laidL w) false (laidWorld os) #[.slice none 0 0, .agg #[.int .i64 0, .int .i64 0, .string ⟨#[]⟩]] 8 rfl (by kernel_rfl) (by kernel_rfl) (by kernel_rfl) (by kernel_rfl) (by kernel_rfl) (laid_met os _)) ?_
  intro W base args ds gs before hval0 hW hcnd hsz0 hL hsh _
  have tbW : Tb W.heap.size W := tb_of (tb_laid hL hsh)
  have hval : ∀ (j : Nat) t v, Tryz.f5.params[j]? = some t → args[j]? = some v → Value.okWide Tryz.prog W .any base t v := hval0
  have hW' := hW
  obtain ⟨p, q, hA0, hV, rfl, hfz, hnd⟩ := hW
  have hA : DataW.TrodAll enc Tryz.prog W 0 (fun _ => true) true Tryz.f5.params.toList args.toList ds p := hA0
  rw [Tryz.params5] at hA hval
  obtain ⟨v0, vs0, d0, ds0, p0, q0, hargs, rfl, rfl, h0, r0⟩ := trodAll_cons hA
  obtain ⟨v1, vs1, d1, ds1, p1, q1, rfl, rfl, rfl, h1, r1⟩ := trodAll_cons r0
  obtain ⟨rfl, rfl, rfl⟩ := trodAll_nil r1
  obtain rfl : args = #[v0, v1] := by cases args; simp_all
  obtain ⟨rfl, rfl⟩ := trodVars_none hV
  have k0 := h0
  have lt0 : ∀ x ∈ p0, x.block < W.heap.size := by obtain ⟨m, hm⟩ := k0; exact DataW.trod_lt m _ _ _ hm
  have k1 := h1
  have lt1 : ∀ x ∈ p1, x.block < W.heap.size := by obtain ⟨m, hm⟩ := k1; exact DataW.trod_lt m _ _ _ hm
  have call : Calls Tryz.prog 5 #[v0, v1] W fun e W' => e = .returned (.bool true) ∧ Below W.heap.size W W' := by
    have hz := hz_laid hL hsh
    obtain ⟨_, g0⟩ := h0
    obtain ⟨ad0, ln0, cp0, rfl⟩ := Go.WideShapes.okWide_slice Tryz.underlying22 (hval 0 22 v0 rfl rfl)
    obtain ⟨m0, cs0, wn0, rv0, tv0⟩ := open_gen hz 8 22 _ _ _ ([]) (by kernel_rfl) g0 (Wn.nil W)
    obtain ⟨s0, l0, rfl, R0, L0, M0⟩ := evs_of tv0
    replace rv0 := rv0.2 0 _ _ rfl rfl
    obtain ⟨_, g1⟩ := h1
    obtain ⟨sv1, rfl, _⟩ := Go.WideShapes.okWide_struct Tryz.underlying32 (hval 1 32 v1 rfl rfl)
    obtain ⟨m1, cs1, wn1, rv1, tv1⟩ := open_gen hz 8 32 _ _ _ ([] ++ m0) (by kernel_rfl) g1 (wn0)
    obtain ⟨c1, rfl, L1⟩ := ev_of tv1
    have rc1 := agg_rv rv1
    replace rv1 := rc1
    replace R0 := R0.ext (roN_app _ m1)
    replace rv0 := rv0.mono (roM_app _ m1)
    exact law_op wn1 (RVs.cons (rv0) (RVs.cons (rv1) (RVs.nil _))) (trefused_ok _ R0 L0 M0 c1 L1)
  refine call.mono fun e W' ⟨he, bel⟩ => ?_
  subst he
  exact ⟨_, rfl, _, _, _, [], _, [], hW', trodAll_mk1 (shut_bool Tryz.underlying4 _), (trodAll_cons_mk (Below.trod laidOut (by kernel_rfl) (of_decide_eq_true (by kernel_rfl)) k0 bel lt0) (trodAll_cons_mk (Below.trod laidOut (by kernel_rfl) (of_decide_eq_true (by kernel_rfl)) k1 bel lt1) trodAll_mk0)), rfl, bel.frame _, fun h => by cases h⟩
theorem over : Rows.topRefusedRow.holds Tryz.pinned (OpenSpec.ofChange Rows.topRefusedSpec) :=
  OpenClaim.holds_of_wide 5 Tryz.f5 rfl rfl rfl rfl rfl rfl rfl ⟨rfl, rfl, rfl, rfl, rfl⟩ rfl rfl rfl rfl rfl (by kernel_rfl) Tryz.func5 (by kernel_rfl)
    (of_decide_eq_true (by kernel_rfl)) (by unfold Func.isWrapper; first | (rw [if_pos (by decide +kernel)]; kernel_rfl) | (rw [if_neg (by decide +kernel)]; exact ⟨rfl, rfl⟩))
    (fun os started H enc _ => lifted os started H enc)
theorem cardOver : Rows.TopRefusedCardSaid :=
  Claim7.holds_tied_plain_at .later [] [.data, .data, .data, .data, .sentinel, .sentinel, .pinned] true (true, "3b62c5d6099aa1db7e3fea49853833efbdb5b44ea95289edf0c19d53d52b27f1") true
    over (fun _ h => by cases h) (by kernel_rfl) (fun _ h => by cases h) topRefused_row_tie rfl ⟨rfl, rfl⟩ (by kernel_rfl) rfl
    (fun f fn hf hfn => by
      obtain rfl : f = 5 := Option.some.inj ((show Tryz.prog.funcNamed "spinnaker/spinnakertop.TopRefused" = some 5 by kernel_rfl).symm.trans hf) |>.symm
      obtain rfl : fn = Tryz.f5 := (Option.some.inj (Tryz.func5.symm.trans hfn)).symm
      exact ⟨by kernel_rfl, fun j t ht => by
        rw [Tryz.params5] at ht
        have h3 : t ∈ [22, 32] := List.mem_of_getElem? (by simpa using ht)
        simp only [List.mem_cons, List.not_mem_nil, or_false] at h3
        rcases h3 with rfl | rfl
        · exact (show Tryz.prog.wantsStandIn 22 = false by kernel_rfl)
        · exact (show Tryz.prog.wantsStandIn 32 = false by kernel_rfl)⟩)
    (by kernel_rfl)
theorem proved : Rows.TopRefusedCardSaid := cardOver
#print axioms proved
end Go.Proofs.YtelmcfnkclihcaaGreatDoor.topRefused
namespace Go.Proofs.YtelmcfnkclihcaaGreatDoor
/-- The row, under a short name, for the claim. -/
theorem topRefused_holds : Rows.TopRefusedCardSaid := topRefused.proved
end Go.Proofs.YtelmcfnkclihcaaGreatDoor
