/- TextAsks holds: the text's functions only read. For every input. -/
import Derived.Test.YtapbmmlgmcmpnaaDoorRows
import Derived.Test.YtapbmmlgmcmpnaaDoorTextM5
import Derived.Test.YtapbmmlgmcmpnaaDoorTextM2
import Derived.WalkKit
import Derived.ProofKit
import Derived.OpenShut
import Derived.ShutString
import Derived.ChangeOld
import Derived.Below
import Derived.SizedLaws
import Derived.Test.YtapbmmlgmcmpnaaDoorCards
import Derived.Test.YtapbmmlgmcmpnaaDoorTie
import Derived.ChangeSame
import Derived.ChangeVars
import Derived.JoinedOf
import Derived.LaidLaws
import Derived.SevenTiedAt
namespace Go.Proofs.YtapbmmlgmcmpnaaDoor.textAsks
open Go.ChangeShapes Go.WideShapes Go.ChangeAt Go.RowKit
open Go.Proofs.YtapbmmlgmcmpnaaDoorW.Am
theorem laidOut : laidOutB Tryd.prog = true := by kernel_rfl
theorem own : ownKnob Tryd.prog.godebug = none := by kernel_rfl
set_option maxRecDepth 100000 in
theorem lifted (os : Os) (started : os.Started) (H : Type) (enc : TypeId × Value → H) :
    ReturnsInHanded {} Tryd.checked os 4 .any (fun w args => (Rows.textAsksSpec.pre enc Tryd.prog Tryd.f4 [] false w args ∧ laidMet Tryd.prog laidL w) ∧ sizedMet enc Tryd.prog Tryd.f4 (OpenSpec.ofChange Rows.textAsksSpec) false w args)
      (Rows.textAsksSpec.post enc Tryd.prog Tryd.f4 false true false false) := by
  refine handed_and_shaped (C := Tryd.checked) (X := fun w _ => laidMet Tryd.prog laidL w) (fun _ _ _ hh h => h.of_heap hh) own started (by kernel_rfl) Tryd.func4
    (ChangeSpec.witness_at (enc := enc) (C := Tryd.checked) (os := os) (X := fun w _ => laidMet Tryd.prog laidL w) false (laidWorld os) #[.string ⟨#[]⟩, .int .i64 0, .agg #[.int .i64 0, .int .i64 0, .int .i64 0, .int .i64 0, .int .i64 0, .int .i64 0, .int .i64 0, .int .i64 0, .int .i64 0, .int .i64 0, .int .i64 0, .int .i64 0, .int .i64 0, .int .i64 0, .int .i64 0, .int .i64 0, .int .i64 0, .int .i64 0, .int .i64 0, .int .i64 0], .slice none 0 0] 8 rfl (by kernel_rfl) (by kernel_rfl) (by kernel_rfl) (by kernel_rfl) (by kernel_rfl) (laid_met os _)) ?_
  intro W base args ds gs before hval0 hW hcnd hsz0 hL hsh _
  have tbW : Tb W.heap.size W := tb_of (tb_laid hL hsh)
  have hval : ∀ (j : Nat) t v, Tryd.f4.params[j]? = some t → args[j]? = some v → Value.okWide Tryd.prog W .any base t v := hval0
  have hW' := hW
  obtain ⟨p, q, hA0, hV, rfl, hfz, hnd⟩ := hW
  have hA : DataW.TrodAll enc Tryd.prog W 0 (fun _ => true) true Tryd.f4.params.toList args.toList ds p := hA0
  rw [Tryd.params4] at hA hval
  obtain ⟨v0, vs0, d0, ds0, p0, q0, hargs, rfl, rfl, h0, r0⟩ := trodAll_cons hA
  obtain ⟨v1, vs1, d1, ds1, p1, q1, rfl, rfl, rfl, h1, r1⟩ := trodAll_cons r0
  obtain ⟨v2, vs2, d2, ds2, p2, q2, rfl, rfl, rfl, h2, r2⟩ := trodAll_cons r1
  obtain ⟨v3, vs3, d3, ds3, p3, q3, rfl, rfl, rfl, h3, r3⟩ := trodAll_cons r2
  obtain ⟨rfl, rfl, rfl⟩ := trodAll_nil r3
  obtain rfl : args = #[v0, v1, v2, v3] := by cases args; simp_all
  obtain ⟨rfl, rfl⟩ := trodVars_none hV
  obtain ⟨a1, rfl, rfl, rfl, w1⟩ := open_int Tryd.underlying2 (hval 1 2 v1 rfl rfl) h1
  have k0 := h0
  have lt0 : ∀ x ∈ p0, x.block < W.heap.size := by obtain ⟨m, hm⟩ := k0; exact DataW.trod_lt m _ _ _ hm
  have k2 := h2
  have lt2 : ∀ x ∈ p2, x.block < W.heap.size := by obtain ⟨m, hm⟩ := k2; exact DataW.trod_lt m _ _ _ hm
  have k3 := h3
  have lt3 : ∀ x ∈ p3, x.block < W.heap.size := by obtain ⟨m, hm⟩ := k3; exact DataW.trod_lt m _ _ _ hm
  have call : Calls Tryd.prog 4 #[v0, .int .i64 a1, v2, v3] W fun e W' => e = .returned (.bool true) ∧ Below W.heap.size W W' := by
    have hz := hz_laid hL hsh
    obtain ⟨_, g0⟩ := h0
    obtain ⟨sv0, rfl⟩ := Go.WideShapes.okWide_string Tryd.underlying9 (hval 0 9 v0 rfl rfl)
    obtain ⟨m0, cs0, wn0, rv0, tv0⟩ := open_gen hz 8 9 _ _ _ ([]) (by kernel_rfl) g0 (Wn.nil W)
    obtain ⟨s0, rfl, L0⟩ := str_of tv0
    replace rv0 := rv0.2 0 _ _ rfl rfl
    obtain ⟨_, g2⟩ := h2
    obtain ⟨sv2, rfl, _⟩ := Go.WideShapes.okWide_struct Tryd.underlying24 (hval 2 24 v2 rfl rfl)
    obtain ⟨m2, cs2, wn2, rv2, tv2⟩ := open_gen hz 8 24 _ _ _ ([] ++ m0) (by kernel_rfl) g2 (wn0)
    obtain ⟨c2, rfl, I2⟩ := conf_of tv2
    have rc2 := conf_rv rv2
    replace rv2 := rc2
    replace rv0 := rv0.mono (roM_app _ m2)
    obtain ⟨_, g3⟩ := h3
    obtain ⟨ad3, ln3, cp3, rfl⟩ := Go.WideShapes.okWide_slice Tryd.underlying30 (hval 3 30 v3 rfl rfl)
    obtain ⟨m3, cs3, wn3, rv3, tv3⟩ := open_gen hz 8 30 _ _ _ ([] ++ m0 ++ m2) (by kernel_rfl) g3 (wn2)
    obtain ⟨s3, l3, rfl, R3, L3, M3⟩ := strs_of tv3
    replace rv3 := rv3.2 0 _ _ rfl rfl
    replace rv0 := rv0.mono (roM_app _ m3)
    replace rv2 := rv2.mono (roM_app _ m3)
    exact law_op wn3 (RVs.cons (rv0) (RVs.cons (RV.int _ _) (RVs.cons (rv2) (RVs.cons (rv3) (RVs.nil _))))) (tasks_ok s0 L0 (i64_of w1) c2 s3 l3 L3 M3 _ R3)
  refine call.mono fun e W' ⟨he, bel⟩ => ?_
  subst he
  exact ⟨_, rfl, _, _, _, [], _, [], hW', trodAll_mk1 (shut_bool Tryd.underlying4 _), (trodAll_cons_mk (Below.trod laidOut (by kernel_rfl) (of_decide_eq_true (by kernel_rfl)) k0 bel lt0) (trodAll_cons_mk (shut_int Tryd.underlying2 w1) (trodAll_cons_mk (Below.trod laidOut (by kernel_rfl) (of_decide_eq_true (by kernel_rfl)) k2 bel lt2) (trodAll_cons_mk (Below.trod laidOut (by kernel_rfl) (of_decide_eq_true (by kernel_rfl)) k3 bel lt3) trodAll_mk0)))), rfl, bel.frame _, fun h => by cases h⟩
theorem over : Rows.textAsksRow.holds Tryd.pinned (OpenSpec.ofChange Rows.textAsksSpec) :=
  OpenClaim.holds_of_wide 4 Tryd.f4 rfl rfl rfl rfl rfl rfl rfl ⟨rfl, rfl, rfl, rfl, rfl⟩ rfl rfl rfl rfl rfl (by kernel_rfl) Tryd.func4 (by kernel_rfl)
    (of_decide_eq_true (by kernel_rfl)) (by unfold Func.isWrapper; first | (rw [if_pos (by decide +kernel)]; kernel_rfl) | (rw [if_neg (by decide +kernel)]; exact ⟨rfl, rfl⟩))
    (fun os started H enc _ => lifted os started H enc)
theorem cardOver : Rows.TextAsksCardSaid :=
  Claim7.holds_tied_plain_at .later [] [.data, .data, .data, .data, .sentinel, .sentinel, .pinned] true (true, "2b63ca96292b6a068453959516a9bb9ac68981dd8b203f6dc88024ccca19ea9f") true
    over (fun _ h => by cases h) (by kernel_rfl) (fun _ h => by cases h) textAsks_row_tie rfl ⟨rfl, rfl⟩ (by kernel_rfl) rfl
    (fun f fn hf hfn => by
      obtain rfl : f = 4 := Option.some.inj ((show Tryd.prog.funcNamed "spinnaker/spinnakerlaw4.TextAsks" = some 4 by kernel_rfl).symm.trans hf) |>.symm
      obtain rfl : fn = Tryd.f4 := (Option.some.inj (Tryd.func4.symm.trans hfn)).symm
      exact ⟨by kernel_rfl, fun j t ht => by
        rw [Tryd.params4] at ht
        have h3 : t ∈ [9, 2, 24, 30] := List.mem_of_getElem? (by simpa using ht)
        simp only [List.mem_cons, List.not_mem_nil, or_false] at h3
        rcases h3 with rfl | rfl | rfl | rfl
        · exact (show Tryd.prog.wantsStandIn 9 = false by kernel_rfl)
        · exact (show Tryd.prog.wantsStandIn 2 = false by kernel_rfl)
        · exact (show Tryd.prog.wantsStandIn 24 = false by kernel_rfl)
        · exact (show Tryd.prog.wantsStandIn 30 = false by kernel_rfl)⟩)
    (by kernel_rfl)
theorem proved : Rows.TextAsksCardSaid := cardOver
#print axioms proved
end Go.Proofs.YtapbmmlgmcmpnaaDoor.textAsks
namespace Go.Proofs.YtapbmmlgmcmpnaaDoor
/-- The row, under a short name, for the claim. -/
theorem textAsks_holds : Rows.TextAsksCardSaid := textAsks.proved
end Go.Proofs.YtapbmmlgmcmpnaaDoor
