-- Printed by this session's own program (wip/tools/widen.py over the kit's print): not the kit's print itself
import Derived.Test.YtcdfoicebcmlaaaPEventx0
import Derived.Test.YtcdfoicebcmlaaaPEventx2
import Derived.Test.YtcdfoicebcmlaaaPEventx3
import Derived.Test.YtcdfoicebcmlaaaPEventx4
import Derived.Test.YtcdfoicebcmlaaaPEventx6
import Derived.Test.YtcdfoicebcmlaaaPEventx7
import Derived.Test.YtcdfoicebcmlaaaPEventx8
namespace Go.Proofs.Ytcdfoicebcmlaaa.PEvent
open Go.RowKit Go.Proofs.YtcdfoicebcmlaaaW.PrintWords Go.Proofs.YtcdfoicebcmlaaaW.PrintLast Go.Proofs.YtcdfoicebcmlaaaW.PrintMore
attribute [local go_sem] max2_int min2_int max_two min_two max_three min_three max_four min_four   -- for this text's walks alone
set_option linter.unusedVariables false
set_option linter.unusedSimpArgs false

/-! ### spinnakerlaw23_EventBack: function 12 -/
mutual
def spinnakerlaw23_EventBack.l0 : Nat → List (S50) → Int → List (S50) → Int → Option (Bool)
  | 0, _, _, _, _ => none
  | k + 1, x0, x1, x5, x6 => if x6 < (x0.length : Int) then (if 0 ≤ x6 then ((event_May.f k ((rd_T50 x0 x6).f0) ((rd_T50 x0 x6).f1) ((rd_T50 x0 x6).f2)).bind fun t365 => (if t365 = true then (if x5.length < 4398046511104 then (spinnakerlaw23_EventBack.l0 k x0 x1 (x5 ++ [(⟨(rd_T50 x0 x6).f0, (rd_T50 x0 x6).f1, (rd_T50 x0 x6).f2⟩ : S50)]) (wrap64 (x6 + 1))) else (none)) else (spinnakerlaw23_EventBack.l0 k x0 x1 x5 (wrap64 (x6 + 1))))) else (none)) else ((event_Put.f k x5).bind fun bt370 => ((event_All.f k bt370.1).bind fun bt374 => (if bt370.2 = 0 then (if bt374.2.1 = 0 then (if bt374.2.2 = 0 then ((spinnakerlaw23_events.f k bt374.1 x5).bind fun t379 => (spinnakerlaw23_EventBack.j1 k x1 x5 bt370.1 (!t379))) else (spinnakerlaw23_EventBack.j1 k x1 x5 bt370.1 true)) else (spinnakerlaw23_EventBack.j1 k x1 x5 bt370.1 true)) else (spinnakerlaw23_EventBack.j1 k x1 x5 bt370.1 true))))
def spinnakerlaw23_EventBack.j1 : Nat → Int → List (S50) → List Int → Bool → Option (Bool)
  | 0, _, _, _, _ => none
  | k + 1, x1, x5, x7, x66 => if x66 = true then (some false) else (if (IntKind.u64.wrap (wrap64 ((x7.length : Int) + 1))) = 0 then (none) else (if 0 ≤ (wrap64 (Int.tmod (IntKind.u64.wrap (x1)) (IntKind.u64.wrap (wrap64 ((x7.length : Int) + 1))))) then (if (wrap64 (Int.tmod (IntKind.u64.wrap (x1)) (IntKind.u64.wrap (wrap64 ((x7.length : Int) + 1))))) ≤ (x7.length : Int) then ((event_All.f k (x7.take ((wrap64 (Int.tmod (IntKind.u64.wrap (x1)) (IntKind.u64.wrap (wrap64 ((x7.length : Int) + 1))))) : Int).toNat)).bind fun bt384 => (if (bt384.1.length : Int) > (x5.length : Int) then (spinnakerlaw23_EventBack.j2 k (wrap64 (Int.tmod (IntKind.u64.wrap (x1)) (IntKind.u64.wrap (wrap64 ((x7.length : Int) + 1))))) bt384.1 bt384.2.1 bt384.2.2 true) else (if 0 ≤ (bt384.1.length : Int) then (if (bt384.1.length : Int) ≤ (x5.length : Int) then ((spinnakerlaw23_events.f k bt384.1 (x5.take ((bt384.1.length : Int) : Int).toNat)).bind fun t393 => (spinnakerlaw23_EventBack.j2 k (wrap64 (Int.tmod (IntKind.u64.wrap (x1)) (IntKind.u64.wrap (wrap64 ((x7.length : Int) + 1))))) bt384.1 bt384.2.1 bt384.2.2 (!t393))) else (none)) else (none)))) else (none)) else (none)))
def spinnakerlaw23_EventBack.j2 : Nat → Int → List (S50) → Int → Int → Bool → Option (Bool)
  | 0, _, _, _, _, _ => none
  | k + 1, x12, x13, x14, x15, x96 => if x96 = true then (some false) else ((event_Put.f k x13).bind fun bt394 => ((spinnakerlaw23_told.f k).bind fun t398 => (if t398 = true then (if bt394.2 = 0 then (if x14 = 0 then (if (bt394.1.length : Int) = x12 then (if x15 = 0 then (some true) else (if x14 = 4 then (if (bt394.1.length : Int) = x15 then (some (decide (x15 < x12))) else (some false)) else (some false))) else (if x14 = 4 then (if (bt394.1.length : Int) = x15 then (some (decide (x15 < x12))) else (some false)) else (some false))) else (if x14 = 4 then (if (bt394.1.length : Int) = x15 then (some (decide (x15 < x12))) else (some false)) else (some false))) else (some false)) else (some false))))
end
def spinnakerlaw23_EventBack.f (k : Nat) (l0 : List (S50)) (a1 : Int) : Option (Bool) := (spinnakerlaw23_Few.f k l0 30).bind fun t362 => (if t362 = true then (spinnakerlaw23_EventBack.l0 k l0 a1 ([] : List (S50)) 0) else ((spinnakerlaw23_told.f k).bind fun t363 => (some t363)))
theorem spinnakerlaw23_EventBack.mono_l : ∀ k, (∀ y0 y1 y2 y3, LeO (spinnakerlaw23_EventBack.l0 k y0 y1 y2 y3) (spinnakerlaw23_EventBack.l0 (k + 1) y0 y1 y2 y3)) ∧ (∀ y0 y1 y2 y3, LeO (spinnakerlaw23_EventBack.j1 k y0 y1 y2 y3) (spinnakerlaw23_EventBack.j1 (k + 1) y0 y1 y2 y3)) ∧ (∀ y0 y1 y2 y3 y4, LeO (spinnakerlaw23_EventBack.j2 k y0 y1 y2 y3 y4) (spinnakerlaw23_EventBack.j2 (k + 1) y0 y1 y2 y3 y4))
  | 0 => ⟨fun _ _ _ _ r h => by simp [spinnakerlaw23_EventBack.l0] at h, fun _ _ _ _ r h => by simp [spinnakerlaw23_EventBack.j1] at h, fun _ _ _ _ _ r h => by simp [spinnakerlaw23_EventBack.j2] at h⟩
  | k + 1 => by
    obtain ⟨ih0, ih1, ih2⟩ := spinnakerlaw23_EventBack.mono_l k
    refine ⟨?_, ?_, ?_⟩
    · intro y0 y1 y2 y3
      unfold spinnakerlaw23_EventBack.l0
      repeat' first
      | (with_reducible exact ih0 _ _ _ _)
      | (with_reducible exact ih1 _ _ _ _)
      | (with_reducible exact ih2 _ _ _ _ _)
      | (with_reducible exact event_All.mono _ _)
      | (with_reducible exact event_May.mono _ _ _ _)
      | (with_reducible exact event_Put.mono _ _)
      | (with_reducible exact spinnakerlaw23_Few.mono _ _ _)
      | (with_reducible exact spinnakerlaw23_events.mono _ _ _)
      | (with_reducible exact spinnakerlaw23_told.mono _)
      | (with_reducible exact LeO.refl _)
      | (with_reducible exact LeO.none _)
      | (with_reducible refine LeO.ite ?_ ?_)
      | (with_reducible refine LeO.bind ?_ (fun _ => ?_))
      | exact ih0 _ _ _ _
      | exact ih1 _ _ _ _
      | exact ih2 _ _ _ _ _
      | exact event_All.mono _ _
      | exact event_May.mono _ _ _ _
      | exact event_Put.mono _ _
      | exact spinnakerlaw23_Few.mono _ _ _
      | exact spinnakerlaw23_events.mono _ _ _
      | exact spinnakerlaw23_told.mono _
      | exact LeO.none _
      | refine LeO.ite ?_ ?_
      | refine LeO.bind ?_ (fun _ => ?_)
    · intro y0 y1 y2 y3
      unfold spinnakerlaw23_EventBack.j1
      repeat' first
      | (with_reducible exact ih0 _ _ _ _)
      | (with_reducible exact ih1 _ _ _ _)
      | (with_reducible exact ih2 _ _ _ _ _)
      | (with_reducible exact event_All.mono _ _)
      | (with_reducible exact event_May.mono _ _ _ _)
      | (with_reducible exact event_Put.mono _ _)
      | (with_reducible exact spinnakerlaw23_Few.mono _ _ _)
      | (with_reducible exact spinnakerlaw23_events.mono _ _ _)
      | (with_reducible exact spinnakerlaw23_told.mono _)
      | (with_reducible exact LeO.refl _)
      | (with_reducible exact LeO.none _)
      | (with_reducible refine LeO.ite ?_ ?_)
      | (with_reducible refine LeO.bind ?_ (fun _ => ?_))
      | exact ih0 _ _ _ _
      | exact ih1 _ _ _ _
      | exact ih2 _ _ _ _ _
      | exact event_All.mono _ _
      | exact event_May.mono _ _ _ _
      | exact event_Put.mono _ _
      | exact spinnakerlaw23_Few.mono _ _ _
      | exact spinnakerlaw23_events.mono _ _ _
      | exact spinnakerlaw23_told.mono _
      | exact LeO.none _
      | refine LeO.ite ?_ ?_
      | refine LeO.bind ?_ (fun _ => ?_)
    · intro y0 y1 y2 y3 y4
      unfold spinnakerlaw23_EventBack.j2
      repeat' first
      | (with_reducible exact ih0 _ _ _ _)
      | (with_reducible exact ih1 _ _ _ _)
      | (with_reducible exact ih2 _ _ _ _ _)
      | (with_reducible exact event_All.mono _ _)
      | (with_reducible exact event_May.mono _ _ _ _)
      | (with_reducible exact event_Put.mono _ _)
      | (with_reducible exact spinnakerlaw23_Few.mono _ _ _)
      | (with_reducible exact spinnakerlaw23_events.mono _ _ _)
      | (with_reducible exact spinnakerlaw23_told.mono _)
      | (with_reducible exact LeO.refl _)
      | (with_reducible exact LeO.none _)
      | (with_reducible refine LeO.ite ?_ ?_)
      | (with_reducible refine LeO.bind ?_ (fun _ => ?_))
      | exact ih0 _ _ _ _
      | exact ih1 _ _ _ _
      | exact ih2 _ _ _ _ _
      | exact event_All.mono _ _
      | exact event_May.mono _ _ _ _
      | exact event_Put.mono _ _
      | exact spinnakerlaw23_Few.mono _ _ _
      | exact spinnakerlaw23_events.mono _ _ _
      | exact spinnakerlaw23_told.mono _
      | exact LeO.none _
      | refine LeO.ite ?_ ?_
      | refine LeO.bind ?_ (fun _ => ?_)
theorem spinnakerlaw23_EventBack.mono : ∀ a0 a1 k, LeO (spinnakerlaw23_EventBack.f k a0 a1) (spinnakerlaw23_EventBack.f (k + 1) a0 a1) := by
  intro a0 a1 k
  obtain ⟨ih0, ih1, ih2⟩ := spinnakerlaw23_EventBack.mono_l k
  unfold spinnakerlaw23_EventBack.f
  repeat' first
      | (with_reducible exact ih0 _ _ _ _)
      | (with_reducible exact ih1 _ _ _ _)
      | (with_reducible exact ih2 _ _ _ _ _)
      | (with_reducible exact event_All.mono _ _)
      | (with_reducible exact event_May.mono _ _ _ _)
      | (with_reducible exact event_Put.mono _ _)
      | (with_reducible exact spinnakerlaw23_Few.mono _ _ _)
      | (with_reducible exact spinnakerlaw23_events.mono _ _ _)
      | (with_reducible exact spinnakerlaw23_told.mono _)
      | (with_reducible exact LeO.refl _)
      | (with_reducible exact LeO.none _)
      | (with_reducible refine LeO.ite ?_ ?_)
      | (with_reducible refine LeO.bind ?_ (fun _ => ?_))
      | exact ih0 _ _ _ _
      | exact ih1 _ _ _ _
      | exact ih2 _ _ _ _ _
      | exact event_All.mono _ _
      | exact event_May.mono _ _ _ _
      | exact event_Put.mono _ _
      | exact spinnakerlaw23_Few.mono _ _ _
      | exact spinnakerlaw23_events.mono _ _ _
      | exact spinnakerlaw23_told.mono _
      | exact LeO.none _
      | refine LeO.ite ?_ ?_
      | refine LeO.bind ?_ (fun _ => ?_)
set_option maxHeartbeats 4000000 in
set_option maxRecDepth 100000 in
theorem spinnakerlaw23_EventBack.calls (k : Nat) (A0 : Option Addr) (c0 : Nat) (l0 : List (S50)) (a1 : Int) (r : Bool) (w : World) (hr0 : Kd.C k50 w A0 l0.length l0) (hc0 : l0.length ≤ c0) (hrt0 : r = true) (h : spinnakerlaw23_EventBack.f k l0 a1 = some r) :
    Calls Try.prog 12 #[.slice A0 l0.length c0, .int .i64 a1] w fun e w' => e = .returned (.bool r) ∧ Below w.heap.size w w' := by
  have hu50 := Try.underlying50
  have HR0 := Aside0.mk hr0
  have HC0 := Aside0.mk hc0
  clear hr0 hc0
  have HB := Aside0.mk (Below.refl w.heap.size w)
  have hrt := Aside0.mk hrt0
  clear hrt0
  have H : ((spinnakerlaw23_Few.f k l0 30).bind fun t362 => (if t362 = true then (spinnakerlaw23_EventBack.l0 k l0 a1 ([] : List (S50)) 0) else ((spinnakerlaw23_told.f k).bind fun t363 => (some t363)))) = some r := h
  clear h
  replace H := Option.bind_eq_some_iff.mp H
  obtain ⟨t362, A30, H⟩ := H
  replace H : (if t362 = true then (spinnakerlaw23_EventBack.l0 k l0 a1 ([] : List (S50)) 0) else ((spinnakerlaw23_told.f k).bind fun t363 => (some t363))) = some r := H
  have A3 := Aside0.mk A30
  clear A30
  by_cases c4 : t362 = true
  · subst c4
    have H1 : (spinnakerlaw23_EventBack.l0 k l0 a1 ([] : List (S50)) 0) = some r := by rw [if_pos rfl] at H; exact H
    clear H
    have H := H1
    clear H1
    have H' := Aside0.mk H
    clear H
    go_enter Try.func12, Try.ntmps12
    go_wp2_with (first | ((with_reducible refine gate_callee (f := 40) rfl ?_); refine goesL_ (some 19) rfl rfl Try.func40 (by kernel_rfl) rfl #[.slice A0 l0.length c0, .int .i64 30] rfl (by (try simp only [List.map_toArray, List.map_cons, List.map_nil]); first | done | rfl | (simp only [List.length_drop, List.length_take]; rfl)) ?_; (with_reducible refine (spinnakerlaw23_Few.calls k _ _ l0 30 true _ ?side1 ?side2 A3.out).mono ?_); (case side1 => repeat (first | exact HR0.out | (with_reducible refine Kd.C_alloc ?_ _) | (with_reducible refine Kd.C_drewN ?_ _) | (with_reducible refine Kd.C_drew ?_))); (case side2 => exact HC0.out); rintro e w' ⟨rfl, ⟨nd, rfl⟩⟩; refine ⟨_, rfl, ?_⟩))
    go_loopg [5, 6] k (fun kq v5 v6 w' => ∃ (x5_1 : List (S50)) (x6_1 : Int), v6 = .int .i64 x6_1 ∧ Aside0 (spinnakerlaw23_EventBack.l0 kq l0 a1 x5_1 x6_1 = some r) ∧ Aside0 (kq ≤ k) ∧ Aside0 (Kd.R k50 50 w' w.heap.size (fun _ => True) v5 x5_1) ∧ Aside0 (Below w.heap.size w w'))
    case atStart => exact ⟨(([] : List (S50))), (0), (by first | rfl | (simp; done) | (simp [isEmpty_bne, isEmpty_beq]; done) | (simp [*]; done)), H', ⟨Nat.le_refl _⟩, ⟨by first | exact Kd.R_nil _ _ _ _ _ | exact Kd.N_nil _ _ _ _ _ | exact Kd.V_nil _ _ _ _ _ | exact Kd.Q_nil _ _ _ _ _ | exact Kd.S_nil _ _ _ _ _⟩, ⟨by repeat (first | (with_reducible first | exact HB.out | apply below_alloc | apply pw_below_drewN | apply below_drew1) | exact HB.out)⟩⟩
    case round =>
      clear H'
      try clear c1
      try clear p2
      try clear c4
      obtain ⟨x5_1, x6_1, rfl, HA, HK1, HO_5, HB⟩ := hrel
      cases gk with
      | zero => exact absurd HA.out (by simp [spinnakerlaw23_EventBack.l0])
      | succ k1 =>
        have H := HA.out
        clear HA
        simp only [spinnakerlaw23_EventBack.l0] at H
        by_cases c5 : x6_1 < (l0.length : Int)
        · rw [if_pos c5] at H
          have c5b0 : decide (x6_1 < (l0.length : Int)) = true := decide_eq_true c5
          clear c5
          by_cases c6 : 0 ≤ x6_1
          · rw [if_pos c6] at H
            have c6b0 : decide (0 ≤ x6_1) = true := decide_eq_true c6
            clear c6
            replace H := Option.bind_eq_some_iff.mp H
            obtain ⟨t365, A70, H⟩ := H
            replace H : (if t365 = true then (if x5_1.length < 4398046511104 then (spinnakerlaw23_EventBack.l0 k1 l0 a1 (x5_1 ++ [(⟨(rd_T50 l0 x6_1).f0, (rd_T50 l0 x6_1).f1, (rd_T50 l0 x6_1).f2⟩ : S50)]) (wrap64 (x6_1 + 1))) else (none)) else (spinnakerlaw23_EventBack.l0 k1 l0 a1 x5_1 (wrap64 (x6_1 + 1)))) = some r := H
            have A7 := Aside0.mk A70
            clear A70
            by_cases c8 : t365 = true
            · subst c8
              have H1 : (if x5_1.length < 4398046511104 then (spinnakerlaw23_EventBack.l0 k1 l0 a1 (x5_1 ++ [(⟨(rd_T50 l0 x6_1).f0, (rd_T50 l0 x6_1).f1, (rd_T50 l0 x6_1).f2⟩ : S50)]) (wrap64 (x6_1 + 1))) else (none)) = some r := by rw [if_pos rfl] at H; exact H
              clear H
              have H := H1
              clear H1
              by_cases c9 : x5_1.length < 4398046511104
              · rw [if_pos c9] at H
                have LMc9 := Aside0.mk c9
                clear c9
                obtain ⟨y367, hy367⟩ : ∃ y_ : List (S50), y_ = (x5_1 ++ [(⟨(rd_T50 l0 x6_1).f0, (rd_T50 l0 x6_1).f1, (rd_T50 l0 x6_1).f2⟩ : S50)]) := ⟨_, rfl⟩
                replace H : (spinnakerlaw23_EventBack.l0 k1 l0 a1 y367 (wrap64 (x6_1 + 1))) = some r := by first | (rw [hy367]; with_reducible exact H) | (have H2_ := (Option.bind_some _ _).symm.trans H; rw [hy367]; with_reducible exact H2_) | (have H2_ := (Option.bind_some _ _).symm.trans H; with_reducible exact H2_) | with_reducible exact H | (rw [hy367]; exact H) | exact H
                have Ny367 := Aside0.mk hy367
                clear hy367
                have H' := Aside0.mk H
                clear H
                have p364 : 0 ≤ (x6_1 : Int) := of_decide_eq_true (by first | (with_reducible assumption) | assumption)
                have q364 : x6_1 < (l0.length : Int) := of_decide_eq_true (by first | (with_reducible assumption) | assumption)
                obtain ⟨ad364, e364, hx364_0, hx364_1, hx364_2⟩ := at_T50 HR0.out x6_1 p364 q364
                cases e364
                replace hx364_0 := (HB.out.cell (World.block_lt_of_cell? w _ hx364_0)).trans hx364_0
                replace hx364_1 := (HB.out.cell (World.block_lt_of_cell? w _ hx364_1)).trans hx364_1
                replace hx364_2 := (HB.out.cell (World.block_lt_of_cell? w _ hx364_2)).trans hx364_2
                replace p364 := eq_true p364
                replace q364 := eq_true q364
                go_wp2_with (first | ((with_reducible refine gate_callee (f := 39) rfl ?_); refine goesL_ (some 32) rfl rfl Try.func39 (by kernel_rfl) rfl #[.agg #[.int .i64 ((rd_T50 l0 x6_1).f0), .int .i64 ((rd_T50 l0 x6_1).f1), .string ((rd_T50 l0 x6_1).f2)]] rfl (by (try simp only [List.map_toArray, List.map_cons, List.map_nil]); first | done | rfl | (simp only [List.length_drop, List.length_take]; rfl)) ?_; (with_reducible refine (event_May.calls k1 ((rd_T50 l0 x6_1).f0) ((rd_T50 l0 x6_1).f1) ((rd_T50 l0 x6_1).f2) true _ A7.out).mono ?_); rintro e w10 ⟨rfl, hb⟩; refine ⟨_, rfl, ?_⟩; have n0_ := Aside0.mk (Kd.R_below (by (with_reducible repeat (first | apply Kd.R_alloc | apply Kd.R_drewN | apply Kd.R_drew)); exact HO_5.out) hb); have n1_ := Aside0.mk (below_step (by repeat (first | (with_reducible first | exact HB.out | apply below_alloc | apply pw_below_drewN | apply below_drew1) | exact HB.out)) hb); clear HO_5; clear HB; have HO_5 := n0_; have HB := n1_; clear n0_ n1_; (try clear hb); (try clear hb2); (try clear hk); (try clear hi); have p366 : 0 ≤ (x6_1 : Int) := of_decide_eq_true (by first | (with_reducible assumption) | assumption); have q366 : x6_1 < (l0.length : Int) := of_decide_eq_true (by first | (with_reducible assumption) | assumption); obtain ⟨ad366, e366, hx366_0, hx366_1, hx366_2⟩ := at_T50 HR0.out x6_1 p366 q366; obtain rfl : ad364 = ad366 := (by injection e366); replace hx366_0 := (HB.out.cell (World.block_lt_of_cell? w _ hx366_0)).trans hx366_0; replace hx366_1 := (HB.out.cell (World.block_lt_of_cell? w _ hx366_1)).trans hx366_1; replace hx366_2 := (HB.out.cell (World.block_lt_of_cell? w _ hx366_2)).trans hx366_2; replace p366 := eq_true p366; replace q366 := eq_true q366) | ((with_reducible refine gate_builtin (b := .append) (xs := #[.tmp 33, .tmp 38]) rfl ?_); (try (refine gate_guard (by rfl) ?_; dsimp only)); at_builtin; refine Kd.R_append k50 (w0 := w) w.heap.size rfl (.tmp 33) (.tmp 38) 54 50 (.agg #[(.int .i64 0), (.int .i64 0), (.string ⟨#[]⟩)]) 32 rfl Try.underlying54 info50 rfl (by decide) (by omega) u5 x5_1 (⟨(rd_T50 l0 x6_1).f0, (rd_T50 l0 x6_1).f1, (rd_T50 l0 x6_1).f2⟩ : S50) [.int .i64 ((rd_T50 l0 x6_1).f0), .int .i64 ((rd_T50 l0 x6_1).f1), .string ((rd_T50 l0 x6_1).f2)] (fun _ => True) (fun _ => False) rfl rfl ?aP (fun _ hk => hk.elim) ?aF ?aO ?aB ?aS ?aL ?_; (case aP => exact k50_mkM _ _ _ (⟨(rd_T50 l0 x6_1).f0, (rd_T50 l0 x6_1).f1, (rd_T50 l0 x6_1).f2⟩ : S50)); (case aB => exact (by repeat (first | (with_reducible first | exact HB.out | apply below_alloc | apply pw_below_drewN | apply below_drew1) | exact HB.out))); (case aF => exact (fun _ _ => trivial)); (case aO => exact (by (with_reducible repeat (first | apply Kd.R_alloc | apply Kd.R_drewN | apply Kd.R_drew)); exact HO_5.out)); (case aS => exact (below_size (by repeat (first | (with_reducible first | exact HB.out | apply below_alloc | apply pw_below_drewN | apply below_drew1) | exact HB.out)))); (case aL => have := LMc9.out; omega); intro v368 w11 ho hb hg hat; rw [← Ny367.out] at ho; have n0_ := Aside0.mk (hb); have n1_ := Aside0.mk (ho); clear HB; clear HO_5; have HB := n0_; have HO369 := n1_; clear n0_ n1_; clear ho hb hg hat))
                go_roundg k1
                case measure => have := HK1.out; omega
                case rel => exact ⟨(y367), (wrap64 (x6_1 + 1)), (by first | rfl | (simp; done) | (simp [isEmpty_bne, isEmpty_beq]; done) | (simp [*]; done)), H', ⟨by have := HK1.out; omega⟩, ⟨by (with_reducible repeat (first | apply Kd.R_alloc | apply Kd.R_drewN | apply Kd.R_drew)); exact HO369.out⟩, ⟨by repeat (first | (with_reducible first | exact HB.out | apply below_alloc | apply pw_below_drewN | apply below_drew1) | exact HB.out)⟩⟩
              · rw [if_neg c9] at H
                exact absurd H (by simp)
            · replace c8 := Bool.eq_false_iff.mpr c8
              subst c8
              have H1 : (spinnakerlaw23_EventBack.l0 k1 l0 a1 x5_1 (wrap64 (x6_1 + 1))) = some r := by rw [if_neg (show ¬ (false = true) by decide)] at H; exact H
              clear H
              have H := H1
              clear H1
              have H' := Aside0.mk H
              clear H
              have p364 : 0 ≤ (x6_1 : Int) := of_decide_eq_true (by first | (with_reducible assumption) | assumption)
              have q364 : x6_1 < (l0.length : Int) := of_decide_eq_true (by first | (with_reducible assumption) | assumption)
              obtain ⟨ad364, e364, hx364_0, hx364_1, hx364_2⟩ := at_T50 HR0.out x6_1 p364 q364
              cases e364
              replace hx364_0 := (HB.out.cell (World.block_lt_of_cell? w _ hx364_0)).trans hx364_0
              replace hx364_1 := (HB.out.cell (World.block_lt_of_cell? w _ hx364_1)).trans hx364_1
              replace hx364_2 := (HB.out.cell (World.block_lt_of_cell? w _ hx364_2)).trans hx364_2
              replace p364 := eq_true p364
              replace q364 := eq_true q364
              go_wp2_with (first | ((with_reducible refine gate_callee (f := 39) rfl ?_); refine goesL_ (some 32) rfl rfl Try.func39 (by kernel_rfl) rfl #[.agg #[.int .i64 ((rd_T50 l0 x6_1).f0), .int .i64 ((rd_T50 l0 x6_1).f1), .string ((rd_T50 l0 x6_1).f2)]] rfl (by (try simp only [List.map_toArray, List.map_cons, List.map_nil]); first | done | rfl | (simp only [List.length_drop, List.length_take]; rfl)) ?_; (with_reducible refine (event_May.calls k1 ((rd_T50 l0 x6_1).f0) ((rd_T50 l0 x6_1).f1) ((rd_T50 l0 x6_1).f2) false _ A7.out).mono ?_); rintro e w12 ⟨rfl, hb⟩; refine ⟨_, rfl, ?_⟩; have n0_ := Aside0.mk (Kd.R_below (by (with_reducible repeat (first | apply Kd.R_alloc | apply Kd.R_drewN | apply Kd.R_drew)); exact HO_5.out) hb); have n1_ := Aside0.mk (below_step (by repeat (first | (with_reducible first | exact HB.out | apply below_alloc | apply pw_below_drewN | apply below_drew1) | exact HB.out)) hb); clear HO_5; clear HB; have HO_5 := n0_; have HB := n1_; clear n0_ n1_; (try clear hb); (try clear hb2); (try clear hk); (try clear hi)))
              go_roundg k1
              case measure => have := HK1.out; omega
              case rel => exact ⟨(x5_1), (wrap64 (x6_1 + 1)), (by first | rfl | (simp; done) | (simp [isEmpty_bne, isEmpty_beq]; done) | (simp [*]; done)), H', ⟨by have := HK1.out; omega⟩, ⟨by (with_reducible repeat (first | apply Kd.R_alloc | apply Kd.R_drewN | apply Kd.R_drew)); exact HO_5.out⟩, ⟨by repeat (first | (with_reducible first | exact HB.out | apply below_alloc | apply pw_below_drewN | apply below_drew1) | exact HB.out)⟩⟩
          · rw [if_neg c6] at H
            exact absurd H (by simp)
        · rw [if_neg c5] at H
          have c5b0 : decide (x6_1 < (l0.length : Int)) = false := decide_eq_false c5
          clear c5
          replace H := Option.bind_eq_some_iff.mp H
          obtain ⟨⟨t370, t371⟩, A130, H⟩ := H
          replace H : ((event_All.f k1 t370).bind fun bt374 => (if t371 = 0 then (if bt374.2.1 = 0 then (if bt374.2.2 = 0 then ((spinnakerlaw23_events.f k1 bt374.1 x5_1).bind fun t379 => (spinnakerlaw23_EventBack.j1 k1 a1 x5_1 t370 (!t379))) else (spinnakerlaw23_EventBack.j1 k1 a1 x5_1 t370 true)) else (spinnakerlaw23_EventBack.j1 k1 a1 x5_1 t370 true)) else (spinnakerlaw23_EventBack.j1 k1 a1 x5_1 t370 true))) = some r := H
          have A13 := Aside0.mk A130
          clear A130
          replace H := Option.bind_eq_some_iff.mp H
          obtain ⟨⟨t374, t375, t376⟩, A140, H⟩ := H
          replace H : (if t371 = 0 then (if t375 = 0 then (if t376 = 0 then ((spinnakerlaw23_events.f k1 t374 x5_1).bind fun t379 => (spinnakerlaw23_EventBack.j1 k1 a1 x5_1 t370 (!t379))) else (spinnakerlaw23_EventBack.j1 k1 a1 x5_1 t370 true)) else (spinnakerlaw23_EventBack.j1 k1 a1 x5_1 t370 true)) else (spinnakerlaw23_EventBack.j1 k1 a1 x5_1 t370 true)) = some r := H
          have A14 := Aside0.mk A140
          clear A140
          have HC15 := Aside0.mk H
          clear H
          obtain ⟨Ao16, co16, eo16⟩ := Kd.R_slice HO_5.out
          subst eo16
          go_upto_region 11 with (first | ((with_reducible refine gate_callee (f := 37) rfl ?_); refine goesL_ (some 42) rfl rfl Try.func37 (by kernel_rfl) rfl #[.slice Ao16 x5_1.length co16] rfl (by (try simp only [List.map_toArray, List.map_cons, List.map_nil]); first | done | rfl | (simp only [List.length_drop, List.length_take]; rfl)) ?_; (with_reducible refine (event_Put.calls k1 _ _ x5_1 t370 t371 _ ?side1 ?side2 A13.out).mono ?_); (case side1 => repeat (first | exact (Kd.R_reads' HO_5.out).2.2 | (with_reducible refine Kd.C_alloc ?_ _) | (with_reducible refine Kd.C_drewN ?_ _) | (with_reducible refine Kd.C_drew ?_))); (case side2 => exact (Kd.R_reads' HO_5.out).2.1); rintro e w17 ⟨v372, rfl, ho0, hb⟩; refine ⟨_, rfl, ?_⟩; have n0_ := Aside0.mk (Kd.R_below (by (with_reducible repeat (first | apply Kd.R_alloc | apply Kd.R_drewN | apply Kd.R_drew)); exact HO_5.out) hb); have n1_ := Aside0.mk (Kd.R_lower ho0 (below_size (by repeat (first | (with_reducible first | exact HB.out | apply below_alloc | apply pw_below_drewN | apply below_drew1) | exact HB.out)))); have n2_ := Aside0.mk (below_step (by repeat (first | (with_reducible first | exact HB.out | apply below_alloc | apply pw_below_drewN | apply below_drew1) | exact HB.out)) hb); clear HO_5; clear HB; have HO_5 := n0_; have HO373 := n1_; have HB := n2_; clear n0_ n1_ n2_; (try clear hb); (try clear hb2); (try clear hk); (try clear hi); (try clear ho0); obtain ⟨Ao18, co18, eo18⟩ := Kd.R_slice HO373.out; subst eo18) | ((with_reducible refine gate_callee (f := 43) rfl ?_); refine goesL_ (some 47) rfl rfl Try.func43 (by kernel_rfl) rfl #[.slice Ao18 t370.length co18] rfl (by (try simp only [List.map_toArray, List.map_cons, List.map_nil]); first | done | rfl | (simp only [List.length_drop, List.length_take]; rfl)) ?_; (with_reducible refine (event_All.calls k1 _ _ t370 t374 t375 t376 _ ?side1 ?side2 A14.out).mono ?_); (case side1 => repeat (first | exact (Kd.R_reads' HO373.out).2.2 | (with_reducible refine Kd.C_alloc ?_ _) | (with_reducible refine Kd.C_drewN ?_ _) | (with_reducible refine Kd.C_drew ?_))); (case side2 => exact (Kd.R_reads' HO373.out).2.1); rintro e w19 ⟨v377, rfl, ho0, hb⟩; refine ⟨_, rfl, ?_⟩; have n0_ := Aside0.mk (Kd.R_elder' (by (with_reducible repeat (first | apply Kd.R_alloc | apply Kd.R_drewN | apply Kd.R_drew)); exact HO_5.out) (Kd.R_base ho0) hb); have n1_ := Aside0.mk (Kd.R_below (by (with_reducible repeat (first | apply Kd.R_alloc | apply Kd.R_drewN | apply Kd.R_drew)); exact HO373.out) hb); have n2_ := Aside0.mk (Kd.R_lower (Kd.R_new' ho0 (Kd.R_lt (by (with_reducible repeat (first | apply Kd.R_alloc | apply Kd.R_drewN | apply Kd.R_drew)); exact HO_5.out))) (below_size (by repeat (first | (with_reducible first | exact HB.out | apply below_alloc | apply pw_below_drewN | apply below_drew1) | exact HB.out)))); have n3_ := Aside0.mk (below_step (by repeat (first | (with_reducible first | exact HB.out | apply below_alloc | apply pw_below_drewN | apply below_drew1) | exact HB.out)) hb); clear HO_5; clear HO373; clear HB; have HO_5 := n0_; have HO373 := n1_; have HO378 := n2_; have HB := n3_; clear n0_ n1_ n2_ n3_; (try clear hb); (try clear hb2); (try clear hk); (try clear hi); (try clear ho0)))
          (try simp only [Act.put, List.setIfInBounds_toArray, List.set_cons_zero, List.set_cons_succ])
          go_cut [66] (fun v66 wc => ∃ (kq : Nat) (x66_14 : Bool), v66 = .bool x66_14 ∧ Aside0 (spinnakerlaw23_EventBack.j1 kq a1 x5_1 t370 x66_14 = some r) ∧ Aside0 (kq ≤ k1) ∧ Aside0 (Kd.R k50 50 wc w.heap.size (fun _ => True) (.slice Ao16 x5_1.length co16) x5_1) ∧ Aside0 (Kd.R (Kd.int .u8) 5 wc w.heap.size (fun _ => True) (.slice Ao18 t370.length co18) t370) ∧ Aside0 (Below w.heap.size w wc))
          case first =>
            have H := HC15.out
            clear HC15
            by_cases c20 : t371 = 0
            · rw [if_pos c20] at H
              have c20b0 : (t371 == 0) = true := beq_iff_eq.mpr c20
              have c20b1 : (t371 != 0) = false := bne_eq_false_iff_eq.mpr c20
              clear c20
              (first | rw [c20b0] | (simp only [i64_w, i32_w]; rw [c20b0]) | skip)
              by_cases c21 : t375 = 0
              · rw [if_pos c21] at H
                have c21b0 : (t375 == 0) = true := beq_iff_eq.mpr c21
                have c21b1 : (t375 != 0) = false := bne_eq_false_iff_eq.mpr c21
                clear c21
                by_cases c22 : t376 = 0
                · rw [if_pos c22] at H
                  have c22b0 : (t376 == 0) = true := beq_iff_eq.mpr c22
                  have c22b1 : (t376 != 0) = false := bne_eq_false_iff_eq.mpr c22
                  clear c22
                  replace H := Option.bind_eq_some_iff.mp H
                  obtain ⟨t379, A230, H⟩ := H
                  replace H : (spinnakerlaw23_EventBack.j1 k1 a1 x5_1 t370 (!t379)) = some r := H
                  have A23 := Aside0.mk A230
                  clear A230
                  have H' := Aside0.mk H
                  clear H
                  obtain ⟨Ao24, co24, eo24⟩ := Kd.R_slice HO378.out
                  subst eo24
                  go_wp2_with (first | (go_at_call 45; (with_reducible refine (spinnakerlaw23_events.calls k1 _ _ t374 _ _ x5_1 t379 _ ?side1 ?side2 ?side3 ?side4 A23.out).mono ?_); (case side1 => repeat (first | exact (Kd.R_reads' HO378.out).2.2 | (with_reducible refine Kd.C_alloc ?_ _) | (with_reducible refine Kd.C_drewN ?_ _) | (with_reducible refine Kd.C_drew ?_))); (case side2 => exact (Kd.R_reads' HO378.out).2.1); (case side3 => repeat (first | exact (Kd.R_reads' HO_5.out).2.2 | (with_reducible refine Kd.C_alloc ?_ _) | (with_reducible refine Kd.C_drewN ?_ _) | (with_reducible refine Kd.C_drew ?_))); (case side4 => exact (Kd.R_reads' HO_5.out).2.1); rintro e w' ⟨rfl, ⟨nd, rfl⟩⟩))
                  go_meet
                  case rel => exact ⟨_, (!t379), (by first | rfl | (simp; done) | (simp [isEmpty_bne, isEmpty_beq]; done) | (simp [*]; done)), H', ⟨by have := HK1.out; first | omega | exact Nat.le_refl _⟩, ⟨by (with_reducible repeat (first | apply Kd.R_alloc | apply Kd.R_drewN | apply Kd.R_drew)); exact Kd.R_mono HO_5.out (fun _ hk => trivial)⟩, ⟨by (with_reducible repeat (first | apply Kd.R_alloc | apply Kd.R_drewN | apply Kd.R_drew)); exact HO373.out⟩, ⟨by repeat (first | (with_reducible first | exact HB.out | apply below_alloc | apply pw_below_drewN | apply below_drew1) | exact HB.out)⟩⟩
                · rw [if_neg c22] at H
                  have c22b0 : (t376 == 0) = false := beq_eq_false_iff_ne.mpr c22
                  have c22b1 : (t376 != 0) = true := bne_iff_ne.mpr c22
                  have H' := Aside0.mk H
                  clear H
                  go_wp2
                  go_meet
                  case rel => exact ⟨_, (true), (by first | rfl | (simp; done) | (simp [isEmpty_bne, isEmpty_beq]; done) | (simp [*]; done)), H', ⟨by have := HK1.out; first | omega | exact Nat.le_refl _⟩, ⟨by (with_reducible repeat (first | apply Kd.R_alloc | apply Kd.R_drewN | apply Kd.R_drew)); exact Kd.R_mono HO_5.out (fun _ hk => trivial)⟩, ⟨by (with_reducible repeat (first | apply Kd.R_alloc | apply Kd.R_drewN | apply Kd.R_drew)); exact HO373.out⟩, ⟨by repeat (first | (with_reducible first | exact HB.out | apply below_alloc | apply pw_below_drewN | apply below_drew1) | exact HB.out)⟩⟩
              · rw [if_neg c21] at H
                have c21b0 : (t375 == 0) = false := beq_eq_false_iff_ne.mpr c21
                have c21b1 : (t375 != 0) = true := bne_iff_ne.mpr c21
                have H' := Aside0.mk H
                clear H
                go_wp2
                go_meet
                case rel => exact ⟨_, (true), (by first | rfl | (simp; done) | (simp [isEmpty_bne, isEmpty_beq]; done) | (simp [*]; done)), H', ⟨by have := HK1.out; first | omega | exact Nat.le_refl _⟩, ⟨by (with_reducible repeat (first | apply Kd.R_alloc | apply Kd.R_drewN | apply Kd.R_drew)); exact Kd.R_mono HO_5.out (fun _ hk => trivial)⟩, ⟨by (with_reducible repeat (first | apply Kd.R_alloc | apply Kd.R_drewN | apply Kd.R_drew)); exact HO373.out⟩, ⟨by repeat (first | (with_reducible first | exact HB.out | apply below_alloc | apply pw_below_drewN | apply below_drew1) | exact HB.out)⟩⟩
            · rw [if_neg c20] at H
              have c20b0 : (t371 == 0) = false := beq_eq_false_iff_ne.mpr c20
              have c20b1 : (t371 != 0) = true := bne_iff_ne.mpr c20
              (first | rw [c20b0] | (simp only [i64_w, i32_w]; rw [c20b0]) | skip)
              have H' := Aside0.mk H
              clear H
              go_wp2
              go_meet
              case rel => exact ⟨_, (true), (by first | rfl | (simp; done) | (simp [isEmpty_bne, isEmpty_beq]; done) | (simp [*]; done)), H', ⟨by have := HK1.out; first | omega | exact Nat.le_refl _⟩, ⟨by (with_reducible repeat (first | apply Kd.R_alloc | apply Kd.R_drewN | apply Kd.R_drew)); exact Kd.R_mono HO_5.out (fun _ hk => trivial)⟩, ⟨by (with_reducible repeat (first | apply Kd.R_alloc | apply Kd.R_drewN | apply Kd.R_drew)); exact HO373.out⟩, ⟨by repeat (first | (with_reducible first | exact HB.out | apply below_alloc | apply pw_below_drewN | apply below_drew1) | exact HB.out)⟩⟩
          case rest =>
            clear HC15
            try clear c1
            try clear c2
            try clear p2
            try clear c3
            try clear p3
            try clear q3
            try clear hx3
            try clear c4
            try clear c5
            try clear c5b0
            try clear c6
            try clear c6b0
            try clear p6
            try clear c8
            try clear c9
            try clear c12
            try clear c20
            try clear c20b0
            try clear c20b1
            try clear c21
            try clear c21b0
            try clear c21b1
            try clear c22
            try clear c22b0
            try clear c22b1
            try clear hx364_0
            try clear hx364_1
            try clear hx364_2
            try clear hx366_0
            try clear hx366_1
            try clear hx366_2
            try clear p2
            try clear p364
            try clear p366
            try clear q364
            try clear q366
            obtain ⟨kq, x66_14, rfl, HA, HJ14, HO_5, HO_7, HB⟩ := hcut
            cases kq with
            | zero => exact absurd HA.out (by simp [spinnakerlaw23_EventBack.j1])
            | succ kj14 =>
              have H := HA.out
              clear HA
              simp only [spinnakerlaw23_EventBack.j1] at H
              by_cases c25 : x66_14 = true
              · subst c25
                have H1 : (some false) = some r := by rw [if_pos rfl] at H; exact H
                clear H
                have H := H1
                clear H1
                rw [hrt.out] at H
                exact absurd H (by simp)
              · replace c25 := Bool.eq_false_iff.mpr c25
                subst c25
                have H1 : (if (IntKind.u64.wrap (wrap64 ((t370.length : Int) + 1))) = 0 then (none) else (if 0 ≤ (wrap64 (Int.tmod (IntKind.u64.wrap (a1)) (IntKind.u64.wrap (wrap64 ((t370.length : Int) + 1))))) then (if (wrap64 (Int.tmod (IntKind.u64.wrap (a1)) (IntKind.u64.wrap (wrap64 ((t370.length : Int) + 1))))) ≤ (t370.length : Int) then ((event_All.f kj14 (t370.take ((wrap64 (Int.tmod (IntKind.u64.wrap (a1)) (IntKind.u64.wrap (wrap64 ((t370.length : Int) + 1))))) : Int).toNat)).bind fun bt384 => (if (bt384.1.length : Int) > (x5_1.length : Int) then (spinnakerlaw23_EventBack.j2 kj14 (wrap64 (Int.tmod (IntKind.u64.wrap (a1)) (IntKind.u64.wrap (wrap64 ((t370.length : Int) + 1))))) bt384.1 bt384.2.1 bt384.2.2 true) else (if 0 ≤ (bt384.1.length : Int) then (if (bt384.1.length : Int) ≤ (x5_1.length : Int) then ((spinnakerlaw23_events.f kj14 bt384.1 (x5_1.take ((bt384.1.length : Int) : Int).toNat)).bind fun t393 => (spinnakerlaw23_EventBack.j2 kj14 (wrap64 (Int.tmod (IntKind.u64.wrap (a1)) (IntKind.u64.wrap (wrap64 ((t370.length : Int) + 1))))) bt384.1 bt384.2.1 bt384.2.2 (!t393))) else (none)) else (none)))) else (none)) else (none))) = some r := by rw [if_neg (show ¬ (false = true) by decide)] at H; exact H
                clear H
                have H := H1
                clear H1
                by_cases c26 : (IntKind.u64.wrap (wrap64 ((t370.length : Int) + 1))) = 0
                · rw [if_pos c26] at H
                  exact absurd H (by simp)
                · rw [if_neg c26] at H
                  have c26b0 : ((IntKind.u64.wrap (wrap64 ((t370.length : Int) + 1))) == 0) = false := beq_eq_false_iff_ne.mpr c26
                  have c26b1 : ((IntKind.u64.wrap (wrap64 ((t370.length : Int) + 1))) != 0) = true := bne_iff_ne.mpr c26
                  obtain ⟨ji27, hji27⟩ : ∃ j_ : Int, (wrap64 (Int.tmod (IntKind.u64.wrap (a1)) (IntKind.u64.wrap (wrap64 ((t370.length : Int) + 1))))) = j_ := ⟨_, rfl⟩
                  replace H : (if 0 ≤ (ji27) then (if (ji27) ≤ (t370.length : Int) then ((event_All.f kj14 (t370.take ((ji27) : Int).toNat)).bind fun bt384 => (if (bt384.1.length : Int) > (x5_1.length : Int) then (spinnakerlaw23_EventBack.j2 kj14 ji27 bt384.1 bt384.2.1 bt384.2.2 true) else (if 0 ≤ (bt384.1.length : Int) then (if (bt384.1.length : Int) ≤ (x5_1.length : Int) then ((spinnakerlaw23_events.f kj14 bt384.1 (x5_1.take ((bt384.1.length : Int) : Int).toNat)).bind fun t393 => (spinnakerlaw23_EventBack.j2 kj14 ji27 bt384.1 bt384.2.1 bt384.2.2 (!t393))) else (none)) else (none)))) else (none)) else (none)) = some r := by first | (rw [hji27] at H; exact H) | (simp only [hji27] at H ⊢; exact H)
                  have hji27w : (IntKind.i64.wrap (Int.tmod (IntKind.u64.wrap (a1)) (IntKind.u64.wrap (wrap64 ((t370.length : Int) + 1))))) = ji27 := (i64_w _).trans hji27
                  by_cases c28 : 0 ≤ (ji27)
                  · rw [if_pos c28] at H
                    have c28b0 := eq_true c28
                    have c28b1 : decide (0 ≤ (ji27)) = true := decide_eq_true c28
                    clear c28
                    by_cases c29 : (ji27) ≤ (t370.length : Int)
                    · rw [if_pos c29] at H
                      have c29b0 := eq_true c29
                      have c29b1 : decide ((ji27) ≤ (t370.length : Int)) = true := decide_eq_true c29
                      clear c29
                      obtain ⟨y380, hy380⟩ : ∃ y_ : List Int, y_ = (t370.take ((ji27) : Int).toNat) := ⟨_, rfl⟩
                      replace H : ((event_All.f kj14 y380).bind fun bt384 => (if (bt384.1.length : Int) > (x5_1.length : Int) then (spinnakerlaw23_EventBack.j2 kj14 ji27 bt384.1 bt384.2.1 bt384.2.2 true) else (if 0 ≤ (bt384.1.length : Int) then (if (bt384.1.length : Int) ≤ (x5_1.length : Int) then ((spinnakerlaw23_events.f kj14 bt384.1 (x5_1.take ((bt384.1.length : Int) : Int).toNat)).bind fun t393 => (spinnakerlaw23_EventBack.j2 kj14 ji27 bt384.1 bt384.2.1 bt384.2.2 (!t393))) else (none)) else (none)))) = some r := by first | (rw [hy380]; with_reducible exact H) | (have H2_ := (Option.bind_some _ _).symm.trans H; rw [hy380]; with_reducible exact H2_) | (have H2_ := (Option.bind_some _ _).symm.trans H; with_reducible exact H2_) | with_reducible exact H | (rw [hy380]; exact H) | exact H
                      have Ny380 := Aside0.mk hy380
                      clear hy380
                      replace H := Option.bind_eq_some_iff.mp H
                      obtain ⟨⟨t384, t385, t386⟩, A300, H⟩ := H
                      replace H : (if (t384.length : Int) > (x5_1.length : Int) then (spinnakerlaw23_EventBack.j2 kj14 ji27 t384 t385 t386 true) else (if 0 ≤ (t384.length : Int) then (if (t384.length : Int) ≤ (x5_1.length : Int) then ((spinnakerlaw23_events.f kj14 t384 (x5_1.take ((t384.length : Int) : Int).toNat)).bind fun t393 => (spinnakerlaw23_EventBack.j2 kj14 ji27 t384 t385 t386 (!t393))) else (none)) else (none))) = some r := H
                      have A30 := Aside0.mk A300
                      clear A300
                      have HC31 := Aside0.mk H
                      clear H
                      have q32 : ((ji27) : Int) ≤ ((t370.length : Int) : Int) := of_decide_eq_true (by first | (with_reducible assumption) | assumption)
                      obtain ⟨i032, hi032, _, hsz32, _⟩ := info_parts info5
                      have hroom32 : t370.length ≤ co18 := (Kd.R_reads' HO_7.out).2.1
                      have hC32 : Kd.C (Kd.int .u8) _ Ao18 t370.length t370 := (Kd.R_reads' HO_7.out).2.2
                      have hcut32 := cut_to (P := Try.prog) 51 5 .i64 Try.underlying51 hi032 Ao18 t370.length co18 (ji27) (of_decide_eq_true (by first | (with_reducible assumption) | assumption)) q32 hroom32
                      have hr32 := Kd.C_take (m := ((ji27) : Int).toNat) hC32 (by omega)
                      have hy32 : y380.length = ((ji27) : Int).toNat := (by rw [Ny380.out, List.length_take]; omega)
                      rw [← Ny380.out] at hr32
                      rw [← hy32] at hcut32
                      have HR383 := Aside0.mk hr32
                      have HC383 := Aside0.mk (show y380.length ≤ co18 from by omega)
                      clear hr32 hC32 hroom32 hi032 hsz32
                      have KY32 := Aside0.mk hy32
                      clear hy32
                      have KL32 := Aside0.mk (show ((ji27) : Int).toNat ≤ t370.length from by omega)
                      replace q32 := eq_true q32
                      go_upto_region 15 with (first | ((with_reducible refine gate_callee (f := 43) rfl ?_); refine goesL_ (some 79) rfl rfl Try.func43 (by kernel_rfl) rfl #[.slice Ao18 y380.length co18] rfl (by (try simp only [List.map_toArray, List.map_cons, List.map_nil]); first | done | rfl | (simp only [List.length_drop, List.length_take]; rfl)) ?_; (with_reducible refine (event_All.calls kj14 _ _ y380 t384 t385 t386 _ ?side1 ?side2 A30.out).mono ?_); (case side1 => repeat (first | exact (by repeat (first | (with_reducible exact HR383.out) | (with_reducible refine Kd.C_alloc ?_ _) | (with_reducible refine Kd.C_drewN ?_ _) | (with_reducible refine Kd.C_drew ?_) | exact HR383.out)) | (with_reducible refine Kd.C_alloc ?_ _) | (with_reducible refine Kd.C_drewN ?_ _) | (with_reducible refine Kd.C_drew ?_))); (case side2 => exact HC383.out); rintro e w33 ⟨v387, rfl, ho0, hb⟩; refine ⟨_, rfl, ?_⟩; have n0_ := Aside0.mk (Kd.R_elder' (by (with_reducible repeat (first | apply Kd.R_alloc | apply Kd.R_drewN | apply Kd.R_drew)); exact HO_5.out) (Kd.R_base ho0) hb); have n1_ := Aside0.mk (Kd.R_below (by (with_reducible repeat (first | apply Kd.R_alloc | apply Kd.R_drewN | apply Kd.R_drew)); exact HO_7.out) hb); have n2_ := Aside0.mk (Kd.R_lower (Kd.R_new' ho0 (Kd.R_lt (by (with_reducible repeat (first | apply Kd.R_alloc | apply Kd.R_drewN | apply Kd.R_drew)); exact HO_5.out))) (below_size (by repeat (first | (with_reducible first | exact HB.out | apply below_alloc | apply pw_below_drewN | apply below_drew1) | exact HB.out)))); have n3_ := Aside0.mk (Kd.C_below (by repeat (first | (with_reducible exact HR383.out) | (with_reducible refine Kd.C_alloc ?_ _) | (with_reducible refine Kd.C_drewN ?_ _) | (with_reducible refine Kd.C_drew ?_) | exact HR383.out)) hb); have n4_ := Aside0.mk (below_step (by repeat (first | (with_reducible first | exact HB.out | apply below_alloc | apply pw_below_drewN | apply below_drew1) | exact HB.out)) hb); clear HO_5; clear HO_7; clear HR383; clear HB; have HO_5 := n0_; have HO_7 := n1_; have HO388 := n2_; have HR383 := n3_; have HB := n4_; clear n0_ n1_ n2_ n3_ n4_; (try clear hb); (try clear hb2); (try clear hk); (try clear hi); (try clear ho0)))
                      (try simp only [Act.put, List.setIfInBounds_toArray, List.set_cons_zero, List.set_cons_succ])
                      go_cut [96] (fun v96 wc => ∃ (kq : Nat) (x96_30 : Bool), v96 = .bool x96_30 ∧ Aside0 (spinnakerlaw23_EventBack.j2 kq ji27 t384 t385 t386 x96_30 = some r) ∧ Aside0 (kq ≤ kj14) ∧ Aside0 (Kd.R k50 50 wc w.heap.size (fun _ => True) v387 t384) ∧ Aside0 (Kd.C (Kd.int .u8) wc Ao18 y380.length y380) ∧ Aside0 (Below w.heap.size w wc))
                      case first =>
                        have H := HC31.out
                        clear HC31
                        by_cases c34 : (t384.length : Int) > (x5_1.length : Int)
                        · rw [if_pos c34] at H
                          have c34b0 : decide ((x5_1.length : Int) < (t384.length : Int)) = true := decide_eq_true c34
                          have c34b1 : decide (x5_1.length < t384.length) = true := decide_eq_true (Int.ofNat_lt.mp c34)
                          clear c34
                          (first | rw [c34b0] | (simp only [i64_w, i32_w]; rw [c34b0]) | skip)
                          have H' := Aside0.mk H
                          clear H
                          obtain ⟨Ao35, co35, eo35⟩ := Kd.R_slice HO388.out
                          subst eo35
                          go_wp2
                          go_meet
                          case rel => exact ⟨_, (true), (by first | rfl | (simp; done) | (simp [isEmpty_bne, isEmpty_beq]; done) | (simp [*]; done)), H', ⟨by have := HK1.out; have := HJ14.out; first | omega | exact Nat.le_refl _⟩, ⟨by (with_reducible repeat (first | apply Kd.R_alloc | apply Kd.R_drewN | apply Kd.R_drew)); exact Kd.R_mono HO388.out (fun _ hk => trivial)⟩, ⟨by repeat (first | (with_reducible exact HR383.out) | (with_reducible refine Kd.C_alloc ?_ _) | (with_reducible refine Kd.C_drewN ?_ _) | (with_reducible refine Kd.C_drew ?_) | exact HR383.out)⟩, ⟨by repeat (first | (with_reducible first | exact HB.out | apply below_alloc | apply pw_below_drewN | apply below_drew1) | exact HB.out)⟩⟩
                        · rw [if_neg c34] at H
                          have c34b0 : decide ((x5_1.length : Int) < (t384.length : Int)) = false := decide_eq_false c34
                          have c34b1 : decide (x5_1.length < t384.length) = false := decide_eq_false (fun h => c34 (Int.ofNat_lt.mpr h))
                          clear c34
                          (first | rw [c34b0] | (simp only [i64_w, i32_w]; rw [c34b0]) | skip)
                          by_cases c36 : 0 ≤ (t384.length : Int)
                          · rw [if_pos c36] at H
                            have c36b0 := eq_true c36
                            have c36b1 : decide (0 ≤ (t384.length : Int)) = true := decide_eq_true c36
                            clear c36
                            by_cases c37 : (t384.length : Int) ≤ (x5_1.length : Int)
                            · rw [if_pos c37] at H
                              have c37b0 := eq_true c37
                              have c37b1 : decide ((t384.length : Int) ≤ (x5_1.length : Int)) = true := decide_eq_true c37
                              clear c37
                              obtain ⟨y389, hy389⟩ : ∃ y_ : List (S50), y_ = (x5_1.take ((t384.length : Int) : Int).toNat) := ⟨_, rfl⟩
                              replace H : ((spinnakerlaw23_events.f kj14 t384 y389).bind fun t393 => (spinnakerlaw23_EventBack.j2 kj14 ji27 t384 t385 t386 (!t393))) = some r := by first | (rw [hy389]; with_reducible exact H) | (have H2_ := (Option.bind_some _ _).symm.trans H; rw [hy389]; with_reducible exact H2_) | (have H2_ := (Option.bind_some _ _).symm.trans H; with_reducible exact H2_) | with_reducible exact H | (rw [hy389]; exact H) | exact H
                              have Ny389 := Aside0.mk hy389
                              clear hy389
                              replace H := Option.bind_eq_some_iff.mp H
                              obtain ⟨t393, A380, H⟩ := H
                              replace H : (spinnakerlaw23_EventBack.j2 kj14 ji27 t384 t385 t386 (!t393)) = some r := H
                              have A38 := Aside0.mk A380
                              clear A380
                              have H' := Aside0.mk H
                              clear H
                              obtain ⟨Ao39, co39, eo39⟩ := Kd.R_slice HO388.out
                              subst eo39
                              have q40 : ((t384.length : Int) : Int) ≤ ((x5_1.length : Int) : Int) := of_decide_eq_true (by first | (with_reducible assumption) | assumption)
                              obtain ⟨i040, hi040, _, hsz40, _⟩ := info_parts info50
                              have hroom40 : x5_1.length ≤ co16 := (Kd.R_reads' HO_5.out).2.1
                              have hC40 : Kd.C k50 _ Ao16 x5_1.length x5_1 := (Kd.R_reads' HO_5.out).2.2
                              have hcut40 := cut_to (P := Try.prog) 54 50 .i64 Try.underlying54 hi040 Ao16 x5_1.length co16 (t384.length : Int) (of_decide_eq_true (by first | (with_reducible assumption) | assumption)) q40 hroom40
                              have hr40 := Kd.C_take (m := ((t384.length : Int) : Int).toNat) hC40 (by omega)
                              have hy40 : y389.length = ((t384.length : Int) : Int).toNat := (by rw [Ny389.out, List.length_take]; omega)
                              rw [← Ny389.out] at hr40
                              rw [← hy40] at hcut40
                              have HR392 := Aside0.mk hr40
                              have HC392 := Aside0.mk (show y389.length ≤ co16 from by omega)
                              clear hr40 hC40 hroom40 hi040 hsz40
                              have KY40 := Aside0.mk hy40
                              clear hy40
                              have KL40 := Aside0.mk (show ((t384.length : Int) : Int).toNat ≤ x5_1.length from by omega)
                              replace q40 := eq_true q40
                              go_wp2_with (first | (go_at_call 45; (with_reducible refine (spinnakerlaw23_events.calls kj14 _ _ t384 _ _ y389 t393 _ ?side1 ?side2 ?side3 ?side4 A38.out).mono ?_); (case side1 => repeat (first | exact (Kd.R_reads' HO388.out).2.2 | (with_reducible refine Kd.C_alloc ?_ _) | (with_reducible refine Kd.C_drewN ?_ _) | (with_reducible refine Kd.C_drew ?_))); (case side2 => exact (Kd.R_reads' HO388.out).2.1); (case side3 => repeat (first | exact (by repeat (first | (with_reducible exact HR392.out) | (with_reducible refine Kd.C_alloc ?_ _) | (with_reducible refine Kd.C_drewN ?_ _) | (with_reducible refine Kd.C_drew ?_) | exact HR392.out)) | (with_reducible refine Kd.C_alloc ?_ _) | (with_reducible refine Kd.C_drewN ?_ _) | (with_reducible refine Kd.C_drew ?_))); (case side4 => exact HC392.out); rintro e w' ⟨rfl, ⟨nd, rfl⟩⟩))
                              go_meet
                              case rel => exact ⟨_, (!t393), (by first | rfl | (simp; done) | (simp [isEmpty_bne, isEmpty_beq]; done) | (simp [*]; done)), H', ⟨by have := HK1.out; have := HJ14.out; first | omega | exact Nat.le_refl _⟩, ⟨by (with_reducible repeat (first | apply Kd.R_alloc | apply Kd.R_drewN | apply Kd.R_drew)); exact Kd.R_mono HO388.out (fun _ hk => trivial)⟩, ⟨by repeat (first | (with_reducible exact HR383.out) | (with_reducible refine Kd.C_alloc ?_ _) | (with_reducible refine Kd.C_drewN ?_ _) | (with_reducible refine Kd.C_drew ?_) | exact HR383.out)⟩, ⟨by repeat (first | (with_reducible first | exact HB.out | apply below_alloc | apply pw_below_drewN | apply below_drew1) | exact HB.out)⟩⟩
                            · rw [if_neg c37] at H
                              exact absurd H (by simp)
                          · rw [if_neg c36] at H
                            exact absurd H (by simp)
                      case rest =>
                        clear HC31
                        try clear c1
                        try clear c2
                        try clear p2
                        try clear c3
                        try clear p3
                        try clear q3
                        try clear hx3
                        try clear c4
                        try clear q4
                        try clear c5
                        try clear c5b0
                        try clear c6
                        try clear c6b0
                        try clear p6
                        try clear c8
                        try clear c9
                        try clear c12
                        try clear c20
                        try clear c20b0
                        try clear c20b1
                        try clear c21
                        try clear c21b0
                        try clear c21b1
                        try clear c22
                        try clear c22b0
                        try clear c22b1
                        try clear c25
                        try clear c26
                        try clear c26b0
                        try clear c26b1
                        try clear c28
                        try clear c28b0
                        try clear c28b1
                        try clear c29
                        try clear c29b0
                        try clear c29b1
                        try clear q32
                        try clear c34
                        try clear c34b0
                        try clear c34b1
                        try clear c36
                        try clear c36b0
                        try clear c36b1
                        try clear p36
                        try clear q36
                        try clear hx36
                        try clear c37
                        try clear c37b0
                        try clear c37b1
                        try clear c39
                        try clear c40
                        try clear q40
                        try clear hx364_0
                        try clear hx364_1
                        try clear hx364_2
                        try clear hx366_0
                        try clear hx366_1
                        try clear hx366_2
                        try clear p2
                        try clear p3
                        try clear p364
                        try clear p366
                        try clear p6
                        try clear q3
                        try clear q32
                        try clear q364
                        try clear q366
                        try clear q40
                        obtain ⟨kq, x96_30, rfl, HA, HJ30, HO_13, HR383, HB⟩ := hcut
                        cases kq with
                        | zero => exact absurd HA.out (by simp [spinnakerlaw23_EventBack.j2])
                        | succ kj30 =>
                          have H := HA.out
                          clear HA
                          simp only [spinnakerlaw23_EventBack.j2] at H
                          by_cases c41 : x96_30 = true
                          · subst c41
                            have H1 : (some false) = some r := by rw [if_pos rfl] at H; exact H
                            clear H
                            have H := H1
                            clear H1
                            rw [hrt.out] at H
                            exact absurd H (by simp)
                          · replace c41 := Bool.eq_false_iff.mpr c41
                            subst c41
                            have H1 : ((event_Put.f kj30 t384).bind fun bt394 => ((spinnakerlaw23_told.f kj30).bind fun t398 => (if t398 = true then (if bt394.2 = 0 then (if t385 = 0 then (if (bt394.1.length : Int) = ji27 then (if t386 = 0 then (some true) else (if t385 = 4 then (if (bt394.1.length : Int) = t386 then (some (decide (t386 < ji27))) else (some false)) else (some false))) else (if t385 = 4 then (if (bt394.1.length : Int) = t386 then (some (decide (t386 < ji27))) else (some false)) else (some false))) else (if t385 = 4 then (if (bt394.1.length : Int) = t386 then (some (decide (t386 < ji27))) else (some false)) else (some false))) else (some false)) else (some false)))) = some r := by rw [if_neg (show ¬ (false = true) by decide)] at H; exact H
                            clear H
                            have H := H1
                            clear H1
                            replace H := Option.bind_eq_some_iff.mp H
                            obtain ⟨⟨t394, t395⟩, A420, H⟩ := H
                            replace H : ((spinnakerlaw23_told.f kj30).bind fun t398 => (if t398 = true then (if t395 = 0 then (if t385 = 0 then (if (t394.length : Int) = ji27 then (if t386 = 0 then (some true) else (if t385 = 4 then (if (t394.length : Int) = t386 then (some (decide (t386 < ji27))) else (some false)) else (some false))) else (if t385 = 4 then (if (t394.length : Int) = t386 then (some (decide (t386 < ji27))) else (some false)) else (some false))) else (if t385 = 4 then (if (t394.length : Int) = t386 then (some (decide (t386 < ji27))) else (some false)) else (some false))) else (some false)) else (some false))) = some r := H
                            have A42 := Aside0.mk A420
                            clear A420
                            replace H := Option.bind_eq_some_iff.mp H
                            obtain ⟨t398, A430, H⟩ := H
                            replace H : (if t398 = true then (if t395 = 0 then (if t385 = 0 then (if (t394.length : Int) = ji27 then (if t386 = 0 then (some true) else (if t385 = 4 then (if (t394.length : Int) = t386 then (some (decide (t386 < ji27))) else (some false)) else (some false))) else (if t385 = 4 then (if (t394.length : Int) = t386 then (some (decide (t386 < ji27))) else (some false)) else (some false))) else (if t385 = 4 then (if (t394.length : Int) = t386 then (some (decide (t386 < ji27))) else (some false)) else (some false))) else (some false)) else (some false)) = some r := H
                            have A43 := Aside0.mk A430
                            clear A430
                            by_cases c44 : t398 = true
                            · subst c44
                              have H1 : (if t395 = 0 then (if t385 = 0 then (if (t394.length : Int) = ji27 then (if t386 = 0 then (some true) else (if t385 = 4 then (if (t394.length : Int) = t386 then (some (decide (t386 < ji27))) else (some false)) else (some false))) else (if t385 = 4 then (if (t394.length : Int) = t386 then (some (decide (t386 < ji27))) else (some false)) else (some false))) else (if t385 = 4 then (if (t394.length : Int) = t386 then (some (decide (t386 < ji27))) else (some false)) else (some false))) else (some false)) = some r := by rw [if_pos rfl] at H; exact H
                              clear H
                              have H := H1
                              clear H1
                              by_cases c45 : t395 = 0
                              · rw [if_pos c45] at H
                                have c45b0 : (t395 == 0) = true := beq_iff_eq.mpr c45
                                have c45b1 : (t395 != 0) = false := bne_eq_false_iff_eq.mpr c45
                                clear c45
                                by_cases c46 : t385 = 0
                                · rw [if_pos c46] at H
                                  have c46b0 : (t385 == 0) = true := beq_iff_eq.mpr c46
                                  have c46b1 : (t385 != 0) = false := bne_eq_false_iff_eq.mpr c46
                                  clear c46
                                  by_cases c47 : (t394.length : Int) = ji27
                                  · rw [if_pos c47] at H
                                    have c47b0 : ((t394.length : Int) == ji27) = true := beq_iff_eq.mpr c47
                                    have c47b1 : ((t394.length : Int) != ji27) = false := bne_eq_false_iff_eq.mpr c47
                                    clear c47
                                    by_cases c48 : t386 = 0
                                    · rw [if_pos c48] at H
                                      have c48b0 : (t386 == 0) = true := beq_iff_eq.mpr c48
                                      have c48b1 : (t386 != 0) = false := bne_eq_false_iff_eq.mpr c48
                                      clear c48
                                      obtain rfl := Option.some.inj H
                                      obtain ⟨Ao49, co49, eo49⟩ := Kd.R_slice HO_13.out
                                      subst eo49
                                      go_wp2_with (first | ((with_reducible refine gate_callee (f := 37) rfl ?_); refine goesL_ (some 99) rfl rfl Try.func37 (by kernel_rfl) rfl #[.slice Ao49 t384.length co49] rfl (by (try simp only [List.map_toArray, List.map_cons, List.map_nil]); first | done | rfl | (simp only [List.length_drop, List.length_take]; rfl)) ?_; (with_reducible refine (event_Put.calls kj30 _ _ t384 t394 t395 _ ?side1 ?side2 A42.out).mono ?_); (case side1 => repeat (first | exact (Kd.R_reads' HO_13.out).2.2 | (with_reducible refine Kd.C_alloc ?_ _) | (with_reducible refine Kd.C_drewN ?_ _) | (with_reducible refine Kd.C_drew ?_))); (case side2 => exact (Kd.R_reads' HO_13.out).2.1); rintro e w50 ⟨v396, rfl, ho0, hb⟩; refine ⟨_, rfl, ?_⟩; have n0_ := Aside0.mk (Kd.R_below (by (with_reducible repeat (first | apply Kd.R_alloc | apply Kd.R_drewN | apply Kd.R_drew)); exact HO_13.out) hb); have n1_ := Aside0.mk (Kd.R_lower ho0 (below_size (by repeat (first | (with_reducible first | exact HB.out | apply below_alloc | apply pw_below_drewN | apply below_drew1) | exact HB.out)))); have n2_ := Aside0.mk (Kd.C_below (by repeat (first | (with_reducible exact HR383.out) | (with_reducible refine Kd.C_alloc ?_ _) | (with_reducible refine Kd.C_drewN ?_ _) | (with_reducible refine Kd.C_drew ?_) | exact HR383.out)) hb); have n3_ := Aside0.mk (below_step (by repeat (first | (with_reducible first | exact HB.out | apply below_alloc | apply pw_below_drewN | apply below_drew1) | exact HB.out)) hb); clear HO_13; clear HR383; clear HB; have HO_13 := n0_; have HO397 := n1_; have HR383 := n2_; have HB := n3_; clear n0_ n1_ n2_ n3_; (try clear hb); (try clear hb2); (try clear hk); (try clear hi); (try clear ho0)) | ((with_reducible refine gate_callee (f := 38) rfl ?_); refine goesL_ (some 102) rfl rfl Try.func38 (by kernel_rfl) rfl #[] rfl (by (try simp only [List.map_toArray, List.map_cons, List.map_nil]); first | done | rfl | (simp only [List.length_drop, List.length_take]; rfl)) ?_; (with_reducible refine (spinnakerlaw23_told.calls kj30  true _ A43.out).mono ?_); rintro e w51 ⟨rfl, hb⟩; refine ⟨_, rfl, ?_⟩; have n0_ := Aside0.mk (Kd.R_below (by (with_reducible repeat (first | apply Kd.R_alloc | apply Kd.R_drewN | apply Kd.R_drew)); exact HO_13.out) hb); have n1_ := Aside0.mk (Kd.R_below (by (with_reducible repeat (first | apply Kd.R_alloc | apply Kd.R_drewN | apply Kd.R_drew)); exact HO397.out) hb); have n2_ := Aside0.mk (Kd.C_below (by repeat (first | (with_reducible exact HR383.out) | (with_reducible refine Kd.C_alloc ?_ _) | (with_reducible refine Kd.C_drewN ?_ _) | (with_reducible refine Kd.C_drew ?_) | exact HR383.out)) hb); have n3_ := Aside0.mk (below_step (by repeat (first | (with_reducible first | exact HB.out | apply below_alloc | apply pw_below_drewN | apply below_drew1) | exact HB.out)) hb); clear HO_13; clear HO397; clear HR383; clear HB; have HO_13 := n0_; have HO397 := n1_; have HR383 := n2_; have HB := n3_; clear n0_ n1_ n2_ n3_; (try clear hb); (try clear hb2); (try clear hk); (try clear hi); obtain ⟨Ao52, co52, eo52⟩ := Kd.R_slice HO397.out; subst eo52))
                                      go_ret
                                      exact ⟨by first | rfl | (simp only [tdiv_top]; rfl) | (simp [errW_none, errW_some] <;> rfl) | (simp only [← hji27]; first | rfl | (simp [errW_none, errW_some] <;> rfl)) | (simp [*, errW_none, errW_some] <;> rfl), by repeat (first | (with_reducible first | exact HB.out | apply below_alloc | apply pw_below_drewN | apply below_drew1) | exact HB.out)⟩
                                    · rw [if_neg c48] at H
                                      have c48b0 : (t386 == 0) = false := beq_eq_false_iff_ne.mpr c48
                                      have c48b1 : (t386 != 0) = true := bne_iff_ne.mpr c48
                                      by_cases c53 : t385 = 4
                                      · rw [if_pos c53] at H
                                        have c53b0 : (t385 == 4) = true := beq_iff_eq.mpr c53
                                        have c53b1 : (t385 != 4) = false := bne_eq_false_iff_eq.mpr c53
                                        clear c53
                                        by_cases c54 : (t394.length : Int) = t386
                                        · rw [if_pos c54] at H
                                          have c54b0 : ((t394.length : Int) == t386) = true := beq_iff_eq.mpr c54
                                          have c54b1 : ((t394.length : Int) != t386) = false := bne_eq_false_iff_eq.mpr c54
                                          clear c54
                                          obtain rfl := Option.some.inj H
                                          obtain ⟨Ao55, co55, eo55⟩ := Kd.R_slice HO_13.out
                                          subst eo55
                                          go_wp2_with (first | ((with_reducible refine gate_callee (f := 37) rfl ?_); refine goesL_ (some 99) rfl rfl Try.func37 (by kernel_rfl) rfl #[.slice Ao55 t384.length co55] rfl (by (try simp only [List.map_toArray, List.map_cons, List.map_nil]); first | done | rfl | (simp only [List.length_drop, List.length_take]; rfl)) ?_; (with_reducible refine (event_Put.calls kj30 _ _ t384 t394 t395 _ ?side1 ?side2 A42.out).mono ?_); (case side1 => repeat (first | exact (Kd.R_reads' HO_13.out).2.2 | (with_reducible refine Kd.C_alloc ?_ _) | (with_reducible refine Kd.C_drewN ?_ _) | (with_reducible refine Kd.C_drew ?_))); (case side2 => exact (Kd.R_reads' HO_13.out).2.1); rintro e w56 ⟨v396, rfl, ho0, hb⟩; refine ⟨_, rfl, ?_⟩; have n0_ := Aside0.mk (Kd.R_below (by (with_reducible repeat (first | apply Kd.R_alloc | apply Kd.R_drewN | apply Kd.R_drew)); exact HO_13.out) hb); have n1_ := Aside0.mk (Kd.R_lower ho0 (below_size (by repeat (first | (with_reducible first | exact HB.out | apply below_alloc | apply pw_below_drewN | apply below_drew1) | exact HB.out)))); have n2_ := Aside0.mk (Kd.C_below (by repeat (first | (with_reducible exact HR383.out) | (with_reducible refine Kd.C_alloc ?_ _) | (with_reducible refine Kd.C_drewN ?_ _) | (with_reducible refine Kd.C_drew ?_) | exact HR383.out)) hb); have n3_ := Aside0.mk (below_step (by repeat (first | (with_reducible first | exact HB.out | apply below_alloc | apply pw_below_drewN | apply below_drew1) | exact HB.out)) hb); clear HO_13; clear HR383; clear HB; have HO_13 := n0_; have HO397 := n1_; have HR383 := n2_; have HB := n3_; clear n0_ n1_ n2_ n3_; (try clear hb); (try clear hb2); (try clear hk); (try clear hi); (try clear ho0)) | ((with_reducible refine gate_callee (f := 38) rfl ?_); refine goesL_ (some 102) rfl rfl Try.func38 (by kernel_rfl) rfl #[] rfl (by (try simp only [List.map_toArray, List.map_cons, List.map_nil]); first | done | rfl | (simp only [List.length_drop, List.length_take]; rfl)) ?_; (with_reducible refine (spinnakerlaw23_told.calls kj30  true _ A43.out).mono ?_); rintro e w57 ⟨rfl, hb⟩; refine ⟨_, rfl, ?_⟩; have n0_ := Aside0.mk (Kd.R_below (by (with_reducible repeat (first | apply Kd.R_alloc | apply Kd.R_drewN | apply Kd.R_drew)); exact HO_13.out) hb); have n1_ := Aside0.mk (Kd.R_below (by (with_reducible repeat (first | apply Kd.R_alloc | apply Kd.R_drewN | apply Kd.R_drew)); exact HO397.out) hb); have n2_ := Aside0.mk (Kd.C_below (by repeat (first | (with_reducible exact HR383.out) | (with_reducible refine Kd.C_alloc ?_ _) | (with_reducible refine Kd.C_drewN ?_ _) | (with_reducible refine Kd.C_drew ?_) | exact HR383.out)) hb); have n3_ := Aside0.mk (below_step (by repeat (first | (with_reducible first | exact HB.out | apply below_alloc | apply pw_below_drewN | apply below_drew1) | exact HB.out)) hb); clear HO_13; clear HO397; clear HR383; clear HB; have HO_13 := n0_; have HO397 := n1_; have HR383 := n2_; have HB := n3_; clear n0_ n1_ n2_ n3_; (try clear hb); (try clear hb2); (try clear hk); (try clear hi); obtain ⟨Ao58, co58, eo58⟩ := Kd.R_slice HO397.out; subst eo58))
                                          go_ret
                                          exact ⟨by first | rfl | (simp only [tdiv_top]; rfl) | (simp [errW_none, errW_some] <;> rfl) | (simp only [← hji27]; first | rfl | (simp [errW_none, errW_some] <;> rfl)) | (simp [*, errW_none, errW_some] <;> rfl), by repeat (first | (with_reducible first | exact HB.out | apply below_alloc | apply pw_below_drewN | apply below_drew1) | exact HB.out)⟩
                                        · rw [if_neg c54] at H
                                          have c54b0 : ((t394.length : Int) == t386) = false := beq_eq_false_iff_ne.mpr c54
                                          have c54b1 : ((t394.length : Int) != t386) = true := bne_iff_ne.mpr c54
                                          rw [hrt.out] at H
                                          exact absurd H (by simp)
                                      · rw [if_neg c53] at H
                                        have c53b0 : (t385 == 4) = false := beq_eq_false_iff_ne.mpr c53
                                        have c53b1 : (t385 != 4) = true := bne_iff_ne.mpr c53
                                        rw [hrt.out] at H
                                        exact absurd H (by simp)
                                  · rw [if_neg c47] at H
                                    have c47b0 : ((t394.length : Int) == ji27) = false := beq_eq_false_iff_ne.mpr c47
                                    have c47b1 : ((t394.length : Int) != ji27) = true := bne_iff_ne.mpr c47
                                    by_cases c59 : t385 = 4
                                    · rw [if_pos c59] at H
                                      have c59b0 : (t385 == 4) = true := beq_iff_eq.mpr c59
                                      have c59b1 : (t385 != 4) = false := bne_eq_false_iff_eq.mpr c59
                                      clear c59
                                      by_cases c60 : (t394.length : Int) = t386
                                      · rw [if_pos c60] at H
                                        have c60b0 : ((t394.length : Int) == t386) = true := beq_iff_eq.mpr c60
                                        have c60b1 : ((t394.length : Int) != t386) = false := bne_eq_false_iff_eq.mpr c60
                                        clear c60
                                        obtain rfl := Option.some.inj H
                                        obtain ⟨Ao61, co61, eo61⟩ := Kd.R_slice HO_13.out
                                        subst eo61
                                        go_wp2_with (first | ((with_reducible refine gate_callee (f := 37) rfl ?_); refine goesL_ (some 99) rfl rfl Try.func37 (by kernel_rfl) rfl #[.slice Ao61 t384.length co61] rfl (by (try simp only [List.map_toArray, List.map_cons, List.map_nil]); first | done | rfl | (simp only [List.length_drop, List.length_take]; rfl)) ?_; (with_reducible refine (event_Put.calls kj30 _ _ t384 t394 t395 _ ?side1 ?side2 A42.out).mono ?_); (case side1 => repeat (first | exact (Kd.R_reads' HO_13.out).2.2 | (with_reducible refine Kd.C_alloc ?_ _) | (with_reducible refine Kd.C_drewN ?_ _) | (with_reducible refine Kd.C_drew ?_))); (case side2 => exact (Kd.R_reads' HO_13.out).2.1); rintro e w62 ⟨v396, rfl, ho0, hb⟩; refine ⟨_, rfl, ?_⟩; have n0_ := Aside0.mk (Kd.R_below (by (with_reducible repeat (first | apply Kd.R_alloc | apply Kd.R_drewN | apply Kd.R_drew)); exact HO_13.out) hb); have n1_ := Aside0.mk (Kd.R_lower ho0 (below_size (by repeat (first | (with_reducible first | exact HB.out | apply below_alloc | apply pw_below_drewN | apply below_drew1) | exact HB.out)))); have n2_ := Aside0.mk (Kd.C_below (by repeat (first | (with_reducible exact HR383.out) | (with_reducible refine Kd.C_alloc ?_ _) | (with_reducible refine Kd.C_drewN ?_ _) | (with_reducible refine Kd.C_drew ?_) | exact HR383.out)) hb); have n3_ := Aside0.mk (below_step (by repeat (first | (with_reducible first | exact HB.out | apply below_alloc | apply pw_below_drewN | apply below_drew1) | exact HB.out)) hb); clear HO_13; clear HR383; clear HB; have HO_13 := n0_; have HO397 := n1_; have HR383 := n2_; have HB := n3_; clear n0_ n1_ n2_ n3_; (try clear hb); (try clear hb2); (try clear hk); (try clear hi); (try clear ho0)) | ((with_reducible refine gate_callee (f := 38) rfl ?_); refine goesL_ (some 102) rfl rfl Try.func38 (by kernel_rfl) rfl #[] rfl (by (try simp only [List.map_toArray, List.map_cons, List.map_nil]); first | done | rfl | (simp only [List.length_drop, List.length_take]; rfl)) ?_; (with_reducible refine (spinnakerlaw23_told.calls kj30  true _ A43.out).mono ?_); rintro e w63 ⟨rfl, hb⟩; refine ⟨_, rfl, ?_⟩; have n0_ := Aside0.mk (Kd.R_below (by (with_reducible repeat (first | apply Kd.R_alloc | apply Kd.R_drewN | apply Kd.R_drew)); exact HO_13.out) hb); have n1_ := Aside0.mk (Kd.R_below (by (with_reducible repeat (first | apply Kd.R_alloc | apply Kd.R_drewN | apply Kd.R_drew)); exact HO397.out) hb); have n2_ := Aside0.mk (Kd.C_below (by repeat (first | (with_reducible exact HR383.out) | (with_reducible refine Kd.C_alloc ?_ _) | (with_reducible refine Kd.C_drewN ?_ _) | (with_reducible refine Kd.C_drew ?_) | exact HR383.out)) hb); have n3_ := Aside0.mk (below_step (by repeat (first | (with_reducible first | exact HB.out | apply below_alloc | apply pw_below_drewN | apply below_drew1) | exact HB.out)) hb); clear HO_13; clear HO397; clear HR383; clear HB; have HO_13 := n0_; have HO397 := n1_; have HR383 := n2_; have HB := n3_; clear n0_ n1_ n2_ n3_; (try clear hb); (try clear hb2); (try clear hk); (try clear hi); obtain ⟨Ao64, co64, eo64⟩ := Kd.R_slice HO397.out; subst eo64))
                                        go_ret
                                        exact ⟨by first | rfl | (simp only [tdiv_top]; rfl) | (simp [errW_none, errW_some] <;> rfl) | (simp only [← hji27]; first | rfl | (simp [errW_none, errW_some] <;> rfl)) | (simp [*, errW_none, errW_some] <;> rfl), by repeat (first | (with_reducible first | exact HB.out | apply below_alloc | apply pw_below_drewN | apply below_drew1) | exact HB.out)⟩
                                      · rw [if_neg c60] at H
                                        have c60b0 : ((t394.length : Int) == t386) = false := beq_eq_false_iff_ne.mpr c60
                                        have c60b1 : ((t394.length : Int) != t386) = true := bne_iff_ne.mpr c60
                                        rw [hrt.out] at H
                                        exact absurd H (by simp)
                                    · rw [if_neg c59] at H
                                      have c59b0 : (t385 == 4) = false := beq_eq_false_iff_ne.mpr c59
                                      have c59b1 : (t385 != 4) = true := bne_iff_ne.mpr c59
                                      rw [hrt.out] at H
                                      exact absurd H (by simp)
                                · rw [if_neg c46] at H
                                  have c46b0 : (t385 == 0) = false := beq_eq_false_iff_ne.mpr c46
                                  have c46b1 : (t385 != 0) = true := bne_iff_ne.mpr c46
                                  by_cases c65 : t385 = 4
                                  · rw [if_pos c65] at H
                                    have c65b0 : (t385 == 4) = true := beq_iff_eq.mpr c65
                                    have c65b1 : (t385 != 4) = false := bne_eq_false_iff_eq.mpr c65
                                    clear c65
                                    by_cases c66 : (t394.length : Int) = t386
                                    · rw [if_pos c66] at H
                                      have c66b0 : ((t394.length : Int) == t386) = true := beq_iff_eq.mpr c66
                                      have c66b1 : ((t394.length : Int) != t386) = false := bne_eq_false_iff_eq.mpr c66
                                      clear c66
                                      obtain rfl := Option.some.inj H
                                      obtain ⟨Ao67, co67, eo67⟩ := Kd.R_slice HO_13.out
                                      subst eo67
                                      go_wp2_with (first | ((with_reducible refine gate_callee (f := 37) rfl ?_); refine goesL_ (some 99) rfl rfl Try.func37 (by kernel_rfl) rfl #[.slice Ao67 t384.length co67] rfl (by (try simp only [List.map_toArray, List.map_cons, List.map_nil]); first | done | rfl | (simp only [List.length_drop, List.length_take]; rfl)) ?_; (with_reducible refine (event_Put.calls kj30 _ _ t384 t394 t395 _ ?side1 ?side2 A42.out).mono ?_); (case side1 => repeat (first | exact (Kd.R_reads' HO_13.out).2.2 | (with_reducible refine Kd.C_alloc ?_ _) | (with_reducible refine Kd.C_drewN ?_ _) | (with_reducible refine Kd.C_drew ?_))); (case side2 => exact (Kd.R_reads' HO_13.out).2.1); rintro e w68 ⟨v396, rfl, ho0, hb⟩; refine ⟨_, rfl, ?_⟩; have n0_ := Aside0.mk (Kd.R_below (by (with_reducible repeat (first | apply Kd.R_alloc | apply Kd.R_drewN | apply Kd.R_drew)); exact HO_13.out) hb); have n1_ := Aside0.mk (Kd.R_lower ho0 (below_size (by repeat (first | (with_reducible first | exact HB.out | apply below_alloc | apply pw_below_drewN | apply below_drew1) | exact HB.out)))); have n2_ := Aside0.mk (Kd.C_below (by repeat (first | (with_reducible exact HR383.out) | (with_reducible refine Kd.C_alloc ?_ _) | (with_reducible refine Kd.C_drewN ?_ _) | (with_reducible refine Kd.C_drew ?_) | exact HR383.out)) hb); have n3_ := Aside0.mk (below_step (by repeat (first | (with_reducible first | exact HB.out | apply below_alloc | apply pw_below_drewN | apply below_drew1) | exact HB.out)) hb); clear HO_13; clear HR383; clear HB; have HO_13 := n0_; have HO397 := n1_; have HR383 := n2_; have HB := n3_; clear n0_ n1_ n2_ n3_; (try clear hb); (try clear hb2); (try clear hk); (try clear hi); (try clear ho0)) | ((with_reducible refine gate_callee (f := 38) rfl ?_); refine goesL_ (some 102) rfl rfl Try.func38 (by kernel_rfl) rfl #[] rfl (by (try simp only [List.map_toArray, List.map_cons, List.map_nil]); first | done | rfl | (simp only [List.length_drop, List.length_take]; rfl)) ?_; (with_reducible refine (spinnakerlaw23_told.calls kj30  true _ A43.out).mono ?_); rintro e w69 ⟨rfl, hb⟩; refine ⟨_, rfl, ?_⟩; have n0_ := Aside0.mk (Kd.R_below (by (with_reducible repeat (first | apply Kd.R_alloc | apply Kd.R_drewN | apply Kd.R_drew)); exact HO_13.out) hb); have n1_ := Aside0.mk (Kd.R_below (by (with_reducible repeat (first | apply Kd.R_alloc | apply Kd.R_drewN | apply Kd.R_drew)); exact HO397.out) hb); have n2_ := Aside0.mk (Kd.C_below (by repeat (first | (with_reducible exact HR383.out) | (with_reducible refine Kd.C_alloc ?_ _) | (with_reducible refine Kd.C_drewN ?_ _) | (with_reducible refine Kd.C_drew ?_) | exact HR383.out)) hb); have n3_ := Aside0.mk (below_step (by repeat (first | (with_reducible first | exact HB.out | apply below_alloc | apply pw_below_drewN | apply below_drew1) | exact HB.out)) hb); clear HO_13; clear HO397; clear HR383; clear HB; have HO_13 := n0_; have HO397 := n1_; have HR383 := n2_; have HB := n3_; clear n0_ n1_ n2_ n3_; (try clear hb); (try clear hb2); (try clear hk); (try clear hi); obtain ⟨Ao70, co70, eo70⟩ := Kd.R_slice HO397.out; subst eo70))
                                      go_ret
                                      exact ⟨by first | rfl | (simp only [tdiv_top]; rfl) | (simp [errW_none, errW_some] <;> rfl) | (simp only [← hji27]; first | rfl | (simp [errW_none, errW_some] <;> rfl)) | (simp [*, errW_none, errW_some] <;> rfl), by repeat (first | (with_reducible first | exact HB.out | apply below_alloc | apply pw_below_drewN | apply below_drew1) | exact HB.out)⟩
                                    · rw [if_neg c66] at H
                                      have c66b0 : ((t394.length : Int) == t386) = false := beq_eq_false_iff_ne.mpr c66
                                      have c66b1 : ((t394.length : Int) != t386) = true := bne_iff_ne.mpr c66
                                      rw [hrt.out] at H
                                      exact absurd H (by simp)
                                  · rw [if_neg c65] at H
                                    have c65b0 : (t385 == 4) = false := beq_eq_false_iff_ne.mpr c65
                                    have c65b1 : (t385 != 4) = true := bne_iff_ne.mpr c65
                                    rw [hrt.out] at H
                                    exact absurd H (by simp)
                              · rw [if_neg c45] at H
                                have c45b0 : (t395 == 0) = false := beq_eq_false_iff_ne.mpr c45
                                have c45b1 : (t395 != 0) = true := bne_iff_ne.mpr c45
                                rw [hrt.out] at H
                                exact absurd H (by simp)
                            · replace c44 := Bool.eq_false_iff.mpr c44
                              subst c44
                              have H1 : (some false) = some r := by rw [if_neg (show ¬ (false = true) by decide)] at H; exact H
                              clear H
                              have H := H1
                              clear H1
                              rw [hrt.out] at H
                              exact absurd H (by simp)
                    · rw [if_neg c29] at H
                      exact absurd H (by simp)
                  · rw [if_neg c28] at H
                    exact absurd H (by simp)
  · replace c4 := Bool.eq_false_iff.mpr c4
    subst c4
    have H1 : ((spinnakerlaw23_told.f k).bind fun t363 => (some t363)) = some r := by rw [if_neg (show ¬ (false = true) by decide)] at H; exact H
    clear H
    have H := H1
    clear H1
    replace H := Option.bind_eq_some_iff.mp H
    obtain ⟨t363, A710, H⟩ := H
    replace H : (some t363) = some r := H
    have A71 := Aside0.mk A710
    clear A710
    obtain rfl := Option.some.inj H
    go_enter Try.func12, Try.ntmps12
    go_wp2_with (first | ((with_reducible refine gate_callee (f := 40) rfl ?_); refine goesL_ (some 19) rfl rfl Try.func40 (by kernel_rfl) rfl #[.slice A0 l0.length c0, .int .i64 30] rfl (by (try simp only [List.map_toArray, List.map_cons, List.map_nil]); first | done | rfl | (simp only [List.length_drop, List.length_take]; rfl)) ?_; (with_reducible refine (spinnakerlaw23_Few.calls k _ _ l0 30 false _ ?side1 ?side2 A3.out).mono ?_); (case side1 => repeat (first | exact HR0.out | (with_reducible refine Kd.C_alloc ?_ _) | (with_reducible refine Kd.C_drewN ?_ _) | (with_reducible refine Kd.C_drew ?_))); (case side2 => exact HC0.out); rintro e w' ⟨rfl, ⟨nd, rfl⟩⟩; refine ⟨_, rfl, ?_⟩) | ((with_reducible refine gate_callee (f := 38) rfl ?_); refine goesL_ (some 21) rfl rfl Try.func38 (by kernel_rfl) rfl #[] rfl (by (try simp only [List.map_toArray, List.map_cons, List.map_nil]); first | done | rfl | (simp only [List.length_drop, List.length_take]; rfl)) ?_; (with_reducible refine (spinnakerlaw23_told.calls k  t363 _ A71.out).mono ?_); rintro e w72 ⟨rfl, hb⟩; refine ⟨_, rfl, ?_⟩; have n0_ := Aside0.mk (below_step (by repeat (first | (with_reducible first | exact HB.out | apply below_alloc | apply pw_below_drewN | apply below_drew1) | exact HB.out)) hb); clear HB; have HB := n0_; clear n0_; (try clear hb); (try clear hb2); (try clear hk); (try clear hi)))
    go_ret
    exact ⟨by first | rfl | (simp only [tdiv_top]; rfl) | (simp [errW_none, errW_some] <;> rfl) | (simp [*, errW_none, errW_some] <;> rfl), by repeat (first | (with_reducible first | exact HB.out | apply below_alloc | apply pw_below_drewN | apply below_drew1) | exact HB.out)⟩
def spinnakerlaw23_EventBack.Pure : Prop := ∀ (l0 : List (S50)) (a1 : Int), (fun s => s.length ≤ maxLen ∧ ∀ y ∈ s, W50 y) l0 → l0.length * 32 ≤ 140737488351232 → (Lit.int .i64 a1).wf = true → ∃ k, spinnakerlaw23_EventBack.f k l0 a1 = some true

end Go.Proofs.Ytcdfoicebcmlaaa.PEvent
