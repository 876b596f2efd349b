-- Printed by this session's own program (wip/tools/widen.py over the kit's print): not the kit's print itself
import Derived.Test.YtcdfoicebcmlaaaPEventx0
import Derived.Test.YtcdfoicebcmlaaaPEventx2
import Derived.Test.YtcdfoicebcmlaaaPEventx3
import Derived.Test.YtcdfoicebcmlaaaPEventx4
import Derived.Test.YtcdfoicebcmlaaaPEventx6
import Derived.Test.YtcdfoicebcmlaaaPEventx7
namespace Go.Proofs.Ytcdfoicebcmlaaa.PEvent
open Go.RowKit Go.Proofs.YtcdfoicebcmlaaaW.PrintWords Go.Proofs.YtcdfoicebcmlaaaW.PrintLast Go.Proofs.YtcdfoicebcmlaaaW.PrintMore
attribute [local go_sem] max2_int min2_int max_two min_two max_three min_three max_four min_four   -- for this text's walks alone
set_option linter.unusedVariables false
set_option linter.unusedSimpArgs false

/-! ### spinnakerlaw23_EventAsks: function 11 -/
mutual
def spinnakerlaw23_EventAsks.j0 : Nat → List (S50) → List Int → Bool → Option (Bool)
  | 0, _, _, _ => none
  | k + 1, x0, x1, x23 => if x23 = true then ((spinnakerlaw23_told.f k).bind fun t339 => (some t339)) else (spinnakerlaw23_EventAsks.l0 k x0 x1 0)
def spinnakerlaw23_EventAsks.l0 : Nat → List (S50) → List Int → Int → Option (Bool)
  | 0, _, _, _ => none
  | k + 1, x0, x1, x5 => if x5 < (x0.length : Int) then (if 0 ≤ x5 then ((event_May.f k ((rd_T50 x0 x5).f0) ((rd_T50 x0 x5).f1) ((rd_T50 x0 x5).f2)).bind fun t341 => ((spinnakerref18_MayEvent.f k ((rd_T50 x0 x5).f0) ((rd_T50 x0 x5).f1) ((rd_T50 x0 x5).f2)).bind fun t343 => (if (t341 != t343) = true then (some false) else (spinnakerlaw23_EventAsks.l0 k x0 x1 (wrap64 (x5 + 1)))))) else (none)) else ((event_Put.f k x0).bind fun bt344 => ((spinnakerref18_PutEvents.f k x0).bind fun bt348 => ((event_All.f k x1).bind fun bt350 => ((spinnakerref18_AllEvents.f k (strOfNums x1)).bind fun bt355 => ((spinnakerlaw23_told.f k).bind fun t360 => (if t360 = true then (if bt344.2 = bt348.2 then (if (strOfNums bt344.1).toList = bt348.1.toList then (if bt350.2.1 = bt355.2.1 then (if bt350.2.2 = bt355.2.2 then ((spinnakerlaw23_events.f k bt350.1 bt355.1).bind fun t361 => (some t361)) else (some false)) else (some false)) else (some false)) else (some false)) else (some false)))))))
end
def spinnakerlaw23_EventAsks.f (k : Nat) (l0 : List (S50)) (l1 : List Int) : Option (Bool) := (spinnakerlaw23_Few.f k l0 30).bind fun t338 => (if t338 = true then (spinnakerlaw23_EventAsks.j0 k l0 l1 (decide ((l1.length : Int) > 300))) else (spinnakerlaw23_EventAsks.j0 k l0 l1 true))
theorem spinnakerlaw23_EventAsks.mono_l : ∀ k, (∀ y0 y1 y2, LeO (spinnakerlaw23_EventAsks.j0 k y0 y1 y2) (spinnakerlaw23_EventAsks.j0 (k + 1) y0 y1 y2)) ∧ (∀ y0 y1 y2, LeO (spinnakerlaw23_EventAsks.l0 k y0 y1 y2) (spinnakerlaw23_EventAsks.l0 (k + 1) y0 y1 y2))
  | 0 => ⟨fun _ _ _ r h => by simp [spinnakerlaw23_EventAsks.j0] at h, fun _ _ _ r h => by simp [spinnakerlaw23_EventAsks.l0] at h⟩
  | k + 1 => by
    obtain ⟨ih0, ih1⟩ := spinnakerlaw23_EventAsks.mono_l k
    refine ⟨?_, ?_⟩
    · intro y0 y1 y2
      unfold spinnakerlaw23_EventAsks.j0
      repeat' first
      | (with_reducible exact ih0 _ _ _)
      | (with_reducible exact ih1 _ _ _)
      | (with_reducible exact event_All.mono _ _)
      | (with_reducible exact event_May.mono _ _ _ _)
      | (with_reducible exact event_Put.mono _ _)
      | (with_reducible exact spinnakerlaw23_Few.mono _ _ _)
      | (with_reducible exact spinnakerlaw23_events.mono _ _ _)
      | (with_reducible exact spinnakerlaw23_told.mono _)
      | (with_reducible exact spinnakerref18_AllEvents.mono _ _)
      | (with_reducible exact spinnakerref18_MayEvent.mono _ _ _ _)
      | (with_reducible exact spinnakerref18_PutEvents.mono _ _)
      | (with_reducible exact LeO.refl _)
      | (with_reducible exact LeO.none _)
      | (with_reducible refine LeO.ite ?_ ?_)
      | (with_reducible refine LeO.bind ?_ (fun _ => ?_))
      | exact ih0 _ _ _
      | exact ih1 _ _ _
      | exact event_All.mono _ _
      | exact event_May.mono _ _ _ _
      | exact event_Put.mono _ _
      | exact spinnakerlaw23_Few.mono _ _ _
      | exact spinnakerlaw23_events.mono _ _ _
      | exact spinnakerlaw23_told.mono _
      | exact spinnakerref18_AllEvents.mono _ _
      | exact spinnakerref18_MayEvent.mono _ _ _ _
      | exact spinnakerref18_PutEvents.mono _ _
      | exact LeO.none _
      | refine LeO.ite ?_ ?_
      | refine LeO.bind ?_ (fun _ => ?_)
    · intro y0 y1 y2
      unfold spinnakerlaw23_EventAsks.l0
      repeat' first
      | (with_reducible exact ih0 _ _ _)
      | (with_reducible exact ih1 _ _ _)
      | (with_reducible exact event_All.mono _ _)
      | (with_reducible exact event_May.mono _ _ _ _)
      | (with_reducible exact event_Put.mono _ _)
      | (with_reducible exact spinnakerlaw23_Few.mono _ _ _)
      | (with_reducible exact spinnakerlaw23_events.mono _ _ _)
      | (with_reducible exact spinnakerlaw23_told.mono _)
      | (with_reducible exact spinnakerref18_AllEvents.mono _ _)
      | (with_reducible exact spinnakerref18_MayEvent.mono _ _ _ _)
      | (with_reducible exact spinnakerref18_PutEvents.mono _ _)
      | (with_reducible exact LeO.refl _)
      | (with_reducible exact LeO.none _)
      | (with_reducible refine LeO.ite ?_ ?_)
      | (with_reducible refine LeO.bind ?_ (fun _ => ?_))
      | exact ih0 _ _ _
      | exact ih1 _ _ _
      | exact event_All.mono _ _
      | exact event_May.mono _ _ _ _
      | exact event_Put.mono _ _
      | exact spinnakerlaw23_Few.mono _ _ _
      | exact spinnakerlaw23_events.mono _ _ _
      | exact spinnakerlaw23_told.mono _
      | exact spinnakerref18_AllEvents.mono _ _
      | exact spinnakerref18_MayEvent.mono _ _ _ _
      | exact spinnakerref18_PutEvents.mono _ _
      | exact LeO.none _
      | refine LeO.ite ?_ ?_
      | refine LeO.bind ?_ (fun _ => ?_)
theorem spinnakerlaw23_EventAsks.mono : ∀ a0 a1 k, LeO (spinnakerlaw23_EventAsks.f k a0 a1) (spinnakerlaw23_EventAsks.f (k + 1) a0 a1) := by
  intro a0 a1 k
  obtain ⟨ih0, ih1⟩ := spinnakerlaw23_EventAsks.mono_l k
  unfold spinnakerlaw23_EventAsks.f
  repeat' first
      | (with_reducible exact ih0 _ _ _)
      | (with_reducible exact ih1 _ _ _)
      | (with_reducible exact event_All.mono _ _)
      | (with_reducible exact event_May.mono _ _ _ _)
      | (with_reducible exact event_Put.mono _ _)
      | (with_reducible exact spinnakerlaw23_Few.mono _ _ _)
      | (with_reducible exact spinnakerlaw23_events.mono _ _ _)
      | (with_reducible exact spinnakerlaw23_told.mono _)
      | (with_reducible exact spinnakerref18_AllEvents.mono _ _)
      | (with_reducible exact spinnakerref18_MayEvent.mono _ _ _ _)
      | (with_reducible exact spinnakerref18_PutEvents.mono _ _)
      | (with_reducible exact LeO.refl _)
      | (with_reducible exact LeO.none _)
      | (with_reducible refine LeO.ite ?_ ?_)
      | (with_reducible refine LeO.bind ?_ (fun _ => ?_))
      | exact ih0 _ _ _
      | exact ih1 _ _ _
      | exact event_All.mono _ _
      | exact event_May.mono _ _ _ _
      | exact event_Put.mono _ _
      | exact spinnakerlaw23_Few.mono _ _ _
      | exact spinnakerlaw23_events.mono _ _ _
      | exact spinnakerlaw23_told.mono _
      | exact spinnakerref18_AllEvents.mono _ _
      | exact spinnakerref18_MayEvent.mono _ _ _ _
      | exact spinnakerref18_PutEvents.mono _ _
      | exact LeO.none _
      | refine LeO.ite ?_ ?_
      | refine LeO.bind ?_ (fun _ => ?_)
def spinnakerlaw23_EventAsks.T6 : Bool × List (List Nat × List Nat) := (true, [([], []), ([], []), ([0, 1], [0, 1]), ([2], [2]), ([3], [3]), ([], []), ([], []), ([5, 6], [5, 6]), ([7], [7]), ([8, 4], [8]), ([4, 9], [4, 9])])
def spinnakerlaw23_EventAsks.B6 : List Nat := [0, 0, 3, 7, 15, 0, 0, 96, 224, 511, 1023]
theorem spinnakerlaw23_EventAsks.tab6 : rtab .any (opsOf Try.f11 6) = spinnakerlaw23_EventAsks.T6 := by kernel_rfl
theorem spinnakerlaw23_EventAsks.bits6 : waitsOk spinnakerlaw23_EventAsks.T6.2 spinnakerlaw23_EventAsks.B6 = true := by kernel_rfl
set_option maxHeartbeats 4000000 in
set_option maxRecDepth 100000 in
theorem spinnakerlaw23_EventAsks.calls (k : Nat) (A0 : Option Addr) (c0 : Nat) (l0 : List (S50)) (A1 : Option Addr) (c1 : Nat) (l1 : List Int) (r : Bool) (w : World) (hr0 : Kd.C k50 w A0 l0.length l0) (hc0 : l0.length ≤ c0) (hr1 : Kd.C (Kd.int .u8) w A1 l1.length l1) (hc1 : l1.length ≤ c1) (hrt0 : r = true) (h : spinnakerlaw23_EventAsks.f k l0 l1 = some r) :
    Calls Try.prog 11 #[.slice A0 l0.length c0, .slice A1 l1.length c1] w fun e w' => e = .returned (.bool r) ∧ Below w.heap.size w w' := by
  have hu50 := Try.underlying50
  have HR0 := Aside0.mk hr0
  have HC0 := Aside0.mk hc0
  clear hr0 hc0
  have HR1 := Aside0.mk hr1
  have HC1 := Aside0.mk hc1
  clear hr1 hc1
  have HB := Aside0.mk (Below.refl w.heap.size w)
  have hrt := Aside0.mk hrt0
  clear hrt0
  have H : ((spinnakerlaw23_Few.f k l0 30).bind fun t338 => (if t338 = true then (spinnakerlaw23_EventAsks.j0 k l0 l1 (decide ((l1.length : Int) > 300))) else (spinnakerlaw23_EventAsks.j0 k l0 l1 true))) = some r := h
  clear h
  have HC3 := Aside0.mk H
  clear H
  go_enter Try.func11, Try.ntmps11
  go_upto_region 1 with (fail)
  go_cut [23] (fun v23 wc => ∃ (kq : Nat) (x23_2 : Bool), v23 = .bool x23_2 ∧ Aside0 (spinnakerlaw23_EventAsks.j0 kq l0 l1 x23_2 = some r) ∧ Aside0 (kq ≤ k) ∧ Aside0 (Below w.heap.size w wc))
  case first =>
    have H := HC3.out
    clear HC3
    replace H := Option.bind_eq_some_iff.mp H
    obtain ⟨t338, A40, H⟩ := H
    replace H : (if t338 = true then (spinnakerlaw23_EventAsks.j0 k l0 l1 (decide ((l1.length : Int) > 300))) else (spinnakerlaw23_EventAsks.j0 k l0 l1 true)) = some r := H
    have A4 := Aside0.mk A40
    clear A40
    by_cases c5 : t338 = true
    · subst c5
      have H1 : (spinnakerlaw23_EventAsks.j0 k l0 l1 (decide ((l1.length : Int) > 300))) = some r := by rw [if_pos rfl] at H; exact H
      clear H
      have H := H1
      clear H1
      have H' := Aside0.mk H
      clear H
      go_wp2_with (first | ((with_reducible refine gate_callee (f := 40) rfl ?_); refine goesL_ (some 17) rfl rfl Try.func40 (by kernel_rfl) rfl #[.slice A0 l0.length c0, .int .i64 30] rfl (by (try simp only [List.map_toArray, List.map_cons, List.map_nil]); first | done | rfl | (simp only [List.length_drop, List.length_take]; rfl)) ?_; (with_reducible refine (spinnakerlaw23_Few.calls k _ _ l0 30 true _ ?side1 ?side2 A4.out).mono ?_); (case side1 => repeat (first | exact (Kd.C_below HR0.out HB.out) | (with_reducible refine Kd.C_alloc ?_ _) | (with_reducible refine Kd.C_drewN ?_ _) | (with_reducible refine Kd.C_drew ?_))); (case side2 => exact HC0.out); rintro e w' ⟨rfl, ⟨nd, rfl⟩⟩; refine ⟨_, rfl, ?_⟩))
      go_meet
      case rel => exact ⟨_, (decide ((l1.length : Int) > 300)), (by first | rfl | (simp; done) | (simp [isEmpty_bne, isEmpty_beq]; done) | (simp [*]; done)), H', ⟨by first | omega | exact Nat.le_refl _⟩, ⟨by repeat (first | (with_reducible first | exact HB.out | apply below_alloc | apply pw_below_drewN | apply below_drew1) | exact HB.out)⟩⟩
    · replace c5 := Bool.eq_false_iff.mpr c5
      subst c5
      have H1 : (spinnakerlaw23_EventAsks.j0 k l0 l1 true) = some r := by rw [if_neg (show ¬ (false = true) by decide)] at H; exact H
      clear H
      have H := H1
      clear H1
      have H' := Aside0.mk H
      clear H
      go_wp2_with (first | ((with_reducible refine gate_callee (f := 40) rfl ?_); refine goesL_ (some 17) rfl rfl Try.func40 (by kernel_rfl) rfl #[.slice A0 l0.length c0, .int .i64 30] rfl (by (try simp only [List.map_toArray, List.map_cons, List.map_nil]); first | done | rfl | (simp only [List.length_drop, List.length_take]; rfl)) ?_; (with_reducible refine (spinnakerlaw23_Few.calls k _ _ l0 30 false _ ?side1 ?side2 A4.out).mono ?_); (case side1 => repeat (first | exact (Kd.C_below HR0.out HB.out) | (with_reducible refine Kd.C_alloc ?_ _) | (with_reducible refine Kd.C_drewN ?_ _) | (with_reducible refine Kd.C_drew ?_))); (case side2 => exact HC0.out); rintro e w' ⟨rfl, ⟨nd, rfl⟩⟩; refine ⟨_, rfl, ?_⟩))
      go_meet
      case rel => exact ⟨_, (true), (by first | rfl | (simp; done) | (simp [isEmpty_bne, isEmpty_beq]; done) | (simp [*]; done)), H', ⟨by first | omega | exact Nat.le_refl _⟩, ⟨by repeat (first | (with_reducible first | exact HB.out | apply below_alloc | apply pw_below_drewN | apply below_drew1) | exact HB.out)⟩⟩
  case rest =>
    clear HC3
    try clear c1
    try clear p2
    try clear c4
    try clear c5
    obtain ⟨kq, x23_2, rfl, HA, HJ2, HB⟩ := hcut
    cases kq with
    | zero => exact absurd HA.out (by simp [spinnakerlaw23_EventAsks.j0])
    | succ kj2 =>
      have H := HA.out
      clear HA
      simp only [spinnakerlaw23_EventAsks.j0] at H
      by_cases c6 : x23_2 = true
      · subst c6
        have H1 : ((spinnakerlaw23_told.f kj2).bind fun t339 => (some t339)) = some r := by rw [if_pos rfl] at H; exact H
        clear H
        have H := H1
        clear H1
        replace H := Option.bind_eq_some_iff.mp H
        obtain ⟨t339, A70, H⟩ := H
        replace H : (some t339) = some r := H
        have A7 := Aside0.mk A70
        clear A70
        obtain rfl := Option.some.inj H
        go_wp2_with (first | ((with_reducible refine gate_callee (f := 38) rfl ?_); refine goesL_ (some 24) rfl rfl Try.func38 (by kernel_rfl) rfl #[] rfl (by (try simp only [List.map_toArray, List.map_cons, List.map_nil]); first | done | rfl | (simp only [List.length_drop, List.length_take]; rfl)) ?_; (with_reducible refine (spinnakerlaw23_told.calls kj2  t339 _ A7.out).mono ?_); rintro e w8 ⟨rfl, hb⟩; refine ⟨_, rfl, ?_⟩; have n0_ := Aside0.mk (below_step (by repeat (first | (with_reducible first | exact HB.out | apply below_alloc | apply pw_below_drewN | apply below_drew1) | exact HB.out)) hb); clear HB; have HB := n0_; clear n0_; (try clear hb); (try clear hb2); (try clear hk); (try clear hi)))
        go_ret
        exact ⟨by first | rfl | (simp only [tdiv_top]; rfl) | (simp [errW_none, errW_some] <;> rfl) | (simp [*, errW_none, errW_some] <;> rfl), by repeat (first | (with_reducible first | exact HB.out | apply below_alloc | apply pw_below_drewN | apply below_drew1) | exact HB.out)⟩
      · replace c6 := Bool.eq_false_iff.mpr c6
        subst c6
        have H1 : (spinnakerlaw23_EventAsks.l0 kj2 l0 l1 0) = some r := by rw [if_neg (show ¬ (false = true) by decide)] at H; exact H
        clear H
        have H := H1
        clear H1
        have H' := Aside0.mk H
        clear H
        go_wp2
        go_loopg [5] kj2 (fun kq v5 w' => ∃ (x5_2 : Int), v5 = .int .i64 x5_2 ∧ Aside0 (spinnakerlaw23_EventAsks.l0 kq l0 l1 x5_2 = some r) ∧ Aside0 (kq ≤ kj2) ∧ Aside0 (Below w.heap.size w w'))
        case atStart => exact ⟨(0), (by first | rfl | (simp; done) | (simp [isEmpty_bne, isEmpty_beq]; done) | (simp [*]; done)), H', ⟨Nat.le_refl _⟩, ⟨by repeat (first | (with_reducible first | exact HB.out | apply below_alloc | apply pw_below_drewN | apply below_drew1) | exact HB.out)⟩⟩
        case round =>
          clear H'
          try clear c1
          try clear p2
          try clear c3
          try clear c4
          try clear c5
          try clear c6
          try clear p2
          obtain ⟨x5_2, rfl, HA, HK2, HB⟩ := hrel
          cases gk with
          | zero => exact absurd HA.out (by simp [spinnakerlaw23_EventAsks.l0])
          | succ k2 =>
            have H := HA.out
            clear HA
            simp only [spinnakerlaw23_EventAsks.l0] at H
            by_cases c9 : x5_2 < (l0.length : Int)
            · rw [if_pos c9] at H
              have c9b0 : decide (x5_2 < (l0.length : Int)) = true := decide_eq_true c9
              clear c9
              by_cases c10 : 0 ≤ x5_2
              · rw [if_pos c10] at H
                have c10b0 : decide (0 ≤ x5_2) = true := decide_eq_true c10
                clear c10
                replace H := Option.bind_eq_some_iff.mp H
                obtain ⟨t341, A110, H⟩ := H
                replace H : ((spinnakerref18_MayEvent.f k2 ((rd_T50 l0 x5_2).f0) ((rd_T50 l0 x5_2).f1) ((rd_T50 l0 x5_2).f2)).bind fun t343 => (if (t341 != t343) = true then (some false) else (spinnakerlaw23_EventAsks.l0 k2 l0 l1 (wrap64 (x5_2 + 1))))) = some r := H
                have A11 := Aside0.mk A110
                clear A110
                replace H := Option.bind_eq_some_iff.mp H
                obtain ⟨t343, A120, H⟩ := H
                replace H : (if (t341 != t343) = true then (some false) else (spinnakerlaw23_EventAsks.l0 k2 l0 l1 (wrap64 (x5_2 + 1)))) = some r := H
                have A12 := Aside0.mk A120
                clear A120
                by_cases c13 : (t341 != t343) = true
                · rw [if_pos c13] at H
                  have c13b0 : (t341 != t343) = true := c13
                  (try (have c13b1 : decide (t341 = t343) = false := by simpa using c13))
                  (try (have c13b2 : (t341 == t343) = false := by simpa using c13))
                  (try (have c13b3 : ¬ (t341 = t343) := by simpa using c13))
                  clear c13
                  rw [hrt.out] at H
                  exact absurd H (by simp)
                · rw [if_neg c13] at H
                  have c13b0 : (t341 != t343) = false := by simpa using c13
                  (try (have c13b1 : decide (t341 = t343) = true := by simpa using c13))
                  (try (have c13b2 : (t341 == t343) = true := by simpa using c13))
                  clear c13
                  have H' := Aside0.mk H
                  clear H
                  try go_wp2
                  have n0_ := Aside0.mk (below_drew1 HB.out)
                  clear HB
                  have HB := n0_
                  clear n0_
                  have p340 : 0 ≤ (x5_2 : Int) := of_decide_eq_true (by first | (with_reducible assumption) | assumption)
                  have q340 : x5_2 < (l0.length : Int) := of_decide_eq_true (by first | (with_reducible assumption) | assumption)
                  obtain ⟨ad340, e340, hx340_0, hx340_1, hx340_2⟩ := at_T50 HR0.out x5_2 p340 q340
                  have hw340_2 := hx340_2
                  have hw340_1 := hx340_1
                  have hw340_0 := hx340_0
                  cases e340
                  replace hx340_0 := (HB.out.cell (World.block_lt_of_cell? w _ hx340_0)).trans hx340_0
                  replace hx340_1 := (HB.out.cell (World.block_lt_of_cell? w _ hx340_1)).trans hx340_1
                  replace hx340_2 := (HB.out.cell (World.block_lt_of_cell? w _ hx340_2)).trans hx340_2
                  replace p340 := eq_true p340
                  replace q340 := eq_true q340
                  have p342 : 0 ≤ (x5_2 : Int) := of_decide_eq_true (by first | (with_reducible assumption) | assumption)
                  have q342 : x5_2 < (l0.length : Int) := of_decide_eq_true (by first | (with_reducible assumption) | assumption)
                  obtain ⟨ad342, e342, hx342_0, hx342_1, hx342_2⟩ := at_T50 HR0.out x5_2 p342 q342
                  have hw342_2 := hx342_2
                  have hw342_1 := hx342_1
                  have hw342_0 := hx342_0
                  obtain rfl : ad340 = ad342 := (by injection e342)
                  replace hx342_0 := (HB.out.cell (World.block_lt_of_cell? w _ hx342_0)).trans hx342_0
                  replace hx342_1 := (HB.out.cell (World.block_lt_of_cell? w _ hx342_1)).trans hx342_1
                  replace hx342_2 := (HB.out.cell (World.block_lt_of_cell? w _ hx342_2)).trans hx342_2
                  replace p342 := eq_true p342
                  replace q342 := eq_true q342
                  refine start_ (n := 11) (S := fun w' => w'.cell? (ad340.add ((x5_2).toNat * 3)) = some (.int .i64 ((rd_T50 l0 x5_2).f0)) ∧ w'.cell? ⟨(ad340.add ((x5_2).toNat * 3)).block, (ad340.add ((x5_2).toNat * 3)).off + 1, none⟩ = some (.int .i64 ((rd_T50 l0 x5_2).f1)) ∧ w'.cell? ⟨(ad340.add ((x5_2).toNat * 3)).block, (ad340.add ((x5_2).toNat * 3)).off + 2, none⟩ = some (.string ((rd_T50 l0 x5_2).f2)) ∧ w'.cell? (ad340.add ((x5_2).toNat * 3)) = some (.int .i64 ((rd_T50 l0 x5_2).f0)) ∧ w'.cell? ⟨(ad340.add ((x5_2).toNat * 3)).block, (ad340.add ((x5_2).toNat * 3)).off + 1, none⟩ = some (.int .i64 ((rd_T50 l0 x5_2).f1)) ∧ w'.cell? ⟨(ad340.add ((x5_2).toNat * 3)).block, (ad340.add ((x5_2).toNat * 3)).off + 2, none⟩ = some (.string ((rd_T50 l0 x5_2).f2))) (ds := []) #[false, false, false, false, false, false, false, false, false, false, false] (by kernel_rfl) rfl rfl ⟨((HB.out.cell (World.block_lt_of_cell? w _ hw340_0)).trans hw340_0), ((HB.out.cell (World.block_lt_of_cell? w _ hw340_1)).trans hw340_1), ((HB.out.cell (World.block_lt_of_cell? w _ hw340_2)).trans hw340_2), ((HB.out.cell (World.block_lt_of_cell? w _ hw342_0)).trans hw342_0), ((HB.out.cell (World.block_lt_of_cell? w _ hw342_1)).trans hw342_1), ((HB.out.cell (World.block_lt_of_cell? w _ hw342_2)).trans hw342_2)⟩ (fun hHeld => ?_); refine with_tabW spinnakerlaw23_EventAsks.tab6 spinnakerlaw23_EventAsks.bits6 (fun HT_ HW_ => ?_)
                  generalize wr.drew = w14 at HB hx340_0 hx340_1 hx340_2 hx342_0 hx342_1 hx342_2 hHeld ⊢
                  refine pure_ (i := 0) (N := some 31) (v := ?_) (a' := ?_) #[true, false, false, false, false, false, false, false, false, false, false] rfl rfl (any_of HT_.out (by kernel_rfl)) (fun _ _ _ h => h) (Or.inl ⟨by rfl, ?_⟩) ?_ ?_
                  rotate_left
                  · intro w'
                    go_simp
                    with_reducible rfl
                  rotate_left
                  · simp only [Act.put, List.setIfInBounds_toArray, List.set_cons_zero, List.set_cons_succ, i64_w, i32_w]
                    rfl
                  refine pure_ (i := 1) (N := some 32) (v := ?_) (a' := ?_) #[true, true, false, false, false, false, false, false, false, false, false] rfl rfl (any_of HT_.out (by kernel_rfl)) (fun _ _ _ h => h) (Or.inl ⟨by rfl, ?_⟩) ?_ ?_
                  rotate_left
                  · intro w'
                    go_simp
                    with_reducible rfl
                  rotate_left
                  · simp only [Act.put, List.setIfInBounds_toArray, List.set_cons_zero, List.set_cons_succ, i64_w, i32_w]
                    rfl
                  refine pure_ (i := 2) (N := some 33) (v := ?_) (a' := ?_) #[true, true, true, false, false, false, false, false, false, false, false] rfl rfl (any_of HT_.out (by kernel_rfl)) (fun _ _ _ h => h) (Or.inl ⟨by rfl, ?_⟩) ?_ ?_
                  rotate_left
                  · intro w'
                    go_simp
                    with_reducible rfl
                  rotate_left
                  · simp only [Act.put, List.setIfInBounds_toArray, List.set_cons_zero, List.set_cons_succ, i64_w, i32_w]
                    rfl
                  refine pure_ (i := 5) (N := some 36) (v := ?_) (a' := ?_) #[true, true, true, false, false, true, false, false, false, false, false] rfl rfl (any_of HT_.out (by kernel_rfl)) (fun _ _ _ h => h) (Or.inl ⟨by rfl, ?_⟩) ?_ ?_
                  rotate_left
                  · intro w'
                    go_simp
                    with_reducible rfl
                  rotate_left
                  · simp only [Act.put, List.setIfInBounds_toArray, List.set_cons_zero, List.set_cons_succ, i64_w, i32_w]
                    rfl
                  refine pure_ (i := 6) (N := some 37) (v := ?_) (a' := ?_) #[true, true, true, false, false, true, true, false, false, false, false] rfl rfl (any_of HT_.out (by kernel_rfl)) (fun _ _ _ h => h) (Or.inl ⟨by rfl, ?_⟩) ?_ ?_
                  rotate_left
                  · intro w'
                    go_simp
                    with_reducible rfl
                  rotate_left
                  · simp only [Act.put, List.setIfInBounds_toArray, List.set_cons_zero, List.set_cons_succ, i64_w, i32_w]
                    rfl
                  refine pure_ (i := 7) (N := some 38) (v := ?_) (a' := ?_) #[true, true, true, false, false, true, true, true, false, false, false] rfl rfl (any_of HT_.out (by kernel_rfl)) (fun _ _ _ h => h) (Or.inl ⟨by rfl, ?_⟩) ?_ ?_
                  rotate_left
                  · intro w'
                    go_simp
                    with_reducible rfl
                  rotate_left
                  · simp only [Act.put, List.setIfInBounds_toArray, List.set_cons_zero, List.set_cons_succ, i64_w, i32_w]
                    rfl
                  refine take_ (i := 3) (N := some 34) (v := ?_) (a' := ?_) #[true, true, true, true, false, true, true, true, false, false, false] rfl rfl (take_ofW HT_.out HW_.out (by kernel_rfl)) (fun _ _ _ h => h) (Or.inl ⟨by rfl, ?_⟩) hHeld ?_ ?_
                  rotate_left
                  · rintro w' ⟨s0, s1, s2, s3, s4, s5⟩
                    go_simp
                    with_reducible rfl
                  rotate_left
                  · simp only [Act.put, List.setIfInBounds_toArray, List.set_cons_zero, List.set_cons_succ, i64_w, i32_w]
                    rfl
                  refine take_ (i := 8) (N := some 39) (v := ?_) (a' := ?_) #[true, true, true, true, false, true, true, true, true, false, false] rfl rfl (take_ofW HT_.out HW_.out (by kernel_rfl)) (fun _ _ _ h => h) (Or.inl ⟨by rfl, ?_⟩) hHeld ?_ ?_
                  rotate_left
                  · rintro w' ⟨s0, s1, s2, s3, s4, s5⟩
                    go_simp
                    with_reducible rfl
                  rotate_left
                  · simp only [Act.put, List.setIfInBounds_toArray, List.set_cons_zero, List.set_cons_succ, i64_w, i32_w]
                    rfl
                  refine one_ (i := 4) (N := some 35) #[true, true, true, true, true, true, true, true, true, false, false] rfl rfl (one_of HT_.out (by kernel_rfl)) (by decide) (fun K hK => ?_)
                  refine goes_ Try.func39 (by kernel_rfl) rfl #[.agg #[.int .i64 ((rd_T50 l0 x5_2).f0), .int .i64 ((rd_T50 l0 x5_2).f1), .string ((rd_T50 l0 x5_2).f2)]] (by rfl) rfl rfl (by (try simp only [List.map_toArray, List.map_cons, List.map_nil]); first | done | rfl | (simp only [List.length_drop, List.length_take]; rfl)) ?_
                  with_reducible refine (event_May.calls k2 ((rd_T50 l0 x5_2).f0) ((rd_T50 l0 x5_2).f1) ((rd_T50 l0 x5_2).f2) t341 _ A11.out).mono ?_
                  rintro e w15 ⟨rfl, hb⟩
                  refine ⟨_, rfl, ?_⟩
                  have n0_ := Aside0.mk (below_step (by repeat (first | (with_reducible first | exact HB.out | apply below_alloc | apply pw_below_drewN | apply below_drew1) | exact HB.out)) hb)
                  clear HB
                  have HB := n0_
                  clear n0_
                  (try clear hb)
                  (try clear hb2)
                  (try clear hk)
                  (try clear hi)
                  refine hK.out _ _ ⟨((HB.out.cell (World.block_lt_of_cell? w _ hw340_0)).trans hw340_0), ((HB.out.cell (World.block_lt_of_cell? w _ hw340_1)).trans hw340_1), ((HB.out.cell (World.block_lt_of_cell? w _ hw340_2)).trans hw340_2), ((HB.out.cell (World.block_lt_of_cell? w _ hw342_0)).trans hw342_0), ((HB.out.cell (World.block_lt_of_cell? w _ hw342_1)).trans hw342_1), ((HB.out.cell (World.block_lt_of_cell? w _ hw342_2)).trans hw342_2)⟩ (fun hHeld => ?_)
                  clear hK K
                  refine norm_ (a' := ?_) ?_ ?_
                  rotate_left
                  · show Act.put _ (some 35) _ = _
                    simp only [Act.put, List.setIfInBounds_toArray, List.set_cons_zero, List.set_cons_succ, i64_w, i32_w]
                    rfl
                  refine one_ (i := 9) (N := some 40) #[true, true, true, true, true, true, true, true, true, true, false] rfl rfl (one_of HT_.out (by kernel_rfl)) (by decide) (fun K hK => ?_)
                  refine goes_ Try.func41 (by kernel_rfl) rfl #[.agg #[.int .i64 ((rd_T50 l0 x5_2).f0), .int .i64 ((rd_T50 l0 x5_2).f1), .string ((rd_T50 l0 x5_2).f2)]] (by rfl) rfl rfl (by (try simp only [List.map_toArray, List.map_cons, List.map_nil]); first | done | rfl | (simp only [List.length_drop, List.length_take]; rfl)) ?_
                  with_reducible refine (spinnakerref18_MayEvent.calls k2 ((rd_T50 l0 x5_2).f0) ((rd_T50 l0 x5_2).f1) ((rd_T50 l0 x5_2).f2) t343 _ A12.out).mono ?_
                  rintro e w16 ⟨rfl, hb⟩
                  refine ⟨_, rfl, ?_⟩
                  have n0_ := Aside0.mk (below_step (by repeat (first | (with_reducible first | exact HB.out | apply below_alloc | apply pw_below_drewN | apply below_drew1) | exact HB.out)) hb)
                  clear HB
                  have HB := n0_
                  clear n0_
                  (try clear hb)
                  (try clear hb2)
                  (try clear hk)
                  (try clear hi)
                  refine hK.out _ _ ⟨((HB.out.cell (World.block_lt_of_cell? w _ hw340_0)).trans hw340_0), ((HB.out.cell (World.block_lt_of_cell? w _ hw340_1)).trans hw340_1), ((HB.out.cell (World.block_lt_of_cell? w _ hw340_2)).trans hw340_2), ((HB.out.cell (World.block_lt_of_cell? w _ hw342_0)).trans hw342_0), ((HB.out.cell (World.block_lt_of_cell? w _ hw342_1)).trans hw342_1), ((HB.out.cell (World.block_lt_of_cell? w _ hw342_2)).trans hw342_2)⟩ (fun hHeld => ?_)
                  clear hK K
                  refine norm_ (a' := ?_) ?_ ?_
                  rotate_left
                  · show Act.put _ (some 40) _ = _
                    simp only [Act.put, List.setIfInBounds_toArray, List.set_cons_zero, List.set_cons_succ, i64_w, i32_w]
                    rfl
                  refine pure_ (i := 10) (N := some 41) (v := ?_) (a' := ?_) #[true, true, true, true, true, true, true, true, true, true, true] rfl rfl (any_of HT_.out (by kernel_rfl)) (fun _ _ _ h => h) (Or.inl ⟨by rfl, ?_⟩) ?_ ?_
                  rotate_left
                  · intro w'
                    go_simp
                    with_reducible rfl
                  rotate_left
                  · simp only [Act.put, List.setIfInBounds_toArray, List.set_cons_zero, List.set_cons_succ, i64_w, i32_w]
                    rfl
                  refine done_ (done_of HT_.out (by kernel_rfl)) ?_
                  try go_wp2
                  go_roundg k2
                  case measure => have := HJ2.out; have := HK2.out; omega
                  case rel => exact ⟨(wrap64 (x5_2 + 1)), (by first | rfl | (simp; done) | (simp [isEmpty_bne, isEmpty_beq]; done) | (simp [*]; done)), H', ⟨by have := HJ2.out; have := HK2.out; omega⟩, ⟨by repeat (first | (with_reducible first | exact HB.out | apply below_alloc | apply pw_below_drewN | apply below_drew1) | exact HB.out)⟩⟩
              · rw [if_neg c10] at H
                exact absurd H (by simp)
            · rw [if_neg c9] at H
              have c9b0 : decide (x5_2 < (l0.length : Int)) = false := decide_eq_false c9
              clear c9
              replace H := Option.bind_eq_some_iff.mp H
              obtain ⟨⟨t344, t345⟩, A170, H⟩ := H
              replace H : ((spinnakerref18_PutEvents.f k2 l0).bind fun bt348 => ((event_All.f k2 l1).bind fun bt350 => ((spinnakerref18_AllEvents.f k2 (strOfNums l1)).bind fun bt355 => ((spinnakerlaw23_told.f k2).bind fun t360 => (if t360 = true then (if t345 = bt348.2 then (if (strOfNums t344).toList = bt348.1.toList then (if bt350.2.1 = bt355.2.1 then (if bt350.2.2 = bt355.2.2 then ((spinnakerlaw23_events.f k2 bt350.1 bt355.1).bind fun t361 => (some t361)) else (some false)) else (some false)) else (some false)) else (some false)) else (some false)))))) = some r := H
              have A17 := Aside0.mk A170
              clear A170
              replace H := Option.bind_eq_some_iff.mp H
              obtain ⟨⟨t348, t349⟩, A180, H⟩ := H
              replace H : ((event_All.f k2 l1).bind fun bt350 => ((spinnakerref18_AllEvents.f k2 (strOfNums l1)).bind fun bt355 => ((spinnakerlaw23_told.f k2).bind fun t360 => (if t360 = true then (if t345 = t349 then (if (strOfNums t344).toList = t348.toList then (if bt350.2.1 = bt355.2.1 then (if bt350.2.2 = bt355.2.2 then ((spinnakerlaw23_events.f k2 bt350.1 bt355.1).bind fun t361 => (some t361)) else (some false)) else (some false)) else (some false)) else (some false)) else (some false))))) = some r := H
              have A18 := Aside0.mk A180
              clear A180
              replace H := Option.bind_eq_some_iff.mp H
              obtain ⟨⟨t350, t351, t352⟩, A190, H⟩ := H
              replace H : ((spinnakerref18_AllEvents.f k2 (strOfNums l1)).bind fun bt355 => ((spinnakerlaw23_told.f k2).bind fun t360 => (if t360 = true then (if t345 = t349 then (if (strOfNums t344).toList = t348.toList then (if t351 = bt355.2.1 then (if t352 = bt355.2.2 then ((spinnakerlaw23_events.f k2 t350 bt355.1).bind fun t361 => (some t361)) else (some false)) else (some false)) else (some false)) else (some false)) else (some false)))) = some r := H
              have A19 := Aside0.mk A190
              clear A190
              replace H := Option.bind_eq_some_iff.mp H
              obtain ⟨⟨t355, t356, t357⟩, A200, H⟩ := H
              replace H : ((spinnakerlaw23_told.f k2).bind fun t360 => (if t360 = true then (if t345 = t349 then (if (strOfNums t344).toList = t348.toList then (if t351 = t356 then (if t352 = t357 then ((spinnakerlaw23_events.f k2 t350 t355).bind fun t361 => (some t361)) else (some false)) else (some false)) else (some false)) else (some false)) else (some false))) = some r := H
              have A20 := Aside0.mk A200
              clear A200
              replace H := Option.bind_eq_some_iff.mp H
              obtain ⟨t360, A210, H⟩ := H
              replace H : (if t360 = true then (if t345 = t349 then (if (strOfNums t344).toList = t348.toList then (if t351 = t356 then (if t352 = t357 then ((spinnakerlaw23_events.f k2 t350 t355).bind fun t361 => (some t361)) else (some false)) else (some false)) else (some false)) else (some false)) else (some false)) = some r := H
              have A21 := Aside0.mk A210
              clear A210
              by_cases c22 : t360 = true
              · subst c22
                have H1 : (if t345 = t349 then (if (strOfNums t344).toList = t348.toList then (if t351 = t356 then (if t352 = t357 then ((spinnakerlaw23_events.f k2 t350 t355).bind fun t361 => (some t361)) else (some false)) else (some false)) else (some false)) else (some false)) = some r := by rw [if_pos rfl] at H; exact H
                clear H
                have H := H1
                clear H1
                by_cases c23 : t345 = t349
                · rw [if_pos c23] at H
                  have c23b0 : (t345 == t349) = true := beq_iff_eq.mpr c23
                  have c23b1 : (t345 != t349) = false := bne_eq_false_iff_eq.mpr c23
                  clear c23
                  by_cases c24 : (strOfNums t344).toList = t348.toList
                  · rw [if_pos c24] at H
                    have c24b0 : ((strOfNums t344).toList == t348.toList) = true := beq_iff_eq.mpr c24
                    have c24b1 : ((strOfNums t344).toList != t348.toList) = false := bne_eq_false_iff_eq.mpr c24
                    clear c24
                    by_cases c25 : t351 = t356
                    · rw [if_pos c25] at H
                      have c25b0 : (t351 == t356) = true := beq_iff_eq.mpr c25
                      have c25b1 : (t351 != t356) = false := bne_eq_false_iff_eq.mpr c25
                      clear c25
                      by_cases c26 : t352 = t357
                      · rw [if_pos c26] at H
                        have c26b0 : (t352 == t357) = true := beq_iff_eq.mpr c26
                        have c26b1 : (t352 != t357) = false := bne_eq_false_iff_eq.mpr c26
                        clear c26
                        replace H := Option.bind_eq_some_iff.mp H
                        obtain ⟨t361, A270, H⟩ := H
                        replace H : (some t361) = some r := H
                        have A27 := Aside0.mk A270
                        clear A270
                        obtain rfl := Option.some.inj H
                        go_wp2_with (first | ((with_reducible refine gate_callee (f := 37) rfl ?_); refine goesL_ (some 44) rfl rfl Try.func37 (by kernel_rfl) rfl #[.slice A0 l0.length c0] rfl (by (try simp only [List.map_toArray, List.map_cons, List.map_nil]); first | done | rfl | (simp only [List.length_drop, List.length_take]; rfl)) ?_; (with_reducible refine (event_Put.calls k2 _ _ l0 t344 t345 _ ?side1 ?side2 A17.out).mono ?_); (case side1 => repeat (first | exact (Kd.C_below HR0.out HB.out) | (with_reducible refine Kd.C_alloc ?_ _) | (with_reducible refine Kd.C_drewN ?_ _) | (with_reducible refine Kd.C_drew ?_))); (case side2 => exact HC0.out); rintro e w28 ⟨v346, rfl, ho0, hb⟩; refine ⟨_, rfl, ?_⟩; have n0_ := Aside0.mk (Kd.R_lower ho0 (below_size (by repeat (first | (with_reducible first | exact HB.out | apply below_alloc | apply pw_below_drewN | apply below_drew1) | exact HB.out)))); have n1_ := Aside0.mk (below_step (by repeat (first | (with_reducible first | exact HB.out | apply below_alloc | apply pw_below_drewN | apply below_drew1) | exact HB.out)) hb); clear HB; have HO347 := n0_; have HB := n1_; clear n0_ n1_; (try clear hb); (try clear hb2); (try clear hk); (try clear hi); (try clear ho0)) | ((with_reducible refine gate_callee (f := 42) rfl ?_); refine goesL_ (some 49) rfl rfl Try.func42 (by kernel_rfl) rfl #[.slice A0 l0.length c0] rfl (by (try simp only [List.map_toArray, List.map_cons, List.map_nil]); first | done | rfl | (simp only [List.length_drop, List.length_take]; rfl)) ?_; (with_reducible refine (spinnakerref18_PutEvents.calls k2 _ _ l0 t348 t349 _ ?side1 ?side2 A18.out).mono ?_); (case side1 => repeat (first | exact (Kd.C_below HR0.out HB.out) | (with_reducible refine Kd.C_alloc ?_ _) | (with_reducible refine Kd.C_drewN ?_ _) | (with_reducible refine Kd.C_drew ?_))); (case side2 => exact HC0.out); rintro e w29 ⟨rfl, hb⟩; refine ⟨_, rfl, ?_⟩; have n0_ := Aside0.mk (Kd.R_below (by (with_reducible repeat (first | apply Kd.R_alloc | apply Kd.R_drewN | apply Kd.R_drew)); exact HO347.out) hb); have n1_ := Aside0.mk (below_step (by repeat (first | (with_reducible first | exact HB.out | apply below_alloc | apply pw_below_drewN | apply below_drew1) | exact HB.out)) hb); clear HO347; clear HB; have HO347 := n0_; have HB := n1_; clear n0_ n1_; (try clear hb); (try clear hb2); (try clear hk); (try clear hi)) | ((with_reducible refine gate_callee (f := 43) rfl ?_); refine goesL_ (some 54) rfl rfl Try.func43 (by kernel_rfl) rfl #[.slice A1 l1.length c1] rfl (by (try simp only [List.map_toArray, List.map_cons, List.map_nil]); first | done | rfl | (simp only [List.length_drop, List.length_take]; rfl)) ?_; (with_reducible refine (event_All.calls k2 _ _ l1 t350 t351 t352 _ ?side1 ?side2 A19.out).mono ?_); (case side1 => repeat (first | exact (Kd.C_below HR1.out HB.out) | (with_reducible refine Kd.C_alloc ?_ _) | (with_reducible refine Kd.C_drewN ?_ _) | (with_reducible refine Kd.C_drew ?_))); (case side2 => exact HC1.out); rintro e w30 ⟨v353, rfl, ho0, hb⟩; refine ⟨_, rfl, ?_⟩; have n0_ := Aside0.mk (Kd.R_below (by (with_reducible repeat (first | apply Kd.R_alloc | apply Kd.R_drewN | apply Kd.R_drew)); exact HO347.out) hb); have n1_ := Aside0.mk (Kd.R_lower ho0 (below_size (by repeat (first | (with_reducible first | exact HB.out | apply below_alloc | apply pw_below_drewN | apply below_drew1) | exact HB.out)))); have n2_ := Aside0.mk (below_step (by repeat (first | (with_reducible first | exact HB.out | apply below_alloc | apply pw_below_drewN | apply below_drew1) | exact HB.out)) hb); clear HO347; clear HB; have HO347 := n0_; have HO354 := n1_; have HB := n2_; clear n0_ n1_ n2_; (try clear hb); (try clear hb2); (try clear hk); (try clear hi); (try clear ho0)) | ((with_reducible refine gate_dst (N := 60) rfl ?_); (try (refine gate_guard (by rfl) ?_; dsimp only)); refine wpList_strof (src := 51) (dst := 9) (A := A1) (c := c1) (xs := l1) rfl rfl Try.underlying51 Try.underlying5 Try.underlying9 rfl (by first | rfl | exact rfl) (Kd.C_below HR1.out (by repeat (first | (with_reducible first | exact HB.out | apply below_alloc | apply pw_below_drewN | apply below_drew1) | exact HB.out))) ?_) | ((with_reducible refine gate_callee (f := 44) rfl ?_); refine goesL_ (some 61) rfl rfl Try.func44 (by kernel_rfl) rfl #[.string (strOfNums l1)] rfl (by (try simp only [List.map_toArray, List.map_cons, List.map_nil]); first | done | rfl | (simp only [List.length_drop, List.length_take]; rfl)) ?_; (with_reducible refine (spinnakerref18_AllEvents.calls k2 (strOfNums l1) t355 t356 t357 _ A20.out).mono ?_); rintro e w31 ⟨v358, rfl, ho0, hb⟩; refine ⟨_, rfl, ?_⟩; have n0_ := Aside0.mk (Kd.R_below (by (with_reducible repeat (first | apply Kd.R_alloc | apply Kd.R_drewN | apply Kd.R_drew)); exact HO347.out) hb); have n1_ := Aside0.mk (Kd.R_elder' (by (with_reducible repeat (first | apply Kd.R_alloc | apply Kd.R_drewN | apply Kd.R_drew)); exact HO354.out) (Kd.R_base ho0) hb); have n2_ := Aside0.mk (Kd.R_lower (Kd.R_new' ho0 (Kd.R_lt (by (with_reducible repeat (first | apply Kd.R_alloc | apply Kd.R_drewN | apply Kd.R_drew)); exact HO354.out))) (below_size (by repeat (first | (with_reducible first | exact HB.out | apply below_alloc | apply pw_below_drewN | apply below_drew1) | exact HB.out)))); have n3_ := Aside0.mk (below_step (by repeat (first | (with_reducible first | exact HB.out | apply below_alloc | apply pw_below_drewN | apply below_drew1) | exact HB.out)) hb); clear HO347; clear HO354; clear HB; have HO347 := n0_; have HO354 := n1_; have HO359 := n2_; have HB := n3_; clear n0_ n1_ n2_ n3_; (try clear hb); (try clear hb2); (try clear hk); (try clear hi); (try clear ho0)) | ((with_reducible refine gate_callee (f := 38) rfl ?_); refine goesL_ (some 65) rfl rfl Try.func38 (by kernel_rfl) rfl #[] rfl (by (try simp only [List.map_toArray, List.map_cons, List.map_nil]); first | done | rfl | (simp only [List.length_drop, List.length_take]; rfl)) ?_; (with_reducible refine (spinnakerlaw23_told.calls k2  true _ A21.out).mono ?_); rintro e w32 ⟨rfl, hb⟩; refine ⟨_, rfl, ?_⟩; have n0_ := Aside0.mk (Kd.R_below (by (with_reducible repeat (first | apply Kd.R_alloc | apply Kd.R_drewN | apply Kd.R_drew)); exact HO347.out) hb); have n1_ := Aside0.mk (Kd.R_below (by (with_reducible repeat (first | apply Kd.R_alloc | apply Kd.R_drewN | apply Kd.R_drew)); exact HO354.out) hb); have n2_ := Aside0.mk (Kd.R_below (by (with_reducible repeat (first | apply Kd.R_alloc | apply Kd.R_drewN | apply Kd.R_drew)); exact HO359.out) hb); have n3_ := Aside0.mk (below_step (by repeat (first | (with_reducible first | exact HB.out | apply below_alloc | apply pw_below_drewN | apply below_drew1) | exact HB.out)) hb); clear HO347; clear HO354; clear HO359; clear HB; have HO347 := n0_; have HO354 := n1_; have HO359 := n2_; have HB := n3_; clear n0_ n1_ n2_ n3_; (try clear hb); (try clear hb2); (try clear hk); (try clear hi); have hcv33 := own_string (P := Try.prog) Try.underlying51 Try.underlying5 Try.underlying9 (Kd.own_of_R HO347.out); obtain ⟨Ao34, co34, eo34⟩ := Kd.R_slice HO354.out; subst eo34; obtain ⟨Ao35, co35, eo35⟩ := Kd.R_slice HO359.out; subst eo35) | (go_at_call 45; (with_reducible refine (spinnakerlaw23_events.calls k2 _ _ t350 _ _ t355 t361 _ ?side1 ?side2 ?side3 ?side4 A27.out).mono ?_); (case side1 => repeat (first | exact (Kd.R_reads' HO354.out).2.2 | (with_reducible refine Kd.C_alloc ?_ _) | (with_reducible refine Kd.C_drewN ?_ _) | (with_reducible refine Kd.C_drew ?_))); (case side2 => exact (Kd.R_reads' HO354.out).2.1); (case side3 => repeat (first | exact (Kd.R_reads' HO359.out).2.2 | (with_reducible refine Kd.C_alloc ?_ _) | (with_reducible refine Kd.C_drewN ?_ _) | (with_reducible refine Kd.C_drew ?_))); (case side4 => exact (Kd.R_reads' HO359.out).2.1); rintro e w' ⟨rfl, ⟨nd, rfl⟩⟩))
                        go_ret
                        exact ⟨by first | rfl | (simp only [tdiv_top]; rfl) | (simp [errW_none, errW_some] <;> rfl) | (simp [*, errW_none, errW_some] <;> rfl), by repeat (first | (with_reducible first | exact HB.out | apply below_alloc | apply pw_below_drewN | apply below_drew1) | exact HB.out)⟩
                      · rw [if_neg c26] at H
                        have c26b0 : (t352 == t357) = false := beq_eq_false_iff_ne.mpr c26
                        have c26b1 : (t352 != t357) = true := bne_iff_ne.mpr c26
                        rw [hrt.out] at H
                        exact absurd H (by simp)
                    · rw [if_neg c25] at H
                      have c25b0 : (t351 == t356) = false := beq_eq_false_iff_ne.mpr c25
                      have c25b1 : (t351 != t356) = true := bne_iff_ne.mpr c25
                      rw [hrt.out] at H
                      exact absurd H (by simp)
                  · rw [if_neg c24] at H
                    have c24b0 : ((strOfNums t344).toList == t348.toList) = false := beq_eq_false_iff_ne.mpr c24
                    have c24b1 : ((strOfNums t344).toList != t348.toList) = true := bne_iff_ne.mpr c24
                    rw [hrt.out] at H
                    exact absurd H (by simp)
                · rw [if_neg c23] at H
                  have c23b0 : (t345 == t349) = false := beq_eq_false_iff_ne.mpr c23
                  have c23b1 : (t345 != t349) = true := bne_iff_ne.mpr c23
                  rw [hrt.out] at H
                  exact absurd H (by simp)
              · replace c22 := Bool.eq_false_iff.mpr c22
                subst c22
                have H1 : (some false) = some r := by rw [if_neg (show ¬ (false = true) by decide)] at H; exact H
                clear H
                have H := H1
                clear H1
                rw [hrt.out] at H
                exact absurd H (by simp)
def W50 (s : S50) : Prop := (fun s => (Lit.int .i64 s).wf = true) s.f0 ∧ (fun s => (Lit.int .i64 s).wf = true) s.f1 ∧ (fun s => s.size ≤ maxLen) s.f2
def spinnakerlaw23_EventAsks.Pure : Prop := ∀ (l0 : List (S50)) (l1 : List Int), (fun s => s.length ≤ maxLen ∧ ∀ y ∈ s, W50 y) l0 → l0.length * 32 ≤ 140737488351232 → (fun s => s.length ≤ maxLen ∧ ∀ y ∈ s, (fun s => (Lit.int .u8 s).wf = true) y) l1 → l1.length * 1 ≤ 140737488351232 → ∃ k, spinnakerlaw23_EventAsks.f k l0 l1 = some true

end Go.Proofs.Ytcdfoicebcmlaaa.PEvent
