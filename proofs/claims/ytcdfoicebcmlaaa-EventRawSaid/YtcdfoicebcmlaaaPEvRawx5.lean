-- Printed by this session's own program (wip/tools/widen.py over the kit's print): not the kit's print itself
import Derived.Test.YtcdfoicebcmlaaaPEvRawx0
import Derived.Test.YtcdfoicebcmlaaaPEvRawx2
import Derived.Test.YtcdfoicebcmlaaaPEvRawx3
import Derived.Test.YtcdfoicebcmlaaaPEvRawx4
namespace Go.Proofs.Ytcdfoicebcmlaaa.PEvRaw
open Go.RowKit Go.Proofs.YtcdfoicebcmlaaaW.PrintWords Go.Proofs.YtcdfoicebcmlaaaW.PrintLast Go.Proofs.YtcdfoicebcmlaaaW.PrintMore
attribute [local go_sem] max2_int min2_int max_two min_two max_three min_three max_four min_four   -- for this text's walks alone
set_option linter.unusedVariables false
set_option linter.unusedSimpArgs false

/-! ### spinnakerlaw23_EventRaw: function 13 -/
mutual
def spinnakerlaw23_EventRaw.j0 : Nat → List Int → List (S50) → Int → Int → List Int → Bool → Option (Bool)
  | 0, _, _, _, _, _, _ => none
  | k + 1, x0, x3, x4, x5, x6, x42 => if x42 = true then (some false) else (spinnakerlaw23_EventRaw.l0 k x0 x3 x4 x5 x6 0)
def spinnakerlaw23_EventRaw.l0 : Nat → List Int → List (S50) → Int → Int → List Int → Int → Option (Bool)
  | 0, _, _, _, _, _, _ => none
  | k + 1, x0, x3, x4, x5, x6, x8 => if x8 < (x3.length : Int) then (if 0 ≤ x8 then ((event_May.f k ((rd_T50 x3 x8).f0) ((rd_T50 x3 x8).f1) ((rd_T50 x3 x8).f2)).bind fun t197 => (if t197 = true then (spinnakerlaw23_EventRaw.l0 k x0 x3 x4 x5 x6 (wrap64 (x8 + 1))) else (some false))) else (none)) else ((spinnakerlaw23_told.f k).bind fun t198 => (if t198 = true then (if x4 = 0 then (if x5 = 0 then (if (x6.length : Int) = (x0.length : Int) then (some true) else (if x4 = 4 then (if x5 = (x6.length : Int) then (some (decide (x5 < (x0.length : Int)))) else (some false)) else (some false))) else (if x4 = 4 then (if x5 = (x6.length : Int) then (some (decide (x5 < (x0.length : Int)))) else (some false)) else (some false))) else (if x4 = 4 then (if x5 = (x6.length : Int) then (some (decide (x5 < (x0.length : Int)))) else (some false)) else (some false))) else (some false)))
end
def spinnakerlaw23_EventRaw.f (k : Nat) (l0 : List Int) : Option (Bool) := if (l0.length : Int) > 200 then ((spinnakerlaw23_told.f k).bind fun t185 => (some t185)) else ((event_All.f k l0).bind fun bt186 => ((event_Put.f k bt186.1).bind fun bt191 => (if bt191.2 = 0 then (if (bt191.1.length : Int) > (l0.length : Int) then (spinnakerlaw23_EventRaw.j0 k l0 bt186.1 bt186.2.1 bt186.2.2 bt191.1 true) else (if 0 ≤ (bt191.1.length : Int) then (if (bt191.1.length : Int) ≤ (l0.length : Int) then (spinnakerlaw23_EventRaw.j0 k l0 bt186.1 bt186.2.1 bt186.2.2 bt191.1 ((strOfNums bt191.1).toList != (strOfNums (l0.take ((bt191.1.length : Int) : Int).toNat)).toList)) else (none)) else (none))) else (spinnakerlaw23_EventRaw.j0 k l0 bt186.1 bt186.2.1 bt186.2.2 bt191.1 true))))
theorem spinnakerlaw23_EventRaw.mono_l : ∀ k, (∀ y0 y1 y2 y3 y4 y5, LeO (spinnakerlaw23_EventRaw.j0 k y0 y1 y2 y3 y4 y5) (spinnakerlaw23_EventRaw.j0 (k + 1) y0 y1 y2 y3 y4 y5)) ∧ (∀ y0 y1 y2 y3 y4 y5, LeO (spinnakerlaw23_EventRaw.l0 k y0 y1 y2 y3 y4 y5) (spinnakerlaw23_EventRaw.l0 (k + 1) y0 y1 y2 y3 y4 y5))
  | 0 => ⟨fun _ _ _ _ _ _ r h => by simp [spinnakerlaw23_EventRaw.j0] at h, fun _ _ _ _ _ _ r h => by simp [spinnakerlaw23_EventRaw.l0] at h⟩
  | k + 1 => by
    obtain ⟨ih0, ih1⟩ := spinnakerlaw23_EventRaw.mono_l k
    refine ⟨?_, ?_⟩
    · intro y0 y1 y2 y3 y4 y5
      unfold spinnakerlaw23_EventRaw.j0
      repeat' first
      | (with_reducible exact ih0 _ _ _ _ _ _)
      | (with_reducible exact ih1 _ _ _ _ _ _)
      | (with_reducible exact event_All.mono _ _)
      | (with_reducible exact event_May.mono _ _ _ _)
      | (with_reducible exact event_Put.mono _ _)
      | (with_reducible exact spinnakerlaw23_told.mono _)
      | (with_reducible exact LeO.refl _)
      | (with_reducible exact LeO.none _)
      | (with_reducible refine LeO.ite ?_ ?_)
      | (with_reducible refine LeO.bind ?_ (fun _ => ?_))
      | exact ih0 _ _ _ _ _ _
      | exact ih1 _ _ _ _ _ _
      | exact event_All.mono _ _
      | exact event_May.mono _ _ _ _
      | exact event_Put.mono _ _
      | exact spinnakerlaw23_told.mono _
      | exact LeO.none _
      | refine LeO.ite ?_ ?_
      | refine LeO.bind ?_ (fun _ => ?_)
    · intro y0 y1 y2 y3 y4 y5
      unfold spinnakerlaw23_EventRaw.l0
      repeat' first
      | (with_reducible exact ih0 _ _ _ _ _ _)
      | (with_reducible exact ih1 _ _ _ _ _ _)
      | (with_reducible exact event_All.mono _ _)
      | (with_reducible exact event_May.mono _ _ _ _)
      | (with_reducible exact event_Put.mono _ _)
      | (with_reducible exact spinnakerlaw23_told.mono _)
      | (with_reducible exact LeO.refl _)
      | (with_reducible exact LeO.none _)
      | (with_reducible refine LeO.ite ?_ ?_)
      | (with_reducible refine LeO.bind ?_ (fun _ => ?_))
      | exact ih0 _ _ _ _ _ _
      | exact ih1 _ _ _ _ _ _
      | exact event_All.mono _ _
      | exact event_May.mono _ _ _ _
      | exact event_Put.mono _ _
      | exact spinnakerlaw23_told.mono _
      | exact LeO.none _
      | refine LeO.ite ?_ ?_
      | refine LeO.bind ?_ (fun _ => ?_)
theorem spinnakerlaw23_EventRaw.mono : ∀ a0 k, LeO (spinnakerlaw23_EventRaw.f k a0) (spinnakerlaw23_EventRaw.f (k + 1) a0) := by
  intro a0 k
  obtain ⟨ih0, ih1⟩ := spinnakerlaw23_EventRaw.mono_l k
  unfold spinnakerlaw23_EventRaw.f
  repeat' first
      | (with_reducible exact ih0 _ _ _ _ _ _)
      | (with_reducible exact ih1 _ _ _ _ _ _)
      | (with_reducible exact event_All.mono _ _)
      | (with_reducible exact event_May.mono _ _ _ _)
      | (with_reducible exact event_Put.mono _ _)
      | (with_reducible exact spinnakerlaw23_told.mono _)
      | (with_reducible exact LeO.refl _)
      | (with_reducible exact LeO.none _)
      | (with_reducible refine LeO.ite ?_ ?_)
      | (with_reducible refine LeO.bind ?_ (fun _ => ?_))
      | exact ih0 _ _ _ _ _ _
      | exact ih1 _ _ _ _ _ _
      | exact event_All.mono _ _
      | exact event_May.mono _ _ _ _
      | exact event_Put.mono _ _
      | exact spinnakerlaw23_told.mono _
      | exact LeO.none _
      | refine LeO.ite ?_ ?_
      | refine LeO.bind ?_ (fun _ => ?_)
set_option maxHeartbeats 4000000 in
set_option maxRecDepth 100000 in
theorem spinnakerlaw23_EventRaw.calls (k : Nat) (A0 : Option Addr) (c0 : Nat) (l0 : List Int) (r : Bool) (w : World) (hr0 : Kd.C (Kd.int .u8) w A0 l0.length l0) (hc0 : l0.length ≤ c0) (hrt0 : r = true) (h : spinnakerlaw23_EventRaw.f k l0 = some r) :
    Calls Try.prog 13 #[.slice A0 l0.length c0] w fun e w' => e = .returned (.bool r) ∧ Below w.heap.size w w' := by
  have hu50 := Try.underlying50
  have HR0 := Aside0.mk hr0
  have HC0 := Aside0.mk hc0
  clear hr0 hc0
  have HB := Aside0.mk (Below.refl w.heap.size w)
  have hrt := Aside0.mk hrt0
  clear hrt0
  have H : (if (l0.length : Int) > 200 then ((spinnakerlaw23_told.f k).bind fun t185 => (some t185)) else ((event_All.f k l0).bind fun bt186 => ((event_Put.f k bt186.1).bind fun bt191 => (if bt191.2 = 0 then (if (bt191.1.length : Int) > (l0.length : Int) then (spinnakerlaw23_EventRaw.j0 k l0 bt186.1 bt186.2.1 bt186.2.2 bt191.1 true) else (if 0 ≤ (bt191.1.length : Int) then (if (bt191.1.length : Int) ≤ (l0.length : Int) then (spinnakerlaw23_EventRaw.j0 k l0 bt186.1 bt186.2.1 bt186.2.2 bt191.1 ((strOfNums bt191.1).toList != (strOfNums (l0.take ((bt191.1.length : Int) : Int).toNat)).toList)) else (none)) else (none))) else (spinnakerlaw23_EventRaw.j0 k l0 bt186.1 bt186.2.1 bt186.2.2 bt191.1 true))))) = some r := h
  clear h
  by_cases c2 : (l0.length : Int) > 200
  · rw [if_pos c2] at H
    have c2b0 : decide (200 < (l0.length : Int)) = true := decide_eq_true c2
    have c2b1 : decide (200 < l0.length) = true := decide_eq_true (by omega)
    clear c2
    replace H := Option.bind_eq_some_iff.mp H
    obtain ⟨t185, A30, H⟩ := H
    replace H : (some t185) = some r := H
    have A3 := Aside0.mk A30
    clear A30
    obtain rfl := Option.some.inj H
    go_enter Try.func13, Try.ntmps13
    go_wp2_with (first | (go_at_call 38; (with_reducible refine (spinnakerlaw23_told.calls k  t185 _ A3.out).mono ?_); rintro e w4 ⟨rfl, hb⟩; have n0_ := Aside0.mk (below_step (by repeat (first | (with_reducible first | exact HB.out | apply below_alloc | apply pw_below_drewN | apply below_drew1) | exact HB.out)) hb); clear HB; have HB := n0_; clear n0_; (try clear hb); (try clear hb2); (try clear hk); (try clear hi)))
    repeat (go_quiet (first | (go_at_call 38; (with_reducible refine (spinnakerlaw23_told.calls k  t185 _ A3.out).mono ?_); rintro e w4 ⟨rfl, hb⟩; have n0_ := Aside0.mk (below_step (by repeat (first | (with_reducible first | exact HB.out | apply below_alloc | apply pw_below_drewN | apply below_drew1) | exact HB.out)) hb); clear HB; have HB := n0_; clear n0_; (try clear hb); (try clear hb2); (try clear hk); (try clear hi))); try go_wp2_with (first | (go_at_call 38; (with_reducible refine (spinnakerlaw23_told.calls k  t185 _ A3.out).mono ?_); rintro e w4 ⟨rfl, hb⟩; have n0_ := Aside0.mk (below_step (by repeat (first | (with_reducible first | exact HB.out | apply below_alloc | apply pw_below_drewN | apply below_drew1) | exact HB.out)) hb); clear HB; have HB := n0_; clear n0_; (try clear hb); (try clear hb2); (try clear hk); (try clear hi))))
    go_ret
    exact ⟨by first | rfl | (simp only [tdiv_top]; rfl) | (simp [errW_none, errW_some] <;> rfl) | (simp [*, errW_none, errW_some] <;> rfl), by repeat (first | (with_reducible first | exact HB.out | apply below_alloc | apply pw_below_drewN | apply below_drew1) | exact HB.out)⟩
  · rw [if_neg c2] at H
    have c2b0 : decide (200 < (l0.length : Int)) = false := decide_eq_false c2
    have c2b1 : decide (200 < l0.length) = false := decide_eq_false (by omega)
    clear c2
    replace H := Option.bind_eq_some_iff.mp H
    obtain ⟨⟨t186, t187, t188⟩, A50, H⟩ := H
    replace H : ((event_Put.f k t186).bind fun bt191 => (if bt191.2 = 0 then (if (bt191.1.length : Int) > (l0.length : Int) then (spinnakerlaw23_EventRaw.j0 k l0 t186 t187 t188 bt191.1 true) else (if 0 ≤ (bt191.1.length : Int) then (if (bt191.1.length : Int) ≤ (l0.length : Int) then (spinnakerlaw23_EventRaw.j0 k l0 t186 t187 t188 bt191.1 ((strOfNums bt191.1).toList != (strOfNums (l0.take ((bt191.1.length : Int) : Int).toNat)).toList)) else (none)) else (none))) else (spinnakerlaw23_EventRaw.j0 k l0 t186 t187 t188 bt191.1 true))) = some r := H
    have A5 := Aside0.mk A50
    clear A50
    replace H := Option.bind_eq_some_iff.mp H
    obtain ⟨⟨t191, t192⟩, A60, H⟩ := H
    replace H : (if t192 = 0 then (if (t191.length : Int) > (l0.length : Int) then (spinnakerlaw23_EventRaw.j0 k l0 t186 t187 t188 t191 true) else (if 0 ≤ (t191.length : Int) then (if (t191.length : Int) ≤ (l0.length : Int) then (spinnakerlaw23_EventRaw.j0 k l0 t186 t187 t188 t191 ((strOfNums t191).toList != (strOfNums (l0.take ((t191.length : Int) : Int).toNat)).toList)) else (none)) else (none))) else (spinnakerlaw23_EventRaw.j0 k l0 t186 t187 t188 t191 true)) = some r := H
    have A6 := Aside0.mk A60
    clear A60
    have HC7 := Aside0.mk H
    clear H
    go_enter Try.func13, Try.ntmps13
    go_upto_region 5 with (first | (go_at_call 43; (with_reducible refine (event_All.calls k _ _ l0 t186 t187 t188 _ ?side1 ?side2 A5.out).mono ?_); (case side1 => repeat (first | exact HR0.out | (with_reducible refine Kd.C_alloc ?_ _) | (with_reducible refine Kd.C_drewN ?_ _) | (with_reducible refine Kd.C_drew ?_))); (case side2 => exact HC0.out); rintro e w8 ⟨v189, rfl, ho0, hb⟩; have n0_ := Aside0.mk (Kd.R_lower ho0 (below_size (by repeat (first | (with_reducible first | exact HB.out | apply below_alloc | apply pw_below_drewN | apply below_drew1) | exact HB.out)))); have n1_ := Aside0.mk (below_step (by repeat (first | (with_reducible first | exact HB.out | apply below_alloc | apply pw_below_drewN | apply below_drew1) | exact HB.out)) hb); clear HB; have HO190 := n0_; have HB := n1_; clear n0_ n1_; (try clear hb); (try clear hb2); (try clear hk); (try clear hi); (try clear ho0); obtain ⟨Ao9, co9, eo9⟩ := Kd.R_slice HO190.out; subst eo9) | (go_at_call 37; (with_reducible refine (event_Put.calls k _ _ t186 t191 t192 _ ?side1 ?side2 A6.out).mono ?_); (case side1 => repeat (first | exact (Kd.R_reads' HO190.out).2.2 | (with_reducible refine Kd.C_alloc ?_ _) | (with_reducible refine Kd.C_drewN ?_ _) | (with_reducible refine Kd.C_drew ?_))); (case side2 => exact (Kd.R_reads' HO190.out).2.1); rintro e w10 ⟨v193, rfl, ho0, hb⟩; have n0_ := Aside0.mk (Kd.R_below (by (with_reducible repeat (first | apply Kd.R_alloc | apply Kd.R_drewN | apply Kd.R_drew)); exact HO190.out) hb); have n1_ := Aside0.mk (Kd.R_lower ho0 (below_size (by repeat (first | (with_reducible first | exact HB.out | apply below_alloc | apply pw_below_drewN | apply below_drew1) | exact HB.out)))); have n2_ := Aside0.mk (below_step (by repeat (first | (with_reducible first | exact HB.out | apply below_alloc | apply pw_below_drewN | apply below_drew1) | exact HB.out)) hb); clear HO190; clear HB; have HO190 := n0_; have HO194 := n1_; have HB := n2_; clear n0_ n1_ n2_; (try clear hb); (try clear hb2); (try clear hk); (try clear hi); (try clear ho0)))
    repeat (go_quiet (first | (go_at_call 43; (with_reducible refine (event_All.calls k _ _ l0 t186 t187 t188 _ ?side1 ?side2 A5.out).mono ?_); (case side1 => repeat (first | exact HR0.out | (with_reducible refine Kd.C_alloc ?_ _) | (with_reducible refine Kd.C_drewN ?_ _) | (with_reducible refine Kd.C_drew ?_))); (case side2 => exact HC0.out); rintro e w8 ⟨v189, rfl, ho0, hb⟩; have n0_ := Aside0.mk (Kd.R_lower ho0 (below_size (by repeat (first | (with_reducible first | exact HB.out | apply below_alloc | apply pw_below_drewN | apply below_drew1) | exact HB.out)))); have n1_ := Aside0.mk (below_step (by repeat (first | (with_reducible first | exact HB.out | apply below_alloc | apply pw_below_drewN | apply below_drew1) | exact HB.out)) hb); clear HB; have HO190 := n0_; have HB := n1_; clear n0_ n1_; (try clear hb); (try clear hb2); (try clear hk); (try clear hi); (try clear ho0); obtain ⟨Ao9, co9, eo9⟩ := Kd.R_slice HO190.out; subst eo9) | (go_at_call 37; (with_reducible refine (event_Put.calls k _ _ t186 t191 t192 _ ?side1 ?side2 A6.out).mono ?_); (case side1 => repeat (first | exact (Kd.R_reads' HO190.out).2.2 | (with_reducible refine Kd.C_alloc ?_ _) | (with_reducible refine Kd.C_drewN ?_ _) | (with_reducible refine Kd.C_drew ?_))); (case side2 => exact (Kd.R_reads' HO190.out).2.1); rintro e w10 ⟨v193, rfl, ho0, hb⟩; have n0_ := Aside0.mk (Kd.R_below (by (with_reducible repeat (first | apply Kd.R_alloc | apply Kd.R_drewN | apply Kd.R_drew)); exact HO190.out) hb); have n1_ := Aside0.mk (Kd.R_lower ho0 (below_size (by repeat (first | (with_reducible first | exact HB.out | apply below_alloc | apply pw_below_drewN | apply below_drew1) | exact HB.out)))); have n2_ := Aside0.mk (below_step (by repeat (first | (with_reducible first | exact HB.out | apply below_alloc | apply pw_below_drewN | apply below_drew1) | exact HB.out)) hb); clear HO190; clear HB; have HO190 := n0_; have HO194 := n1_; have HB := n2_; clear n0_ n1_ n2_; (try clear hb); (try clear hb2); (try clear hk); (try clear hi); (try clear ho0))); go_upto_region 5 with (first | (go_at_call 43; (with_reducible refine (event_All.calls k _ _ l0 t186 t187 t188 _ ?side1 ?side2 A5.out).mono ?_); (case side1 => repeat (first | exact HR0.out | (with_reducible refine Kd.C_alloc ?_ _) | (with_reducible refine Kd.C_drewN ?_ _) | (with_reducible refine Kd.C_drew ?_))); (case side2 => exact HC0.out); rintro e w8 ⟨v189, rfl, ho0, hb⟩; have n0_ := Aside0.mk (Kd.R_lower ho0 (below_size (by repeat (first | (with_reducible first | exact HB.out | apply below_alloc | apply pw_below_drewN | apply below_drew1) | exact HB.out)))); have n1_ := Aside0.mk (below_step (by repeat (first | (with_reducible first | exact HB.out | apply below_alloc | apply pw_below_drewN | apply below_drew1) | exact HB.out)) hb); clear HB; have HO190 := n0_; have HB := n1_; clear n0_ n1_; (try clear hb); (try clear hb2); (try clear hk); (try clear hi); (try clear ho0); obtain ⟨Ao9, co9, eo9⟩ := Kd.R_slice HO190.out; subst eo9) | (go_at_call 37; (with_reducible refine (event_Put.calls k _ _ t186 t191 t192 _ ?side1 ?side2 A6.out).mono ?_); (case side1 => repeat (first | exact (Kd.R_reads' HO190.out).2.2 | (with_reducible refine Kd.C_alloc ?_ _) | (with_reducible refine Kd.C_drewN ?_ _) | (with_reducible refine Kd.C_drew ?_))); (case side2 => exact (Kd.R_reads' HO190.out).2.1); rintro e w10 ⟨v193, rfl, ho0, hb⟩; have n0_ := Aside0.mk (Kd.R_below (by (with_reducible repeat (first | apply Kd.R_alloc | apply Kd.R_drewN | apply Kd.R_drew)); exact HO190.out) hb); have n1_ := Aside0.mk (Kd.R_lower ho0 (below_size (by repeat (first | (with_reducible first | exact HB.out | apply below_alloc | apply pw_below_drewN | apply below_drew1) | exact HB.out)))); have n2_ := Aside0.mk (below_step (by repeat (first | (with_reducible first | exact HB.out | apply below_alloc | apply pw_below_drewN | apply below_drew1) | exact HB.out)) hb); clear HO190; clear HB; have HO190 := n0_; have HO194 := n1_; have HB := n2_; clear n0_ n1_ n2_; (try clear hb); (try clear hb2); (try clear hk); (try clear hi); (try clear ho0))))
    (try simp only [Act.put, List.setIfInBounds_toArray, List.set_cons_zero, List.set_cons_succ])
    go_cut [42] (fun v42 wc => ∃ (kq : Nat) (x42_6 : Bool), v42 = .bool x42_6 ∧ Aside0 (spinnakerlaw23_EventRaw.j0 kq l0 t186 t187 t188 t191 x42_6 = some r) ∧ Aside0 (kq ≤ k) ∧ Aside0 (Kd.R k50 50 wc w.heap.size (fun _ => True) (.slice Ao9 t186.length co9) t186) ∧ Aside0 (Kd.R (Kd.int .u8) 5 wc w.heap.size (fun _ => True) v193 t191) ∧ Aside0 (Below w.heap.size w wc))
    case first =>
      have H := HC7.out
      clear HC7
      by_cases c11 : t192 = 0
      · rw [if_pos c11] at H
        have c11b0 : (t192 == 0) = true := beq_iff_eq.mpr c11
        have c11b1 : (t192 != 0) = false := bne_eq_false_iff_eq.mpr c11
        clear c11
        (first | rw [c11b0] | (simp only [i64_w, i32_w]; rw [c11b0]) | skip)
        by_cases c12 : (t191.length : Int) > (l0.length : Int)
        · rw [if_pos c12] at H
          have c12b0 : decide ((l0.length : Int) < (t191.length : Int)) = true := decide_eq_true c12
          have c12b1 : decide (l0.length < t191.length) = true := decide_eq_true (Int.ofNat_lt.mp c12)
          clear c12
          have H' := Aside0.mk H
          clear H
          obtain ⟨Ao13, co13, eo13⟩ := Kd.R_slice HO194.out
          subst eo13
          go_wp2
          repeat (go_quiet (fail); try go_wp2)
          go_meet
          case rel => exact ⟨_, (true), (by first | rfl | (simp; done) | (simp [isEmpty_bne, isEmpty_beq]; done) | (simp [*]; done)), H', ⟨by first | omega | exact Nat.le_refl _⟩, ⟨by (with_reducible repeat (first | apply Kd.R_alloc | apply Kd.R_drewN | apply Kd.R_drew)); exact HO190.out⟩, ⟨by (with_reducible repeat (first | apply Kd.R_alloc | apply Kd.R_drewN | apply Kd.R_drew)); exact HO194.out⟩, ⟨by repeat (first | (with_reducible first | exact HB.out | apply below_alloc | apply pw_below_drewN | apply below_drew1) | exact HB.out)⟩⟩
        · rw [if_neg c12] at H
          have c12b0 : decide ((l0.length : Int) < (t191.length : Int)) = false := decide_eq_false c12
          have c12b1 : decide (l0.length < t191.length) = false := decide_eq_false (fun h => c12 (Int.ofNat_lt.mpr h))
          clear c12
          by_cases c14 : 0 ≤ (t191.length : Int)
          · rw [if_pos c14] at H
            have c14b0 := eq_true c14
            have c14b1 : decide (0 ≤ (t191.length : Int)) = true := decide_eq_true c14
            clear c14
            by_cases c15 : (t191.length : Int) ≤ (l0.length : Int)
            · rw [if_pos c15] at H
              have c15b0 := eq_true c15
              have c15b1 : decide ((t191.length : Int) ≤ (l0.length : Int)) = true := decide_eq_true c15
              clear c15
              have H' := Aside0.mk H
              clear H
              obtain ⟨Ao16, co16, eo16⟩ := Kd.R_slice HO194.out
              subst eo16
              have hcv17 := fun nq_ => own_string (P := Try.prog) Try.underlying51 Try.underlying5 Try.underlying9 (Kd.own_of_R (Kd.R_drewN HO194.out nq_))
              have hcv18 := own_string (P := Try.prog) Try.underlying51 Try.underlying5 Try.underlying9 (Kd.own_of_R HO194.out)
              obtain ⟨i019, hi019, _, hsz19, _⟩ := info_parts info5
              obtain ⟨hcut19, hA19, hC19⟩ := print_take_of (P := Try.prog) (Value.int .u8) 0 51 5 .i64 Try.underlying51 hi019 hsz19 A0 c0 l0 (t191.length : Int) (of_decide_eq_true (by first | (with_reducible assumption) | assumption)) (of_decide_eq_true (by first | (with_reducible assumption) | assumption)) HC0.out
              have HR195 := Aside0.mk (Kd.C_of_reads (h1 := fun _ => rfl) (hA19 _ (Kd.reads_of_C HR0.out)))
              have HC195 := Aside0.mk hC19
              clear hA19 hC19 hi019 hsz19
              have hLn20 := Aside0.mk (show (l0.take ((t191.length : Int) : Int).toNat).length = ((t191.length : Int) : Int).toNat from by have h_ := of_decide_eq_true (p := (t191.length : Int) ≤ (l0.length : Int)) (by first | (with_reducible assumption) | assumption); simp only [List.length_drop, List.length_take]; omega)
              have hcv21 := fun nq_ => Kd.C_string (P := Try.prog) (A := A0) (c := c0) Try.underlying51 Try.underlying5 Try.underlying9 (Kd.C_below HR195.out (pw_below_drewN HB.out nq_))
              (try simp only [List.length_take, Int.toNat_natCast] at hcv21)
              go_wp2_with (first | ((with_reducible refine gate_dst (N := 40) rfl ?_); (try (refine gate_guard (by rfl) ?_; dsimp only)); refine wpList_strof (src := 51) (dst := 9) (A := A0) (c := c0) (xs := (l0.take ((t191.length : Int) : Int).toNat)) rfl rfl Try.underlying51 Try.underlying5 Try.underlying9 rfl (by first | rfl | exact hLn20.out) (Kd.C_below HR195.out (by repeat (first | (with_reducible first | exact HB.out | apply below_alloc | apply pw_below_drewN | apply below_drew1) | exact HB.out))) ?_))
              repeat (go_quiet (first | ((with_reducible refine gate_dst (N := 40) rfl ?_); (try (refine gate_guard (by rfl) ?_; dsimp only)); refine wpList_strof (src := 51) (dst := 9) (A := A0) (c := c0) (xs := (l0.take ((t191.length : Int) : Int).toNat)) rfl rfl Try.underlying51 Try.underlying5 Try.underlying9 rfl (by first | rfl | exact hLn20.out) (Kd.C_below HR195.out (by repeat (first | (with_reducible first | exact HB.out | apply below_alloc | apply pw_below_drewN | apply below_drew1) | exact HB.out))) ?_)); try go_wp2_with (first | ((with_reducible refine gate_dst (N := 40) rfl ?_); (try (refine gate_guard (by rfl) ?_; dsimp only)); refine wpList_strof (src := 51) (dst := 9) (A := A0) (c := c0) (xs := (l0.take ((t191.length : Int) : Int).toNat)) rfl rfl Try.underlying51 Try.underlying5 Try.underlying9 rfl (by first | rfl | exact hLn20.out) (Kd.C_below HR195.out (by repeat (first | (with_reducible first | exact HB.out | apply below_alloc | apply pw_below_drewN | apply below_drew1) | exact HB.out))) ?_)))
              go_meet
              case rel => exact ⟨_, (((strOfNums t191).toList != (strOfNums (l0.take ((t191.length : Int) : Int).toNat)).toList)), (by first | rfl | (simp; done) | (simp [isEmpty_bne, isEmpty_beq]; done) | (simp [*]; done)), H', ⟨by first | omega | exact Nat.le_refl _⟩, ⟨by (with_reducible repeat (first | apply Kd.R_alloc | apply Kd.R_drewN | apply Kd.R_drew)); exact HO190.out⟩, ⟨by (with_reducible repeat (first | apply Kd.R_alloc | apply Kd.R_drewN | apply Kd.R_drew)); exact HO194.out⟩, ⟨by repeat (first | (with_reducible first | exact HB.out | apply below_alloc | apply pw_below_drewN | apply below_drew1) | exact HB.out)⟩⟩
            · rw [if_neg c15] at H
              exact absurd H (by simp)
          · rw [if_neg c14] at H
            exact absurd H (by simp)
      · rw [if_neg c11] at H
        have c11b0 : (t192 == 0) = false := beq_eq_false_iff_ne.mpr c11
        have c11b1 : (t192 != 0) = true := bne_iff_ne.mpr c11
        (first | rw [c11b0] | (simp only [i64_w, i32_w]; rw [c11b0]) | skip)
        have H' := Aside0.mk H
        clear H
        go_wp2
        repeat (go_quiet (fail); try go_wp2)
        go_meet
        case rel => exact ⟨_, (true), (by first | rfl | (simp; done) | (simp [isEmpty_bne, isEmpty_beq]; done) | (simp [*]; done)), H', ⟨by first | omega | exact Nat.le_refl _⟩, ⟨by (with_reducible repeat (first | apply Kd.R_alloc | apply Kd.R_drewN | apply Kd.R_drew)); exact HO190.out⟩, ⟨by (with_reducible repeat (first | apply Kd.R_alloc | apply Kd.R_drewN | apply Kd.R_drew)); exact HO194.out⟩, ⟨by repeat (first | (with_reducible first | exact HB.out | apply below_alloc | apply pw_below_drewN | apply below_drew1) | exact HB.out)⟩⟩
    case rest =>
      clear HC7
      try clear c1
      try clear hcv1
      try clear c2
      try clear c2b0
      try clear c2b1
      try clear p2
      try clear hcv2
      try clear c11
      try clear c11b0
      try clear c11b1
      try clear c12
      try clear c12b0
      try clear c12b1
      try clear c13
      try clear c14
      try clear c14b0
      try clear c14b1
      try clear c15
      try clear c15b0
      try clear c15b1
      try clear hcv17
      try clear hcv18
      try clear hcv21
      obtain ⟨kq, x42_6, rfl, HA, HJ6, HO_3, HO_6, HB⟩ := hcut
      cases kq with
      | zero => exact absurd HA.out (by simp [spinnakerlaw23_EventRaw.j0])
      | succ kj6 =>
        have H := HA.out
        clear HA
        simp only [spinnakerlaw23_EventRaw.j0] at H
        by_cases c22 : x42_6 = true
        · subst c22
          have H1 : (some false) = some r := by rw [if_pos rfl] at H; exact H
          clear H
          have H := H1
          clear H1
          rw [hrt.out] at H
          exact absurd H (by simp)
        · replace c22 := Bool.eq_false_iff.mpr c22
          subst c22
          have H1 : (spinnakerlaw23_EventRaw.l0 kj6 l0 t186 t187 t188 t191 0) = some r := by rw [if_neg (show ¬ (false = true) by decide)] at H; exact H
          clear H
          have H := H1
          clear H1
          have H' := Aside0.mk H
          clear H
          go_wp2
          repeat (go_quiet (fail); try go_wp2)
          go_loopg [8] kj6 (fun kq v8 w' => ∃ (x8_2 : Int), v8 = .int .i64 x8_2 ∧ Aside0 (spinnakerlaw23_EventRaw.l0 kq l0 t186 t187 t188 t191 x8_2 = some r) ∧ Aside0 (kq ≤ kj6) ∧ Aside0 (Kd.R k50 50 w' w.heap.size (fun _ => True) (.slice Ao9 t186.length co9) t186) ∧ Aside0 (Kd.R (Kd.int .u8) 5 w' w.heap.size (fun _ => True) v193 t191) ∧ Aside0 (Below w.heap.size w w'))
          case atStart => exact ⟨(0), (by first | rfl | (simp; done) | (simp [isEmpty_bne, isEmpty_beq]; done) | (simp [*]; done)), H', ⟨Nat.le_refl _⟩, ⟨by (with_reducible repeat (first | apply Kd.R_alloc | apply Kd.R_drewN | apply Kd.R_drew)); exact HO_3.out⟩, ⟨by (with_reducible repeat (first | apply Kd.R_alloc | apply Kd.R_drewN | apply Kd.R_drew)); exact HO_6.out⟩, ⟨by repeat (first | (with_reducible first | exact HB.out | apply below_alloc | apply pw_below_drewN | apply below_drew1) | exact HB.out)⟩⟩
          case round =>
            clear H'
            try clear c1
            try clear hcv1
            try clear c2
            try clear c2b0
            try clear c2b1
            try clear p2
            try clear hcv2
            try clear c11
            try clear c11b0
            try clear c11b1
            try clear c12
            try clear c12b0
            try clear c12b1
            try clear c13
            try clear c14
            try clear c14b0
            try clear c14b1
            try clear c15
            try clear c15b0
            try clear c15b1
            try clear hcv17
            try clear hcv18
            try clear hcv21
            try clear c22
            try clear p2
            obtain ⟨x8_2, rfl, HA, HK2, HO_3, HO_6, HB⟩ := hrel
            cases gk with
            | zero => exact absurd HA.out (by simp [spinnakerlaw23_EventRaw.l0])
            | succ k2 =>
              have H := HA.out
              clear HA
              simp only [spinnakerlaw23_EventRaw.l0] at H
              by_cases c23 : x8_2 < (t186.length : Int)
              · rw [if_pos c23] at H
                have c23b0 : decide (x8_2 < (t186.length : Int)) = true := decide_eq_true c23
                clear c23
                by_cases c24 : 0 ≤ x8_2
                · rw [if_pos c24] at H
                  have c24b0 : decide (0 ≤ x8_2) = true := decide_eq_true c24
                  clear c24
                  replace H := Option.bind_eq_some_iff.mp H
                  obtain ⟨t197, A250, H⟩ := H
                  replace H : (if t197 = true then (spinnakerlaw23_EventRaw.l0 k2 l0 t186 t187 t188 t191 (wrap64 (x8_2 + 1))) else (some false)) = some r := H
                  have A25 := Aside0.mk A250
                  clear A250
                  by_cases c26 : t197 = true
                  · subst c26
                    have H1 : (spinnakerlaw23_EventRaw.l0 k2 l0 t186 t187 t188 t191 (wrap64 (x8_2 + 1))) = some r := by rw [if_pos rfl] at H; exact H
                    clear H
                    have H := H1
                    clear H1
                    have H' := Aside0.mk H
                    clear H
                    have p196 : 0 ≤ (x8_2 : Int) := of_decide_eq_true (by first | (with_reducible assumption) | assumption)
                    have q196 : x8_2 < (t186.length : Int) := of_decide_eq_true (by first | (with_reducible assumption) | assumption)
                    obtain ⟨ad196, e196, hx196_0, hx196_1, hx196_2⟩ := at_T50 (Kd.R_reads' HO_3.out).2.2 x8_2 p196 q196
                    cases e196
                    replace p196 := eq_true p196
                    replace q196 := eq_true q196
                    go_wp2_with (first | (go_at_call 39; (with_reducible refine (event_May.calls k2 ((rd_T50 t186 x8_2).f0) ((rd_T50 t186 x8_2).f1) ((rd_T50 t186 x8_2).f2) true _ A25.out).mono ?_); rintro e w27 ⟨rfl, hb⟩; have n0_ := Aside0.mk (Kd.R_below (by (with_reducible repeat (first | apply Kd.R_alloc | apply Kd.R_drewN | apply Kd.R_drew)); exact HO_3.out) hb); have n1_ := Aside0.mk (Kd.R_below (by (with_reducible repeat (first | apply Kd.R_alloc | apply Kd.R_drewN | apply Kd.R_drew)); exact HO_6.out) hb); have n2_ := Aside0.mk (below_step (by repeat (first | (with_reducible first | exact HB.out | apply below_alloc | apply pw_below_drewN | apply below_drew1) | exact HB.out)) hb); clear HO_3; clear HO_6; clear HB; have HO_3 := n0_; have HO_6 := n1_; have HB := n2_; clear n0_ n1_ n2_; (try clear hb); (try clear hb2); (try clear hk); (try clear hi)))
                    repeat (go_quiet (first | (go_at_call 39; (with_reducible refine (event_May.calls k2 ((rd_T50 t186 x8_2).f0) ((rd_T50 t186 x8_2).f1) ((rd_T50 t186 x8_2).f2) true _ A25.out).mono ?_); rintro e w27 ⟨rfl, hb⟩; have n0_ := Aside0.mk (Kd.R_below (by (with_reducible repeat (first | apply Kd.R_alloc | apply Kd.R_drewN | apply Kd.R_drew)); exact HO_3.out) hb); have n1_ := Aside0.mk (Kd.R_below (by (with_reducible repeat (first | apply Kd.R_alloc | apply Kd.R_drewN | apply Kd.R_drew)); exact HO_6.out) hb); have n2_ := Aside0.mk (below_step (by repeat (first | (with_reducible first | exact HB.out | apply below_alloc | apply pw_below_drewN | apply below_drew1) | exact HB.out)) hb); clear HO_3; clear HO_6; clear HB; have HO_3 := n0_; have HO_6 := n1_; have HB := n2_; clear n0_ n1_ n2_; (try clear hb); (try clear hb2); (try clear hk); (try clear hi))); try go_wp2_with (first | (go_at_call 39; (with_reducible refine (event_May.calls k2 ((rd_T50 t186 x8_2).f0) ((rd_T50 t186 x8_2).f1) ((rd_T50 t186 x8_2).f2) true _ A25.out).mono ?_); rintro e w27 ⟨rfl, hb⟩; have n0_ := Aside0.mk (Kd.R_below (by (with_reducible repeat (first | apply Kd.R_alloc | apply Kd.R_drewN | apply Kd.R_drew)); exact HO_3.out) hb); have n1_ := Aside0.mk (Kd.R_below (by (with_reducible repeat (first | apply Kd.R_alloc | apply Kd.R_drewN | apply Kd.R_drew)); exact HO_6.out) hb); have n2_ := Aside0.mk (below_step (by repeat (first | (with_reducible first | exact HB.out | apply below_alloc | apply pw_below_drewN | apply below_drew1) | exact HB.out)) hb); clear HO_3; clear HO_6; clear HB; have HO_3 := n0_; have HO_6 := n1_; have HB := n2_; clear n0_ n1_ n2_; (try clear hb); (try clear hb2); (try clear hk); (try clear hi))))
                    go_roundg k2
                    case measure => have := HJ6.out; have := HK2.out; omega
                    case rel => exact ⟨(wrap64 (x8_2 + 1)), (by first | rfl | (simp; done) | (simp [isEmpty_bne, isEmpty_beq]; done) | (simp [*]; done)), H', ⟨by have := HJ6.out; have := HK2.out; omega⟩, ⟨by (with_reducible repeat (first | apply Kd.R_alloc | apply Kd.R_drewN | apply Kd.R_drew)); exact HO_3.out⟩, ⟨by (with_reducible repeat (first | apply Kd.R_alloc | apply Kd.R_drewN | apply Kd.R_drew)); exact HO_6.out⟩, ⟨by repeat (first | (with_reducible first | exact HB.out | apply below_alloc | apply pw_below_drewN | apply below_drew1) | exact HB.out)⟩⟩
                  · replace c26 := Bool.eq_false_iff.mpr c26
                    subst c26
                    have H1 : (some false) = some r := by rw [if_neg (show ¬ (false = true) by decide)] at H; exact H
                    clear H
                    have H := H1
                    clear H1
                    rw [hrt.out] at H
                    exact absurd H (by simp)
                · rw [if_neg c24] at H
                  exact absurd H (by simp)
              · rw [if_neg c23] at H
                have c23b0 : decide (x8_2 < (t186.length : Int)) = false := decide_eq_false c23
                clear c23
                replace H := Option.bind_eq_some_iff.mp H
                obtain ⟨t198, A280, H⟩ := H
                replace H : (if t198 = true then (if t187 = 0 then (if t188 = 0 then (if (t191.length : Int) = (l0.length : Int) then (some true) else (if t187 = 4 then (if t188 = (t191.length : Int) then (some (decide (t188 < (l0.length : Int)))) else (some false)) else (some false))) else (if t187 = 4 then (if t188 = (t191.length : Int) then (some (decide (t188 < (l0.length : Int)))) else (some false)) else (some false))) else (if t187 = 4 then (if t188 = (t191.length : Int) then (some (decide (t188 < (l0.length : Int)))) else (some false)) else (some false))) else (some false)) = some r := H
                have A28 := Aside0.mk A280
                clear A280
                by_cases c29 : t198 = true
                · subst c29
                  have H1 : (if t187 = 0 then (if t188 = 0 then (if (t191.length : Int) = (l0.length : Int) then (some true) else (if t187 = 4 then (if t188 = (t191.length : Int) then (some (decide (t188 < (l0.length : Int)))) else (some false)) else (some false))) else (if t187 = 4 then (if t188 = (t191.length : Int) then (some (decide (t188 < (l0.length : Int)))) else (some false)) else (some false))) else (if t187 = 4 then (if t188 = (t191.length : Int) then (some (decide (t188 < (l0.length : Int)))) else (some false)) else (some false))) = some r := by rw [if_pos rfl] at H; exact H
                  clear H
                  have H := H1
                  clear H1
                  by_cases c30 : t187 = 0
                  · rw [if_pos c30] at H
                    have c30b0 : (t187 == 0) = true := beq_iff_eq.mpr c30
                    have c30b1 : (t187 != 0) = false := bne_eq_false_iff_eq.mpr c30
                    clear c30
                    by_cases c31 : t188 = 0
                    · rw [if_pos c31] at H
                      have c31b0 : (t188 == 0) = true := beq_iff_eq.mpr c31
                      have c31b1 : (t188 != 0) = false := bne_eq_false_iff_eq.mpr c31
                      clear c31
                      by_cases c32 : (t191.length : Int) = (l0.length : Int)
                      · rw [if_pos c32] at H
                        have c32b0 : ((t191.length : Int) == (l0.length : Int)) = true := beq_iff_eq.mpr c32
                        have c32b1 : ((t191.length : Int) != (l0.length : Int)) = false := bne_eq_false_iff_eq.mpr c32
                        have c32b2 : (t191.length == l0.length) = true := by first | simpa using c32 | (simp at c32 ⊢; omega)
                        clear c32
                        obtain rfl := Option.some.inj H
                        go_wp2_with (first | (go_at_call 38; (with_reducible refine (spinnakerlaw23_told.calls k2  true _ A28.out).mono ?_); rintro e w33 ⟨rfl, hb⟩; have n0_ := Aside0.mk (Kd.R_below (by (with_reducible repeat (first | apply Kd.R_alloc | apply Kd.R_drewN | apply Kd.R_drew)); exact HO_3.out) hb); have n1_ := Aside0.mk (Kd.R_below (by (with_reducible repeat (first | apply Kd.R_alloc | apply Kd.R_drewN | apply Kd.R_drew)); exact HO_6.out) hb); have n2_ := Aside0.mk (below_step (by repeat (first | (with_reducible first | exact HB.out | apply below_alloc | apply pw_below_drewN | apply below_drew1) | exact HB.out)) hb); clear HO_3; clear HO_6; clear HB; have HO_3 := n0_; have HO_6 := n1_; have HB := n2_; clear n0_ n1_ n2_; (try clear hb); (try clear hb2); (try clear hk); (try clear hi); obtain ⟨Ao34, co34, eo34⟩ := Kd.R_slice HO_6.out; subst eo34))
                        repeat (go_quiet (first | (go_at_call 38; (with_reducible refine (spinnakerlaw23_told.calls k2  true _ A28.out).mono ?_); rintro e w33 ⟨rfl, hb⟩; have n0_ := Aside0.mk (Kd.R_below (by (with_reducible repeat (first | apply Kd.R_alloc | apply Kd.R_drewN | apply Kd.R_drew)); exact HO_3.out) hb); have n1_ := Aside0.mk (Kd.R_below (by (with_reducible repeat (first | apply Kd.R_alloc | apply Kd.R_drewN | apply Kd.R_drew)); exact HO_6.out) hb); have n2_ := Aside0.mk (below_step (by repeat (first | (with_reducible first | exact HB.out | apply below_alloc | apply pw_below_drewN | apply below_drew1) | exact HB.out)) hb); clear HO_3; clear HO_6; clear HB; have HO_3 := n0_; have HO_6 := n1_; have HB := n2_; clear n0_ n1_ n2_; (try clear hb); (try clear hb2); (try clear hk); (try clear hi); obtain ⟨Ao34, co34, eo34⟩ := Kd.R_slice HO_6.out; subst eo34)); try go_wp2_with (first | (go_at_call 38; (with_reducible refine (spinnakerlaw23_told.calls k2  true _ A28.out).mono ?_); rintro e w33 ⟨rfl, hb⟩; have n0_ := Aside0.mk (Kd.R_below (by (with_reducible repeat (first | apply Kd.R_alloc | apply Kd.R_drewN | apply Kd.R_drew)); exact HO_3.out) hb); have n1_ := Aside0.mk (Kd.R_below (by (with_reducible repeat (first | apply Kd.R_alloc | apply Kd.R_drewN | apply Kd.R_drew)); exact HO_6.out) hb); have n2_ := Aside0.mk (below_step (by repeat (first | (with_reducible first | exact HB.out | apply below_alloc | apply pw_below_drewN | apply below_drew1) | exact HB.out)) hb); clear HO_3; clear HO_6; clear HB; have HO_3 := n0_; have HO_6 := n1_; have HB := n2_; clear n0_ n1_ n2_; (try clear hb); (try clear hb2); (try clear hk); (try clear hi); obtain ⟨Ao34, co34, eo34⟩ := Kd.R_slice HO_6.out; subst eo34)))
                        go_ret
                        exact ⟨by first | rfl | (simp only [tdiv_top]; rfl) | (simp [errW_none, errW_some] <;> rfl) | (simp [*, errW_none, errW_some] <;> rfl), by repeat (first | (with_reducible first | exact HB.out | apply below_alloc | apply pw_below_drewN | apply below_drew1) | exact HB.out)⟩
                      · rw [if_neg c32] at H
                        have c32b0 : ((t191.length : Int) == (l0.length : Int)) = false := beq_eq_false_iff_ne.mpr c32
                        have c32b1 : ((t191.length : Int) != (l0.length : Int)) = true := bne_iff_ne.mpr c32
                        have c32b2 : (t191.length == l0.length) = false := by first | simpa using c32 | (simp at c32 ⊢; omega)
                        by_cases c35 : t187 = 4
                        · rw [if_pos c35] at H
                          have c35b0 : (t187 == 4) = true := beq_iff_eq.mpr c35
                          have c35b1 : (t187 != 4) = false := bne_eq_false_iff_eq.mpr c35
                          clear c35
                          by_cases c36 : t188 = (t191.length : Int)
                          · rw [if_pos c36] at H
                            have c36b0 : (t188 == (t191.length : Int)) = true := beq_iff_eq.mpr c36
                            have c36b1 : (t188 != (t191.length : Int)) = false := bne_eq_false_iff_eq.mpr c36
                            clear c36
                            obtain rfl := Option.some.inj H
                            go_wp2_with (first | (go_at_call 38; (with_reducible refine (spinnakerlaw23_told.calls k2  true _ A28.out).mono ?_); rintro e w37 ⟨rfl, hb⟩; have n0_ := Aside0.mk (Kd.R_below (by (with_reducible repeat (first | apply Kd.R_alloc | apply Kd.R_drewN | apply Kd.R_drew)); exact HO_3.out) hb); have n1_ := Aside0.mk (Kd.R_below (by (with_reducible repeat (first | apply Kd.R_alloc | apply Kd.R_drewN | apply Kd.R_drew)); exact HO_6.out) hb); have n2_ := Aside0.mk (below_step (by repeat (first | (with_reducible first | exact HB.out | apply below_alloc | apply pw_below_drewN | apply below_drew1) | exact HB.out)) hb); clear HO_3; clear HO_6; clear HB; have HO_3 := n0_; have HO_6 := n1_; have HB := n2_; clear n0_ n1_ n2_; (try clear hb); (try clear hb2); (try clear hk); (try clear hi); obtain ⟨Ao38, co38, eo38⟩ := Kd.R_slice HO_6.out; subst eo38))
                            repeat (go_quiet (first | (go_at_call 38; (with_reducible refine (spinnakerlaw23_told.calls k2  true _ A28.out).mono ?_); rintro e w37 ⟨rfl, hb⟩; have n0_ := Aside0.mk (Kd.R_below (by (with_reducible repeat (first | apply Kd.R_alloc | apply Kd.R_drewN | apply Kd.R_drew)); exact HO_3.out) hb); have n1_ := Aside0.mk (Kd.R_below (by (with_reducible repeat (first | apply Kd.R_alloc | apply Kd.R_drewN | apply Kd.R_drew)); exact HO_6.out) hb); have n2_ := Aside0.mk (below_step (by repeat (first | (with_reducible first | exact HB.out | apply below_alloc | apply pw_below_drewN | apply below_drew1) | exact HB.out)) hb); clear HO_3; clear HO_6; clear HB; have HO_3 := n0_; have HO_6 := n1_; have HB := n2_; clear n0_ n1_ n2_; (try clear hb); (try clear hb2); (try clear hk); (try clear hi); obtain ⟨Ao38, co38, eo38⟩ := Kd.R_slice HO_6.out; subst eo38)); try go_wp2_with (first | (go_at_call 38; (with_reducible refine (spinnakerlaw23_told.calls k2  true _ A28.out).mono ?_); rintro e w37 ⟨rfl, hb⟩; have n0_ := Aside0.mk (Kd.R_below (by (with_reducible repeat (first | apply Kd.R_alloc | apply Kd.R_drewN | apply Kd.R_drew)); exact HO_3.out) hb); have n1_ := Aside0.mk (Kd.R_below (by (with_reducible repeat (first | apply Kd.R_alloc | apply Kd.R_drewN | apply Kd.R_drew)); exact HO_6.out) hb); have n2_ := Aside0.mk (below_step (by repeat (first | (with_reducible first | exact HB.out | apply below_alloc | apply pw_below_drewN | apply below_drew1) | exact HB.out)) hb); clear HO_3; clear HO_6; clear HB; have HO_3 := n0_; have HO_6 := n1_; have HB := n2_; clear n0_ n1_ n2_; (try clear hb); (try clear hb2); (try clear hk); (try clear hi); obtain ⟨Ao38, co38, eo38⟩ := Kd.R_slice HO_6.out; subst eo38)))
                            go_ret
                            exact ⟨by first | rfl | (simp only [tdiv_top]; rfl) | (simp [errW_none, errW_some] <;> rfl) | (simp [*, errW_none, errW_some] <;> rfl), by repeat (first | (with_reducible first | exact HB.out | apply below_alloc | apply pw_below_drewN | apply below_drew1) | exact HB.out)⟩
                          · rw [if_neg c36] at H
                            have c36b0 : (t188 == (t191.length : Int)) = false := beq_eq_false_iff_ne.mpr c36
                            have c36b1 : (t188 != (t191.length : Int)) = true := bne_iff_ne.mpr c36
                            rw [hrt.out] at H
                            exact absurd H (by simp)
                        · rw [if_neg c35] at H
                          have c35b0 : (t187 == 4) = false := beq_eq_false_iff_ne.mpr c35
                          have c35b1 : (t187 != 4) = true := bne_iff_ne.mpr c35
                          rw [hrt.out] at H
                          exact absurd H (by simp)
                    · rw [if_neg c31] at H
                      have c31b0 : (t188 == 0) = false := beq_eq_false_iff_ne.mpr c31
                      have c31b1 : (t188 != 0) = true := bne_iff_ne.mpr c31
                      by_cases c39 : t187 = 4
                      · rw [if_pos c39] at H
                        have c39b0 : (t187 == 4) = true := beq_iff_eq.mpr c39
                        have c39b1 : (t187 != 4) = false := bne_eq_false_iff_eq.mpr c39
                        clear c39
                        by_cases c40 : t188 = (t191.length : Int)
                        · rw [if_pos c40] at H
                          have c40b0 : (t188 == (t191.length : Int)) = true := beq_iff_eq.mpr c40
                          have c40b1 : (t188 != (t191.length : Int)) = false := bne_eq_false_iff_eq.mpr c40
                          clear c40
                          obtain rfl := Option.some.inj H
                          go_wp2_with (first | (go_at_call 38; (with_reducible refine (spinnakerlaw23_told.calls k2  true _ A28.out).mono ?_); rintro e w41 ⟨rfl, hb⟩; have n0_ := Aside0.mk (Kd.R_below (by (with_reducible repeat (first | apply Kd.R_alloc | apply Kd.R_drewN | apply Kd.R_drew)); exact HO_3.out) hb); have n1_ := Aside0.mk (Kd.R_below (by (with_reducible repeat (first | apply Kd.R_alloc | apply Kd.R_drewN | apply Kd.R_drew)); exact HO_6.out) hb); have n2_ := Aside0.mk (below_step (by repeat (first | (with_reducible first | exact HB.out | apply below_alloc | apply pw_below_drewN | apply below_drew1) | exact HB.out)) hb); clear HO_3; clear HO_6; clear HB; have HO_3 := n0_; have HO_6 := n1_; have HB := n2_; clear n0_ n1_ n2_; (try clear hb); (try clear hb2); (try clear hk); (try clear hi); obtain ⟨Ao42, co42, eo42⟩ := Kd.R_slice HO_6.out; subst eo42))
                          repeat (go_quiet (first | (go_at_call 38; (with_reducible refine (spinnakerlaw23_told.calls k2  true _ A28.out).mono ?_); rintro e w41 ⟨rfl, hb⟩; have n0_ := Aside0.mk (Kd.R_below (by (with_reducible repeat (first | apply Kd.R_alloc | apply Kd.R_drewN | apply Kd.R_drew)); exact HO_3.out) hb); have n1_ := Aside0.mk (Kd.R_below (by (with_reducible repeat (first | apply Kd.R_alloc | apply Kd.R_drewN | apply Kd.R_drew)); exact HO_6.out) hb); have n2_ := Aside0.mk (below_step (by repeat (first | (with_reducible first | exact HB.out | apply below_alloc | apply pw_below_drewN | apply below_drew1) | exact HB.out)) hb); clear HO_3; clear HO_6; clear HB; have HO_3 := n0_; have HO_6 := n1_; have HB := n2_; clear n0_ n1_ n2_; (try clear hb); (try clear hb2); (try clear hk); (try clear hi); obtain ⟨Ao42, co42, eo42⟩ := Kd.R_slice HO_6.out; subst eo42)); try go_wp2_with (first | (go_at_call 38; (with_reducible refine (spinnakerlaw23_told.calls k2  true _ A28.out).mono ?_); rintro e w41 ⟨rfl, hb⟩; have n0_ := Aside0.mk (Kd.R_below (by (with_reducible repeat (first | apply Kd.R_alloc | apply Kd.R_drewN | apply Kd.R_drew)); exact HO_3.out) hb); have n1_ := Aside0.mk (Kd.R_below (by (with_reducible repeat (first | apply Kd.R_alloc | apply Kd.R_drewN | apply Kd.R_drew)); exact HO_6.out) hb); have n2_ := Aside0.mk (below_step (by repeat (first | (with_reducible first | exact HB.out | apply below_alloc | apply pw_below_drewN | apply below_drew1) | exact HB.out)) hb); clear HO_3; clear HO_6; clear HB; have HO_3 := n0_; have HO_6 := n1_; have HB := n2_; clear n0_ n1_ n2_; (try clear hb); (try clear hb2); (try clear hk); (try clear hi); obtain ⟨Ao42, co42, eo42⟩ := Kd.R_slice HO_6.out; subst eo42)))
                          go_ret
                          exact ⟨by first | rfl | (simp only [tdiv_top]; rfl) | (simp [errW_none, errW_some] <;> rfl) | (simp [*, errW_none, errW_some] <;> rfl), by repeat (first | (with_reducible first | exact HB.out | apply below_alloc | apply pw_below_drewN | apply below_drew1) | exact HB.out)⟩
                        · rw [if_neg c40] at H
                          have c40b0 : (t188 == (t191.length : Int)) = false := beq_eq_false_iff_ne.mpr c40
                          have c40b1 : (t188 != (t191.length : Int)) = true := bne_iff_ne.mpr c40
                          rw [hrt.out] at H
                          exact absurd H (by simp)
                      · rw [if_neg c39] at H
                        have c39b0 : (t187 == 4) = false := beq_eq_false_iff_ne.mpr c39
                        have c39b1 : (t187 != 4) = true := bne_iff_ne.mpr c39
                        rw [hrt.out] at H
                        exact absurd H (by simp)
                  · rw [if_neg c30] at H
                    have c30b0 : (t187 == 0) = false := beq_eq_false_iff_ne.mpr c30
                    have c30b1 : (t187 != 0) = true := bne_iff_ne.mpr c30
                    by_cases c43 : t187 = 4
                    · rw [if_pos c43] at H
                      have c43b0 : (t187 == 4) = true := beq_iff_eq.mpr c43
                      have c43b1 : (t187 != 4) = false := bne_eq_false_iff_eq.mpr c43
                      clear c43
                      by_cases c44 : t188 = (t191.length : Int)
                      · rw [if_pos c44] at H
                        have c44b0 : (t188 == (t191.length : Int)) = true := beq_iff_eq.mpr c44
                        have c44b1 : (t188 != (t191.length : Int)) = false := bne_eq_false_iff_eq.mpr c44
                        clear c44
                        obtain rfl := Option.some.inj H
                        go_wp2_with (first | (go_at_call 38; (with_reducible refine (spinnakerlaw23_told.calls k2  true _ A28.out).mono ?_); rintro e w45 ⟨rfl, hb⟩; have n0_ := Aside0.mk (Kd.R_below (by (with_reducible repeat (first | apply Kd.R_alloc | apply Kd.R_drewN | apply Kd.R_drew)); exact HO_3.out) hb); have n1_ := Aside0.mk (Kd.R_below (by (with_reducible repeat (first | apply Kd.R_alloc | apply Kd.R_drewN | apply Kd.R_drew)); exact HO_6.out) hb); have n2_ := Aside0.mk (below_step (by repeat (first | (with_reducible first | exact HB.out | apply below_alloc | apply pw_below_drewN | apply below_drew1) | exact HB.out)) hb); clear HO_3; clear HO_6; clear HB; have HO_3 := n0_; have HO_6 := n1_; have HB := n2_; clear n0_ n1_ n2_; (try clear hb); (try clear hb2); (try clear hk); (try clear hi); obtain ⟨Ao46, co46, eo46⟩ := Kd.R_slice HO_6.out; subst eo46))
                        repeat (go_quiet (first | (go_at_call 38; (with_reducible refine (spinnakerlaw23_told.calls k2  true _ A28.out).mono ?_); rintro e w45 ⟨rfl, hb⟩; have n0_ := Aside0.mk (Kd.R_below (by (with_reducible repeat (first | apply Kd.R_alloc | apply Kd.R_drewN | apply Kd.R_drew)); exact HO_3.out) hb); have n1_ := Aside0.mk (Kd.R_below (by (with_reducible repeat (first | apply Kd.R_alloc | apply Kd.R_drewN | apply Kd.R_drew)); exact HO_6.out) hb); have n2_ := Aside0.mk (below_step (by repeat (first | (with_reducible first | exact HB.out | apply below_alloc | apply pw_below_drewN | apply below_drew1) | exact HB.out)) hb); clear HO_3; clear HO_6; clear HB; have HO_3 := n0_; have HO_6 := n1_; have HB := n2_; clear n0_ n1_ n2_; (try clear hb); (try clear hb2); (try clear hk); (try clear hi); obtain ⟨Ao46, co46, eo46⟩ := Kd.R_slice HO_6.out; subst eo46)); try go_wp2_with (first | (go_at_call 38; (with_reducible refine (spinnakerlaw23_told.calls k2  true _ A28.out).mono ?_); rintro e w45 ⟨rfl, hb⟩; have n0_ := Aside0.mk (Kd.R_below (by (with_reducible repeat (first | apply Kd.R_alloc | apply Kd.R_drewN | apply Kd.R_drew)); exact HO_3.out) hb); have n1_ := Aside0.mk (Kd.R_below (by (with_reducible repeat (first | apply Kd.R_alloc | apply Kd.R_drewN | apply Kd.R_drew)); exact HO_6.out) hb); have n2_ := Aside0.mk (below_step (by repeat (first | (with_reducible first | exact HB.out | apply below_alloc | apply pw_below_drewN | apply below_drew1) | exact HB.out)) hb); clear HO_3; clear HO_6; clear HB; have HO_3 := n0_; have HO_6 := n1_; have HB := n2_; clear n0_ n1_ n2_; (try clear hb); (try clear hb2); (try clear hk); (try clear hi); obtain ⟨Ao46, co46, eo46⟩ := Kd.R_slice HO_6.out; subst eo46)))
                        go_ret
                        exact ⟨by first | rfl | (simp only [tdiv_top]; rfl) | (simp [errW_none, errW_some] <;> rfl) | (simp [*, errW_none, errW_some] <;> rfl), by repeat (first | (with_reducible first | exact HB.out | apply below_alloc | apply pw_below_drewN | apply below_drew1) | exact HB.out)⟩
                      · rw [if_neg c44] at H
                        have c44b0 : (t188 == (t191.length : Int)) = false := beq_eq_false_iff_ne.mpr c44
                        have c44b1 : (t188 != (t191.length : Int)) = true := bne_iff_ne.mpr c44
                        rw [hrt.out] at H
                        exact absurd H (by simp)
                    · rw [if_neg c43] at H
                      have c43b0 : (t187 == 4) = false := beq_eq_false_iff_ne.mpr c43
                      have c43b1 : (t187 != 4) = true := bne_iff_ne.mpr c43
                      rw [hrt.out] at H
                      exact absurd H (by simp)
                · replace c29 := Bool.eq_false_iff.mpr c29
                  subst c29
                  have H1 : (some false) = some r := by rw [if_neg (show ¬ (false = true) by decide)] at H; exact H
                  clear H
                  have H := H1
                  clear H1
                  rw [hrt.out] at H
                  exact absurd H (by simp)

/-- THE ONE PURE STATEMENT of spinnakerlaw23_EventRaw: yours. -/
def spinnakerlaw23_EventRaw.Pure : Prop := ∀ (l0 : List Int), l0.length ≤ maxLen → l0.length * 1 ≤ 140737488351232 → (∀ x ∈ l0, (Lit.int .u8 x).wf = true) → ∃ k, spinnakerlaw23_EventRaw.f k l0 = some true
theorem spinnakerlaw23_EventRaw.walk (P : spinnakerlaw23_EventRaw.Pure) (a0 : Option Addr) (len0 cap0 : Nat) (z0 : List Int) (w : World) (w0 : (a0 = none ∧ len0 = 0 ∧ cap0 = 0 ∧ z0 = []) ∨ ∃ x, a0 = some x ∧ len0 ≤ cap0 ∧ cap0 ≤ maxLen ∧ z0.length = cap0 ∧ (∀ i, i < z0.length → w.cell? (x.add i) = some (.int .u8 (z0.getD i 0))) ∧ ∀ n ∈ z0, (Lit.int .u8 n).wf = true) (y0 : len0 * 1 ≤ 140737488351232) :
    Calls Try.prog 13 #[.slice a0 len0 cap0] w fun e w' => e = .returned (.bool true) ∧ Below w.heap.size w w' := by
  obtain ⟨l0, rfl, hr0, hm0, hw0, hc0⟩ := ReadsInt.ofRowC w0
  obtain ⟨k, h⟩ := P l0 hm0 y0 hw0
  refine (spinnakerlaw23_EventRaw.calls k _ _ l0 true w (Kd.C_of_reads (d := (0 : Int)) (h1 := fun _ => rfl) hr0) hc0 rfl h).mono ?_
  rintro e w' ⟨rfl, hd⟩
  exact ⟨rfl, hd⟩

end Go.Proofs.Ytcdfoicebcmlaaa.PEvRaw
