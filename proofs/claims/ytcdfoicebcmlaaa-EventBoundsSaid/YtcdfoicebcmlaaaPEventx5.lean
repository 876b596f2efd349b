-- Printed by this session's own program (wip/tools/widen.py over the kit's print): not the kit's print itself
import Derived.Test.YtcdfoicebcmlaaaPEventx0
import Derived.Test.YtcdfoicebcmlaaaPEventx2
import Derived.Test.YtcdfoicebcmlaaaPEventx4
namespace Go.Proofs.Ytcdfoicebcmlaaa.PEvent
open Go.RowKit Go.Proofs.YtcdfoicebcmlaaaW.PrintWords Go.Proofs.YtcdfoicebcmlaaaW.PrintLast Go.Proofs.YtcdfoicebcmlaaaW.PrintMore
attribute [local go_sem] max2_int min2_int max_two min_two max_three min_three max_four min_four   -- for this text's walks alone
set_option linter.unusedVariables false
set_option linter.unusedSimpArgs false

/-! ### spinnakerlaw23_EventBounds: function 10 -/
mutual
def spinnakerlaw23_EventBounds.j0 : Nat → Bool → Int → Int → Int → Int → ByteArray → Option (Bool)
  | 0, _, _, _, _, _, _ => none
  | k + 1, x2, x7, x8, x190000, x190001, x190002 => if x7 = 1 then (if x8 ≥ 1 then (if x8 ≤ 200 then ((event_Put.f k (([(⟨x190000, x190001, x190002⟩ : S50)] : List (S50)))).bind fun bt193 => ((spinnakerlaw23_told.f k).bind fun t197 => (if t197 = true then ((event_May.f k x190000 x190001 x190002).bind fun t198 => (if (t198 == (!x2)) = true then (some ((bt193.2 == 0) == (!x2))) else (some false))) else (some false)))) else ((event_Put.f k (([(⟨x190000, x190001, x190002⟩ : S50)] : List (S50)))).bind fun bt202 => ((spinnakerlaw23_told.f k).bind fun t206 => (if t206 = true then ((event_May.f k x190000 x190001 x190002).bind fun t207 => (if (t207 == false) = true then (some ((bt202.2 == 0) == false)) else (some false))) else (some false))))) else ((event_Put.f k (([(⟨x190000, x190001, x190002⟩ : S50)] : List (S50)))).bind fun bt211 => ((spinnakerlaw23_told.f k).bind fun t215 => (if t215 = true then ((event_May.f k x190000 x190001 x190002).bind fun t216 => (if (t216 == false) = true then (some ((bt211.2 == 0) == false)) else (some false))) else (some false))))) else (if x7 = 2 then (if x8 ≥ 1 then (if x8 ≤ 100 then ((event_Put.f k (([(⟨x190000, x190001, x190002⟩ : S50)] : List (S50)))).bind fun bt220 => ((spinnakerlaw23_told.f k).bind fun t224 => (if t224 = true then ((event_May.f k x190000 x190001 x190002).bind fun t225 => (if (t225 == (!x2)) = true then (some ((bt220.2 == 0) == (!x2))) else (some false))) else (some false)))) else ((event_Put.f k (([(⟨x190000, x190001, x190002⟩ : S50)] : List (S50)))).bind fun bt229 => ((spinnakerlaw23_told.f k).bind fun t233 => (if t233 = true then ((event_May.f k x190000 x190001 x190002).bind fun t234 => (if (t234 == false) = true then (some ((bt229.2 == 0) == false)) else (some false))) else (some false))))) else ((event_Put.f k (([(⟨x190000, x190001, x190002⟩ : S50)] : List (S50)))).bind fun bt238 => ((spinnakerlaw23_told.f k).bind fun t242 => (if t242 = true then ((event_May.f k x190000 x190001 x190002).bind fun t243 => (if (t243 == false) = true then (some ((bt238.2 == 0) == false)) else (some false))) else (some false))))) else (if x7 = 3 then (spinnakerlaw23_EventBounds.j1 k x2 x8 false x7 (x7 == 3) x190000 x190001 x190002) else (spinnakerlaw23_EventBounds.j1 k x2 x8 false x7 (x7 == 4) x190000 x190001 x190002)))
def spinnakerlaw23_EventBounds.j1 : Nat → Bool → Int → Bool → Int → Bool → Int → Int → ByteArray → Option (Bool)
  | 0, _, _, _, _, _, _, _, _ => none
  | k + 1, x2, x8, x10, x29, x54, x190000, x190001, x190002 => if x54 = true then (if x8 ≥ 0 then (if x8 ≤ 999 then ((event_Put.f k (([(⟨x190000, x190001, x190002⟩ : S50)] : List (S50)))).bind fun bt247 => ((spinnakerlaw23_told.f k).bind fun t251 => (if t251 = true then ((event_May.f k x190000 x190001 x190002).bind fun t252 => (if (t252 == (!x2)) = true then (some ((bt247.2 == 0) == (!x2))) else (some false))) else (some false)))) else ((event_Put.f k (([(⟨x190000, x190001, x190002⟩ : S50)] : List (S50)))).bind fun bt256 => ((spinnakerlaw23_told.f k).bind fun t260 => (if t260 = true then ((event_May.f k x190000 x190001 x190002).bind fun t261 => (if (t261 == false) = true then (some ((bt256.2 == 0) == false)) else (some false))) else (some false))))) else ((event_Put.f k (([(⟨x190000, x190001, x190002⟩ : S50)] : List (S50)))).bind fun bt265 => ((spinnakerlaw23_told.f k).bind fun t269 => (if t269 = true then ((event_May.f k x190000 x190001 x190002).bind fun t270 => (if (t270 == false) = true then (some ((bt265.2 == 0) == false)) else (some false))) else (some false))))) else (if x29 = 6 then (if x8 ≥ 1 then (if x8 ≤ 50 then ((event_Put.f k (([(⟨x190000, x190001, x190002⟩ : S50)] : List (S50)))).bind fun bt274 => ((spinnakerlaw23_told.f k).bind fun t278 => (if t278 = true then ((event_May.f k x190000 x190001 x190002).bind fun t279 => (if (t279 == (!x2)) = true then (some ((bt274.2 == 0) == (!x2))) else (some false))) else (some false)))) else ((event_Put.f k (([(⟨x190000, x190001, x190002⟩ : S50)] : List (S50)))).bind fun bt283 => ((spinnakerlaw23_told.f k).bind fun t287 => (if t287 = true then ((event_May.f k x190000 x190001 x190002).bind fun t288 => (if (t288 == false) = true then (some ((bt283.2 == 0) == false)) else (some false))) else (some false))))) else ((event_Put.f k (([(⟨x190000, x190001, x190002⟩ : S50)] : List (S50)))).bind fun bt292 => ((spinnakerlaw23_told.f k).bind fun t296 => (if t296 = true then ((event_May.f k x190000 x190001 x190002).bind fun t297 => (if (t297 == false) = true then (some ((bt292.2 == 0) == false)) else (some false))) else (some false))))) else (if x29 = 5 then ((event_Put.f k (([(⟨x190000, x190001, x190002⟩ : S50)] : List (S50)))).bind fun bt301 => ((spinnakerlaw23_told.f k).bind fun t305 => (if t305 = true then ((event_May.f k x190000 x190001 x190002).bind fun t306 => (if (t306 == (x8 == 0)) = true then (some ((bt301.2 == 0) == (x8 == 0))) else (some false))) else (some false)))) else ((event_Put.f k (([(⟨x190000, x190001, x190002⟩ : S50)] : List (S50)))).bind fun bt310 => ((spinnakerlaw23_told.f k).bind fun t314 => (if t314 = true then ((event_May.f k x190000 x190001 x190002).bind fun t315 => (if (t315 == x10) = true then (some ((bt310.2 == 0) == x10)) else (some false))) else (some false))))))
end
def spinnakerlaw23_EventBounds.f (k : Nat) (a0 : Int) (a1 : Int) (a2 : Bool) : Option (Bool) := (some (([(-1), 0, 1, 50, 51, 100, 101, 200, 201, 999, 1000] : List Int) : List Int)).bind fun y185 => (if 0 ≤ (Int.tmod (IntKind.u64.wrap (a1)) 11) then (if (Int.tmod (IntKind.u64.wrap (a1)) 11) < (y185.length : Int) then (if a2 = true then (spinnakerlaw23_EventBounds.j0 k a2 (wrap64 ((wrap64 (Int.tmod (IntKind.u64.wrap (a0)) 8)) - 1)) (rd y185 (Int.tmod (IntKind.u64.wrap (a1)) 11)) (wrap64 ((wrap64 (Int.tmod (IntKind.u64.wrap (a0)) 8)) - 1)) (rd y185 (Int.tmod (IntKind.u64.wrap (a1)) 11)) (⟨#[97]⟩ : ByteArray)) else (spinnakerlaw23_EventBounds.j0 k a2 (wrap64 ((wrap64 (Int.tmod (IntKind.u64.wrap (a0)) 8)) - 1)) (rd y185 (Int.tmod (IntKind.u64.wrap (a1)) 11)) (wrap64 ((wrap64 (Int.tmod (IntKind.u64.wrap (a0)) 8)) - 1)) (rd y185 (Int.tmod (IntKind.u64.wrap (a1)) 11)) (⟨#[]⟩ : ByteArray))) else (none)) else (none))
theorem spinnakerlaw23_EventBounds.mono_l : ∀ k, (∀ y0 y1 y2 y3 y4 y5, LeO (spinnakerlaw23_EventBounds.j0 k y0 y1 y2 y3 y4 y5) (spinnakerlaw23_EventBounds.j0 (k + 1) y0 y1 y2 y3 y4 y5)) ∧ (∀ y0 y1 y2 y3 y4 y5 y6 y7, LeO (spinnakerlaw23_EventBounds.j1 k y0 y1 y2 y3 y4 y5 y6 y7) (spinnakerlaw23_EventBounds.j1 (k + 1) y0 y1 y2 y3 y4 y5 y6 y7))
  | 0 => ⟨fun _ _ _ _ _ _ r h => by simp [spinnakerlaw23_EventBounds.j0] at h, fun _ _ _ _ _ _ _ _ r h => by simp [spinnakerlaw23_EventBounds.j1] at h⟩
  | k + 1 => by
    obtain ⟨ih0, ih1⟩ := spinnakerlaw23_EventBounds.mono_l k
    refine ⟨?_, ?_⟩
    · intro y0 y1 y2 y3 y4 y5
      unfold spinnakerlaw23_EventBounds.j0
      repeat' first
      | (with_reducible exact ih0 _ _ _ _ _ _)
      | (with_reducible exact ih1 _ _ _ _ _ _ _ _)
      | (with_reducible exact event_May.mono _ _ _ _)
      | (with_reducible exact event_Put.mono _ _)
      | (with_reducible exact spinnakerlaw23_told.mono _)
      | (with_reducible exact LeO.refl _)
      | (with_reducible exact LeO.none _)
      | (with_reducible refine LeO.ite ?_ ?_)
      | (with_reducible refine LeO.bind ?_ (fun _ => ?_))
      | exact ih0 _ _ _ _ _ _
      | exact ih1 _ _ _ _ _ _ _ _
      | exact event_May.mono _ _ _ _
      | exact event_Put.mono _ _
      | exact spinnakerlaw23_told.mono _
      | exact LeO.none _
      | refine LeO.ite ?_ ?_
      | refine LeO.bind ?_ (fun _ => ?_)
    · intro y0 y1 y2 y3 y4 y5 y6 y7
      unfold spinnakerlaw23_EventBounds.j1
      repeat' first
      | (with_reducible exact ih0 _ _ _ _ _ _)
      | (with_reducible exact ih1 _ _ _ _ _ _ _ _)
      | (with_reducible exact event_May.mono _ _ _ _)
      | (with_reducible exact event_Put.mono _ _)
      | (with_reducible exact spinnakerlaw23_told.mono _)
      | (with_reducible exact LeO.refl _)
      | (with_reducible exact LeO.none _)
      | (with_reducible refine LeO.ite ?_ ?_)
      | (with_reducible refine LeO.bind ?_ (fun _ => ?_))
      | exact ih0 _ _ _ _ _ _
      | exact ih1 _ _ _ _ _ _ _ _
      | exact event_May.mono _ _ _ _
      | exact event_Put.mono _ _
      | exact spinnakerlaw23_told.mono _
      | exact LeO.none _
      | refine LeO.ite ?_ ?_
      | refine LeO.bind ?_ (fun _ => ?_)
theorem spinnakerlaw23_EventBounds.mono : ∀ a0 a1 a2 k, LeO (spinnakerlaw23_EventBounds.f k a0 a1 a2) (spinnakerlaw23_EventBounds.f (k + 1) a0 a1 a2) := by
  intro a0 a1 a2 k
  obtain ⟨ih0, ih1⟩ := spinnakerlaw23_EventBounds.mono_l k
  unfold spinnakerlaw23_EventBounds.f
  repeat' first
      | (with_reducible exact ih0 _ _ _ _ _ _)
      | (with_reducible exact ih1 _ _ _ _ _ _ _ _)
      | (with_reducible exact event_May.mono _ _ _ _)
      | (with_reducible exact event_Put.mono _ _)
      | (with_reducible exact spinnakerlaw23_told.mono _)
      | (with_reducible exact LeO.refl _)
      | (with_reducible exact LeO.none _)
      | (with_reducible refine LeO.ite ?_ ?_)
      | (with_reducible refine LeO.bind ?_ (fun _ => ?_))
      | exact ih0 _ _ _ _ _ _
      | exact ih1 _ _ _ _ _ _ _ _
      | exact event_May.mono _ _ _ _
      | exact event_Put.mono _ _
      | exact spinnakerlaw23_told.mono _
      | exact LeO.none _
      | refine LeO.ite ?_ ?_
      | refine LeO.bind ?_ (fun _ => ?_)
set_option maxHeartbeats 4000000 in
set_option maxRecDepth 100000 in
theorem spinnakerlaw23_EventBounds.calls (k : Nat) (a0 : Int) (a1 : Int) (a2 : Bool) (r : Bool) (w : World) (hrt0 : r = true) (h : spinnakerlaw23_EventBounds.f k a0 a1 a2 = some r) :
    Calls Try.prog 10 #[.int .i64 a0, .int .i64 a1, .bool a2] w fun e w' => e = .returned (.bool r) ∧ Below w.heap.size w w' := by
  have hu50 := Try.underlying50
  have hself_ := set_get
  have HB := Aside0.mk (Below.refl w.heap.size w)
  have hrt := Aside0.mk hrt0
  clear hrt0
  have H : ((some (([(-1), 0, 1, 50, 51, 100, 101, 200, 201, 999, 1000] : List Int) : List Int)).bind fun y185 => (if 0 ≤ (Int.tmod (IntKind.u64.wrap (a1)) 11) then (if (Int.tmod (IntKind.u64.wrap (a1)) 11) < (y185.length : Int) then (if a2 = true then (spinnakerlaw23_EventBounds.j0 k a2 (wrap64 ((wrap64 (Int.tmod (IntKind.u64.wrap (a0)) 8)) - 1)) (rd y185 (Int.tmod (IntKind.u64.wrap (a1)) 11)) (wrap64 ((wrap64 (Int.tmod (IntKind.u64.wrap (a0)) 8)) - 1)) (rd y185 (Int.tmod (IntKind.u64.wrap (a1)) 11)) (⟨#[97]⟩ : ByteArray)) else (spinnakerlaw23_EventBounds.j0 k a2 (wrap64 ((wrap64 (Int.tmod (IntKind.u64.wrap (a0)) 8)) - 1)) (rd y185 (Int.tmod (IntKind.u64.wrap (a1)) 11)) (wrap64 ((wrap64 (Int.tmod (IntKind.u64.wrap (a0)) 8)) - 1)) (rd y185 (Int.tmod (IntKind.u64.wrap (a1)) 11)) (⟨#[]⟩ : ByteArray))) else (none)) else (none))) = some r := h
  clear h
  obtain ⟨y185, hy185⟩ : ∃ y_ : List Int, y_ = (([(-1), 0, 1, 50, 51, 100, 101, 200, 201, 999, 1000] : List Int)) := ⟨_, rfl⟩
  replace H : (if 0 ≤ (Int.tmod (IntKind.u64.wrap (a1)) 11) then (if (Int.tmod (IntKind.u64.wrap (a1)) 11) < (y185.length : Int) then (if a2 = true then (spinnakerlaw23_EventBounds.j0 k a2 (wrap64 ((wrap64 (Int.tmod (IntKind.u64.wrap (a0)) 8)) - 1)) (rd y185 (Int.tmod (IntKind.u64.wrap (a1)) 11)) (wrap64 ((wrap64 (Int.tmod (IntKind.u64.wrap (a0)) 8)) - 1)) (rd y185 (Int.tmod (IntKind.u64.wrap (a1)) 11)) (⟨#[97]⟩ : ByteArray)) else (spinnakerlaw23_EventBounds.j0 k a2 (wrap64 ((wrap64 (Int.tmod (IntKind.u64.wrap (a0)) 8)) - 1)) (rd y185 (Int.tmod (IntKind.u64.wrap (a1)) 11)) (wrap64 ((wrap64 (Int.tmod (IntKind.u64.wrap (a0)) 8)) - 1)) (rd y185 (Int.tmod (IntKind.u64.wrap (a1)) 11)) (⟨#[]⟩ : ByteArray))) else (none)) else (none)) = some r := by first | (rw [hy185]; with_reducible exact H) | (have H2_ := (Option.bind_some _ _).symm.trans H; rw [hy185]; with_reducible exact H2_) | (have H2_ := (Option.bind_some _ _).symm.trans H; with_reducible exact H2_) | with_reducible exact H | (rw [hy185]; exact H) | exact H
  have Ny185 := Aside0.mk hy185
  clear hy185
  obtain ⟨ji4, hji4⟩ : ∃ j_ : Int, (Int.tmod (IntKind.u64.wrap (a1)) 11) = j_ := ⟨_, rfl⟩
  replace H : (if 0 ≤ (ji4) then (if (ji4) < (y185.length : Int) then (if a2 = true then (spinnakerlaw23_EventBounds.j0 k a2 (wrap64 ((wrap64 (Int.tmod (IntKind.u64.wrap (a0)) 8)) - 1)) (rd y185 (ji4)) (wrap64 ((wrap64 (Int.tmod (IntKind.u64.wrap (a0)) 8)) - 1)) (rd y185 (ji4)) (⟨#[97]⟩ : ByteArray)) else (spinnakerlaw23_EventBounds.j0 k a2 (wrap64 ((wrap64 (Int.tmod (IntKind.u64.wrap (a0)) 8)) - 1)) (rd y185 (ji4)) (wrap64 ((wrap64 (Int.tmod (IntKind.u64.wrap (a0)) 8)) - 1)) (rd y185 (ji4)) (⟨#[]⟩ : ByteArray))) else (none)) else (none)) = some r := by first | (rw [hji4] at H; exact H) | (simp only [hji4] at H ⊢; exact H)
  by_cases c5 : 0 ≤ (ji4)
  · rw [if_pos c5] at H
    have c5b0 : decide (0 ≤ (ji4)) = true := decide_eq_true c5
    clear c5
    by_cases c6 : (ji4) < (y185.length : Int)
    · rw [if_pos c6] at H
      have c6b0 : decide ((ji4) < (y185.length : Int)) = true := decide_eq_true c6
      clear c6
      have HC7 := Aside0.mk H
      clear H
      go_enter Try.func10, Try.ntmps10
      go_upto_if 27 with (first | ((with_reducible refine gate_dst (N := 18) rfl ?_); refine Kd.R_lit (Kd.int .i64) _ 3 ?hg (N := 18) ?hd (xs := ([(-1), 0, 1, 50, 51, 100, 101, 200, 201, 999, 1000] : List Int)) (inner := [.int .i64 (-1), .int .i64 0, .int .i64 1, .int .i64 50, .int .i64 51, .int .i64 100, .int .i64 101, .int .i64 200, .int .i64 201, .int .i64 999, .int .i64 1000]) (ok := fun _ => True) (okp := fun _ => True) ?hr ?hp (fun _ hk => hk) trivial (Below.refl _ _) (Nat.le_refl _) (by simp) ?_; (case hd => rfl); (case hg => rfl); (case hr => first | (go_simp; done) | (go_simp; rfl)); (case hp => exact (Reps.one (show Kd.M (Kd.int .i64) _ _ _ (-1) [.int .i64 (-1)] from rfl) (Reps.one (show Kd.M (Kd.int .i64) _ _ _ 0 [.int .i64 0] from rfl) (Reps.one (show Kd.M (Kd.int .i64) _ _ _ 1 [.int .i64 1] from rfl) (Reps.one (show Kd.M (Kd.int .i64) _ _ _ 50 [.int .i64 50] from rfl) (Reps.one (show Kd.M (Kd.int .i64) _ _ _ 51 [.int .i64 51] from rfl) (Reps.one (show Kd.M (Kd.int .i64) _ _ _ 100 [.int .i64 100] from rfl) (Reps.one (show Kd.M (Kd.int .i64) _ _ _ 101 [.int .i64 101] from rfl) (Reps.one (show Kd.M (Kd.int .i64) _ _ _ 200 [.int .i64 200] from rfl) (Reps.one (show Kd.M (Kd.int .i64) _ _ _ 201 [.int .i64 201] from rfl) (Reps.one (show Kd.M (Kd.int .i64) _ _ _ 999 [.int .i64 999] from rfl) (Reps.one (show Kd.M (Kd.int .i64) _ _ _ 1000 [.int .i64 1000] from rfl) (Reps.none _ _))))))))))))); intro v186 w8 ho9 hb hg_ hnew_; clear hg_ hnew_; (first | rw [← Ny185.out] at ho9 | (simp only [Int.reduceToNat] at ho9; rw [← Ny185.out] at ho9)); have n0_ := Aside0.mk (Kd.R_lower ho9 (below_size (by repeat (first | (with_reducible first | exact HB.out | apply below_alloc | apply pw_below_drewN | apply below_drew1) | exact HB.out)))); have n1_ := Aside0.mk (below_step (by repeat (first | (with_reducible first | exact HB.out | apply below_alloc | apply pw_below_drewN | apply below_drew1) | exact HB.out)) hb); clear HB; have HO187 := n0_; have HB := n1_; clear n0_ n1_; clear hb ho9; obtain ⟨Ao10, co10, eo10⟩ := Kd.R_slice HO187.out; subst eo10; have p188 : 0 ≤ ((ji4) : Int) := of_decide_eq_true (by first | (with_reducible assumption) | assumption); have q188 : (ji4) < (y185.length : Int) := of_decide_eq_true (by first | (with_reducible assumption) | assumption); obtain ⟨ad188, e188, hx188_0⟩ := Kd.at_int (Kd.R_reads' HO187.out).2.2 (ji4) p188 q188; cases e188; replace p188 := eq_true p188; replace q188 := eq_true q188) | ((with_reducible refine gate_dst (N := 9) rfl ?_); refine box_event ?hg (N := 9) ?hd (cs := #[.int .i64 0, .int .i64 0, .string (⟨#[]⟩ : ByteArray)]) (t := 50) ?hr ?_; (case hd => rfl); (case hg => rfl); (case hr => first | (go_simp; done) | (go_simp; rfl)); intro gb189 hg w11 hbox hb; have n0_ := Aside0.mk (Kd.R_below (by (with_reducible repeat (first | apply Kd.R_alloc | apply Kd.R_drewN | apply Kd.R_drew)); exact HO187.out) hb); have n1_ := Aside0.mk (below_step (by repeat (first | (with_reducible first | exact HB.out | apply below_alloc | apply pw_below_drewN | apply below_drew1) | exact HB.out)) hb); have n2_ := Aside0.mk (hbox); have n3_ := Aside0.mk ((by rw [hg]; exact (below_size (by repeat (first | (with_reducible first | exact HB.out | apply below_alloc | apply pw_below_drewN | apply below_drew1) | exact HB.out))) : w.heap.size ≤ gb189)); have n4_ := Aside0.mk ((by rw [hg]; exact (below_size (by repeat (first | (with_reducible first | exact HB.out | apply below_alloc | apply pw_below_drewN | apply below_drew1) | exact HB.out))) : w.heap.size ≤ gb189)); clear HO187; clear HB; have HO187 := n0_; have HB := n1_; have BK189 := n2_; have GW189 := n3_; have GE189 := n4_; clear n0_ n1_ n2_ n3_ n4_; clear hb hbox hg; have hcz12_0 : w11.cell? ⟨gb189, 0, none⟩ = some (.int .i64 0) := (blk_cell BK189.out 0).trans rfl; have hcz12_1 : w11.cell? ⟨gb189, 1, none⟩ = some (.int .i64 0) := (blk_cell BK189.out 1).trans rfl; have hcz12_2 : w11.cell? ⟨gb189, 2, none⟩ = some (.string (⟨#[]⟩ : ByteArray)) := (blk_cell BK189.out 2).trans rfl; have hfz12_0 := blk_frozen BK189.out 0; have hfz12_1 := blk_frozen BK189.out 1; have hfz12_2 := blk_frozen BK189.out 2))
      (try simp only [Act.put, List.setIfInBounds_toArray, List.set_cons_zero, List.set_cons_succ])
      go_cut [] (fun wc => ∃ (kq : Nat) (x190002_6 : ByteArray), Aside0 (spinnakerlaw23_EventBounds.j0 kq a2 (wrap64 ((wrap64 (Int.tmod (IntKind.u64.wrap (a0)) 8)) - 1)) (rd y185 (ji4)) (wrap64 ((wrap64 (Int.tmod (IntKind.u64.wrap (a0)) 8)) - 1)) (rd y185 (ji4)) x190002_6 = some r) ∧ Aside0 (kq ≤ k) ∧ Aside0 (wc.heap[gb189]? = some (.cells #[.int .i64 (wrap64 ((wrap64 (Int.tmod (IntKind.u64.wrap (a0)) 8)) - 1)), .int .i64 (rd y185 (ji4)), .string x190002_6] 50 (0, 0))) ∧ Aside0 (Below w.heap.size w wc))
      case first =>
        have H := HC7.out
        clear HC7
        by_cases c13 : a2 = true
        · subst c13
          have H1 : (spinnakerlaw23_EventBounds.j0 k true (wrap64 ((wrap64 (Int.tmod (IntKind.u64.wrap (a0)) 8)) - 1)) (rd y185 (ji4)) (wrap64 ((wrap64 (Int.tmod (IntKind.u64.wrap (a0)) 8)) - 1)) (rd y185 (ji4)) (⟨#[97]⟩ : ByteArray)) = some r := by rw [if_pos rfl] at H; exact H
          clear H
          have H := H1
          clear H1
          have H' := Aside0.mk H
          clear H
          have hcz14_0 : w11.cell? ⟨gb189, 0, none⟩ = some (.int .i64 0) := (blk_cell BK189.out 0).trans rfl
          have hcz14_1 : w11.cell? ⟨gb189, 1, none⟩ = some (.int .i64 0) := (blk_cell BK189.out 1).trans rfl
          have hcz14_2 : w11.cell? ⟨gb189, 2, none⟩ = some (.string (⟨#[]⟩ : ByteArray)) := (blk_cell BK189.out 2).trans rfl
          have hfz14_0 := blk_frozen BK189.out 0
          have hfz14_1 := blk_frozen BK189.out 1
          have hfz14_2 := blk_frozen BK189.out 2
          go_wp2
          go_meet
          case rel => exact ⟨_, ((⟨#[97]⟩ : ByteArray)), H', ⟨by first | omega | exact Nat.le_refl _⟩, ⟨by (with_reducible repeat (first | refine blk_drewN ?_ _ | refine blk_drew ?_ | refine blk_alloc ?_ _)); refine blk_put (cs := #[.int .i64 (wrap64 ((wrap64 (Int.tmod (IntKind.u64.wrap (a0)) 8)) - 1)), .int .i64 (rd y185 (ji4)), .string (⟨#[]⟩ : ByteArray)]) ?_ 2 _ rfl; (with_reducible repeat (first | refine blk_drewN ?_ _ | refine blk_drew ?_ | refine blk_alloc ?_ _)); refine blk_put (cs := #[.int .i64 (wrap64 ((wrap64 (Int.tmod (IntKind.u64.wrap (a0)) 8)) - 1)), .int .i64 (rd y185 (ji4)), .string (⟨#[]⟩ : ByteArray)]) ?_ 2 _ rfl; (with_reducible repeat (first | refine blk_drewN ?_ _ | refine blk_drew ?_ | refine blk_alloc ?_ _)); refine blk_put (cs := #[.int .i64 (wrap64 ((wrap64 (Int.tmod (IntKind.u64.wrap (a0)) 8)) - 1)), .int .i64 0, .string (⟨#[]⟩ : ByteArray)]) ?_ 1 _ rfl; (with_reducible repeat (first | refine blk_drewN ?_ _ | refine blk_drew ?_ | refine blk_alloc ?_ _)); refine blk_put (cs := #[.int .i64 0, .int .i64 0, .string (⟨#[]⟩ : ByteArray)]) ?_ 0 _ rfl; (with_reducible repeat (first | refine blk_drewN ?_ _ | refine blk_drew ?_ | refine blk_alloc ?_ _)); exact BK189.out⟩, ⟨by repeat (first | (with_reducible first | exact HB.out | apply below_alloc | apply pw_below_drewN | apply below_drew1 | refine below_set ?_ GE189.out) | exact HB.out)⟩⟩
        · replace c13 := Bool.eq_false_iff.mpr c13
          subst c13
          have H1 : (spinnakerlaw23_EventBounds.j0 k false (wrap64 ((wrap64 (Int.tmod (IntKind.u64.wrap (a0)) 8)) - 1)) (rd y185 (ji4)) (wrap64 ((wrap64 (Int.tmod (IntKind.u64.wrap (a0)) 8)) - 1)) (rd y185 (ji4)) (⟨#[]⟩ : ByteArray)) = some r := by rw [if_neg (show ¬ (false = true) by decide)] at H; exact H
          clear H
          have H := H1
          clear H1
          have H' := Aside0.mk H
          clear H
          go_wp2
          go_meet
          case rel => exact ⟨_, ((⟨#[]⟩ : ByteArray)), H', ⟨by first | omega | exact Nat.le_refl _⟩, ⟨by (with_reducible repeat (first | refine blk_drewN ?_ _ | refine blk_drew ?_ | refine blk_alloc ?_ _)); refine blk_put (cs := #[.int .i64 (wrap64 ((wrap64 (Int.tmod (IntKind.u64.wrap (a0)) 8)) - 1)), .int .i64 (rd y185 (ji4)), .string (⟨#[]⟩ : ByteArray)]) ?_ 2 _ rfl; (with_reducible repeat (first | refine blk_drewN ?_ _ | refine blk_drew ?_ | refine blk_alloc ?_ _)); refine blk_put (cs := #[.int .i64 (wrap64 ((wrap64 (Int.tmod (IntKind.u64.wrap (a0)) 8)) - 1)), .int .i64 0, .string (⟨#[]⟩ : ByteArray)]) ?_ 1 _ rfl; (with_reducible repeat (first | refine blk_drewN ?_ _ | refine blk_drew ?_ | refine blk_alloc ?_ _)); refine blk_put (cs := #[.int .i64 0, .int .i64 0, .string (⟨#[]⟩ : ByteArray)]) ?_ 0 _ rfl; (with_reducible repeat (first | refine blk_drewN ?_ _ | refine blk_drew ?_ | refine blk_alloc ?_ _)); exact BK189.out⟩, ⟨by repeat (first | (with_reducible first | exact HB.out | apply below_alloc | apply pw_below_drewN | apply below_drew1 | refine below_set ?_ GE189.out) | exact HB.out)⟩⟩
      case rest =>
        clear HC7
        try clear c1
        try clear p1
        try clear q1
        try clear hx1
        try clear p2
        try clear c5
        try clear c5b0
        try clear c6
        try clear c6b0
        try clear p6
        try clear c10
        try clear c13
        try clear hcz12_0
        try clear hcz12_1
        try clear hcz12_2
        try clear hcz14_0
        try clear hcz14_1
        try clear hcz14_2
        try clear hfz12_0
        try clear hfz12_1
        try clear hfz12_2
        try clear hfz14_0
        try clear hfz14_1
        try clear hfz14_2
        try clear hx188_0
        try clear p188
        try clear q188
        obtain ⟨kq, x190002_6, HA, HJ6, BK189, HB⟩ := hcut
        cases kq with
        | zero => exact absurd HA.out (by simp [spinnakerlaw23_EventBounds.j0])
        | succ kj6 =>
          have H := HA.out
          clear HA
          simp only [spinnakerlaw23_EventBounds.j0] at H
          by_cases c15 : (wrap64 ((wrap64 (Int.tmod (IntKind.u64.wrap (a0)) 8)) - 1)) = 1
          · rw [if_pos c15] at H
            have c15b0 : ((wrap64 ((wrap64 (Int.tmod (IntKind.u64.wrap (a0)) 8)) - 1)) == 1) = true := beq_iff_eq.mpr c15
            have c15b1 : ((wrap64 ((wrap64 (Int.tmod (IntKind.u64.wrap (a0)) 8)) - 1)) != 1) = false := bne_eq_false_iff_eq.mpr c15
            clear c15
            by_cases c16 : (rd y185 (ji4)) ≥ 1
            · rw [if_pos c16] at H
              have c16b0 : decide (1 ≤ (rd y185 (ji4))) = true := decide_eq_true c16
              clear c16
              by_cases c17 : (rd y185 (ji4)) ≤ 200
              · rw [if_pos c17] at H
                have c17b0 : decide ((rd y185 (ji4)) ≤ 200) = true := decide_eq_true c17
                clear c17
                obtain ⟨y190, hy190⟩ : ∃ y_ : List (S50), y_ = (([(⟨(wrap64 ((wrap64 (Int.tmod (IntKind.u64.wrap (a0)) 8)) - 1)), (rd y185 (ji4)), x190002_6⟩ : S50)] : List (S50))) := ⟨_, rfl⟩
                replace H : ((event_Put.f kj6 y190).bind fun bt193 => ((spinnakerlaw23_told.f kj6).bind fun t197 => (if t197 = true then ((event_May.f kj6 (wrap64 ((wrap64 (Int.tmod (IntKind.u64.wrap (a0)) 8)) - 1)) (rd y185 (ji4)) x190002_6).bind fun t198 => (if (t198 == (!a2)) = true then (some ((bt193.2 == 0) == (!a2))) else (some false))) else (some false)))) = some r := by first | (rw [hy190]; with_reducible exact H) | (have H2_ := (Option.bind_some _ _).symm.trans H; rw [hy190]; with_reducible exact H2_) | (have H2_ := (Option.bind_some _ _).symm.trans H; with_reducible exact H2_) | with_reducible exact H | (rw [hy190]; exact H) | exact H
                have Ny190 := Aside0.mk hy190
                clear hy190
                replace H := Option.bind_eq_some_iff.mp H
                obtain ⟨⟨t193, t194⟩, A180, H⟩ := H
                replace H : ((spinnakerlaw23_told.f kj6).bind fun t197 => (if t197 = true then ((event_May.f kj6 (wrap64 ((wrap64 (Int.tmod (IntKind.u64.wrap (a0)) 8)) - 1)) (rd y185 (ji4)) x190002_6).bind fun t198 => (if (t198 == (!a2)) = true then (some ((t194 == 0) == (!a2))) else (some false))) else (some false))) = some r := H
                have A18 := Aside0.mk A180
                clear A180
                replace H := Option.bind_eq_some_iff.mp H
                obtain ⟨t197, A190, H⟩ := H
                replace H : (if t197 = true then ((event_May.f kj6 (wrap64 ((wrap64 (Int.tmod (IntKind.u64.wrap (a0)) 8)) - 1)) (rd y185 (ji4)) x190002_6).bind fun t198 => (if (t198 == (!a2)) = true then (some ((t194 == 0) == (!a2))) else (some false))) else (some false)) = some r := H
                have A19 := Aside0.mk A190
                clear A190
                by_cases c20 : t197 = true
                · subst c20
                  have H1 : ((event_May.f kj6 (wrap64 ((wrap64 (Int.tmod (IntKind.u64.wrap (a0)) 8)) - 1)) (rd y185 (ji4)) x190002_6).bind fun t198 => (if (t198 == (!a2)) = true then (some ((t194 == 0) == (!a2))) else (some false))) = some r := by rw [if_pos rfl] at H; exact H
                  clear H
                  have H := H1
                  clear H1
                  replace H := Option.bind_eq_some_iff.mp H
                  obtain ⟨t198, A210, H⟩ := H
                  replace H : (if (t198 == (!a2)) = true then (some ((t194 == 0) == (!a2))) else (some false)) = some r := H
                  have A21 := Aside0.mk A210
                  clear A210
                  by_cases c22 : (t198 == (!a2)) = true
                  · rw [if_pos c22] at H
                    have c22b0 : (t198 == (!a2)) = true := c22
                    (try (have c22b1 : decide (t198 = (!a2)) = true := by simpa using c22))
                    (try (have c22b2 : (t198 == (!a2)) = true := by simpa using c22))
                    clear c22
                    obtain rfl := Option.some.inj H
                    have hcz23_0 : wc.cell? ⟨gb189, 0, none⟩ = some (.int .i64 (wrap64 ((wrap64 (Int.tmod (IntKind.u64.wrap (a0)) 8)) - 1))) := (blk_cell BK189.out 0).trans rfl
                    have hcz23_1 : wc.cell? ⟨gb189, 1, none⟩ = some (.int .i64 (rd y185 (ji4))) := (blk_cell BK189.out 1).trans rfl
                    have hcz23_2 : wc.cell? ⟨gb189, 2, none⟩ = some (.string x190002_6) := (blk_cell BK189.out 2).trans rfl
                    have hfz23_0 := blk_frozen BK189.out 0
                    have hfz23_1 := blk_frozen BK189.out 1
                    have hfz23_2 := blk_frozen BK189.out 2
                    go_wp2_with (first | ((with_reducible refine gate_dst (N := 85) rfl ?_); refine Kd.R_lit k50 _ 50 ?hg (N := 85) ?hd (xs := ([(⟨(wrap64 ((wrap64 (Int.tmod (IntKind.u64.wrap (a0)) 8)) - 1)), (rd y185 (ji4)), x190002_6⟩ : S50)] : List (S50))) (inner := [.int .i64 (wrap64 ((wrap64 (Int.tmod (IntKind.u64.wrap (a0)) 8)) - 1)), .int .i64 (rd y185 (ji4)), .string x190002_6]) (ok := fun _ => True) (okp := fun _ => True) ?hr ?hp (fun _ hk => hk) trivial (Below.refl _ _) (Nat.le_refl _) (by simp) ?_; (case hd => rfl); (case hg => rfl); (case hr => first | (go_simp; done) | (go_simp; rfl)); (case hp => exact (Reps.c3 (show Kd.M k50 _ _ _ (⟨(wrap64 ((wrap64 (Int.tmod (IntKind.u64.wrap (a0)) 8)) - 1)), (rd y185 (ji4)), x190002_6⟩ : S50) [.int .i64 (wrap64 ((wrap64 (Int.tmod (IntKind.u64.wrap (a0)) 8)) - 1)), .int .i64 (rd y185 (ji4)), .string x190002_6] from (k50_mkM _ _ _ (⟨(wrap64 ((wrap64 (Int.tmod (IntKind.u64.wrap (a0)) 8)) - 1)), (rd y185 (ji4)), x190002_6⟩ : S50) )) (Reps.none _ _))); intro v191 w24 ho25 hb hg_ hnew_; clear hg_ hnew_; (first | rw [← Ny190.out] at ho25 | (simp only [Int.reduceToNat] at ho25; rw [← Ny190.out] at ho25)); have n0_ := Aside0.mk (Kd.R_lower (Kd.R_newB ho25 (g := gb189) (o := .cells #[.int .i64 (wrap64 ((wrap64 (Int.tmod (IntKind.u64.wrap (a0)) 8)) - 1)), .int .i64 (rd y185 (ji4)), .string x190002_6] 50 (0, 0)) (by (with_reducible repeat (first | refine blk_drewN ?_ _ | refine blk_drew ?_ | refine blk_alloc ?_ _)); exact BK189.out)) (below_size (by repeat (first | (with_reducible first | exact HB.out | apply below_alloc | apply pw_below_drewN | apply below_drew1 | refine below_set ?_ GE189.out) | exact HB.out)))); have n1_ := Aside0.mk (blk_below (g := gb189) (o := .cells #[.int .i64 (wrap64 ((wrap64 (Int.tmod (IntKind.u64.wrap (a0)) 8)) - 1)), .int .i64 (rd y185 (ji4)), .string x190002_6] 50 (0, 0)) (by (with_reducible repeat (first | refine blk_drewN ?_ _ | refine blk_drew ?_ | refine blk_alloc ?_ _)); exact BK189.out) hb); have n2_ := Aside0.mk (below_step (by repeat (first | (with_reducible first | exact HB.out | apply below_alloc | apply pw_below_drewN | apply below_drew1 | refine below_set ?_ GE189.out) | exact HB.out)) hb); clear BK189; clear HB; have HO192 := n0_; have BK189 := n1_; have HB := n2_; clear n0_ n1_ n2_; clear hb ho25; obtain ⟨Ao26, co26, eo26⟩ := Kd.R_slice HO192.out; subst eo26) | ((with_reducible refine gate_callee (f := 37) rfl ?_); refine goesL_ (some 86) rfl rfl Try.func37 (by kernel_rfl) rfl #[.slice Ao26 y190.length co26] rfl (by (try simp only [List.map_toArray, List.map_cons, List.map_nil]); first | done | rfl | (simp only [List.length_drop, List.length_take]; rfl)) ?_; (with_reducible refine (event_Put.calls kj6 _ _ y190 t193 t194 _ ?side1 ?side2 A18.out).mono ?_); (case side1 => repeat (first | exact (Kd.R_reads' HO192.out).2.2 | (with_reducible refine Kd.C_alloc ?_ _) | (with_reducible refine Kd.C_drewN ?_ _) | (with_reducible refine Kd.C_drew ?_))); (case side2 => exact (Kd.R_reads' HO192.out).2.1); rintro e w27 ⟨v195, rfl, ho0, hb⟩; refine ⟨_, rfl, ?_⟩; have n0_ := Aside0.mk (Kd.R_below (by (with_reducible repeat (first | apply Kd.R_alloc | apply Kd.R_drewN | apply Kd.R_drew)); exact HO192.out) hb); have n1_ := Aside0.mk (Kd.R_lower ho0 (below_size (by repeat (first | (with_reducible first | exact HB.out | apply below_alloc | apply pw_below_drewN | apply below_drew1 | refine below_set ?_ GE189.out) | exact HB.out)))); have n2_ := Aside0.mk (blk_below (g := gb189) (o := .cells #[.int .i64 (wrap64 ((wrap64 (Int.tmod (IntKind.u64.wrap (a0)) 8)) - 1)), .int .i64 (rd y185 (ji4)), .string x190002_6] 50 (0, 0)) (by (with_reducible repeat (first | refine blk_drewN ?_ _ | refine blk_drew ?_ | refine blk_alloc ?_ _)); exact BK189.out) hb); have n3_ := Aside0.mk (below_step (by repeat (first | (with_reducible first | exact HB.out | apply below_alloc | apply pw_below_drewN | apply below_drew1 | refine below_set ?_ GE189.out) | exact HB.out)) hb); clear HO192; clear BK189; clear HB; have HO192 := n0_; have HO196 := n1_; have BK189 := n2_; have HB := n3_; clear n0_ n1_ n2_ n3_; (try clear hb); (try clear hb2); (try clear hk); (try clear hi); (try clear ho0)) | ((with_reducible refine gate_callee (f := 38) rfl ?_); refine goesL_ (some 89) rfl rfl Try.func38 (by kernel_rfl) rfl #[] rfl (by (try simp only [List.map_toArray, List.map_cons, List.map_nil]); first | done | rfl | (simp only [List.length_drop, List.length_take]; rfl)) ?_; (with_reducible refine (spinnakerlaw23_told.calls kj6  true _ A19.out).mono ?_); rintro e w28 ⟨rfl, hb⟩; refine ⟨_, rfl, ?_⟩; have n0_ := Aside0.mk (Kd.R_below (by (with_reducible repeat (first | apply Kd.R_alloc | apply Kd.R_drewN | apply Kd.R_drew)); exact HO192.out) hb); have n1_ := Aside0.mk (Kd.R_below (by (with_reducible repeat (first | apply Kd.R_alloc | apply Kd.R_drewN | apply Kd.R_drew)); exact HO196.out) hb); have n2_ := Aside0.mk (blk_below (g := gb189) (o := .cells #[.int .i64 (wrap64 ((wrap64 (Int.tmod (IntKind.u64.wrap (a0)) 8)) - 1)), .int .i64 (rd y185 (ji4)), .string x190002_6] 50 (0, 0)) (by (with_reducible repeat (first | refine blk_drewN ?_ _ | refine blk_drew ?_ | refine blk_alloc ?_ _)); exact BK189.out) hb); have n3_ := Aside0.mk (below_step (by repeat (first | (with_reducible first | exact HB.out | apply below_alloc | apply pw_below_drewN | apply below_drew1 | refine below_set ?_ GE189.out) | exact HB.out)) hb); clear HO192; clear HO196; clear BK189; clear HB; have HO192 := n0_; have HO196 := n1_; have BK189 := n2_; have HB := n3_; clear n0_ n1_ n2_ n3_; (try clear hb); (try clear hb2); (try clear hk); (try clear hi); have hcz29_0 : w28.cell? ⟨gb189, 0, none⟩ = some (.int .i64 (wrap64 ((wrap64 (Int.tmod (IntKind.u64.wrap (a0)) 8)) - 1))) := (blk_cell BK189.out 0).trans rfl; have hcz29_1 : w28.cell? ⟨gb189, 1, none⟩ = some (.int .i64 (rd y185 (ji4))) := (blk_cell BK189.out 1).trans rfl; have hcz29_2 : w28.cell? ⟨gb189, 2, none⟩ = some (.string x190002_6) := (blk_cell BK189.out 2).trans rfl; have hfz29_0 := blk_frozen BK189.out 0; have hfz29_1 := blk_frozen BK189.out 1; have hfz29_2 := blk_frozen BK189.out 2) | (go_at_call 39; (with_reducible refine (event_May.calls kj6 (wrap64 ((wrap64 (Int.tmod (IntKind.u64.wrap (a0)) 8)) - 1)) (rd y185 (ji4)) x190002_6 t198 _ A21.out).mono ?_); rintro e w30 ⟨rfl, hb⟩; have n0_ := Aside0.mk (Kd.R_below (by (with_reducible repeat (first | apply Kd.R_alloc | apply Kd.R_drewN | apply Kd.R_drew)); exact HO192.out) hb); have n1_ := Aside0.mk (Kd.R_below (by (with_reducible repeat (first | apply Kd.R_alloc | apply Kd.R_drewN | apply Kd.R_drew)); exact HO196.out) hb); have n2_ := Aside0.mk (blk_below (g := gb189) (o := .cells #[.int .i64 (wrap64 ((wrap64 (Int.tmod (IntKind.u64.wrap (a0)) 8)) - 1)), .int .i64 (rd y185 (ji4)), .string x190002_6] 50 (0, 0)) (by (with_reducible repeat (first | refine blk_drewN ?_ _ | refine blk_drew ?_ | refine blk_alloc ?_ _)); exact BK189.out) hb); have n3_ := Aside0.mk (below_step (by repeat (first | (with_reducible first | exact HB.out | apply below_alloc | apply pw_below_drewN | apply below_drew1 | refine below_set ?_ GE189.out) | exact HB.out)) hb); clear HO192; clear HO196; clear BK189; clear HB; have HO192 := n0_; have HO196 := n1_; have BK189 := n2_; have HB := n3_; clear n0_ n1_ n2_ n3_; (try clear hb); (try clear hb2); (try clear hk); (try clear hi)))
                    go_ret
                    exact ⟨by first | rfl | (simp only [tdiv_top]; rfl) | (simp [errW_none, errW_some] <;> rfl) | (simp only [← hji4]; first | rfl | (simp [errW_none, errW_some] <;> rfl)) | (simp [*, errW_none, errW_some] <;> rfl), by repeat (first | (with_reducible first | exact HB.out | apply below_alloc | apply pw_below_drewN | apply below_drew1 | refine below_set ?_ GE189.out) | exact HB.out)⟩
                  · rw [if_neg c22] at H
                    have c22b0 : (t198 == (!a2)) = false := by simpa using c22
                    (try (have c22b1 : decide (t198 = (!a2)) = false := by simpa using c22))
                    (try (have c22b2 : (t198 == (!a2)) = false := by simpa using c22))
                    (try (have c22b3 : ¬ (t198 = (!a2)) := by simpa using c22))
                    clear c22
                    rw [hrt.out] at H
                    exact absurd H (by simp)
                · replace c20 := Bool.eq_false_iff.mpr c20
                  subst c20
                  have H1 : (some false) = some r := by rw [if_neg (show ¬ (false = true) by decide)] at H; exact H
                  clear H
                  have H := H1
                  clear H1
                  rw [hrt.out] at H
                  exact absurd H (by simp)
              · rw [if_neg c17] at H
                have c17b0 : decide ((rd y185 (ji4)) ≤ 200) = false := decide_eq_false c17
                clear c17
                obtain ⟨y199, hy199⟩ : ∃ y_ : List (S50), y_ = (([(⟨(wrap64 ((wrap64 (Int.tmod (IntKind.u64.wrap (a0)) 8)) - 1)), (rd y185 (ji4)), x190002_6⟩ : S50)] : List (S50))) := ⟨_, rfl⟩
                replace H : ((event_Put.f kj6 y199).bind fun bt202 => ((spinnakerlaw23_told.f kj6).bind fun t206 => (if t206 = true then ((event_May.f kj6 (wrap64 ((wrap64 (Int.tmod (IntKind.u64.wrap (a0)) 8)) - 1)) (rd y185 (ji4)) x190002_6).bind fun t207 => (if (t207 == false) = true then (some ((bt202.2 == 0) == false)) else (some false))) else (some false)))) = some r := by first | (rw [hy199]; with_reducible exact H) | (have H2_ := (Option.bind_some _ _).symm.trans H; rw [hy199]; with_reducible exact H2_) | (have H2_ := (Option.bind_some _ _).symm.trans H; with_reducible exact H2_) | with_reducible exact H | (rw [hy199]; exact H) | exact H
                have Ny199 := Aside0.mk hy199
                clear hy199
                replace H := Option.bind_eq_some_iff.mp H
                obtain ⟨⟨t202, t203⟩, A310, H⟩ := H
                replace H : ((spinnakerlaw23_told.f kj6).bind fun t206 => (if t206 = true then ((event_May.f kj6 (wrap64 ((wrap64 (Int.tmod (IntKind.u64.wrap (a0)) 8)) - 1)) (rd y185 (ji4)) x190002_6).bind fun t207 => (if (t207 == false) = true then (some ((t203 == 0) == false)) else (some false))) else (some false))) = some r := H
                have A31 := Aside0.mk A310
                clear A310
                replace H := Option.bind_eq_some_iff.mp H
                obtain ⟨t206, A320, H⟩ := H
                replace H : (if t206 = true then ((event_May.f kj6 (wrap64 ((wrap64 (Int.tmod (IntKind.u64.wrap (a0)) 8)) - 1)) (rd y185 (ji4)) x190002_6).bind fun t207 => (if (t207 == false) = true then (some ((t203 == 0) == false)) else (some false))) else (some false)) = some r := H
                have A32 := Aside0.mk A320
                clear A320
                by_cases c33 : t206 = true
                · subst c33
                  have H1 : ((event_May.f kj6 (wrap64 ((wrap64 (Int.tmod (IntKind.u64.wrap (a0)) 8)) - 1)) (rd y185 (ji4)) x190002_6).bind fun t207 => (if (t207 == false) = true then (some ((t203 == 0) == false)) else (some false))) = some r := by rw [if_pos rfl] at H; exact H
                  clear H
                  have H := H1
                  clear H1
                  replace H := Option.bind_eq_some_iff.mp H
                  obtain ⟨t207, A340, H⟩ := H
                  replace H : (if (t207 == false) = true then (some ((t203 == 0) == false)) else (some false)) = some r := H
                  have A34 := Aside0.mk A340
                  clear A340
                  by_cases c35 : (t207 == false) = true
                  · rw [if_pos c35] at H
                    have c35b0 : (t207 == false) = true := c35
                    (try (have c35b1 : decide (t207 = false) = true := by simpa using c35))
                    (try (have c35b2 : (t207 == false) = true := by simpa using c35))
                    clear c35
                    obtain rfl := Option.some.inj H
                    have hcz36_0 : wc.cell? ⟨gb189, 0, none⟩ = some (.int .i64 (wrap64 ((wrap64 (Int.tmod (IntKind.u64.wrap (a0)) 8)) - 1))) := (blk_cell BK189.out 0).trans rfl
                    have hcz36_1 : wc.cell? ⟨gb189, 1, none⟩ = some (.int .i64 (rd y185 (ji4))) := (blk_cell BK189.out 1).trans rfl
                    have hcz36_2 : wc.cell? ⟨gb189, 2, none⟩ = some (.string x190002_6) := (blk_cell BK189.out 2).trans rfl
                    have hfz36_0 := blk_frozen BK189.out 0
                    have hfz36_1 := blk_frozen BK189.out 1
                    have hfz36_2 := blk_frozen BK189.out 2
                    go_wp2_with (first | ((with_reducible refine gate_dst (N := 85) rfl ?_); refine Kd.R_lit k50 _ 50 ?hg (N := 85) ?hd (xs := ([(⟨(wrap64 ((wrap64 (Int.tmod (IntKind.u64.wrap (a0)) 8)) - 1)), (rd y185 (ji4)), x190002_6⟩ : S50)] : List (S50))) (inner := [.int .i64 (wrap64 ((wrap64 (Int.tmod (IntKind.u64.wrap (a0)) 8)) - 1)), .int .i64 (rd y185 (ji4)), .string x190002_6]) (ok := fun _ => True) (okp := fun _ => True) ?hr ?hp (fun _ hk => hk) trivial (Below.refl _ _) (Nat.le_refl _) (by simp) ?_; (case hd => rfl); (case hg => rfl); (case hr => first | (go_simp; done) | (go_simp; rfl)); (case hp => exact (Reps.c3 (show Kd.M k50 _ _ _ (⟨(wrap64 ((wrap64 (Int.tmod (IntKind.u64.wrap (a0)) 8)) - 1)), (rd y185 (ji4)), x190002_6⟩ : S50) [.int .i64 (wrap64 ((wrap64 (Int.tmod (IntKind.u64.wrap (a0)) 8)) - 1)), .int .i64 (rd y185 (ji4)), .string x190002_6] from (k50_mkM _ _ _ (⟨(wrap64 ((wrap64 (Int.tmod (IntKind.u64.wrap (a0)) 8)) - 1)), (rd y185 (ji4)), x190002_6⟩ : S50) )) (Reps.none _ _))); intro v200 w37 ho38 hb hg_ hnew_; clear hg_ hnew_; (first | rw [← Ny199.out] at ho38 | (simp only [Int.reduceToNat] at ho38; rw [← Ny199.out] at ho38)); have n0_ := Aside0.mk (Kd.R_lower (Kd.R_newB ho38 (g := gb189) (o := .cells #[.int .i64 (wrap64 ((wrap64 (Int.tmod (IntKind.u64.wrap (a0)) 8)) - 1)), .int .i64 (rd y185 (ji4)), .string x190002_6] 50 (0, 0)) (by (with_reducible repeat (first | refine blk_drewN ?_ _ | refine blk_drew ?_ | refine blk_alloc ?_ _)); exact BK189.out)) (below_size (by repeat (first | (with_reducible first | exact HB.out | apply below_alloc | apply pw_below_drewN | apply below_drew1 | refine below_set ?_ GE189.out) | exact HB.out)))); have n1_ := Aside0.mk (blk_below (g := gb189) (o := .cells #[.int .i64 (wrap64 ((wrap64 (Int.tmod (IntKind.u64.wrap (a0)) 8)) - 1)), .int .i64 (rd y185 (ji4)), .string x190002_6] 50 (0, 0)) (by (with_reducible repeat (first | refine blk_drewN ?_ _ | refine blk_drew ?_ | refine blk_alloc ?_ _)); exact BK189.out) hb); have n2_ := Aside0.mk (below_step (by repeat (first | (with_reducible first | exact HB.out | apply below_alloc | apply pw_below_drewN | apply below_drew1 | refine below_set ?_ GE189.out) | exact HB.out)) hb); clear BK189; clear HB; have HO201 := n0_; have BK189 := n1_; have HB := n2_; clear n0_ n1_ n2_; clear hb ho38; obtain ⟨Ao39, co39, eo39⟩ := Kd.R_slice HO201.out; subst eo39) | ((with_reducible refine gate_callee (f := 37) rfl ?_); refine goesL_ (some 86) rfl rfl Try.func37 (by kernel_rfl) rfl #[.slice Ao39 y199.length co39] rfl (by (try simp only [List.map_toArray, List.map_cons, List.map_nil]); first | done | rfl | (simp only [List.length_drop, List.length_take]; rfl)) ?_; (with_reducible refine (event_Put.calls kj6 _ _ y199 t202 t203 _ ?side1 ?side2 A31.out).mono ?_); (case side1 => repeat (first | exact (Kd.R_reads' HO201.out).2.2 | (with_reducible refine Kd.C_alloc ?_ _) | (with_reducible refine Kd.C_drewN ?_ _) | (with_reducible refine Kd.C_drew ?_))); (case side2 => exact (Kd.R_reads' HO201.out).2.1); rintro e w40 ⟨v204, rfl, ho0, hb⟩; refine ⟨_, rfl, ?_⟩; have n0_ := Aside0.mk (Kd.R_below (by (with_reducible repeat (first | apply Kd.R_alloc | apply Kd.R_drewN | apply Kd.R_drew)); exact HO201.out) hb); have n1_ := Aside0.mk (Kd.R_lower ho0 (below_size (by repeat (first | (with_reducible first | exact HB.out | apply below_alloc | apply pw_below_drewN | apply below_drew1 | refine below_set ?_ GE189.out) | exact HB.out)))); have n2_ := Aside0.mk (blk_below (g := gb189) (o := .cells #[.int .i64 (wrap64 ((wrap64 (Int.tmod (IntKind.u64.wrap (a0)) 8)) - 1)), .int .i64 (rd y185 (ji4)), .string x190002_6] 50 (0, 0)) (by (with_reducible repeat (first | refine blk_drewN ?_ _ | refine blk_drew ?_ | refine blk_alloc ?_ _)); exact BK189.out) hb); have n3_ := Aside0.mk (below_step (by repeat (first | (with_reducible first | exact HB.out | apply below_alloc | apply pw_below_drewN | apply below_drew1 | refine below_set ?_ GE189.out) | exact HB.out)) hb); clear HO201; clear BK189; clear HB; have HO201 := n0_; have HO205 := n1_; have BK189 := n2_; have HB := n3_; clear n0_ n1_ n2_ n3_; (try clear hb); (try clear hb2); (try clear hk); (try clear hi); (try clear ho0)) | ((with_reducible refine gate_callee (f := 38) rfl ?_); refine goesL_ (some 89) rfl rfl Try.func38 (by kernel_rfl) rfl #[] rfl (by (try simp only [List.map_toArray, List.map_cons, List.map_nil]); first | done | rfl | (simp only [List.length_drop, List.length_take]; rfl)) ?_; (with_reducible refine (spinnakerlaw23_told.calls kj6  true _ A32.out).mono ?_); rintro e w41 ⟨rfl, hb⟩; refine ⟨_, rfl, ?_⟩; have n0_ := Aside0.mk (Kd.R_below (by (with_reducible repeat (first | apply Kd.R_alloc | apply Kd.R_drewN | apply Kd.R_drew)); exact HO201.out) hb); have n1_ := Aside0.mk (Kd.R_below (by (with_reducible repeat (first | apply Kd.R_alloc | apply Kd.R_drewN | apply Kd.R_drew)); exact HO205.out) hb); have n2_ := Aside0.mk (blk_below (g := gb189) (o := .cells #[.int .i64 (wrap64 ((wrap64 (Int.tmod (IntKind.u64.wrap (a0)) 8)) - 1)), .int .i64 (rd y185 (ji4)), .string x190002_6] 50 (0, 0)) (by (with_reducible repeat (first | refine blk_drewN ?_ _ | refine blk_drew ?_ | refine blk_alloc ?_ _)); exact BK189.out) hb); have n3_ := Aside0.mk (below_step (by repeat (first | (with_reducible first | exact HB.out | apply below_alloc | apply pw_below_drewN | apply below_drew1 | refine below_set ?_ GE189.out) | exact HB.out)) hb); clear HO201; clear HO205; clear BK189; clear HB; have HO201 := n0_; have HO205 := n1_; have BK189 := n2_; have HB := n3_; clear n0_ n1_ n2_ n3_; (try clear hb); (try clear hb2); (try clear hk); (try clear hi); have hcz42_0 : w41.cell? ⟨gb189, 0, none⟩ = some (.int .i64 (wrap64 ((wrap64 (Int.tmod (IntKind.u64.wrap (a0)) 8)) - 1))) := (blk_cell BK189.out 0).trans rfl; have hcz42_1 : w41.cell? ⟨gb189, 1, none⟩ = some (.int .i64 (rd y185 (ji4))) := (blk_cell BK189.out 1).trans rfl; have hcz42_2 : w41.cell? ⟨gb189, 2, none⟩ = some (.string x190002_6) := (blk_cell BK189.out 2).trans rfl; have hfz42_0 := blk_frozen BK189.out 0; have hfz42_1 := blk_frozen BK189.out 1; have hfz42_2 := blk_frozen BK189.out 2) | (go_at_call 39; (with_reducible refine (event_May.calls kj6 (wrap64 ((wrap64 (Int.tmod (IntKind.u64.wrap (a0)) 8)) - 1)) (rd y185 (ji4)) x190002_6 t207 _ A34.out).mono ?_); rintro e w43 ⟨rfl, hb⟩; have n0_ := Aside0.mk (Kd.R_below (by (with_reducible repeat (first | apply Kd.R_alloc | apply Kd.R_drewN | apply Kd.R_drew)); exact HO201.out) hb); have n1_ := Aside0.mk (Kd.R_below (by (with_reducible repeat (first | apply Kd.R_alloc | apply Kd.R_drewN | apply Kd.R_drew)); exact HO205.out) hb); have n2_ := Aside0.mk (blk_below (g := gb189) (o := .cells #[.int .i64 (wrap64 ((wrap64 (Int.tmod (IntKind.u64.wrap (a0)) 8)) - 1)), .int .i64 (rd y185 (ji4)), .string x190002_6] 50 (0, 0)) (by (with_reducible repeat (first | refine blk_drewN ?_ _ | refine blk_drew ?_ | refine blk_alloc ?_ _)); exact BK189.out) hb); have n3_ := Aside0.mk (below_step (by repeat (first | (with_reducible first | exact HB.out | apply below_alloc | apply pw_below_drewN | apply below_drew1 | refine below_set ?_ GE189.out) | exact HB.out)) hb); clear HO201; clear HO205; clear BK189; clear HB; have HO201 := n0_; have HO205 := n1_; have BK189 := n2_; have HB := n3_; clear n0_ n1_ n2_ n3_; (try clear hb); (try clear hb2); (try clear hk); (try clear hi)))
                    go_ret
                    exact ⟨by first | rfl | (simp only [tdiv_top]; rfl) | (simp [errW_none, errW_some] <;> rfl) | (simp only [← hji4]; first | rfl | (simp [errW_none, errW_some] <;> rfl)) | (simp [*, errW_none, errW_some] <;> rfl), by repeat (first | (with_reducible first | exact HB.out | apply below_alloc | apply pw_below_drewN | apply below_drew1 | refine below_set ?_ GE189.out) | exact HB.out)⟩
                  · rw [if_neg c35] at H
                    have c35b0 : (t207 == false) = false := by simpa using c35
                    (try (have c35b1 : decide (t207 = false) = false := by simpa using c35))
                    (try (have c35b2 : (t207 == false) = false := by simpa using c35))
                    (try (have c35b3 : ¬ (t207 = false) := by simpa using c35))
                    clear c35
                    rw [hrt.out] at H
                    exact absurd H (by simp)
                · replace c33 := Bool.eq_false_iff.mpr c33
                  subst c33
                  have H1 : (some false) = some r := by rw [if_neg (show ¬ (false = true) by decide)] at H; exact H
                  clear H
                  have H := H1
                  clear H1
                  rw [hrt.out] at H
                  exact absurd H (by simp)
            · rw [if_neg c16] at H
              have c16b0 : decide (1 ≤ (rd y185 (ji4))) = false := decide_eq_false c16
              clear c16
              obtain ⟨y208, hy208⟩ : ∃ y_ : List (S50), y_ = (([(⟨(wrap64 ((wrap64 (Int.tmod (IntKind.u64.wrap (a0)) 8)) - 1)), (rd y185 (ji4)), x190002_6⟩ : S50)] : List (S50))) := ⟨_, rfl⟩
              replace H : ((event_Put.f kj6 y208).bind fun bt211 => ((spinnakerlaw23_told.f kj6).bind fun t215 => (if t215 = true then ((event_May.f kj6 (wrap64 ((wrap64 (Int.tmod (IntKind.u64.wrap (a0)) 8)) - 1)) (rd y185 (ji4)) x190002_6).bind fun t216 => (if (t216 == false) = true then (some ((bt211.2 == 0) == false)) else (some false))) else (some false)))) = some r := by first | (rw [hy208]; with_reducible exact H) | (have H2_ := (Option.bind_some _ _).symm.trans H; rw [hy208]; with_reducible exact H2_) | (have H2_ := (Option.bind_some _ _).symm.trans H; with_reducible exact H2_) | with_reducible exact H | (rw [hy208]; exact H) | exact H
              have Ny208 := Aside0.mk hy208
              clear hy208
              replace H := Option.bind_eq_some_iff.mp H
              obtain ⟨⟨t211, t212⟩, A440, H⟩ := H
              replace H : ((spinnakerlaw23_told.f kj6).bind fun t215 => (if t215 = true then ((event_May.f kj6 (wrap64 ((wrap64 (Int.tmod (IntKind.u64.wrap (a0)) 8)) - 1)) (rd y185 (ji4)) x190002_6).bind fun t216 => (if (t216 == false) = true then (some ((t212 == 0) == false)) else (some false))) else (some false))) = some r := H
              have A44 := Aside0.mk A440
              clear A440
              replace H := Option.bind_eq_some_iff.mp H
              obtain ⟨t215, A450, H⟩ := H
              replace H : (if t215 = true then ((event_May.f kj6 (wrap64 ((wrap64 (Int.tmod (IntKind.u64.wrap (a0)) 8)) - 1)) (rd y185 (ji4)) x190002_6).bind fun t216 => (if (t216 == false) = true then (some ((t212 == 0) == false)) else (some false))) else (some false)) = some r := H
              have A45 := Aside0.mk A450
              clear A450
              by_cases c46 : t215 = true
              · subst c46
                have H1 : ((event_May.f kj6 (wrap64 ((wrap64 (Int.tmod (IntKind.u64.wrap (a0)) 8)) - 1)) (rd y185 (ji4)) x190002_6).bind fun t216 => (if (t216 == false) = true then (some ((t212 == 0) == false)) else (some false))) = some r := by rw [if_pos rfl] at H; exact H
                clear H
                have H := H1
                clear H1
                replace H := Option.bind_eq_some_iff.mp H
                obtain ⟨t216, A470, H⟩ := H
                replace H : (if (t216 == false) = true then (some ((t212 == 0) == false)) else (some false)) = some r := H
                have A47 := Aside0.mk A470
                clear A470
                by_cases c48 : (t216 == false) = true
                · rw [if_pos c48] at H
                  have c48b0 : (t216 == false) = true := c48
                  (try (have c48b1 : decide (t216 = false) = true := by simpa using c48))
                  (try (have c48b2 : (t216 == false) = true := by simpa using c48))
                  clear c48
                  obtain rfl := Option.some.inj H
                  have hcz49_0 : wc.cell? ⟨gb189, 0, none⟩ = some (.int .i64 (wrap64 ((wrap64 (Int.tmod (IntKind.u64.wrap (a0)) 8)) - 1))) := (blk_cell BK189.out 0).trans rfl
                  have hcz49_1 : wc.cell? ⟨gb189, 1, none⟩ = some (.int .i64 (rd y185 (ji4))) := (blk_cell BK189.out 1).trans rfl
                  have hcz49_2 : wc.cell? ⟨gb189, 2, none⟩ = some (.string x190002_6) := (blk_cell BK189.out 2).trans rfl
                  have hfz49_0 := blk_frozen BK189.out 0
                  have hfz49_1 := blk_frozen BK189.out 1
                  have hfz49_2 := blk_frozen BK189.out 2
                  go_wp2_with (first | ((with_reducible refine gate_dst (N := 85) rfl ?_); refine Kd.R_lit k50 _ 50 ?hg (N := 85) ?hd (xs := ([(⟨(wrap64 ((wrap64 (Int.tmod (IntKind.u64.wrap (a0)) 8)) - 1)), (rd y185 (ji4)), x190002_6⟩ : S50)] : List (S50))) (inner := [.int .i64 (wrap64 ((wrap64 (Int.tmod (IntKind.u64.wrap (a0)) 8)) - 1)), .int .i64 (rd y185 (ji4)), .string x190002_6]) (ok := fun _ => True) (okp := fun _ => True) ?hr ?hp (fun _ hk => hk) trivial (Below.refl _ _) (Nat.le_refl _) (by simp) ?_; (case hd => rfl); (case hg => rfl); (case hr => first | (go_simp; done) | (go_simp; rfl)); (case hp => exact (Reps.c3 (show Kd.M k50 _ _ _ (⟨(wrap64 ((wrap64 (Int.tmod (IntKind.u64.wrap (a0)) 8)) - 1)), (rd y185 (ji4)), x190002_6⟩ : S50) [.int .i64 (wrap64 ((wrap64 (Int.tmod (IntKind.u64.wrap (a0)) 8)) - 1)), .int .i64 (rd y185 (ji4)), .string x190002_6] from (k50_mkM _ _ _ (⟨(wrap64 ((wrap64 (Int.tmod (IntKind.u64.wrap (a0)) 8)) - 1)), (rd y185 (ji4)), x190002_6⟩ : S50) )) (Reps.none _ _))); intro v209 w50 ho51 hb hg_ hnew_; clear hg_ hnew_; (first | rw [← Ny208.out] at ho51 | (simp only [Int.reduceToNat] at ho51; rw [← Ny208.out] at ho51)); have n0_ := Aside0.mk (Kd.R_lower (Kd.R_newB ho51 (g := gb189) (o := .cells #[.int .i64 (wrap64 ((wrap64 (Int.tmod (IntKind.u64.wrap (a0)) 8)) - 1)), .int .i64 (rd y185 (ji4)), .string x190002_6] 50 (0, 0)) (by (with_reducible repeat (first | refine blk_drewN ?_ _ | refine blk_drew ?_ | refine blk_alloc ?_ _)); exact BK189.out)) (below_size (by repeat (first | (with_reducible first | exact HB.out | apply below_alloc | apply pw_below_drewN | apply below_drew1 | refine below_set ?_ GE189.out) | exact HB.out)))); have n1_ := Aside0.mk (blk_below (g := gb189) (o := .cells #[.int .i64 (wrap64 ((wrap64 (Int.tmod (IntKind.u64.wrap (a0)) 8)) - 1)), .int .i64 (rd y185 (ji4)), .string x190002_6] 50 (0, 0)) (by (with_reducible repeat (first | refine blk_drewN ?_ _ | refine blk_drew ?_ | refine blk_alloc ?_ _)); exact BK189.out) hb); have n2_ := Aside0.mk (below_step (by repeat (first | (with_reducible first | exact HB.out | apply below_alloc | apply pw_below_drewN | apply below_drew1 | refine below_set ?_ GE189.out) | exact HB.out)) hb); clear BK189; clear HB; have HO210 := n0_; have BK189 := n1_; have HB := n2_; clear n0_ n1_ n2_; clear hb ho51; obtain ⟨Ao52, co52, eo52⟩ := Kd.R_slice HO210.out; subst eo52) | ((with_reducible refine gate_callee (f := 37) rfl ?_); refine goesL_ (some 86) rfl rfl Try.func37 (by kernel_rfl) rfl #[.slice Ao52 y208.length co52] rfl (by (try simp only [List.map_toArray, List.map_cons, List.map_nil]); first | done | rfl | (simp only [List.length_drop, List.length_take]; rfl)) ?_; (with_reducible refine (event_Put.calls kj6 _ _ y208 t211 t212 _ ?side1 ?side2 A44.out).mono ?_); (case side1 => repeat (first | exact (Kd.R_reads' HO210.out).2.2 | (with_reducible refine Kd.C_alloc ?_ _) | (with_reducible refine Kd.C_drewN ?_ _) | (with_reducible refine Kd.C_drew ?_))); (case side2 => exact (Kd.R_reads' HO210.out).2.1); rintro e w53 ⟨v213, rfl, ho0, hb⟩; refine ⟨_, rfl, ?_⟩; have n0_ := Aside0.mk (Kd.R_below (by (with_reducible repeat (first | apply Kd.R_alloc | apply Kd.R_drewN | apply Kd.R_drew)); exact HO210.out) hb); have n1_ := Aside0.mk (Kd.R_lower ho0 (below_size (by repeat (first | (with_reducible first | exact HB.out | apply below_alloc | apply pw_below_drewN | apply below_drew1 | refine below_set ?_ GE189.out) | exact HB.out)))); have n2_ := Aside0.mk (blk_below (g := gb189) (o := .cells #[.int .i64 (wrap64 ((wrap64 (Int.tmod (IntKind.u64.wrap (a0)) 8)) - 1)), .int .i64 (rd y185 (ji4)), .string x190002_6] 50 (0, 0)) (by (with_reducible repeat (first | refine blk_drewN ?_ _ | refine blk_drew ?_ | refine blk_alloc ?_ _)); exact BK189.out) hb); have n3_ := Aside0.mk (below_step (by repeat (first | (with_reducible first | exact HB.out | apply below_alloc | apply pw_below_drewN | apply below_drew1 | refine below_set ?_ GE189.out) | exact HB.out)) hb); clear HO210; clear BK189; clear HB; have HO210 := n0_; have HO214 := n1_; have BK189 := n2_; have HB := n3_; clear n0_ n1_ n2_ n3_; (try clear hb); (try clear hb2); (try clear hk); (try clear hi); (try clear ho0)) | ((with_reducible refine gate_callee (f := 38) rfl ?_); refine goesL_ (some 89) rfl rfl Try.func38 (by kernel_rfl) rfl #[] rfl (by (try simp only [List.map_toArray, List.map_cons, List.map_nil]); first | done | rfl | (simp only [List.length_drop, List.length_take]; rfl)) ?_; (with_reducible refine (spinnakerlaw23_told.calls kj6  true _ A45.out).mono ?_); rintro e w54 ⟨rfl, hb⟩; refine ⟨_, rfl, ?_⟩; have n0_ := Aside0.mk (Kd.R_below (by (with_reducible repeat (first | apply Kd.R_alloc | apply Kd.R_drewN | apply Kd.R_drew)); exact HO210.out) hb); have n1_ := Aside0.mk (Kd.R_below (by (with_reducible repeat (first | apply Kd.R_alloc | apply Kd.R_drewN | apply Kd.R_drew)); exact HO214.out) hb); have n2_ := Aside0.mk (blk_below (g := gb189) (o := .cells #[.int .i64 (wrap64 ((wrap64 (Int.tmod (IntKind.u64.wrap (a0)) 8)) - 1)), .int .i64 (rd y185 (ji4)), .string x190002_6] 50 (0, 0)) (by (with_reducible repeat (first | refine blk_drewN ?_ _ | refine blk_drew ?_ | refine blk_alloc ?_ _)); exact BK189.out) hb); have n3_ := Aside0.mk (below_step (by repeat (first | (with_reducible first | exact HB.out | apply below_alloc | apply pw_below_drewN | apply below_drew1 | refine below_set ?_ GE189.out) | exact HB.out)) hb); clear HO210; clear HO214; clear BK189; clear HB; have HO210 := n0_; have HO214 := n1_; have BK189 := n2_; have HB := n3_; clear n0_ n1_ n2_ n3_; (try clear hb); (try clear hb2); (try clear hk); (try clear hi); have hcz55_0 : w54.cell? ⟨gb189, 0, none⟩ = some (.int .i64 (wrap64 ((wrap64 (Int.tmod (IntKind.u64.wrap (a0)) 8)) - 1))) := (blk_cell BK189.out 0).trans rfl; have hcz55_1 : w54.cell? ⟨gb189, 1, none⟩ = some (.int .i64 (rd y185 (ji4))) := (blk_cell BK189.out 1).trans rfl; have hcz55_2 : w54.cell? ⟨gb189, 2, none⟩ = some (.string x190002_6) := (blk_cell BK189.out 2).trans rfl; have hfz55_0 := blk_frozen BK189.out 0; have hfz55_1 := blk_frozen BK189.out 1; have hfz55_2 := blk_frozen BK189.out 2) | (go_at_call 39; (with_reducible refine (event_May.calls kj6 (wrap64 ((wrap64 (Int.tmod (IntKind.u64.wrap (a0)) 8)) - 1)) (rd y185 (ji4)) x190002_6 t216 _ A47.out).mono ?_); rintro e w56 ⟨rfl, hb⟩; have n0_ := Aside0.mk (Kd.R_below (by (with_reducible repeat (first | apply Kd.R_alloc | apply Kd.R_drewN | apply Kd.R_drew)); exact HO210.out) hb); have n1_ := Aside0.mk (Kd.R_below (by (with_reducible repeat (first | apply Kd.R_alloc | apply Kd.R_drewN | apply Kd.R_drew)); exact HO214.out) hb); have n2_ := Aside0.mk (blk_below (g := gb189) (o := .cells #[.int .i64 (wrap64 ((wrap64 (Int.tmod (IntKind.u64.wrap (a0)) 8)) - 1)), .int .i64 (rd y185 (ji4)), .string x190002_6] 50 (0, 0)) (by (with_reducible repeat (first | refine blk_drewN ?_ _ | refine blk_drew ?_ | refine blk_alloc ?_ _)); exact BK189.out) hb); have n3_ := Aside0.mk (below_step (by repeat (first | (with_reducible first | exact HB.out | apply below_alloc | apply pw_below_drewN | apply below_drew1 | refine below_set ?_ GE189.out) | exact HB.out)) hb); clear HO210; clear HO214; clear BK189; clear HB; have HO210 := n0_; have HO214 := n1_; have BK189 := n2_; have HB := n3_; clear n0_ n1_ n2_ n3_; (try clear hb); (try clear hb2); (try clear hk); (try clear hi)))
                  go_ret
                  exact ⟨by first | rfl | (simp only [tdiv_top]; rfl) | (simp [errW_none, errW_some] <;> rfl) | (simp only [← hji4]; first | rfl | (simp [errW_none, errW_some] <;> rfl)) | (simp [*, errW_none, errW_some] <;> rfl), by repeat (first | (with_reducible first | exact HB.out | apply below_alloc | apply pw_below_drewN | apply below_drew1 | refine below_set ?_ GE189.out) | exact HB.out)⟩
                · rw [if_neg c48] at H
                  have c48b0 : (t216 == false) = false := by simpa using c48
                  (try (have c48b1 : decide (t216 = false) = false := by simpa using c48))
                  (try (have c48b2 : (t216 == false) = false := by simpa using c48))
                  (try (have c48b3 : ¬ (t216 = false) := by simpa using c48))
                  clear c48
                  rw [hrt.out] at H
                  exact absurd H (by simp)
              · replace c46 := Bool.eq_false_iff.mpr c46
                subst c46
                have H1 : (some false) = some r := by rw [if_neg (show ¬ (false = true) by decide)] at H; exact H
                clear H
                have H := H1
                clear H1
                rw [hrt.out] at H
                exact absurd H (by simp)
          · rw [if_neg c15] at H
            have c15b0 : ((wrap64 ((wrap64 (Int.tmod (IntKind.u64.wrap (a0)) 8)) - 1)) == 1) = false := beq_eq_false_iff_ne.mpr c15
            have c15b1 : ((wrap64 ((wrap64 (Int.tmod (IntKind.u64.wrap (a0)) 8)) - 1)) != 1) = true := bne_iff_ne.mpr c15
            by_cases c57 : (wrap64 ((wrap64 (Int.tmod (IntKind.u64.wrap (a0)) 8)) - 1)) = 2
            · rw [if_pos c57] at H
              have c57b0 : ((wrap64 ((wrap64 (Int.tmod (IntKind.u64.wrap (a0)) 8)) - 1)) == 2) = true := beq_iff_eq.mpr c57
              have c57b1 : ((wrap64 ((wrap64 (Int.tmod (IntKind.u64.wrap (a0)) 8)) - 1)) != 2) = false := bne_eq_false_iff_eq.mpr c57
              clear c57
              by_cases c58 : (rd y185 (ji4)) ≥ 1
              · rw [if_pos c58] at H
                have c58b0 : decide (1 ≤ (rd y185 (ji4))) = true := decide_eq_true c58
                clear c58
                by_cases c59 : (rd y185 (ji4)) ≤ 100
                · rw [if_pos c59] at H
                  have c59b0 : decide ((rd y185 (ji4)) ≤ 100) = true := decide_eq_true c59
                  clear c59
                  obtain ⟨y217, hy217⟩ : ∃ y_ : List (S50), y_ = (([(⟨(wrap64 ((wrap64 (Int.tmod (IntKind.u64.wrap (a0)) 8)) - 1)), (rd y185 (ji4)), x190002_6⟩ : S50)] : List (S50))) := ⟨_, rfl⟩
                  replace H : ((event_Put.f kj6 y217).bind fun bt220 => ((spinnakerlaw23_told.f kj6).bind fun t224 => (if t224 = true then ((event_May.f kj6 (wrap64 ((wrap64 (Int.tmod (IntKind.u64.wrap (a0)) 8)) - 1)) (rd y185 (ji4)) x190002_6).bind fun t225 => (if (t225 == (!a2)) = true then (some ((bt220.2 == 0) == (!a2))) else (some false))) else (some false)))) = some r := by first | (rw [hy217]; with_reducible exact H) | (have H2_ := (Option.bind_some _ _).symm.trans H; rw [hy217]; with_reducible exact H2_) | (have H2_ := (Option.bind_some _ _).symm.trans H; with_reducible exact H2_) | with_reducible exact H | (rw [hy217]; exact H) | exact H
                  have Ny217 := Aside0.mk hy217
                  clear hy217
                  replace H := Option.bind_eq_some_iff.mp H
                  obtain ⟨⟨t220, t221⟩, A600, H⟩ := H
                  replace H : ((spinnakerlaw23_told.f kj6).bind fun t224 => (if t224 = true then ((event_May.f kj6 (wrap64 ((wrap64 (Int.tmod (IntKind.u64.wrap (a0)) 8)) - 1)) (rd y185 (ji4)) x190002_6).bind fun t225 => (if (t225 == (!a2)) = true then (some ((t221 == 0) == (!a2))) else (some false))) else (some false))) = some r := H
                  have A60 := Aside0.mk A600
                  clear A600
                  replace H := Option.bind_eq_some_iff.mp H
                  obtain ⟨t224, A610, H⟩ := H
                  replace H : (if t224 = true then ((event_May.f kj6 (wrap64 ((wrap64 (Int.tmod (IntKind.u64.wrap (a0)) 8)) - 1)) (rd y185 (ji4)) x190002_6).bind fun t225 => (if (t225 == (!a2)) = true then (some ((t221 == 0) == (!a2))) else (some false))) else (some false)) = some r := H
                  have A61 := Aside0.mk A610
                  clear A610
                  by_cases c62 : t224 = true
                  · subst c62
                    have H1 : ((event_May.f kj6 (wrap64 ((wrap64 (Int.tmod (IntKind.u64.wrap (a0)) 8)) - 1)) (rd y185 (ji4)) x190002_6).bind fun t225 => (if (t225 == (!a2)) = true then (some ((t221 == 0) == (!a2))) else (some false))) = some r := by rw [if_pos rfl] at H; exact H
                    clear H
                    have H := H1
                    clear H1
                    replace H := Option.bind_eq_some_iff.mp H
                    obtain ⟨t225, A630, H⟩ := H
                    replace H : (if (t225 == (!a2)) = true then (some ((t221 == 0) == (!a2))) else (some false)) = some r := H
                    have A63 := Aside0.mk A630
                    clear A630
                    by_cases c64 : (t225 == (!a2)) = true
                    · rw [if_pos c64] at H
                      have c64b0 : (t225 == (!a2)) = true := c64
                      (try (have c64b1 : decide (t225 = (!a2)) = true := by simpa using c64))
                      (try (have c64b2 : (t225 == (!a2)) = true := by simpa using c64))
                      clear c64
                      obtain rfl := Option.some.inj H
                      have hcz65_0 : wc.cell? ⟨gb189, 0, none⟩ = some (.int .i64 (wrap64 ((wrap64 (Int.tmod (IntKind.u64.wrap (a0)) 8)) - 1))) := (blk_cell BK189.out 0).trans rfl
                      have hcz65_1 : wc.cell? ⟨gb189, 1, none⟩ = some (.int .i64 (rd y185 (ji4))) := (blk_cell BK189.out 1).trans rfl
                      have hcz65_2 : wc.cell? ⟨gb189, 2, none⟩ = some (.string x190002_6) := (blk_cell BK189.out 2).trans rfl
                      have hfz65_0 := blk_frozen BK189.out 0
                      have hfz65_1 := blk_frozen BK189.out 1
                      have hfz65_2 := blk_frozen BK189.out 2
                      go_wp2_with (first | ((with_reducible refine gate_dst (N := 85) rfl ?_); refine Kd.R_lit k50 _ 50 ?hg (N := 85) ?hd (xs := ([(⟨(wrap64 ((wrap64 (Int.tmod (IntKind.u64.wrap (a0)) 8)) - 1)), (rd y185 (ji4)), x190002_6⟩ : S50)] : List (S50))) (inner := [.int .i64 (wrap64 ((wrap64 (Int.tmod (IntKind.u64.wrap (a0)) 8)) - 1)), .int .i64 (rd y185 (ji4)), .string x190002_6]) (ok := fun _ => True) (okp := fun _ => True) ?hr ?hp (fun _ hk => hk) trivial (Below.refl _ _) (Nat.le_refl _) (by simp) ?_; (case hd => rfl); (case hg => rfl); (case hr => first | (go_simp; done) | (go_simp; rfl)); (case hp => exact (Reps.c3 (show Kd.M k50 _ _ _ (⟨(wrap64 ((wrap64 (Int.tmod (IntKind.u64.wrap (a0)) 8)) - 1)), (rd y185 (ji4)), x190002_6⟩ : S50) [.int .i64 (wrap64 ((wrap64 (Int.tmod (IntKind.u64.wrap (a0)) 8)) - 1)), .int .i64 (rd y185 (ji4)), .string x190002_6] from (k50_mkM _ _ _ (⟨(wrap64 ((wrap64 (Int.tmod (IntKind.u64.wrap (a0)) 8)) - 1)), (rd y185 (ji4)), x190002_6⟩ : S50) )) (Reps.none _ _))); intro v218 w66 ho67 hb hg_ hnew_; clear hg_ hnew_; (first | rw [← Ny217.out] at ho67 | (simp only [Int.reduceToNat] at ho67; rw [← Ny217.out] at ho67)); have n0_ := Aside0.mk (Kd.R_lower (Kd.R_newB ho67 (g := gb189) (o := .cells #[.int .i64 (wrap64 ((wrap64 (Int.tmod (IntKind.u64.wrap (a0)) 8)) - 1)), .int .i64 (rd y185 (ji4)), .string x190002_6] 50 (0, 0)) (by (with_reducible repeat (first | refine blk_drewN ?_ _ | refine blk_drew ?_ | refine blk_alloc ?_ _)); exact BK189.out)) (below_size (by repeat (first | (with_reducible first | exact HB.out | apply below_alloc | apply pw_below_drewN | apply below_drew1 | refine below_set ?_ GE189.out) | exact HB.out)))); have n1_ := Aside0.mk (blk_below (g := gb189) (o := .cells #[.int .i64 (wrap64 ((wrap64 (Int.tmod (IntKind.u64.wrap (a0)) 8)) - 1)), .int .i64 (rd y185 (ji4)), .string x190002_6] 50 (0, 0)) (by (with_reducible repeat (first | refine blk_drewN ?_ _ | refine blk_drew ?_ | refine blk_alloc ?_ _)); exact BK189.out) hb); have n2_ := Aside0.mk (below_step (by repeat (first | (with_reducible first | exact HB.out | apply below_alloc | apply pw_below_drewN | apply below_drew1 | refine below_set ?_ GE189.out) | exact HB.out)) hb); clear BK189; clear HB; have HO219 := n0_; have BK189 := n1_; have HB := n2_; clear n0_ n1_ n2_; clear hb ho67; obtain ⟨Ao68, co68, eo68⟩ := Kd.R_slice HO219.out; subst eo68) | ((with_reducible refine gate_callee (f := 37) rfl ?_); refine goesL_ (some 86) rfl rfl Try.func37 (by kernel_rfl) rfl #[.slice Ao68 y217.length co68] rfl (by (try simp only [List.map_toArray, List.map_cons, List.map_nil]); first | done | rfl | (simp only [List.length_drop, List.length_take]; rfl)) ?_; (with_reducible refine (event_Put.calls kj6 _ _ y217 t220 t221 _ ?side1 ?side2 A60.out).mono ?_); (case side1 => repeat (first | exact (Kd.R_reads' HO219.out).2.2 | (with_reducible refine Kd.C_alloc ?_ _) | (with_reducible refine Kd.C_drewN ?_ _) | (with_reducible refine Kd.C_drew ?_))); (case side2 => exact (Kd.R_reads' HO219.out).2.1); rintro e w69 ⟨v222, rfl, ho0, hb⟩; refine ⟨_, rfl, ?_⟩; have n0_ := Aside0.mk (Kd.R_below (by (with_reducible repeat (first | apply Kd.R_alloc | apply Kd.R_drewN | apply Kd.R_drew)); exact HO219.out) hb); have n1_ := Aside0.mk (Kd.R_lower ho0 (below_size (by repeat (first | (with_reducible first | exact HB.out | apply below_alloc | apply pw_below_drewN | apply below_drew1 | refine below_set ?_ GE189.out) | exact HB.out)))); have n2_ := Aside0.mk (blk_below (g := gb189) (o := .cells #[.int .i64 (wrap64 ((wrap64 (Int.tmod (IntKind.u64.wrap (a0)) 8)) - 1)), .int .i64 (rd y185 (ji4)), .string x190002_6] 50 (0, 0)) (by (with_reducible repeat (first | refine blk_drewN ?_ _ | refine blk_drew ?_ | refine blk_alloc ?_ _)); exact BK189.out) hb); have n3_ := Aside0.mk (below_step (by repeat (first | (with_reducible first | exact HB.out | apply below_alloc | apply pw_below_drewN | apply below_drew1 | refine below_set ?_ GE189.out) | exact HB.out)) hb); clear HO219; clear BK189; clear HB; have HO219 := n0_; have HO223 := n1_; have BK189 := n2_; have HB := n3_; clear n0_ n1_ n2_ n3_; (try clear hb); (try clear hb2); (try clear hk); (try clear hi); (try clear ho0)) | ((with_reducible refine gate_callee (f := 38) rfl ?_); refine goesL_ (some 89) rfl rfl Try.func38 (by kernel_rfl) rfl #[] rfl (by (try simp only [List.map_toArray, List.map_cons, List.map_nil]); first | done | rfl | (simp only [List.length_drop, List.length_take]; rfl)) ?_; (with_reducible refine (spinnakerlaw23_told.calls kj6  true _ A61.out).mono ?_); rintro e w70 ⟨rfl, hb⟩; refine ⟨_, rfl, ?_⟩; have n0_ := Aside0.mk (Kd.R_below (by (with_reducible repeat (first | apply Kd.R_alloc | apply Kd.R_drewN | apply Kd.R_drew)); exact HO219.out) hb); have n1_ := Aside0.mk (Kd.R_below (by (with_reducible repeat (first | apply Kd.R_alloc | apply Kd.R_drewN | apply Kd.R_drew)); exact HO223.out) hb); have n2_ := Aside0.mk (blk_below (g := gb189) (o := .cells #[.int .i64 (wrap64 ((wrap64 (Int.tmod (IntKind.u64.wrap (a0)) 8)) - 1)), .int .i64 (rd y185 (ji4)), .string x190002_6] 50 (0, 0)) (by (with_reducible repeat (first | refine blk_drewN ?_ _ | refine blk_drew ?_ | refine blk_alloc ?_ _)); exact BK189.out) hb); have n3_ := Aside0.mk (below_step (by repeat (first | (with_reducible first | exact HB.out | apply below_alloc | apply pw_below_drewN | apply below_drew1 | refine below_set ?_ GE189.out) | exact HB.out)) hb); clear HO219; clear HO223; clear BK189; clear HB; have HO219 := n0_; have HO223 := n1_; have BK189 := n2_; have HB := n3_; clear n0_ n1_ n2_ n3_; (try clear hb); (try clear hb2); (try clear hk); (try clear hi); have hcz71_0 : w70.cell? ⟨gb189, 0, none⟩ = some (.int .i64 (wrap64 ((wrap64 (Int.tmod (IntKind.u64.wrap (a0)) 8)) - 1))) := (blk_cell BK189.out 0).trans rfl; have hcz71_1 : w70.cell? ⟨gb189, 1, none⟩ = some (.int .i64 (rd y185 (ji4))) := (blk_cell BK189.out 1).trans rfl; have hcz71_2 : w70.cell? ⟨gb189, 2, none⟩ = some (.string x190002_6) := (blk_cell BK189.out 2).trans rfl; have hfz71_0 := blk_frozen BK189.out 0; have hfz71_1 := blk_frozen BK189.out 1; have hfz71_2 := blk_frozen BK189.out 2) | (go_at_call 39; (with_reducible refine (event_May.calls kj6 (wrap64 ((wrap64 (Int.tmod (IntKind.u64.wrap (a0)) 8)) - 1)) (rd y185 (ji4)) x190002_6 t225 _ A63.out).mono ?_); rintro e w72 ⟨rfl, hb⟩; have n0_ := Aside0.mk (Kd.R_below (by (with_reducible repeat (first | apply Kd.R_alloc | apply Kd.R_drewN | apply Kd.R_drew)); exact HO219.out) hb); have n1_ := Aside0.mk (Kd.R_below (by (with_reducible repeat (first | apply Kd.R_alloc | apply Kd.R_drewN | apply Kd.R_drew)); exact HO223.out) hb); have n2_ := Aside0.mk (blk_below (g := gb189) (o := .cells #[.int .i64 (wrap64 ((wrap64 (Int.tmod (IntKind.u64.wrap (a0)) 8)) - 1)), .int .i64 (rd y185 (ji4)), .string x190002_6] 50 (0, 0)) (by (with_reducible repeat (first | refine blk_drewN ?_ _ | refine blk_drew ?_ | refine blk_alloc ?_ _)); exact BK189.out) hb); have n3_ := Aside0.mk (below_step (by repeat (first | (with_reducible first | exact HB.out | apply below_alloc | apply pw_below_drewN | apply below_drew1 | refine below_set ?_ GE189.out) | exact HB.out)) hb); clear HO219; clear HO223; clear BK189; clear HB; have HO219 := n0_; have HO223 := n1_; have BK189 := n2_; have HB := n3_; clear n0_ n1_ n2_ n3_; (try clear hb); (try clear hb2); (try clear hk); (try clear hi)))
                      go_ret
                      exact ⟨by first | rfl | (simp only [tdiv_top]; rfl) | (simp [errW_none, errW_some] <;> rfl) | (simp only [← hji4]; first | rfl | (simp [errW_none, errW_some] <;> rfl)) | (simp [*, errW_none, errW_some] <;> rfl), by repeat (first | (with_reducible first | exact HB.out | apply below_alloc | apply pw_below_drewN | apply below_drew1 | refine below_set ?_ GE189.out) | exact HB.out)⟩
                    · rw [if_neg c64] at H
                      have c64b0 : (t225 == (!a2)) = false := by simpa using c64
                      (try (have c64b1 : decide (t225 = (!a2)) = false := by simpa using c64))
                      (try (have c64b2 : (t225 == (!a2)) = false := by simpa using c64))
                      (try (have c64b3 : ¬ (t225 = (!a2)) := by simpa using c64))
                      clear c64
                      rw [hrt.out] at H
                      exact absurd H (by simp)
                  · replace c62 := Bool.eq_false_iff.mpr c62
                    subst c62
                    have H1 : (some false) = some r := by rw [if_neg (show ¬ (false = true) by decide)] at H; exact H
                    clear H
                    have H := H1
                    clear H1
                    rw [hrt.out] at H
                    exact absurd H (by simp)
                · rw [if_neg c59] at H
                  have c59b0 : decide ((rd y185 (ji4)) ≤ 100) = false := decide_eq_false c59
                  clear c59
                  obtain ⟨y226, hy226⟩ : ∃ y_ : List (S50), y_ = (([(⟨(wrap64 ((wrap64 (Int.tmod (IntKind.u64.wrap (a0)) 8)) - 1)), (rd y185 (ji4)), x190002_6⟩ : S50)] : List (S50))) := ⟨_, rfl⟩
                  replace H : ((event_Put.f kj6 y226).bind fun bt229 => ((spinnakerlaw23_told.f kj6).bind fun t233 => (if t233 = true then ((event_May.f kj6 (wrap64 ((wrap64 (Int.tmod (IntKind.u64.wrap (a0)) 8)) - 1)) (rd y185 (ji4)) x190002_6).bind fun t234 => (if (t234 == false) = true then (some ((bt229.2 == 0) == false)) else (some false))) else (some false)))) = some r := by first | (rw [hy226]; with_reducible exact H) | (have H2_ := (Option.bind_some _ _).symm.trans H; rw [hy226]; with_reducible exact H2_) | (have H2_ := (Option.bind_some _ _).symm.trans H; with_reducible exact H2_) | with_reducible exact H | (rw [hy226]; exact H) | exact H
                  have Ny226 := Aside0.mk hy226
                  clear hy226
                  replace H := Option.bind_eq_some_iff.mp H
                  obtain ⟨⟨t229, t230⟩, A730, H⟩ := H
                  replace H : ((spinnakerlaw23_told.f kj6).bind fun t233 => (if t233 = true then ((event_May.f kj6 (wrap64 ((wrap64 (Int.tmod (IntKind.u64.wrap (a0)) 8)) - 1)) (rd y185 (ji4)) x190002_6).bind fun t234 => (if (t234 == false) = true then (some ((t230 == 0) == false)) else (some false))) else (some false))) = some r := H
                  have A73 := Aside0.mk A730
                  clear A730
                  replace H := Option.bind_eq_some_iff.mp H
                  obtain ⟨t233, A740, H⟩ := H
                  replace H : (if t233 = true then ((event_May.f kj6 (wrap64 ((wrap64 (Int.tmod (IntKind.u64.wrap (a0)) 8)) - 1)) (rd y185 (ji4)) x190002_6).bind fun t234 => (if (t234 == false) = true then (some ((t230 == 0) == false)) else (some false))) else (some false)) = some r := H
                  have A74 := Aside0.mk A740
                  clear A740
                  by_cases c75 : t233 = true
                  · subst c75
                    have H1 : ((event_May.f kj6 (wrap64 ((wrap64 (Int.tmod (IntKind.u64.wrap (a0)) 8)) - 1)) (rd y185 (ji4)) x190002_6).bind fun t234 => (if (t234 == false) = true then (some ((t230 == 0) == false)) else (some false))) = some r := by rw [if_pos rfl] at H; exact H
                    clear H
                    have H := H1
                    clear H1
                    replace H := Option.bind_eq_some_iff.mp H
                    obtain ⟨t234, A760, H⟩ := H
                    replace H : (if (t234 == false) = true then (some ((t230 == 0) == false)) else (some false)) = some r := H
                    have A76 := Aside0.mk A760
                    clear A760
                    by_cases c77 : (t234 == false) = true
                    · rw [if_pos c77] at H
                      have c77b0 : (t234 == false) = true := c77
                      (try (have c77b1 : decide (t234 = false) = true := by simpa using c77))
                      (try (have c77b2 : (t234 == false) = true := by simpa using c77))
                      clear c77
                      obtain rfl := Option.some.inj H
                      have hcz78_0 : wc.cell? ⟨gb189, 0, none⟩ = some (.int .i64 (wrap64 ((wrap64 (Int.tmod (IntKind.u64.wrap (a0)) 8)) - 1))) := (blk_cell BK189.out 0).trans rfl
                      have hcz78_1 : wc.cell? ⟨gb189, 1, none⟩ = some (.int .i64 (rd y185 (ji4))) := (blk_cell BK189.out 1).trans rfl
                      have hcz78_2 : wc.cell? ⟨gb189, 2, none⟩ = some (.string x190002_6) := (blk_cell BK189.out 2).trans rfl
                      have hfz78_0 := blk_frozen BK189.out 0
                      have hfz78_1 := blk_frozen BK189.out 1
                      have hfz78_2 := blk_frozen BK189.out 2
                      go_wp2_with (first | ((with_reducible refine gate_dst (N := 85) rfl ?_); refine Kd.R_lit k50 _ 50 ?hg (N := 85) ?hd (xs := ([(⟨(wrap64 ((wrap64 (Int.tmod (IntKind.u64.wrap (a0)) 8)) - 1)), (rd y185 (ji4)), x190002_6⟩ : S50)] : List (S50))) (inner := [.int .i64 (wrap64 ((wrap64 (Int.tmod (IntKind.u64.wrap (a0)) 8)) - 1)), .int .i64 (rd y185 (ji4)), .string x190002_6]) (ok := fun _ => True) (okp := fun _ => True) ?hr ?hp (fun _ hk => hk) trivial (Below.refl _ _) (Nat.le_refl _) (by simp) ?_; (case hd => rfl); (case hg => rfl); (case hr => first | (go_simp; done) | (go_simp; rfl)); (case hp => exact (Reps.c3 (show Kd.M k50 _ _ _ (⟨(wrap64 ((wrap64 (Int.tmod (IntKind.u64.wrap (a0)) 8)) - 1)), (rd y185 (ji4)), x190002_6⟩ : S50) [.int .i64 (wrap64 ((wrap64 (Int.tmod (IntKind.u64.wrap (a0)) 8)) - 1)), .int .i64 (rd y185 (ji4)), .string x190002_6] from (k50_mkM _ _ _ (⟨(wrap64 ((wrap64 (Int.tmod (IntKind.u64.wrap (a0)) 8)) - 1)), (rd y185 (ji4)), x190002_6⟩ : S50) )) (Reps.none _ _))); intro v227 w79 ho80 hb hg_ hnew_; clear hg_ hnew_; (first | rw [← Ny226.out] at ho80 | (simp only [Int.reduceToNat] at ho80; rw [← Ny226.out] at ho80)); have n0_ := Aside0.mk (Kd.R_lower (Kd.R_newB ho80 (g := gb189) (o := .cells #[.int .i64 (wrap64 ((wrap64 (Int.tmod (IntKind.u64.wrap (a0)) 8)) - 1)), .int .i64 (rd y185 (ji4)), .string x190002_6] 50 (0, 0)) (by (with_reducible repeat (first | refine blk_drewN ?_ _ | refine blk_drew ?_ | refine blk_alloc ?_ _)); exact BK189.out)) (below_size (by repeat (first | (with_reducible first | exact HB.out | apply below_alloc | apply pw_below_drewN | apply below_drew1 | refine below_set ?_ GE189.out) | exact HB.out)))); have n1_ := Aside0.mk (blk_below (g := gb189) (o := .cells #[.int .i64 (wrap64 ((wrap64 (Int.tmod (IntKind.u64.wrap (a0)) 8)) - 1)), .int .i64 (rd y185 (ji4)), .string x190002_6] 50 (0, 0)) (by (with_reducible repeat (first | refine blk_drewN ?_ _ | refine blk_drew ?_ | refine blk_alloc ?_ _)); exact BK189.out) hb); have n2_ := Aside0.mk (below_step (by repeat (first | (with_reducible first | exact HB.out | apply below_alloc | apply pw_below_drewN | apply below_drew1 | refine below_set ?_ GE189.out) | exact HB.out)) hb); clear BK189; clear HB; have HO228 := n0_; have BK189 := n1_; have HB := n2_; clear n0_ n1_ n2_; clear hb ho80; obtain ⟨Ao81, co81, eo81⟩ := Kd.R_slice HO228.out; subst eo81) | ((with_reducible refine gate_callee (f := 37) rfl ?_); refine goesL_ (some 86) rfl rfl Try.func37 (by kernel_rfl) rfl #[.slice Ao81 y226.length co81] rfl (by (try simp only [List.map_toArray, List.map_cons, List.map_nil]); first | done | rfl | (simp only [List.length_drop, List.length_take]; rfl)) ?_; (with_reducible refine (event_Put.calls kj6 _ _ y226 t229 t230 _ ?side1 ?side2 A73.out).mono ?_); (case side1 => repeat (first | exact (Kd.R_reads' HO228.out).2.2 | (with_reducible refine Kd.C_alloc ?_ _) | (with_reducible refine Kd.C_drewN ?_ _) | (with_reducible refine Kd.C_drew ?_))); (case side2 => exact (Kd.R_reads' HO228.out).2.1); rintro e w82 ⟨v231, rfl, ho0, hb⟩; refine ⟨_, rfl, ?_⟩; have n0_ := Aside0.mk (Kd.R_below (by (with_reducible repeat (first | apply Kd.R_alloc | apply Kd.R_drewN | apply Kd.R_drew)); exact HO228.out) hb); have n1_ := Aside0.mk (Kd.R_lower ho0 (below_size (by repeat (first | (with_reducible first | exact HB.out | apply below_alloc | apply pw_below_drewN | apply below_drew1 | refine below_set ?_ GE189.out) | exact HB.out)))); have n2_ := Aside0.mk (blk_below (g := gb189) (o := .cells #[.int .i64 (wrap64 ((wrap64 (Int.tmod (IntKind.u64.wrap (a0)) 8)) - 1)), .int .i64 (rd y185 (ji4)), .string x190002_6] 50 (0, 0)) (by (with_reducible repeat (first | refine blk_drewN ?_ _ | refine blk_drew ?_ | refine blk_alloc ?_ _)); exact BK189.out) hb); have n3_ := Aside0.mk (below_step (by repeat (first | (with_reducible first | exact HB.out | apply below_alloc | apply pw_below_drewN | apply below_drew1 | refine below_set ?_ GE189.out) | exact HB.out)) hb); clear HO228; clear BK189; clear HB; have HO228 := n0_; have HO232 := n1_; have BK189 := n2_; have HB := n3_; clear n0_ n1_ n2_ n3_; (try clear hb); (try clear hb2); (try clear hk); (try clear hi); (try clear ho0)) | ((with_reducible refine gate_callee (f := 38) rfl ?_); refine goesL_ (some 89) rfl rfl Try.func38 (by kernel_rfl) rfl #[] rfl (by (try simp only [List.map_toArray, List.map_cons, List.map_nil]); first | done | rfl | (simp only [List.length_drop, List.length_take]; rfl)) ?_; (with_reducible refine (spinnakerlaw23_told.calls kj6  true _ A74.out).mono ?_); rintro e w83 ⟨rfl, hb⟩; refine ⟨_, rfl, ?_⟩; have n0_ := Aside0.mk (Kd.R_below (by (with_reducible repeat (first | apply Kd.R_alloc | apply Kd.R_drewN | apply Kd.R_drew)); exact HO228.out) hb); have n1_ := Aside0.mk (Kd.R_below (by (with_reducible repeat (first | apply Kd.R_alloc | apply Kd.R_drewN | apply Kd.R_drew)); exact HO232.out) hb); have n2_ := Aside0.mk (blk_below (g := gb189) (o := .cells #[.int .i64 (wrap64 ((wrap64 (Int.tmod (IntKind.u64.wrap (a0)) 8)) - 1)), .int .i64 (rd y185 (ji4)), .string x190002_6] 50 (0, 0)) (by (with_reducible repeat (first | refine blk_drewN ?_ _ | refine blk_drew ?_ | refine blk_alloc ?_ _)); exact BK189.out) hb); have n3_ := Aside0.mk (below_step (by repeat (first | (with_reducible first | exact HB.out | apply below_alloc | apply pw_below_drewN | apply below_drew1 | refine below_set ?_ GE189.out) | exact HB.out)) hb); clear HO228; clear HO232; clear BK189; clear HB; have HO228 := n0_; have HO232 := n1_; have BK189 := n2_; have HB := n3_; clear n0_ n1_ n2_ n3_; (try clear hb); (try clear hb2); (try clear hk); (try clear hi); have hcz84_0 : w83.cell? ⟨gb189, 0, none⟩ = some (.int .i64 (wrap64 ((wrap64 (Int.tmod (IntKind.u64.wrap (a0)) 8)) - 1))) := (blk_cell BK189.out 0).trans rfl; have hcz84_1 : w83.cell? ⟨gb189, 1, none⟩ = some (.int .i64 (rd y185 (ji4))) := (blk_cell BK189.out 1).trans rfl; have hcz84_2 : w83.cell? ⟨gb189, 2, none⟩ = some (.string x190002_6) := (blk_cell BK189.out 2).trans rfl; have hfz84_0 := blk_frozen BK189.out 0; have hfz84_1 := blk_frozen BK189.out 1; have hfz84_2 := blk_frozen BK189.out 2) | (go_at_call 39; (with_reducible refine (event_May.calls kj6 (wrap64 ((wrap64 (Int.tmod (IntKind.u64.wrap (a0)) 8)) - 1)) (rd y185 (ji4)) x190002_6 t234 _ A76.out).mono ?_); rintro e w85 ⟨rfl, hb⟩; have n0_ := Aside0.mk (Kd.R_below (by (with_reducible repeat (first | apply Kd.R_alloc | apply Kd.R_drewN | apply Kd.R_drew)); exact HO228.out) hb); have n1_ := Aside0.mk (Kd.R_below (by (with_reducible repeat (first | apply Kd.R_alloc | apply Kd.R_drewN | apply Kd.R_drew)); exact HO232.out) hb); have n2_ := Aside0.mk (blk_below (g := gb189) (o := .cells #[.int .i64 (wrap64 ((wrap64 (Int.tmod (IntKind.u64.wrap (a0)) 8)) - 1)), .int .i64 (rd y185 (ji4)), .string x190002_6] 50 (0, 0)) (by (with_reducible repeat (first | refine blk_drewN ?_ _ | refine blk_drew ?_ | refine blk_alloc ?_ _)); exact BK189.out) hb); have n3_ := Aside0.mk (below_step (by repeat (first | (with_reducible first | exact HB.out | apply below_alloc | apply pw_below_drewN | apply below_drew1 | refine below_set ?_ GE189.out) | exact HB.out)) hb); clear HO228; clear HO232; clear BK189; clear HB; have HO228 := n0_; have HO232 := n1_; have BK189 := n2_; have HB := n3_; clear n0_ n1_ n2_ n3_; (try clear hb); (try clear hb2); (try clear hk); (try clear hi)))
                      go_ret
                      exact ⟨by first | rfl | (simp only [tdiv_top]; rfl) | (simp [errW_none, errW_some] <;> rfl) | (simp only [← hji4]; first | rfl | (simp [errW_none, errW_some] <;> rfl)) | (simp [*, errW_none, errW_some] <;> rfl), by repeat (first | (with_reducible first | exact HB.out | apply below_alloc | apply pw_below_drewN | apply below_drew1 | refine below_set ?_ GE189.out) | exact HB.out)⟩
                    · rw [if_neg c77] at H
                      have c77b0 : (t234 == false) = false := by simpa using c77
                      (try (have c77b1 : decide (t234 = false) = false := by simpa using c77))
                      (try (have c77b2 : (t234 == false) = false := by simpa using c77))
                      (try (have c77b3 : ¬ (t234 = false) := by simpa using c77))
                      clear c77
                      rw [hrt.out] at H
                      exact absurd H (by simp)
                  · replace c75 := Bool.eq_false_iff.mpr c75
                    subst c75
                    have H1 : (some false) = some r := by rw [if_neg (show ¬ (false = true) by decide)] at H; exact H
                    clear H
                    have H := H1
                    clear H1
                    rw [hrt.out] at H
                    exact absurd H (by simp)
              · rw [if_neg c58] at H
                have c58b0 : decide (1 ≤ (rd y185 (ji4))) = false := decide_eq_false c58
                clear c58
                obtain ⟨y235, hy235⟩ : ∃ y_ : List (S50), y_ = (([(⟨(wrap64 ((wrap64 (Int.tmod (IntKind.u64.wrap (a0)) 8)) - 1)), (rd y185 (ji4)), x190002_6⟩ : S50)] : List (S50))) := ⟨_, rfl⟩
                replace H : ((event_Put.f kj6 y235).bind fun bt238 => ((spinnakerlaw23_told.f kj6).bind fun t242 => (if t242 = true then ((event_May.f kj6 (wrap64 ((wrap64 (Int.tmod (IntKind.u64.wrap (a0)) 8)) - 1)) (rd y185 (ji4)) x190002_6).bind fun t243 => (if (t243 == false) = true then (some ((bt238.2 == 0) == false)) else (some false))) else (some false)))) = some r := by first | (rw [hy235]; with_reducible exact H) | (have H2_ := (Option.bind_some _ _).symm.trans H; rw [hy235]; with_reducible exact H2_) | (have H2_ := (Option.bind_some _ _).symm.trans H; with_reducible exact H2_) | with_reducible exact H | (rw [hy235]; exact H) | exact H
                have Ny235 := Aside0.mk hy235
                clear hy235
                replace H := Option.bind_eq_some_iff.mp H
                obtain ⟨⟨t238, t239⟩, A860, H⟩ := H
                replace H : ((spinnakerlaw23_told.f kj6).bind fun t242 => (if t242 = true then ((event_May.f kj6 (wrap64 ((wrap64 (Int.tmod (IntKind.u64.wrap (a0)) 8)) - 1)) (rd y185 (ji4)) x190002_6).bind fun t243 => (if (t243 == false) = true then (some ((t239 == 0) == false)) else (some false))) else (some false))) = some r := H
                have A86 := Aside0.mk A860
                clear A860
                replace H := Option.bind_eq_some_iff.mp H
                obtain ⟨t242, A870, H⟩ := H
                replace H : (if t242 = true then ((event_May.f kj6 (wrap64 ((wrap64 (Int.tmod (IntKind.u64.wrap (a0)) 8)) - 1)) (rd y185 (ji4)) x190002_6).bind fun t243 => (if (t243 == false) = true then (some ((t239 == 0) == false)) else (some false))) else (some false)) = some r := H
                have A87 := Aside0.mk A870
                clear A870
                by_cases c88 : t242 = true
                · subst c88
                  have H1 : ((event_May.f kj6 (wrap64 ((wrap64 (Int.tmod (IntKind.u64.wrap (a0)) 8)) - 1)) (rd y185 (ji4)) x190002_6).bind fun t243 => (if (t243 == false) = true then (some ((t239 == 0) == false)) else (some false))) = some r := by rw [if_pos rfl] at H; exact H
                  clear H
                  have H := H1
                  clear H1
                  replace H := Option.bind_eq_some_iff.mp H
                  obtain ⟨t243, A890, H⟩ := H
                  replace H : (if (t243 == false) = true then (some ((t239 == 0) == false)) else (some false)) = some r := H
                  have A89 := Aside0.mk A890
                  clear A890
                  by_cases c90 : (t243 == false) = true
                  · rw [if_pos c90] at H
                    have c90b0 : (t243 == false) = true := c90
                    (try (have c90b1 : decide (t243 = false) = true := by simpa using c90))
                    (try (have c90b2 : (t243 == false) = true := by simpa using c90))
                    clear c90
                    obtain rfl := Option.some.inj H
                    have hcz91_0 : wc.cell? ⟨gb189, 0, none⟩ = some (.int .i64 (wrap64 ((wrap64 (Int.tmod (IntKind.u64.wrap (a0)) 8)) - 1))) := (blk_cell BK189.out 0).trans rfl
                    have hcz91_1 : wc.cell? ⟨gb189, 1, none⟩ = some (.int .i64 (rd y185 (ji4))) := (blk_cell BK189.out 1).trans rfl
                    have hcz91_2 : wc.cell? ⟨gb189, 2, none⟩ = some (.string x190002_6) := (blk_cell BK189.out 2).trans rfl
                    have hfz91_0 := blk_frozen BK189.out 0
                    have hfz91_1 := blk_frozen BK189.out 1
                    have hfz91_2 := blk_frozen BK189.out 2
                    go_wp2_with (first | ((with_reducible refine gate_dst (N := 85) rfl ?_); refine Kd.R_lit k50 _ 50 ?hg (N := 85) ?hd (xs := ([(⟨(wrap64 ((wrap64 (Int.tmod (IntKind.u64.wrap (a0)) 8)) - 1)), (rd y185 (ji4)), x190002_6⟩ : S50)] : List (S50))) (inner := [.int .i64 (wrap64 ((wrap64 (Int.tmod (IntKind.u64.wrap (a0)) 8)) - 1)), .int .i64 (rd y185 (ji4)), .string x190002_6]) (ok := fun _ => True) (okp := fun _ => True) ?hr ?hp (fun _ hk => hk) trivial (Below.refl _ _) (Nat.le_refl _) (by simp) ?_; (case hd => rfl); (case hg => rfl); (case hr => first | (go_simp; done) | (go_simp; rfl)); (case hp => exact (Reps.c3 (show Kd.M k50 _ _ _ (⟨(wrap64 ((wrap64 (Int.tmod (IntKind.u64.wrap (a0)) 8)) - 1)), (rd y185 (ji4)), x190002_6⟩ : S50) [.int .i64 (wrap64 ((wrap64 (Int.tmod (IntKind.u64.wrap (a0)) 8)) - 1)), .int .i64 (rd y185 (ji4)), .string x190002_6] from (k50_mkM _ _ _ (⟨(wrap64 ((wrap64 (Int.tmod (IntKind.u64.wrap (a0)) 8)) - 1)), (rd y185 (ji4)), x190002_6⟩ : S50) )) (Reps.none _ _))); intro v236 w92 ho93 hb hg_ hnew_; clear hg_ hnew_; (first | rw [← Ny235.out] at ho93 | (simp only [Int.reduceToNat] at ho93; rw [← Ny235.out] at ho93)); have n0_ := Aside0.mk (Kd.R_lower (Kd.R_newB ho93 (g := gb189) (o := .cells #[.int .i64 (wrap64 ((wrap64 (Int.tmod (IntKind.u64.wrap (a0)) 8)) - 1)), .int .i64 (rd y185 (ji4)), .string x190002_6] 50 (0, 0)) (by (with_reducible repeat (first | refine blk_drewN ?_ _ | refine blk_drew ?_ | refine blk_alloc ?_ _)); exact BK189.out)) (below_size (by repeat (first | (with_reducible first | exact HB.out | apply below_alloc | apply pw_below_drewN | apply below_drew1 | refine below_set ?_ GE189.out) | exact HB.out)))); have n1_ := Aside0.mk (blk_below (g := gb189) (o := .cells #[.int .i64 (wrap64 ((wrap64 (Int.tmod (IntKind.u64.wrap (a0)) 8)) - 1)), .int .i64 (rd y185 (ji4)), .string x190002_6] 50 (0, 0)) (by (with_reducible repeat (first | refine blk_drewN ?_ _ | refine blk_drew ?_ | refine blk_alloc ?_ _)); exact BK189.out) hb); have n2_ := Aside0.mk (below_step (by repeat (first | (with_reducible first | exact HB.out | apply below_alloc | apply pw_below_drewN | apply below_drew1 | refine below_set ?_ GE189.out) | exact HB.out)) hb); clear BK189; clear HB; have HO237 := n0_; have BK189 := n1_; have HB := n2_; clear n0_ n1_ n2_; clear hb ho93; obtain ⟨Ao94, co94, eo94⟩ := Kd.R_slice HO237.out; subst eo94) | ((with_reducible refine gate_callee (f := 37) rfl ?_); refine goesL_ (some 86) rfl rfl Try.func37 (by kernel_rfl) rfl #[.slice Ao94 y235.length co94] rfl (by (try simp only [List.map_toArray, List.map_cons, List.map_nil]); first | done | rfl | (simp only [List.length_drop, List.length_take]; rfl)) ?_; (with_reducible refine (event_Put.calls kj6 _ _ y235 t238 t239 _ ?side1 ?side2 A86.out).mono ?_); (case side1 => repeat (first | exact (Kd.R_reads' HO237.out).2.2 | (with_reducible refine Kd.C_alloc ?_ _) | (with_reducible refine Kd.C_drewN ?_ _) | (with_reducible refine Kd.C_drew ?_))); (case side2 => exact (Kd.R_reads' HO237.out).2.1); rintro e w95 ⟨v240, rfl, ho0, hb⟩; refine ⟨_, rfl, ?_⟩; have n0_ := Aside0.mk (Kd.R_below (by (with_reducible repeat (first | apply Kd.R_alloc | apply Kd.R_drewN | apply Kd.R_drew)); exact HO237.out) hb); have n1_ := Aside0.mk (Kd.R_lower ho0 (below_size (by repeat (first | (with_reducible first | exact HB.out | apply below_alloc | apply pw_below_drewN | apply below_drew1 | refine below_set ?_ GE189.out) | exact HB.out)))); have n2_ := Aside0.mk (blk_below (g := gb189) (o := .cells #[.int .i64 (wrap64 ((wrap64 (Int.tmod (IntKind.u64.wrap (a0)) 8)) - 1)), .int .i64 (rd y185 (ji4)), .string x190002_6] 50 (0, 0)) (by (with_reducible repeat (first | refine blk_drewN ?_ _ | refine blk_drew ?_ | refine blk_alloc ?_ _)); exact BK189.out) hb); have n3_ := Aside0.mk (below_step (by repeat (first | (with_reducible first | exact HB.out | apply below_alloc | apply pw_below_drewN | apply below_drew1 | refine below_set ?_ GE189.out) | exact HB.out)) hb); clear HO237; clear BK189; clear HB; have HO237 := n0_; have HO241 := n1_; have BK189 := n2_; have HB := n3_; clear n0_ n1_ n2_ n3_; (try clear hb); (try clear hb2); (try clear hk); (try clear hi); (try clear ho0)) | ((with_reducible refine gate_callee (f := 38) rfl ?_); refine goesL_ (some 89) rfl rfl Try.func38 (by kernel_rfl) rfl #[] rfl (by (try simp only [List.map_toArray, List.map_cons, List.map_nil]); first | done | rfl | (simp only [List.length_drop, List.length_take]; rfl)) ?_; (with_reducible refine (spinnakerlaw23_told.calls kj6  true _ A87.out).mono ?_); rintro e w96 ⟨rfl, hb⟩; refine ⟨_, rfl, ?_⟩; have n0_ := Aside0.mk (Kd.R_below (by (with_reducible repeat (first | apply Kd.R_alloc | apply Kd.R_drewN | apply Kd.R_drew)); exact HO237.out) hb); have n1_ := Aside0.mk (Kd.R_below (by (with_reducible repeat (first | apply Kd.R_alloc | apply Kd.R_drewN | apply Kd.R_drew)); exact HO241.out) hb); have n2_ := Aside0.mk (blk_below (g := gb189) (o := .cells #[.int .i64 (wrap64 ((wrap64 (Int.tmod (IntKind.u64.wrap (a0)) 8)) - 1)), .int .i64 (rd y185 (ji4)), .string x190002_6] 50 (0, 0)) (by (with_reducible repeat (first | refine blk_drewN ?_ _ | refine blk_drew ?_ | refine blk_alloc ?_ _)); exact BK189.out) hb); have n3_ := Aside0.mk (below_step (by repeat (first | (with_reducible first | exact HB.out | apply below_alloc | apply pw_below_drewN | apply below_drew1 | refine below_set ?_ GE189.out) | exact HB.out)) hb); clear HO237; clear HO241; clear BK189; clear HB; have HO237 := n0_; have HO241 := n1_; have BK189 := n2_; have HB := n3_; clear n0_ n1_ n2_ n3_; (try clear hb); (try clear hb2); (try clear hk); (try clear hi); have hcz97_0 : w96.cell? ⟨gb189, 0, none⟩ = some (.int .i64 (wrap64 ((wrap64 (Int.tmod (IntKind.u64.wrap (a0)) 8)) - 1))) := (blk_cell BK189.out 0).trans rfl; have hcz97_1 : w96.cell? ⟨gb189, 1, none⟩ = some (.int .i64 (rd y185 (ji4))) := (blk_cell BK189.out 1).trans rfl; have hcz97_2 : w96.cell? ⟨gb189, 2, none⟩ = some (.string x190002_6) := (blk_cell BK189.out 2).trans rfl; have hfz97_0 := blk_frozen BK189.out 0; have hfz97_1 := blk_frozen BK189.out 1; have hfz97_2 := blk_frozen BK189.out 2) | (go_at_call 39; (with_reducible refine (event_May.calls kj6 (wrap64 ((wrap64 (Int.tmod (IntKind.u64.wrap (a0)) 8)) - 1)) (rd y185 (ji4)) x190002_6 t243 _ A89.out).mono ?_); rintro e w98 ⟨rfl, hb⟩; have n0_ := Aside0.mk (Kd.R_below (by (with_reducible repeat (first | apply Kd.R_alloc | apply Kd.R_drewN | apply Kd.R_drew)); exact HO237.out) hb); have n1_ := Aside0.mk (Kd.R_below (by (with_reducible repeat (first | apply Kd.R_alloc | apply Kd.R_drewN | apply Kd.R_drew)); exact HO241.out) hb); have n2_ := Aside0.mk (blk_below (g := gb189) (o := .cells #[.int .i64 (wrap64 ((wrap64 (Int.tmod (IntKind.u64.wrap (a0)) 8)) - 1)), .int .i64 (rd y185 (ji4)), .string x190002_6] 50 (0, 0)) (by (with_reducible repeat (first | refine blk_drewN ?_ _ | refine blk_drew ?_ | refine blk_alloc ?_ _)); exact BK189.out) hb); have n3_ := Aside0.mk (below_step (by repeat (first | (with_reducible first | exact HB.out | apply below_alloc | apply pw_below_drewN | apply below_drew1 | refine below_set ?_ GE189.out) | exact HB.out)) hb); clear HO237; clear HO241; clear BK189; clear HB; have HO237 := n0_; have HO241 := n1_; have BK189 := n2_; have HB := n3_; clear n0_ n1_ n2_ n3_; (try clear hb); (try clear hb2); (try clear hk); (try clear hi)))
                    go_ret
                    exact ⟨by first | rfl | (simp only [tdiv_top]; rfl) | (simp [errW_none, errW_some] <;> rfl) | (simp only [← hji4]; first | rfl | (simp [errW_none, errW_some] <;> rfl)) | (simp [*, errW_none, errW_some] <;> rfl), by repeat (first | (with_reducible first | exact HB.out | apply below_alloc | apply pw_below_drewN | apply below_drew1 | refine below_set ?_ GE189.out) | exact HB.out)⟩
                  · rw [if_neg c90] at H
                    have c90b0 : (t243 == false) = false := by simpa using c90
                    (try (have c90b1 : decide (t243 = false) = false := by simpa using c90))
                    (try (have c90b2 : (t243 == false) = false := by simpa using c90))
                    (try (have c90b3 : ¬ (t243 = false) := by simpa using c90))
                    clear c90
                    rw [hrt.out] at H
                    exact absurd H (by simp)
                · replace c88 := Bool.eq_false_iff.mpr c88
                  subst c88
                  have H1 : (some false) = some r := by rw [if_neg (show ¬ (false = true) by decide)] at H; exact H
                  clear H
                  have H := H1
                  clear H1
                  rw [hrt.out] at H
                  exact absurd H (by simp)
            · rw [if_neg c57] at H
              have c57b0 : ((wrap64 ((wrap64 (Int.tmod (IntKind.u64.wrap (a0)) 8)) - 1)) == 2) = false := beq_eq_false_iff_ne.mpr c57
              have c57b1 : ((wrap64 ((wrap64 (Int.tmod (IntKind.u64.wrap (a0)) 8)) - 1)) != 2) = true := bne_iff_ne.mpr c57
              have HC99 := Aside0.mk H
              clear H
              go_upto_if 54 with (fail)
              go_cut [54] (fun v54 wc => ∃ (kq : Nat) (x54_98 : Bool), v54 = .bool x54_98 ∧ Aside0 (spinnakerlaw23_EventBounds.j1 kq a2 (rd y185 (ji4)) false (wrap64 ((wrap64 (Int.tmod (IntKind.u64.wrap (a0)) 8)) - 1)) x54_98 (wrap64 ((wrap64 (Int.tmod (IntKind.u64.wrap (a0)) 8)) - 1)) (rd y185 (ji4)) x190002_6 = some r) ∧ Aside0 (kq ≤ kj6) ∧ Aside0 (wc.heap[gb189]? = some (.cells #[.int .i64 (wrap64 ((wrap64 (Int.tmod (IntKind.u64.wrap (a0)) 8)) - 1)), .int .i64 (rd y185 (ji4)), .string x190002_6] 50 (0, 0))) ∧ Aside0 (Below w.heap.size w wc))
              case first =>
                have H := HC99.out
                clear HC99
                by_cases c100 : (wrap64 ((wrap64 (Int.tmod (IntKind.u64.wrap (a0)) 8)) - 1)) = 3
                · rw [if_pos c100] at H
                  have c100b0 : ((wrap64 ((wrap64 (Int.tmod (IntKind.u64.wrap (a0)) 8)) - 1)) == 3) = true := beq_iff_eq.mpr c100
                  have c100b1 : ((wrap64 ((wrap64 (Int.tmod (IntKind.u64.wrap (a0)) 8)) - 1)) != 3) = false := bne_eq_false_iff_eq.mpr c100
                  clear c100
                  (first | rw [c100b0] | (simp only [i64_w, i32_w]; rw [c100b0]) | skip)
                  have H' := Aside0.mk H
                  clear H
                  go_wp2
                  go_meet
                  case rel => exact ⟨_, (((wrap64 ((wrap64 (Int.tmod (IntKind.u64.wrap (a0)) 8)) - 1)) == 3)), (by first | rfl | (simp; done) | (simp [isEmpty_bne, isEmpty_beq]; done) | (simp [*]; done)), H', ⟨by have := HJ6.out; first | omega | exact Nat.le_refl _⟩, ⟨by (with_reducible repeat (first | refine blk_drewN ?_ _ | refine blk_drew ?_ | refine blk_alloc ?_ _)); exact BK189.out⟩, ⟨by repeat (first | (with_reducible first | exact HB.out | apply below_alloc | apply pw_below_drewN | apply below_drew1 | refine below_set ?_ GE189.out) | exact HB.out)⟩⟩
                · rw [if_neg c100] at H
                  have c100b0 : ((wrap64 ((wrap64 (Int.tmod (IntKind.u64.wrap (a0)) 8)) - 1)) == 3) = false := beq_eq_false_iff_ne.mpr c100
                  have c100b1 : ((wrap64 ((wrap64 (Int.tmod (IntKind.u64.wrap (a0)) 8)) - 1)) != 3) = true := bne_iff_ne.mpr c100
                  (first | rw [c100b0] | (simp only [i64_w, i32_w]; rw [c100b0]) | skip)
                  have H' := Aside0.mk H
                  clear H
                  go_wp2
                  go_meet
                  case rel => exact ⟨_, (((wrap64 ((wrap64 (Int.tmod (IntKind.u64.wrap (a0)) 8)) - 1)) == 4)), (by first | rfl | (simp; done) | (simp [isEmpty_bne, isEmpty_beq]; done) | (simp [*]; done)), H', ⟨by have := HJ6.out; first | omega | exact Nat.le_refl _⟩, ⟨by (with_reducible repeat (first | refine blk_drewN ?_ _ | refine blk_drew ?_ | refine blk_alloc ?_ _)); exact BK189.out⟩, ⟨by repeat (first | (with_reducible first | exact HB.out | apply below_alloc | apply pw_below_drewN | apply below_drew1 | refine below_set ?_ GE189.out) | exact HB.out)⟩⟩
              case rest =>
                clear HC99
                try clear c1
                try clear p1
                try clear q1
                try clear hx1
                try clear c2
                try clear p2
                try clear c3
                try clear c4
                try clear c5
                try clear c5b0
                try clear c6
                try clear c6b0
                try clear p6
                try clear c7
                try clear c8
                try clear c9
                try clear c10
                try clear c13
                try clear c15
                try clear c15b0
                try clear c15b1
                try clear c16
                try clear c16b0
                try clear c17
                try clear c17b0
                try clear p18
                try clear q18
                try clear hx18
                try clear c20
                try clear c22
                try clear c22b0
                try clear c22b1
                try clear c22b2
                try clear c33
                try clear c35
                try clear c35b0
                try clear c35b1
                try clear c35b2
                try clear c37
                try clear c38
                try clear c46
                try clear c48
                try clear c48b0
                try clear c48b1
                try clear c48b2
                try clear c57
                try clear c57b0
                try clear c57b1
                try clear c58
                try clear c58b0
                try clear c59
                try clear c59b0
                try clear c62
                try clear c64
                try clear c64b0
                try clear c64b1
                try clear c64b2
                try clear p64
                try clear c75
                try clear c77
                try clear c77b0
                try clear c77b1
                try clear c77b2
                try clear c88
                try clear c90
                try clear c90b0
                try clear c90b1
                try clear c90b2
                try clear c100
                try clear c100b0
                try clear c100b1
                try clear hcz12_0
                try clear hcz12_1
                try clear hcz12_2
                try clear hcz14_0
                try clear hcz14_1
                try clear hcz14_2
                try clear hcz23_0
                try clear hcz23_1
                try clear hcz23_2
                try clear hcz29_0
                try clear hcz29_1
                try clear hcz29_2
                try clear hcz36_0
                try clear hcz36_1
                try clear hcz36_2
                try clear hcz42_0
                try clear hcz42_1
                try clear hcz42_2
                try clear hcz49_0
                try clear hcz49_1
                try clear hcz49_2
                try clear hcz55_0
                try clear hcz55_1
                try clear hcz55_2
                try clear hcz65_0
                try clear hcz65_1
                try clear hcz65_2
                try clear hcz71_0
                try clear hcz71_1
                try clear hcz71_2
                try clear hcz78_0
                try clear hcz78_1
                try clear hcz78_2
                try clear hcz84_0
                try clear hcz84_1
                try clear hcz84_2
                try clear hcz91_0
                try clear hcz91_1
                try clear hcz91_2
                try clear hcz97_0
                try clear hcz97_1
                try clear hcz97_2
                try clear hfz12_0
                try clear hfz12_1
                try clear hfz12_2
                try clear hfz14_0
                try clear hfz14_1
                try clear hfz14_2
                try clear hfz23_0
                try clear hfz23_1
                try clear hfz23_2
                try clear hfz29_0
                try clear hfz29_1
                try clear hfz29_2
                try clear hfz36_0
                try clear hfz36_1
                try clear hfz36_2
                try clear hfz42_0
                try clear hfz42_1
                try clear hfz42_2
                try clear hfz49_0
                try clear hfz49_1
                try clear hfz49_2
                try clear hfz55_0
                try clear hfz55_1
                try clear hfz55_2
                try clear hfz65_0
                try clear hfz65_1
                try clear hfz65_2
                try clear hfz71_0
                try clear hfz71_1
                try clear hfz71_2
                try clear hfz78_0
                try clear hfz78_1
                try clear hfz78_2
                try clear hfz84_0
                try clear hfz84_1
                try clear hfz84_2
                try clear hfz91_0
                try clear hfz91_1
                try clear hfz91_2
                try clear hfz97_0
                try clear hfz97_1
                try clear hfz97_2
                try clear hx188_0
                try clear p1
                try clear p188
                try clear p2
                try clear p6
                try clear q1
                try clear q188
                obtain ⟨kq, x54_98, rfl, HA, HJ98, BK189, HB⟩ := hcut
                cases kq with
                | zero => exact absurd HA.out (by simp [spinnakerlaw23_EventBounds.j1])
                | succ kj98 =>
                  have H := HA.out
                  clear HA
                  simp only [spinnakerlaw23_EventBounds.j1] at H
                  by_cases c101 : x54_98 = true
                  · subst c101
                    have H1 : (if (rd y185 (ji4)) ≥ 0 then (if (rd y185 (ji4)) ≤ 999 then ((event_Put.f kj98 (([(⟨(wrap64 ((wrap64 (Int.tmod (IntKind.u64.wrap (a0)) 8)) - 1)), (rd y185 (ji4)), x190002_6⟩ : S50)] : List (S50)))).bind fun bt247 => ((spinnakerlaw23_told.f kj98).bind fun t251 => (if t251 = true then ((event_May.f kj98 (wrap64 ((wrap64 (Int.tmod (IntKind.u64.wrap (a0)) 8)) - 1)) (rd y185 (ji4)) x190002_6).bind fun t252 => (if (t252 == (!a2)) = true then (some ((bt247.2 == 0) == (!a2))) else (some false))) else (some false)))) else ((event_Put.f kj98 (([(⟨(wrap64 ((wrap64 (Int.tmod (IntKind.u64.wrap (a0)) 8)) - 1)), (rd y185 (ji4)), x190002_6⟩ : S50)] : List (S50)))).bind fun bt256 => ((spinnakerlaw23_told.f kj98).bind fun t260 => (if t260 = true then ((event_May.f kj98 (wrap64 ((wrap64 (Int.tmod (IntKind.u64.wrap (a0)) 8)) - 1)) (rd y185 (ji4)) x190002_6).bind fun t261 => (if (t261 == false) = true then (some ((bt256.2 == 0) == false)) else (some false))) else (some false))))) else ((event_Put.f kj98 (([(⟨(wrap64 ((wrap64 (Int.tmod (IntKind.u64.wrap (a0)) 8)) - 1)), (rd y185 (ji4)), x190002_6⟩ : S50)] : List (S50)))).bind fun bt265 => ((spinnakerlaw23_told.f kj98).bind fun t269 => (if t269 = true then ((event_May.f kj98 (wrap64 ((wrap64 (Int.tmod (IntKind.u64.wrap (a0)) 8)) - 1)) (rd y185 (ji4)) x190002_6).bind fun t270 => (if (t270 == false) = true then (some ((bt265.2 == 0) == false)) else (some false))) else (some false))))) = some r := by rw [if_pos rfl] at H; exact H
                    clear H
                    have H := H1
                    clear H1
                    by_cases c102 : (rd y185 (ji4)) ≥ 0
                    · rw [if_pos c102] at H
                      have c102b0 : decide (0 ≤ (rd y185 (ji4))) = true := decide_eq_true c102
                      clear c102
                      by_cases c103 : (rd y185 (ji4)) ≤ 999
                      · rw [if_pos c103] at H
                        have c103b0 : decide ((rd y185 (ji4)) ≤ 999) = true := decide_eq_true c103
                        clear c103
                        obtain ⟨y244, hy244⟩ : ∃ y_ : List (S50), y_ = (([(⟨(wrap64 ((wrap64 (Int.tmod (IntKind.u64.wrap (a0)) 8)) - 1)), (rd y185 (ji4)), x190002_6⟩ : S50)] : List (S50))) := ⟨_, rfl⟩
                        replace H : ((event_Put.f kj98 y244).bind fun bt247 => ((spinnakerlaw23_told.f kj98).bind fun t251 => (if t251 = true then ((event_May.f kj98 (wrap64 ((wrap64 (Int.tmod (IntKind.u64.wrap (a0)) 8)) - 1)) (rd y185 (ji4)) x190002_6).bind fun t252 => (if (t252 == (!a2)) = true then (some ((bt247.2 == 0) == (!a2))) else (some false))) else (some false)))) = some r := by first | (rw [hy244]; with_reducible exact H) | (have H2_ := (Option.bind_some _ _).symm.trans H; rw [hy244]; with_reducible exact H2_) | (have H2_ := (Option.bind_some _ _).symm.trans H; with_reducible exact H2_) | with_reducible exact H | (rw [hy244]; exact H) | exact H
                        have Ny244 := Aside0.mk hy244
                        clear hy244
                        replace H := Option.bind_eq_some_iff.mp H
                        obtain ⟨⟨t247, t248⟩, A1040, H⟩ := H
                        replace H : ((spinnakerlaw23_told.f kj98).bind fun t251 => (if t251 = true then ((event_May.f kj98 (wrap64 ((wrap64 (Int.tmod (IntKind.u64.wrap (a0)) 8)) - 1)) (rd y185 (ji4)) x190002_6).bind fun t252 => (if (t252 == (!a2)) = true then (some ((t248 == 0) == (!a2))) else (some false))) else (some false))) = some r := H
                        have A104 := Aside0.mk A1040
                        clear A1040
                        replace H := Option.bind_eq_some_iff.mp H
                        obtain ⟨t251, A1050, H⟩ := H
                        replace H : (if t251 = true then ((event_May.f kj98 (wrap64 ((wrap64 (Int.tmod (IntKind.u64.wrap (a0)) 8)) - 1)) (rd y185 (ji4)) x190002_6).bind fun t252 => (if (t252 == (!a2)) = true then (some ((t248 == 0) == (!a2))) else (some false))) else (some false)) = some r := H
                        have A105 := Aside0.mk A1050
                        clear A1050
                        by_cases c106 : t251 = true
                        · subst c106
                          have H1 : ((event_May.f kj98 (wrap64 ((wrap64 (Int.tmod (IntKind.u64.wrap (a0)) 8)) - 1)) (rd y185 (ji4)) x190002_6).bind fun t252 => (if (t252 == (!a2)) = true then (some ((t248 == 0) == (!a2))) else (some false))) = some r := by rw [if_pos rfl] at H; exact H
                          clear H
                          have H := H1
                          clear H1
                          replace H := Option.bind_eq_some_iff.mp H
                          obtain ⟨t252, A1070, H⟩ := H
                          replace H : (if (t252 == (!a2)) = true then (some ((t248 == 0) == (!a2))) else (some false)) = some r := H
                          have A107 := Aside0.mk A1070
                          clear A1070
                          by_cases c108 : (t252 == (!a2)) = true
                          · rw [if_pos c108] at H
                            have c108b0 : (t252 == (!a2)) = true := c108
                            (try (have c108b1 : decide (t252 = (!a2)) = true := by simpa using c108))
                            (try (have c108b2 : (t252 == (!a2)) = true := by simpa using c108))
                            clear c108
                            obtain rfl := Option.some.inj H
                            have hcz109_0 : wc.cell? ⟨gb189, 0, none⟩ = some (.int .i64 (wrap64 ((wrap64 (Int.tmod (IntKind.u64.wrap (a0)) 8)) - 1))) := (blk_cell BK189.out 0).trans rfl
                            have hcz109_1 : wc.cell? ⟨gb189, 1, none⟩ = some (.int .i64 (rd y185 (ji4))) := (blk_cell BK189.out 1).trans rfl
                            have hcz109_2 : wc.cell? ⟨gb189, 2, none⟩ = some (.string x190002_6) := (blk_cell BK189.out 2).trans rfl
                            have hfz109_0 := blk_frozen BK189.out 0
                            have hfz109_1 := blk_frozen BK189.out 1
                            have hfz109_2 := blk_frozen BK189.out 2
                            go_wp2_with (first | ((with_reducible refine gate_dst (N := 85) rfl ?_); refine Kd.R_lit k50 _ 50 ?hg (N := 85) ?hd (xs := ([(⟨(wrap64 ((wrap64 (Int.tmod (IntKind.u64.wrap (a0)) 8)) - 1)), (rd y185 (ji4)), x190002_6⟩ : S50)] : List (S50))) (inner := [.int .i64 (wrap64 ((wrap64 (Int.tmod (IntKind.u64.wrap (a0)) 8)) - 1)), .int .i64 (rd y185 (ji4)), .string x190002_6]) (ok := fun _ => True) (okp := fun _ => True) ?hr ?hp (fun _ hk => hk) trivial (Below.refl _ _) (Nat.le_refl _) (by simp) ?_; (case hd => rfl); (case hg => rfl); (case hr => first | (go_simp; done) | (go_simp; rfl)); (case hp => exact (Reps.c3 (show Kd.M k50 _ _ _ (⟨(wrap64 ((wrap64 (Int.tmod (IntKind.u64.wrap (a0)) 8)) - 1)), (rd y185 (ji4)), x190002_6⟩ : S50) [.int .i64 (wrap64 ((wrap64 (Int.tmod (IntKind.u64.wrap (a0)) 8)) - 1)), .int .i64 (rd y185 (ji4)), .string x190002_6] from (k50_mkM _ _ _ (⟨(wrap64 ((wrap64 (Int.tmod (IntKind.u64.wrap (a0)) 8)) - 1)), (rd y185 (ji4)), x190002_6⟩ : S50) )) (Reps.none _ _))); intro v245 w110 ho111 hb hg_ hnew_; clear hg_ hnew_; (first | rw [← Ny244.out] at ho111 | (simp only [Int.reduceToNat] at ho111; rw [← Ny244.out] at ho111)); have n0_ := Aside0.mk (Kd.R_lower (Kd.R_newB ho111 (g := gb189) (o := .cells #[.int .i64 (wrap64 ((wrap64 (Int.tmod (IntKind.u64.wrap (a0)) 8)) - 1)), .int .i64 (rd y185 (ji4)), .string x190002_6] 50 (0, 0)) (by (with_reducible repeat (first | refine blk_drewN ?_ _ | refine blk_drew ?_ | refine blk_alloc ?_ _)); exact BK189.out)) (below_size (by repeat (first | (with_reducible first | exact HB.out | apply below_alloc | apply pw_below_drewN | apply below_drew1 | refine below_set ?_ GE189.out) | exact HB.out)))); have n1_ := Aside0.mk (blk_below (g := gb189) (o := .cells #[.int .i64 (wrap64 ((wrap64 (Int.tmod (IntKind.u64.wrap (a0)) 8)) - 1)), .int .i64 (rd y185 (ji4)), .string x190002_6] 50 (0, 0)) (by (with_reducible repeat (first | refine blk_drewN ?_ _ | refine blk_drew ?_ | refine blk_alloc ?_ _)); exact BK189.out) hb); have n2_ := Aside0.mk (below_step (by repeat (first | (with_reducible first | exact HB.out | apply below_alloc | apply pw_below_drewN | apply below_drew1 | refine below_set ?_ GE189.out) | exact HB.out)) hb); clear BK189; clear HB; have HO246 := n0_; have BK189 := n1_; have HB := n2_; clear n0_ n1_ n2_; clear hb ho111; obtain ⟨Ao112, co112, eo112⟩ := Kd.R_slice HO246.out; subst eo112) | ((with_reducible refine gate_callee (f := 37) rfl ?_); refine goesL_ (some 86) rfl rfl Try.func37 (by kernel_rfl) rfl #[.slice Ao112 y244.length co112] rfl (by (try simp only [List.map_toArray, List.map_cons, List.map_nil]); first | done | rfl | (simp only [List.length_drop, List.length_take]; rfl)) ?_; (with_reducible refine (event_Put.calls kj98 _ _ y244 t247 t248 _ ?side1 ?side2 A104.out).mono ?_); (case side1 => repeat (first | exact (Kd.R_reads' HO246.out).2.2 | (with_reducible refine Kd.C_alloc ?_ _) | (with_reducible refine Kd.C_drewN ?_ _) | (with_reducible refine Kd.C_drew ?_))); (case side2 => exact (Kd.R_reads' HO246.out).2.1); rintro e w113 ⟨v249, rfl, ho0, hb⟩; refine ⟨_, rfl, ?_⟩; have n0_ := Aside0.mk (Kd.R_below (by (with_reducible repeat (first | apply Kd.R_alloc | apply Kd.R_drewN | apply Kd.R_drew)); exact HO246.out) hb); have n1_ := Aside0.mk (Kd.R_lower ho0 (below_size (by repeat (first | (with_reducible first | exact HB.out | apply below_alloc | apply pw_below_drewN | apply below_drew1 | refine below_set ?_ GE189.out) | exact HB.out)))); have n2_ := Aside0.mk (blk_below (g := gb189) (o := .cells #[.int .i64 (wrap64 ((wrap64 (Int.tmod (IntKind.u64.wrap (a0)) 8)) - 1)), .int .i64 (rd y185 (ji4)), .string x190002_6] 50 (0, 0)) (by (with_reducible repeat (first | refine blk_drewN ?_ _ | refine blk_drew ?_ | refine blk_alloc ?_ _)); exact BK189.out) hb); have n3_ := Aside0.mk (below_step (by repeat (first | (with_reducible first | exact HB.out | apply below_alloc | apply pw_below_drewN | apply below_drew1 | refine below_set ?_ GE189.out) | exact HB.out)) hb); clear HO246; clear BK189; clear HB; have HO246 := n0_; have HO250 := n1_; have BK189 := n2_; have HB := n3_; clear n0_ n1_ n2_ n3_; (try clear hb); (try clear hb2); (try clear hk); (try clear hi); (try clear ho0)) | ((with_reducible refine gate_callee (f := 38) rfl ?_); refine goesL_ (some 89) rfl rfl Try.func38 (by kernel_rfl) rfl #[] rfl (by (try simp only [List.map_toArray, List.map_cons, List.map_nil]); first | done | rfl | (simp only [List.length_drop, List.length_take]; rfl)) ?_; (with_reducible refine (spinnakerlaw23_told.calls kj98  true _ A105.out).mono ?_); rintro e w114 ⟨rfl, hb⟩; refine ⟨_, rfl, ?_⟩; have n0_ := Aside0.mk (Kd.R_below (by (with_reducible repeat (first | apply Kd.R_alloc | apply Kd.R_drewN | apply Kd.R_drew)); exact HO246.out) hb); have n1_ := Aside0.mk (Kd.R_below (by (with_reducible repeat (first | apply Kd.R_alloc | apply Kd.R_drewN | apply Kd.R_drew)); exact HO250.out) hb); have n2_ := Aside0.mk (blk_below (g := gb189) (o := .cells #[.int .i64 (wrap64 ((wrap64 (Int.tmod (IntKind.u64.wrap (a0)) 8)) - 1)), .int .i64 (rd y185 (ji4)), .string x190002_6] 50 (0, 0)) (by (with_reducible repeat (first | refine blk_drewN ?_ _ | refine blk_drew ?_ | refine blk_alloc ?_ _)); exact BK189.out) hb); have n3_ := Aside0.mk (below_step (by repeat (first | (with_reducible first | exact HB.out | apply below_alloc | apply pw_below_drewN | apply below_drew1 | refine below_set ?_ GE189.out) | exact HB.out)) hb); clear HO246; clear HO250; clear BK189; clear HB; have HO246 := n0_; have HO250 := n1_; have BK189 := n2_; have HB := n3_; clear n0_ n1_ n2_ n3_; (try clear hb); (try clear hb2); (try clear hk); (try clear hi); have hcz115_0 : w114.cell? ⟨gb189, 0, none⟩ = some (.int .i64 (wrap64 ((wrap64 (Int.tmod (IntKind.u64.wrap (a0)) 8)) - 1))) := (blk_cell BK189.out 0).trans rfl; have hcz115_1 : w114.cell? ⟨gb189, 1, none⟩ = some (.int .i64 (rd y185 (ji4))) := (blk_cell BK189.out 1).trans rfl; have hcz115_2 : w114.cell? ⟨gb189, 2, none⟩ = some (.string x190002_6) := (blk_cell BK189.out 2).trans rfl; have hfz115_0 := blk_frozen BK189.out 0; have hfz115_1 := blk_frozen BK189.out 1; have hfz115_2 := blk_frozen BK189.out 2) | (go_at_call 39; (with_reducible refine (event_May.calls kj98 (wrap64 ((wrap64 (Int.tmod (IntKind.u64.wrap (a0)) 8)) - 1)) (rd y185 (ji4)) x190002_6 t252 _ A107.out).mono ?_); rintro e w116 ⟨rfl, hb⟩; have n0_ := Aside0.mk (Kd.R_below (by (with_reducible repeat (first | apply Kd.R_alloc | apply Kd.R_drewN | apply Kd.R_drew)); exact HO246.out) hb); have n1_ := Aside0.mk (Kd.R_below (by (with_reducible repeat (first | apply Kd.R_alloc | apply Kd.R_drewN | apply Kd.R_drew)); exact HO250.out) hb); have n2_ := Aside0.mk (blk_below (g := gb189) (o := .cells #[.int .i64 (wrap64 ((wrap64 (Int.tmod (IntKind.u64.wrap (a0)) 8)) - 1)), .int .i64 (rd y185 (ji4)), .string x190002_6] 50 (0, 0)) (by (with_reducible repeat (first | refine blk_drewN ?_ _ | refine blk_drew ?_ | refine blk_alloc ?_ _)); exact BK189.out) hb); have n3_ := Aside0.mk (below_step (by repeat (first | (with_reducible first | exact HB.out | apply below_alloc | apply pw_below_drewN | apply below_drew1 | refine below_set ?_ GE189.out) | exact HB.out)) hb); clear HO246; clear HO250; clear BK189; clear HB; have HO246 := n0_; have HO250 := n1_; have BK189 := n2_; have HB := n3_; clear n0_ n1_ n2_ n3_; (try clear hb); (try clear hb2); (try clear hk); (try clear hi)))
                            go_ret
                            exact ⟨by first | rfl | (simp only [tdiv_top]; rfl) | (simp [errW_none, errW_some] <;> rfl) | (simp only [← hji4]; first | rfl | (simp [errW_none, errW_some] <;> rfl)) | (simp [*, errW_none, errW_some] <;> rfl), by repeat (first | (with_reducible first | exact HB.out | apply below_alloc | apply pw_below_drewN | apply below_drew1 | refine below_set ?_ GE189.out) | exact HB.out)⟩
                          · rw [if_neg c108] at H
                            have c108b0 : (t252 == (!a2)) = false := by simpa using c108
                            (try (have c108b1 : decide (t252 = (!a2)) = false := by simpa using c108))
                            (try (have c108b2 : (t252 == (!a2)) = false := by simpa using c108))
                            (try (have c108b3 : ¬ (t252 = (!a2)) := by simpa using c108))
                            clear c108
                            rw [hrt.out] at H
                            exact absurd H (by simp)
                        · replace c106 := Bool.eq_false_iff.mpr c106
                          subst c106
                          have H1 : (some false) = some r := by rw [if_neg (show ¬ (false = true) by decide)] at H; exact H
                          clear H
                          have H := H1
                          clear H1
                          rw [hrt.out] at H
                          exact absurd H (by simp)
                      · rw [if_neg c103] at H
                        have c103b0 : decide ((rd y185 (ji4)) ≤ 999) = false := decide_eq_false c103
                        clear c103
                        obtain ⟨y253, hy253⟩ : ∃ y_ : List (S50), y_ = (([(⟨(wrap64 ((wrap64 (Int.tmod (IntKind.u64.wrap (a0)) 8)) - 1)), (rd y185 (ji4)), x190002_6⟩ : S50)] : List (S50))) := ⟨_, rfl⟩
                        replace H : ((event_Put.f kj98 y253).bind fun bt256 => ((spinnakerlaw23_told.f kj98).bind fun t260 => (if t260 = true then ((event_May.f kj98 (wrap64 ((wrap64 (Int.tmod (IntKind.u64.wrap (a0)) 8)) - 1)) (rd y185 (ji4)) x190002_6).bind fun t261 => (if (t261 == false) = true then (some ((bt256.2 == 0) == false)) else (some false))) else (some false)))) = some r := by first | (rw [hy253]; with_reducible exact H) | (have H2_ := (Option.bind_some _ _).symm.trans H; rw [hy253]; with_reducible exact H2_) | (have H2_ := (Option.bind_some _ _).symm.trans H; with_reducible exact H2_) | with_reducible exact H | (rw [hy253]; exact H) | exact H
                        have Ny253 := Aside0.mk hy253
                        clear hy253
                        replace H := Option.bind_eq_some_iff.mp H
                        obtain ⟨⟨t256, t257⟩, A1170, H⟩ := H
                        replace H : ((spinnakerlaw23_told.f kj98).bind fun t260 => (if t260 = true then ((event_May.f kj98 (wrap64 ((wrap64 (Int.tmod (IntKind.u64.wrap (a0)) 8)) - 1)) (rd y185 (ji4)) x190002_6).bind fun t261 => (if (t261 == false) = true then (some ((t257 == 0) == false)) else (some false))) else (some false))) = some r := H
                        have A117 := Aside0.mk A1170
                        clear A1170
                        replace H := Option.bind_eq_some_iff.mp H
                        obtain ⟨t260, A1180, H⟩ := H
                        replace H : (if t260 = true then ((event_May.f kj98 (wrap64 ((wrap64 (Int.tmod (IntKind.u64.wrap (a0)) 8)) - 1)) (rd y185 (ji4)) x190002_6).bind fun t261 => (if (t261 == false) = true then (some ((t257 == 0) == false)) else (some false))) else (some false)) = some r := H
                        have A118 := Aside0.mk A1180
                        clear A1180
                        by_cases c119 : t260 = true
                        · subst c119
                          have H1 : ((event_May.f kj98 (wrap64 ((wrap64 (Int.tmod (IntKind.u64.wrap (a0)) 8)) - 1)) (rd y185 (ji4)) x190002_6).bind fun t261 => (if (t261 == false) = true then (some ((t257 == 0) == false)) else (some false))) = some r := by rw [if_pos rfl] at H; exact H
                          clear H
                          have H := H1
                          clear H1
                          replace H := Option.bind_eq_some_iff.mp H
                          obtain ⟨t261, A1200, H⟩ := H
                          replace H : (if (t261 == false) = true then (some ((t257 == 0) == false)) else (some false)) = some r := H
                          have A120 := Aside0.mk A1200
                          clear A1200
                          by_cases c121 : (t261 == false) = true
                          · rw [if_pos c121] at H
                            have c121b0 : (t261 == false) = true := c121
                            (try (have c121b1 : decide (t261 = false) = true := by simpa using c121))
                            (try (have c121b2 : (t261 == false) = true := by simpa using c121))
                            clear c121
                            obtain rfl := Option.some.inj H
                            have hcz122_0 : wc.cell? ⟨gb189, 0, none⟩ = some (.int .i64 (wrap64 ((wrap64 (Int.tmod (IntKind.u64.wrap (a0)) 8)) - 1))) := (blk_cell BK189.out 0).trans rfl
                            have hcz122_1 : wc.cell? ⟨gb189, 1, none⟩ = some (.int .i64 (rd y185 (ji4))) := (blk_cell BK189.out 1).trans rfl
                            have hcz122_2 : wc.cell? ⟨gb189, 2, none⟩ = some (.string x190002_6) := (blk_cell BK189.out 2).trans rfl
                            have hfz122_0 := blk_frozen BK189.out 0
                            have hfz122_1 := blk_frozen BK189.out 1
                            have hfz122_2 := blk_frozen BK189.out 2
                            go_wp2_with (first | ((with_reducible refine gate_dst (N := 85) rfl ?_); refine Kd.R_lit k50 _ 50 ?hg (N := 85) ?hd (xs := ([(⟨(wrap64 ((wrap64 (Int.tmod (IntKind.u64.wrap (a0)) 8)) - 1)), (rd y185 (ji4)), x190002_6⟩ : S50)] : List (S50))) (inner := [.int .i64 (wrap64 ((wrap64 (Int.tmod (IntKind.u64.wrap (a0)) 8)) - 1)), .int .i64 (rd y185 (ji4)), .string x190002_6]) (ok := fun _ => True) (okp := fun _ => True) ?hr ?hp (fun _ hk => hk) trivial (Below.refl _ _) (Nat.le_refl _) (by simp) ?_; (case hd => rfl); (case hg => rfl); (case hr => first | (go_simp; done) | (go_simp; rfl)); (case hp => exact (Reps.c3 (show Kd.M k50 _ _ _ (⟨(wrap64 ((wrap64 (Int.tmod (IntKind.u64.wrap (a0)) 8)) - 1)), (rd y185 (ji4)), x190002_6⟩ : S50) [.int .i64 (wrap64 ((wrap64 (Int.tmod (IntKind.u64.wrap (a0)) 8)) - 1)), .int .i64 (rd y185 (ji4)), .string x190002_6] from (k50_mkM _ _ _ (⟨(wrap64 ((wrap64 (Int.tmod (IntKind.u64.wrap (a0)) 8)) - 1)), (rd y185 (ji4)), x190002_6⟩ : S50) )) (Reps.none _ _))); intro v254 w123 ho124 hb hg_ hnew_; clear hg_ hnew_; (first | rw [← Ny253.out] at ho124 | (simp only [Int.reduceToNat] at ho124; rw [← Ny253.out] at ho124)); have n0_ := Aside0.mk (Kd.R_lower (Kd.R_newB ho124 (g := gb189) (o := .cells #[.int .i64 (wrap64 ((wrap64 (Int.tmod (IntKind.u64.wrap (a0)) 8)) - 1)), .int .i64 (rd y185 (ji4)), .string x190002_6] 50 (0, 0)) (by (with_reducible repeat (first | refine blk_drewN ?_ _ | refine blk_drew ?_ | refine blk_alloc ?_ _)); exact BK189.out)) (below_size (by repeat (first | (with_reducible first | exact HB.out | apply below_alloc | apply pw_below_drewN | apply below_drew1 | refine below_set ?_ GE189.out) | exact HB.out)))); have n1_ := Aside0.mk (blk_below (g := gb189) (o := .cells #[.int .i64 (wrap64 ((wrap64 (Int.tmod (IntKind.u64.wrap (a0)) 8)) - 1)), .int .i64 (rd y185 (ji4)), .string x190002_6] 50 (0, 0)) (by (with_reducible repeat (first | refine blk_drewN ?_ _ | refine blk_drew ?_ | refine blk_alloc ?_ _)); exact BK189.out) hb); have n2_ := Aside0.mk (below_step (by repeat (first | (with_reducible first | exact HB.out | apply below_alloc | apply pw_below_drewN | apply below_drew1 | refine below_set ?_ GE189.out) | exact HB.out)) hb); clear BK189; clear HB; have HO255 := n0_; have BK189 := n1_; have HB := n2_; clear n0_ n1_ n2_; clear hb ho124; obtain ⟨Ao125, co125, eo125⟩ := Kd.R_slice HO255.out; subst eo125) | ((with_reducible refine gate_callee (f := 37) rfl ?_); refine goesL_ (some 86) rfl rfl Try.func37 (by kernel_rfl) rfl #[.slice Ao125 y253.length co125] rfl (by (try simp only [List.map_toArray, List.map_cons, List.map_nil]); first | done | rfl | (simp only [List.length_drop, List.length_take]; rfl)) ?_; (with_reducible refine (event_Put.calls kj98 _ _ y253 t256 t257 _ ?side1 ?side2 A117.out).mono ?_); (case side1 => repeat (first | exact (Kd.R_reads' HO255.out).2.2 | (with_reducible refine Kd.C_alloc ?_ _) | (with_reducible refine Kd.C_drewN ?_ _) | (with_reducible refine Kd.C_drew ?_))); (case side2 => exact (Kd.R_reads' HO255.out).2.1); rintro e w126 ⟨v258, rfl, ho0, hb⟩; refine ⟨_, rfl, ?_⟩; have n0_ := Aside0.mk (Kd.R_below (by (with_reducible repeat (first | apply Kd.R_alloc | apply Kd.R_drewN | apply Kd.R_drew)); exact HO255.out) hb); have n1_ := Aside0.mk (Kd.R_lower ho0 (below_size (by repeat (first | (with_reducible first | exact HB.out | apply below_alloc | apply pw_below_drewN | apply below_drew1 | refine below_set ?_ GE189.out) | exact HB.out)))); have n2_ := Aside0.mk (blk_below (g := gb189) (o := .cells #[.int .i64 (wrap64 ((wrap64 (Int.tmod (IntKind.u64.wrap (a0)) 8)) - 1)), .int .i64 (rd y185 (ji4)), .string x190002_6] 50 (0, 0)) (by (with_reducible repeat (first | refine blk_drewN ?_ _ | refine blk_drew ?_ | refine blk_alloc ?_ _)); exact BK189.out) hb); have n3_ := Aside0.mk (below_step (by repeat (first | (with_reducible first | exact HB.out | apply below_alloc | apply pw_below_drewN | apply below_drew1 | refine below_set ?_ GE189.out) | exact HB.out)) hb); clear HO255; clear BK189; clear HB; have HO255 := n0_; have HO259 := n1_; have BK189 := n2_; have HB := n3_; clear n0_ n1_ n2_ n3_; (try clear hb); (try clear hb2); (try clear hk); (try clear hi); (try clear ho0)) | ((with_reducible refine gate_callee (f := 38) rfl ?_); refine goesL_ (some 89) rfl rfl Try.func38 (by kernel_rfl) rfl #[] rfl (by (try simp only [List.map_toArray, List.map_cons, List.map_nil]); first | done | rfl | (simp only [List.length_drop, List.length_take]; rfl)) ?_; (with_reducible refine (spinnakerlaw23_told.calls kj98  true _ A118.out).mono ?_); rintro e w127 ⟨rfl, hb⟩; refine ⟨_, rfl, ?_⟩; have n0_ := Aside0.mk (Kd.R_below (by (with_reducible repeat (first | apply Kd.R_alloc | apply Kd.R_drewN | apply Kd.R_drew)); exact HO255.out) hb); have n1_ := Aside0.mk (Kd.R_below (by (with_reducible repeat (first | apply Kd.R_alloc | apply Kd.R_drewN | apply Kd.R_drew)); exact HO259.out) hb); have n2_ := Aside0.mk (blk_below (g := gb189) (o := .cells #[.int .i64 (wrap64 ((wrap64 (Int.tmod (IntKind.u64.wrap (a0)) 8)) - 1)), .int .i64 (rd y185 (ji4)), .string x190002_6] 50 (0, 0)) (by (with_reducible repeat (first | refine blk_drewN ?_ _ | refine blk_drew ?_ | refine blk_alloc ?_ _)); exact BK189.out) hb); have n3_ := Aside0.mk (below_step (by repeat (first | (with_reducible first | exact HB.out | apply below_alloc | apply pw_below_drewN | apply below_drew1 | refine below_set ?_ GE189.out) | exact HB.out)) hb); clear HO255; clear HO259; clear BK189; clear HB; have HO255 := n0_; have HO259 := n1_; have BK189 := n2_; have HB := n3_; clear n0_ n1_ n2_ n3_; (try clear hb); (try clear hb2); (try clear hk); (try clear hi); have hcz128_0 : w127.cell? ⟨gb189, 0, none⟩ = some (.int .i64 (wrap64 ((wrap64 (Int.tmod (IntKind.u64.wrap (a0)) 8)) - 1))) := (blk_cell BK189.out 0).trans rfl; have hcz128_1 : w127.cell? ⟨gb189, 1, none⟩ = some (.int .i64 (rd y185 (ji4))) := (blk_cell BK189.out 1).trans rfl; have hcz128_2 : w127.cell? ⟨gb189, 2, none⟩ = some (.string x190002_6) := (blk_cell BK189.out 2).trans rfl; have hfz128_0 := blk_frozen BK189.out 0; have hfz128_1 := blk_frozen BK189.out 1; have hfz128_2 := blk_frozen BK189.out 2) | (go_at_call 39; (with_reducible refine (event_May.calls kj98 (wrap64 ((wrap64 (Int.tmod (IntKind.u64.wrap (a0)) 8)) - 1)) (rd y185 (ji4)) x190002_6 t261 _ A120.out).mono ?_); rintro e w129 ⟨rfl, hb⟩; have n0_ := Aside0.mk (Kd.R_below (by (with_reducible repeat (first | apply Kd.R_alloc | apply Kd.R_drewN | apply Kd.R_drew)); exact HO255.out) hb); have n1_ := Aside0.mk (Kd.R_below (by (with_reducible repeat (first | apply Kd.R_alloc | apply Kd.R_drewN | apply Kd.R_drew)); exact HO259.out) hb); have n2_ := Aside0.mk (blk_below (g := gb189) (o := .cells #[.int .i64 (wrap64 ((wrap64 (Int.tmod (IntKind.u64.wrap (a0)) 8)) - 1)), .int .i64 (rd y185 (ji4)), .string x190002_6] 50 (0, 0)) (by (with_reducible repeat (first | refine blk_drewN ?_ _ | refine blk_drew ?_ | refine blk_alloc ?_ _)); exact BK189.out) hb); have n3_ := Aside0.mk (below_step (by repeat (first | (with_reducible first | exact HB.out | apply below_alloc | apply pw_below_drewN | apply below_drew1 | refine below_set ?_ GE189.out) | exact HB.out)) hb); clear HO255; clear HO259; clear BK189; clear HB; have HO255 := n0_; have HO259 := n1_; have BK189 := n2_; have HB := n3_; clear n0_ n1_ n2_ n3_; (try clear hb); (try clear hb2); (try clear hk); (try clear hi)))
                            go_ret
                            exact ⟨by first | rfl | (simp only [tdiv_top]; rfl) | (simp [errW_none, errW_some] <;> rfl) | (simp only [← hji4]; first | rfl | (simp [errW_none, errW_some] <;> rfl)) | (simp [*, errW_none, errW_some] <;> rfl), by repeat (first | (with_reducible first | exact HB.out | apply below_alloc | apply pw_below_drewN | apply below_drew1 | refine below_set ?_ GE189.out) | exact HB.out)⟩
                          · rw [if_neg c121] at H
                            have c121b0 : (t261 == false) = false := by simpa using c121
                            (try (have c121b1 : decide (t261 = false) = false := by simpa using c121))
                            (try (have c121b2 : (t261 == false) = false := by simpa using c121))
                            (try (have c121b3 : ¬ (t261 = false) := by simpa using c121))
                            clear c121
                            rw [hrt.out] at H
                            exact absurd H (by simp)
                        · replace c119 := Bool.eq_false_iff.mpr c119
                          subst c119
                          have H1 : (some false) = some r := by rw [if_neg (show ¬ (false = true) by decide)] at H; exact H
                          clear H
                          have H := H1
                          clear H1
                          rw [hrt.out] at H
                          exact absurd H (by simp)
                    · rw [if_neg c102] at H
                      have c102b0 : decide (0 ≤ (rd y185 (ji4))) = false := decide_eq_false c102
                      clear c102
                      obtain ⟨y262, hy262⟩ : ∃ y_ : List (S50), y_ = (([(⟨(wrap64 ((wrap64 (Int.tmod (IntKind.u64.wrap (a0)) 8)) - 1)), (rd y185 (ji4)), x190002_6⟩ : S50)] : List (S50))) := ⟨_, rfl⟩
                      replace H : ((event_Put.f kj98 y262).bind fun bt265 => ((spinnakerlaw23_told.f kj98).bind fun t269 => (if t269 = true then ((event_May.f kj98 (wrap64 ((wrap64 (Int.tmod (IntKind.u64.wrap (a0)) 8)) - 1)) (rd y185 (ji4)) x190002_6).bind fun t270 => (if (t270 == false) = true then (some ((bt265.2 == 0) == false)) else (some false))) else (some false)))) = some r := by first | (rw [hy262]; with_reducible exact H) | (have H2_ := (Option.bind_some _ _).symm.trans H; rw [hy262]; with_reducible exact H2_) | (have H2_ := (Option.bind_some _ _).symm.trans H; with_reducible exact H2_) | with_reducible exact H | (rw [hy262]; exact H) | exact H
                      have Ny262 := Aside0.mk hy262
                      clear hy262
                      replace H := Option.bind_eq_some_iff.mp H
                      obtain ⟨⟨t265, t266⟩, A1300, H⟩ := H
                      replace H : ((spinnakerlaw23_told.f kj98).bind fun t269 => (if t269 = true then ((event_May.f kj98 (wrap64 ((wrap64 (Int.tmod (IntKind.u64.wrap (a0)) 8)) - 1)) (rd y185 (ji4)) x190002_6).bind fun t270 => (if (t270 == false) = true then (some ((t266 == 0) == false)) else (some false))) else (some false))) = some r := H
                      have A130 := Aside0.mk A1300
                      clear A1300
                      replace H := Option.bind_eq_some_iff.mp H
                      obtain ⟨t269, A1310, H⟩ := H
                      replace H : (if t269 = true then ((event_May.f kj98 (wrap64 ((wrap64 (Int.tmod (IntKind.u64.wrap (a0)) 8)) - 1)) (rd y185 (ji4)) x190002_6).bind fun t270 => (if (t270 == false) = true then (some ((t266 == 0) == false)) else (some false))) else (some false)) = some r := H
                      have A131 := Aside0.mk A1310
                      clear A1310
                      by_cases c132 : t269 = true
                      · subst c132
                        have H1 : ((event_May.f kj98 (wrap64 ((wrap64 (Int.tmod (IntKind.u64.wrap (a0)) 8)) - 1)) (rd y185 (ji4)) x190002_6).bind fun t270 => (if (t270 == false) = true then (some ((t266 == 0) == false)) else (some false))) = some r := by rw [if_pos rfl] at H; exact H
                        clear H
                        have H := H1
                        clear H1
                        replace H := Option.bind_eq_some_iff.mp H
                        obtain ⟨t270, A1330, H⟩ := H
                        replace H : (if (t270 == false) = true then (some ((t266 == 0) == false)) else (some false)) = some r := H
                        have A133 := Aside0.mk A1330
                        clear A1330
                        by_cases c134 : (t270 == false) = true
                        · rw [if_pos c134] at H
                          have c134b0 : (t270 == false) = true := c134
                          (try (have c134b1 : decide (t270 = false) = true := by simpa using c134))
                          (try (have c134b2 : (t270 == false) = true := by simpa using c134))
                          clear c134
                          obtain rfl := Option.some.inj H
                          have hcz135_0 : wc.cell? ⟨gb189, 0, none⟩ = some (.int .i64 (wrap64 ((wrap64 (Int.tmod (IntKind.u64.wrap (a0)) 8)) - 1))) := (blk_cell BK189.out 0).trans rfl
                          have hcz135_1 : wc.cell? ⟨gb189, 1, none⟩ = some (.int .i64 (rd y185 (ji4))) := (blk_cell BK189.out 1).trans rfl
                          have hcz135_2 : wc.cell? ⟨gb189, 2, none⟩ = some (.string x190002_6) := (blk_cell BK189.out 2).trans rfl
                          have hfz135_0 := blk_frozen BK189.out 0
                          have hfz135_1 := blk_frozen BK189.out 1
                          have hfz135_2 := blk_frozen BK189.out 2
                          go_wp2_with (first | ((with_reducible refine gate_dst (N := 85) rfl ?_); refine Kd.R_lit k50 _ 50 ?hg (N := 85) ?hd (xs := ([(⟨(wrap64 ((wrap64 (Int.tmod (IntKind.u64.wrap (a0)) 8)) - 1)), (rd y185 (ji4)), x190002_6⟩ : S50)] : List (S50))) (inner := [.int .i64 (wrap64 ((wrap64 (Int.tmod (IntKind.u64.wrap (a0)) 8)) - 1)), .int .i64 (rd y185 (ji4)), .string x190002_6]) (ok := fun _ => True) (okp := fun _ => True) ?hr ?hp (fun _ hk => hk) trivial (Below.refl _ _) (Nat.le_refl _) (by simp) ?_; (case hd => rfl); (case hg => rfl); (case hr => first | (go_simp; done) | (go_simp; rfl)); (case hp => exact (Reps.c3 (show Kd.M k50 _ _ _ (⟨(wrap64 ((wrap64 (Int.tmod (IntKind.u64.wrap (a0)) 8)) - 1)), (rd y185 (ji4)), x190002_6⟩ : S50) [.int .i64 (wrap64 ((wrap64 (Int.tmod (IntKind.u64.wrap (a0)) 8)) - 1)), .int .i64 (rd y185 (ji4)), .string x190002_6] from (k50_mkM _ _ _ (⟨(wrap64 ((wrap64 (Int.tmod (IntKind.u64.wrap (a0)) 8)) - 1)), (rd y185 (ji4)), x190002_6⟩ : S50) )) (Reps.none _ _))); intro v263 w136 ho137 hb hg_ hnew_; clear hg_ hnew_; (first | rw [← Ny262.out] at ho137 | (simp only [Int.reduceToNat] at ho137; rw [← Ny262.out] at ho137)); have n0_ := Aside0.mk (Kd.R_lower (Kd.R_newB ho137 (g := gb189) (o := .cells #[.int .i64 (wrap64 ((wrap64 (Int.tmod (IntKind.u64.wrap (a0)) 8)) - 1)), .int .i64 (rd y185 (ji4)), .string x190002_6] 50 (0, 0)) (by (with_reducible repeat (first | refine blk_drewN ?_ _ | refine blk_drew ?_ | refine blk_alloc ?_ _)); exact BK189.out)) (below_size (by repeat (first | (with_reducible first | exact HB.out | apply below_alloc | apply pw_below_drewN | apply below_drew1 | refine below_set ?_ GE189.out) | exact HB.out)))); have n1_ := Aside0.mk (blk_below (g := gb189) (o := .cells #[.int .i64 (wrap64 ((wrap64 (Int.tmod (IntKind.u64.wrap (a0)) 8)) - 1)), .int .i64 (rd y185 (ji4)), .string x190002_6] 50 (0, 0)) (by (with_reducible repeat (first | refine blk_drewN ?_ _ | refine blk_drew ?_ | refine blk_alloc ?_ _)); exact BK189.out) hb); have n2_ := Aside0.mk (below_step (by repeat (first | (with_reducible first | exact HB.out | apply below_alloc | apply pw_below_drewN | apply below_drew1 | refine below_set ?_ GE189.out) | exact HB.out)) hb); clear BK189; clear HB; have HO264 := n0_; have BK189 := n1_; have HB := n2_; clear n0_ n1_ n2_; clear hb ho137; obtain ⟨Ao138, co138, eo138⟩ := Kd.R_slice HO264.out; subst eo138) | ((with_reducible refine gate_callee (f := 37) rfl ?_); refine goesL_ (some 86) rfl rfl Try.func37 (by kernel_rfl) rfl #[.slice Ao138 y262.length co138] rfl (by (try simp only [List.map_toArray, List.map_cons, List.map_nil]); first | done | rfl | (simp only [List.length_drop, List.length_take]; rfl)) ?_; (with_reducible refine (event_Put.calls kj98 _ _ y262 t265 t266 _ ?side1 ?side2 A130.out).mono ?_); (case side1 => repeat (first | exact (Kd.R_reads' HO264.out).2.2 | (with_reducible refine Kd.C_alloc ?_ _) | (with_reducible refine Kd.C_drewN ?_ _) | (with_reducible refine Kd.C_drew ?_))); (case side2 => exact (Kd.R_reads' HO264.out).2.1); rintro e w139 ⟨v267, rfl, ho0, hb⟩; refine ⟨_, rfl, ?_⟩; have n0_ := Aside0.mk (Kd.R_below (by (with_reducible repeat (first | apply Kd.R_alloc | apply Kd.R_drewN | apply Kd.R_drew)); exact HO264.out) hb); have n1_ := Aside0.mk (Kd.R_lower ho0 (below_size (by repeat (first | (with_reducible first | exact HB.out | apply below_alloc | apply pw_below_drewN | apply below_drew1 | refine below_set ?_ GE189.out) | exact HB.out)))); have n2_ := Aside0.mk (blk_below (g := gb189) (o := .cells #[.int .i64 (wrap64 ((wrap64 (Int.tmod (IntKind.u64.wrap (a0)) 8)) - 1)), .int .i64 (rd y185 (ji4)), .string x190002_6] 50 (0, 0)) (by (with_reducible repeat (first | refine blk_drewN ?_ _ | refine blk_drew ?_ | refine blk_alloc ?_ _)); exact BK189.out) hb); have n3_ := Aside0.mk (below_step (by repeat (first | (with_reducible first | exact HB.out | apply below_alloc | apply pw_below_drewN | apply below_drew1 | refine below_set ?_ GE189.out) | exact HB.out)) hb); clear HO264; clear BK189; clear HB; have HO264 := n0_; have HO268 := n1_; have BK189 := n2_; have HB := n3_; clear n0_ n1_ n2_ n3_; (try clear hb); (try clear hb2); (try clear hk); (try clear hi); (try clear ho0)) | ((with_reducible refine gate_callee (f := 38) rfl ?_); refine goesL_ (some 89) rfl rfl Try.func38 (by kernel_rfl) rfl #[] rfl (by (try simp only [List.map_toArray, List.map_cons, List.map_nil]); first | done | rfl | (simp only [List.length_drop, List.length_take]; rfl)) ?_; (with_reducible refine (spinnakerlaw23_told.calls kj98  true _ A131.out).mono ?_); rintro e w140 ⟨rfl, hb⟩; refine ⟨_, rfl, ?_⟩; have n0_ := Aside0.mk (Kd.R_below (by (with_reducible repeat (first | apply Kd.R_alloc | apply Kd.R_drewN | apply Kd.R_drew)); exact HO264.out) hb); have n1_ := Aside0.mk (Kd.R_below (by (with_reducible repeat (first | apply Kd.R_alloc | apply Kd.R_drewN | apply Kd.R_drew)); exact HO268.out) hb); have n2_ := Aside0.mk (blk_below (g := gb189) (o := .cells #[.int .i64 (wrap64 ((wrap64 (Int.tmod (IntKind.u64.wrap (a0)) 8)) - 1)), .int .i64 (rd y185 (ji4)), .string x190002_6] 50 (0, 0)) (by (with_reducible repeat (first | refine blk_drewN ?_ _ | refine blk_drew ?_ | refine blk_alloc ?_ _)); exact BK189.out) hb); have n3_ := Aside0.mk (below_step (by repeat (first | (with_reducible first | exact HB.out | apply below_alloc | apply pw_below_drewN | apply below_drew1 | refine below_set ?_ GE189.out) | exact HB.out)) hb); clear HO264; clear HO268; clear BK189; clear HB; have HO264 := n0_; have HO268 := n1_; have BK189 := n2_; have HB := n3_; clear n0_ n1_ n2_ n3_; (try clear hb); (try clear hb2); (try clear hk); (try clear hi); have hcz141_0 : w140.cell? ⟨gb189, 0, none⟩ = some (.int .i64 (wrap64 ((wrap64 (Int.tmod (IntKind.u64.wrap (a0)) 8)) - 1))) := (blk_cell BK189.out 0).trans rfl; have hcz141_1 : w140.cell? ⟨gb189, 1, none⟩ = some (.int .i64 (rd y185 (ji4))) := (blk_cell BK189.out 1).trans rfl; have hcz141_2 : w140.cell? ⟨gb189, 2, none⟩ = some (.string x190002_6) := (blk_cell BK189.out 2).trans rfl; have hfz141_0 := blk_frozen BK189.out 0; have hfz141_1 := blk_frozen BK189.out 1; have hfz141_2 := blk_frozen BK189.out 2) | (go_at_call 39; (with_reducible refine (event_May.calls kj98 (wrap64 ((wrap64 (Int.tmod (IntKind.u64.wrap (a0)) 8)) - 1)) (rd y185 (ji4)) x190002_6 t270 _ A133.out).mono ?_); rintro e w142 ⟨rfl, hb⟩; have n0_ := Aside0.mk (Kd.R_below (by (with_reducible repeat (first | apply Kd.R_alloc | apply Kd.R_drewN | apply Kd.R_drew)); exact HO264.out) hb); have n1_ := Aside0.mk (Kd.R_below (by (with_reducible repeat (first | apply Kd.R_alloc | apply Kd.R_drewN | apply Kd.R_drew)); exact HO268.out) hb); have n2_ := Aside0.mk (blk_below (g := gb189) (o := .cells #[.int .i64 (wrap64 ((wrap64 (Int.tmod (IntKind.u64.wrap (a0)) 8)) - 1)), .int .i64 (rd y185 (ji4)), .string x190002_6] 50 (0, 0)) (by (with_reducible repeat (first | refine blk_drewN ?_ _ | refine blk_drew ?_ | refine blk_alloc ?_ _)); exact BK189.out) hb); have n3_ := Aside0.mk (below_step (by repeat (first | (with_reducible first | exact HB.out | apply below_alloc | apply pw_below_drewN | apply below_drew1 | refine below_set ?_ GE189.out) | exact HB.out)) hb); clear HO264; clear HO268; clear BK189; clear HB; have HO264 := n0_; have HO268 := n1_; have BK189 := n2_; have HB := n3_; clear n0_ n1_ n2_ n3_; (try clear hb); (try clear hb2); (try clear hk); (try clear hi)))
                          go_ret
                          exact ⟨by first | rfl | (simp only [tdiv_top]; rfl) | (simp [errW_none, errW_some] <;> rfl) | (simp only [← hji4]; first | rfl | (simp [errW_none, errW_some] <;> rfl)) | (simp [*, errW_none, errW_some] <;> rfl), by repeat (first | (with_reducible first | exact HB.out | apply below_alloc | apply pw_below_drewN | apply below_drew1 | refine below_set ?_ GE189.out) | exact HB.out)⟩
                        · rw [if_neg c134] at H
                          have c134b0 : (t270 == false) = false := by simpa using c134
                          (try (have c134b1 : decide (t270 = false) = false := by simpa using c134))
                          (try (have c134b2 : (t270 == false) = false := by simpa using c134))
                          (try (have c134b3 : ¬ (t270 = false) := by simpa using c134))
                          clear c134
                          rw [hrt.out] at H
                          exact absurd H (by simp)
                      · replace c132 := Bool.eq_false_iff.mpr c132
                        subst c132
                        have H1 : (some false) = some r := by rw [if_neg (show ¬ (false = true) by decide)] at H; exact H
                        clear H
                        have H := H1
                        clear H1
                        rw [hrt.out] at H
                        exact absurd H (by simp)
                  · replace c101 := Bool.eq_false_iff.mpr c101
                    subst c101
                    have H1 : (if (wrap64 ((wrap64 (Int.tmod (IntKind.u64.wrap (a0)) 8)) - 1)) = 6 then (if (rd y185 (ji4)) ≥ 1 then (if (rd y185 (ji4)) ≤ 50 then ((event_Put.f kj98 (([(⟨(wrap64 ((wrap64 (Int.tmod (IntKind.u64.wrap (a0)) 8)) - 1)), (rd y185 (ji4)), x190002_6⟩ : S50)] : List (S50)))).bind fun bt274 => ((spinnakerlaw23_told.f kj98).bind fun t278 => (if t278 = true then ((event_May.f kj98 (wrap64 ((wrap64 (Int.tmod (IntKind.u64.wrap (a0)) 8)) - 1)) (rd y185 (ji4)) x190002_6).bind fun t279 => (if (t279 == (!a2)) = true then (some ((bt274.2 == 0) == (!a2))) else (some false))) else (some false)))) else ((event_Put.f kj98 (([(⟨(wrap64 ((wrap64 (Int.tmod (IntKind.u64.wrap (a0)) 8)) - 1)), (rd y185 (ji4)), x190002_6⟩ : S50)] : List (S50)))).bind fun bt283 => ((spinnakerlaw23_told.f kj98).bind fun t287 => (if t287 = true then ((event_May.f kj98 (wrap64 ((wrap64 (Int.tmod (IntKind.u64.wrap (a0)) 8)) - 1)) (rd y185 (ji4)) x190002_6).bind fun t288 => (if (t288 == false) = true then (some ((bt283.2 == 0) == false)) else (some false))) else (some false))))) else ((event_Put.f kj98 (([(⟨(wrap64 ((wrap64 (Int.tmod (IntKind.u64.wrap (a0)) 8)) - 1)), (rd y185 (ji4)), x190002_6⟩ : S50)] : List (S50)))).bind fun bt292 => ((spinnakerlaw23_told.f kj98).bind fun t296 => (if t296 = true then ((event_May.f kj98 (wrap64 ((wrap64 (Int.tmod (IntKind.u64.wrap (a0)) 8)) - 1)) (rd y185 (ji4)) x190002_6).bind fun t297 => (if (t297 == false) = true then (some ((bt292.2 == 0) == false)) else (some false))) else (some false))))) else (if (wrap64 ((wrap64 (Int.tmod (IntKind.u64.wrap (a0)) 8)) - 1)) = 5 then ((event_Put.f kj98 (([(⟨(wrap64 ((wrap64 (Int.tmod (IntKind.u64.wrap (a0)) 8)) - 1)), (rd y185 (ji4)), x190002_6⟩ : S50)] : List (S50)))).bind fun bt301 => ((spinnakerlaw23_told.f kj98).bind fun t305 => (if t305 = true then ((event_May.f kj98 (wrap64 ((wrap64 (Int.tmod (IntKind.u64.wrap (a0)) 8)) - 1)) (rd y185 (ji4)) x190002_6).bind fun t306 => (if (t306 == ((rd y185 (ji4)) == 0)) = true then (some ((bt301.2 == 0) == ((rd y185 (ji4)) == 0))) else (some false))) else (some false)))) else ((event_Put.f kj98 (([(⟨(wrap64 ((wrap64 (Int.tmod (IntKind.u64.wrap (a0)) 8)) - 1)), (rd y185 (ji4)), x190002_6⟩ : S50)] : List (S50)))).bind fun bt310 => ((spinnakerlaw23_told.f kj98).bind fun t314 => (if t314 = true then ((event_May.f kj98 (wrap64 ((wrap64 (Int.tmod (IntKind.u64.wrap (a0)) 8)) - 1)) (rd y185 (ji4)) x190002_6).bind fun t315 => (if (t315 == false) = true then (some ((bt310.2 == 0) == false)) else (some false))) else (some false)))))) = some r := by rw [if_neg (show ¬ (false = true) by decide)] at H; exact H
                    clear H
                    have H := H1
                    clear H1
                    by_cases c143 : (wrap64 ((wrap64 (Int.tmod (IntKind.u64.wrap (a0)) 8)) - 1)) = 6
                    · rw [if_pos c143] at H
                      have c143b0 : ((wrap64 ((wrap64 (Int.tmod (IntKind.u64.wrap (a0)) 8)) - 1)) == 6) = true := beq_iff_eq.mpr c143
                      have c143b1 : ((wrap64 ((wrap64 (Int.tmod (IntKind.u64.wrap (a0)) 8)) - 1)) != 6) = false := bne_eq_false_iff_eq.mpr c143
                      clear c143
                      by_cases c144 : (rd y185 (ji4)) ≥ 1
                      · rw [if_pos c144] at H
                        have c144b0 : decide (1 ≤ (rd y185 (ji4))) = true := decide_eq_true c144
                        clear c144
                        by_cases c145 : (rd y185 (ji4)) ≤ 50
                        · rw [if_pos c145] at H
                          have c145b0 : decide ((rd y185 (ji4)) ≤ 50) = true := decide_eq_true c145
                          clear c145
                          obtain ⟨y271, hy271⟩ : ∃ y_ : List (S50), y_ = (([(⟨(wrap64 ((wrap64 (Int.tmod (IntKind.u64.wrap (a0)) 8)) - 1)), (rd y185 (ji4)), x190002_6⟩ : S50)] : List (S50))) := ⟨_, rfl⟩
                          replace H : ((event_Put.f kj98 y271).bind fun bt274 => ((spinnakerlaw23_told.f kj98).bind fun t278 => (if t278 = true then ((event_May.f kj98 (wrap64 ((wrap64 (Int.tmod (IntKind.u64.wrap (a0)) 8)) - 1)) (rd y185 (ji4)) x190002_6).bind fun t279 => (if (t279 == (!a2)) = true then (some ((bt274.2 == 0) == (!a2))) else (some false))) else (some false)))) = some r := by first | (rw [hy271]; with_reducible exact H) | (have H2_ := (Option.bind_some _ _).symm.trans H; rw [hy271]; with_reducible exact H2_) | (have H2_ := (Option.bind_some _ _).symm.trans H; with_reducible exact H2_) | with_reducible exact H | (rw [hy271]; exact H) | exact H
                          have Ny271 := Aside0.mk hy271
                          clear hy271
                          replace H := Option.bind_eq_some_iff.mp H
                          obtain ⟨⟨t274, t275⟩, A1460, H⟩ := H
                          replace H : ((spinnakerlaw23_told.f kj98).bind fun t278 => (if t278 = true then ((event_May.f kj98 (wrap64 ((wrap64 (Int.tmod (IntKind.u64.wrap (a0)) 8)) - 1)) (rd y185 (ji4)) x190002_6).bind fun t279 => (if (t279 == (!a2)) = true then (some ((t275 == 0) == (!a2))) else (some false))) else (some false))) = some r := H
                          have A146 := Aside0.mk A1460
                          clear A1460
                          replace H := Option.bind_eq_some_iff.mp H
                          obtain ⟨t278, A1470, H⟩ := H
                          replace H : (if t278 = true then ((event_May.f kj98 (wrap64 ((wrap64 (Int.tmod (IntKind.u64.wrap (a0)) 8)) - 1)) (rd y185 (ji4)) x190002_6).bind fun t279 => (if (t279 == (!a2)) = true then (some ((t275 == 0) == (!a2))) else (some false))) else (some false)) = some r := H
                          have A147 := Aside0.mk A1470
                          clear A1470
                          by_cases c148 : t278 = true
                          · subst c148
                            have H1 : ((event_May.f kj98 (wrap64 ((wrap64 (Int.tmod (IntKind.u64.wrap (a0)) 8)) - 1)) (rd y185 (ji4)) x190002_6).bind fun t279 => (if (t279 == (!a2)) = true then (some ((t275 == 0) == (!a2))) else (some false))) = some r := by rw [if_pos rfl] at H; exact H
                            clear H
                            have H := H1
                            clear H1
                            replace H := Option.bind_eq_some_iff.mp H
                            obtain ⟨t279, A1490, H⟩ := H
                            replace H : (if (t279 == (!a2)) = true then (some ((t275 == 0) == (!a2))) else (some false)) = some r := H
                            have A149 := Aside0.mk A1490
                            clear A1490
                            by_cases c150 : (t279 == (!a2)) = true
                            · rw [if_pos c150] at H
                              have c150b0 : (t279 == (!a2)) = true := c150
                              (try (have c150b1 : decide (t279 = (!a2)) = true := by simpa using c150))
                              (try (have c150b2 : (t279 == (!a2)) = true := by simpa using c150))
                              clear c150
                              obtain rfl := Option.some.inj H
                              have hcz151_0 : wc.cell? ⟨gb189, 0, none⟩ = some (.int .i64 (wrap64 ((wrap64 (Int.tmod (IntKind.u64.wrap (a0)) 8)) - 1))) := (blk_cell BK189.out 0).trans rfl
                              have hcz151_1 : wc.cell? ⟨gb189, 1, none⟩ = some (.int .i64 (rd y185 (ji4))) := (blk_cell BK189.out 1).trans rfl
                              have hcz151_2 : wc.cell? ⟨gb189, 2, none⟩ = some (.string x190002_6) := (blk_cell BK189.out 2).trans rfl
                              have hfz151_0 := blk_frozen BK189.out 0
                              have hfz151_1 := blk_frozen BK189.out 1
                              have hfz151_2 := blk_frozen BK189.out 2
                              go_wp2_with (first | ((with_reducible refine gate_dst (N := 85) rfl ?_); refine Kd.R_lit k50 _ 50 ?hg (N := 85) ?hd (xs := ([(⟨(wrap64 ((wrap64 (Int.tmod (IntKind.u64.wrap (a0)) 8)) - 1)), (rd y185 (ji4)), x190002_6⟩ : S50)] : List (S50))) (inner := [.int .i64 (wrap64 ((wrap64 (Int.tmod (IntKind.u64.wrap (a0)) 8)) - 1)), .int .i64 (rd y185 (ji4)), .string x190002_6]) (ok := fun _ => True) (okp := fun _ => True) ?hr ?hp (fun _ hk => hk) trivial (Below.refl _ _) (Nat.le_refl _) (by simp) ?_; (case hd => rfl); (case hg => rfl); (case hr => first | (go_simp; done) | (go_simp; rfl)); (case hp => exact (Reps.c3 (show Kd.M k50 _ _ _ (⟨(wrap64 ((wrap64 (Int.tmod (IntKind.u64.wrap (a0)) 8)) - 1)), (rd y185 (ji4)), x190002_6⟩ : S50) [.int .i64 (wrap64 ((wrap64 (Int.tmod (IntKind.u64.wrap (a0)) 8)) - 1)), .int .i64 (rd y185 (ji4)), .string x190002_6] from (k50_mkM _ _ _ (⟨(wrap64 ((wrap64 (Int.tmod (IntKind.u64.wrap (a0)) 8)) - 1)), (rd y185 (ji4)), x190002_6⟩ : S50) )) (Reps.none _ _))); intro v272 w152 ho153 hb hg_ hnew_; clear hg_ hnew_; (first | rw [← Ny271.out] at ho153 | (simp only [Int.reduceToNat] at ho153; rw [← Ny271.out] at ho153)); have n0_ := Aside0.mk (Kd.R_lower (Kd.R_newB ho153 (g := gb189) (o := .cells #[.int .i64 (wrap64 ((wrap64 (Int.tmod (IntKind.u64.wrap (a0)) 8)) - 1)), .int .i64 (rd y185 (ji4)), .string x190002_6] 50 (0, 0)) (by (with_reducible repeat (first | refine blk_drewN ?_ _ | refine blk_drew ?_ | refine blk_alloc ?_ _)); exact BK189.out)) (below_size (by repeat (first | (with_reducible first | exact HB.out | apply below_alloc | apply pw_below_drewN | apply below_drew1 | refine below_set ?_ GE189.out) | exact HB.out)))); have n1_ := Aside0.mk (blk_below (g := gb189) (o := .cells #[.int .i64 (wrap64 ((wrap64 (Int.tmod (IntKind.u64.wrap (a0)) 8)) - 1)), .int .i64 (rd y185 (ji4)), .string x190002_6] 50 (0, 0)) (by (with_reducible repeat (first | refine blk_drewN ?_ _ | refine blk_drew ?_ | refine blk_alloc ?_ _)); exact BK189.out) hb); have n2_ := Aside0.mk (below_step (by repeat (first | (with_reducible first | exact HB.out | apply below_alloc | apply pw_below_drewN | apply below_drew1 | refine below_set ?_ GE189.out) | exact HB.out)) hb); clear BK189; clear HB; have HO273 := n0_; have BK189 := n1_; have HB := n2_; clear n0_ n1_ n2_; clear hb ho153; obtain ⟨Ao154, co154, eo154⟩ := Kd.R_slice HO273.out; subst eo154) | ((with_reducible refine gate_callee (f := 37) rfl ?_); refine goesL_ (some 86) rfl rfl Try.func37 (by kernel_rfl) rfl #[.slice Ao154 y271.length co154] rfl (by (try simp only [List.map_toArray, List.map_cons, List.map_nil]); first | done | rfl | (simp only [List.length_drop, List.length_take]; rfl)) ?_; (with_reducible refine (event_Put.calls kj98 _ _ y271 t274 t275 _ ?side1 ?side2 A146.out).mono ?_); (case side1 => repeat (first | exact (Kd.R_reads' HO273.out).2.2 | (with_reducible refine Kd.C_alloc ?_ _) | (with_reducible refine Kd.C_drewN ?_ _) | (with_reducible refine Kd.C_drew ?_))); (case side2 => exact (Kd.R_reads' HO273.out).2.1); rintro e w155 ⟨v276, rfl, ho0, hb⟩; refine ⟨_, rfl, ?_⟩; have n0_ := Aside0.mk (Kd.R_below (by (with_reducible repeat (first | apply Kd.R_alloc | apply Kd.R_drewN | apply Kd.R_drew)); exact HO273.out) hb); have n1_ := Aside0.mk (Kd.R_lower ho0 (below_size (by repeat (first | (with_reducible first | exact HB.out | apply below_alloc | apply pw_below_drewN | apply below_drew1 | refine below_set ?_ GE189.out) | exact HB.out)))); have n2_ := Aside0.mk (blk_below (g := gb189) (o := .cells #[.int .i64 (wrap64 ((wrap64 (Int.tmod (IntKind.u64.wrap (a0)) 8)) - 1)), .int .i64 (rd y185 (ji4)), .string x190002_6] 50 (0, 0)) (by (with_reducible repeat (first | refine blk_drewN ?_ _ | refine blk_drew ?_ | refine blk_alloc ?_ _)); exact BK189.out) hb); have n3_ := Aside0.mk (below_step (by repeat (first | (with_reducible first | exact HB.out | apply below_alloc | apply pw_below_drewN | apply below_drew1 | refine below_set ?_ GE189.out) | exact HB.out)) hb); clear HO273; clear BK189; clear HB; have HO273 := n0_; have HO277 := n1_; have BK189 := n2_; have HB := n3_; clear n0_ n1_ n2_ n3_; (try clear hb); (try clear hb2); (try clear hk); (try clear hi); (try clear ho0)) | ((with_reducible refine gate_callee (f := 38) rfl ?_); refine goesL_ (some 89) rfl rfl Try.func38 (by kernel_rfl) rfl #[] rfl (by (try simp only [List.map_toArray, List.map_cons, List.map_nil]); first | done | rfl | (simp only [List.length_drop, List.length_take]; rfl)) ?_; (with_reducible refine (spinnakerlaw23_told.calls kj98  true _ A147.out).mono ?_); rintro e w156 ⟨rfl, hb⟩; refine ⟨_, rfl, ?_⟩; have n0_ := Aside0.mk (Kd.R_below (by (with_reducible repeat (first | apply Kd.R_alloc | apply Kd.R_drewN | apply Kd.R_drew)); exact HO273.out) hb); have n1_ := Aside0.mk (Kd.R_below (by (with_reducible repeat (first | apply Kd.R_alloc | apply Kd.R_drewN | apply Kd.R_drew)); exact HO277.out) hb); have n2_ := Aside0.mk (blk_below (g := gb189) (o := .cells #[.int .i64 (wrap64 ((wrap64 (Int.tmod (IntKind.u64.wrap (a0)) 8)) - 1)), .int .i64 (rd y185 (ji4)), .string x190002_6] 50 (0, 0)) (by (with_reducible repeat (first | refine blk_drewN ?_ _ | refine blk_drew ?_ | refine blk_alloc ?_ _)); exact BK189.out) hb); have n3_ := Aside0.mk (below_step (by repeat (first | (with_reducible first | exact HB.out | apply below_alloc | apply pw_below_drewN | apply below_drew1 | refine below_set ?_ GE189.out) | exact HB.out)) hb); clear HO273; clear HO277; clear BK189; clear HB; have HO273 := n0_; have HO277 := n1_; have BK189 := n2_; have HB := n3_; clear n0_ n1_ n2_ n3_; (try clear hb); (try clear hb2); (try clear hk); (try clear hi); have hcz157_0 : w156.cell? ⟨gb189, 0, none⟩ = some (.int .i64 (wrap64 ((wrap64 (Int.tmod (IntKind.u64.wrap (a0)) 8)) - 1))) := (blk_cell BK189.out 0).trans rfl; have hcz157_1 : w156.cell? ⟨gb189, 1, none⟩ = some (.int .i64 (rd y185 (ji4))) := (blk_cell BK189.out 1).trans rfl; have hcz157_2 : w156.cell? ⟨gb189, 2, none⟩ = some (.string x190002_6) := (blk_cell BK189.out 2).trans rfl; have hfz157_0 := blk_frozen BK189.out 0; have hfz157_1 := blk_frozen BK189.out 1; have hfz157_2 := blk_frozen BK189.out 2) | (go_at_call 39; (with_reducible refine (event_May.calls kj98 (wrap64 ((wrap64 (Int.tmod (IntKind.u64.wrap (a0)) 8)) - 1)) (rd y185 (ji4)) x190002_6 t279 _ A149.out).mono ?_); rintro e w158 ⟨rfl, hb⟩; have n0_ := Aside0.mk (Kd.R_below (by (with_reducible repeat (first | apply Kd.R_alloc | apply Kd.R_drewN | apply Kd.R_drew)); exact HO273.out) hb); have n1_ := Aside0.mk (Kd.R_below (by (with_reducible repeat (first | apply Kd.R_alloc | apply Kd.R_drewN | apply Kd.R_drew)); exact HO277.out) hb); have n2_ := Aside0.mk (blk_below (g := gb189) (o := .cells #[.int .i64 (wrap64 ((wrap64 (Int.tmod (IntKind.u64.wrap (a0)) 8)) - 1)), .int .i64 (rd y185 (ji4)), .string x190002_6] 50 (0, 0)) (by (with_reducible repeat (first | refine blk_drewN ?_ _ | refine blk_drew ?_ | refine blk_alloc ?_ _)); exact BK189.out) hb); have n3_ := Aside0.mk (below_step (by repeat (first | (with_reducible first | exact HB.out | apply below_alloc | apply pw_below_drewN | apply below_drew1 | refine below_set ?_ GE189.out) | exact HB.out)) hb); clear HO273; clear HO277; clear BK189; clear HB; have HO273 := n0_; have HO277 := n1_; have BK189 := n2_; have HB := n3_; clear n0_ n1_ n2_ n3_; (try clear hb); (try clear hb2); (try clear hk); (try clear hi)))
                              go_ret
                              exact ⟨by first | rfl | (simp only [tdiv_top]; rfl) | (simp [errW_none, errW_some] <;> rfl) | (simp only [← hji4]; first | rfl | (simp [errW_none, errW_some] <;> rfl)) | (simp [*, errW_none, errW_some] <;> rfl), by repeat (first | (with_reducible first | exact HB.out | apply below_alloc | apply pw_below_drewN | apply below_drew1 | refine below_set ?_ GE189.out) | exact HB.out)⟩
                            · rw [if_neg c150] at H
                              have c150b0 : (t279 == (!a2)) = false := by simpa using c150
                              (try (have c150b1 : decide (t279 = (!a2)) = false := by simpa using c150))
                              (try (have c150b2 : (t279 == (!a2)) = false := by simpa using c150))
                              (try (have c150b3 : ¬ (t279 = (!a2)) := by simpa using c150))
                              clear c150
                              rw [hrt.out] at H
                              exact absurd H (by simp)
                          · replace c148 := Bool.eq_false_iff.mpr c148
                            subst c148
                            have H1 : (some false) = some r := by rw [if_neg (show ¬ (false = true) by decide)] at H; exact H
                            clear H
                            have H := H1
                            clear H1
                            rw [hrt.out] at H
                            exact absurd H (by simp)
                        · rw [if_neg c145] at H
                          have c145b0 : decide ((rd y185 (ji4)) ≤ 50) = false := decide_eq_false c145
                          clear c145
                          obtain ⟨y280, hy280⟩ : ∃ y_ : List (S50), y_ = (([(⟨(wrap64 ((wrap64 (Int.tmod (IntKind.u64.wrap (a0)) 8)) - 1)), (rd y185 (ji4)), x190002_6⟩ : S50)] : List (S50))) := ⟨_, rfl⟩
                          replace H : ((event_Put.f kj98 y280).bind fun bt283 => ((spinnakerlaw23_told.f kj98).bind fun t287 => (if t287 = true then ((event_May.f kj98 (wrap64 ((wrap64 (Int.tmod (IntKind.u64.wrap (a0)) 8)) - 1)) (rd y185 (ji4)) x190002_6).bind fun t288 => (if (t288 == false) = true then (some ((bt283.2 == 0) == false)) else (some false))) else (some false)))) = some r := by first | (rw [hy280]; with_reducible exact H) | (have H2_ := (Option.bind_some _ _).symm.trans H; rw [hy280]; with_reducible exact H2_) | (have H2_ := (Option.bind_some _ _).symm.trans H; with_reducible exact H2_) | with_reducible exact H | (rw [hy280]; exact H) | exact H
                          have Ny280 := Aside0.mk hy280
                          clear hy280
                          replace H := Option.bind_eq_some_iff.mp H
                          obtain ⟨⟨t283, t284⟩, A1590, H⟩ := H
                          replace H : ((spinnakerlaw23_told.f kj98).bind fun t287 => (if t287 = true then ((event_May.f kj98 (wrap64 ((wrap64 (Int.tmod (IntKind.u64.wrap (a0)) 8)) - 1)) (rd y185 (ji4)) x190002_6).bind fun t288 => (if (t288 == false) = true then (some ((t284 == 0) == false)) else (some false))) else (some false))) = some r := H
                          have A159 := Aside0.mk A1590
                          clear A1590
                          replace H := Option.bind_eq_some_iff.mp H
                          obtain ⟨t287, A1600, H⟩ := H
                          replace H : (if t287 = true then ((event_May.f kj98 (wrap64 ((wrap64 (Int.tmod (IntKind.u64.wrap (a0)) 8)) - 1)) (rd y185 (ji4)) x190002_6).bind fun t288 => (if (t288 == false) = true then (some ((t284 == 0) == false)) else (some false))) else (some false)) = some r := H
                          have A160 := Aside0.mk A1600
                          clear A1600
                          by_cases c161 : t287 = true
                          · subst c161
                            have H1 : ((event_May.f kj98 (wrap64 ((wrap64 (Int.tmod (IntKind.u64.wrap (a0)) 8)) - 1)) (rd y185 (ji4)) x190002_6).bind fun t288 => (if (t288 == false) = true then (some ((t284 == 0) == false)) else (some false))) = some r := by rw [if_pos rfl] at H; exact H
                            clear H
                            have H := H1
                            clear H1
                            replace H := Option.bind_eq_some_iff.mp H
                            obtain ⟨t288, A1620, H⟩ := H
                            replace H : (if (t288 == false) = true then (some ((t284 == 0) == false)) else (some false)) = some r := H
                            have A162 := Aside0.mk A1620
                            clear A1620
                            by_cases c163 : (t288 == false) = true
                            · rw [if_pos c163] at H
                              have c163b0 : (t288 == false) = true := c163
                              (try (have c163b1 : decide (t288 = false) = true := by simpa using c163))
                              (try (have c163b2 : (t288 == false) = true := by simpa using c163))
                              clear c163
                              obtain rfl := Option.some.inj H
                              have hcz164_0 : wc.cell? ⟨gb189, 0, none⟩ = some (.int .i64 (wrap64 ((wrap64 (Int.tmod (IntKind.u64.wrap (a0)) 8)) - 1))) := (blk_cell BK189.out 0).trans rfl
                              have hcz164_1 : wc.cell? ⟨gb189, 1, none⟩ = some (.int .i64 (rd y185 (ji4))) := (blk_cell BK189.out 1).trans rfl
                              have hcz164_2 : wc.cell? ⟨gb189, 2, none⟩ = some (.string x190002_6) := (blk_cell BK189.out 2).trans rfl
                              have hfz164_0 := blk_frozen BK189.out 0
                              have hfz164_1 := blk_frozen BK189.out 1
                              have hfz164_2 := blk_frozen BK189.out 2
                              go_wp2_with (first | ((with_reducible refine gate_dst (N := 85) rfl ?_); refine Kd.R_lit k50 _ 50 ?hg (N := 85) ?hd (xs := ([(⟨(wrap64 ((wrap64 (Int.tmod (IntKind.u64.wrap (a0)) 8)) - 1)), (rd y185 (ji4)), x190002_6⟩ : S50)] : List (S50))) (inner := [.int .i64 (wrap64 ((wrap64 (Int.tmod (IntKind.u64.wrap (a0)) 8)) - 1)), .int .i64 (rd y185 (ji4)), .string x190002_6]) (ok := fun _ => True) (okp := fun _ => True) ?hr ?hp (fun _ hk => hk) trivial (Below.refl _ _) (Nat.le_refl _) (by simp) ?_; (case hd => rfl); (case hg => rfl); (case hr => first | (go_simp; done) | (go_simp; rfl)); (case hp => exact (Reps.c3 (show Kd.M k50 _ _ _ (⟨(wrap64 ((wrap64 (Int.tmod (IntKind.u64.wrap (a0)) 8)) - 1)), (rd y185 (ji4)), x190002_6⟩ : S50) [.int .i64 (wrap64 ((wrap64 (Int.tmod (IntKind.u64.wrap (a0)) 8)) - 1)), .int .i64 (rd y185 (ji4)), .string x190002_6] from (k50_mkM _ _ _ (⟨(wrap64 ((wrap64 (Int.tmod (IntKind.u64.wrap (a0)) 8)) - 1)), (rd y185 (ji4)), x190002_6⟩ : S50) )) (Reps.none _ _))); intro v281 w165 ho166 hb hg_ hnew_; clear hg_ hnew_; (first | rw [← Ny280.out] at ho166 | (simp only [Int.reduceToNat] at ho166; rw [← Ny280.out] at ho166)); have n0_ := Aside0.mk (Kd.R_lower (Kd.R_newB ho166 (g := gb189) (o := .cells #[.int .i64 (wrap64 ((wrap64 (Int.tmod (IntKind.u64.wrap (a0)) 8)) - 1)), .int .i64 (rd y185 (ji4)), .string x190002_6] 50 (0, 0)) (by (with_reducible repeat (first | refine blk_drewN ?_ _ | refine blk_drew ?_ | refine blk_alloc ?_ _)); exact BK189.out)) (below_size (by repeat (first | (with_reducible first | exact HB.out | apply below_alloc | apply pw_below_drewN | apply below_drew1 | refine below_set ?_ GE189.out) | exact HB.out)))); have n1_ := Aside0.mk (blk_below (g := gb189) (o := .cells #[.int .i64 (wrap64 ((wrap64 (Int.tmod (IntKind.u64.wrap (a0)) 8)) - 1)), .int .i64 (rd y185 (ji4)), .string x190002_6] 50 (0, 0)) (by (with_reducible repeat (first | refine blk_drewN ?_ _ | refine blk_drew ?_ | refine blk_alloc ?_ _)); exact BK189.out) hb); have n2_ := Aside0.mk (below_step (by repeat (first | (with_reducible first | exact HB.out | apply below_alloc | apply pw_below_drewN | apply below_drew1 | refine below_set ?_ GE189.out) | exact HB.out)) hb); clear BK189; clear HB; have HO282 := n0_; have BK189 := n1_; have HB := n2_; clear n0_ n1_ n2_; clear hb ho166; obtain ⟨Ao167, co167, eo167⟩ := Kd.R_slice HO282.out; subst eo167) | ((with_reducible refine gate_callee (f := 37) rfl ?_); refine goesL_ (some 86) rfl rfl Try.func37 (by kernel_rfl) rfl #[.slice Ao167 y280.length co167] rfl (by (try simp only [List.map_toArray, List.map_cons, List.map_nil]); first | done | rfl | (simp only [List.length_drop, List.length_take]; rfl)) ?_; (with_reducible refine (event_Put.calls kj98 _ _ y280 t283 t284 _ ?side1 ?side2 A159.out).mono ?_); (case side1 => repeat (first | exact (Kd.R_reads' HO282.out).2.2 | (with_reducible refine Kd.C_alloc ?_ _) | (with_reducible refine Kd.C_drewN ?_ _) | (with_reducible refine Kd.C_drew ?_))); (case side2 => exact (Kd.R_reads' HO282.out).2.1); rintro e w168 ⟨v285, rfl, ho0, hb⟩; refine ⟨_, rfl, ?_⟩; have n0_ := Aside0.mk (Kd.R_below (by (with_reducible repeat (first | apply Kd.R_alloc | apply Kd.R_drewN | apply Kd.R_drew)); exact HO282.out) hb); have n1_ := Aside0.mk (Kd.R_lower ho0 (below_size (by repeat (first | (with_reducible first | exact HB.out | apply below_alloc | apply pw_below_drewN | apply below_drew1 | refine below_set ?_ GE189.out) | exact HB.out)))); have n2_ := Aside0.mk (blk_below (g := gb189) (o := .cells #[.int .i64 (wrap64 ((wrap64 (Int.tmod (IntKind.u64.wrap (a0)) 8)) - 1)), .int .i64 (rd y185 (ji4)), .string x190002_6] 50 (0, 0)) (by (with_reducible repeat (first | refine blk_drewN ?_ _ | refine blk_drew ?_ | refine blk_alloc ?_ _)); exact BK189.out) hb); have n3_ := Aside0.mk (below_step (by repeat (first | (with_reducible first | exact HB.out | apply below_alloc | apply pw_below_drewN | apply below_drew1 | refine below_set ?_ GE189.out) | exact HB.out)) hb); clear HO282; clear BK189; clear HB; have HO282 := n0_; have HO286 := n1_; have BK189 := n2_; have HB := n3_; clear n0_ n1_ n2_ n3_; (try clear hb); (try clear hb2); (try clear hk); (try clear hi); (try clear ho0)) | ((with_reducible refine gate_callee (f := 38) rfl ?_); refine goesL_ (some 89) rfl rfl Try.func38 (by kernel_rfl) rfl #[] rfl (by (try simp only [List.map_toArray, List.map_cons, List.map_nil]); first | done | rfl | (simp only [List.length_drop, List.length_take]; rfl)) ?_; (with_reducible refine (spinnakerlaw23_told.calls kj98  true _ A160.out).mono ?_); rintro e w169 ⟨rfl, hb⟩; refine ⟨_, rfl, ?_⟩; have n0_ := Aside0.mk (Kd.R_below (by (with_reducible repeat (first | apply Kd.R_alloc | apply Kd.R_drewN | apply Kd.R_drew)); exact HO282.out) hb); have n1_ := Aside0.mk (Kd.R_below (by (with_reducible repeat (first | apply Kd.R_alloc | apply Kd.R_drewN | apply Kd.R_drew)); exact HO286.out) hb); have n2_ := Aside0.mk (blk_below (g := gb189) (o := .cells #[.int .i64 (wrap64 ((wrap64 (Int.tmod (IntKind.u64.wrap (a0)) 8)) - 1)), .int .i64 (rd y185 (ji4)), .string x190002_6] 50 (0, 0)) (by (with_reducible repeat (first | refine blk_drewN ?_ _ | refine blk_drew ?_ | refine blk_alloc ?_ _)); exact BK189.out) hb); have n3_ := Aside0.mk (below_step (by repeat (first | (with_reducible first | exact HB.out | apply below_alloc | apply pw_below_drewN | apply below_drew1 | refine below_set ?_ GE189.out) | exact HB.out)) hb); clear HO282; clear HO286; clear BK189; clear HB; have HO282 := n0_; have HO286 := n1_; have BK189 := n2_; have HB := n3_; clear n0_ n1_ n2_ n3_; (try clear hb); (try clear hb2); (try clear hk); (try clear hi); have hcz170_0 : w169.cell? ⟨gb189, 0, none⟩ = some (.int .i64 (wrap64 ((wrap64 (Int.tmod (IntKind.u64.wrap (a0)) 8)) - 1))) := (blk_cell BK189.out 0).trans rfl; have hcz170_1 : w169.cell? ⟨gb189, 1, none⟩ = some (.int .i64 (rd y185 (ji4))) := (blk_cell BK189.out 1).trans rfl; have hcz170_2 : w169.cell? ⟨gb189, 2, none⟩ = some (.string x190002_6) := (blk_cell BK189.out 2).trans rfl; have hfz170_0 := blk_frozen BK189.out 0; have hfz170_1 := blk_frozen BK189.out 1; have hfz170_2 := blk_frozen BK189.out 2) | (go_at_call 39; (with_reducible refine (event_May.calls kj98 (wrap64 ((wrap64 (Int.tmod (IntKind.u64.wrap (a0)) 8)) - 1)) (rd y185 (ji4)) x190002_6 t288 _ A162.out).mono ?_); rintro e w171 ⟨rfl, hb⟩; have n0_ := Aside0.mk (Kd.R_below (by (with_reducible repeat (first | apply Kd.R_alloc | apply Kd.R_drewN | apply Kd.R_drew)); exact HO282.out) hb); have n1_ := Aside0.mk (Kd.R_below (by (with_reducible repeat (first | apply Kd.R_alloc | apply Kd.R_drewN | apply Kd.R_drew)); exact HO286.out) hb); have n2_ := Aside0.mk (blk_below (g := gb189) (o := .cells #[.int .i64 (wrap64 ((wrap64 (Int.tmod (IntKind.u64.wrap (a0)) 8)) - 1)), .int .i64 (rd y185 (ji4)), .string x190002_6] 50 (0, 0)) (by (with_reducible repeat (first | refine blk_drewN ?_ _ | refine blk_drew ?_ | refine blk_alloc ?_ _)); exact BK189.out) hb); have n3_ := Aside0.mk (below_step (by repeat (first | (with_reducible first | exact HB.out | apply below_alloc | apply pw_below_drewN | apply below_drew1 | refine below_set ?_ GE189.out) | exact HB.out)) hb); clear HO282; clear HO286; clear BK189; clear HB; have HO282 := n0_; have HO286 := n1_; have BK189 := n2_; have HB := n3_; clear n0_ n1_ n2_ n3_; (try clear hb); (try clear hb2); (try clear hk); (try clear hi)))
                              go_ret
                              exact ⟨by first | rfl | (simp only [tdiv_top]; rfl) | (simp [errW_none, errW_some] <;> rfl) | (simp only [← hji4]; first | rfl | (simp [errW_none, errW_some] <;> rfl)) | (simp [*, errW_none, errW_some] <;> rfl), by repeat (first | (with_reducible first | exact HB.out | apply below_alloc | apply pw_below_drewN | apply below_drew1 | refine below_set ?_ GE189.out) | exact HB.out)⟩
                            · rw [if_neg c163] at H
                              have c163b0 : (t288 == false) = false := by simpa using c163
                              (try (have c163b1 : decide (t288 = false) = false := by simpa using c163))
                              (try (have c163b2 : (t288 == false) = false := by simpa using c163))
                              (try (have c163b3 : ¬ (t288 = false) := by simpa using c163))
                              clear c163
                              rw [hrt.out] at H
                              exact absurd H (by simp)
                          · replace c161 := Bool.eq_false_iff.mpr c161
                            subst c161
                            have H1 : (some false) = some r := by rw [if_neg (show ¬ (false = true) by decide)] at H; exact H
                            clear H
                            have H := H1
                            clear H1
                            rw [hrt.out] at H
                            exact absurd H (by simp)
                      · rw [if_neg c144] at H
                        have c144b0 : decide (1 ≤ (rd y185 (ji4))) = false := decide_eq_false c144
                        clear c144
                        obtain ⟨y289, hy289⟩ : ∃ y_ : List (S50), y_ = (([(⟨(wrap64 ((wrap64 (Int.tmod (IntKind.u64.wrap (a0)) 8)) - 1)), (rd y185 (ji4)), x190002_6⟩ : S50)] : List (S50))) := ⟨_, rfl⟩
                        replace H : ((event_Put.f kj98 y289).bind fun bt292 => ((spinnakerlaw23_told.f kj98).bind fun t296 => (if t296 = true then ((event_May.f kj98 (wrap64 ((wrap64 (Int.tmod (IntKind.u64.wrap (a0)) 8)) - 1)) (rd y185 (ji4)) x190002_6).bind fun t297 => (if (t297 == false) = true then (some ((bt292.2 == 0) == false)) else (some false))) else (some false)))) = some r := by first | (rw [hy289]; with_reducible exact H) | (have H2_ := (Option.bind_some _ _).symm.trans H; rw [hy289]; with_reducible exact H2_) | (have H2_ := (Option.bind_some _ _).symm.trans H; with_reducible exact H2_) | with_reducible exact H | (rw [hy289]; exact H) | exact H
                        have Ny289 := Aside0.mk hy289
                        clear hy289
                        replace H := Option.bind_eq_some_iff.mp H
                        obtain ⟨⟨t292, t293⟩, A1720, H⟩ := H
                        replace H : ((spinnakerlaw23_told.f kj98).bind fun t296 => (if t296 = true then ((event_May.f kj98 (wrap64 ((wrap64 (Int.tmod (IntKind.u64.wrap (a0)) 8)) - 1)) (rd y185 (ji4)) x190002_6).bind fun t297 => (if (t297 == false) = true then (some ((t293 == 0) == false)) else (some false))) else (some false))) = some r := H
                        have A172 := Aside0.mk A1720
                        clear A1720
                        replace H := Option.bind_eq_some_iff.mp H
                        obtain ⟨t296, A1730, H⟩ := H
                        replace H : (if t296 = true then ((event_May.f kj98 (wrap64 ((wrap64 (Int.tmod (IntKind.u64.wrap (a0)) 8)) - 1)) (rd y185 (ji4)) x190002_6).bind fun t297 => (if (t297 == false) = true then (some ((t293 == 0) == false)) else (some false))) else (some false)) = some r := H
                        have A173 := Aside0.mk A1730
                        clear A1730
                        by_cases c174 : t296 = true
                        · subst c174
                          have H1 : ((event_May.f kj98 (wrap64 ((wrap64 (Int.tmod (IntKind.u64.wrap (a0)) 8)) - 1)) (rd y185 (ji4)) x190002_6).bind fun t297 => (if (t297 == false) = true then (some ((t293 == 0) == false)) else (some false))) = some r := by rw [if_pos rfl] at H; exact H
                          clear H
                          have H := H1
                          clear H1
                          replace H := Option.bind_eq_some_iff.mp H
                          obtain ⟨t297, A1750, H⟩ := H
                          replace H : (if (t297 == false) = true then (some ((t293 == 0) == false)) else (some false)) = some r := H
                          have A175 := Aside0.mk A1750
                          clear A1750
                          by_cases c176 : (t297 == false) = true
                          · rw [if_pos c176] at H
                            have c176b0 : (t297 == false) = true := c176
                            (try (have c176b1 : decide (t297 = false) = true := by simpa using c176))
                            (try (have c176b2 : (t297 == false) = true := by simpa using c176))
                            clear c176
                            obtain rfl := Option.some.inj H
                            have hcz177_0 : wc.cell? ⟨gb189, 0, none⟩ = some (.int .i64 (wrap64 ((wrap64 (Int.tmod (IntKind.u64.wrap (a0)) 8)) - 1))) := (blk_cell BK189.out 0).trans rfl
                            have hcz177_1 : wc.cell? ⟨gb189, 1, none⟩ = some (.int .i64 (rd y185 (ji4))) := (blk_cell BK189.out 1).trans rfl
                            have hcz177_2 : wc.cell? ⟨gb189, 2, none⟩ = some (.string x190002_6) := (blk_cell BK189.out 2).trans rfl
                            have hfz177_0 := blk_frozen BK189.out 0
                            have hfz177_1 := blk_frozen BK189.out 1
                            have hfz177_2 := blk_frozen BK189.out 2
                            go_wp2_with (first | ((with_reducible refine gate_dst (N := 85) rfl ?_); refine Kd.R_lit k50 _ 50 ?hg (N := 85) ?hd (xs := ([(⟨(wrap64 ((wrap64 (Int.tmod (IntKind.u64.wrap (a0)) 8)) - 1)), (rd y185 (ji4)), x190002_6⟩ : S50)] : List (S50))) (inner := [.int .i64 (wrap64 ((wrap64 (Int.tmod (IntKind.u64.wrap (a0)) 8)) - 1)), .int .i64 (rd y185 (ji4)), .string x190002_6]) (ok := fun _ => True) (okp := fun _ => True) ?hr ?hp (fun _ hk => hk) trivial (Below.refl _ _) (Nat.le_refl _) (by simp) ?_; (case hd => rfl); (case hg => rfl); (case hr => first | (go_simp; done) | (go_simp; rfl)); (case hp => exact (Reps.c3 (show Kd.M k50 _ _ _ (⟨(wrap64 ((wrap64 (Int.tmod (IntKind.u64.wrap (a0)) 8)) - 1)), (rd y185 (ji4)), x190002_6⟩ : S50) [.int .i64 (wrap64 ((wrap64 (Int.tmod (IntKind.u64.wrap (a0)) 8)) - 1)), .int .i64 (rd y185 (ji4)), .string x190002_6] from (k50_mkM _ _ _ (⟨(wrap64 ((wrap64 (Int.tmod (IntKind.u64.wrap (a0)) 8)) - 1)), (rd y185 (ji4)), x190002_6⟩ : S50) )) (Reps.none _ _))); intro v290 w178 ho179 hb hg_ hnew_; clear hg_ hnew_; (first | rw [← Ny289.out] at ho179 | (simp only [Int.reduceToNat] at ho179; rw [← Ny289.out] at ho179)); have n0_ := Aside0.mk (Kd.R_lower (Kd.R_newB ho179 (g := gb189) (o := .cells #[.int .i64 (wrap64 ((wrap64 (Int.tmod (IntKind.u64.wrap (a0)) 8)) - 1)), .int .i64 (rd y185 (ji4)), .string x190002_6] 50 (0, 0)) (by (with_reducible repeat (first | refine blk_drewN ?_ _ | refine blk_drew ?_ | refine blk_alloc ?_ _)); exact BK189.out)) (below_size (by repeat (first | (with_reducible first | exact HB.out | apply below_alloc | apply pw_below_drewN | apply below_drew1 | refine below_set ?_ GE189.out) | exact HB.out)))); have n1_ := Aside0.mk (blk_below (g := gb189) (o := .cells #[.int .i64 (wrap64 ((wrap64 (Int.tmod (IntKind.u64.wrap (a0)) 8)) - 1)), .int .i64 (rd y185 (ji4)), .string x190002_6] 50 (0, 0)) (by (with_reducible repeat (first | refine blk_drewN ?_ _ | refine blk_drew ?_ | refine blk_alloc ?_ _)); exact BK189.out) hb); have n2_ := Aside0.mk (below_step (by repeat (first | (with_reducible first | exact HB.out | apply below_alloc | apply pw_below_drewN | apply below_drew1 | refine below_set ?_ GE189.out) | exact HB.out)) hb); clear BK189; clear HB; have HO291 := n0_; have BK189 := n1_; have HB := n2_; clear n0_ n1_ n2_; clear hb ho179; obtain ⟨Ao180, co180, eo180⟩ := Kd.R_slice HO291.out; subst eo180) | ((with_reducible refine gate_callee (f := 37) rfl ?_); refine goesL_ (some 86) rfl rfl Try.func37 (by kernel_rfl) rfl #[.slice Ao180 y289.length co180] rfl (by (try simp only [List.map_toArray, List.map_cons, List.map_nil]); first | done | rfl | (simp only [List.length_drop, List.length_take]; rfl)) ?_; (with_reducible refine (event_Put.calls kj98 _ _ y289 t292 t293 _ ?side1 ?side2 A172.out).mono ?_); (case side1 => repeat (first | exact (Kd.R_reads' HO291.out).2.2 | (with_reducible refine Kd.C_alloc ?_ _) | (with_reducible refine Kd.C_drewN ?_ _) | (with_reducible refine Kd.C_drew ?_))); (case side2 => exact (Kd.R_reads' HO291.out).2.1); rintro e w181 ⟨v294, rfl, ho0, hb⟩; refine ⟨_, rfl, ?_⟩; have n0_ := Aside0.mk (Kd.R_below (by (with_reducible repeat (first | apply Kd.R_alloc | apply Kd.R_drewN | apply Kd.R_drew)); exact HO291.out) hb); have n1_ := Aside0.mk (Kd.R_lower ho0 (below_size (by repeat (first | (with_reducible first | exact HB.out | apply below_alloc | apply pw_below_drewN | apply below_drew1 | refine below_set ?_ GE189.out) | exact HB.out)))); have n2_ := Aside0.mk (blk_below (g := gb189) (o := .cells #[.int .i64 (wrap64 ((wrap64 (Int.tmod (IntKind.u64.wrap (a0)) 8)) - 1)), .int .i64 (rd y185 (ji4)), .string x190002_6] 50 (0, 0)) (by (with_reducible repeat (first | refine blk_drewN ?_ _ | refine blk_drew ?_ | refine blk_alloc ?_ _)); exact BK189.out) hb); have n3_ := Aside0.mk (below_step (by repeat (first | (with_reducible first | exact HB.out | apply below_alloc | apply pw_below_drewN | apply below_drew1 | refine below_set ?_ GE189.out) | exact HB.out)) hb); clear HO291; clear BK189; clear HB; have HO291 := n0_; have HO295 := n1_; have BK189 := n2_; have HB := n3_; clear n0_ n1_ n2_ n3_; (try clear hb); (try clear hb2); (try clear hk); (try clear hi); (try clear ho0)) | ((with_reducible refine gate_callee (f := 38) rfl ?_); refine goesL_ (some 89) rfl rfl Try.func38 (by kernel_rfl) rfl #[] rfl (by (try simp only [List.map_toArray, List.map_cons, List.map_nil]); first | done | rfl | (simp only [List.length_drop, List.length_take]; rfl)) ?_; (with_reducible refine (spinnakerlaw23_told.calls kj98  true _ A173.out).mono ?_); rintro e w182 ⟨rfl, hb⟩; refine ⟨_, rfl, ?_⟩; have n0_ := Aside0.mk (Kd.R_below (by (with_reducible repeat (first | apply Kd.R_alloc | apply Kd.R_drewN | apply Kd.R_drew)); exact HO291.out) hb); have n1_ := Aside0.mk (Kd.R_below (by (with_reducible repeat (first | apply Kd.R_alloc | apply Kd.R_drewN | apply Kd.R_drew)); exact HO295.out) hb); have n2_ := Aside0.mk (blk_below (g := gb189) (o := .cells #[.int .i64 (wrap64 ((wrap64 (Int.tmod (IntKind.u64.wrap (a0)) 8)) - 1)), .int .i64 (rd y185 (ji4)), .string x190002_6] 50 (0, 0)) (by (with_reducible repeat (first | refine blk_drewN ?_ _ | refine blk_drew ?_ | refine blk_alloc ?_ _)); exact BK189.out) hb); have n3_ := Aside0.mk (below_step (by repeat (first | (with_reducible first | exact HB.out | apply below_alloc | apply pw_below_drewN | apply below_drew1 | refine below_set ?_ GE189.out) | exact HB.out)) hb); clear HO291; clear HO295; clear BK189; clear HB; have HO291 := n0_; have HO295 := n1_; have BK189 := n2_; have HB := n3_; clear n0_ n1_ n2_ n3_; (try clear hb); (try clear hb2); (try clear hk); (try clear hi); have hcz183_0 : w182.cell? ⟨gb189, 0, none⟩ = some (.int .i64 (wrap64 ((wrap64 (Int.tmod (IntKind.u64.wrap (a0)) 8)) - 1))) := (blk_cell BK189.out 0).trans rfl; have hcz183_1 : w182.cell? ⟨gb189, 1, none⟩ = some (.int .i64 (rd y185 (ji4))) := (blk_cell BK189.out 1).trans rfl; have hcz183_2 : w182.cell? ⟨gb189, 2, none⟩ = some (.string x190002_6) := (blk_cell BK189.out 2).trans rfl; have hfz183_0 := blk_frozen BK189.out 0; have hfz183_1 := blk_frozen BK189.out 1; have hfz183_2 := blk_frozen BK189.out 2) | (go_at_call 39; (with_reducible refine (event_May.calls kj98 (wrap64 ((wrap64 (Int.tmod (IntKind.u64.wrap (a0)) 8)) - 1)) (rd y185 (ji4)) x190002_6 t297 _ A175.out).mono ?_); rintro e w184 ⟨rfl, hb⟩; have n0_ := Aside0.mk (Kd.R_below (by (with_reducible repeat (first | apply Kd.R_alloc | apply Kd.R_drewN | apply Kd.R_drew)); exact HO291.out) hb); have n1_ := Aside0.mk (Kd.R_below (by (with_reducible repeat (first | apply Kd.R_alloc | apply Kd.R_drewN | apply Kd.R_drew)); exact HO295.out) hb); have n2_ := Aside0.mk (blk_below (g := gb189) (o := .cells #[.int .i64 (wrap64 ((wrap64 (Int.tmod (IntKind.u64.wrap (a0)) 8)) - 1)), .int .i64 (rd y185 (ji4)), .string x190002_6] 50 (0, 0)) (by (with_reducible repeat (first | refine blk_drewN ?_ _ | refine blk_drew ?_ | refine blk_alloc ?_ _)); exact BK189.out) hb); have n3_ := Aside0.mk (below_step (by repeat (first | (with_reducible first | exact HB.out | apply below_alloc | apply pw_below_drewN | apply below_drew1 | refine below_set ?_ GE189.out) | exact HB.out)) hb); clear HO291; clear HO295; clear BK189; clear HB; have HO291 := n0_; have HO295 := n1_; have BK189 := n2_; have HB := n3_; clear n0_ n1_ n2_ n3_; (try clear hb); (try clear hb2); (try clear hk); (try clear hi)))
                            go_ret
                            exact ⟨by first | rfl | (simp only [tdiv_top]; rfl) | (simp [errW_none, errW_some] <;> rfl) | (simp only [← hji4]; first | rfl | (simp [errW_none, errW_some] <;> rfl)) | (simp [*, errW_none, errW_some] <;> rfl), by repeat (first | (with_reducible first | exact HB.out | apply below_alloc | apply pw_below_drewN | apply below_drew1 | refine below_set ?_ GE189.out) | exact HB.out)⟩
                          · rw [if_neg c176] at H
                            have c176b0 : (t297 == false) = false := by simpa using c176
                            (try (have c176b1 : decide (t297 = false) = false := by simpa using c176))
                            (try (have c176b2 : (t297 == false) = false := by simpa using c176))
                            (try (have c176b3 : ¬ (t297 = false) := by simpa using c176))
                            clear c176
                            rw [hrt.out] at H
                            exact absurd H (by simp)
                        · replace c174 := Bool.eq_false_iff.mpr c174
                          subst c174
                          have H1 : (some false) = some r := by rw [if_neg (show ¬ (false = true) by decide)] at H; exact H
                          clear H
                          have H := H1
                          clear H1
                          rw [hrt.out] at H
                          exact absurd H (by simp)
                    · rw [if_neg c143] at H
                      have c143b0 : ((wrap64 ((wrap64 (Int.tmod (IntKind.u64.wrap (a0)) 8)) - 1)) == 6) = false := beq_eq_false_iff_ne.mpr c143
                      have c143b1 : ((wrap64 ((wrap64 (Int.tmod (IntKind.u64.wrap (a0)) 8)) - 1)) != 6) = true := bne_iff_ne.mpr c143
                      by_cases c185 : (wrap64 ((wrap64 (Int.tmod (IntKind.u64.wrap (a0)) 8)) - 1)) = 5
                      · rw [if_pos c185] at H
                        have c185b0 : ((wrap64 ((wrap64 (Int.tmod (IntKind.u64.wrap (a0)) 8)) - 1)) == 5) = true := beq_iff_eq.mpr c185
                        have c185b1 : ((wrap64 ((wrap64 (Int.tmod (IntKind.u64.wrap (a0)) 8)) - 1)) != 5) = false := bne_eq_false_iff_eq.mpr c185
                        clear c185
                        obtain ⟨y298, hy298⟩ : ∃ y_ : List (S50), y_ = (([(⟨(wrap64 ((wrap64 (Int.tmod (IntKind.u64.wrap (a0)) 8)) - 1)), (rd y185 (ji4)), x190002_6⟩ : S50)] : List (S50))) := ⟨_, rfl⟩
                        replace H : ((event_Put.f kj98 y298).bind fun bt301 => ((spinnakerlaw23_told.f kj98).bind fun t305 => (if t305 = true then ((event_May.f kj98 (wrap64 ((wrap64 (Int.tmod (IntKind.u64.wrap (a0)) 8)) - 1)) (rd y185 (ji4)) x190002_6).bind fun t306 => (if (t306 == ((rd y185 (ji4)) == 0)) = true then (some ((bt301.2 == 0) == ((rd y185 (ji4)) == 0))) else (some false))) else (some false)))) = some r := by first | (rw [hy298]; with_reducible exact H) | (have H2_ := (Option.bind_some _ _).symm.trans H; rw [hy298]; with_reducible exact H2_) | (have H2_ := (Option.bind_some _ _).symm.trans H; with_reducible exact H2_) | with_reducible exact H | (rw [hy298]; exact H) | exact H
                        have Ny298 := Aside0.mk hy298
                        clear hy298
                        replace H := Option.bind_eq_some_iff.mp H
                        obtain ⟨⟨t301, t302⟩, A1860, H⟩ := H
                        replace H : ((spinnakerlaw23_told.f kj98).bind fun t305 => (if t305 = true then ((event_May.f kj98 (wrap64 ((wrap64 (Int.tmod (IntKind.u64.wrap (a0)) 8)) - 1)) (rd y185 (ji4)) x190002_6).bind fun t306 => (if (t306 == ((rd y185 (ji4)) == 0)) = true then (some ((t302 == 0) == ((rd y185 (ji4)) == 0))) else (some false))) else (some false))) = some r := H
                        have A186 := Aside0.mk A1860
                        clear A1860
                        replace H := Option.bind_eq_some_iff.mp H
                        obtain ⟨t305, A1870, H⟩ := H
                        replace H : (if t305 = true then ((event_May.f kj98 (wrap64 ((wrap64 (Int.tmod (IntKind.u64.wrap (a0)) 8)) - 1)) (rd y185 (ji4)) x190002_6).bind fun t306 => (if (t306 == ((rd y185 (ji4)) == 0)) = true then (some ((t302 == 0) == ((rd y185 (ji4)) == 0))) else (some false))) else (some false)) = some r := H
                        have A187 := Aside0.mk A1870
                        clear A1870
                        by_cases c188 : t305 = true
                        · subst c188
                          have H1 : ((event_May.f kj98 (wrap64 ((wrap64 (Int.tmod (IntKind.u64.wrap (a0)) 8)) - 1)) (rd y185 (ji4)) x190002_6).bind fun t306 => (if (t306 == ((rd y185 (ji4)) == 0)) = true then (some ((t302 == 0) == ((rd y185 (ji4)) == 0))) else (some false))) = some r := by rw [if_pos rfl] at H; exact H
                          clear H
                          have H := H1
                          clear H1
                          replace H := Option.bind_eq_some_iff.mp H
                          obtain ⟨t306, A1890, H⟩ := H
                          replace H : (if (t306 == ((rd y185 (ji4)) == 0)) = true then (some ((t302 == 0) == ((rd y185 (ji4)) == 0))) else (some false)) = some r := H
                          have A189 := Aside0.mk A1890
                          clear A1890
                          by_cases c190 : (t306 == ((rd y185 (ji4)) == 0)) = true
                          · rw [if_pos c190] at H
                            have c190b0 : (t306 == ((rd y185 (ji4)) == 0)) = true := c190
                            (try (have c190b1 : decide (t306 = ((rd y185 (ji4)) == 0)) = true := by simpa using c190))
                            (try (have c190b2 : (t306 == ((rd y185 (ji4)) == 0)) = true := by simpa using c190))
                            clear c190
                            obtain rfl := Option.some.inj H
                            have hcz191_0 : wc.cell? ⟨gb189, 0, none⟩ = some (.int .i64 (wrap64 ((wrap64 (Int.tmod (IntKind.u64.wrap (a0)) 8)) - 1))) := (blk_cell BK189.out 0).trans rfl
                            have hcz191_1 : wc.cell? ⟨gb189, 1, none⟩ = some (.int .i64 (rd y185 (ji4))) := (blk_cell BK189.out 1).trans rfl
                            have hcz191_2 : wc.cell? ⟨gb189, 2, none⟩ = some (.string x190002_6) := (blk_cell BK189.out 2).trans rfl
                            have hfz191_0 := blk_frozen BK189.out 0
                            have hfz191_1 := blk_frozen BK189.out 1
                            have hfz191_2 := blk_frozen BK189.out 2
                            go_wp2_with (first | ((with_reducible refine gate_dst (N := 85) rfl ?_); refine Kd.R_lit k50 _ 50 ?hg (N := 85) ?hd (xs := ([(⟨(wrap64 ((wrap64 (Int.tmod (IntKind.u64.wrap (a0)) 8)) - 1)), (rd y185 (ji4)), x190002_6⟩ : S50)] : List (S50))) (inner := [.int .i64 (wrap64 ((wrap64 (Int.tmod (IntKind.u64.wrap (a0)) 8)) - 1)), .int .i64 (rd y185 (ji4)), .string x190002_6]) (ok := fun _ => True) (okp := fun _ => True) ?hr ?hp (fun _ hk => hk) trivial (Below.refl _ _) (Nat.le_refl _) (by simp) ?_; (case hd => rfl); (case hg => rfl); (case hr => first | (go_simp; done) | (go_simp; rfl)); (case hp => exact (Reps.c3 (show Kd.M k50 _ _ _ (⟨(wrap64 ((wrap64 (Int.tmod (IntKind.u64.wrap (a0)) 8)) - 1)), (rd y185 (ji4)), x190002_6⟩ : S50) [.int .i64 (wrap64 ((wrap64 (Int.tmod (IntKind.u64.wrap (a0)) 8)) - 1)), .int .i64 (rd y185 (ji4)), .string x190002_6] from (k50_mkM _ _ _ (⟨(wrap64 ((wrap64 (Int.tmod (IntKind.u64.wrap (a0)) 8)) - 1)), (rd y185 (ji4)), x190002_6⟩ : S50) )) (Reps.none _ _))); intro v299 w192 ho193 hb hg_ hnew_; clear hg_ hnew_; (first | rw [← Ny298.out] at ho193 | (simp only [Int.reduceToNat] at ho193; rw [← Ny298.out] at ho193)); have n0_ := Aside0.mk (Kd.R_lower (Kd.R_newB ho193 (g := gb189) (o := .cells #[.int .i64 (wrap64 ((wrap64 (Int.tmod (IntKind.u64.wrap (a0)) 8)) - 1)), .int .i64 (rd y185 (ji4)), .string x190002_6] 50 (0, 0)) (by (with_reducible repeat (first | refine blk_drewN ?_ _ | refine blk_drew ?_ | refine blk_alloc ?_ _)); exact BK189.out)) (below_size (by repeat (first | (with_reducible first | exact HB.out | apply below_alloc | apply pw_below_drewN | apply below_drew1 | refine below_set ?_ GE189.out) | exact HB.out)))); have n1_ := Aside0.mk (blk_below (g := gb189) (o := .cells #[.int .i64 (wrap64 ((wrap64 (Int.tmod (IntKind.u64.wrap (a0)) 8)) - 1)), .int .i64 (rd y185 (ji4)), .string x190002_6] 50 (0, 0)) (by (with_reducible repeat (first | refine blk_drewN ?_ _ | refine blk_drew ?_ | refine blk_alloc ?_ _)); exact BK189.out) hb); have n2_ := Aside0.mk (below_step (by repeat (first | (with_reducible first | exact HB.out | apply below_alloc | apply pw_below_drewN | apply below_drew1 | refine below_set ?_ GE189.out) | exact HB.out)) hb); clear BK189; clear HB; have HO300 := n0_; have BK189 := n1_; have HB := n2_; clear n0_ n1_ n2_; clear hb ho193; obtain ⟨Ao194, co194, eo194⟩ := Kd.R_slice HO300.out; subst eo194) | ((with_reducible refine gate_callee (f := 37) rfl ?_); refine goesL_ (some 86) rfl rfl Try.func37 (by kernel_rfl) rfl #[.slice Ao194 y298.length co194] rfl (by (try simp only [List.map_toArray, List.map_cons, List.map_nil]); first | done | rfl | (simp only [List.length_drop, List.length_take]; rfl)) ?_; (with_reducible refine (event_Put.calls kj98 _ _ y298 t301 t302 _ ?side1 ?side2 A186.out).mono ?_); (case side1 => repeat (first | exact (Kd.R_reads' HO300.out).2.2 | (with_reducible refine Kd.C_alloc ?_ _) | (with_reducible refine Kd.C_drewN ?_ _) | (with_reducible refine Kd.C_drew ?_))); (case side2 => exact (Kd.R_reads' HO300.out).2.1); rintro e w195 ⟨v303, rfl, ho0, hb⟩; refine ⟨_, rfl, ?_⟩; have n0_ := Aside0.mk (Kd.R_below (by (with_reducible repeat (first | apply Kd.R_alloc | apply Kd.R_drewN | apply Kd.R_drew)); exact HO300.out) hb); have n1_ := Aside0.mk (Kd.R_lower ho0 (below_size (by repeat (first | (with_reducible first | exact HB.out | apply below_alloc | apply pw_below_drewN | apply below_drew1 | refine below_set ?_ GE189.out) | exact HB.out)))); have n2_ := Aside0.mk (blk_below (g := gb189) (o := .cells #[.int .i64 (wrap64 ((wrap64 (Int.tmod (IntKind.u64.wrap (a0)) 8)) - 1)), .int .i64 (rd y185 (ji4)), .string x190002_6] 50 (0, 0)) (by (with_reducible repeat (first | refine blk_drewN ?_ _ | refine blk_drew ?_ | refine blk_alloc ?_ _)); exact BK189.out) hb); have n3_ := Aside0.mk (below_step (by repeat (first | (with_reducible first | exact HB.out | apply below_alloc | apply pw_below_drewN | apply below_drew1 | refine below_set ?_ GE189.out) | exact HB.out)) hb); clear HO300; clear BK189; clear HB; have HO300 := n0_; have HO304 := n1_; have BK189 := n2_; have HB := n3_; clear n0_ n1_ n2_ n3_; (try clear hb); (try clear hb2); (try clear hk); (try clear hi); (try clear ho0)) | ((with_reducible refine gate_callee (f := 38) rfl ?_); refine goesL_ (some 89) rfl rfl Try.func38 (by kernel_rfl) rfl #[] rfl (by (try simp only [List.map_toArray, List.map_cons, List.map_nil]); first | done | rfl | (simp only [List.length_drop, List.length_take]; rfl)) ?_; (with_reducible refine (spinnakerlaw23_told.calls kj98  true _ A187.out).mono ?_); rintro e w196 ⟨rfl, hb⟩; refine ⟨_, rfl, ?_⟩; have n0_ := Aside0.mk (Kd.R_below (by (with_reducible repeat (first | apply Kd.R_alloc | apply Kd.R_drewN | apply Kd.R_drew)); exact HO300.out) hb); have n1_ := Aside0.mk (Kd.R_below (by (with_reducible repeat (first | apply Kd.R_alloc | apply Kd.R_drewN | apply Kd.R_drew)); exact HO304.out) hb); have n2_ := Aside0.mk (blk_below (g := gb189) (o := .cells #[.int .i64 (wrap64 ((wrap64 (Int.tmod (IntKind.u64.wrap (a0)) 8)) - 1)), .int .i64 (rd y185 (ji4)), .string x190002_6] 50 (0, 0)) (by (with_reducible repeat (first | refine blk_drewN ?_ _ | refine blk_drew ?_ | refine blk_alloc ?_ _)); exact BK189.out) hb); have n3_ := Aside0.mk (below_step (by repeat (first | (with_reducible first | exact HB.out | apply below_alloc | apply pw_below_drewN | apply below_drew1 | refine below_set ?_ GE189.out) | exact HB.out)) hb); clear HO300; clear HO304; clear BK189; clear HB; have HO300 := n0_; have HO304 := n1_; have BK189 := n2_; have HB := n3_; clear n0_ n1_ n2_ n3_; (try clear hb); (try clear hb2); (try clear hk); (try clear hi); have hcz197_0 : w196.cell? ⟨gb189, 0, none⟩ = some (.int .i64 (wrap64 ((wrap64 (Int.tmod (IntKind.u64.wrap (a0)) 8)) - 1))) := (blk_cell BK189.out 0).trans rfl; have hcz197_1 : w196.cell? ⟨gb189, 1, none⟩ = some (.int .i64 (rd y185 (ji4))) := (blk_cell BK189.out 1).trans rfl; have hcz197_2 : w196.cell? ⟨gb189, 2, none⟩ = some (.string x190002_6) := (blk_cell BK189.out 2).trans rfl; have hfz197_0 := blk_frozen BK189.out 0; have hfz197_1 := blk_frozen BK189.out 1; have hfz197_2 := blk_frozen BK189.out 2) | (go_at_call 39; (with_reducible refine (event_May.calls kj98 (wrap64 ((wrap64 (Int.tmod (IntKind.u64.wrap (a0)) 8)) - 1)) (rd y185 (ji4)) x190002_6 t306 _ A189.out).mono ?_); rintro e w198 ⟨rfl, hb⟩; have n0_ := Aside0.mk (Kd.R_below (by (with_reducible repeat (first | apply Kd.R_alloc | apply Kd.R_drewN | apply Kd.R_drew)); exact HO300.out) hb); have n1_ := Aside0.mk (Kd.R_below (by (with_reducible repeat (first | apply Kd.R_alloc | apply Kd.R_drewN | apply Kd.R_drew)); exact HO304.out) hb); have n2_ := Aside0.mk (blk_below (g := gb189) (o := .cells #[.int .i64 (wrap64 ((wrap64 (Int.tmod (IntKind.u64.wrap (a0)) 8)) - 1)), .int .i64 (rd y185 (ji4)), .string x190002_6] 50 (0, 0)) (by (with_reducible repeat (first | refine blk_drewN ?_ _ | refine blk_drew ?_ | refine blk_alloc ?_ _)); exact BK189.out) hb); have n3_ := Aside0.mk (below_step (by repeat (first | (with_reducible first | exact HB.out | apply below_alloc | apply pw_below_drewN | apply below_drew1 | refine below_set ?_ GE189.out) | exact HB.out)) hb); clear HO300; clear HO304; clear BK189; clear HB; have HO300 := n0_; have HO304 := n1_; have BK189 := n2_; have HB := n3_; clear n0_ n1_ n2_ n3_; (try clear hb); (try clear hb2); (try clear hk); (try clear hi)))
                            go_ret
                            exact ⟨by first | rfl | (simp only [tdiv_top]; rfl) | (simp [errW_none, errW_some] <;> rfl) | (simp only [← hji4]; first | rfl | (simp [errW_none, errW_some] <;> rfl)) | (simp [*, errW_none, errW_some] <;> rfl), by repeat (first | (with_reducible first | exact HB.out | apply below_alloc | apply pw_below_drewN | apply below_drew1 | refine below_set ?_ GE189.out) | exact HB.out)⟩
                          · rw [if_neg c190] at H
                            have c190b0 : (t306 == ((rd y185 (ji4)) == 0)) = false := by simpa using c190
                            (try (have c190b1 : decide (t306 = ((rd y185 (ji4)) == 0)) = false := by simpa using c190))
                            (try (have c190b2 : (t306 == ((rd y185 (ji4)) == 0)) = false := by simpa using c190))
                            (try (have c190b3 : ¬ (t306 = ((rd y185 (ji4)) == 0)) := by simpa using c190))
                            clear c190
                            rw [hrt.out] at H
                            exact absurd H (by simp)
                        · replace c188 := Bool.eq_false_iff.mpr c188
                          subst c188
                          have H1 : (some false) = some r := by rw [if_neg (show ¬ (false = true) by decide)] at H; exact H
                          clear H
                          have H := H1
                          clear H1
                          rw [hrt.out] at H
                          exact absurd H (by simp)
                      · rw [if_neg c185] at H
                        have c185b0 : ((wrap64 ((wrap64 (Int.tmod (IntKind.u64.wrap (a0)) 8)) - 1)) == 5) = false := beq_eq_false_iff_ne.mpr c185
                        have c185b1 : ((wrap64 ((wrap64 (Int.tmod (IntKind.u64.wrap (a0)) 8)) - 1)) != 5) = true := bne_iff_ne.mpr c185
                        obtain ⟨y307, hy307⟩ : ∃ y_ : List (S50), y_ = (([(⟨(wrap64 ((wrap64 (Int.tmod (IntKind.u64.wrap (a0)) 8)) - 1)), (rd y185 (ji4)), x190002_6⟩ : S50)] : List (S50))) := ⟨_, rfl⟩
                        replace H : ((event_Put.f kj98 y307).bind fun bt310 => ((spinnakerlaw23_told.f kj98).bind fun t314 => (if t314 = true then ((event_May.f kj98 (wrap64 ((wrap64 (Int.tmod (IntKind.u64.wrap (a0)) 8)) - 1)) (rd y185 (ji4)) x190002_6).bind fun t315 => (if (t315 == false) = true then (some ((bt310.2 == 0) == false)) else (some false))) else (some false)))) = some r := by first | (rw [hy307]; with_reducible exact H) | (have H2_ := (Option.bind_some _ _).symm.trans H; rw [hy307]; with_reducible exact H2_) | (have H2_ := (Option.bind_some _ _).symm.trans H; with_reducible exact H2_) | with_reducible exact H | (rw [hy307]; exact H) | exact H
                        have Ny307 := Aside0.mk hy307
                        clear hy307
                        replace H := Option.bind_eq_some_iff.mp H
                        obtain ⟨⟨t310, t311⟩, A1990, H⟩ := H
                        replace H : ((spinnakerlaw23_told.f kj98).bind fun t314 => (if t314 = true then ((event_May.f kj98 (wrap64 ((wrap64 (Int.tmod (IntKind.u64.wrap (a0)) 8)) - 1)) (rd y185 (ji4)) x190002_6).bind fun t315 => (if (t315 == false) = true then (some ((t311 == 0) == false)) else (some false))) else (some false))) = some r := H
                        have A199 := Aside0.mk A1990
                        clear A1990
                        replace H := Option.bind_eq_some_iff.mp H
                        obtain ⟨t314, A2000, H⟩ := H
                        replace H : (if t314 = true then ((event_May.f kj98 (wrap64 ((wrap64 (Int.tmod (IntKind.u64.wrap (a0)) 8)) - 1)) (rd y185 (ji4)) x190002_6).bind fun t315 => (if (t315 == false) = true then (some ((t311 == 0) == false)) else (some false))) else (some false)) = some r := H
                        have A200 := Aside0.mk A2000
                        clear A2000
                        by_cases c201 : t314 = true
                        · subst c201
                          have H1 : ((event_May.f kj98 (wrap64 ((wrap64 (Int.tmod (IntKind.u64.wrap (a0)) 8)) - 1)) (rd y185 (ji4)) x190002_6).bind fun t315 => (if (t315 == false) = true then (some ((t311 == 0) == false)) else (some false))) = some r := by rw [if_pos rfl] at H; exact H
                          clear H
                          have H := H1
                          clear H1
                          replace H := Option.bind_eq_some_iff.mp H
                          obtain ⟨t315, A2020, H⟩ := H
                          replace H : (if (t315 == false) = true then (some ((t311 == 0) == false)) else (some false)) = some r := H
                          have A202 := Aside0.mk A2020
                          clear A2020
                          by_cases c203 : (t315 == false) = true
                          · rw [if_pos c203] at H
                            have c203b0 : (t315 == false) = true := c203
                            (try (have c203b1 : decide (t315 = false) = true := by simpa using c203))
                            (try (have c203b2 : (t315 == false) = true := by simpa using c203))
                            clear c203
                            obtain rfl := Option.some.inj H
                            have hcz204_0 : wc.cell? ⟨gb189, 0, none⟩ = some (.int .i64 (wrap64 ((wrap64 (Int.tmod (IntKind.u64.wrap (a0)) 8)) - 1))) := (blk_cell BK189.out 0).trans rfl
                            have hcz204_1 : wc.cell? ⟨gb189, 1, none⟩ = some (.int .i64 (rd y185 (ji4))) := (blk_cell BK189.out 1).trans rfl
                            have hcz204_2 : wc.cell? ⟨gb189, 2, none⟩ = some (.string x190002_6) := (blk_cell BK189.out 2).trans rfl
                            have hfz204_0 := blk_frozen BK189.out 0
                            have hfz204_1 := blk_frozen BK189.out 1
                            have hfz204_2 := blk_frozen BK189.out 2
                            go_wp2_with (first | ((with_reducible refine gate_dst (N := 85) rfl ?_); refine Kd.R_lit k50 _ 50 ?hg (N := 85) ?hd (xs := ([(⟨(wrap64 ((wrap64 (Int.tmod (IntKind.u64.wrap (a0)) 8)) - 1)), (rd y185 (ji4)), x190002_6⟩ : S50)] : List (S50))) (inner := [.int .i64 (wrap64 ((wrap64 (Int.tmod (IntKind.u64.wrap (a0)) 8)) - 1)), .int .i64 (rd y185 (ji4)), .string x190002_6]) (ok := fun _ => True) (okp := fun _ => True) ?hr ?hp (fun _ hk => hk) trivial (Below.refl _ _) (Nat.le_refl _) (by simp) ?_; (case hd => rfl); (case hg => rfl); (case hr => first | (go_simp; done) | (go_simp; rfl)); (case hp => exact (Reps.c3 (show Kd.M k50 _ _ _ (⟨(wrap64 ((wrap64 (Int.tmod (IntKind.u64.wrap (a0)) 8)) - 1)), (rd y185 (ji4)), x190002_6⟩ : S50) [.int .i64 (wrap64 ((wrap64 (Int.tmod (IntKind.u64.wrap (a0)) 8)) - 1)), .int .i64 (rd y185 (ji4)), .string x190002_6] from (k50_mkM _ _ _ (⟨(wrap64 ((wrap64 (Int.tmod (IntKind.u64.wrap (a0)) 8)) - 1)), (rd y185 (ji4)), x190002_6⟩ : S50) )) (Reps.none _ _))); intro v308 w205 ho206 hb hg_ hnew_; clear hg_ hnew_; (first | rw [← Ny307.out] at ho206 | (simp only [Int.reduceToNat] at ho206; rw [← Ny307.out] at ho206)); have n0_ := Aside0.mk (Kd.R_lower (Kd.R_newB ho206 (g := gb189) (o := .cells #[.int .i64 (wrap64 ((wrap64 (Int.tmod (IntKind.u64.wrap (a0)) 8)) - 1)), .int .i64 (rd y185 (ji4)), .string x190002_6] 50 (0, 0)) (by (with_reducible repeat (first | refine blk_drewN ?_ _ | refine blk_drew ?_ | refine blk_alloc ?_ _)); exact BK189.out)) (below_size (by repeat (first | (with_reducible first | exact HB.out | apply below_alloc | apply pw_below_drewN | apply below_drew1 | refine below_set ?_ GE189.out) | exact HB.out)))); have n1_ := Aside0.mk (blk_below (g := gb189) (o := .cells #[.int .i64 (wrap64 ((wrap64 (Int.tmod (IntKind.u64.wrap (a0)) 8)) - 1)), .int .i64 (rd y185 (ji4)), .string x190002_6] 50 (0, 0)) (by (with_reducible repeat (first | refine blk_drewN ?_ _ | refine blk_drew ?_ | refine blk_alloc ?_ _)); exact BK189.out) hb); have n2_ := Aside0.mk (below_step (by repeat (first | (with_reducible first | exact HB.out | apply below_alloc | apply pw_below_drewN | apply below_drew1 | refine below_set ?_ GE189.out) | exact HB.out)) hb); clear BK189; clear HB; have HO309 := n0_; have BK189 := n1_; have HB := n2_; clear n0_ n1_ n2_; clear hb ho206; obtain ⟨Ao207, co207, eo207⟩ := Kd.R_slice HO309.out; subst eo207) | ((with_reducible refine gate_callee (f := 37) rfl ?_); refine goesL_ (some 86) rfl rfl Try.func37 (by kernel_rfl) rfl #[.slice Ao207 y307.length co207] rfl (by (try simp only [List.map_toArray, List.map_cons, List.map_nil]); first | done | rfl | (simp only [List.length_drop, List.length_take]; rfl)) ?_; (with_reducible refine (event_Put.calls kj98 _ _ y307 t310 t311 _ ?side1 ?side2 A199.out).mono ?_); (case side1 => repeat (first | exact (Kd.R_reads' HO309.out).2.2 | (with_reducible refine Kd.C_alloc ?_ _) | (with_reducible refine Kd.C_drewN ?_ _) | (with_reducible refine Kd.C_drew ?_))); (case side2 => exact (Kd.R_reads' HO309.out).2.1); rintro e w208 ⟨v312, rfl, ho0, hb⟩; refine ⟨_, rfl, ?_⟩; have n0_ := Aside0.mk (Kd.R_below (by (with_reducible repeat (first | apply Kd.R_alloc | apply Kd.R_drewN | apply Kd.R_drew)); exact HO309.out) hb); have n1_ := Aside0.mk (Kd.R_lower ho0 (below_size (by repeat (first | (with_reducible first | exact HB.out | apply below_alloc | apply pw_below_drewN | apply below_drew1 | refine below_set ?_ GE189.out) | exact HB.out)))); have n2_ := Aside0.mk (blk_below (g := gb189) (o := .cells #[.int .i64 (wrap64 ((wrap64 (Int.tmod (IntKind.u64.wrap (a0)) 8)) - 1)), .int .i64 (rd y185 (ji4)), .string x190002_6] 50 (0, 0)) (by (with_reducible repeat (first | refine blk_drewN ?_ _ | refine blk_drew ?_ | refine blk_alloc ?_ _)); exact BK189.out) hb); have n3_ := Aside0.mk (below_step (by repeat (first | (with_reducible first | exact HB.out | apply below_alloc | apply pw_below_drewN | apply below_drew1 | refine below_set ?_ GE189.out) | exact HB.out)) hb); clear HO309; clear BK189; clear HB; have HO309 := n0_; have HO313 := n1_; have BK189 := n2_; have HB := n3_; clear n0_ n1_ n2_ n3_; (try clear hb); (try clear hb2); (try clear hk); (try clear hi); (try clear ho0)) | ((with_reducible refine gate_callee (f := 38) rfl ?_); refine goesL_ (some 89) rfl rfl Try.func38 (by kernel_rfl) rfl #[] rfl (by (try simp only [List.map_toArray, List.map_cons, List.map_nil]); first | done | rfl | (simp only [List.length_drop, List.length_take]; rfl)) ?_; (with_reducible refine (spinnakerlaw23_told.calls kj98  true _ A200.out).mono ?_); rintro e w209 ⟨rfl, hb⟩; refine ⟨_, rfl, ?_⟩; have n0_ := Aside0.mk (Kd.R_below (by (with_reducible repeat (first | apply Kd.R_alloc | apply Kd.R_drewN | apply Kd.R_drew)); exact HO309.out) hb); have n1_ := Aside0.mk (Kd.R_below (by (with_reducible repeat (first | apply Kd.R_alloc | apply Kd.R_drewN | apply Kd.R_drew)); exact HO313.out) hb); have n2_ := Aside0.mk (blk_below (g := gb189) (o := .cells #[.int .i64 (wrap64 ((wrap64 (Int.tmod (IntKind.u64.wrap (a0)) 8)) - 1)), .int .i64 (rd y185 (ji4)), .string x190002_6] 50 (0, 0)) (by (with_reducible repeat (first | refine blk_drewN ?_ _ | refine blk_drew ?_ | refine blk_alloc ?_ _)); exact BK189.out) hb); have n3_ := Aside0.mk (below_step (by repeat (first | (with_reducible first | exact HB.out | apply below_alloc | apply pw_below_drewN | apply below_drew1 | refine below_set ?_ GE189.out) | exact HB.out)) hb); clear HO309; clear HO313; clear BK189; clear HB; have HO309 := n0_; have HO313 := n1_; have BK189 := n2_; have HB := n3_; clear n0_ n1_ n2_ n3_; (try clear hb); (try clear hb2); (try clear hk); (try clear hi); have hcz210_0 : w209.cell? ⟨gb189, 0, none⟩ = some (.int .i64 (wrap64 ((wrap64 (Int.tmod (IntKind.u64.wrap (a0)) 8)) - 1))) := (blk_cell BK189.out 0).trans rfl; have hcz210_1 : w209.cell? ⟨gb189, 1, none⟩ = some (.int .i64 (rd y185 (ji4))) := (blk_cell BK189.out 1).trans rfl; have hcz210_2 : w209.cell? ⟨gb189, 2, none⟩ = some (.string x190002_6) := (blk_cell BK189.out 2).trans rfl; have hfz210_0 := blk_frozen BK189.out 0; have hfz210_1 := blk_frozen BK189.out 1; have hfz210_2 := blk_frozen BK189.out 2) | (go_at_call 39; (with_reducible refine (event_May.calls kj98 (wrap64 ((wrap64 (Int.tmod (IntKind.u64.wrap (a0)) 8)) - 1)) (rd y185 (ji4)) x190002_6 t315 _ A202.out).mono ?_); rintro e w211 ⟨rfl, hb⟩; have n0_ := Aside0.mk (Kd.R_below (by (with_reducible repeat (first | apply Kd.R_alloc | apply Kd.R_drewN | apply Kd.R_drew)); exact HO309.out) hb); have n1_ := Aside0.mk (Kd.R_below (by (with_reducible repeat (first | apply Kd.R_alloc | apply Kd.R_drewN | apply Kd.R_drew)); exact HO313.out) hb); have n2_ := Aside0.mk (blk_below (g := gb189) (o := .cells #[.int .i64 (wrap64 ((wrap64 (Int.tmod (IntKind.u64.wrap (a0)) 8)) - 1)), .int .i64 (rd y185 (ji4)), .string x190002_6] 50 (0, 0)) (by (with_reducible repeat (first | refine blk_drewN ?_ _ | refine blk_drew ?_ | refine blk_alloc ?_ _)); exact BK189.out) hb); have n3_ := Aside0.mk (below_step (by repeat (first | (with_reducible first | exact HB.out | apply below_alloc | apply pw_below_drewN | apply below_drew1 | refine below_set ?_ GE189.out) | exact HB.out)) hb); clear HO309; clear HO313; clear BK189; clear HB; have HO309 := n0_; have HO313 := n1_; have BK189 := n2_; have HB := n3_; clear n0_ n1_ n2_ n3_; (try clear hb); (try clear hb2); (try clear hk); (try clear hi)))
                            go_ret
                            exact ⟨by first | rfl | (simp only [tdiv_top]; rfl) | (simp [errW_none, errW_some] <;> rfl) | (simp only [← hji4]; first | rfl | (simp [errW_none, errW_some] <;> rfl)) | (simp [*, errW_none, errW_some] <;> rfl), by repeat (first | (with_reducible first | exact HB.out | apply below_alloc | apply pw_below_drewN | apply below_drew1 | refine below_set ?_ GE189.out) | exact HB.out)⟩
                          · rw [if_neg c203] at H
                            have c203b0 : (t315 == false) = false := by simpa using c203
                            (try (have c203b1 : decide (t315 = false) = false := by simpa using c203))
                            (try (have c203b2 : (t315 == false) = false := by simpa using c203))
                            (try (have c203b3 : ¬ (t315 = false) := by simpa using c203))
                            clear c203
                            rw [hrt.out] at H
                            exact absurd H (by simp)
                        · replace c201 := Bool.eq_false_iff.mpr c201
                          subst c201
                          have H1 : (some false) = some r := by rw [if_neg (show ¬ (false = true) by decide)] at H; exact H
                          clear H
                          have H := H1
                          clear H1
                          rw [hrt.out] at H
                          exact absurd H (by simp)
    · rw [if_neg c6] at H
      exact absurd H (by simp)
  · rw [if_neg c5] at H
    exact absurd H (by simp)

/-- THE ONE PURE STATEMENT of spinnakerlaw23_EventBounds: yours. -/
def spinnakerlaw23_EventBounds.Pure : Prop := ∀ (a0 : Int) (a1 : Int) (a2 : Bool), (Lit.int .i64 a0).wf = true → (Lit.int .i64 a1).wf = true → ∃ k, spinnakerlaw23_EventBounds.f k a0 a1 a2 = some true
theorem spinnakerlaw23_EventBounds.walk (P : spinnakerlaw23_EventBounds.Pure) (a0 : Int) (a1 : Int) (a2 : Bool) (w : World) (w0 : (Lit.int .i64 a0).wf = true) (w1 : (Lit.int .i64 a1).wf = true) :
    Calls Try.prog 10 #[.int .i64 a0, .int .i64 a1, .bool a2] w fun e w' => e = .returned (.bool true) ∧ Below w.heap.size w w' := by
  obtain ⟨k, h⟩ := P a0 a1 a2 w0 w1
  refine (spinnakerlaw23_EventBounds.calls k a0 a1 a2 true w rfl h).mono ?_
  rintro e w' ⟨rfl, hd⟩
  exact ⟨rfl, hd⟩

end Go.Proofs.Ytcdfoicebcmlaaa.PEvent
