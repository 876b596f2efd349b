/- Pods over abstract heaps: the law LifeGoes. -/
import Derived.Test.YtnebdnbglggdkaaLifeV
namespace Go.Proofs.YtnebdnbglggdkaaW.Am
open Go Go.RowKit
/-- Ready pods 0, 1, ..; those ahead of i have as many in flight as their number, i has j. -/
def LE (k i : Nat) (j : Int) : List Pd := (List.range k).map fun (a : Nat) => ((a : Int), 2, if a < i then (a : Int) else if a = i then j else 0, 0)
theorem LE_len (k i : Nat) (j : Int) : (LE k i j).length = k := by simp [LE]
theorem LE_get {k i a : Nat} {j : Int} (h : a < k) : (LE k i j)[a]? = some ((a : Int), 2, if a < i then (a : Int) else if a = i then j else 0, 0) := by simp [LE, h]
theorem LE_new (k : Nat) : (newF 0 0 k).map (rpF 0 0) = LE k 0 0 := by
  rw [LS_new k 0]
  simp only [LS, LE]
  refine List.map_congr_left fun a _ => ?_
  simp
theorem LE_next (k i : Nat) : LE k i i = LE k (i + 1) 0 := by
  simp only [LE]
  refine List.map_congr_left fun a _ => ?_
  by_cases h1 : a < i
  · simp [h1, show a < i + 1 by omega]
  · by_cases h2 : a = i
    · simp [h2]
    · simp [h1, h2, show ¬ a < i + 1 by omega]
theorem LE_enter {k i : Nat} {j : Int} (h : i < k) : enF (LE k i j) i = (LE k i (j + 1), 0) := by
  have hf : fI (LE k i j) i = i := by
    refine fI_at (LE_get h) rfl fun a q ha hq => ?_
    rw [LE_get (by omega)] at hq
    cases hq
    dsimp only
    omega
  unfold enF
  rw [hf, getD_of (LE_get h), if_pos rfl]
  refine Prod.ext ?_ rfl
  refine List.ext_getElem? fun a => ?_
  dsimp only
  rw [List.getElem?_set]
  by_cases ha : a < k
  · rw [LE_get (j := j) ha, LE_get (j := j + 1) ha]
    split
    · next e => subst e; rw [if_pos (by rw [LE_len]; exact h)]; simp
    · next e => simp [Ne.symm e]
  · rw [if_neg (by omega), List.getElem?_eq_none (by rw [LE_len]; omega), List.getElem?_eq_none (by rw [LE_len]; omega)]
theorem LE_mem {k i : Nat} {j : Int} {p : Pd} (h : p ∈ LE k i j) : (p.2.2.2 = 0 ∧ 0 ≤ p.1 ∧ p.1 < k ∧ p.2.1 = 2) ∧ ((0 ≤ p.2.2.1 ∧ p.2.2.1 < k) ∨ p.2.2.1 = j) := by
  simp only [LE, List.mem_map, List.mem_range] at h
  obtain ⟨a, ha, rfl⟩ := h
  dsimp only
  refine ⟨⟨rfl, by omega, by omega, rfl⟩, ?_⟩
  split
  · left; omega
  · split
    · exact .inr rfl
    · left; omega
/-- What is to be seen of one pod, and of all. -/
def go1 (k w : Nat) (p : Pd) : Bool := (decide (p.2.1 = 2) && decide ((k : Int) - min w k ≤ p.1)) || (decide (p.2.1 = 1) && decide (k < w)) || (decide (p.2.1 = 3) && decide (p.2.2.1 ≠ 0) && decide (p.1 < (k : Int) - min w k))
def goB (k w : Nat) (l : List Pd) : Bool := l.all (go1 k w) && decide ((rF l).length = min w k)
theorem goes_all : ∀ k : Nat, k < 11 → ∀ s : Nat, s < 6 → ∀ w : Nat, w < k + s + 1 → goB k w (scL ((k : Int) + (s : Int)) 2 w (LE k k 0 ++ newF (k : Int) 1 s)) = true := by decide +kernel
theorem rC_take {l : List Pd} {j : Nat} {p : Pd} (h : l[j]? = some p) : ((rF (l.take (j + 1))).length : Int) = (rF (l.take j)).length + if p.2.1 = 2 then 1 else 0 := by
  obtain ⟨h1, rfl⟩ := List.getElem?_eq_some_iff.1 h
  rw [List.take_succ_eq_append_getElem h1, rF_snoc, List.length_append]
  split <;> simp
set_option maxHeartbeats 4000000 in
set_option maxRecDepth 10000 in
theorem goes_ok (x y z : Int) : ACall PP 7 [nI x, nI y, nI z] Hp.empty (fun v _ => v = .bool true) := by
  have u1 := u64_rng x
  have u2 := u64_rng y
  have u3 := u64_rng z
  refine acall Go.Proofs.Try.func7 c7 (by simp [ir7]) ?_
  unfold ir7
  dsimp only
  repeat (first | refine sS ?_ | refine dS ?_ | refine w_mv rfl ?_ | refine w_gT rfl rfl ?_ | refine w_gF rfl rfl ?_ | refine w_gU rfl ?_ | refine w_add rfl (by omega) ?_ | refine w_sub rfl (by omega) ?_ | refine w_ci rfl (by omega) ?_ | refine w_cu rfl (by omega) ?_ | refine w_cmp rfl (c2 := true) (by first | exact decide_eq_true (by omega) | (simp; done) | (simp; omega)) ?_ | refine w_cmp rfl (c2 := false) (by first | exact decide_eq_false (by omega) | (simp; done) | (simp; omega)) ?_ | refine w_ld rfl (by first | exact rd_g ‹_› rfl | assumption) ?_ | refine w_ldn rfl (by first | exact rd_all ‹_› rfl | assumption) ?_ | refine w_iad rfl (by first | omega | (simp; done) | (simp; omega)) ?_ | refine w_mul rfl (by omega) ?_ | refine w_rem rfl (by omega) (by omega) ?_ | refine w_quo rfl (by omega) (by omega) ?_ | refine w_addu rfl (by omega) ?_ | refine w_mulu rfl (by omega) ?_ | refine w_quou rfl (by omega) (by omega) ?_ | refine w_max rfl ?_ | refine w_min rfl ?_ | refine w_opk rfl rfl ?_ | refine w_cuw rfl ?_ | refine w_adduw rfl ?_ | refine ai_seq ?_ | refine ai_reg ?_ | refine ai_cond (b := true) rfl (fun _ => ?_) (fun hb => by cases hb) | refine ai_cond (b := false) rfl (fun hb => by cases hb) (fun _ => ?_) | refine ai_skip ?_ | refine ai_drw (by kernel_rfl) ?_ | refine ai_block ?_ | refine ai_exit ?_ | (refine ai_ret ?_; repeat (first | rw [thenQ_r] | rw [blockQ_r] | rw [roundE_r])))
  refine w_call rfl ((new_lf _).mono ?_)
  rintro v h1 ⟨rfl, a1, x1⟩
  obtain ⟨k, hk⟩ : ∃ k : Nat, 1 + IntKind.u64.wrap x % 10 = k := ⟨(1 + IntKind.u64.wrap x % 10).toNat, by omega⟩
  obtain ⟨s, hs⟩ : ∃ s : Nat, IntKind.u64.wrap y % 6 = s := ⟨(IntKind.u64.wrap y % 6).toNat, by omega⟩
  rw [hk, hs]
  repeat (first | refine sS ?_ | refine dS ?_ | refine w_mv rfl ?_ | refine w_gT rfl rfl ?_ | refine w_gF rfl rfl ?_ | refine w_gU rfl ?_ | refine w_add rfl (by omega) ?_ | refine w_sub rfl (by omega) ?_ | refine w_ci rfl (by omega) ?_ | refine w_cu rfl (by omega) ?_ | refine w_cmp rfl (c2 := true) (by first | exact decide_eq_true (by omega) | (simp; done) | (simp; omega)) ?_ | refine w_cmp rfl (c2 := false) (by first | exact decide_eq_false (by omega) | (simp; done) | (simp; omega)) ?_ | refine w_ld rfl (by first | exact rd_g ‹_› rfl | assumption) ?_ | refine w_ldn rfl (by first | exact rd_all ‹_› rfl | assumption) ?_ | refine w_iad rfl (by first | omega | (simp; done) | (simp; omega)) ?_ | refine w_mul rfl (by omega) ?_ | refine w_rem rfl (by omega) (by omega) ?_ | refine w_quo rfl (by omega) (by omega) ?_ | refine w_addu rfl (by omega) ?_ | refine w_mulu rfl (by omega) ?_ | refine w_quou rfl (by omega) (by omega) ?_ | refine w_max rfl ?_ | refine w_min rfl ?_ | refine w_opk rfl rfl ?_ | refine w_cuw rfl ?_ | refine w_adduw rfl ?_ | refine ai_seq ?_ | refine ai_reg ?_ | refine ai_cond (b := true) rfl (fun _ => ?_) (fun hb => by cases hb) | refine ai_cond (b := false) rfl (fun hb => by cases hb) (fun _ => ?_) | refine ai_skip ?_ | refine ai_drw (by kernel_rfl) ?_ | refine ai_block ?_ | refine ai_exit ?_ | (refine ai_ret ?_; repeat (first | rw [thenQ_r] | rw [blockQ_r] | rw [roundE_r])))
  refine w_call rfl ((scale_lf _ a1 (by simp) (by omega) (by omega) (by omega)).mono ?_)
  rintro v h2 ⟨rfl, S2, a2, _, _⟩
  have e2 : scL 0 0 (Int.toNat k) [] = newF 0 0 k := by simp [scL, cF]
  have m2 : scM 0 (Int.toNat k) [] = k := by simp [scM, cF]
  rw [e2, m2] at a2
  repeat (first | refine sS ?_ | refine dS ?_ | refine w_mv rfl ?_ | refine w_gT rfl rfl ?_ | refine w_gF rfl rfl ?_ | refine w_gU rfl ?_ | refine w_add rfl (by omega) ?_ | refine w_sub rfl (by omega) ?_ | refine w_ci rfl (by omega) ?_ | refine w_cu rfl (by omega) ?_ | refine w_cmp rfl (c2 := true) (by first | exact decide_eq_true (by omega) | (simp; done) | (simp; omega)) ?_ | refine w_cmp rfl (c2 := false) (by first | exact decide_eq_false (by omega) | (simp; done) | (simp; omega)) ?_ | refine w_ld rfl (by first | exact rd_g ‹_› rfl | assumption) ?_ | refine w_ldn rfl (by first | exact rd_all ‹_› rfl | assumption) ?_ | refine w_iad rfl (by first | omega | (simp; done) | (simp; omega)) ?_ | refine w_mul rfl (by omega) ?_ | refine w_rem rfl (by omega) (by omega) ?_ | refine w_quo rfl (by omega) (by omega) ?_ | refine w_addu rfl (by omega) ?_ | refine w_mulu rfl (by omega) ?_ | refine w_quou rfl (by omega) (by omega) ?_ | refine w_max rfl ?_ | refine w_min rfl ?_ | refine w_opk rfl rfl ?_ | refine w_cuw rfl ?_ | refine w_adduw rfl ?_ | refine ai_seq ?_ | refine ai_reg ?_ | refine ai_cond (b := true) rfl (fun _ => ?_) (fun hb => by cases hb) | refine ai_cond (b := false) rfl (fun hb => by cases hb) (fun _ => ?_) | refine ai_skip ?_ | refine ai_drw (by kernel_rfl) ?_ | refine ai_block ?_ | refine ai_exit ?_ | (refine ai_ret ?_; repeat (first | rw [thenQ_r] | rw [blockQ_r] | rw [roundE_r])))
  refine w_call rfl ((ripe_lf _ a2 (by simp [newF]; omega) (by omega) (by omega) (by intro p hp; simp [newF] at hp; obtain ⟨j, _, rfl⟩ := hp; dsimp only; omega)).mono ?_)
  rintro v h3 ⟨a3, _⟩
  rw [LE_new k] at a3
  repeat (first | refine sS ?_ | refine dS ?_ | refine w_mv rfl ?_ | refine w_gT rfl rfl ?_ | refine w_gF rfl rfl ?_ | refine w_gU rfl ?_ | refine w_add rfl (by omega) ?_ | refine w_sub rfl (by omega) ?_ | refine w_ci rfl (by omega) ?_ | refine w_cu rfl (by omega) ?_ | refine w_cmp rfl (c2 := true) (by first | exact decide_eq_true (by omega) | (simp; done) | (simp; omega)) ?_ | refine w_cmp rfl (c2 := false) (by first | exact decide_eq_false (by omega) | (simp; done) | (simp; omega)) ?_ | refine w_ld rfl (by first | exact rd_g ‹_› rfl | assumption) ?_ | refine w_ldn rfl (by first | exact rd_all ‹_› rfl | assumption) ?_ | refine w_iad rfl (by first | omega | (simp; done) | (simp; omega)) ?_ | refine w_mul rfl (by omega) ?_ | refine w_rem rfl (by omega) (by omega) ?_ | refine w_quo rfl (by omega) (by omega) ?_ | refine w_addu rfl (by omega) ?_ | refine w_mulu rfl (by omega) ?_ | refine w_quou rfl (by omega) (by omega) ?_ | refine w_max rfl ?_ | refine w_min rfl ?_ | refine w_opk rfl rfl ?_ | refine w_cuw rfl ?_ | refine w_adduw rfl ?_ | refine ai_seq ?_ | refine ai_reg ?_ | refine ai_cond (b := true) rfl (fun _ => ?_) (fun hb => by cases hb) | refine ai_cond (b := false) rfl (fun hb => by cases hb) (fun _ => ?_) | refine ai_skip ?_ | refine ai_drw (by kernel_rfl) ?_ | refine ai_block ?_ | refine ai_exit ?_ | (refine ai_ret ?_; repeat (first | rw [thenQ_r] | rw [blockQ_r] | rw [roundE_r])))
  refine ai_loopE (γ := Nat) (fun i => [(2, nI z), (7, nI k), (8, nI s), (9, ptr Hp.empty.nx), (10, nI i)]) (fun i h' => LF h' S2 Hp.empty.nx (LE k i 0) k ∧ i ≤ k) (fun i => k - i) 0
    (by repeat (first | exact le_nil | refine le_cons rfl ?_)) ⟨a3, Nat.zero_le _⟩ ?_
  rintro i h4 ⟨a4, hi⟩
  by_cases hik : i < k
  · repeat (first | refine sS ?_ | refine dS ?_ | refine w_mv rfl ?_ | refine w_gT rfl rfl ?_ | refine w_gF rfl rfl ?_ | refine w_gU rfl ?_ | refine w_add rfl (by omega) ?_ | refine w_sub rfl (by omega) ?_ | refine w_ci rfl (by omega) ?_ | refine w_cu rfl (by omega) ?_ | refine w_cmp rfl (c2 := true) (by first | exact decide_eq_true (by omega) | (simp; done) | (simp; omega)) ?_ | refine w_cmp rfl (c2 := false) (by first | exact decide_eq_false (by omega) | (simp; done) | (simp; omega)) ?_ | refine w_ld rfl (by first | exact rd_g ‹_› rfl | assumption) ?_ | refine w_ldn rfl (by first | exact rd_all ‹_› rfl | assumption) ?_ | refine w_iad rfl (by first | omega | (simp; done) | (simp; omega)) ?_ | refine w_mul rfl (by omega) ?_ | refine w_rem rfl (by omega) (by omega) ?_ | refine w_quo rfl (by omega) (by omega) ?_ | refine w_addu rfl (by omega) ?_ | refine w_mulu rfl (by omega) ?_ | refine w_quou rfl (by omega) (by omega) ?_ | refine w_max rfl ?_ | refine w_min rfl ?_ | refine w_opk rfl rfl ?_ | refine w_cuw rfl ?_ | refine w_adduw rfl ?_ | refine ai_seq ?_ | refine ai_reg ?_ | refine ai_cond (b := true) rfl (fun _ => ?_) (fun hb => by cases hb) | refine ai_cond (b := false) rfl (fun hb => by cases hb) (fun _ => ?_) | refine ai_skip ?_ | refine ai_drw (by kernel_rfl) ?_ | refine ai_block ?_ | refine ai_exit ?_ | (refine ai_ret ?_; repeat (first | rw [thenQ_r] | rw [blockQ_r] | rw [roundE_r])))
    refine ai_loopE (γ := Nat) (fun j => [(2, nI z), (7, nI k), (8, nI s), (9, ptr Hp.empty.nx), (10, nI i), (11, nI j)]) (fun j h' => LF h' S2 Hp.empty.nx (LE k i j) k ∧ j ≤ i) (fun j => i - j) 0
      (by repeat (first | exact le_nil | refine le_cons rfl ?_)) ⟨a4, Nat.zero_le _⟩ ?_
    rintro j h5 ⟨a5, hj⟩
    by_cases hji : j < i
    · repeat (first | refine sS ?_ | refine dS ?_ | refine w_mv rfl ?_ | refine w_gT rfl rfl ?_ | refine w_gF rfl rfl ?_ | refine w_gU rfl ?_ | refine w_add rfl (by omega) ?_ | refine w_sub rfl (by omega) ?_ | refine w_ci rfl (by omega) ?_ | refine w_cu rfl (by omega) ?_ | refine w_cmp rfl (c2 := true) (by first | exact decide_eq_true (by omega) | (simp; done) | (simp; omega)) ?_ | refine w_cmp rfl (c2 := false) (by first | exact decide_eq_false (by omega) | (simp; done) | (simp; omega)) ?_ | refine w_ld rfl (by first | exact rd_g ‹_› rfl | assumption) ?_ | refine w_ldn rfl (by first | exact rd_all ‹_› rfl | assumption) ?_ | refine w_iad rfl (by first | omega | (simp; done) | (simp; omega)) ?_ | refine w_mul rfl (by omega) ?_ | refine w_rem rfl (by omega) (by omega) ?_ | refine w_quo rfl (by omega) (by omega) ?_ | refine w_addu rfl (by omega) ?_ | refine w_mulu rfl (by omega) ?_ | refine w_quou rfl (by omega) (by omega) ?_ | refine w_max rfl ?_ | refine w_min rfl ?_ | refine w_opk rfl rfl ?_ | refine w_cuw rfl ?_ | refine w_adduw rfl ?_ | refine ai_seq ?_ | refine ai_reg ?_ | refine ai_cond (b := true) rfl (fun _ => ?_) (fun hb => by cases hb) | refine ai_cond (b := false) rfl (fun hb => by cases hb) (fun _ => ?_) | refine ai_skip ?_ | refine ai_drw (by kernel_rfl) ?_ | refine ai_block ?_ | refine ai_exit ?_ | (refine ai_ret ?_; repeat (first | rw [thenQ_r] | rw [blockQ_r] | rw [roundE_r])))
      refine w_call rfl ((enter_lf _ a5 (by rw [LE_len]; omega) (by intro p hp; have := (LE_mem hp).2; omega)).mono ?_)
      rintro v h6 ⟨rfl, a6, _⟩
      rw [LE_enter hik] at a6 ⊢
      repeat (first | refine sS ?_ | refine dS ?_ | refine w_mv rfl ?_ | refine w_gT rfl rfl ?_ | refine w_gF rfl rfl ?_ | refine w_gU rfl ?_ | refine w_add rfl (by omega) ?_ | refine w_sub rfl (by omega) ?_ | refine w_ci rfl (by omega) ?_ | refine w_cu rfl (by omega) ?_ | refine w_cmp rfl (c2 := true) (by first | exact decide_eq_true (by omega) | (simp; done) | (simp; omega)) ?_ | refine w_cmp rfl (c2 := false) (by first | exact decide_eq_false (by omega) | (simp; done) | (simp; omega)) ?_ | refine w_ld rfl (by first | exact rd_g ‹_› rfl | assumption) ?_ | refine w_ldn rfl (by first | exact rd_all ‹_› rfl | assumption) ?_ | refine w_iad rfl (by first | omega | (simp; done) | (simp; omega)) ?_ | refine w_mul rfl (by omega) ?_ | refine w_rem rfl (by omega) (by omega) ?_ | refine w_quo rfl (by omega) (by omega) ?_ | refine w_addu rfl (by omega) ?_ | refine w_mulu rfl (by omega) ?_ | refine w_quou rfl (by omega) (by omega) ?_ | refine w_max rfl ?_ | refine w_min rfl ?_ | refine w_opk rfl rfl ?_ | refine w_cuw rfl ?_ | refine w_adduw rfl ?_ | refine ai_seq ?_ | refine ai_reg ?_ | refine ai_cond (b := true) rfl (fun _ => ?_) (fun hb => by cases hb) | refine ai_cond (b := false) rfl (fun hb => by cases hb) (fun _ => ?_) | refine ai_skip ?_ | refine ai_drw (by kernel_rfl) ?_ | refine ai_block ?_ | refine ai_exit ?_ | (refine ai_ret ?_; repeat (first | rw [thenQ_r] | rw [blockQ_r] | rw [roundE_r])))
      exact ⟨j + 1, (by repeat (first | exact le_nil | refine le_cons rfl ?_)), ⟨a6, by omega⟩, by dsimp only; omega⟩
    · rw [show j = i by omega, LE_next] at a5
      repeat (first | refine sS ?_ | refine dS ?_ | refine w_mv rfl ?_ | refine w_gT rfl rfl ?_ | refine w_gF rfl rfl ?_ | refine w_gU rfl ?_ | refine w_add rfl (by omega) ?_ | refine w_sub rfl (by omega) ?_ | refine w_ci rfl (by omega) ?_ | refine w_cu rfl (by omega) ?_ | refine w_cmp rfl (c2 := true) (by first | exact decide_eq_true (by omega) | (simp; done) | (simp; omega)) ?_ | refine w_cmp rfl (c2 := false) (by first | exact decide_eq_false (by omega) | (simp; done) | (simp; omega)) ?_ | refine w_ld rfl (by first | exact rd_g ‹_› rfl | assumption) ?_ | refine w_ldn rfl (by first | exact rd_all ‹_› rfl | assumption) ?_ | refine w_iad rfl (by first | omega | (simp; done) | (simp; omega)) ?_ | refine w_mul rfl (by omega) ?_ | refine w_rem rfl (by omega) (by omega) ?_ | refine w_quo rfl (by omega) (by omega) ?_ | refine w_addu rfl (by omega) ?_ | refine w_mulu rfl (by omega) ?_ | refine w_quou rfl (by omega) (by omega) ?_ | refine w_max rfl ?_ | refine w_min rfl ?_ | refine w_opk rfl rfl ?_ | refine w_cuw rfl ?_ | refine w_adduw rfl ?_ | refine ai_seq ?_ | refine ai_reg ?_ | refine ai_cond (b := true) rfl (fun _ => ?_) (fun hb => by cases hb) | refine ai_cond (b := false) rfl (fun hb => by cases hb) (fun _ => ?_) | refine ai_skip ?_ | refine ai_drw (by kernel_rfl) ?_ | refine ai_block ?_ | refine ai_exit ?_ | (refine ai_ret ?_; repeat (first | rw [thenQ_r] | rw [blockQ_r] | rw [roundE_r])))
      exact ⟨i + 1, (by repeat (first | exact le_nil | refine le_cons rfl ?_)), ⟨a5, by omega⟩, by dsimp only; omega⟩
  rw [show i = k by omega] at a4
  have hall : ∀ p ∈ LE k k 0, p.2.1 ≠ 3 := fun p hp => by have := (LE_mem hp).1; omega
  have hcf : cF (LE k k 0) = k := by rw [cF_all hall, LE_len]
  repeat (first | refine sS ?_ | refine dS ?_ | refine w_mv rfl ?_ | refine w_gT rfl rfl ?_ | refine w_gF rfl rfl ?_ | refine w_gU rfl ?_ | refine w_add rfl (by omega) ?_ | refine w_sub rfl (by omega) ?_ | refine w_ci rfl (by omega) ?_ | refine w_cu rfl (by omega) ?_ | refine w_cmp rfl (c2 := true) (by first | exact decide_eq_true (by omega) | (simp; done) | (simp; omega)) ?_ | refine w_cmp rfl (c2 := false) (by first | exact decide_eq_false (by omega) | (simp; done) | (simp; omega)) ?_ | refine w_ld rfl (by first | exact rd_g ‹_› rfl | assumption) ?_ | refine w_ldn rfl (by first | exact rd_all ‹_› rfl | assumption) ?_ | refine w_iad rfl (by first | omega | (simp; done) | (simp; omega)) ?_ | refine w_mul rfl (by omega) ?_ | refine w_rem rfl (by omega) (by omega) ?_ | refine w_quo rfl (by omega) (by omega) ?_ | refine w_addu rfl (by omega) ?_ | refine w_mulu rfl (by omega) ?_ | refine w_quou rfl (by omega) (by omega) ?_ | refine w_max rfl ?_ | refine w_min rfl ?_ | refine w_opk rfl rfl ?_ | refine w_cuw rfl ?_ | refine w_adduw rfl ?_ | refine ai_seq ?_ | refine ai_reg ?_ | refine ai_cond (b := true) rfl (fun _ => ?_) (fun hb => by cases hb) | refine ai_cond (b := false) rfl (fun hb => by cases hb) (fun _ => ?_) | refine ai_skip ?_ | refine ai_drw (by kernel_rfl) ?_ | refine ai_block ?_ | refine ai_exit ?_ | (refine ai_ret ?_; repeat (first | rw [thenQ_r] | rw [blockQ_r] | rw [roundE_r])))
  refine w_call rfl ((scale_lf _ a4 (by rw [LE_len]; omega) (by omega) (by omega) (by omega)).mono ?_)
  rintro v h5 ⟨rfl, S5, a5, _, _⟩
  have e5 : scL k 1 ((k : Int) + s).toNat (LE k k 0) = LE k k 0 ++ newF k 1 s := by
    unfold scL
    rw [show ((k : Int) + s).toNat = k + s by omega, hcf, if_pos (by omega), show k + s - k = s by omega]
  have m5 : scM k ((k : Int) + s).toNat (LE k k 0) = (k : Int) + s := by unfold scM; rw [hcf]; omega
  rw [e5, m5] at a5
  have hq1 := Int.emod_nonneg (IntKind.u64.wrap z) (show (k : Int) + s + 1 ≠ 0 by omega)
  have hq2 := Int.emod_lt_of_pos (IntKind.u64.wrap z) (show (0 : Int) < (k : Int) + s + 1 by omega)
  repeat (first | refine sS ?_ | refine dS ?_ | refine w_mv rfl ?_ | refine w_gT rfl rfl ?_ | refine w_gF rfl rfl ?_ | refine w_gU rfl ?_ | refine w_add rfl (by omega) ?_ | refine w_sub rfl (by omega) ?_ | refine w_ci rfl (by omega) ?_ | refine w_cu rfl (by omega) ?_ | refine w_cmp rfl (c2 := true) (by first | exact decide_eq_true (by omega) | (simp; done) | (simp; omega)) ?_ | refine w_cmp rfl (c2 := false) (by first | exact decide_eq_false (by omega) | (simp; done) | (simp; omega)) ?_ | refine w_ld rfl (by first | exact rd_g ‹_› rfl | assumption) ?_ | refine w_ldn rfl (by first | exact rd_all ‹_› rfl | assumption) ?_ | refine w_iad rfl (by first | omega | (simp; done) | (simp; omega)) ?_ | refine w_mul rfl (by omega) ?_ | refine w_rem rfl (by omega) (by omega) ?_ | refine w_quo rfl (by omega) (by omega) ?_ | refine w_addu rfl (by omega) ?_ | refine w_mulu rfl (by omega) ?_ | refine w_quou rfl (by omega) (by omega) ?_ | refine w_max rfl ?_ | refine w_min rfl ?_ | refine w_opk rfl rfl ?_ | refine w_cuw rfl ?_ | refine w_adduw rfl ?_ | refine ai_seq ?_ | refine ai_reg ?_ | refine ai_cond (b := true) rfl (fun _ => ?_) (fun hb => by cases hb) | refine ai_cond (b := false) rfl (fun hb => by cases hb) (fun _ => ?_) | refine ai_skip ?_ | refine ai_drw (by kernel_rfl) ?_ | refine ai_block ?_ | refine ai_exit ?_ | (refine ai_ret ?_; repeat (first | rw [thenQ_r] | rw [blockQ_r] | rw [roundE_r])))
  obtain ⟨w, hw⟩ : ∃ w : Nat, IntKind.u64.wrap z % ((k : Int) + s + 1) = w := ⟨(IntKind.u64.wrap z % ((k : Int) + s + 1)).toNat, by omega⟩
  rw [hw] at hq2 ⊢
  refine w_call rfl ((scale_lf _ a5 (by simp [LE_len, newF]; omega) (by omega) (by omega) (by omega)).mono ?_)
  rintro v h6 ⟨rfl, S6, a6, _, _⟩
  rw [Int.toNat_natCast] at a6
  have hg := goes_all k (by omega) s (by omega) w (by omega)
  have hc6 : cF (scL ((k : Int) + s) 2 w (LE k k 0 ++ newF k 1 s)) = w := scL_c
  have hl6 : (scL ((k : Int) + s) 2 w (LE k k 0 ++ newF k 1 s)).length ≤ 100 := by
    unfold scL
    split
    · simp [LE_len, newF]; omega
    · have := dnN_len 2 (LE k k 0 ++ newF k 1 s) (cF (LE k k 0 ++ newF k 1 s) - w)
      simp [LE_len, newF] at this ⊢
      omega
  generalize scL ((k : Int) + s) 2 w (LE k k 0 ++ newF k 1 s) = l at a6 hg hc6 hl6
  simp only [goB, Bool.and_eq_true, decide_eq_true_eq, List.all_eq_true] at hg
  repeat (first | refine sS ?_ | refine dS ?_ | refine w_mv rfl ?_ | refine w_gT rfl rfl ?_ | refine w_gF rfl rfl ?_ | refine w_gU rfl ?_ | refine w_add rfl (by omega) ?_ | refine w_sub rfl (by omega) ?_ | refine w_ci rfl (by omega) ?_ | refine w_cu rfl (by omega) ?_ | refine w_cmp rfl (c2 := true) (by first | exact decide_eq_true (by omega) | (simp; done) | (simp; omega)) ?_ | refine w_cmp rfl (c2 := false) (by first | exact decide_eq_false (by omega) | (simp; done) | (simp; omega)) ?_ | refine w_ld rfl (by first | exact rd_g ‹_› rfl | assumption) ?_ | refine w_ldn rfl (by first | exact rd_all ‹_› rfl | assumption) ?_ | refine w_iad rfl (by first | omega | (simp; done) | (simp; omega)) ?_ | refine w_mul rfl (by omega) ?_ | refine w_rem rfl (by omega) (by omega) ?_ | refine w_quo rfl (by omega) (by omega) ?_ | refine w_addu rfl (by omega) ?_ | refine w_mulu rfl (by omega) ?_ | refine w_quou rfl (by omega) (by omega) ?_ | refine w_max rfl ?_ | refine w_min rfl ?_ | refine w_opk rfl rfl ?_ | refine w_cuw rfl ?_ | refine w_adduw rfl ?_ | refine ai_seq ?_ | refine ai_reg ?_ | refine ai_cond (b := true) rfl (fun _ => ?_) (fun hb => by cases hb) | refine ai_cond (b := false) rfl (fun hb => by cases hb) (fun _ => ?_) | refine ai_skip ?_ | refine ai_drw (by kernel_rfl) ?_ | refine ai_block ?_ | refine ai_exit ?_ | (refine ai_ret ?_; repeat (first | rw [thenQ_r] | rw [blockQ_r] | rw [roundE_r])))
  refine w_call rfl ((all_lf _ a6 (by omega)).mono ?_)
  rintro v h7 ⟨r7, x7⟩
  have a7 := a6.ext x7
  obtain ⟨yy, rfl⟩ := r7.lenn rfl
  repeat (first | refine sS ?_ | refine dS ?_ | refine w_mv rfl ?_ | refine w_gT rfl rfl ?_ | refine w_gF rfl rfl ?_ | refine w_gU rfl ?_ | refine w_add rfl (by omega) ?_ | refine w_sub rfl (by omega) ?_ | refine w_ci rfl (by omega) ?_ | refine w_cu rfl (by omega) ?_ | refine w_cmp rfl (c2 := true) (by first | exact decide_eq_true (by omega) | (simp; done) | (simp; omega)) ?_ | refine w_cmp rfl (c2 := false) (by first | exact decide_eq_false (by omega) | (simp; done) | (simp; omega)) ?_ | refine w_ld rfl (by first | exact rd_g ‹_› rfl | assumption) ?_ | refine w_ldn rfl (by first | exact rd_all ‹_› rfl | assumption) ?_ | refine w_iad rfl (by first | omega | (simp; done) | (simp; omega)) ?_ | refine w_mul rfl (by omega) ?_ | refine w_rem rfl (by omega) (by omega) ?_ | refine w_quo rfl (by omega) (by omega) ?_ | refine w_addu rfl (by omega) ?_ | refine w_mulu rfl (by omega) ?_ | refine w_quou rfl (by omega) (by omega) ?_ | refine w_max rfl ?_ | refine w_min rfl ?_ | refine w_opk rfl rfl ?_ | refine w_cuw rfl ?_ | refine w_adduw rfl ?_ | refine ai_seq ?_ | refine ai_reg ?_ | refine ai_cond (b := true) rfl (fun _ => ?_) (fun hb => by cases hb) | refine ai_cond (b := false) rfl (fun hb => by cases hb) (fun _ => ?_) | refine ai_skip ?_ | refine ai_drw (by kernel_rfl) ?_ | refine ai_block ?_ | refine ai_exit ?_ | (refine ai_ret ?_; repeat (first | rw [thenQ_r] | rw [blockQ_r] | rw [roundE_r])))
  refine ai_loopE (γ := Nat) (fun j => [(7, nI k), (9, ptr Hp.empty.nx), (12, nI w), (13, .slice yy l.length l.length), (14, nI (rF (l.take j)).length), (15, nI j)]) (fun j h' => h' = h7 ∧ j ≤ l.length) (fun j => l.length - j) 0
    (by repeat (first | exact le_nil | refine le_cons rfl ?_)) ⟨rfl, Nat.zero_le _⟩ ?_
  rintro j h8 ⟨rfl, hj⟩
  by_cases hjl : j < l.length
  case neg =>
    have hrl : ((rF (l.take j)).length : Int) = min (w : Int) k := by
      rw [List.take_of_length_le (show l.length ≤ j by omega), hg.2]
      omega
    rw [hrl]
    repeat (first | refine sS ?_ | refine dS ?_ | refine w_mv rfl ?_ | refine w_gT rfl rfl ?_ | refine w_gF rfl rfl ?_ | refine w_gU rfl ?_ | refine w_add rfl (by omega) ?_ | refine w_sub rfl (by omega) ?_ | refine w_ci rfl (by omega) ?_ | refine w_cu rfl (by omega) ?_ | refine w_cmp rfl (c2 := true) (by first | exact decide_eq_true (by omega) | (simp; done) | (simp; omega)) ?_ | refine w_cmp rfl (c2 := false) (by first | exact decide_eq_false (by omega) | (simp; done) | (simp; omega)) ?_ | refine w_ld rfl (by first | exact rd_g ‹_› rfl | assumption) ?_ | refine w_ldn rfl (by first | exact rd_all ‹_› rfl | assumption) ?_ | refine w_iad rfl (by first | omega | (simp; done) | (simp; omega)) ?_ | refine w_mul rfl (by omega) ?_ | refine w_rem rfl (by omega) (by omega) ?_ | refine w_quo rfl (by omega) (by omega) ?_ | refine w_addu rfl (by omega) ?_ | refine w_mulu rfl (by omega) ?_ | refine w_quou rfl (by omega) (by omega) ?_ | refine w_max rfl ?_ | refine w_min rfl ?_ | refine w_opk rfl rfl ?_ | refine w_cuw rfl ?_ | refine w_adduw rfl ?_ | refine ai_seq ?_ | refine ai_reg ?_ | refine ai_cond (b := true) rfl (fun _ => ?_) (fun hb => by cases hb) | refine ai_cond (b := false) rfl (fun hb => by cases hb) (fun _ => ?_) | refine ai_skip ?_ | refine ai_drw (by kernel_rfl) ?_ | refine ai_block ?_ | refine ai_exit ?_ | (refine ai_ret ?_; repeat (first | rw [thenQ_r] | rw [blockQ_r] | rw [roundE_r])))
    refine w_call rfl ((told_ok _).mono ?_)
    rintro v _ ⟨rfl, rfl⟩
    repeat (first | refine sS ?_ | refine dS ?_ | refine w_mv rfl ?_ | refine w_gT rfl rfl ?_ | refine w_gF rfl rfl ?_ | refine w_gU rfl ?_ | refine w_add rfl (by omega) ?_ | refine w_sub rfl (by omega) ?_ | refine w_ci rfl (by omega) ?_ | refine w_cu rfl (by omega) ?_ | refine w_cmp rfl (c2 := true) (by first | exact decide_eq_true (by omega) | (simp; done) | (simp; omega)) ?_ | refine w_cmp rfl (c2 := false) (by first | exact decide_eq_false (by omega) | (simp; done) | (simp; omega)) ?_ | refine w_ld rfl (by first | exact rd_g ‹_› rfl | assumption) ?_ | refine w_ldn rfl (by first | exact rd_all ‹_› rfl | assumption) ?_ | refine w_iad rfl (by first | omega | (simp; done) | (simp; omega)) ?_ | refine w_mul rfl (by omega) ?_ | refine w_rem rfl (by omega) (by omega) ?_ | refine w_quo rfl (by omega) (by omega) ?_ | refine w_addu rfl (by omega) ?_ | refine w_mulu rfl (by omega) ?_ | refine w_quou rfl (by omega) (by omega) ?_ | refine w_max rfl ?_ | refine w_min rfl ?_ | refine w_opk rfl rfl ?_ | refine w_cuw rfl ?_ | refine w_adduw rfl ?_ | refine ai_seq ?_ | refine ai_reg ?_ | refine ai_cond (b := true) rfl (fun _ => ?_) (fun hb => by cases hb) | refine ai_cond (b := false) rfl (fun hb => by cases hb) (fun _ => ?_) | refine ai_skip ?_ | refine ai_drw (by kernel_rfl) ?_ | refine ai_block ?_ | refine ai_exit ?_ | (refine ai_ret ?_; repeat (first | rw [thenQ_r] | rw [blockQ_r] | rw [roundE_r])))
    refine w_call rfl ((count_lf _ a7 (by omega)).mono ?_)
    rintro v h9 ⟨rfl, x9⟩
    rw [hc6]
    repeat (first | refine sS ?_ | refine dS ?_ | refine w_mv rfl ?_ | refine w_gT rfl rfl ?_ | refine w_gF rfl rfl ?_ | refine w_gU rfl ?_ | refine w_add rfl (by omega) ?_ | refine w_sub rfl (by omega) ?_ | refine w_ci rfl (by omega) ?_ | refine w_cu rfl (by omega) ?_ | refine w_cmp rfl (c2 := true) (by first | exact decide_eq_true (by omega) | (simp; done) | (simp; omega)) ?_ | refine w_cmp rfl (c2 := false) (by first | exact decide_eq_false (by omega) | (simp; done) | (simp; omega)) ?_ | refine w_ld rfl (by first | exact rd_g ‹_› rfl | assumption) ?_ | refine w_ldn rfl (by first | exact rd_all ‹_› rfl | assumption) ?_ | refine w_iad rfl (by first | omega | (simp; done) | (simp; omega)) ?_ | refine w_mul rfl (by omega) ?_ | refine w_rem rfl (by omega) (by omega) ?_ | refine w_quo rfl (by omega) (by omega) ?_ | refine w_addu rfl (by omega) ?_ | refine w_mulu rfl (by omega) ?_ | refine w_quou rfl (by omega) (by omega) ?_ | refine w_max rfl ?_ | refine w_min rfl ?_ | refine w_opk rfl rfl ?_ | refine w_cuw rfl ?_ | refine w_adduw rfl ?_ | refine ai_seq ?_ | refine ai_reg ?_ | refine ai_cond (b := true) rfl (fun _ => ?_) (fun hb => by cases hb) | refine ai_cond (b := false) rfl (fun hb => by cases hb) (fun _ => ?_) | refine ai_skip ?_ | refine ai_drw (by kernel_rfl) ?_ | refine ai_block ?_ | refine ai_exit ?_ | (refine ai_ret ?_; repeat (first | rw [thenQ_r] | rw [blockQ_r] | rw [roundE_r])))
    exact end_one rfl rfl
  obtain ⟨q, hq⟩ : ∃ q, l[j]? = some q := ⟨_, List.getElem?_eq_getElem hjl⟩
  obtain ⟨k9, e, _, _, hr0, hr1, hr2, _⟩ := r7.fld rfl hq
  cases e
  have hgo := hg.1 q (List.mem_of_getElem? hq)
  have hrt := rC_take hq
  have hrn : (rF (l.take j)).length ≤ 100 := by have := rF_le (l.take j); rw [List.length_take] at this; omega
  simp only [go1, Bool.or_eq_true, Bool.and_eq_true, decide_eq_true_eq] at hgo
  rcases hgo with (⟨g1, g2⟩ | ⟨g1, g2⟩) | ⟨⟨g1, g2⟩, g3⟩
  · rw [if_pos g1] at hrt
    repeat (first | refine sS ?_ | refine dS ?_ | refine w_mv rfl ?_ | refine w_gT rfl rfl ?_ | refine w_gF rfl rfl ?_ | refine w_gU rfl ?_ | refine w_add rfl (by omega) ?_ | refine w_sub rfl (by omega) ?_ | refine w_ci rfl (by omega) ?_ | refine w_cu rfl (by omega) ?_ | refine w_cmp rfl (c2 := true) (by first | exact decide_eq_true (by omega) | (simp; done) | (simp; omega)) ?_ | refine w_cmp rfl (c2 := false) (by first | exact decide_eq_false (by omega) | (simp; done) | (simp; omega)) ?_ | refine w_ld rfl (by first | exact rd_g ‹_› rfl | assumption) ?_ | refine w_ldn rfl (by first | exact rd_all ‹_› rfl | assumption) ?_ | refine w_iad rfl (by first | omega | (simp; done) | (simp; omega)) ?_ | refine w_mul rfl (by omega) ?_ | refine w_rem rfl (by omega) (by omega) ?_ | refine w_quo rfl (by omega) (by omega) ?_ | refine w_addu rfl (by omega) ?_ | refine w_mulu rfl (by omega) ?_ | refine w_quou rfl (by omega) (by omega) ?_ | refine w_max rfl ?_ | refine w_min rfl ?_ | refine w_opk rfl rfl ?_ | refine w_cuw rfl ?_ | refine w_adduw rfl ?_ | refine ai_seq ?_ | refine ai_reg ?_ | refine ai_cond (b := true) rfl (fun _ => ?_) (fun hb => by cases hb) | refine ai_cond (b := false) rfl (fun hb => by cases hb) (fun _ => ?_) | refine ai_skip ?_ | refine ai_drw (by kernel_rfl) ?_ | refine ai_block ?_ | refine ai_exit ?_ | (refine ai_ret ?_; repeat (first | rw [thenQ_r] | rw [blockQ_r] | rw [roundE_r])))
    exact ⟨j + 1, by dsimp only; rw [hrt]; exact (by repeat (first | exact le_nil | refine le_cons rfl ?_)), ⟨rfl, by omega⟩, by dsimp only; omega⟩
  · rw [if_neg (by omega), Int.add_zero] at hrt
    repeat (first | refine sS ?_ | refine dS ?_ | refine w_mv rfl ?_ | refine w_gT rfl rfl ?_ | refine w_gF rfl rfl ?_ | refine w_gU rfl ?_ | refine w_add rfl (by omega) ?_ | refine w_sub rfl (by omega) ?_ | refine w_ci rfl (by omega) ?_ | refine w_cu rfl (by omega) ?_ | refine w_cmp rfl (c2 := true) (by first | exact decide_eq_true (by omega) | (simp; done) | (simp; omega)) ?_ | refine w_cmp rfl (c2 := false) (by first | exact decide_eq_false (by omega) | (simp; done) | (simp; omega)) ?_ | refine w_ld rfl (by first | exact rd_g ‹_› rfl | assumption) ?_ | refine w_ldn rfl (by first | exact rd_all ‹_› rfl | assumption) ?_ | refine w_iad rfl (by first | omega | (simp; done) | (simp; omega)) ?_ | refine w_mul rfl (by omega) ?_ | refine w_rem rfl (by omega) (by omega) ?_ | refine w_quo rfl (by omega) (by omega) ?_ | refine w_addu rfl (by omega) ?_ | refine w_mulu rfl (by omega) ?_ | refine w_quou rfl (by omega) (by omega) ?_ | refine w_max rfl ?_ | refine w_min rfl ?_ | refine w_opk rfl rfl ?_ | refine w_cuw rfl ?_ | refine w_adduw rfl ?_ | refine ai_seq ?_ | refine ai_reg ?_ | refine ai_cond (b := true) rfl (fun _ => ?_) (fun hb => by cases hb) | refine ai_cond (b := false) rfl (fun hb => by cases hb) (fun _ => ?_) | refine ai_skip ?_ | refine ai_drw (by kernel_rfl) ?_ | refine ai_block ?_ | refine ai_exit ?_ | (refine ai_ret ?_; repeat (first | rw [thenQ_r] | rw [blockQ_r] | rw [roundE_r])))
    exact ⟨j + 1, by dsimp only; rw [hrt]; exact (by repeat (first | exact le_nil | refine le_cons rfl ?_)), ⟨rfl, by omega⟩, by dsimp only; omega⟩
  · rw [if_neg (by omega), Int.add_zero] at hrt
    repeat (first | refine sS ?_ | refine dS ?_ | refine w_mv rfl ?_ | refine w_gT rfl rfl ?_ | refine w_gF rfl rfl ?_ | refine w_gU rfl ?_ | refine w_add rfl (by omega) ?_ | refine w_sub rfl (by omega) ?_ | refine w_ci rfl (by omega) ?_ | refine w_cu rfl (by omega) ?_ | refine w_cmp rfl (c2 := true) (by first | exact decide_eq_true (by omega) | (simp; done) | (simp; omega)) ?_ | refine w_cmp rfl (c2 := false) (by first | exact decide_eq_false (by omega) | (simp; done) | (simp; omega)) ?_ | refine w_ld rfl (by first | exact rd_g ‹_› rfl | assumption) ?_ | refine w_ldn rfl (by first | exact rd_all ‹_› rfl | assumption) ?_ | refine w_iad rfl (by first | omega | (simp; done) | (simp; omega)) ?_ | refine w_mul rfl (by omega) ?_ | refine w_rem rfl (by omega) (by omega) ?_ | refine w_quo rfl (by omega) (by omega) ?_ | refine w_addu rfl (by omega) ?_ | refine w_mulu rfl (by omega) ?_ | refine w_quou rfl (by omega) (by omega) ?_ | refine w_max rfl ?_ | refine w_min rfl ?_ | refine w_opk rfl rfl ?_ | refine w_cuw rfl ?_ | refine w_adduw rfl ?_ | refine ai_seq ?_ | refine ai_reg ?_ | refine ai_cond (b := true) rfl (fun _ => ?_) (fun hb => by cases hb) | refine ai_cond (b := false) rfl (fun hb => by cases hb) (fun _ => ?_) | refine ai_skip ?_ | refine ai_drw (by kernel_rfl) ?_ | refine ai_block ?_ | refine ai_exit ?_ | (refine ai_ret ?_; repeat (first | rw [thenQ_r] | rw [blockQ_r] | rw [roundE_r])))
    exact ⟨j + 1, by dsimp only; rw [hrt]; exact (by repeat (first | exact le_nil | refine le_cons rfl ?_)), ⟨rfl, by omega⟩, by dsimp only; omega⟩
end Go.Proofs.YtnebdnbglggdkaaW.Am
