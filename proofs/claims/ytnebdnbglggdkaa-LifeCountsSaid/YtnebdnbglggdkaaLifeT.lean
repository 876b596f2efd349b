/- Pods over abstract heaps: the law LifeCrashes. -/
import Derived.Test.YtnebdnbglggdkaaLifeR
import Derived.Test.YtnebdnbglggdkaaAmZ
namespace Go.Proofs.YtnebdnbglggdkaaW.Am
open Go Go.RowKit
theorem A4.atl {N n : Nat} {h : Hp} {s : Value} {l : List Pd} (a : A4 N h s l) (hl : l.length = n) {i : Nat} {p : Pd} (hi : l[i]? = some p) : ∃ k, s = .slice (some ⟨k, 0, some 0⟩) n n ∧ k < h.nx ∧ N ≤ k ∧ h.rd k (0 + i * 4) 4 = some (p4 p) := by
  subst hl; exact a.at hi
/-- Ready pods 0, 1, .. with so many in flight at one of them. -/
def LS (k w : Nat) (i : Int) : List Pd := (List.range k).map fun (j : Nat) => ((j : Int), 2, if j = w then i else 0, 0)
theorem LS_len (k w : Nat) (i : Int) : (LS k w i).length = k := by simp [LS]
theorem LS_get {k w j : Nat} {i : Int} (h : j < k) : (LS k w i)[j]? = some ((j : Int), 2, if j = w then i else 0, 0) := by simp [LS, h]
theorem LS_new (k w : Nat) : (newF 0 0 k).map (rpF 0 0) = LS k w 0 := by
  simp only [newF, LS, List.map_map]
  refine List.map_congr_left fun j _ => ?_
  simp [rpF]
theorem fI_at {l : List Pd} {id : Int} {k : Nat} {p : Pd} (h : l[k]? = some p) (hp : p.1 = id) (hn : ∀ j q, j < k → l[j]? = some q → q.1 ≠ id) : fI l id = k := by
  obtain ⟨hk, rfl⟩ := List.getElem?_eq_some_iff.1 h
  refine (List.findIdx_eq hk).2 ⟨decide_eq_true hp, fun j hj => decide_eq_false (hn j _ hj (List.getElem?_eq_getElem (by omega)))⟩
theorem fI_no {l : List Pd} {id : Int} (h : ∀ p ∈ l, p.1 ≠ id) : l.getD (fI l id) p0 = p0 := by
  refine getD_out (Nat.le_of_eq (Eq.symm ?_))
  unfold fI
  rw [List.findIdx_eq_length]
  exact fun p hp => decide_eq_false (h p hp)
theorem LS_fI {k w : Nat} {i : Int} (h : w < k) : fI (LS k w i) w = w := by
  refine fI_at (LS_get h) rfl fun j q hj hq => ?_
  rw [LS_get (by omega)] at hq
  cases hq
  dsimp only
  omega
theorem getD_of {l : List Pd} {k : Nat} {p : Pd} (h : l[k]? = some p) : l.getD k p0 = p := by rw [List.getD_eq_getElem?_getD, h]; rfl
theorem LS_enter {k w : Nat} {i : Int} (h : w < k) : enF (LS k w i) w = (LS k w (i + 1), 0) := by
  unfold enF
  rw [LS_fI h, getD_of (LS_get h), if_pos rfl]
  refine Prod.ext ?_ rfl
  refine List.ext_getElem? fun j => ?_
  dsimp only
  rw [List.getElem?_set]
  by_cases hj : j < k
  · rw [LS_get (i := i) hj, LS_get (i := i + 1) hj]
    split
    · next e => subst e; rw [if_pos (by rw [LS_len]; exact h)]; simp
    · next e => rw [if_neg (Ne.symm e), if_neg (Ne.symm e)]
  · have e : w ≠ j := by omega
    rw [if_neg e, List.getElem?_eq_none (by rw [LS_len]; omega), List.getElem?_eq_none (by rw [LS_len]; omega)]
theorem cF_all {l : List Pd} (h : ∀ p ∈ l, p.2.1 ≠ 3) : cF l = l.length := by
  unfold cF
  rw [List.filter_eq_self.2 (fun p hp => decide_eq_true (h p hp))]
theorem LS_mem {k w : Nat} {i : Int} {p : Pd} (h : p ∈ LS k w i) : p.2.1 = 2 ∧ p.2.2.2 = 0 ∧ (p.2.2.1 = i ∨ p.2.2.1 = 0) := by
  simp only [LS, List.mem_map] at h
  obtain ⟨j, _, rfl⟩ := h
  refine ⟨rfl, rfl, ?_⟩
  dsimp only
  split
  · exact .inl rfl
  · exact .inr rfl
/-- What is left when the one at place w is gone. -/
def LM (k w : Nat) (i : Int) : List Pd := (LS k w i).take w ++ (LS k w i).drop (w + 1)
theorem LM_len {k w : Nat} {i : Int} (h : w < k) : (LM k w i).length = k - 1 := by simp [LM, LS_len]; omega
theorem LM_mem {k w : Nat} {i : Int} {p : Pd} (h : p ∈ LM k w i) : p ∈ LS k w i ∧ p.1 ≠ w := by
  obtain ⟨j, hj, rfl⟩ := List.getElem_of_mem h
  have e : (LM k w i)[j]? = some (LM k w i)[j] := List.getElem?_eq_getElem hj
  generalize (LM k w i)[j] = p at e
  simp only [LM, List.getElem?_append] at e
  have g : ∃ m, m ≠ w ∧ (LS k w i)[m]? = some p := by
    split at e
    · next hlt => rw [List.getElem?_take] at e; split at e; exact ⟨j, by omega, e⟩; cases e
    · next hlt => rw [List.getElem?_drop] at e; exact ⟨_, by omega, e⟩
  obtain ⟨m, hm, e⟩ := g
  refine ⟨List.mem_of_getElem? e, ?_⟩
  have hmk : m < k := by have := (List.getElem?_eq_some_iff.1 e).1; rwa [LS_len] at this
  rw [LS_get hmk] at e
  cases e
  dsimp only
  omega
set_option maxHeartbeats 2000000 in
set_option maxRecDepth 10000 in
theorem crashes_ok (x y z : Int) : ACall PP 6 [nI x, nI y, nI z] Hp.empty (fun v _ => v = .bool true) := by
  have u1 := u64_rng x
  have u2 := u64_rng y
  have u3 := u64_rng z
  refine acall Go.Proofs.Try.func6 c6 (by simp [ir6]) ?_
  unfold ir6
  dsimp only
  repeat (first | refine sS ?_ | refine dS ?_ | refine w_mv rfl ?_ | refine w_gT rfl rfl ?_ | refine w_gF rfl rfl ?_ | refine w_gU rfl ?_ | refine w_add rfl (by omega) ?_ | refine w_sub rfl (by omega) ?_ | refine w_ci rfl (by omega) ?_ | refine w_cu rfl (by omega) ?_ | refine w_cmp rfl (c2 := true) (by first | exact decide_eq_true (by omega) | (simp; done) | (simp; omega)) ?_ | refine w_cmp rfl (c2 := false) (by first | exact decide_eq_false (by omega) | (simp; done) | (simp; omega)) ?_ | refine w_ld rfl (by first | exact rd_g ‹_› rfl | assumption) ?_ | refine w_ldn rfl (by first | exact rd_all ‹_› rfl | assumption) ?_ | refine w_iad rfl (by first | omega | (simp; done) | (simp; omega)) ?_ | refine w_mul rfl (by omega) ?_ | refine w_rem rfl (by omega) (by omega) ?_ | refine w_quo rfl (by omega) (by omega) ?_ | refine w_addu rfl (by omega) ?_ | refine w_mulu rfl (by omega) ?_ | refine w_quou rfl (by omega) (by omega) ?_ | refine w_max rfl ?_ | refine w_min rfl ?_ | refine w_opk rfl rfl ?_ | refine w_cuw rfl ?_ | refine w_adduw rfl ?_ | refine ai_seq ?_ | refine ai_reg ?_ | refine ai_cond (b := true) rfl (fun _ => ?_) (fun hb => by cases hb) | refine ai_cond (b := false) rfl (fun hb => by cases hb) (fun _ => ?_) | refine ai_skip ?_ | refine ai_drw (by kernel_rfl) ?_ | refine ai_block ?_ | refine ai_exit ?_ | (refine ai_ret ?_; repeat (first | rw [thenQ_r] | rw [blockQ_r] | rw [roundE_r])))
  refine w_call rfl ((new_lf _).mono ?_)
  rintro v h1 ⟨rfl, a1, x1⟩
  obtain ⟨k, hk⟩ : ∃ k : Nat, 1 + IntKind.u64.wrap x % 12 = k := ⟨(1 + IntKind.u64.wrap x % 12).toNat, by omega⟩
  obtain ⟨b, hb⟩ : ∃ b : Nat, IntKind.u64.wrap z % 10 = b := ⟨(IntKind.u64.wrap z % 10).toNat, by omega⟩
  rw [hk, hb]
  repeat (first | refine sS ?_ | refine dS ?_ | refine w_mv rfl ?_ | refine w_gT rfl rfl ?_ | refine w_gF rfl rfl ?_ | refine w_gU rfl ?_ | refine w_add rfl (by omega) ?_ | refine w_sub rfl (by omega) ?_ | refine w_ci rfl (by omega) ?_ | refine w_cu rfl (by omega) ?_ | refine w_cmp rfl (c2 := true) (by first | exact decide_eq_true (by omega) | (simp; done) | (simp; omega)) ?_ | refine w_cmp rfl (c2 := false) (by first | exact decide_eq_false (by omega) | (simp; done) | (simp; omega)) ?_ | refine w_ld rfl (by first | exact rd_g ‹_› rfl | assumption) ?_ | refine w_ldn rfl (by first | exact rd_all ‹_› rfl | assumption) ?_ | refine w_iad rfl (by first | omega | (simp; done) | (simp; omega)) ?_ | refine w_mul rfl (by omega) ?_ | refine w_rem rfl (by omega) (by omega) ?_ | refine w_quo rfl (by omega) (by omega) ?_ | refine w_addu rfl (by omega) ?_ | refine w_mulu rfl (by omega) ?_ | refine w_quou rfl (by omega) (by omega) ?_ | refine w_max rfl ?_ | refine w_min rfl ?_ | refine w_opk rfl rfl ?_ | refine w_cuw rfl ?_ | refine w_adduw rfl ?_ | refine ai_seq ?_ | refine ai_reg ?_ | refine ai_cond (b := true) rfl (fun _ => ?_) (fun hb => by cases hb) | refine ai_cond (b := false) rfl (fun hb => by cases hb) (fun _ => ?_) | refine ai_skip ?_ | refine ai_drw (by kernel_rfl) ?_ | refine ai_block ?_ | refine ai_exit ?_ | (refine ai_ret ?_; repeat (first | rw [thenQ_r] | rw [blockQ_r] | rw [roundE_r])))
  refine w_call rfl ((scale_lf _ a1 (by simp) (by omega) (by omega) (by omega)).mono ?_)
  rintro v h2 ⟨rfl, S2, a2, _, _⟩
  have e2 : scL 0 0 (Int.toNat k) [] = newF 0 0 k := by simp [scL, cF]
  have m2 : scM 0 (Int.toNat k) [] = k := by simp [scM, cF]
  rw [e2, m2] at a2
  repeat (first | refine sS ?_ | refine dS ?_ | refine w_mv rfl ?_ | refine w_gT rfl rfl ?_ | refine w_gF rfl rfl ?_ | refine w_gU rfl ?_ | refine w_add rfl (by omega) ?_ | refine w_sub rfl (by omega) ?_ | refine w_ci rfl (by omega) ?_ | refine w_cu rfl (by omega) ?_ | refine w_cmp rfl (c2 := true) (by first | exact decide_eq_true (by omega) | (simp; done) | (simp; omega)) ?_ | refine w_cmp rfl (c2 := false) (by first | exact decide_eq_false (by omega) | (simp; done) | (simp; omega)) ?_ | refine w_ld rfl (by first | exact rd_g ‹_› rfl | assumption) ?_ | refine w_ldn rfl (by first | exact rd_all ‹_› rfl | assumption) ?_ | refine w_iad rfl (by first | omega | (simp; done) | (simp; omega)) ?_ | refine w_mul rfl (by omega) ?_ | refine w_rem rfl (by omega) (by omega) ?_ | refine w_quo rfl (by omega) (by omega) ?_ | refine w_addu rfl (by omega) ?_ | refine w_mulu rfl (by omega) ?_ | refine w_quou rfl (by omega) (by omega) ?_ | refine w_max rfl ?_ | refine w_min rfl ?_ | refine w_opk rfl rfl ?_ | refine w_cuw rfl ?_ | refine w_adduw rfl ?_ | refine ai_seq ?_ | refine ai_reg ?_ | refine ai_cond (b := true) rfl (fun _ => ?_) (fun hb => by cases hb) | refine ai_cond (b := false) rfl (fun hb => by cases hb) (fun _ => ?_) | refine ai_skip ?_ | refine ai_drw (by kernel_rfl) ?_ | refine ai_block ?_ | refine ai_exit ?_ | (refine ai_ret ?_; repeat (first | rw [thenQ_r] | rw [blockQ_r] | rw [roundE_r])))
  refine w_call rfl ((ripe_lf _ a2 (by simp [newF]; omega) (by omega) (by omega) (by intro p hp; simp [newF] at hp; obtain ⟨j, _, rfl⟩ := hp; dsimp only; omega)).mono ?_)
  rintro v h3 ⟨a3, _⟩
  obtain ⟨w, hw⟩ : ∃ w : Nat, IntKind.u64.wrap y % (k : Int) = w := ⟨(IntKind.u64.wrap y % (k : Int)).toNat, by have := Int.emod_nonneg (IntKind.u64.wrap y) (show (k : Int) ≠ 0 by omega); omega⟩
  have hwk : w < k := by have := Int.emod_lt_of_pos (IntKind.u64.wrap y) (show (0 : Int) < k by omega); omega
  rw [LS_new k w] at a3
  repeat (first | refine sS ?_ | refine dS ?_ | refine w_mv rfl ?_ | refine w_gT rfl rfl ?_ | refine w_gF rfl rfl ?_ | refine w_gU rfl ?_ | refine w_add rfl (by omega) ?_ | refine w_sub rfl (by omega) ?_ | refine w_ci rfl (by omega) ?_ | refine w_cu rfl (by omega) ?_ | refine w_cmp rfl (c2 := true) (by first | exact decide_eq_true (by omega) | (simp; done) | (simp; omega)) ?_ | refine w_cmp rfl (c2 := false) (by first | exact decide_eq_false (by omega) | (simp; done) | (simp; omega)) ?_ | refine w_ld rfl (by first | exact rd_g ‹_› rfl | assumption) ?_ | refine w_ldn rfl (by first | exact rd_all ‹_› rfl | assumption) ?_ | refine w_iad rfl (by first | omega | (simp; done) | (simp; omega)) ?_ | refine w_mul rfl (by omega) ?_ | refine w_rem rfl (by omega) (by omega) ?_ | refine w_quo rfl (by omega) (by omega) ?_ | refine w_addu rfl (by omega) ?_ | refine w_mulu rfl (by omega) ?_ | refine w_quou rfl (by omega) (by omega) ?_ | refine w_max rfl ?_ | refine w_min rfl ?_ | refine w_opk rfl rfl ?_ | refine w_cuw rfl ?_ | refine w_adduw rfl ?_ | refine ai_seq ?_ | refine ai_reg ?_ | refine ai_cond (b := true) rfl (fun _ => ?_) (fun hb => by cases hb) | refine ai_cond (b := false) rfl (fun hb => by cases hb) (fun _ => ?_) | refine ai_skip ?_ | refine ai_drw (by kernel_rfl) ?_ | refine ai_block ?_ | refine ai_exit ?_ | (refine ai_ret ?_; repeat (first | rw [thenQ_r] | rw [blockQ_r] | rw [roundE_r])))
  rw [hw]
  repeat (first | refine sS ?_ | refine dS ?_ | refine w_mv rfl ?_ | refine w_gT rfl rfl ?_ | refine w_gF rfl rfl ?_ | refine w_gU rfl ?_ | refine w_add rfl (by omega) ?_ | refine w_sub rfl (by omega) ?_ | refine w_ci rfl (by omega) ?_ | refine w_cu rfl (by omega) ?_ | refine w_cmp rfl (c2 := true) (by first | exact decide_eq_true (by omega) | (simp; done) | (simp; omega)) ?_ | refine w_cmp rfl (c2 := false) (by first | exact decide_eq_false (by omega) | (simp; done) | (simp; omega)) ?_ | refine w_ld rfl (by first | exact rd_g ‹_› rfl | assumption) ?_ | refine w_ldn rfl (by first | exact rd_all ‹_› rfl | assumption) ?_ | refine w_iad rfl (by first | omega | (simp; done) | (simp; omega)) ?_ | refine w_mul rfl (by omega) ?_ | refine w_rem rfl (by omega) (by omega) ?_ | refine w_quo rfl (by omega) (by omega) ?_ | refine w_addu rfl (by omega) ?_ | refine w_mulu rfl (by omega) ?_ | refine w_quou rfl (by omega) (by omega) ?_ | refine w_max rfl ?_ | refine w_min rfl ?_ | refine w_opk rfl rfl ?_ | refine w_cuw rfl ?_ | refine w_adduw rfl ?_ | refine ai_seq ?_ | refine ai_reg ?_ | refine ai_cond (b := true) rfl (fun _ => ?_) (fun hb => by cases hb) | refine ai_cond (b := false) rfl (fun hb => by cases hb) (fun _ => ?_) | refine ai_skip ?_ | refine ai_drw (by kernel_rfl) ?_ | refine ai_block ?_ | refine ai_exit ?_ | (refine ai_ret ?_; repeat (first | rw [thenQ_r] | rw [blockQ_r] | rw [roundE_r])))
  refine ai_loopE (γ := Nat) (fun i => [(7, nI k), (8, nI b), (9, ptr Hp.empty.nx), (10, nI w), (11, nI i)]) (fun i h' => LF h' S2 Hp.empty.nx (LS k w i) k ∧ i ≤ b) (fun i => b - i) 0
    (le_cons rfl (le_cons rfl (le_cons rfl (le_cons rfl (le_cons rfl le_nil))))) ⟨a3, Nat.zero_le _⟩ ?_
  rintro i h4 ⟨a4, hi⟩
  by_cases hib : i < b
  · repeat (first | refine sS ?_ | refine dS ?_ | refine w_mv rfl ?_ | refine w_gT rfl rfl ?_ | refine w_gF rfl rfl ?_ | refine w_gU rfl ?_ | refine w_add rfl (by omega) ?_ | refine w_sub rfl (by omega) ?_ | refine w_ci rfl (by omega) ?_ | refine w_cu rfl (by omega) ?_ | refine w_cmp rfl (c2 := true) (by first | exact decide_eq_true (by omega) | (simp; done) | (simp; omega)) ?_ | refine w_cmp rfl (c2 := false) (by first | exact decide_eq_false (by omega) | (simp; done) | (simp; omega)) ?_ | refine w_ld rfl (by first | exact rd_g ‹_› rfl | assumption) ?_ | refine w_ldn rfl (by first | exact rd_all ‹_› rfl | assumption) ?_ | refine w_iad rfl (by first | omega | (simp; done) | (simp; omega)) ?_ | refine w_mul rfl (by omega) ?_ | refine w_rem rfl (by omega) (by omega) ?_ | refine w_quo rfl (by omega) (by omega) ?_ | refine w_addu rfl (by omega) ?_ | refine w_mulu rfl (by omega) ?_ | refine w_quou rfl (by omega) (by omega) ?_ | refine w_max rfl ?_ | refine w_min rfl ?_ | refine w_opk rfl rfl ?_ | refine w_cuw rfl ?_ | refine w_adduw rfl ?_ | refine ai_seq ?_ | refine ai_reg ?_ | refine ai_cond (b := true) rfl (fun _ => ?_) (fun hb => by cases hb) | refine ai_cond (b := false) rfl (fun hb => by cases hb) (fun _ => ?_) | refine ai_skip ?_ | refine ai_drw (by kernel_rfl) ?_ | refine ai_block ?_ | refine ai_exit ?_ | (refine ai_ret ?_; repeat (first | rw [thenQ_r] | rw [blockQ_r] | rw [roundE_r])))
    refine w_call rfl ((enter_lf _ a4 (by rw [LS_len]; omega) (by intro p hp; have := (LS_mem hp).2.2; omega)).mono ?_)
    rintro v h5 ⟨rfl, a5, _⟩
    rw [LS_enter hwk] at a5 ⊢
    repeat (first | refine sS ?_ | refine dS ?_ | refine w_mv rfl ?_ | refine w_gT rfl rfl ?_ | refine w_gF rfl rfl ?_ | refine w_gU rfl ?_ | refine w_add rfl (by omega) ?_ | refine w_sub rfl (by omega) ?_ | refine w_ci rfl (by omega) ?_ | refine w_cu rfl (by omega) ?_ | refine w_cmp rfl (c2 := true) (by first | exact decide_eq_true (by omega) | (simp; done) | (simp; omega)) ?_ | refine w_cmp rfl (c2 := false) (by first | exact decide_eq_false (by omega) | (simp; done) | (simp; omega)) ?_ | refine w_ld rfl (by first | exact rd_g ‹_› rfl | assumption) ?_ | refine w_ldn rfl (by first | exact rd_all ‹_› rfl | assumption) ?_ | refine w_iad rfl (by first | omega | (simp; done) | (simp; omega)) ?_ | refine w_mul rfl (by omega) ?_ | refine w_rem rfl (by omega) (by omega) ?_ | refine w_quo rfl (by omega) (by omega) ?_ | refine w_addu rfl (by omega) ?_ | refine w_mulu rfl (by omega) ?_ | refine w_quou rfl (by omega) (by omega) ?_ | refine w_max rfl ?_ | refine w_min rfl ?_ | refine w_opk rfl rfl ?_ | refine w_cuw rfl ?_ | refine w_adduw rfl ?_ | refine ai_seq ?_ | refine ai_reg ?_ | refine ai_cond (b := true) rfl (fun _ => ?_) (fun hb => by cases hb) | refine ai_cond (b := false) rfl (fun hb => by cases hb) (fun _ => ?_) | refine ai_skip ?_ | refine ai_drw (by kernel_rfl) ?_ | refine ai_block ?_ | refine ai_exit ?_ | (refine ai_ret ?_; repeat (first | rw [thenQ_r] | rw [blockQ_r] | rw [roundE_r])))
    exact ⟨i + 1, le_cons rfl (le_cons rfl (le_cons rfl (le_cons rfl (le_cons rfl le_nil)))), ⟨a5, by omega⟩, by dsimp only; omega⟩
  obtain rfl : i = b := by omega
  repeat (first | refine sS ?_ | refine dS ?_ | refine w_mv rfl ?_ | refine w_gT rfl rfl ?_ | refine w_gF rfl rfl ?_ | refine w_gU rfl ?_ | refine w_add rfl (by omega) ?_ | refine w_sub rfl (by omega) ?_ | refine w_ci rfl (by omega) ?_ | refine w_cu rfl (by omega) ?_ | refine w_cmp rfl (c2 := true) (by first | exact decide_eq_true (by omega) | (simp; done) | (simp; omega)) ?_ | refine w_cmp rfl (c2 := false) (by first | exact decide_eq_false (by omega) | (simp; done) | (simp; omega)) ?_ | refine w_ld rfl (by first | exact rd_g ‹_› rfl | assumption) ?_ | refine w_ldn rfl (by first | exact rd_all ‹_› rfl | assumption) ?_ | refine w_iad rfl (by first | omega | (simp; done) | (simp; omega)) ?_ | refine w_mul rfl (by omega) ?_ | refine w_rem rfl (by omega) (by omega) ?_ | refine w_quo rfl (by omega) (by omega) ?_ | refine w_addu rfl (by omega) ?_ | refine w_mulu rfl (by omega) ?_ | refine w_quou rfl (by omega) (by omega) ?_ | refine w_max rfl ?_ | refine w_min rfl ?_ | refine w_opk rfl rfl ?_ | refine w_cuw rfl ?_ | refine w_adduw rfl ?_ | refine ai_seq ?_ | refine ai_reg ?_ | refine ai_cond (b := true) rfl (fun _ => ?_) (fun hb => by cases hb) | refine ai_cond (b := false) rfl (fun hb => by cases hb) (fun _ => ?_) | refine ai_skip ?_ | refine ai_drw (by kernel_rfl) ?_ | refine ai_block ?_ | refine ai_exit ?_ | (refine ai_ret ?_; repeat (first | rw [thenQ_r] | rw [blockQ_r] | rw [roundE_r])))
  refine w_call rfl ((crash_lf _ a4 (by rw [LS_len]; omega) (LS_get hwk)).mono ?_)
  rintro v h5 ⟨rfl, S5, a5, _, f5⟩
  have hll : (LM k w i).length ≤ 800 := by rw [LM_len hwk]; omega
  have a5 : LF h5 S5 Hp.empty.nx (LM k w i) k := a5
  have hno : ∀ p ∈ LM k w i, p.1 ≠ (w : Int) := fun p hp => (LM_mem hp).2
  have hbb : ∀ p ∈ LM k w i, 0 ≤ p.2.2.1 ∧ p.2.2.1 ≤ 1000000 := by intro p hp; have := (LS_mem (LM_mem hp).1).2.2; omega
  have hcf : cF (LM k w i) = k - 1 := by rw [cF_all (fun p hp => by have := (LS_mem (LM_mem hp).1).1; omega), LM_len hwk]
  repeat (first | refine sS ?_ | refine dS ?_ | refine w_mv rfl ?_ | refine w_gT rfl rfl ?_ | refine w_gF rfl rfl ?_ | refine w_gU rfl ?_ | refine w_add rfl (by omega) ?_ | refine w_sub rfl (by omega) ?_ | refine w_ci rfl (by omega) ?_ | refine w_cu rfl (by omega) ?_ | refine w_cmp rfl (c2 := true) (by first | exact decide_eq_true (by omega) | (simp; done) | (simp; omega)) ?_ | refine w_cmp rfl (c2 := false) (by first | exact decide_eq_false (by omega) | (simp; done) | (simp; omega)) ?_ | refine w_ld rfl (by first | exact rd_g ‹_› rfl | assumption) ?_ | refine w_ldn rfl (by first | exact rd_all ‹_› rfl | assumption) ?_ | refine w_iad rfl (by first | omega | (simp; done) | (simp; omega)) ?_ | refine w_mul rfl (by omega) ?_ | refine w_rem rfl (by omega) (by omega) ?_ | refine w_quo rfl (by omega) (by omega) ?_ | refine w_addu rfl (by omega) ?_ | refine w_mulu rfl (by omega) ?_ | refine w_quou rfl (by omega) (by omega) ?_ | refine w_max rfl ?_ | refine w_min rfl ?_ | refine w_opk rfl rfl ?_ | refine w_cuw rfl ?_ | refine w_adduw rfl ?_ | refine ai_seq ?_ | refine ai_reg ?_ | refine ai_cond (b := true) rfl (fun _ => ?_) (fun hb => by cases hb) | refine ai_cond (b := false) rfl (fun hb => by cases hb) (fun _ => ?_) | refine ai_skip ?_ | refine ai_drw (by kernel_rfl) ?_ | refine ai_block ?_ | refine ai_exit ?_ | (refine ai_ret ?_; repeat (first | rw [thenQ_r] | rw [blockQ_r] | rw [roundE_r])))
  refine w_st rfl rfl (copy_wr h5 _) ?_
  have x6 := copy_ext h5 ((w : Int), 2, (if w = w then (i : Int) else 0), 0)
  have g6 : ((h5.new ⟨[nI 0, nI 0, nI 0, nI 0], true, 0⟩).put h5.nx ⟨p4 ((w : Int), 2, (if w = w then (i : Int) else 0), 0), true, 0⟩).get h5.nx = some ⟨p4 ((w : Int), 2, (if w = w then (i : Int) else 0), 0), true, 0⟩ := hput_same _ _ _
  have n6 : h5.nx < ((h5.new ⟨[nI 0, nI 0, nI 0, nI 0], true, 0⟩).put h5.nx ⟨p4 ((w : Int), 2, (if w = w then (i : Int) else 0), 0), true, 0⟩).nx := by simp [Hp.new, Hp.put]
  generalize (h5.new ⟨[nI 0, nI 0, nI 0, nI 0], true, 0⟩).put h5.nx ⟨p4 ((w : Int), 2, (if w = w then (i : Int) else 0), 0), true, 0⟩ = h6 at x6 g6 n6 ⊢
  rw [if_pos rfl] at g6
  have a6 := a5.ext x6
  have ew : enF (LM k w i) w = (LM k w i, 7) := by unfold enF; rw [fI_no hno, if_neg (by decide)]
  have lw : lvF (LM k w i) w = (LM k w i, 7) := by unfold lvF; rw [fI_no hno, if_pos rfl]
  have hnq : h5.nx ∉ S5 := fun hm => Nat.lt_irrefl _ (a5.lt _ hm)
  repeat (first | refine sS ?_ | refine dS ?_ | refine w_mv rfl ?_ | refine w_gT rfl rfl ?_ | refine w_gF rfl rfl ?_ | refine w_gU rfl ?_ | refine w_add rfl (by omega) ?_ | refine w_sub rfl (by omega) ?_ | refine w_ci rfl (by omega) ?_ | refine w_cu rfl (by omega) ?_ | refine w_cmp rfl (c2 := true) (by first | exact decide_eq_true (by omega) | (simp; done) | (simp; omega)) ?_ | refine w_cmp rfl (c2 := false) (by first | exact decide_eq_false (by omega) | (simp; done) | (simp; omega)) ?_ | refine w_ld rfl (by first | exact rd_g ‹_› rfl | assumption) ?_ | refine w_ldn rfl (by first | exact rd_all ‹_› rfl | assumption) ?_ | refine w_iad rfl (by first | omega | (simp; done) | (simp; omega)) ?_ | refine w_mul rfl (by omega) ?_ | refine w_rem rfl (by omega) (by omega) ?_ | refine w_quo rfl (by omega) (by omega) ?_ | refine w_addu rfl (by omega) ?_ | refine w_mulu rfl (by omega) ?_ | refine w_quou rfl (by omega) (by omega) ?_ | refine w_max rfl ?_ | refine w_min rfl ?_ | refine w_opk rfl rfl ?_ | refine w_cuw rfl ?_ | refine w_adduw rfl ?_ | refine ai_seq ?_ | refine ai_reg ?_ | refine ai_cond (b := true) rfl (fun _ => ?_) (fun hb => by cases hb) | refine ai_cond (b := false) rfl (fun hb => by cases hb) (fun _ => ?_) | refine ai_skip ?_ | refine ai_drw (by kernel_rfl) ?_ | refine ai_block ?_ | refine ai_exit ?_ | (refine ai_ret ?_; repeat (first | rw [thenQ_r] | rw [blockQ_r] | rw [roundE_r])))
  refine w_call rfl ((enter_lf _ a6 hll hbb).mono ?_)
  rintro v h7 ⟨rfl, a7, f7⟩
  rw [ew] at a7 ⊢
  have g7 := (f7.2 _ n6 hnq).trans g6
  have n7 := Nat.lt_of_lt_of_le n6 f7.1
  repeat (first | refine sS ?_ | refine dS ?_ | refine w_mv rfl ?_ | refine w_gT rfl rfl ?_ | refine w_gF rfl rfl ?_ | refine w_gU rfl ?_ | refine w_add rfl (by omega) ?_ | refine w_sub rfl (by omega) ?_ | refine w_ci rfl (by omega) ?_ | refine w_cu rfl (by omega) ?_ | refine w_cmp rfl (c2 := true) (by first | exact decide_eq_true (by omega) | (simp; done) | (simp; omega)) ?_ | refine w_cmp rfl (c2 := false) (by first | exact decide_eq_false (by omega) | (simp; done) | (simp; omega)) ?_ | refine w_ld rfl (by first | exact rd_g ‹_› rfl | assumption) ?_ | refine w_ldn rfl (by first | exact rd_all ‹_› rfl | assumption) ?_ | refine w_iad rfl (by first | omega | (simp; done) | (simp; omega)) ?_ | refine w_mul rfl (by omega) ?_ | refine w_rem rfl (by omega) (by omega) ?_ | refine w_quo rfl (by omega) (by omega) ?_ | refine w_addu rfl (by omega) ?_ | refine w_mulu rfl (by omega) ?_ | refine w_quou rfl (by omega) (by omega) ?_ | refine w_max rfl ?_ | refine w_min rfl ?_ | refine w_opk rfl rfl ?_ | refine w_cuw rfl ?_ | refine w_adduw rfl ?_ | refine ai_seq ?_ | refine ai_reg ?_ | refine ai_cond (b := true) rfl (fun _ => ?_) (fun hb => by cases hb) | refine ai_cond (b := false) rfl (fun hb => by cases hb) (fun _ => ?_) | refine ai_skip ?_ | refine ai_drw (by kernel_rfl) ?_ | refine ai_block ?_ | refine ai_exit ?_ | (refine ai_ret ?_; repeat (first | rw [thenQ_r] | rw [blockQ_r] | rw [roundE_r])))
  refine w_call rfl ((leave_lf _ a7 hll hbb).mono ?_)
  rintro v h8 ⟨rfl, S8, a8, q8, f8⟩
  rw [lw] at a8 ⊢
  have g8 := (f8.2 _ n7 hnq).trans g7
  have n8 := Nat.lt_of_lt_of_le n7 f8.1
  have hnq8 : h5.nx ∉ S8 := fun hm => by
    rcases q8 _ hm with h | h
    · exact hnq h
    · omega
  repeat (first | refine sS ?_ | refine dS ?_ | refine w_mv rfl ?_ | refine w_gT rfl rfl ?_ | refine w_gF rfl rfl ?_ | refine w_gU rfl ?_ | refine w_add rfl (by omega) ?_ | refine w_sub rfl (by omega) ?_ | refine w_ci rfl (by omega) ?_ | refine w_cu rfl (by omega) ?_ | refine w_cmp rfl (c2 := true) (by first | exact decide_eq_true (by omega) | (simp; done) | (simp; omega)) ?_ | refine w_cmp rfl (c2 := false) (by first | exact decide_eq_false (by omega) | (simp; done) | (simp; omega)) ?_ | refine w_ld rfl (by first | exact rd_g ‹_› rfl | assumption) ?_ | refine w_ldn rfl (by first | exact rd_all ‹_› rfl | assumption) ?_ | refine w_iad rfl (by first | omega | (simp; done) | (simp; omega)) ?_ | refine w_mul rfl (by omega) ?_ | refine w_rem rfl (by omega) (by omega) ?_ | refine w_quo rfl (by omega) (by omega) ?_ | refine w_addu rfl (by omega) ?_ | refine w_mulu rfl (by omega) ?_ | refine w_quou rfl (by omega) (by omega) ?_ | refine w_max rfl ?_ | refine w_min rfl ?_ | refine w_opk rfl rfl ?_ | refine w_cuw rfl ?_ | refine w_adduw rfl ?_ | refine ai_seq ?_ | refine ai_reg ?_ | refine ai_cond (b := true) rfl (fun _ => ?_) (fun hb => by cases hb) | refine ai_cond (b := false) rfl (fun hb => by cases hb) (fun _ => ?_) | refine ai_skip ?_ | refine ai_drw (by kernel_rfl) ?_ | refine ai_block ?_ | refine ai_exit ?_ | (refine ai_ret ?_; repeat (first | rw [thenQ_r] | rw [blockQ_r] | rw [roundE_r])))
  refine w_call rfl ((count_lf _ a8 hll).mono ?_)
  rintro v h9 ⟨rfl, x9⟩
  have a9 := a8.ext x9
  have g9 := (x9.2 _ n8).trans g8
  have n9 := Nat.lt_of_lt_of_le n8 x9.1
  dsimp only at a9
  rw [hcf]
  repeat (first | refine sS ?_ | refine dS ?_ | refine w_mv rfl ?_ | refine w_gT rfl rfl ?_ | refine w_gF rfl rfl ?_ | refine w_gU rfl ?_ | refine w_add rfl (by omega) ?_ | refine w_sub rfl (by omega) ?_ | refine w_ci rfl (by omega) ?_ | refine w_cu rfl (by omega) ?_ | refine w_cmp rfl (c2 := true) (by first | exact decide_eq_true (by omega) | (simp; done) | (simp; omega)) ?_ | refine w_cmp rfl (c2 := false) (by first | exact decide_eq_false (by omega) | (simp; done) | (simp; omega)) ?_ | refine w_ld rfl (by first | exact rd_g ‹_› rfl | assumption) ?_ | refine w_ldn rfl (by first | exact rd_all ‹_› rfl | assumption) ?_ | refine w_iad rfl (by first | omega | (simp; done) | (simp; omega)) ?_ | refine w_mul rfl (by omega) ?_ | refine w_rem rfl (by omega) (by omega) ?_ | refine w_quo rfl (by omega) (by omega) ?_ | refine w_addu rfl (by omega) ?_ | refine w_mulu rfl (by omega) ?_ | refine w_quou rfl (by omega) (by omega) ?_ | refine w_max rfl ?_ | refine w_min rfl ?_ | refine w_opk rfl rfl ?_ | refine w_cuw rfl ?_ | refine w_adduw rfl ?_ | refine ai_seq ?_ | refine ai_reg ?_ | refine ai_cond (b := true) rfl (fun _ => ?_) (fun hb => by cases hb) | refine ai_cond (b := false) rfl (fun hb => by cases hb) (fun _ => ?_) | refine ai_skip ?_ | refine ai_drw (by kernel_rfl) ?_ | refine ai_block ?_ | refine ai_exit ?_ | (refine ai_ret ?_; repeat (first | rw [thenQ_r] | rw [blockQ_r] | rw [roundE_r])))
  refine w_call rfl ((scale_lf _ a9 hll (by omega) (by omega) (by omega)).mono ?_)
  rintro v h10 ⟨rfl, S10, a10, _, f10⟩
  have e10 : scL k 5 (Int.toNat k) (LM k w i) = LM k w i ++ [((k : Int), 1, 0, 5)] := by
    unfold scL
    rw [Int.toNat_natCast, hcf, if_pos (by omega), show k - (k - 1) = 1 by omega]
    simp [newF]
  rw [e10] at a10
  have g10 := (f10.2 _ n9 hnq8).trans g9
  have n10 := Nat.lt_of_lt_of_le n9 f10.1
  repeat (first | refine sS ?_ | refine dS ?_ | refine w_mv rfl ?_ | refine w_gT rfl rfl ?_ | refine w_gF rfl rfl ?_ | refine w_gU rfl ?_ | refine w_add rfl (by omega) ?_ | refine w_sub rfl (by omega) ?_ | refine w_ci rfl (by omega) ?_ | refine w_cu rfl (by omega) ?_ | refine w_cmp rfl (c2 := true) (by first | exact decide_eq_true (by omega) | (simp; done) | (simp; omega)) ?_ | refine w_cmp rfl (c2 := false) (by first | exact decide_eq_false (by omega) | (simp; done) | (simp; omega)) ?_ | refine w_ld rfl (by first | exact rd_g ‹_› rfl | assumption) ?_ | refine w_ldn rfl (by first | exact rd_all ‹_› rfl | assumption) ?_ | refine w_iad rfl (by first | omega | (simp; done) | (simp; omega)) ?_ | refine w_mul rfl (by omega) ?_ | refine w_rem rfl (by omega) (by omega) ?_ | refine w_quo rfl (by omega) (by omega) ?_ | refine w_addu rfl (by omega) ?_ | refine w_mulu rfl (by omega) ?_ | refine w_quou rfl (by omega) (by omega) ?_ | refine w_max rfl ?_ | refine w_min rfl ?_ | refine w_opk rfl rfl ?_ | refine w_cuw rfl ?_ | refine w_adduw rfl ?_ | refine ai_seq ?_ | refine ai_reg ?_ | refine ai_cond (b := true) rfl (fun _ => ?_) (fun hb => by cases hb) | refine ai_cond (b := false) rfl (fun hb => by cases hb) (fun _ => ?_) | refine ai_skip ?_ | refine ai_drw (by kernel_rfl) ?_ | refine ai_block ?_ | refine ai_exit ?_ | (refine ai_ret ?_; repeat (first | rw [thenQ_r] | rw [blockQ_r] | rw [roundE_r])))
  refine w_call rfl ((all_lf _ a10 (by simp [LM_len hwk]; omega)).mono ?_)
  rintro v h11 ⟨r11, x11⟩
  have g11 := (x11.2 _ n10).trans g10
  have hq : (LM k w i ++ [((k : Int), 1, 0, 5)])[k - 1]? = some ((k : Int), 1, 0, 5) := by
    rw [List.getElem?_append_right (by rw [LM_len hwk]; omega), LM_len hwk]; simp
  obtain ⟨q, rfl, _, _, hr⟩ := r11.atl (n := k) (by simp [LM_len hwk]; omega) hq
  repeat (first | refine sS ?_ | refine dS ?_ | refine w_mv rfl ?_ | refine w_gT rfl rfl ?_ | refine w_gF rfl rfl ?_ | refine w_gU rfl ?_ | refine w_add rfl (by omega) ?_ | refine w_sub rfl (by omega) ?_ | refine w_ci rfl (by omega) ?_ | refine w_cu rfl (by omega) ?_ | refine w_cmp rfl (c2 := true) (by first | exact decide_eq_true (by omega) | (simp; done) | (simp; omega)) ?_ | refine w_cmp rfl (c2 := false) (by first | exact decide_eq_false (by omega) | (simp; done) | (simp; omega)) ?_ | refine w_ld rfl (by first | exact rd_g ‹_› rfl | assumption) ?_ | refine w_ldn rfl (by first | exact rd_all ‹_› rfl | assumption) ?_ | refine w_iad rfl (by first | omega | (simp; done) | (simp; omega)) ?_ | refine w_mul rfl (by omega) ?_ | refine w_rem rfl (by omega) (by omega) ?_ | refine w_quo rfl (by omega) (by omega) ?_ | refine w_addu rfl (by omega) ?_ | refine w_mulu rfl (by omega) ?_ | refine w_quou rfl (by omega) (by omega) ?_ | refine w_max rfl ?_ | refine w_min rfl ?_ | refine w_opk rfl rfl ?_ | refine w_cuw rfl ?_ | refine w_adduw rfl ?_ | refine ai_seq ?_ | refine ai_reg ?_ | refine ai_cond (b := true) rfl (fun _ => ?_) (fun hb => by cases hb) | refine ai_cond (b := false) rfl (fun hb => by cases hb) (fun _ => ?_) | refine ai_skip ?_ | refine ai_drw (by kernel_rfl) ?_ | refine ai_block ?_ | refine ai_exit ?_ | (refine ai_ret ?_; repeat (first | rw [thenQ_r] | rw [blockQ_r] | rw [roundE_r])))
  refine w_call rfl ((told_ok _).mono ?_)
  rintro v _ ⟨rfl, rfl⟩
  repeat (first | refine sS ?_ | refine dS ?_ | refine w_mv rfl ?_ | refine w_gT rfl rfl ?_ | refine w_gF rfl rfl ?_ | refine w_gU rfl ?_ | refine w_add rfl (by omega) ?_ | refine w_sub rfl (by omega) ?_ | refine w_ci rfl (by omega) ?_ | refine w_cu rfl (by omega) ?_ | refine w_cmp rfl (c2 := true) (by first | exact decide_eq_true (by omega) | (simp; done) | (simp; omega)) ?_ | refine w_cmp rfl (c2 := false) (by first | exact decide_eq_false (by omega) | (simp; done) | (simp; omega)) ?_ | refine w_ld rfl (by first | exact rd_g ‹_› rfl | assumption) ?_ | refine w_ldn rfl (by first | exact rd_all ‹_› rfl | assumption) ?_ | refine w_iad rfl (by first | omega | (simp; done) | (simp; omega)) ?_ | refine w_mul rfl (by omega) ?_ | refine w_rem rfl (by omega) (by omega) ?_ | refine w_quo rfl (by omega) (by omega) ?_ | refine w_addu rfl (by omega) ?_ | refine w_mulu rfl (by omega) ?_ | refine w_quou rfl (by omega) (by omega) ?_ | refine w_max rfl ?_ | refine w_min rfl ?_ | refine w_opk rfl rfl ?_ | refine w_cuw rfl ?_ | refine w_adduw rfl ?_ | refine ai_seq ?_ | refine ai_reg ?_ | refine ai_cond (b := true) rfl (fun _ => ?_) (fun hb => by cases hb) | refine ai_cond (b := false) rfl (fun hb => by cases hb) (fun _ => ?_) | refine ai_skip ?_ | refine ai_drw (by kernel_rfl) ?_ | refine ai_block ?_ | refine ai_exit ?_ | (refine ai_ret ?_; repeat (first | rw [thenQ_r] | rw [blockQ_r] | rw [roundE_r])))
  refine w_eqS rfl rfl (ks := [.int .i64, .int .i64, .int .i64, .int .i64]) (by kernel_rfl) rfl rfl ?_
  intro b1 hb1
  obtain rfl : b1 = true := hb1.2 rfl
  repeat (first | refine sS ?_ | refine dS ?_ | refine w_mv rfl ?_ | refine w_gT rfl rfl ?_ | refine w_gF rfl rfl ?_ | refine w_gU rfl ?_ | refine w_add rfl (by omega) ?_ | refine w_sub rfl (by omega) ?_ | refine w_ci rfl (by omega) ?_ | refine w_cu rfl (by omega) ?_ | refine w_cmp rfl (c2 := true) (by first | exact decide_eq_true (by omega) | (simp; done) | (simp; omega)) ?_ | refine w_cmp rfl (c2 := false) (by first | exact decide_eq_false (by omega) | (simp; done) | (simp; omega)) ?_ | refine w_ld rfl (by first | exact rd_g ‹_› rfl | assumption) ?_ | refine w_ldn rfl (by first | exact rd_all ‹_› rfl | assumption) ?_ | refine w_iad rfl (by first | omega | (simp; done) | (simp; omega)) ?_ | refine w_mul rfl (by omega) ?_ | refine w_rem rfl (by omega) (by omega) ?_ | refine w_quo rfl (by omega) (by omega) ?_ | refine w_addu rfl (by omega) ?_ | refine w_mulu rfl (by omega) ?_ | refine w_quou rfl (by omega) (by omega) ?_ | refine w_max rfl ?_ | refine w_min rfl ?_ | refine w_opk rfl rfl ?_ | refine w_cuw rfl ?_ | refine w_adduw rfl ?_ | refine ai_seq ?_ | refine ai_reg ?_ | refine ai_cond (b := true) rfl (fun _ => ?_) (fun hb => by cases hb) | refine ai_cond (b := false) rfl (fun hb => by cases hb) (fun _ => ?_) | refine ai_skip ?_ | refine ai_drw (by kernel_rfl) ?_ | refine ai_block ?_ | refine ai_exit ?_ | (refine ai_ret ?_; repeat (first | rw [thenQ_r] | rw [blockQ_r] | rw [roundE_r])))
  refine w_ldn rfl (by rw [show ((k : Int) - 1).toNat = k - 1 by omega]; exact hr) ?_
  repeat (first | refine sS ?_ | refine dS ?_ | refine w_mv rfl ?_ | refine w_gT rfl rfl ?_ | refine w_gF rfl rfl ?_ | refine w_gU rfl ?_ | refine w_add rfl (by omega) ?_ | refine w_sub rfl (by omega) ?_ | refine w_ci rfl (by omega) ?_ | refine w_cu rfl (by omega) ?_ | refine w_cmp rfl (c2 := true) (by first | exact decide_eq_true (by omega) | (simp; done) | (simp; omega)) ?_ | refine w_cmp rfl (c2 := false) (by first | exact decide_eq_false (by omega) | (simp; done) | (simp; omega)) ?_ | refine w_ld rfl (by first | exact rd_g ‹_› rfl | assumption) ?_ | refine w_ldn rfl (by first | exact rd_all ‹_› rfl | assumption) ?_ | refine w_iad rfl (by first | omega | (simp; done) | (simp; omega)) ?_ | refine w_mul rfl (by omega) ?_ | refine w_rem rfl (by omega) (by omega) ?_ | refine w_quo rfl (by omega) (by omega) ?_ | refine w_addu rfl (by omega) ?_ | refine w_mulu rfl (by omega) ?_ | refine w_quou rfl (by omega) (by omega) ?_ | refine w_max rfl ?_ | refine w_min rfl ?_ | refine w_opk rfl rfl ?_ | refine w_cuw rfl ?_ | refine w_adduw rfl ?_ | refine ai_seq ?_ | refine ai_reg ?_ | refine ai_cond (b := true) rfl (fun _ => ?_) (fun hb => by cases hb) | refine ai_cond (b := false) rfl (fun hb => by cases hb) (fun _ => ?_) | refine ai_skip ?_ | refine ai_drw (by kernel_rfl) ?_ | refine ai_block ?_ | refine ai_exit ?_ | (refine ai_ret ?_; repeat (first | rw [thenQ_r] | rw [blockQ_r] | rw [roundE_r])))
  refine w_eqS rfl rfl (ks := [.int .i64, .int .i64, .int .i64, .int .i64]) (by kernel_rfl) rfl rfl ?_
  intro b2 hb2
  obtain rfl : b2 = true := hb2.2 rfl
  repeat (first | refine sS ?_ | refine dS ?_ | refine w_mv rfl ?_ | refine w_gT rfl rfl ?_ | refine w_gF rfl rfl ?_ | refine w_gU rfl ?_ | refine w_add rfl (by omega) ?_ | refine w_sub rfl (by omega) ?_ | refine w_ci rfl (by omega) ?_ | refine w_cu rfl (by omega) ?_ | refine w_cmp rfl (c2 := true) (by first | exact decide_eq_true (by omega) | (simp; done) | (simp; omega)) ?_ | refine w_cmp rfl (c2 := false) (by first | exact decide_eq_false (by omega) | (simp; done) | (simp; omega)) ?_ | refine w_ld rfl (by first | exact rd_g ‹_› rfl | assumption) ?_ | refine w_ldn rfl (by first | exact rd_all ‹_› rfl | assumption) ?_ | refine w_iad rfl (by first | omega | (simp; done) | (simp; omega)) ?_ | refine w_mul rfl (by omega) ?_ | refine w_rem rfl (by omega) (by omega) ?_ | refine w_quo rfl (by omega) (by omega) ?_ | refine w_addu rfl (by omega) ?_ | refine w_mulu rfl (by omega) ?_ | refine w_quou rfl (by omega) (by omega) ?_ | refine w_max rfl ?_ | refine w_min rfl ?_ | refine w_opk rfl rfl ?_ | refine w_cuw rfl ?_ | refine w_adduw rfl ?_ | refine ai_seq ?_ | refine ai_reg ?_ | refine ai_cond (b := true) rfl (fun _ => ?_) (fun hb => by cases hb) | refine ai_cond (b := false) rfl (fun hb => by cases hb) (fun _ => ?_) | refine ai_skip ?_ | refine ai_drw (by kernel_rfl) ?_ | refine ai_block ?_ | refine ai_exit ?_ | (refine ai_ret ?_; repeat (first | rw [thenQ_r] | rw [blockQ_r] | rw [roundE_r])))
  exact end_one rfl rfl
end Go.Proofs.YtnebdnbglggdkaaW.Am
