/- QueueFirst, over abstract heaps. -/
import Derived.Test.YtcdfoicebcmlaaaQueueI
namespace Go.Proofs.YtcdfoicebcmlaaaW.Am
open Go Go.RowKit
/-- Those that wait: from the next one's number to the last one's, each since it came. -/
def qL (cs : List Int) (x n : Nat) : List (Int × Int) := (List.range (n - x)).map fun (m : Nat) => (((x + m : Nat) : Int), cs.getD (x + m) 0)
theorem qL_len (cs : List Int) (x n : Nat) : (qL cs x n).length = n - x := by simp [qL]
theorem qL_get (cs : List Int) {x n m : Nat} (hm : m < n - x) : (qL cs x n)[m]? = some (((x + m : Nat) : Int), cs.getD (x + m) 0) := by simp [qL, hm]
theorem qL_drop (cs : List Int) (x n d : Nat) : (qL cs x n).drop d = qL cs (x + d) n := by
  refine List.ext_getElem (by simp [qL]; omega) fun i h1 h2 => ?_
  simp [qL]
  refine ⟨by omega, by rw [Nat.add_assoc]⟩
theorem qL_cons (cs : List Int) {x n : Nat} (h : x < n) : qL cs x n = ((x : Int), cs.getD x 0) :: qL cs (x + 1) n := by
  have h1 : 0 < (qL cs x n).length := by rw [qL_len]; omega
  have h2 := List.drop_eq_getElem_cons h1
  rw [List.drop_zero, Nat.zero_add, qL_drop] at h2
  rw [h2]
  congr 1
  simp [qL]
theorem qL_push (cs : List Int) {x n : Nat} (h : x ≤ n) (hn : n < cs.length) (t : Int) : qL (cs.set n t) x (n + 1) = qL cs x n ++ [((n : Int), t)] := by
  unfold qL
  rw [show n + 1 - x = (n - x) + 1 by omega, List.range_succ, List.map_append]
  congr 1
  · refine List.map_congr_left fun m hm => ?_
    rw [List.mem_range] at hm
    simp only [List.getD_eq_getElem?_getD]
    rw [List.getElem?_set_ne (by omega)]
  · simp only [List.map_cons, List.map_nil, List.getD_eq_getElem?_getD]
    rw [show x + (n - x) = n by omega, List.getElem?_set_self hn]
    rfl

structure Fst (h0 h : Hp) (C i n x : Nat) : Prop where
  ex : ∃ j last cs, last ≤ (i : Int) ∧ h0.nx ≤ j ∧ QA h h0.nx j 50 last (qL cs x n) ∧ h.get C = some ⟨List.map nI cs, true, 0⟩ ∧ cs.length = 130 ∧ j ≠ C ∧ (∀ m, m < n → 0 ≤ cs.getD m 0 ∧ cs.getD m 0 ≤ 1000)
  cl : C < h.nx
  c0 : h0.nx < C
  ext : Ext h0 h
  le : x ≤ n
  li : n ≤ i

set_option maxHeartbeats 2000000 in
set_option maxRecDepth 10000 in
theorem queueFirst_ok (us : List Int) (s0 : Value) (b : Int) (h0 : Hp) (r : Rd h0 s0 (us.map nI)) (hi0 : ∀ i o sp n c, s0 = .slice (some ⟨i, o, sp⟩) n c → i < h0.nx) :
    ACall PQ 8 [s0, nI b] h0 (fun v h' => v = .bool true ∧ Ext h0 h') := by
  have hb := u64_rng b
  have hage : 0 ≤ IntKind.u64.wrap b % 20 ∧ IntKind.u64.wrap b % 20 < 20 := by omega
  obtain ⟨x0, c0, e⟩ := r.len
  subst e
  rw [List.length_map] at *
  refine acall Go.Proofs.Try.func8 c8 (by simp [ir8]) ?_
  unfold ir8
  dsimp only
  refine ai_seq (ai_reg ?_)
  refine st rfl ?_
  refine ai_seq (ai_reg ?_)
  refine stC rfl ((new_ok h0 (by omega) (by omega)).mono ?_)
  rintro v h1 ⟨rfl, a1, x1⟩
  refine st rfl ?_
  refine ai_seq (ai_seq (ai_reg ?_))
  iterate 2 refine st rfl ?_
  refine ai_cond (b := false) rfl (fun hb => by cases hb) (fun _ => ai_skip ?_)
  refine ai_seq (ai_reg ?_)
  iterate 2 refine st rfl ?_
  refine ai_seq (ai_reg ?_)
  refine st (v := ptr h1.nx) (h' := h1.new ⟨(List.replicate 130 (0 : Int)).map nI, true, 0⟩) rfl ?_
  have hq1 := a1.ql
  have F0 : Fst h0 (h1.new ⟨(List.replicate 130 (0 : Int)).map nI, true, 0⟩) h1.nx 0 0 0 := by
    refine ⟨⟨h0.nx, _, List.replicate 130 0, by decide, Nat.le_refl _, a1.ext (Ext.new _ _), by simp [Hp.new], by simp, by omega, fun m hm => by omega⟩, by simp [Hp.new], hq1, x1.trans (Ext.new _ _), Nat.le_refl _, Nat.le_refl _⟩
  generalize h1.nx = C at F0 ⊢
  generalize h1.new ⟨(List.replicate 130 (0 : Int)).map nI, true, 0⟩ = hh at F0 ⊢
  refine ai_join (γ := Nat × Nat × Nat) (fun g => [(5, ptr h0.nx), (6, nI g.1), (7, nI g.2.1)]) (fun g h => Fst h0 h C g.2.2 g.1 g.2.1 ∧ g.2.2 ≤ 120) ?_ ?_
  case refine_2 =>
    rintro ⟨n, x, i⟩ h ⟨F, hi⟩
    dsimp only at F hi ⊢
    obtain ⟨⟨j, last, cs, hl, hj, qa, hC, hcs, hjC, hcb⟩, hCl, hC0, hx, hxn, hni⟩ := F
    refine ai_seq (ai_reg ?_)
    refine stC rfl ((qtold_ok h).mono ?_)
    rintro v h2 ⟨rfl, y2⟩
    refine st rfl ?_
    refine stT rfl rfl rfl ?_
    refine stCT rfl rfl rfl ((all_ok h2 (qa.ext y2) (by rw [qL_len]; omega)).mono ?_)
    rintro w h3 ⟨y3, how3⟩
    obtain ⟨xw, cw, rfl⟩ := how3.rdd.len
    rw [List.length_map, qL_len]
    iterate 3 refine stT rfl rfl rfl ?_
    refine stT rfl rfl (o_w rfl (by omega)) ?_
    refine stT (v := .bool true) rfl rfl (o_v rfl (congrArg Value.bool (by simp; omega))) ?_
    iterate 2 refine st rfl ?_
    refine ai_ret ?_
    exact end_one rfl ⟨rfl, (hx.trans y2).trans y3⟩
  refine ai_seq (ai_reg ?_)
  refine st rfl ?_
  refine ai_block (ai_loopE (γ := Nat × Nat × Nat) (fun g => [(0, .slice x0 us.length c0), (1, nI b), (5, ptr h0.nx), (6, nI g.1), (7, nI g.2.1), (8, ptr C), (9, nI g.2.2)]) (fun g h => Fst h0 h C g.2.2 g.1 g.2.1 ∧ g.2.2 ≤ 120) (fun g => 120 - g.2.2) (0, 0, 0)
    (le_cons rfl (le_cons rfl (le_cons rfl (le_cons rfl (le_cons rfl (le_cons rfl (le_cons rfl le_nil))))))) ⟨F0, by decide⟩ ?_)
  rintro ⟨n, x, i⟩ h ⟨F, hi⟩
  dsimp only at F hi ⊢
  refine ai_seq (ai_seq (ai_reg ?_))
  iterate 3 refine st rfl ?_
  by_cases hlt : i < us.length
  case neg =>
    refine st_v (v2 := .bool false) rfl (congrArg Value.bool (by simp; omega)) ?_
    refine st rfl ?_
    iterate 2 refine stF rfl rfl ?_
    refine st rfl ?_
    refine ai_cond (b := false) rfl (fun hb => by cases hb) fun _ => ?_
    refine ai_exit ?_
    exact ⟨rfl, (n, x, i), le_cons rfl (le_cons rfl (le_cons rfl le_nil)), F, hi⟩
  refine st_v (v2 := .bool true) rfl (congrArg Value.bool (by simp; omega)) ?_
  refine st rfl ?_
  refine stT rfl rfl rfl ?_
  by_cases hi2 : i < 120
  case neg =>
    refine stT (v := .bool false) rfl rfl (o_v rfl (congrArg Value.bool (by simp; omega))) ?_
    refine st rfl ?_
    refine ai_cond (b := false) rfl (fun hb => by cases hb) fun _ => ?_
    refine ai_exit ?_
    exact ⟨rfl, (n, x, i), le_cons rfl (le_cons rfl (le_cons rfl le_nil)), F, hi⟩
  refine stT (v := .bool true) rfl rfl (o_v rfl (congrArg Value.bool (by simp; omega))) ?_
  refine st rfl ?_
  refine ai_cond (b := true) rfl (fun _ => ?_) fun hb => by cases hb
  refine ai_skip ?_
  have hu : (us.map nI)[i]? = some (nI us[i]) := by simp [hlt]
  have hrd1 : Rd h (.slice x0 us.length c0) (us.map nI) := r.ext fun i o sp n c e => F.ext.2 i (hi0 i o sp n c e)
  obtain ⟨_, hn⟩ | ⟨i2, o2, sp2, c2, e2, hr2⟩ := hrd1
  · have e := congrArg List.length hn
    simp only [List.length_map, List.length_nil] at e
    omega
  rw [List.length_map] at e2
  cases e2
  refine ai_join (γ := Nat × Nat) (fun g => [(0, .slice (some ⟨i2, o2, sp2⟩) us.length c0), (1, nI b), (5, ptr h0.nx), (6, nI g.1), (7, nI g.2), (8, ptr C), (9, nI i)]) (fun g h => Fst h0 h C (i + 1) g.1 g.2) ?_ ?_
  case refine_2 =>
    rintro ⟨n, x⟩ h F
    refine ai_reg ?_
    refine st rfl ?_
    refine st_w rfl (by omega) ?_
    refine st rfl ?_
    exact ⟨(n, x, i + 1), le_cons rfl (le_cons rfl (le_cons rfl (le_cons rfl (le_cons rfl (le_cons rfl (le_cons (by simp [Env.get, Env.put]) le_nil)))))), ⟨F, by dsimp only; omega⟩, by dsimp only; omega⟩
  have hk : 0 ≤ IntKind.u64.wrap us[i] % 4 ∧ IntKind.u64.wrap us[i] % 4 < 4 := by omega
  generalize hK : IntKind.u64.wrap us[i] % 4 = K at hk
  refine ai_block ?_
  refine ai_seq (ai_reg ?_)
  iterate 2 refine st rfl ?_
  refine st_iad rfl (by omega) ?_
  refine st_ld rfl (hr2 _ _ (by rw [Int.toNat_natCast]; exact hu)) ?_
  refine st rfl ?_
  refine st_rem rfl (u64_rng _).1 (by omega) ?_
  rw [hK]
  refine st rfl ?_
  refine ai_seq (ai_reg ?_)
  refine st rfl ?_
  refine ai_block ?_
  refine ai_join (γ := Unit) (fun _ => [(0, .slice (some ⟨i2, o2, sp2⟩) us.length c0), (1, nI b), (5, ptr h0.nx), (6, nI n), (7, nI x), (8, ptr C), (9, nI i), (36, .int .u64 K), (85, .bool (decide (K < 2)))]) (fun _ h' => h = h') ?_ ?_
  · refine ai_seq (ai_reg ?_)
    by_cases hK0 : K = 0
    · refine st_v (v2 := .bool true) rfl (congrArg Value.bool (by simp [hK0])) ?_
      refine st rfl ?_
      refine ai_cond (b := true) rfl (fun _ => ai_skip ?_) fun hb => by cases hb
      exact ⟨rfl, (), le_cons rfl (le_cons rfl (le_cons rfl (le_cons rfl (le_cons rfl (le_cons rfl (le_cons rfl (le_cons rfl (le_cons (by simp [Env.get, Env.put, hK0]) le_nil)))))))), rfl⟩
    · refine st_v (v2 := .bool false) rfl (congrArg Value.bool (by simp [hK0])) ?_
      refine st rfl ?_
      refine ai_cond (b := false) rfl (fun hb => by cases hb) fun _ => ?_
      refine ai_reg ?_
      refine st_v (v2 := .bool (decide (K < 2))) rfl (congrArg Value.bool (by rw [Bool.eq_iff_iff]; simp; omega)) ?_
      refine st rfl ?_
      exact ⟨rfl, (), le_cons rfl (le_cons rfl (le_cons rfl (le_cons rfl (le_cons rfl (le_cons rfl (le_cons rfl (le_cons rfl (le_cons rfl le_nil)))))))), rfl⟩
  rintro _ _ rfl
  obtain ⟨⟨j, last, cs, hl, hj, qa, hC, hcs, hjC, hcb⟩, hCl, hC0, hx, hxn, hni⟩ := F
  by_cases hK2 : K < 2
  · -- one comes
    refine ai_cond (b := true) (by simp [evA, Env.get, hK2]) (fun _ => ?_) fun hb => by cases hb
    refine ai_seq (ai_reg ?_)
    iterate 3 refine st rfl ?_
    by_cases hf : (n : Int) - x < 50
    · refine stC rfl ((put_ok qa (by omega) hl (by rw [qL_len]; omega) (by rw [qL_len]; omega)).mono ?_)
      rintro v h2 ⟨rfl, j2, qa2, m2, hj2⟩
      refine st rfl ?_
      refine ai_seq (ai_seq (ai_reg ?_))
      refine st rfl ?_
      refine st rfl ?_
      iterate 2 refine st rfl ?_
      refine st_w rfl (by omega) ?_
      refine st_v (v2 := .bool true) rfl (congrArg Value.bool (by simp; omega)) ?_
      refine st rfl ?_
      refine ai_cond (b := false) rfl (fun hb => by cases hb) fun _ => ai_skip ?_
      refine ai_seq (ai_reg ?_)
      iterate 2 refine st rfl ?_
      refine ai_cond (b := true) rfl (fun _ => ?_) fun hb => by cases hb
      have hC2 : h2.get C = some ⟨List.map nI cs, true, 0⟩ := (m2.2 C hCl (by omega) (by omega)).trans hC
      refine ai_seq (ai_reg ?_)
      iterate 2 refine st rfl ?_
      refine st_iaa rfl (by omega) ?_
      refine st_st (h' := h2.put C ⟨(List.map nI cs).set n (nI i), true, 0⟩) rfl rfl (by rw [Int.toNat_natCast, Nat.mul_one]; exact wr_f hC2 (by simp; omega) rfl) ?_
      refine ai_reg ?_
      refine st rfl ?_
      refine st_w rfl (by omega) ?_
      refine st rfl ?_
      have hm := m2.1
      refine ⟨rfl, (n + 1, x), le_cons rfl (le_cons rfl (le_cons rfl (le_cons (by simp [Env.get, Env.put]) (le_cons rfl (le_cons rfl (le_cons rfl le_nil)))))), ⟨⟨j2, _, cs.set n i, (by omega : (i : Int) ≤ ((i + 1 : Nat) : Int)), by omega, ?_, ?_, by simp [hcs], by omega, ?_⟩, by rw [hput_nx]; omega, hC0, ?_, by dsimp only; omega, by dsimp only; omega⟩⟩
      · obtain ⟨k1, k2, s, k3, k4⟩ := qa2
        dsimp only
        rw [qL_push cs hxn (by omega)]
        exact ⟨k1, k2, s, (hput_ne _ _ (by omega)).trans k3, k4.keep fun _ => hput_ne _ _ (by omega)⟩
      · rw [hput_same, List.map_set]
      · intro m hmn
        dsimp only at hmn
        simp only [List.getD_eq_getElem?_getD]
        by_cases e : m = n
        · subst e
          rw [List.getElem?_set_self (by omega)]
          simp; omega
        · rw [List.getElem?_set_ne (by omega)]
          have := hcb m (by omega)
          simpa [List.getD_eq_getElem?_getD] using this
      · have x2 := hx.mod m2 (Nat.le_refl _) hj
        exact ⟨x2.1, fun k hk => (hput_ne _ _ (by omega)).trans (x2.2 k hk)⟩
    · refine stC rfl ((put_full qa (by omega) hl (by rw [qL_len]; omega)).mono ?_)
      rintro v _ ⟨rfl, rfl⟩
      refine st rfl ?_
      refine ai_seq (ai_seq (ai_reg ?_))
      refine st rfl ?_
      refine st rfl ?_
      iterate 2 refine st rfl ?_
      refine st_w rfl (by omega) ?_
      refine st_v (v2 := .bool false) rfl (congrArg Value.bool (by simp; omega)) ?_
      refine st rfl ?_
      refine ai_cond (b := false) rfl (fun hb => by cases hb) fun _ => ai_skip ?_
      refine ai_seq (ai_reg ?_)
      iterate 2 refine st rfl ?_
      refine ai_cond (b := false) rfl (fun hb => by cases hb) fun _ => ai_skip ?_
      exact ⟨rfl, (n, x), le_cons rfl (le_cons rfl (le_cons rfl (le_cons rfl (le_cons rfl (le_cons rfl (le_cons rfl le_nil)))))), ⟨⟨j, last, cs, by omega, hj, qa, hC, hcs, hjC, hcb⟩, hCl, hC0, hx, hxn, by omega⟩⟩
  refine ai_cond (b := false) (by simp [evA, Env.get, hK2]) (fun hb => by cases hb) fun _ => ?_
  refine ai_seq (ai_reg ?_)
  by_cases hK3 : K = 2
  · -- one goes
    refine st_v (v2 := .bool true) rfl (congrArg Value.bool (by simp [hK3])) ?_
    refine st rfl ?_
    refine ai_cond (b := true) rfl (fun _ => ?_) fun hb => by cases hb
    refine ai_seq (ai_reg ?_)
    refine st rfl ?_
    by_cases hxn2 : x < n
    · rw [qL_cons cs hxn2] at qa
      refine stC rfl ((take_ok h qa).mono ?_)
      rintro v h2 ⟨rfl, qa2, m2⟩
      iterate 5 refine st rfl ?_
      refine ai_seq (ai_seq (ai_reg ?_))
      iterate 3 refine st rfl ?_
      refine st_v (v2 := .bool true) rfl (congrArg Value.bool (by simp; omega)) ?_
      iterate 2 refine st rfl ?_
      iterate 4 refine stT rfl rfl rfl ?_
      refine stT (v := .bool false) rfl rfl (o_v rfl (congrArg Value.bool (by simp))) ?_
      refine stT rfl rfl rfl ?_
      refine st rfl ?_
      refine ai_cond (b := false) rfl (fun hb => by cases hb) fun _ => ai_skip ?_
      refine ai_seq (ai_reg ?_)
      refine st rfl ?_
      refine ai_cond (b := true) rfl (fun _ => ?_) fun hb => by cases hb
      refine ai_reg ?_
      refine st rfl ?_
      refine st_w rfl (by omega) ?_
      refine st rfl ?_
      have hm := m2.1
      exact ⟨rfl, (n, x + 1), le_cons rfl (le_cons rfl (le_cons rfl (le_cons rfl (le_cons (by simp [Env.get, Env.put]) (le_cons rfl (le_cons rfl le_nil)))))), ⟨⟨j, last, cs, by omega, hj, qa2, (m2.2 C hCl (by omega) (by omega)).trans hC, hcs, hjC, hcb⟩, by omega, hC0, hx.mod m2 (Nat.le_refl _) hj, by dsimp only; omega, by dsimp only; omega⟩⟩
    · have e : qL cs x n = [] := List.eq_nil_of_length_eq_zero (by rw [qL_len]; omega)
      have qa' := qa
      rw [e] at qa'
      refine stC rfl ((take_nil h qa').mono ?_)
      rintro v _ ⟨rfl, rfl⟩
      iterate 5 refine st rfl ?_
      refine ai_seq (ai_seq (ai_reg ?_))
      iterate 3 refine st rfl ?_
      refine st_v (v2 := .bool false) rfl (congrArg Value.bool (by simp; omega)) ?_
      iterate 2 refine st rfl ?_
      iterate 2 refine stT rfl rfl rfl ?_
      iterate 3 refine stF rfl rfl ?_
      refine stT rfl rfl rfl ?_
      refine st rfl ?_
      refine ai_cond (b := false) rfl (fun hb => by cases hb) fun _ => ai_skip ?_
      refine ai_seq (ai_reg ?_)
      refine st rfl ?_
      refine ai_cond (b := false) rfl (fun hb => by cases hb) fun _ => ai_skip ?_
      exact ⟨rfl, (n, x), le_cons rfl (le_cons rfl (le_cons rfl (le_cons rfl (le_cons rfl (le_cons rfl (le_cons rfl le_nil)))))), ⟨⟨j, last, cs, by omega, hj, qa, hC, hcs, hjC, hcb⟩, hCl, hC0, hx, hxn, by omega⟩⟩
  -- who is late
  refine st_v (v2 := .bool false) rfl (congrArg Value.bool (by simp [hK3])) ?_
  refine st rfl ?_
  refine ai_cond (b := false) rfl (fun hb => by cases hb) fun _ => ?_
  generalize hag : IntKind.u64.wrap b % 20 = age at hage
  refine ai_seq (ai_reg ?_)
  iterate 2 refine st rfl ?_
  refine st_rem rfl (by omega) (by omega) ?_
  refine st_v (v2 := nI age) rfl (by rw [hag, wrap_i64' (by omega) (by omega)]) ?_
  refine st rfl ?_
  refine ai_seq (ai_reg ?_)
  iterate 3 refine st rfl ?_
  refine stC rfl ((late_ok h qa (now := i) (age := age) (by rw [qL_len]; omega)).mono ?_)
  rintro v h2 ⟨d, hd, hd1, hd2, how, qa2, m2⟩
  rw [qL_len] at hd
  have x2 := hx.mod m2 (Nat.le_refl _) hj
  have hC2 : h2.get C = some ⟨List.map nI cs, true, 0⟩ := (m2.2 C hCl (by omega) (by omega)).trans hC
  have hlt1 : ∀ m, m < d → (i : Int) - cs.getD (x + m) 0 ≥ age := by
    intro m hm
    have h1 := hcb (x + m) (by omega)
    have := hd1 (((x + m : Nat) : Int), cs.getD (x + m) 0) (List.mem_of_getElem? (i := m) (by rw [List.getElem?_take, if_pos hm]; exact qL_get cs (by omega)))
    rw [late_iff (by omega) (by omega) h1.1 (by omega) (by omega) (by omega)] at this
    exact of_decide_eq_true this
  have hlt2 : x + d < n → ¬ (i : Int) - cs.getD (x + d) 0 ≥ age := by
    intro hm
    have h1 := hcb (x + d) (by omega)
    have := hd2 _ (qL_get cs (by omega))
    rw [late_iff (by omega) (by omega) h1.1 (by omega) (by omega) (by omega)] at this
    exact of_decide_eq_false this
  have hcg : ∀ m, m < n → (List.map nI cs)[m]? = some (nI (cs.getD m 0)) := by
    intro m hm
    rw [List.getElem?_map, List.getElem?_eq_getElem (by omega), List.getD_eq_getElem?_getD, List.getElem?_eq_getElem (by omega)]
    rfl
  refine st rfl ?_
  have hrl := how.rdd
  have htl : (((qL cs x n).take d).map fun p => nI p.1).length = d := by simp [qL_len]; omega
  obtain ⟨xl, cl, e⟩ := hrl.len
  rw [htl] at e
  subst e
  refine ai_join (γ := Unit) (fun _ => [(0, .slice (some ⟨i2, o2, sp2⟩) us.length c0), (1, nI b), (5, ptr h0.nx), (6, nI n), (7, nI ((x + d : Nat) : Int)), (8, ptr C), (9, nI i), (14, nI age)]) (fun _ h' => h2 = h') ?_ ?_
  · refine ai_seq (ai_reg ?_)
    refine st rfl ?_
    refine ai_block (ai_loopE (γ := Nat) (fun m => [(0, .slice (some ⟨i2, o2, sp2⟩) us.length c0), (1, nI b), (5, ptr h0.nx), (6, nI n), (7, nI ((x + m : Nat) : Int)), (8, ptr C), (9, nI i), (14, nI age), (15, .slice xl d cl), (16, nI m)]) (fun m h' => h2 = h' ∧ m ≤ d) (fun m => d - m) 0
      (le_cons rfl (le_cons rfl (le_cons rfl (le_cons rfl (le_cons rfl (le_cons rfl (le_cons rfl (le_cons rfl (le_cons rfl (le_cons rfl le_nil)))))))))) ⟨rfl, Nat.zero_le _⟩ ?_)
    rintro m _ ⟨rfl, hm⟩
    refine ai_seq (ai_seq (ai_reg ?_))
    iterate 3 refine st rfl ?_
    by_cases hmd : m < d
    case neg =>
      obtain rfl : m = d := by omega
      refine st_v (v2 := .bool false) rfl (congrArg Value.bool (by simp)) ?_
      refine ai_cond (b := false) rfl (fun hb => by cases hb) fun _ => ?_
      refine ai_exit ?_
      exact ⟨rfl, (), le_cons rfl (le_cons rfl (le_cons rfl (le_cons rfl (le_cons rfl (le_cons rfl (le_cons rfl (le_cons rfl le_nil))))))), rfl⟩
    refine st_v (v2 := .bool true) rfl (congrArg Value.bool (by simp; omega)) ?_
    refine ai_cond (b := true) rfl (fun _ => ?_) fun hb => by cases hb
    refine ai_skip ?_
    have hg : (((qL cs x n).take d).map fun p => nI p.1)[m]? = some (nI ((x + m : Nat) : Int)) := by
      rw [List.getElem?_map, List.getElem?_take, if_pos hmd, qL_get cs (by omega)]
      rfl
    obtain ⟨_, hn⟩ | ⟨i3, o3, sp3, c3, e3, hr3⟩ := hrl
    · have e := congrArg List.length hn
      rw [htl, List.length_nil] at e
      omega
    rw [htl] at e3
    cases e3
    have hcm := hcb (x + m) (by omega)
    have hlm := hlt1 m hmd
    refine ai_seq (ai_block ?_)
    refine ai_seq (ai_seq (ai_reg ?_))
    iterate 2 refine st rfl ?_
    refine st_iad rfl (by omega) ?_
    refine st_ld rfl (hr3 _ _ (by rw [Int.toNat_natCast]; exact hg)) ?_
    refine st rfl ?_
    refine st_v (v2 := .bool false) rfl (congrArg Value.bool (by simp)) ?_
    refine st rfl ?_
    iterate 2 refine stT rfl rfl rfl ?_
    refine stT (v := .bool false) rfl rfl (o_v rfl (congrArg Value.bool (by simp; omega))) ?_
    iterate 2 refine st rfl ?_
    iterate 2 refine stT rfl rfl rfl ?_
    refine stT rfl rfl (o_iaa rfl (by omega)) ?_
    refine stT rfl rfl (o_ld rfl (by rw [Int.toNat_natCast, Nat.mul_one]; exact rd_f hC2 (hcg (x + m) (by omega)))) ?_
    refine stT rfl rfl (o_w rfl (by omega)) ?_
    refine stT rfl rfl rfl ?_
    refine stT (v := .bool false) rfl rfl (o_v rfl (congrArg Value.bool (decide_eq_false (by omega)))) ?_
    refine st rfl ?_
    refine ai_cond (b := false) rfl (fun hb => by cases hb) fun _ => ai_skip ?_
    refine ai_reg ?_
    refine st rfl ?_
    refine st_w rfl (by omega) ?_
    refine st rfl ?_
    refine ai_reg ?_
    refine st rfl ?_
    refine st_w rfl (by omega) ?_
    refine st rfl ?_
    exact ⟨m + 1, le_cons rfl (le_cons rfl (le_cons rfl (le_cons rfl (le_cons (by simp [Env.get, Env.put]; omega) (le_cons rfl (le_cons rfl (le_cons rfl (le_cons rfl (le_cons (by simp [Env.get, Env.put]) le_nil))))))))), ⟨rfl, by omega⟩, by dsimp only; omega⟩
  rintro _ _ rfl
  rw [qL_drop] at qa2
  have hm2 := m2.1
  have fin : Fst h0 h2 C (i + 1) n (x + d) := ⟨⟨j, last, cs, by omega, hj, qa2, hC2, hcs, hjC, hcb⟩, by omega, hC0, x2, by omega, by omega⟩
  refine ai_seq (ai_reg ?_)
  iterate 2 refine st rfl ?_
  by_cases hxd : x + d < n
  · have hcm := hcb (x + d) (by omega)
    have hlm := hlt2 hxd
    refine st_v (v2 := .bool true) rfl (congrArg Value.bool (by simp; omega)) ?_
    refine st rfl ?_
    iterate 2 refine stT rfl rfl rfl ?_
    refine stT rfl rfl (o_iaa rfl (by omega)) ?_
    refine stT rfl rfl (o_ld rfl (by rw [Int.toNat_natCast, Nat.mul_one]; exact rd_f hC2 (hcg (x + d) (by omega)))) ?_
    refine stT rfl rfl (o_w rfl (by omega)) ?_
    refine stT rfl rfl rfl ?_
    refine stT (v := .bool false) rfl rfl (o_v rfl (congrArg Value.bool (decide_eq_false (by omega)))) ?_
    refine st rfl ?_
    refine ai_cond (b := false) rfl (fun hb => by cases hb) fun _ => ai_skip ?_
    exact ⟨rfl, (n, x + d), le_cons rfl (le_cons rfl (le_cons rfl (le_cons rfl (le_cons rfl (le_cons rfl (le_cons rfl le_nil)))))), fin⟩
  · refine st_v (v2 := .bool false) rfl (congrArg Value.bool (by simp; omega)) ?_
    refine st rfl ?_
    iterate 7 refine stF rfl rfl ?_
    refine st rfl ?_
    refine ai_cond (b := false) rfl (fun hb => by cases hb) fun _ => ai_skip ?_
    exact ⟨rfl, (n, x + d), le_cons rfl (le_cons rfl (le_cons rfl (le_cons rfl (le_cons rfl (le_cons rfl (le_cons rfl le_nil)))))), fin⟩
end Go.Proofs.YtcdfoicebcmlaaaW.Am
