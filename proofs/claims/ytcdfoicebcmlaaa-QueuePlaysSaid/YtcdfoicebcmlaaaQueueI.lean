/- QueueLate, over abstract heaps. -/
import Derived.Test.YtcdfoicebcmlaaaQueueH
namespace Go.Proofs.YtcdfoicebcmlaaaW.Am
open Go Go.RowKit
theorem QS.keep {h h' : Hp} {q j : Nat} {s : Value} {us : List Value} (a : QS h q j s us) (e : j ≠ q → h'.get j = h.get j) : QS h' q j s us := by
  rcases a with a | ⟨xs, sp, e1, e2, e3, e4, e5⟩
  · exact .inl a
  · exact .inr ⟨xs, sp, e1, (e e5).trans e2, e3, e4, e5⟩
theorem late_iff {now age t : Int} (h1 : 0 ≤ now) (h2 : now ≤ 10000) (h3 : 0 ≤ t) (h4 : t ≤ 10000) (h5 : 0 ≤ age) (h6 : age ≤ 10000) : lateB now age t = decide (now - t ≥ age) := by
  unfold lateB
  rw [wrap_u64' h1 (by omega), wrap_u64' h3 (by omega), if_neg (by omega), wrap_u64' h5 (by omega)]
  rw [Bool.eq_iff_iff]
  by_cases hc : now < t
  · simp only [hc, decide_true, Bool.true_or, Bool.not_true, decide_eq_true_eq]
    constructor
    · intro h; cases h
    · intro h; omega
  · rw [wrap_u64' (by omega) (by omega)]
    simp only [hc, decide_false, Bool.false_or, Bool.not_eq_true', decide_eq_false_iff_not, decide_eq_true_eq]
    omega
def dF (us : List Int) (m : Nat) : Int := IntKind.u64.wrap (us.getD m 0) % 6
def sF (us : List Int) : Nat → Int
  | 0 => 0
  | m + 1 => sF us m + dF us m
theorem dF_bd (us : List Int) (m : Nat) : 0 ≤ dF us m ∧ dF us m ≤ 5 := by unfold dF; omega
theorem sF_bd (us : List Int) (m : Nat) : 0 ≤ sF us m ∧ sF us m ≤ 5 * m := by
  induction m with
  | zero => exact ⟨Int.le_refl _, Int.le_refl _⟩
  | succ m ih => have := dF_bd us m; simp only [sF]; omega
def atF (us : List Int) (i : Nat) : List Int := (List.range i).map fun m => sF us (m + 1)
def qF (us : List Int) (i : Nat) : List (Int × Int) := (List.range i).map fun (m : Nat) => ((m : Int), sF us (m + 1))
theorem atF_len (us : List Int) (i : Nat) : (atF us i).length = i := by simp [atF]
theorem qF_len (us : List Int) (i : Nat) : (qF us i).length = i := by simp [qF]
theorem atF_succ (us : List Int) (n : Nat) : atF us (n + 1) = atF us n ++ [sF us (n + 1)] := by simp [atF, List.range_succ]
theorem qF_succ (us : List Int) (n : Nat) : qF us (n + 1) = qF us n ++ [((n : Int), sF us (n + 1))] := by simp [qF, List.range_succ]
theorem qF_get (us : List Int) {n i : Nat} (hi : i < n) : (qF us n)[i]? = some ((i : Int), sF us (i + 1)) := by simp [qF, hi]
theorem atF_get (us : List Int) {n i : Nat} (hi : i < n) : ((atF us n).map nI)[i]? = some (nI (sF us (i + 1))) := by simp [atF, hi]

set_option maxHeartbeats 2000000 in
theorem queueLate_ok (us : List Int) (s0 : Value) (b c : Int) (h0 : Hp) (r : Rd h0 s0 (us.map nI)) (hi0 : ∀ i o sp n c, s0 = .slice (some ⟨i, o, sp⟩) n c → i < h0.nx) :
    ACall PQ 6 [s0, nI b, nI c] h0 (fun v h' => v = .bool true ∧ Ext h0 h') := by
  have hb := u64_rng b
  have hc := u64_rng c
  have hnow : 0 ≤ IntKind.u64.wrap b % 200 ∧ IntKind.u64.wrap b % 200 < 200 := by omega
  have hage : 0 ≤ IntKind.u64.wrap c % 41 ∧ IntKind.u64.wrap c % 41 < 41 := by omega
  obtain ⟨x0, c0, e⟩ := r.len
  subst e
  rw [List.length_map] at *
  have hN : ∃ N, N ≤ 30 ∧ N ≤ us.length ∧ (N = 30 ∨ N = us.length) := by
    by_cases h : us.length ≤ 30
    · exact ⟨us.length, h, Nat.le_refl _, .inr rfl⟩
    · exact ⟨30, Nat.le_refl _, by omega, .inl rfl⟩
  obtain ⟨N, hN1, hN2, hN3⟩ := hN
  refine acall Go.Proofs.Try.func6 c6 (by simp [ir6]) ?_
  unfold ir6
  dsimp only
  refine ai_seq (ai_reg ?_)
  refine st rfl ?_
  refine ai_seq (ai_reg ?_)
  refine stC rfl ((new_ok h0 (by omega) (by omega)).mono ?_)
  rintro v h1 ⟨rfl, a1, x1⟩
  refine st rfl ?_
  refine ai_seq (ai_seq (ai_reg ?_))
  iterate 2 refine st rfl ?_
  refine ai_cond (b := false) rfl (fun hb => by cases hb) (fun _ => ai_skip ?_)
  refine ai_seq (ai_reg ?_)
  refine st rfl ?_
  refine ai_seq (ai_reg ?_)
  refine st rfl ?_
  refine ai_join (γ := Value) (fun s => [(1, nI b), (2, nI c), (7, ptr h0.nx), (8, s)]) (fun s h => ∃ j A last, last ≤ sF us N ∧ h0.nx ≤ j ∧ QA h h0.nx j 30 last (qF us N) ∧ QS h h0.nx A s ((atF us N).map nI) ∧ A < h.nx ∧ (j ≠ A ∨ A = h0.nx) ∧ Ext h0 h) ?_ ?_
  · refine ai_seq (ai_reg ?_)
    refine st rfl ?_
    refine ai_block (ai_loopE (γ := Nat × Value) (fun g => [(0, .slice x0 us.length c0), (1, nI b), (2, nI c), (7, ptr h0.nx), (8, g.2), (9, nI (sF us g.1)), (10, nI g.1)])
      (fun g h => (∃ j A last, last ≤ sF us g.1 ∧ h0.nx ≤ j ∧ QA h h0.nx j 30 last (qF us g.1) ∧ QS h h0.nx A g.2 ((atF us g.1).map nI) ∧ A < h.nx ∧ h0.nx ≤ A ∧ (j ≠ A ∨ A = h0.nx) ∧ Ext h0 h) ∧ g.1 ≤ N) (fun g => N - g.1) (0, .slice none 0 0)
      (le_cons rfl (le_cons rfl (le_cons rfl (le_cons rfl (le_cons rfl (le_cons rfl (le_cons rfl le_nil))))))) ⟨⟨h0.nx, h0.nx, _, by simp [sF], Nat.le_refl _, a1, .inl ⟨rfl, rfl⟩, a1.ql, Nat.le_refl _, .inr rfl, x1⟩, Nat.zero_le _⟩ ?_)
    rintro ⟨i, s⟩ h ⟨⟨j, A, last, hl, hj, qa, qs, hA, hA0, hjA, x⟩, hi⟩
    dsimp only at hl qa qs hi ⊢
    refine ai_seq (ai_seq (ai_reg ?_))
    iterate 3 refine st rfl ?_
    by_cases hlt : i < N
    case neg =>
      obtain rfl : i = N := by omega
      by_cases hlu : i < us.length
      · refine st_v (v2 := .bool true) rfl (congrArg Value.bool (by simp; omega)) ?_
        refine st rfl ?_
        refine stT rfl rfl rfl ?_
        refine stT (v := .bool false) rfl rfl (o_v rfl (congrArg Value.bool (by simp; omega))) ?_
        refine st rfl ?_
        refine ai_cond (b := false) rfl (fun hb => by cases hb) fun _ => ?_
        refine ai_exit ?_
        exact ⟨rfl, s, le_cons rfl (le_cons rfl (le_cons rfl (le_cons rfl le_nil))), j, A, last, hl, hj, qa, qs, hA, hjA, x⟩
      · refine st_v (v2 := .bool false) rfl (congrArg Value.bool (by simp; omega)) ?_
        refine st rfl ?_
        iterate 2 refine stF rfl rfl ?_
        refine st rfl ?_
        refine ai_cond (b := false) rfl (fun hb => by cases hb) fun _ => ?_
        refine ai_exit ?_
        exact ⟨rfl, s, le_cons rfl (le_cons rfl (le_cons rfl (le_cons rfl le_nil))), j, A, last, hl, hj, qa, qs, hA, hjA, x⟩
    refine st_v (v2 := .bool true) rfl (congrArg Value.bool (by simp; omega)) ?_
    refine st rfl ?_
    refine stT rfl rfl rfl ?_
    refine stT (v := .bool true) rfl rfl (o_v rfl (congrArg Value.bool (by simp; omega))) ?_
    refine st rfl ?_
    refine ai_cond (b := true) rfl (fun _ => ?_) fun hb => by cases hb
    refine ai_skip ?_
    have hiu : i < us.length := by omega
    have hu : (us.map nI)[i]? = some (nI us[i]) := by simp [hiu]
    have hrd1 : Rd h (.slice x0 us.length c0) (us.map nI) := r.ext fun i o sp n c e => x.2 i (hi0 i o sp n c e)
    obtain ⟨_, hn⟩ | ⟨i2, o2, sp2, c2, e2, hr2⟩ := hrd1
    · simp at hn
      subst hn
      simp at hiu
    rw [List.length_map] at e2
    cases e2
    have hd : dF us i = IntKind.u64.wrap us[i] % 6 := by simp [dF, List.getD_eq_getElem?_getD, hiu]
    have hd2 := dF_bd us i
    have hs2 := sF_bd us i
    have hs3 := sF_bd us (i + 1)
    refine ai_seq (ai_block ?_)
    refine ai_seq (ai_reg ?_)
    iterate 3 refine st rfl ?_
    refine st_iad rfl (by omega) ?_
    refine st_ld rfl (hr2 _ _ (by rw [Int.toNat_natCast]; exact hu)) ?_
    refine st rfl ?_
    refine st_rem rfl (u64_rng _).1 (by omega) ?_
    refine st_v (v2 := nI (dF us i)) rfl (by rw [wrap_i64' (by omega) (by omega), hd]) ?_
    refine st_v (v2 := nI (sF us (i + 1))) rfl (by simp only [sF]; rw [wrap_i64' (by omega) (by omega)]) ?_
    refine st rfl ?_
    refine ai_seq (ai_reg ?_)
    iterate 2 refine st rfl ?_
    refine st (v := .slice (some ⟨h.nx, 0, none⟩) 1 1) (h' := h.new ⟨[nI (sF us (i + 1))], true, 1⟩) rfl ?_
    obtain ⟨s', h2, hst, qs2, hnx2, hk2⟩ := qs.push hA qa.ql (u := nI (sF us (i + 1))) rfl (by rw [List.length_map, atF_len]; omega) (e := 3) (bytes := 8) (by omega)
    refine st (v := s') (h' := h2) hst ?_
    refine st rfl ?_
    have hql := qa.ql
    have hjl := qa.jl
    have hgq : h2.get h0.nx = h.get h0.nx := hk2 _ hql (by by_cases e : A = h0.nx; exact .inr e; exact .inl fun e' => e e'.symm)
    have hgj : h2.get j = h.get j := hk2 _ hjl hjA
    have qa2 : QA h2 h0.nx j 30 last (qF us i) := by
      obtain ⟨_, _, s, hg, hs⟩ := qa
      exact ⟨by omega, by omega, s, hgq.trans hg, hs.keep fun _ => hgj⟩
    have x2 : Ext h0 h2 := ⟨by have := x.1; omega, fun k hk => (hk2 k (by have := x.1; omega) (.inl (by omega))).trans (x.2 k hk)⟩
    refine ai_seq (ai_reg ?_)
    iterate 3 refine st rfl ?_
    refine stC rfl ((put_ok qa2 (by omega) (by simp only [sF]; omega) (by rw [qF_len]; omega) (by rw [qF_len]; omega)).mono ?_)
    rintro v h3 ⟨rfl, j3, qa3, m3, hj3⟩
    refine st rfl ?_
    refine ai_cond (b := false) rfl (fun hb => by cases hb) fun _ => ai_skip ?_
    refine ai_reg ?_
    refine st rfl ?_
    refine st_w rfl (by omega) ?_
    refine st rfl ?_
    rw [← qF_succ] at qa3
    refine ⟨(i + 1, s'), le_cons rfl (le_cons rfl (le_cons rfl (le_cons rfl (le_cons rfl (le_cons rfl (le_cons (by simp [Env.get, Env.put]) le_nil)))))), ⟨⟨j3, h.nx + 1, _, Int.le_refl _, by omega, qa3, ?_, by have := m3.1; omega, by omega, .inl (by omega), x2.mod m3 (Nat.le_refl _) hj⟩, by dsimp only; omega⟩, by dsimp only; omega⟩
    dsimp only
    rw [atF_succ, List.map_append]
    exact qs2.keep fun _ => m3.2 _ (by omega) (by omega) (by omega)
  rintro s h ⟨j, A, last, hl, hj, qa, qs, hA, hjA, x⟩
  generalize hnw : IntKind.u64.wrap b % 200 = now at hnow
  generalize hag : IntKind.u64.wrap c % 41 = age at hage
  refine ai_seq (ai_reg ?_)
  iterate 2 refine st rfl ?_
  refine st_rem rfl (by omega) (by omega) ?_
  refine st_v (v2 := nI now) rfl (by rw [hnw, wrap_i64' (by omega) (by omega)]) ?_
  iterate 2 refine st rfl ?_
  refine st_rem rfl (by omega) (by omega) ?_
  refine st_v (v2 := nI age) rfl (by rw [hag, wrap_i64' (by omega) (by omega)]) ?_
  iterate 2 refine st rfl ?_
  refine ai_seq (ai_reg ?_)
  iterate 3 refine st rfl ?_
  refine stC rfl ((late_ok h qa (now := now) (age := age) (by rw [qF_len]; omega)).mono ?_)
  rintro v h2 ⟨d, hd, hd1, hd2, how, qa2, m2⟩
  rw [qF_len] at hd
  have x2 := x.mod m2 (Nat.le_refl _) hj
  have qs2 : QS h2 h0.nx A s ((atF us N).map nI) := qs.keep fun e => m2.2 A hA e (by rcases hjA with e' | e'; exact fun e'' => e' e''.symm; exact (e e').elim)
  have hlt1 : ∀ i, i < d → now - sF us (i + 1) ≥ age := by
    intro i hi
    have h1 := sF_bd us (i + 1)
    have := hd1 ((i : Int), sF us (i + 1)) (List.mem_of_getElem? (i := i) (by rw [List.getElem?_take, if_pos hi]; exact qF_get us (by omega)))
    rw [late_iff (by omega) (by omega) (by dsimp only; omega) (by dsimp only; omega) (by omega) (by omega)] at this
    exact of_decide_eq_true this
  have hlt2 : d < N → ¬ now - sF us (d + 1) ≥ age := by
    intro hi
    have h1 := sF_bd us (d + 1)
    have := hd2 _ (qF_get us hi)
    rw [late_iff (by omega) (by omega) (by dsimp only; omega) (by dsimp only; omega) (by omega) (by omega)] at this
    exact of_decide_eq_false this
  refine st rfl ?_
  refine ai_seq (ai_reg ?_)
  refine st rfl ?_
  have hrs := qs2.rd
  obtain ⟨xs, cs, e⟩ := hrs.len
  subst e
  have hlN : ((atF us N).map nI).length = N := by rw [List.length_map, atF_len]
  rw [hlN] at *
  refine ai_join (γ := Unit) (fun _ => [(7, ptr h0.nx), (8, .slice xs N cs), (13, v), (14, nI d)]) (fun _ h' => h2 = h') ?_ ?_
  · refine ai_block (ai_loopE (γ := Nat) (fun k => [(7, ptr h0.nx), (8, .slice xs N cs), (11, nI now), (12, nI age), (13, v), (14, nI k)]) (fun k h' => h2 = h' ∧ k ≤ d) (fun k => d - k) 0
      (le_cons rfl (le_cons rfl (le_cons rfl (le_cons rfl (le_cons rfl (le_cons rfl le_nil)))))) ⟨rfl, Nat.zero_le _⟩ ?_)
    rintro k _ ⟨rfl, hk⟩
    refine ai_seq (ai_seq (ai_reg ?_))
    iterate 3 refine st rfl ?_
    by_cases hkN : k < N
    case neg =>
      obtain rfl : k = d := by omega
      refine st_v (v2 := .bool false) rfl (congrArg Value.bool (by simp; omega)) ?_
      refine st rfl ?_
      iterate 8 refine stF rfl rfl ?_
      refine st rfl ?_
      refine ai_cond (b := false) rfl (fun hb => by cases hb) fun _ => ?_
      refine ai_exit ?_
      exact ⟨rfl, (), le_cons rfl (le_cons rfl (le_cons rfl (le_cons rfl le_nil))), rfl⟩
    refine st_v (v2 := .bool true) rfl (congrArg Value.bool (by simp; omega)) ?_
    refine st rfl ?_
    obtain ⟨_, hn⟩ | ⟨i2, o2, sp2, c2, e2, hr2⟩ := hrs
    · have e := congrArg List.length hn
      simp only [List.length_map, atF_len, List.length_nil] at e
      omega
    rw [hlN] at e2
    cases e2
    have hb1 := sF_bd us (k + 1)
    iterate 3 refine stT rfl rfl rfl ?_
    refine stT rfl rfl (o_iad rfl (by omega)) ?_
    refine stT rfl rfl (o_ld rfl (hr2 _ _ (by rw [Int.toNat_natCast]; exact atF_get us hkN))) ?_
    refine stT rfl rfl (o_w rfl (by omega)) ?_
    refine stT rfl rfl rfl ?_
    by_cases hkd : k < d
    · refine stT (v := .bool true) rfl rfl (o_v rfl (congrArg Value.bool (by have := hlt1 k hkd; simp; omega))) ?_
      refine st rfl ?_
      refine ai_cond (b := true) rfl (fun _ => ?_) fun hb => by cases hb
      refine ai_skip ?_
      refine ai_block (ai_reg ?_)
      refine st rfl ?_
      refine st_w rfl (by omega) ?_
      refine st rfl ?_
      exact ⟨k + 1, le_cons rfl (le_cons rfl (le_cons rfl (le_cons rfl (le_cons rfl (le_cons (by simp [Env.get, Env.put]) le_nil))))), ⟨rfl, by omega⟩, by dsimp only; omega⟩
    · obtain rfl : k = d := by omega
      refine stT (v := .bool false) rfl rfl (o_v rfl (congrArg Value.bool (by have := hlt2 hkN; simp; omega))) ?_
      refine st rfl ?_
      refine ai_cond (b := false) rfl (fun hb => by cases hb) fun _ => ?_
      refine ai_exit ?_
      exact ⟨rfl, (), le_cons rfl (le_cons rfl (le_cons rfl (le_cons rfl le_nil))), rfl⟩
  rintro _ _ rfl
  have hdl : ((qF us N).drop d).length = N - d := by simp [qF_len]
  have hrl := how.rdd
  have htl : (((qF us N).take d).map fun p => nI p.1).length = d := by simp [qF_len]; omega
  obtain ⟨xl, cl, e⟩ := hrl.len
  subst e
  rw [htl] at *
  refine ai_seq (ai_seq (ai_reg ?_))
  iterate 3 refine st rfl ?_
  refine st_v (v2 := .bool false) rfl (congrArg Value.bool (by simp)) ?_
  refine st rfl ?_
  refine stT rfl rfl rfl ?_
  refine stCT rfl rfl rfl ((all_ok h2 qa2 (by omega)).mono ?_)
  rintro w h3 ⟨y3, how3⟩
  obtain ⟨xw, cw, rfl⟩ := how3.rdd.len
  rw [List.length_map, hdl]
  iterate 4 refine stT rfl rfl rfl ?_
  refine stT rfl rfl (o_w rfl (by omega)) ?_
  refine stT (v := .bool false) rfl rfl (o_v rfl (congrArg Value.bool (by simp; omega))) ?_
  refine st rfl ?_
  refine ai_cond (b := false) rfl (fun hb => by cases hb) fun _ => ai_skip ?_
  have how4 := (how.move y3).rdd
  have qa3 := qa2.ext y3
  have x3 := x2.trans y3
  refine ai_join (γ := Unit) (fun _ => [(7, ptr h0.nx), (8, .slice xs N cs), (14, nI d)]) (fun _ h' => h3 = h') ?_ ?_
  · refine ai_seq (ai_reg ?_)
    refine st rfl ?_
    refine ai_block (ai_loopE (γ := Nat) (fun i => [(7, ptr h0.nx), (8, .slice xs N cs), (13, .slice xl d cl), (14, nI d), (15, nI i)]) (fun i h' => h3 = h' ∧ i ≤ d) (fun i => d - i) 0
      (le_cons rfl (le_cons rfl (le_cons rfl (le_cons rfl (le_cons rfl le_nil))))) ⟨rfl, Nat.zero_le _⟩ ?_)
    rintro i _ ⟨rfl, hi⟩
    refine ai_seq (ai_seq (ai_reg ?_))
    iterate 2 refine st rfl ?_
    by_cases hid : i < d
    case neg =>
      refine st_v (v2 := .bool false) rfl (congrArg Value.bool (by simp; omega)) ?_
      refine ai_cond (b := false) rfl (fun hb => by cases hb) fun _ => ?_
      refine ai_exit ?_
      exact ⟨rfl, (), le_cons rfl (le_cons rfl (le_cons rfl le_nil)), rfl⟩
    refine st_v (v2 := .bool true) rfl (congrArg Value.bool (by simp; omega)) ?_
    refine ai_cond (b := true) rfl (fun _ => ?_) fun hb => by cases hb
    refine ai_skip ?_
    have hg : (((qF us N).take d).map fun p => nI p.1)[i]? = some (nI i) := by
      rw [List.getElem?_map, List.getElem?_take, if_pos hid, qF_get us (by omega)]
      rfl
    obtain ⟨_, hn⟩ | ⟨i2, o2, sp2, c2, e2, hr2⟩ := how4
    · have e := congrArg List.length hn
      simp only [List.length_map, List.length_take, qF_len, List.length_nil] at e
      omega
    rw [List.length_map, List.length_take, qF_len, Nat.min_eq_left hd] at e2
    cases e2
    refine ai_seq (ai_block ?_)
    refine ai_seq (ai_reg ?_)
    iterate 2 refine st rfl ?_
    refine st_iad rfl (by omega) ?_
    refine st_ld rfl (hr2 _ _ (by rw [Int.toNat_natCast]; exact hg)) ?_
    refine st rfl ?_
    refine st_v (v2 := .bool false) rfl (congrArg Value.bool (by simp)) ?_
    refine ai_cond (b := false) rfl (fun hb => by cases hb) fun _ => ai_skip ?_
    refine ai_reg ?_
    refine st rfl ?_
    refine st_w rfl (by omega) ?_
    refine st rfl ?_
    exact ⟨i + 1, le_cons rfl (le_cons rfl (le_cons rfl (le_cons rfl (le_cons (by simp [Env.get, Env.put]) le_nil)))), ⟨rfl, by omega⟩, by dsimp only; omega⟩
  rintro _ _ rfl
  refine ai_join (γ := Int × Bool) (fun g => [(8, .slice xs N cs), (14, nI d), (16, nI g.1), (17, .bool g.2)]) (fun g h => g.2 = decide (d < N) ∧ (g.2 = true → g.1 = d) ∧ Ext h0 h) ?_ ?_
  · refine ai_reg ?_
    refine st rfl ?_
    by_cases hdN : d < N
    · have e : (qF us N).drop d = ((d : Int), sF us (d + 1)) :: (qF us N).drop (d + 1) := by
        rw [List.drop_eq_getElem_cons (by rw [qF_len]; exact hdN)]
        congr 1
        have := qF_get us hdN
        rw [List.getElem?_eq_getElem (by rw [qF_len]; exact hdN)] at this
        exact Option.some.inj this
      rw [e] at qa3
      refine stC rfl ((take_ok h3 qa3).mono ?_)
      rintro v h4 ⟨rfl, qa4, m4⟩
      iterate 5 refine st rfl ?_
      exact ⟨rfl, (d, true), le_cons rfl (le_cons rfl (le_cons rfl (le_cons rfl le_nil))), by simp [hdN], fun _ => rfl, x3.mod m4 (Nat.le_refl _) hj⟩
    · have e : (qF us N).drop d = [] := by rw [List.drop_eq_nil_iff, qF_len]; omega
      rw [e] at qa3
      refine stC rfl ((take_nil h3 qa3).mono ?_)
      rintro v _ ⟨rfl, rfl⟩
      iterate 5 refine st rfl ?_
      exact ⟨rfl, (0, false), le_cons rfl (le_cons rfl (le_cons rfl (le_cons rfl le_nil))), by simp [hdN], fun h => (by cases h), x3⟩
  rintro ⟨X, ok⟩ h4 ⟨hok, hX, x4⟩
  dsimp only at hok hX ⊢
  refine ai_seq (ai_reg ?_)
  refine stC rfl ((qtold_ok h4).mono ?_)
  rintro w h5 ⟨rfl, y5⟩
  refine st rfl ?_
  iterate 4 refine stT rfl rfl rfl ?_
  refine stT (v := .bool ok) rfl rfl (o_v rfl (congrArg Value.bool (by rw [hok]; simp))) ?_
  refine stT (v := .bool true) rfl rfl (o_v rfl (by cases ok <;> rfl)) ?_
  iterate 2 refine st rfl ?_
  refine stT rfl rfl rfl ?_
  cases ok with
  | true =>
    obtain rfl := hX rfl
    iterate 2 refine stT rfl rfl rfl ?_
    iterate 2 refine stT rfl rfl rfl ?_
    refine stT (v := .bool true) rfl rfl (o_v rfl (congrArg Value.bool (by simp))) ?_
    refine stT rfl rfl rfl ?_
    iterate 2 refine st rfl ?_
    refine ai_ret ?_
    exact end_one rfl ⟨rfl, x4.trans y5⟩
  | false =>
    iterate 2 refine stT rfl rfl rfl ?_
    iterate 3 refine stF rfl rfl ?_
    refine stT rfl rfl rfl ?_
    iterate 2 refine st rfl ?_
    refine ai_ret ?_
    exact end_one rfl ⟨rfl, x4.trans y5⟩
end Go.Proofs.YtcdfoicebcmlaaaW.Am
