/- QueueDepths, over abstract heaps. -/
import Derived.Test.YtcdfoicebcmlaaaQueueF
namespace Go.Proofs.YtcdfoicebcmlaaaW.Am
open Go Go.RowKit
theorem u64_rng (n : Int) : 0 ≤ IntKind.u64.wrap n ∧ IntKind.u64.wrap n ≤ 18446744073709551615 := by
  unfold IntKind.wrap
  simp only [IntKind.bits, IntKind.signed]
  simp
  omega
def qsF (n : Nat) : List (Int × Int) := (List.range n).map fun (i : Nat) => ((i : Int), (5 : Int))
theorem qsF_len (n : Nat) : (qsF n).length = n := by simp [qsF]
theorem qsF_succ (n : Nat) : qsF (n + 1) = qsF n ++ [((n : Int), (5 : Int))] := by simp [qsF, List.range_succ]
theorem qsF_drop {n i : Nat} (hi : i < n) : (qsF n).drop i = ((i : Int), (5 : Int)) :: (qsF n).drop (i + 1) := by
  rw [List.drop_eq_getElem_cons (by rw [qsF_len]; exact hi)]
  simp [qsF]

set_option maxHeartbeats 1000000 in
theorem queueDepths_ok (a b c : Int) (h0 : Hp) : ACall PQ 9 [nI a, nI b, nI c] h0 (fun v h' => v = .bool true ∧ Ext h0 h') := by
  have ha := u64_rng a
  have hb := u64_rng b
  have hc := u64_rng c
  obtain ⟨n, hn⟩ := Int.eq_ofNat_of_zero_le (show 0 ≤ IntKind.u64.wrap a % 31 by omega)
  obtain ⟨D, hD⟩ := Int.eq_ofNat_of_zero_le (show 0 ≤ IntKind.u64.wrap b % 40 by omega)
  obtain ⟨k, hk⟩ := Int.eq_ofNat_of_zero_le (show 0 ≤ IntKind.u64.wrap c % ((n : Int) + 1) from Int.emod_nonneg _ (by omega))
  have hn2 : n ≤ 30 := by omega
  have hD2 : D ≤ 39 := by omega
  have hk2 : k ≤ n := by have := Int.emod_lt_of_pos (IntKind.u64.wrap c) (show 0 < (n : Int) + 1 by omega); omega
  refine acall Go.Proofs.Try.func9 c9 (by simp [ir9]) ?_
  unfold ir9
  dsimp only
  refine ai_seq (ai_reg ?_)
  refine st rfl ?_
  refine ai_seq (ai_reg ?_)
  refine st rfl ?_
  refine st rfl ?_
  refine st_rem rfl (by omega) (by omega) ?_
  refine st_v (v2 := nI n) rfl (by rw [wrap_i64' (by omega) (by omega), hn]) ?_
  refine st rfl ?_
  refine st rfl ?_
  refine st_rem rfl (by omega) (by omega) ?_
  refine st_v (v2 := nI D) rfl (by rw [wrap_i64' (by omega) (by omega), hD]) ?_
  iterate 2 refine st rfl ?_
  refine ai_seq (ai_reg ?_)
  refine stC rfl ((new_ok h0 (by omega) (by omega)).mono ?_)
  rintro v h1 ⟨rfl, a1, x1⟩
  refine st rfl ?_
  refine ai_seq (ai_seq (ai_reg ?_))
  iterate 2 refine st rfl ?_
  refine ai_cond (b := false) rfl (fun hb => by cases hb) (fun _ => ai_skip ?_)
  refine ai_join (γ := Unit) (fun _ => [(2, nI c), (7, nI n), (8, nI D), (9, ptr h0.nx)]) (fun _ h => ∃ j last, last ≤ 5 ∧ h0.nx ≤ j ∧ QA h h0.nx j 30 last (qsF n) ∧ Ext h0 h) ?_ ?_
  · refine ai_seq (ai_reg ?_)
    refine st rfl ?_
    refine ai_block (ai_loopE (γ := Nat) (fun i => [(2, nI c), (7, nI n), (8, nI D), (9, ptr h0.nx), (10, nI i)]) (fun i h => (∃ j last, last ≤ 5 ∧ h0.nx ≤ j ∧ QA h h0.nx j 30 last (qsF i) ∧ Ext h0 h) ∧ i ≤ n) (fun i => n - i) 0
      (le_cons rfl (le_cons rfl (le_cons rfl (le_cons rfl (le_cons rfl le_nil))))) ⟨⟨_, _, by omega, Nat.le_refl _, a1, x1⟩, Nat.zero_le _⟩ ?_)
    rintro i h ⟨⟨j, last, hl, hj, qa, x⟩, hi⟩
    refine ai_seq (ai_seq (ai_reg ?_))
    iterate 2 refine st rfl ?_
    by_cases hlt : i < n
    case neg =>
      refine st_v (v2 := .bool false) rfl (congrArg Value.bool (by simp; omega)) ?_
      refine ai_cond (b := false) rfl (fun hb => by cases hb) fun _ => ?_
      refine ai_exit ?_
      obtain rfl : i = n := by omega
      exact ⟨rfl, (), le_cons rfl (le_cons rfl (le_cons rfl (le_cons rfl le_nil))), j, last, hl, hj, qa, x⟩
    refine st_v (v2 := .bool true) rfl (congrArg Value.bool (by simp; omega)) ?_
    refine ai_cond (b := true) rfl (fun _ => ?_) fun hb => by cases hb
    refine ai_skip ?_
    refine ai_seq (ai_block ?_)
    refine ai_seq (ai_reg ?_)
    iterate 2 refine st rfl ?_
    refine stC rfl ((put_ok qa (by omega) hl (by rw [qsF_len]; omega) (by rw [qsF_len]; omega)).mono ?_)
    rintro v h2 ⟨rfl, j2, qa2, m2, hj2⟩
    rw [← qsF_succ] at qa2
    have x2 := x.mod m2 (Nat.le_refl _) hj
    refine st rfl ?_
    refine ai_cond (b := false) rfl (fun hb => by cases hb) fun _ => ai_skip ?_
    refine ai_reg ?_
    refine st rfl ?_
    refine st_w rfl (by omega) ?_
    refine st rfl ?_
    exact ⟨i + 1, le_cons rfl (le_cons rfl (le_cons rfl (le_cons rfl (le_cons (by simp [Env.get, Env.put]) le_nil)))), ⟨⟨j2, 5, by omega, by have := x.1; omega, qa2, x2⟩, by omega⟩, by dsimp only; omega⟩
  rintro _ h ⟨j, last, hl, hj, qa, x⟩
  refine ai_seq (ai_seq (ai_reg ?_))
  iterate 2 refine st rfl ?_
  refine stC rfl ((depth_ok h qa (n := D) (by omega) (by omega)).mono ?_)
  rintro _ h2 ⟨rfl, qa2, m2⟩
  have x2 := x.mod m2 (Nat.le_refl _) hj
  iterate 2 refine st rfl ?_
  refine stT rfl rfl rfl ?_
  refine stCT rfl rfl rfl ((all_ok h2 qa2 (by rw [qsF_len]; omega)).mono ?_)
  rintro v h3 ⟨y3, how3⟩
  have x3 := x2.trans y3
  replace qa2 := qa2.ext y3
  obtain ⟨vx, vc, rfl⟩ := how3.rdd.len
  rw [List.length_map, qsF_len]
  iterate 2 refine stT rfl rfl rfl ?_
  refine stT (v := .bool false) rfl rfl (o_v rfl (congrArg Value.bool (by simp))) ?_
  refine st rfl ?_
  refine ai_cond (b := false) rfl (fun hb => by cases hb) (fun _ => ai_skip ?_)
  refine ai_seq (ai_reg ?_)
  iterate 3 refine st rfl ?_
  refine st_w rfl (by omega) ?_
  refine st_wu rfl (by omega) ?_
  refine st_rem rfl (by omega) (by omega) ?_
  refine st_v (v2 := nI k) rfl (by rw [hk, wrap_i64' (by omega) (by omega)]) ?_
  refine st rfl ?_
  refine ai_join (γ := Unit) (fun _ => [(7, nI n), (8, nI D), (9, ptr h0.nx), (11, nI k)]) (fun _ h => QA h h0.nx j D last ((qsF n).drop k) ∧ Ext h0 h) ?_ ?_
  · refine ai_seq (ai_reg ?_)
    refine st rfl ?_
    refine ai_block (ai_loopE (γ := Nat) (fun i => [(7, nI n), (8, nI D), (9, ptr h0.nx), (11, nI k), (12, nI i)]) (fun i h => QA h h0.nx j D last ((qsF n).drop i) ∧ Ext h0 h ∧ i ≤ k) (fun i => k - i) 0
      (le_cons rfl (le_cons rfl (le_cons rfl (le_cons rfl (le_cons rfl le_nil))))) ⟨qa2, x3, Nat.zero_le _⟩ ?_)
    rintro i h ⟨qa, x, hi⟩
    refine ai_seq (ai_seq (ai_reg ?_))
    iterate 2 refine st rfl ?_
    by_cases hlt : i < k
    case neg =>
      refine st_v (v2 := .bool false) rfl (congrArg Value.bool (by simp; omega)) ?_
      refine ai_cond (b := false) rfl (fun hb => by cases hb) fun _ => ?_
      refine ai_exit ?_
      obtain rfl : i = k := by omega
      exact ⟨rfl, (), le_cons rfl (le_cons rfl (le_cons rfl (le_cons rfl le_nil))), qa, x⟩
    refine st_v (v2 := .bool true) rfl (congrArg Value.bool (by simp; omega)) ?_
    refine ai_cond (b := true) rfl (fun _ => ?_) fun hb => by cases hb
    refine ai_skip ?_
    rw [qsF_drop (by omega)] at qa
    refine ai_seq (ai_block ?_)
    refine ai_seq (ai_reg ?_)
    refine st rfl ?_
    refine stC rfl ((take_ok h qa).mono ?_)
    rintro v h2 ⟨rfl, qa2, m2⟩
    have x2 := x.mod m2 (Nat.le_refl _) hj
    iterate 5 refine st rfl ?_
    refine ai_seq (ai_reg ?_)
    iterate 3 refine st rfl ?_
    iterate 2 refine stT rfl rfl rfl ?_
    refine stT (v := .bool false) rfl rfl (o_v rfl (congrArg Value.bool (by simp))) ?_
    refine st rfl ?_
    refine ai_cond (b := false) rfl (fun hb => by cases hb) fun _ => ai_skip ?_
    refine ai_reg ?_
    refine st rfl ?_
    refine st_w rfl (by omega) ?_
    refine st rfl ?_
    exact ⟨i + 1, le_cons rfl (le_cons rfl (le_cons rfl (le_cons rfl (le_cons (by simp [Env.get, Env.put]) le_nil)))), ⟨qa2, x2, by omega⟩, by dsimp only; omega⟩
  rintro _ h ⟨qa, x⟩
  have hlen : ((qsF n).drop k).length = n - k := by simp [qsF_len]
  refine ai_join (γ := Bool) (fun t => [(7, nI n), (8, nI D), (9, ptr h0.nx), (11, nI k), (15, nI (if t then 0 else 6))]) (fun t h => t = decide ((n : Int) - k < D) ∧ (∃ j last l, QA h h0.nx j D last l ∧ l.length = n - k + if t then 1 else 0) ∧ Ext h0 h) ?_ ?_
  · refine ai_reg ?_
    refine st rfl ?_
    by_cases hr : (n : Int) - k < D
    · refine stC rfl ((put_ok qa (by omega) hl (by omega) (by omega)).mono ?_)
      rintro v h2 ⟨rfl, j2, qa2, m2, hj2⟩
      refine st rfl ?_
      exact ⟨rfl, true, le_cons rfl (le_cons rfl (le_cons rfl (le_cons rfl (le_cons rfl le_nil)))), by simp; omega, ⟨j2, 5, _, qa2, by simp [hlen]⟩, x.mod m2 (Nat.le_refl _) hj⟩
    · refine stC rfl ((put_full qa (by omega) hl (by omega)).mono ?_)
      rintro v _ ⟨rfl, rfl⟩
      refine st rfl ?_
      exact ⟨rfl, false, le_cons rfl (le_cons rfl (le_cons rfl (le_cons rfl (le_cons rfl le_nil)))), by simp; omega, ⟨j, last, _, qa, by simp [hlen]⟩, x⟩
  rintro t h ⟨ht, ⟨j, last, l, qa, hll⟩, x⟩
  refine ai_seq (ai_reg ?_)
  refine stC rfl ((qtold_ok h).mono ?_)
  rintro v h2 ⟨rfl, y2⟩
  have qa2 := qa.ext y2
  refine st rfl ?_
  refine stT rfl rfl rfl ?_
  refine stT (v := .bool t) rfl rfl (o_v rfl (by cases t <;> rfl)) ?_
  iterate 2 refine stT rfl rfl rfl ?_
  refine stT rfl rfl (o_w rfl (by omega)) ?_
  refine stT rfl rfl rfl ?_
  refine stT (v := .bool t) rfl rfl (o_v rfl (congrArg Value.bool ht.symm)) ?_
  refine stT (v := .bool true) rfl rfl (o_v rfl (by cases t <;> rfl)) ?_
  iterate 2 refine st rfl ?_
  refine stT rfl rfl rfl ?_
  refine stCT rfl rfl rfl ((all_ok h2 qa2 (by rw [hll]; split <;> omega)).mono ?_)
  rintro v h3 ⟨y3, how3⟩
  obtain ⟨vx, vc, rfl⟩ := how3.rdd.len
  rw [List.length_map, hll]
  iterate 3 refine stT rfl rfl rfl ?_
  refine stT rfl rfl (o_w rfl (by omega)) ?_
  refine stT rfl rfl rfl ?_
  refine stT (v := .bool t) rfl rfl (o_v rfl (by cases t <;> rfl)) ?_
  refine stCT rfl rfl rfl ((one_ok h3 t).mono ?_)
  rintro v _ ⟨rfl, rfl⟩
  refine stT rfl rfl (o_w rfl (by split <;> omega)) ?_
  refine stT (v := .bool true) rfl rfl (o_v rfl (congrArg Value.bool (by cases t <;> simp <;> omega))) ?_
  iterate 2 refine st rfl ?_
  refine ai_ret ?_
  exact end_one rfl ⟨rfl, (x.trans y2).trans y3⟩
end Go.Proofs.YtcdfoicebcmlaaaW.Am
