/- The reference's queue, over abstract heaps: All, Late. -/
import Derived.Test.YtcdfoicebcmlaaaQueueL
namespace Go.Proofs.YtcdfoicebcmlaaaW.Am
open Go Go.RowKit
theorem RS.at {h : Hp} {q j : Nat} {s : Value} {l : List (Int × Int)} (a : RS h q j s l) {i : Nat} {p : Int × Int} (hi : l[i]? = some p) :
    ∃ o, s = .slice (some ⟨j, o, some 0⟩) l.length l.length ∧ h.rd j (o + i * 2 + 0) 1 = some [nI p.1] ∧ h.rd j (o + i * 2 + 1) 1 = some [nI p.2] ∧ h.rd j (o + i * 2) 2 = some [nI p.1, nI p.2] := by
  rcases a with ⟨_, rfl⟩ | ⟨xs, sp, rfl, hg, hsp, hjq⟩
  · cases hi
  · obtain rfl := hsp (by rintro rfl; cases hi)
    exact ⟨_, rfl, rs_rd hg hi⟩
theorem rall_ok (h : Hp) {q j : Nat} {most last : Int} {p0 : Bool} {l : List (Int × Int)} (a : RQ h q j most last p0 l) (hb : l.length ≤ 1000) : ACall PQ 35 [ptr q] h (fun v h' => Ext h h' ∧ Ow h.nx h' v (l.map fun p => nI p.1)) := by
  obtain ⟨hq, hj, s, hg, hs⟩ := a
  refine acall Go.Proofs.Try.func35 c35 (by simp [ir35]) ?_
  unfold ir35
  dsimp only
  refine ai_seq (ai_reg ?_)
  refine st rfl ?_
  refine ai_seq (ai_reg ?_)
  refine st rfl ?_
  have hlen := hs.len
  refine ai_join (γ := Value) (fun v => [(3, v)]) (fun v h' => Ext h h' ∧ Ow h.nx h' v (l.map fun p => nI p.1)) ?_ ?_
  · refine ai_seq (ai_reg ?_)
    refine st rfl ?_
    refine ai_block (ai_loopE (γ := Nat × Value) (fun g => [(0, ptr q), (3, g.2), (4, nI g.1)]) (fun g h' => Ext h h' ∧ Ow h.nx h' g.2 ((l.map fun p => nI p.1).take g.1) ∧ g.1 ≤ l.length) (fun g => l.length - g.1) (0, .slice none 0 0)
      (le_cons rfl (le_cons rfl (le_cons rfl le_nil))) ⟨Ext.refl _, Ow.nil _ _, Nat.zero_le _⟩ ?_)
    rintro ⟨i, v⟩ h1 ⟨hx, how, hi⟩
    dsimp only at how hi ⊢
    have hg1 := (hx.2 q hq).trans hg
    refine ai_seq (ai_seq (ai_reg ?_))
    iterate 4 refine st rfl ?_
    refine st_ld rfl (rd_f hg1 rfl) ?_
    refine st (v := nI l.length) (h' := h1) (by obtain ⟨x, c, rfl⟩ := hlen; rfl) ?_
    by_cases hlt : i < l.length
    case neg =>
      refine st_v (v2 := .bool false) rfl (congrArg Value.bool (by simp; omega)) ?_
      refine ai_cond (b := false) rfl (fun hb => by cases hb) fun _ => ?_
      refine ai_exit ?_
      rw [List.take_of_length_le (by simp; omega)] at how
      exact ⟨rfl, v, le_cons rfl le_nil, hx, how⟩
    refine st_v (v2 := .bool true) rfl (congrArg Value.bool (by simp; omega)) ?_
    refine ai_cond (b := true) rfl (fun _ => ?_) fun hb => by cases hb
    refine ai_skip ?_
    have hs1 : RS h1 q j s l := hs.keep fun _ => hx.2 j hj
    have hu : l[i]? = some l[i] := by simp [hlt]
    obtain ⟨o, rfl, hr, _, _⟩ := hs1.at hu
    refine ai_seq (ai_block (ai_reg ?_))
    iterate 4 refine st rfl ?_
    refine st_ld rfl (rd_f hg1 rfl) ?_
    refine st rfl ?_
    refine st_iad rfl (by omega) ?_
    refine st rfl ?_
    refine st_ld rfl (by rw [Int.toNat_natCast]; exact hr) ?_
    refine st (v := .slice (some ⟨h1.nx, 0, none⟩) 1 1) (h' := h1.new ⟨[nI l[i].1], true, 1⟩) rfl ?_
    have hlen : ((l.map fun p => nI p.1).take i).length ≤ 1000 := by simp; omega
    obtain ⟨s', h2, hst, how2, hx2⟩ := how.push (e := 3) (e2 := 1) (bytes := 8) rfl hx (u := nI l[i].1) rfl (by omega) (by omega)
    refine st (v := s') (h' := h2) hst ?_
    refine st rfl ?_
    refine ai_reg ?_
    refine st rfl ?_
    refine st_w rfl (by omega) ?_
    refine st rfl ?_
    refine ⟨(i + 1, s'), le_cons rfl (le_cons rfl (le_cons (by simp [Env.get, Env.put]) le_nil)), ⟨hx2, ?_, by dsimp only; omega⟩, by dsimp only; omega⟩
    have : (l.map fun p => nI p.1).take (i + 1) = (l.map fun p => nI p.1).take i ++ [nI l[i].1] := by
      rw [List.take_succ_eq_append_getElem (by simp; omega)]
      simp
    dsimp only
    rw [this]
    exact how2
  rintro v h1 ⟨hx, how⟩
  refine ai_seq (ai_reg ?_)
  iterate 2 refine st rfl ?_
  refine ai_ret ?_
  exact end_one rfl ⟨hx, how⟩

theorem old_ok (h : Hp) (now t age : Int) : ACall PQ 53 [nI now, nI t, nI age] h (fun v h' => v = .bool (lateB now age t) ∧ h = h') := by
  refine acall Go.Proofs.Try.func53 c53 (by simp [ir53]) ?_
  unfold ir53
  dsimp only
  refine ai_seq (ai_reg ?_)
  refine st rfl ?_
  refine ai_seq (ai_seq (ai_reg ?_))
  iterate 2 refine st rfl ?_
  by_cases hc : now < t
  · refine st_v (v2 := .bool true) rfl (congrArg Value.bool (by simp; omega)) ?_
    refine ai_cond (b := true) rfl (fun _ => ?_) (fun hb => by cases hb)
    refine ai_seq (ai_reg ?_)
    refine st rfl ?_
    refine ai_ret ?_
    simp only [thenQ_r]
    exact end_one rfl ⟨by simp [lateB, hc], rfl⟩
  refine st_v (v2 := .bool false) rfl (congrArg Value.bool (by simp; omega)) ?_
  refine ai_cond (b := false) rfl (fun hb => by cases hb) (fun _ => ai_skip ?_)
  refine ai_seq (ai_reg ?_)
  iterate 8 refine st rfl ?_
  refine st_v (v2 := .bool (lateB now age t)) rfl (congrArg Value.bool ?_) ?_
  · rw [Bool.eq_iff_iff]
    simp only [lateB, hc, decide_false, Bool.false_or, Bool.not_eq_true', decide_eq_false_iff_not, decide_eq_true_eq, if_true]
    omega
  refine st rfl ?_
  refine ai_ret ?_
  exact end_one rfl ⟨rfl, rfl⟩

set_option maxHeartbeats 1000000 in
theorem rlate_ok (h : Hp) {q j : Nat} {most last now age : Int} {p0 : Bool} {l : List (Int × Int)} (a : RQ h q j most last p0 l) (hb : l.length ≤ 1000) {d : Nat} (hd : d ≤ l.length)
    (hl : ∀ i p, l[i]? = some p → lateB now age p.2 = decide (i < d)) : ACall PQ 32 [ptr q, nI now, nI age] h
    (fun v h' => ∃ j', RQ h' q j' most last p0 (l.drop d) ∧ Mod q j h h' ∧ (j' = q ∨ h.nx ≤ j') ∧ Rd h' v ((l.take d).map fun p => nI p.1)) := by
  obtain ⟨hq, hj, s, hg, hs⟩ := a
  refine acall Go.Proofs.Try.func32 c32 (by simp [ir32]) ?_
  unfold ir32
  dsimp only
  iterate 3
    refine ai_seq (ai_reg ?_)
    refine st rfl ?_
  have hlen := hs.len
  refine ai_join (γ := Value × Value) (fun g => [(0, ptr q), (7, g.1), (8, g.2)]) (fun g h' => ∃ A B, Ext h h' ∧ QS h' q A g.1 ((l.take d).map fun p => nI p.1) ∧ RS h' q B g.2 (l.drop d) ∧ (A = q ∨ h.nx ≤ A) ∧ (B = q ∨ h.nx ≤ B) ∧ A < h'.nx ∧ B < h'.nx) ?_ ?_
  case refine_2 =>
    rintro ⟨v, w⟩ h1 ⟨A, B, hx, hA, hB, hA1, hB1, hA2, hB2⟩
    dsimp only at hA hB ⊢
    have hg1 := (hx.2 q hq).trans hg
    have hn := hx.1
    obtain ⟨hone, hcell⟩ := hB.cell1
    refine ai_seq (ai_reg ?_)
    iterate 4 refine st rfl ?_
    refine st_st (h' := h1.put q ⟨[nI most, w, nI last, .bool p0], true, 0⟩) rfl (by rw [hcell]; rfl) (by rw [hcell]; exact wr_f hg1 (x := 1) (by simp) hone) ?_
    refine ai_seq (ai_reg ?_)
    iterate 2 refine st rfl ?_
    refine ai_ret ?_
    refine end_one rfl ⟨B, ⟨by rw [hput_nx]; omega, by rw [hput_nx]; omega, w, hput_same _ _ _, hB.keep fun e => hput_ne _ _ e⟩, ⟨by rw [hput_nx]; omega, fun k k1 k2 _ => (hput_ne _ _ k2).trans (hx.2 k k1)⟩, hB1, (hA.keep fun e => hput_ne _ _ e).rd⟩
  refine ai_seq (ai_reg ?_)
  refine st rfl ?_
  refine ai_block (ai_loopE (γ := Nat × Value × Value) (fun g => [(0, ptr q), (1, nI now), (2, nI age), (7, g.2.1), (8, g.2.2), (9, nI g.1)])
    (fun g h' => (∃ A B, Ext h h' ∧ QS h' q A g.2.1 ((l.take (min g.1 d)).map fun p => nI p.1) ∧ RS h' q B g.2.2 ((l.take g.1).drop d) ∧ (A = q ∨ h.nx ≤ A) ∧ (B = q ∨ h.nx ≤ B) ∧ A < h'.nx ∧ B < h'.nx ∧ (A ≠ B ∨ (A = q ∧ B = q))) ∧ g.1 ≤ l.length) (fun g => l.length - g.1) (0, .slice none 0 0, .slice none 0 0)
    (le_cons rfl (le_cons rfl (le_cons rfl (le_cons rfl (le_cons rfl (le_cons rfl le_nil)))))) ⟨⟨q, q, Ext.refl _, .inl ⟨rfl, by simp⟩, .inl ⟨rfl, by simp⟩, .inl rfl, .inl rfl, hq, hq, .inr ⟨rfl, rfl⟩⟩, Nat.zero_le _⟩ ?_)
  rintro ⟨i, v, w⟩ h1 ⟨⟨A, B, hx, hA, hB, hA1, hB1, hA2, hB2, hAB⟩, hi⟩
  dsimp only at hA hB hi ⊢
  have hg1 := (hx.2 q hq).trans hg
  have hn := hx.1
  refine ai_seq (ai_seq (ai_reg ?_))
  iterate 4 refine st rfl ?_
  refine st_ld rfl (rd_f hg1 rfl) ?_
  refine st (v := nI l.length) (h' := h1) (by obtain ⟨x, c, rfl⟩ := hlen; rfl) ?_
  by_cases hlt : i < l.length
  case neg =>
    obtain rfl : i = l.length := by omega
    refine st_v (v2 := .bool false) rfl (congrArg Value.bool (by simp)) ?_
    refine ai_cond (b := false) rfl (fun hb => by cases hb) fun _ => ?_
    refine ai_exit ?_
    rw [Nat.min_eq_right hd] at hA
    rw [List.take_length] at hB
    exact ⟨rfl, (v, w), le_cons rfl (le_cons rfl (le_cons rfl le_nil)), A, B, hx, hA, hB, hA1, hB1, hA2, hB2⟩
  refine st_v (v2 := .bool true) rfl (congrArg Value.bool (by simp; omega)) ?_
  refine ai_cond (b := true) rfl (fun _ => ?_) fun hb => by cases hb
  refine ai_skip ?_
  have hs1 : RS h1 q j s l := hs.keep fun _ => hx.2 j hj
  have hu : l[i]? = some l[i] := by simp [hlt]
  have htk : l.take (i + 1) = l.take i ++ [l[i]] := List.take_succ_eq_append_getElem hlt
  have hli := hl i _ hu
  generalize l[i] = p at hu htk hli
  obtain ⟨o, rfl, hr1, hr2, hr3⟩ := hs1.at hu
  refine ai_join (γ := Value × Value) (fun g => [(0, ptr q), (1, nI now), (2, nI age), (7, g.1), (8, g.2), (9, nI i)]) (fun g h' => ∃ A B, Ext h h' ∧ QS h' q A g.1 ((l.take (min (i + 1) d)).map fun p => nI p.1) ∧ RS h' q B g.2 ((l.take (i + 1)).drop d) ∧ (A = q ∨ h.nx ≤ A) ∧ (B = q ∨ h.nx ≤ B) ∧ A < h'.nx ∧ B < h'.nx ∧ (A ≠ B ∨ (A = q ∧ B = q))) ?_ ?_
  case refine_2 =>
    rintro ⟨v, w⟩ h2 hR
    refine ai_reg ?_
    refine st rfl ?_
    refine st_w rfl (by omega) ?_
    refine st rfl ?_
    exact ⟨(i + 1, v, w), le_cons rfl (le_cons rfl (le_cons rfl (le_cons rfl (le_cons rfl (le_cons (by simp [Env.get, Env.put]) le_nil))))), ⟨hR, by dsimp only; omega⟩, by dsimp only; omega⟩
  refine ai_block ?_
  refine ai_seq (ai_reg ?_)
  iterate 4 refine st rfl ?_
  refine st_ld rfl (rd_f hg1 rfl) ?_
  refine st rfl ?_
  refine st_iad rfl (by omega) ?_
  refine st rfl ?_
  refine st_ld rfl (by rw [Int.toNat_natCast]; exact hr2) ?_
  refine st rfl ?_
  refine stC rfl ((old_ok h1 now p.2 age).mono ?_)
  rintro _ _ ⟨rfl, rfl⟩
  rw [hli]
  by_cases hid : i < d
  · refine ai_cond (b := true) (by simp [evA, Env.get, Env.put, hid]) (fun _ => ?_) fun hb => by cases hb
    refine ai_reg ?_
    iterate 4 refine st rfl ?_
    refine st_ld rfl (rd_f hg1 rfl) ?_
    refine st rfl ?_
    refine st_iad rfl (by omega) ?_
    refine st rfl ?_
    refine st_ld rfl (by rw [Int.toNat_natCast]; exact hr1) ?_
    refine st (v := .slice (some ⟨h1.nx, 0, none⟩) 1 1) (h' := h1.new ⟨[nI p.1], true, 1⟩) rfl ?_
    obtain ⟨v', h2, hst, hA', hnx, hk⟩ := hA.push hA2 (by omega) (u := nI p.1) rfl (by simp; omega) (e := 3) (bytes := 8) (by omega)
    refine st (v := v') (h' := h2) hst ?_
    refine st rfl ?_
    refine ⟨rfl, (v', w), le_cons rfl (le_cons rfl (le_cons rfl (le_cons rfl (le_cons rfl (le_cons rfl le_nil))))), h1.nx + 1, B, ⟨by omega, fun k k1 => (hk k (by omega) (by omega)).trans (hx.2 k k1)⟩, ?_, ?_, .inr (by omega), hB1, by omega, by omega, .inl (by omega)⟩
    · rw [Nat.min_eq_left (by omega)] at hA' ⊢
      dsimp only
      rw [htk, List.map_append]
      exact hA'
    · have e1 : (l.take (i + 1)).drop d = [] := List.drop_eq_nil_of_le (by rw [List.length_take]; omega)
      have e2 : (l.take i).drop d = [] := List.drop_eq_nil_of_le (by rw [List.length_take]; omega)
      rw [e2] at hB
      rw [e1]
      exact hB.keep fun _ => hk B hB2 (by omega)
  · refine ai_cond (b := false) (by simp [evA, Env.get, Env.put, hid]) (fun hb => by cases hb) fun _ => ?_
    refine ai_reg ?_
    iterate 4 refine st rfl ?_
    refine st_ld rfl (rd_f hg1 rfl) ?_
    refine st rfl ?_
    refine st_iad rfl (by omega) ?_
    refine st_ldn rfl (by rw [Int.toNat_natCast]; exact hr3) ?_
    refine st (v := .slice (some ⟨h1.nx, 0, none⟩) 1 1) (h' := h1.new ⟨[nI p.1, nI p.2], true, 2⟩) rfl ?_
    obtain ⟨w', h2, hst, hB', hnx, hk⟩ := hB.push hB2 (by omega) p (by simp; omega)
    refine st (v := w') (h' := h2) hst ?_
    refine st rfl ?_
    refine ⟨rfl, (v, w'), le_cons rfl (le_cons rfl (le_cons rfl (le_cons rfl (le_cons rfl (le_cons rfl le_nil))))), A, h1.nx + 1, ⟨by omega, fun k k1 => (hk k (by omega) (by omega)).trans (hx.2 k k1)⟩, ?_, ?_, hA1, .inr (by omega), by omega, by omega, .inl (by omega)⟩
    · rw [Nat.min_eq_right (by omega)] at hA ⊢
      exact hA.keep fun _ => hk A hA2 (by omega)
    · rw [htk, List.drop_append, List.length_take, Nat.min_eq_left (by omega), show d - i = 0 by omega]
      exact hB'
end Go.Proofs.YtcdfoicebcmlaaaW.Am
