/- The reference's queue, over abstract heaps: Put, Take, Depth. -/
import Derived.Test.YtcdfoicebcmlaaaQueueK
namespace Go.Proofs.YtcdfoicebcmlaaaW.Am
open Go Go.RowKit
/-- Put's first question, where the answer is no. -/
theorem rput_full {h : Hp} {q j : Nat} {most last : Int} {p0 : Bool} {l : List (Int × Int)} (a : RQ h q j most last p0 l) {id t : Int} (h0 : 0 ≤ id) (h1 : p0 = true → last ≤ t) (hf : most ≤ l.length) : ACall PQ 29 [ptr q, nI id, nI t] h (fun v h' => v = nI 6 ∧ h = h') := by
  obtain ⟨hq, hj, s, hg, hs⟩ := a
  obtain ⟨x, c, rfl⟩ := hs.len
  refine acall Go.Proofs.Try.func29 c29 (by simp [ir29]) ?_
  unfold ir29
  dsimp only
  refine ai_seq (ai_reg ?_)
  refine st rfl ?_
  refine ai_seq (ai_block ?_)
  refine ai_join (γ := Unit) (fun _ => [(0, ptr q), (1, nI id), (2, nI t), (7, .bool false)]) (fun _ h' => h = h') ?_ ?_
  · refine ai_reg ?_
    refine st rfl ?_
    refine st_v (v2 := .bool false) rfl (congrArg Value.bool (by simp; omega)) ?_
    refine st rfl ?_
    iterate 3 refine stT rfl rfl rfl ?_
    refine stT rfl rfl (o_ld rfl (rd_f hg rfl)) ?_
    refine stT rfl rfl rfl ?_
    cases p0 with
    | true =>
      have := h1 rfl
      iterate 4 refine stT rfl rfl rfl ?_
      refine stT rfl rfl (o_ld rfl (rd_f hg rfl)) ?_
      refine stT (v := .bool false) rfl rfl (o_v rfl (congrArg Value.bool (by simp; omega))) ?_
      refine stT rfl rfl rfl ?_
      iterate 2 refine st rfl ?_
      exact ⟨rfl, (), le_cons rfl (le_cons rfl (le_cons rfl (le_cons rfl le_nil))), rfl⟩
    | false =>
      iterate 6 refine stF rfl rfl ?_
      refine stT rfl rfl rfl ?_
      iterate 2 refine st rfl ?_
      exact ⟨rfl, (), le_cons rfl (le_cons rfl (le_cons rfl (le_cons rfl le_nil))), rfl⟩
  rintro _ _ rfl
  refine ai_cond (b := false) rfl (fun hb => by cases hb) (fun _ => ?_)
  refine ai_seq (ai_drw (by kernel_rfl) ?_)
  iterate 3 refine dr rfl ?_
  refine dr (o_ld rfl (rd_f hg rfl)) ?_
  iterate 4 refine dr rfl ?_
  refine dr (o_ld rfl (rd_f hg rfl)) ?_
  refine dr (v := .bool true) (o_v rfl (congrArg Value.bool (by simp; omega))) ?_
  refine dr rfl ?_
  refine ai_cond (b := true) rfl (fun _ => ?_) (fun hb => by cases hb)
  refine ai_seq (ai_reg ?_)
  refine st rfl ?_
  refine ai_ret ?_
  simp only [thenQ_r, blockQ_r]
  exact end_one rfl ⟨rfl, rfl⟩

theorem rput_ok {h : Hp} {q j : Nat} {most last : Int} {p0 : Bool} {l : List (Int × Int)} (a : RQ h q j most last p0 l) {id t : Int} (h0 : 0 ≤ id) (h1 : p0 = true → last ≤ t) (hf : (l.length : Int) < most) (hb : l.length ≤ 1000) :
    ACall PQ 29 [ptr q, nI id, nI t] h (fun v h' => v = nI 0 ∧ ∃ j', RQ h' q j' most t true (l ++ [(id, t)]) ∧ Mod q j h h' ∧ h.nx ≤ j') := by
  obtain ⟨hq, hj, s, hg, hs⟩ := a
  refine acall Go.Proofs.Try.func29 c29 (by simp [ir29]) ?_
  unfold ir29
  dsimp only
  refine ai_seq (ai_reg ?_)
  refine st rfl ?_
  refine ai_seq (ai_block ?_)
  refine ai_join (γ := Unit) (fun _ => [(0, ptr q), (1, nI id), (2, nI t), (7, .bool false)]) (fun _ h' => h = h') ?_ ?_
  · refine ai_reg ?_
    refine st rfl ?_
    refine st_v (v2 := .bool false) rfl (congrArg Value.bool (by simp; omega)) ?_
    refine st rfl ?_
    iterate 3 refine stT rfl rfl rfl ?_
    refine stT rfl rfl (o_ld rfl (rd_f hg rfl)) ?_
    refine stT rfl rfl rfl ?_
    cases p0 with
    | true =>
      have := h1 rfl
      iterate 4 refine stT rfl rfl rfl ?_
      refine stT rfl rfl (o_ld rfl (rd_f hg rfl)) ?_
      refine stT (v := .bool false) rfl rfl (o_v rfl (congrArg Value.bool (by simp; omega))) ?_
      refine stT rfl rfl rfl ?_
      iterate 2 refine st rfl ?_
      exact ⟨rfl, (), le_cons rfl (le_cons rfl (le_cons rfl (le_cons rfl le_nil))), rfl⟩
    | false =>
      iterate 6 refine stF rfl rfl ?_
      refine stT rfl rfl rfl ?_
      iterate 2 refine st rfl ?_
      exact ⟨rfl, (), le_cons rfl (le_cons rfl (le_cons rfl (le_cons rfl le_nil))), rfl⟩
  rintro _ _ rfl
  have hlen : ∃ x c, s = .slice x l.length c := hs.len
  refine ai_cond (b := false) rfl (fun hb => by cases hb) (fun _ => ?_)
  refine ai_seq (ai_drw (by kernel_rfl) ?_)
  iterate 3 refine dr rfl ?_
  refine dr (o_ld rfl (rd_f hg rfl)) ?_
  refine dr (v := nI l.length) (h' := h) (by obtain ⟨x, c, rfl⟩ := hlen; rfl) ?_
  iterate 3 refine dr rfl ?_
  refine dr (o_ld rfl (rd_f hg rfl)) ?_
  refine dr (v := .bool false) (o_v rfl (congrArg Value.bool (by simp; omega))) ?_
  refine dr rfl ?_
  refine ai_cond (b := false) rfl (fun hb => by cases hb) (fun _ => ai_skip ?_)
  refine ai_seq (ai_reg ?_)
  iterate 4 refine st rfl ?_
  refine st_ld rfl (rd_f hg rfl) ?_
  iterate 2 refine st rfl ?_
  refine st (v := .agg #[nI id, nI t]) (h' := h) rfl ?_
  refine st (v := .slice (some ⟨h.nx, 0, none⟩) 1 1) (h' := h.new ⟨[nI id, nI t], true, 2⟩) rfl ?_
  obtain ⟨s', h2, hst, hs2, hnx, hk⟩ := hs.push hj hq (id, t) hb
  refine st (v := s') (h' := h2) hst ?_
  iterate 2 refine st rfl ?_
  have hg2 : h2.get q = some ⟨[nI most, s, nI last, .bool p0], true, 0⟩ := by
    refine (hk q hq ?_).trans hg
    by_cases e : q = j
    · exact .inr e.symm
    · exact .inl e
  obtain ⟨hone, hcell⟩ := hs2.cell1
  refine st_st (h' := h2.put q ⟨[nI most, s', nI last, .bool p0], true, 0⟩) rfl (by rw [hcell]; rfl) (by rw [hcell]; exact wr_f hg2 (x := 1) (by simp) hone) ?_
  have hg3 : (h2.put q ⟨[nI most, s', nI last, .bool p0], true, 0⟩).get q = some ⟨[nI most, s', nI last, .bool p0], true, 0⟩ := hput_same _ _ _
  refine ai_seq (ai_reg ?_)
  iterate 5 refine st rfl ?_
  refine st_st (h' := (h2.put q ⟨[nI most, s', nI last, .bool p0], true, 0⟩).put q ⟨[nI most, s', nI t, .bool p0], true, 0⟩) rfl rfl (wr_f hg3 (x := 2) (by simp) rfl) ?_
  have hg4 : ((h2.put q ⟨[nI most, s', nI last, .bool p0], true, 0⟩).put q ⟨[nI most, s', nI t, .bool p0], true, 0⟩).get q = some ⟨[nI most, s', nI t, .bool p0], true, 0⟩ := hput_same _ _ _
  iterate 2 refine st rfl ?_
  refine st_st (h' := ((h2.put q ⟨[nI most, s', nI last, .bool p0], true, 0⟩).put q ⟨[nI most, s', nI t, .bool p0], true, 0⟩).put q ⟨[nI most, s', nI t, .bool true], true, 0⟩) rfl rfl (wr_f hg4 (x := 3) (by simp) rfl) ?_
  refine ai_seq (ai_reg ?_)
  refine st rfl ?_
  refine ai_ret ?_
  refine end_one rfl ⟨rfl, h.nx + 1, ⟨by simp only [hput_nx]; omega, by simp only [hput_nx]; omega, s', hput_same _ _ _, ?_⟩, ⟨by simp only [hput_nx]; omega, ?_⟩, by omega⟩
  · exact hs2.keep fun e => by rw [hput_ne _ _ e, hput_ne _ _ e, hput_ne _ _ e]
  · intro k hk1 hk2 hk3
    rw [hput_ne _ _ hk2, hput_ne _ _ hk2, hput_ne _ _ hk2, hk k hk1 (.inl hk3)]

theorem slc_two {j o n : Nat} {h : Hp} : stepK (.slc 2 true false false) [.slice (some ⟨j, o, some 0⟩) (n + 1) (n + 1), .int .i64 1] h = some (.slice (some ⟨j, o + 2, some (if n = 0 then 1 else 0)⟩) n n, h) := by
  have h1 : (1 : Int) ≤ (n : Int) + 1 := by omega
  by_cases hn : n = 0
  · subst hn; rfl
  · simp [stepK, get3, takeB, sliceA, bounds, bnd, hn, h1]
theorem RS.tail {h : Hp} {q j : Nat} {s : Value} {p : Int × Int} {l : List (Int × Int)} (a : RS h q j s (p :: l)) : ∃ o, s = .slice (some ⟨j, o, some 0⟩) (l.length + 1) (l.length + 1) ∧ RS h q j (.slice (some ⟨j, o + 2, some (if l.length = 0 then 1 else 0)⟩) l.length l.length) l ∧ h.rd j (o + 0 * 2 + 0) 1 = some [nI p.1] ∧ j ≠ q := by
  obtain ⟨_, hs⟩ | ⟨xs, sp, rfl, hgj, hsp, hjq⟩ := a
  · cases hs
  obtain rfl := hsp (by simp)
  exact ⟨xs.length, rfl, .inr ⟨xs ++ [nI p.1, nI p.2], if l.length = 0 then 1 else 0, by simp, by rw [hgj]; simp [fl], fun hne => by rw [if_neg fun h => hne (List.eq_nil_of_length_eq_zero h)], hjq⟩, (rs_rd hgj (i := 0) rfl).1, hjq⟩
theorem rtake_nil (h : Hp) {q j : Nat} {most last : Int} {p0 : Bool} (a : RQ h q j most last p0 []) : ACall PQ 30 [ptr q] h (fun v h' => v = .tuple #[nI 0, .bool false] ∧ h = h') := by
  obtain ⟨hq, hj, s, hg, hs⟩ := a
  obtain ⟨x, c, rfl⟩ := hs.len
  refine acall Go.Proofs.Try.func30 c30 (by simp [ir30]) ?_
  unfold ir30
  dsimp only
  refine ai_seq (ai_reg ?_)
  iterate 2 refine st rfl ?_
  refine ai_seq (ai_seq (ai_reg ?_))
  iterate 3 refine st rfl ?_
  refine st_ld rfl (rd_f hg rfl) ?_
  iterate 2 refine st rfl ?_
  refine ai_cond (b := true) rfl (fun _ => ?_) (fun hb => by cases hb)
  refine ai_seq (ai_reg ?_)
  iterate 2 refine st rfl ?_
  refine ai_ret ?_
  simp only [thenQ_r]
  exact end_two rfl rfl ⟨rfl, rfl⟩
theorem rtake_ok (h : Hp) {q j : Nat} {most last : Int} {p0 : Bool} {p : Int × Int} {l : List (Int × Int)} (a : RQ h q j most last p0 (p :: l)) : ACall PQ 30 [ptr q] h (fun v h' => v = .tuple #[nI p.1, .bool true] ∧ RQ h' q j most last p0 l ∧ Mod q j h h') := by
  obtain ⟨hq, hj, s, hg, hs⟩ := a
  obtain ⟨o, rfl, hs2, hr, hjq⟩ := hs.tail
  refine acall Go.Proofs.Try.func30 c30 (by simp [ir30]) ?_
  unfold ir30
  dsimp only
  refine ai_seq (ai_reg ?_)
  iterate 2 refine st rfl ?_
  refine ai_seq (ai_seq (ai_reg ?_))
  iterate 3 refine st rfl ?_
  refine st_ld rfl (rd_f hg rfl) ?_
  refine st rfl ?_
  refine st_v (v2 := .bool false) rfl (congrArg Value.bool (by simp; omega)) ?_
  refine ai_cond (b := false) rfl (fun hb => by cases hb) (fun _ => ai_skip ?_)
  refine ai_seq (ai_reg ?_)
  iterate 3 refine st rfl ?_
  refine st_ld rfl (rd_f hg rfl) ?_
  refine st_iad rfl (by omega) ?_
  refine st rfl ?_
  refine st_ld rfl hr ?_
  refine st rfl ?_
  refine ai_seq (ai_reg ?_)
  iterate 4 refine st rfl ?_
  refine st_ld rfl (rd_f hg rfl) ?_
  refine st slc_two ?_
  iterate 2 refine st rfl ?_
  refine st_st rfl rfl (wr_f hg (x := 1) (by simp) rfl) ?_
  refine ai_seq (ai_reg ?_)
  iterate 3 refine st rfl ?_
  refine ai_ret ?_
  exact end_two rfl rfl ⟨rfl, ⟨hq, hj, _, hput_same _ _ _, hs2.keep fun e => hput_ne _ _ e⟩, ⟨Nat.le_refl _, fun k _ h2 _ => hput_ne _ _ h2⟩⟩

theorem rdepth_ok (h : Hp) {q j : Nat} {most last n : Int} {p0 : Bool} {l : List (Int × Int)} (a : RQ h q j most last p0 l) (h0 : 0 ≤ n) (h1 : n ≤ 200) : ACall PQ 34 [ptr q, nI n] h (fun v h' => v = nI 0 ∧ RQ h' q j n last p0 l ∧ Mod q j h h') := by
  obtain ⟨hq, hj, s, hg, hs⟩ := a
  refine acall Go.Proofs.Try.func34 c34 (by simp [ir34]) ?_
  unfold ir34
  dsimp only
  refine ai_seq (ai_reg ?_)
  refine st rfl ?_
  refine ai_seq (ai_seq (ai_reg ?_))
  refine st rfl ?_
  refine st_v (v2 := .bool false) rfl (congrArg Value.bool (by simp; omega)) ?_
  refine st rfl ?_
  refine stT rfl rfl rfl ?_
  refine stT (v := .bool false) rfl rfl (o_v rfl (congrArg Value.bool (by simp; omega))) ?_
  refine st rfl ?_
  refine ai_cond (b := false) rfl (fun hb => by cases hb) (fun _ => ai_skip ?_)
  refine ai_seq (ai_reg ?_)
  iterate 4 refine st rfl ?_
  refine st_st rfl rfl (wr_f hg (x := 0) (by simp) rfl) ?_
  refine ai_seq (ai_reg ?_)
  refine st rfl ?_
  refine ai_ret ?_
  exact end_one rfl ⟨rfl, ⟨hq, hj, s, hput_same _ _ _, hs.keep fun e => hput_ne _ _ e⟩, ⟨Nat.le_refl _, fun k _ h2 _ => hput_ne _ _ h2⟩⟩
theorem rdepth_no (h : Hp) {q : Nat} {n : Int} (hn : n < 0 ∨ 200 < n) : ACall PQ 34 [ptr q, nI n] h (fun v h' => v = nI 1 ∧ h = h') := by
  refine acall Go.Proofs.Try.func34 c34 (by simp [ir34]) ?_
  unfold ir34
  dsimp only
  refine ai_seq (ai_reg ?_)
  refine st rfl ?_
  refine ai_seq (ai_seq (ai_reg ?_))
  refine st rfl ?_
  by_cases h0 : n < 0
  · refine st_v (v2 := .bool true) rfl (congrArg Value.bool (by simp; omega)) ?_
    refine st rfl ?_
    iterate 2 refine stF rfl rfl ?_
    refine st rfl ?_
    refine ai_cond (b := true) rfl (fun _ => ?_) (fun hb => by cases hb)
    refine ai_seq (ai_reg ?_)
    refine st rfl ?_
    refine ai_ret ?_
    simp only [thenQ_r]
    exact end_one rfl ⟨rfl, rfl⟩
  · refine st_v (v2 := .bool false) rfl (congrArg Value.bool (by simp; omega)) ?_
    refine st rfl ?_
    refine stT rfl rfl rfl ?_
    refine stT (v := .bool true) rfl rfl (o_v rfl (congrArg Value.bool (by simp; omega))) ?_
    refine st rfl ?_
    refine ai_cond (b := true) rfl (fun _ => ?_) (fun hb => by cases hb)
    refine ai_seq (ai_reg ?_)
    refine st rfl ?_
    refine ai_ret ?_
    simp only [thenQ_r]
    exact end_one rfl ⟨rfl, rfl⟩
end Go.Proofs.YtcdfoicebcmlaaaW.Am
