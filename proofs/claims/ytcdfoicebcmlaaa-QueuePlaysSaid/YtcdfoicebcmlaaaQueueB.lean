/- A queue over abstract heaps: Put where there is room and where there is none, Take, Depth. -/
import Derived.Test.YtcdfoicebcmlaaaQueueA
namespace Go.Proofs.YtcdfoicebcmlaaaW.Am
open Go Go.RowKit
theorem put_full {h : Hp} {q j : Nat} {depth last : Int} {l : List (Int × Int)} (a : QA h q j depth last l) {id t : Int} (h0 : 0 ≤ id) (h1 : last ≤ t) (hf : depth ≤ l.length) : ACall PQ 23 [ptr q, nI id, nI t] h (fun v h' => v = nI 6 ∧ h = h') := by
  refine acall Go.Proofs.Try.func23 c23 (by simp [ir23]) ?_
  unfold ir23
  dsimp only
  refine ai_seq (ai_reg ?_)
  refine st rfl ?_
  refine ai_seq (ai_block ?_)
  refine ai_seq (ai_reg ?_)
  iterate 3 refine st rfl ?_
  refine ai_cond (b := false) rfl (fun hb => by cases hb) (fun _ => ?_)
  refine ai_seq (ai_reg ?_)
  refine st rfl ?_
  refine st_v (v2 := .bool false) rfl (congrArg Value.bool (by simp; omega)) ?_
  refine st rfl ?_
  iterate 4 refine stT rfl rfl rfl ?_
  refine stT rfl rfl (o_ld rfl a.f2) ?_
  refine stT (v := .bool false) rfl rfl (o_v rfl (congrArg Value.bool (by simp; omega))) ?_
  iterate 2 refine st rfl ?_
  refine ai_cond (b := false) rfl (fun hb => by cases hb) (fun _ => ?_)
  refine ai_seq (ai_drw (by kernel_rfl) ?_)
  obtain ⟨hq, hj, s, hg, hs⟩ := a
  iterate 3 refine dr rfl ?_
  refine dr (o_ld rfl (rd_f hg rfl)) ?_
  refine dr (v := nI l.length) (h' := h) (by rcases hs with ⟨rfl, hn⟩ | ⟨xs, sp, rfl, _⟩ <;> simp_all [opS, mapE, evA, Env.get, Env.put, stepK]) ?_
  iterate 3 refine dr rfl ?_
  refine dr (o_ld rfl (rd_f hg rfl)) ?_
  refine dr (v := .bool true) (o_v rfl (congrArg Value.bool (by simp; omega))) ?_
  refine dr rfl ?_
  refine ai_cond (b := true) rfl (fun _ => ?_) (fun hb => by cases hb)
  refine ai_seq (ai_reg ?_)
  refine st rfl ?_
  refine ai_ret ?_
  simp only [thenQ_r, blockQ_r]
  exact end_one rfl ⟨rfl, rfl⟩

theorem put_ok {h : Hp} {q j : Nat} {depth last : Int} {l : List (Int × Int)} (a : QA h q j depth last l) {id t : Int} (h0 : 0 ≤ id) (h1 : last ≤ t) (hf : (l.length : Int) < depth) (hb : l.length ≤ 1000) :
    ACall PQ 23 [ptr q, nI id, nI t] h (fun v h' => v = nI 0 ∧ ∃ j', QA h' q j' depth t (l ++ [(id, t)]) ∧ Mod q j h h' ∧ h.nx ≤ j') := by
  refine acall Go.Proofs.Try.func23 c23 (by simp [ir23]) ?_
  unfold ir23
  dsimp only
  refine ai_seq (ai_reg ?_)
  refine st rfl ?_
  refine ai_seq (ai_block ?_)
  refine ai_seq (ai_reg ?_)
  iterate 3 refine st rfl ?_
  refine ai_cond (b := false) rfl (fun hb => by cases hb) (fun _ => ?_)
  refine ai_seq (ai_reg ?_)
  refine st rfl ?_
  refine st_v (v2 := .bool false) rfl (congrArg Value.bool (by simp; omega)) ?_
  refine st rfl ?_
  iterate 4 refine stT rfl rfl rfl ?_
  refine stT rfl rfl (o_ld rfl a.f2) ?_
  refine stT (v := .bool false) rfl rfl (o_v rfl (congrArg Value.bool (by simp; omega))) ?_
  iterate 2 refine st rfl ?_
  refine ai_cond (b := false) rfl (fun hb => by cases hb) (fun _ => ?_)
  refine ai_seq (ai_drw (by kernel_rfl) ?_)
  obtain ⟨hq, hj, s, hg, hs⟩ := a
  iterate 3 refine dr rfl ?_
  refine dr (o_ld rfl (rd_f hg rfl)) ?_
  refine dr (v := nI l.length) (h' := h) (by rcases hs with ⟨rfl, hn⟩ | ⟨xs, sp, rfl, _⟩ <;> simp_all [opS, mapE, evA, Env.get, Env.put, stepK]) ?_
  iterate 3 refine dr rfl ?_
  refine dr (o_ld rfl (rd_f hg rfl)) ?_
  refine dr (v := .bool false) (o_v rfl (congrArg Value.bool (by simp; omega))) ?_
  refine dr rfl ?_
  refine ai_cond (b := false) rfl (fun hb => by cases hb) (fun _ => ai_skip ?_)
  refine ai_seq (ai_reg ?_)
  iterate 4 refine st rfl ?_
  refine st_st rfl rfl (wr_f hg (by simp) rfl) ?_
  have hg1 : (h.put q ⟨[s, nI depth, nI t], true, 0⟩).get q = some ⟨[s, nI depth, nI t], true, 0⟩ := hput_same _ _ _
  have hs1 : QS (h.put q ⟨[s, nI depth, nI t], true, 0⟩) q j s (l.map qE) := by
    rcases hs with hs | ⟨xs, sp, e1, e2, e3, e4, e5⟩
    · exact .inl hs
    · exact .inr ⟨xs, sp, e1, (hput_ne _ _ e5).trans e2, e3, e4, e5⟩
  refine ai_seq (ai_reg ?_)
  iterate 4 refine st rfl ?_
  refine st_ld rfl (rd_f hg1 rfl) ?_
  iterate 2 refine st rfl ?_
  refine st (v := .agg #[nI id, nI t]) (h' := h.put q ⟨[s, nI depth, nI t], true, 0⟩) rfl ?_
  refine st (v := qE (id, t)) rfl ?_
  refine st (v := .slice (some ⟨(h.put q ⟨[s, nI depth, nI t], true, 0⟩).nx, 0, none⟩) 1 1) (h' := (h.put q ⟨[s, nI depth, nI t], true, 0⟩).new ⟨[qE (id, t)], true, 1⟩) rfl ?_
  obtain ⟨s', h2, hst, hs2, hnx, hk⟩ := hs1.push hj hq (u := qE (id, t)) rfl (by simpa using hb) (e := 20) (bytes := 16) (by omega)
  refine st (v := s') (h' := h2) hst ?_
  iterate 2 refine st rfl ?_
  have hg2 : h2.get q = some ⟨[s, nI depth, nI t], true, 0⟩ := by
    refine (hk q hq ?_).trans hg1
    by_cases e : q = j
    · exact .inr e.symm
    · exact .inl e
  have hone : one s' = true := by
    rcases hs2 with ⟨rfl, _⟩ | ⟨_, _, rfl, _⟩ <;> rfl
  have hcell : s'.cells = #[s'] := by
    rcases hs2 with ⟨rfl, _⟩ | ⟨_, _, rfl, _⟩ <;> rfl
  refine st_st (h' := h2.put q ⟨[s', nI depth, nI t], true, 0⟩) rfl (by rw [hcell]; rfl) (by rw [hcell]; exact wr_f hg2 (by simp) hone) ?_
  refine ai_seq (ai_reg ?_)
  refine st rfl ?_
  refine ai_ret ?_
  rw [hput_nx] at hs2 hnx hk
  refine end_one rfl ⟨rfl, h.nx + 1, ⟨by rw [hput_nx]; omega, by rw [hput_nx]; omega, s', hput_same _ _ _, ?_⟩, ⟨by rw [hput_nx]; omega, ?_⟩, by omega⟩
  · rw [List.map_append]
    rcases hs2 with hs2 | ⟨xs, sp, e1, e2, e3, e4, e5⟩
    · exact .inl hs2
    · exact .inr ⟨xs, sp, e1, (hput_ne _ _ e5).trans e2, e3, e4, e5⟩
  · intro k hk1 hk2 hk3
    rw [hput_ne _ _ hk2, hk k hk1 (.inl hk3), hput_ne _ _ hk2]
end Go.Proofs.YtcdfoicebcmlaaaW.Am
