/- A queue over abstract heaps: Take, Depth. -/
import Derived.Test.YtcdfoicebcmlaaaQueueB
namespace Go.Proofs.YtcdfoicebcmlaaaW.Am
open Go Go.RowKit
theorem slc_one {j o n : Nat} {h : Hp} : stepK (.slc 1 true false false) [.slice (some ⟨j, o, some 0⟩) (n + 1) (n + 1), .int .i64 1] h = some (.slice (some ⟨j, o + 1, some (if n = 0 then 1 else 0)⟩) n n, h) := by
  have h1 : (1 : Int) ≤ (n : Int) + 1 := by omega
  have h2 : (n : Int) + 1 ≤ (n : Int) + 1 := by omega
  by_cases hn : n = 0
  · subst hn; rfl
  · have e : ¬ n + 1 = 1 := by omega
    simp [stepK, get3, takeB, sliceA, bounds, bnd, hn, h1]
theorem rd_app {h : Hp} {j : Nat} {xs us : List Value} {b : Bool} {e : Nat} (hg : h.get j = some ⟨xs ++ us, b, e⟩) {x : Nat} {v : Value} (hx : us[x]? = some v) : h.rd j (xs.length + x * 1) 1 = some [v] := by
  have hl := (List.getElem?_eq_some_iff.1 hx).1
  have hx2 : (xs ++ us)[xs.length + x]? = some v := by rw [List.getElem?_append_right (by omega)]; simpa using hx
  have := rd_f hg (x := xs.length + x) hx2
  simpa using this

theorem take_nil (h : Hp) {q j : Nat} {depth last : Int} (a : QA h q j depth last []) : ACall PQ 26 [ptr q] h (fun v h' => v = .tuple #[nI 0, .bool false] ∧ h = h') := by
  obtain ⟨hq, hj, s, hg, hs⟩ := a
  have hlen : ∃ x c, s = .slice x 0 c := by rcases hs with ⟨rfl, _⟩ | ⟨xs, sp, rfl, _⟩ <;> exact ⟨_, _, rfl⟩
  obtain ⟨x, c, rfl⟩ := hlen
  refine acall Go.Proofs.Try.func26 c26 (by simp [ir26]) ?_
  unfold ir26
  dsimp only
  refine ai_seq (ai_reg ?_)
  iterate 2 refine st rfl ?_
  refine ai_seq (ai_seq (ai_reg ?_))
  iterate 3 refine st rfl ?_
  iterate 3 refine stT rfl rfl rfl ?_
  refine stT rfl rfl (o_ld rfl (rd_f hg rfl)) ?_
  iterate 2 refine stT rfl rfl rfl ?_
  refine st rfl ?_
  refine ai_cond (b := true) rfl (fun _ => ?_) (fun hb => by cases hb)
  refine ai_seq (ai_reg ?_)
  iterate 2 refine st rfl ?_
  refine ai_ret ?_
  simp only [thenQ_r]
  exact end_two rfl rfl ⟨rfl, rfl⟩

theorem take_ok (h : Hp) {q j : Nat} {depth last : Int} {p : Int × Int} {l : List (Int × Int)} (a : QA h q j depth last (p :: l)) : ACall PQ 26 [ptr q] h (fun v h' => v = .tuple #[nI p.1, .bool true] ∧ QA h' q j depth last l ∧ Mod q j h h') := by
  obtain ⟨hq, hj, s, hg, hs⟩ := a
  obtain ⟨_, hs⟩ | ⟨xs, sp, rfl, hgj, hsp, hal, hjq⟩ := hs
  · cases hs
  obtain rfl := hsp (by simp)
  rw [List.map_cons, List.length_cons] at hg
  refine acall Go.Proofs.Try.func26 c26 (by simp [ir26]) ?_
  unfold ir26
  dsimp only
  refine ai_seq (ai_reg ?_)
  iterate 2 refine st rfl ?_
  refine ai_seq (ai_seq (ai_reg ?_))
  iterate 3 refine st rfl ?_
  iterate 3 refine stT rfl rfl rfl ?_
  refine stT rfl rfl (o_ld rfl (rd_f hg rfl)) ?_
  refine stT rfl rfl rfl ?_
  refine stT (v := .bool false) rfl rfl (o_v rfl (congrArg Value.bool (by simp; omega))) ?_
  refine st rfl ?_
  refine ai_cond (b := false) rfl (fun hb => by cases hb) (fun _ => ai_skip ?_)
  refine ai_seq (ai_reg ?_)
  iterate 3 refine st rfl ?_
  refine st_ld rfl (rd_f hg rfl) ?_
  refine st_iad rfl (by omega) ?_
  refine st_ld rfl (rd_app hgj (x := 0) (v := qE p) rfl) ?_
  refine st (v := .tuple #[.agg #[nI p.1, nI p.2], .bool true]) rfl ?_
  iterate 3 refine st rfl ?_
  have hgq : (h.new ⟨[nI 0, nI 0], true, 0⟩).get q = some ⟨[.slice (some ⟨j, xs.length, some 0⟩) ((l.map qE).length + 1) ((l.map qE).length + 1), nI depth, nI last], true, 0⟩ := by simp [Hp.new, hg, show q ≠ h.nx by omega]
  have hgx : (h.new ⟨[nI 0, nI 0], true, 0⟩).get h.nx = some ⟨[nI 0, nI 0], true, 0⟩ := by simp [Hp.new]
  refine st (v := ptr h.nx) (h' := h.new ⟨[nI 0, nI 0], true, 0⟩) rfl ?_
  refine st_st (h' := (h.new ⟨[nI 0, nI 0], true, 0⟩).put h.nx ⟨[nI p.1, nI p.2], true, 0⟩) rfl rfl ?_ ?_
  · unfold Hp.wr
    rw [hgx]
    rfl
  generalize hh1 : (h.new ⟨[nI 0, nI 0], true, 0⟩).put h.nx ⟨[nI p.1, nI p.2], true, 0⟩ = h1
  have hq1 : h1.get q = some ⟨[.slice (some ⟨j, xs.length, some 0⟩) ((l.map qE).length + 1) ((l.map qE).length + 1), nI depth, nI last], true, 0⟩ := by
    rw [← hh1, hput_ne _ _ (by omega)]; exact hgq
  have hx1 : h1.get h.nx = some ⟨[nI p.1, nI p.2], true, 0⟩ := by rw [← hh1, hput_same]
  have hk1 : ∀ k, k < h.nx → h1.get k = h.get k := by
    intro k hk
    rw [← hh1, hput_ne _ _ (by omega)]
    simp [Hp.new, show k ≠ h.nx by omega]
  have hn1 : h1.nx = h.nx + 1 := by rw [← hh1]; rfl
  refine st rfl ?_
  refine ai_seq (ai_reg ?_)
  iterate 4 refine st rfl ?_
  refine st_ld rfl (rd_f hq1 rfl) ?_
  refine st slc_one ?_
  iterate 2 refine st rfl ?_
  refine st_st rfl rfl (wr_f hq1 (by simp) rfl) ?_
  refine ai_seq (ai_reg ?_)
  refine st rfl ?_
  refine st_ld rfl (rd_f (x := 0) (v := nI p.1) (by rw [hput_ne _ _ (by omega)]; exact hx1) rfl) ?_
  iterate 3 refine st rfl ?_
  refine ai_ret ?_
  refine end_two rfl rfl ⟨rfl, ⟨by rw [hput_nx]; omega, by rw [hput_nx]; omega, _, hput_same _ _ _, .inr ⟨xs ++ [qE p], if (l.map qE).length = 0 then 1 else 0, by simp, ?_, ?_, by simpa using hal, hjq⟩⟩, ⟨by rw [hput_nx]; omega, ?_⟩⟩
  · rw [hput_ne _ _ hjq, hk1 j hj, hgj]
    simp
  · intro hne
    rw [if_neg fun h => hne (List.eq_nil_of_length_eq_zero h)]
  · intro k h1 h2 h3
    rw [hput_ne _ _ h2, hk1 k h1]

theorem depth_ok (h : Hp) {q j : Nat} {depth last n : Int} {l : List (Int × Int)} (a : QA h q j depth last l) (h0 : 0 ≤ n) (h1 : n ≤ 200) : ACall PQ 33 [ptr q, nI n] h (fun v h' => v = nI 0 ∧ QA h' q j n last l ∧ Mod q j h h') := by
  obtain ⟨hq, hj, s, hg, hs⟩ := a
  refine acall Go.Proofs.Try.func33 c33 (by simp [ir33]) ?_
  unfold ir33
  dsimp only
  refine ai_seq (ai_reg ?_)
  refine st rfl ?_
  refine ai_seq (ai_block ?_)
  refine ai_seq (ai_reg ?_)
  iterate 3 refine st rfl ?_
  refine ai_cond (b := false) rfl (fun hb => by cases hb) (fun _ => ?_)
  refine ai_seq (ai_reg ?_)
  refine st rfl ?_
  refine st_v (v2 := .bool false) rfl (congrArg Value.bool (by simp; omega)) ?_
  refine st rfl ?_
  refine stT rfl rfl rfl ?_
  refine stT (v := .bool false) rfl rfl (o_v rfl (congrArg Value.bool (by simp; omega))) ?_
  iterate 2 refine st rfl ?_
  refine ai_cond (b := false) rfl (fun hb => by cases hb) (fun _ => ai_skip ?_)
  refine ai_seq (ai_reg ?_)
  iterate 4 refine st rfl ?_
  refine st_st rfl rfl (wr_f hg (by simp) rfl) ?_
  refine ai_seq (ai_reg ?_)
  refine st rfl ?_
  refine ai_ret ?_
  refine end_one rfl ⟨rfl, ⟨hq, hj, s, hput_same _ _ _, ?_⟩, ⟨Nat.le_refl _, fun k _ h2 _ => hput_ne _ _ h2⟩⟩
  rcases hs with hs | ⟨xs, sp, e1, e2, e3, e4, e5⟩
  · exact .inl hs
  · exact .inr ⟨xs, sp, e1, (hput_ne _ _ e5).trans e2, e3, e4, e5⟩
theorem depth_no (h : Hp) {q : Nat} {n : Int} (hn : n < 0 ∨ 200 < n) : ACall PQ 33 [ptr q, nI n] h (fun v h' => v = nI 1 ∧ h = h') := by
  refine acall Go.Proofs.Try.func33 c33 (by simp [ir33]) ?_
  unfold ir33
  dsimp only
  refine ai_seq (ai_reg ?_)
  refine st rfl ?_
  refine ai_seq (ai_block ?_)
  refine ai_seq (ai_reg ?_)
  iterate 3 refine st rfl ?_
  refine ai_cond (b := false) rfl (fun hb => by cases hb) (fun _ => ?_)
  refine ai_seq (ai_reg ?_)
  refine st rfl ?_
  by_cases h0 : n < 0
  · refine st_v (v2 := .bool true) rfl (congrArg Value.bool (by simp; omega)) ?_
    refine st rfl ?_
    iterate 2 refine stF rfl rfl ?_
    iterate 2 refine st rfl ?_
    refine ai_cond (b := true) rfl (fun _ => ?_) (fun hb => by cases hb)
    refine ai_seq (ai_reg ?_)
    refine st rfl ?_
    refine ai_ret ?_
    simp only [thenQ_r, blockQ_r]
    exact end_one rfl ⟨rfl, rfl⟩
  · refine st_v (v2 := .bool false) rfl (congrArg Value.bool (by simp; omega)) ?_
    refine st rfl ?_
    refine stT rfl rfl rfl ?_
    refine stT (v := .bool true) rfl rfl (o_v rfl (congrArg Value.bool (by simp; omega))) ?_
    iterate 2 refine st rfl ?_
    refine ai_cond (b := true) rfl (fun _ => ?_) (fun hb => by cases hb)
    refine ai_seq (ai_reg ?_)
    refine st rfl ?_
    refine ai_ret ?_
    simp only [thenQ_r, blockQ_r]
    exact end_one rfl ⟨rfl, rfl⟩

theorem one_ok (h : Hp) (b : Bool) : ACall PQ 36 [.bool b] h (fun v h' => v = nI (if b then 1 else 0) ∧ h = h') := by
  refine acall Go.Proofs.Try.func36 c36 (by simp [ir36]) ?_
  unfold ir36
  dsimp only
  refine ai_seq (ai_reg ?_)
  refine st rfl ?_
  refine ai_seq (ai_seq (ai_reg ?_))
  refine st rfl ?_
  cases b with
  | true =>
    refine ai_cond (b := true) rfl (fun _ => ?_) (fun hb => by cases hb)
    refine ai_seq (ai_reg ?_)
    refine st rfl ?_
    refine ai_ret ?_
    simp only [thenQ_r]
    exact end_one rfl ⟨rfl, rfl⟩
  | false =>
    refine ai_cond (b := false) rfl (fun hb => by cases hb) (fun _ => ai_skip ?_)
    refine ai_seq (ai_reg ?_)
    refine st rfl ?_
    refine ai_ret ?_
    exact end_one rfl ⟨rfl, rfl⟩
end Go.Proofs.YtcdfoicebcmlaaaW.Am
