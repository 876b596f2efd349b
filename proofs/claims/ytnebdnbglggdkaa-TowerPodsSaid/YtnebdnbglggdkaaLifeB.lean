/- Pods over abstract heaps: Count, Ready. -/
import Derived.Test.YtnebdnbglggdkaaLifeA
namespace Go.Proofs.YtnebdnbglggdkaaW.Am
open Go Go.RowKit
/-- How many do not drain. -/
def cF (l : List Pd) : Nat := (l.filter fun p => decide (p.2.1 ≠ 3)).length
/-- The numbers of those that are ready. -/
def rF (l : List Pd) : List Int := (l.filter fun p => decide (p.2.1 = 2)).map (·.1)
theorem cF_snoc (l : List Pd) (p : Pd) : cF (l ++ [p]) = cF l + if p.2.1 = 3 then 0 else 1 := by
  simp only [cF, List.filter_append, List.length_append]
  by_cases h : p.2.1 = 3 <;> simp [h]
theorem rF_snoc (l : List Pd) (p : Pd) : rF (l ++ [p]) = rF l ++ if p.2.1 = 2 then [p.1] else [] := by
  simp only [rF, List.filter_append, List.map_append]
  by_cases h : p.2.1 = 2 <;> simp [h]
theorem cF_le (l : List Pd) : cF l ≤ l.length := List.length_filter_le _ _
theorem rF_le (l : List Pd) : (rF l).length ≤ l.length := by simp only [rF, List.length_map]; exact List.length_filter_le _ _
/-- A local copy of a pod: a new object. -/
theorem copy_ext (h : Hp) (p : Pd) : Ext h ((h.new ⟨[nI 0, nI 0, nI 0, nI 0], true, 0⟩).put h.nx ⟨p4 p, true, 0⟩) :=
  ⟨by simp [Hp.new, Hp.put], fun k hk => by rw [hput_ne _ _ (by omega)]; simp [Hp.new, show k ≠ h.nx by omega]⟩
theorem copy_wr (h : Hp) (p : Pd) : (h.new ⟨[nI 0, nI 0, nI 0, nI 0], true, 0⟩).wr h.nx 0 (p4 p) = some ((h.new ⟨[nI 0, nI 0, nI 0, nI 0], true, 0⟩).put h.nx ⟨p4 p, true, 0⟩) := by
  have hgx : (h.new ⟨[nI 0, nI 0, nI 0, nI 0], true, 0⟩).get h.nx = some ⟨[nI 0, nI 0, nI 0, nI 0], true, 0⟩ := by simp [Hp.new]
  unfold Hp.wr
  rw [hgx]
  rfl
theorem count_nil (h : Hp) : ACall PP 27 [.pointer none] h (fun v h' => v = nI 0 ∧ h = h') := by
  refine acall Go.Proofs.Try.func27 c27 (by simp [ir27]) ?_
  unfold ir27
  dsimp only
  refine ai_seq (ai_reg ?_)
  refine st rfl ?_
  refine ai_seq (ai_reg ?_)
  refine st rfl ?_
  refine ai_join (γ := Unit) (fun _ => [(3, nI 0)]) (fun _ h' => h = h') ?_ ?_
  · refine ai_seq (ai_reg ?_)
    refine st rfl ?_
    refine stC rfl ((lall_nil h).mono ?_)
    rintro v _ ⟨rfl, rfl⟩
    iterate 2 refine st rfl ?_
    refine ai_block (ai_loopE (γ := Unit) (fun _ => [(3, nI 0), (8, nI 0), (9, nI 0)]) (fun _ h' => h = h') (fun _ => 0) () (le_cons rfl (le_cons rfl (le_cons rfl le_nil))) rfl ?_)
    rintro _ _ rfl
    refine ai_seq (ai_reg ?_)
    refine st rfl ?_
    refine ai_seq (ai_cond (b := false) rfl (fun hb => by cases hb) fun _ => ?_)
    refine ai_exit ?_
    exact ⟨rfl, (), le_cons rfl le_nil, rfl⟩
  rintro _ _ rfl
  refine ai_seq (ai_reg ?_)
  iterate 2 refine st rfl ?_
  refine ai_ret ?_
  exact end_one rfl ⟨rfl, rfl⟩
theorem count_ok (h : Hp) {L j : Nat} {ps : List (Nat × Pd)} {made : Int} (a : LA h L j ps made) (hb : ps.length ≤ 1000) : ACall PP 27 [ptr L] h (fun v h' => v = nI (cF (ps.map (·.2))) ∧ Ext h h') := by
  refine acall Go.Proofs.Try.func27 c27 (by simp [ir27]) ?_
  unfold ir27
  dsimp only
  refine ai_seq (ai_reg ?_)
  refine st rfl ?_
  refine ai_seq (ai_reg ?_)
  refine st rfl ?_
  refine ai_join (γ := Unit) (fun _ => [(3, nI (cF (ps.map (·.2))))]) (fun _ h' => Ext h h') ?_ ?_
  · refine ai_seq (ai_reg ?_)
    refine st rfl ?_
    refine stC rfl ((lall_ok h a hb).mono ?_)
    rintro v h1 ⟨x1, a1⟩
    obtain ⟨vx, vc, e⟩ := a1.len
    subst e
    have hpl : (ps.map (·.2)).length = ps.length := by simp
    generalize ps.map (·.2) = l at a1 hpl ⊢
    iterate 2 refine st rfl ?_
    refine ai_block (ai_loopE (γ := Nat) (fun i => [(3, nI (cF (l.take i))), (7, .slice vx l.length vc), (8, nI l.length), (9, nI i)]) (fun i h' => Ext h1 h' ∧ i ≤ l.length) (fun i => l.length - i) 0
      (le_cons rfl (le_cons rfl (le_cons rfl (le_cons rfl le_nil)))) ⟨Ext.refl _, Nat.zero_le _⟩ ?_)
    rintro i h2 ⟨x2, hi⟩
    refine ai_seq (ai_reg ?_)
    refine st rfl ?_
    by_cases hlt : i < l.length
    case neg =>
      refine ai_seq (ai_cond (b := false) (by simp [evA, Env.get, Env.put, hlt]) (fun hb => by cases hb) fun _ => ?_)
      refine ai_exit ?_
      exact ⟨rfl, (), le_cons (by rw [List.take_of_length_le (by omega)]; rfl) le_nil, x1.trans x2⟩
    refine ai_seq (ai_cond (b := true) (by simp [evA, Env.get, Env.put, hlt]) (fun _ => ?_) fun hb => by cases hb)
    refine ai_skip ?_
    have hu : l[i]? = some l[i] := by simp [hlt]
    have htk : l.take (i + 1) = l.take i ++ [l[i]] := List.take_succ_eq_append_getElem hlt
    have hcl := cF_le (l.take i)
    rw [List.length_take] at hcl
    generalize l[i] = p at hu htk
    obtain ⟨k, e, _, _, hr⟩ := (a1.move x2).at hu
    cases e
    refine ai_join (γ := Unit) (fun _ => [(3, nI (cF (l.take (i + 1)))), (7, .slice (some ⟨k, 0, some 0⟩) l.length l.length), (8, nI l.length), (9, nI i)]) (fun _ h' => Ext h1 h') ?_ ?_
    case refine_2 =>
      rintro _ h3 x3
      refine ai_reg ?_
      refine st_w rfl (by omega) ?_
      refine st rfl ?_
      exact ⟨i + 1, le_cons rfl (le_cons rfl (le_cons rfl (le_cons (by simp [Env.get, Env.put]) le_nil))), ⟨x3, by omega⟩, by dsimp only; omega⟩
    refine ai_block ?_
    refine ai_seq (ai_reg ?_)
    refine st_iad rfl (by omega) ?_
    refine st_ldn rfl (by rw [Int.toNat_natCast]; exact hr) ?_
    refine st (v := ptr h2.nx) (h' := h2.new ⟨[nI 0, nI 0, nI 0, nI 0], true, 0⟩) rfl ?_
    refine st_st (h' := (h2.new ⟨[nI 0, nI 0, nI 0, nI 0], true, 0⟩).put h2.nx ⟨p4 p, true, 0⟩) rfl rfl (copy_wr h2 p) ?_
    have x3 := x2.trans (copy_ext h2 p)
    have hO : ((h2.new ⟨[nI 0, nI 0, nI 0, nI 0], true, 0⟩).put h2.nx ⟨p4 p, true, 0⟩).get h2.nx = some ⟨p4 p, true, 0⟩ := hput_same _ _ _
    generalize (h2.new ⟨[nI 0, nI 0, nI 0, nI 0], true, 0⟩).put h2.nx ⟨p4 p, true, 0⟩ = h3 at x3 hO ⊢
    refine ai_seq (ai_reg ?_)
    refine st rfl ?_
    refine st_ld rfl (rd_f (x := 1) hO rfl) ?_
    rw [htk, cF_snoc]
    by_cases hc : p.2.1 = 3
    · refine st_v (v2 := .bool false) rfl (congrArg Value.bool (by simp [hc])) ?_
      refine ai_cond (b := false) rfl (fun hb => by cases hb) fun _ => ai_skip ?_
      exact ⟨rfl, (), le_cons (by rw [if_pos hc]; rfl) (le_cons rfl (le_cons rfl (le_cons rfl le_nil))), x3⟩
    · refine st_v (v2 := .bool true) rfl (congrArg Value.bool (by simp [hc])) ?_
      refine ai_cond (b := true) rfl (fun _ => ?_) fun hb => by cases hb
      refine ai_reg ?_
      refine st rfl ?_
      refine st_w rfl (by omega) ?_
      refine st rfl ?_
      exact ⟨rfl, (), le_cons (by rw [if_neg hc]; simp [Env.get, Env.put]) (le_cons rfl (le_cons rfl (le_cons rfl le_nil))), x3⟩
  rintro _ h1 x1
  refine ai_seq (ai_reg ?_)
  iterate 2 refine st rfl ?_
  refine ai_ret ?_
  exact end_one rfl ⟨rfl, x1⟩
theorem ready_ok (h : Hp) {L j : Nat} {ps : List (Nat × Pd)} {made : Int} (a : LA h L j ps made) (hb : ps.length ≤ 1000) : ACall PP 37 [ptr L] h (fun v h' => Ext h h' ∧ Ow h.nx h' v ((rF (ps.map (·.2))).map nI)) := by
  refine acall Go.Proofs.Try.func37 c37 (by simp [ir37]) ?_
  unfold ir37
  dsimp only
  refine ai_seq (ai_reg ?_)
  refine st rfl ?_
  refine ai_seq (ai_reg ?_)
  refine st rfl ?_
  refine ai_join (γ := Value) (fun v => [(3, v)]) (fun v h' => Ext h h' ∧ Ow h.nx h' v ((rF (ps.map (·.2))).map nI)) ?_ ?_
  · refine ai_seq (ai_reg ?_)
    refine st rfl ?_
    refine stC rfl ((lall_ok h a hb).mono ?_)
    rintro v h1 ⟨x1, a1⟩
    obtain ⟨vx, vc, e⟩ := a1.len
    subst e
    have hpl : (ps.map (·.2)).length = ps.length := by simp
    generalize ps.map (·.2) = l at a1 hpl ⊢
    iterate 2 refine st rfl ?_
    refine ai_block (ai_loopE (γ := Nat × Value) (fun g => [(3, g.2), (7, .slice vx l.length vc), (8, nI l.length), (9, nI g.1)]) (fun g h' => Ext h1 h' ∧ Ow h1.nx h' g.2 ((rF (l.take g.1)).map nI) ∧ g.1 ≤ l.length) (fun g => l.length - g.1) (0, .slice none 0 0)
      (le_cons rfl (le_cons rfl (le_cons rfl (le_cons rfl le_nil)))) ⟨Ext.refl _, Ow.nil _ _, Nat.zero_le _⟩ ?_)
    rintro ⟨i, w⟩ h2 ⟨x2, how, hi⟩
    dsimp only at how hi ⊢
    refine ai_seq (ai_reg ?_)
    refine st rfl ?_
    by_cases hlt : i < l.length
    case neg =>
      refine ai_seq (ai_cond (b := false) (by simp [evA, Env.get, Env.put, hlt]) (fun hb => by cases hb) fun _ => ?_)
      refine ai_exit ?_
      rw [List.take_of_length_le (by omega)] at how
      exact ⟨rfl, w, le_cons rfl le_nil, x1.trans x2, how.mono x1.1⟩
    refine ai_seq (ai_cond (b := true) (by simp [evA, Env.get, Env.put, hlt]) (fun _ => ?_) fun hb => by cases hb)
    refine ai_skip ?_
    have hu : l[i]? = some l[i] := by simp [hlt]
    have htk : l.take (i + 1) = l.take i ++ [l[i]] := List.take_succ_eq_append_getElem hlt
    have hcl := rF_le (l.take i)
    rw [List.length_take] at hcl
    generalize l[i] = p at hu htk
    obtain ⟨k, e, _, _, hr⟩ := (a1.move x2).at hu
    cases e
    refine ai_join (γ := Value) (fun w => [(3, w), (7, .slice (some ⟨k, 0, some 0⟩) l.length l.length), (8, nI l.length), (9, nI i)]) (fun w h' => Ext h1 h' ∧ Ow h1.nx h' w ((rF (l.take (i + 1))).map nI)) ?_ ?_
    case refine_2 =>
      rintro w h3 ⟨x3, how3⟩
      refine ai_reg ?_
      refine st_w rfl (by omega) ?_
      refine st rfl ?_
      exact ⟨(i + 1, w), le_cons rfl (le_cons rfl (le_cons rfl (le_cons (by simp [Env.get, Env.put]) le_nil))), ⟨x3, how3, by dsimp only; omega⟩, by dsimp only; omega⟩
    refine ai_block ?_
    refine ai_seq (ai_reg ?_)
    refine st_iad rfl (by omega) ?_
    refine st_ldn rfl (by rw [Int.toNat_natCast]; exact hr) ?_
    refine st (v := ptr h2.nx) (h' := h2.new ⟨[nI 0, nI 0, nI 0, nI 0], true, 0⟩) rfl ?_
    refine st_st (h' := (h2.new ⟨[nI 0, nI 0, nI 0, nI 0], true, 0⟩).put h2.nx ⟨p4 p, true, 0⟩) rfl rfl (copy_wr h2 p) ?_
    have x3 := x2.trans (copy_ext h2 p)
    have how3 := how.move (copy_ext h2 p)
    have hO : ((h2.new ⟨[nI 0, nI 0, nI 0, nI 0], true, 0⟩).put h2.nx ⟨p4 p, true, 0⟩).get h2.nx = some ⟨p4 p, true, 0⟩ := hput_same _ _ _
    generalize (h2.new ⟨[nI 0, nI 0, nI 0, nI 0], true, 0⟩).put h2.nx ⟨p4 p, true, 0⟩ = h3 at x3 hO how3 ⊢
    refine ai_seq (ai_reg ?_)
    refine st rfl ?_
    refine st_ld rfl (rd_f (x := 1) hO rfl) ?_
    rw [htk, rF_snoc]
    by_cases hc : p.2.1 = 2
    · refine st_v (v2 := .bool true) rfl (congrArg Value.bool (by simp [hc])) ?_
      refine ai_cond (b := true) rfl (fun _ => ?_) fun hb => by cases hb
      rw [if_pos hc]
      refine ai_reg ?_
      iterate 2 refine st rfl ?_
      refine st_ld rfl (rd_f (x := 0) hO rfl) ?_
      refine st (v := .slice (some ⟨h3.nx, 0, none⟩) 1 1) (h' := h3.new ⟨[nI p.1], true, 1⟩) rfl ?_
      obtain ⟨s', h4, hst, how4, x4⟩ := how3.push (e := 3) (e2 := 1) (bytes := 8) rfl x3 (u := nI p.1) rfl (by simp; omega) (by simp; omega)
      refine st (v := s') (h' := h4) hst ?_
      refine st rfl ?_
      exact ⟨rfl, s', le_cons rfl (le_cons rfl (le_cons rfl (le_cons rfl le_nil))), x4, by rw [List.map_append]; exact how4⟩
    · refine st_v (v2 := .bool false) rfl (congrArg Value.bool (by simp [hc])) ?_
      refine ai_cond (b := false) rfl (fun hb => by cases hb) fun _ => ai_skip ?_
      rw [if_neg hc, List.append_nil]
      exact ⟨rfl, w, le_cons rfl (le_cons rfl (le_cons rfl (le_cons rfl le_nil))), x3, how3⟩
  rintro v h1 ⟨x1, how⟩
  refine ai_seq (ai_reg ?_)
  iterate 2 refine st rfl ?_
  refine ai_ret ?_
  exact end_one rfl ⟨x1, how⟩
end Go.Proofs.YtnebdnbglggdkaaW.Am
