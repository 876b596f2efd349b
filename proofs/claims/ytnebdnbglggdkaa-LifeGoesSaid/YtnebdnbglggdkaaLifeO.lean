/- Pods over abstract heaps: Scale to as many or more. -/
import Derived.Test.YtnebdnbglggdkaaLifeN
namespace Go.Proofs.YtnebdnbglggdkaaW.Am
open Go Go.RowKit
/-- The pods that come: their numbers go on behind those that ever were. -/
def newF (made now : Int) (k : Nat) : List Pd := (List.range k).map fun (i : Nat) => (made + i, 1, 0, now)
theorem newF_succ (made now : Int) (k : Nat) : newF made now (k + 1) = newF made now k ++ [(made + k, 1, 0, now)] := by simp [newF, List.range_succ]
theorem cF_app (l : List Pd) (made now : Int) (k : Nat) : cF (l ++ newF made now k) = cF l + k := by
  induction k with
  | zero => simp [newF]
  | succ k ih => rw [newF_succ, ← List.append_assoc, cF_snoc, ih]; simp; omega
theorem put_put (h : Hp) (i : Nat) (a b : Ob) : (h.put i a).put i b = h.put i b := by
  simp only [Hp.put]
  congr 1
  funext k
  split <;> rfl
set_option maxHeartbeats 1000000 in
theorem scale_up (h : Hp) {L j : Nat} {ps : List (Nat × Pd)} {made now : Int} {d : Nat} (a : LA h L j ps made) (hb : ps.length ≤ 800) (hc : cF (ps.map (·.2)) + d ≤ 100) (hm : 0 ≤ made ∧ made ≤ 1000000) (hn : 0 ≤ now ∧ now ≤ 1099511627776) :
    ACall PP 22 [ptr L, nI ((cF (ps.map (·.2)) + d : Nat) : Int), nI now] h (fun v h' => v = nI 0 ∧ ∃ j' nw, nw.map (·.2) = newF made now d ∧ (∀ p ∈ nw, h.nx ≤ p.1) ∧ LA h' L j' (ps ++ nw) (made + d) ∧ (j' = j ∨ h.nx ≤ j') ∧ ModL L j ps h h') := by
  refine acall Go.Proofs.Try.func22 c22 (by simp [ir22]) ?_
  unfold ir22
  dsimp only
  refine ai_seq (ai_reg ?_)
  refine st rfl ?_
  refine ai_seq (ai_block ?_)
  refine ai_seq (ai_reg ?_)
  iterate 3 refine st rfl ?_
  refine ai_cond (b := false) rfl (fun hb => by cases hb) (fun _ => ?_)
  refine ai_seq (ai_reg ?_)
  refine st rfl ?_
  refine st_v (v2 := .bool false) rfl (congrArg Value.bool (by simp; omega)) ?_
  refine st rfl ?_
  refine stT rfl rfl rfl ?_
  refine stT (v := .bool false) rfl rfl (o_v rfl (congrArg Value.bool (by simp; omega))) ?_
  iterate 2 refine st rfl ?_
  refine stT rfl rfl rfl ?_
  refine stT (v := .bool false) rfl rfl (o_v rfl (congrArg Value.bool (by simp; omega))) ?_
  iterate 2 refine st rfl ?_
  refine stT rfl rfl rfl ?_
  refine stT (v := .bool false) rfl rfl (o_v rfl (congrArg Value.bool (by simp; omega))) ?_
  iterate 2 refine st rfl ?_
  refine ai_cond (b := false) rfl (fun hb => by cases hb) (fun _ => ai_skip ?_)
  refine ai_join (γ := Unit) (fun _ => [(0, ptr L), (1, nI ((cF (ps.map (·.2)) + d : Nat) : Int)), (2, nI now)]) (fun _ h' => ∃ j' nw, nw.map (·.2) = newF made now d ∧ (∀ p ∈ nw, h.nx ≤ p.1) ∧ LA h' L j' (ps ++ nw) (made + d) ∧ (j' = j ∨ h.nx ≤ j') ∧ ModL L j ps h h') ?_ ?_
  case refine_2 =>
    rintro _ h1 ⟨j1, nw, hnw, hge, a1, hj1, m1⟩
    have hcnt : cF ((ps ++ nw).map (·.2)) = cF (ps.map (·.2)) + d := by rw [List.map_append, hnw, cF_app]
    have hnl : nw.length = d := by have := congrArg List.length hnw; simpa [newF] using this
    refine ai_join (γ := Unit) (fun _ => []) (fun _ h' => ∃ j' nw, nw.map (·.2) = newF made now d ∧ (∀ p ∈ nw, h.nx ≤ p.1) ∧ LA h' L j' (ps ++ nw) (made + d) ∧ (j' = j ∨ h.nx ≤ j') ∧ ModL L j ps h h') ?_ ?_
    · refine ai_block (ai_loopE (γ := Unit) (fun _ => [(0, ptr L), (1, nI ((cF (ps.map (·.2)) + d : Nat) : Int)), (2, nI now)]) (fun _ h' => Ext h1 h') (fun _ => 0) () (le_cons rfl (le_cons rfl (le_cons rfl le_nil))) (Ext.refl _) ?_)
      rintro _ h2 x2
      refine ai_seq (ai_seq (ai_reg ?_))
      refine st rfl ?_
      refine stC rfl ((count_ok h2 (a1.ext x2) (by simp; omega)).mono ?_)
      rintro v h3 ⟨rfl, x3⟩
      rw [hcnt]
      refine st rfl ?_
      refine st_v (v2 := .bool false) rfl (congrArg Value.bool (by simp)) ?_
      refine ai_cond (b := false) rfl (fun hb => by cases hb) fun _ => ?_
      refine ai_exit ?_
      exact ⟨rfl, (), le_nil, j1, nw, hnw, hge, a1.ext (x2.trans x3), hj1, m1.trans (ModL.of_ext (x2.trans x3))⟩
    rintro _ h2 hR
    refine ai_seq (ai_reg ?_)
    refine st rfl ?_
    refine ai_ret ?_
    exact end_one rfl ⟨rfl, hR⟩
  refine ai_block (ai_loopE (γ := Nat) (fun _ => [(0, ptr L), (1, nI ((cF (ps.map (·.2)) + d : Nat) : Int)), (2, nI now)]) (fun k h' => (∃ j' nw, nw.map (·.2) = newF made now k ∧ (∀ p ∈ nw, h.nx ≤ p.1) ∧ LA h' L j' (ps ++ nw) (made + k) ∧ (j' = j ∨ h.nx ≤ j') ∧ ModL L j ps h h') ∧ k ≤ d) (fun k => d - k) 0
    (le_cons rfl (le_cons rfl (le_cons rfl le_nil))) ⟨⟨j, [], rfl, by simp, by simpa using a, .inl rfl, ModL.of_ext (Ext.refl _)⟩, Nat.zero_le _⟩ ?_)
  rintro k h1 ⟨⟨j1, nw, hnw, hge, a1, hj1, m1⟩, hkd⟩
  have hcnt : cF ((ps ++ nw).map (·.2)) = cF (ps.map (·.2)) + k := by rw [List.map_append, hnw, cF_app]
  have hnl : nw.length = k := by have := congrArg List.length hnw; simpa [newF] using this
  refine ai_seq (ai_seq (ai_reg ?_))
  refine st rfl ?_
  refine stC rfl ((count_ok h1 a1 (by simp; omega)).mono ?_)
  rintro v h2 ⟨rfl, x2⟩
  rw [hcnt]
  have a2 := a1.ext x2
  have m2 := m1.trans (ModL.of_ext (L := L) (j := j) (ps := ps) x2)
  refine st rfl ?_
  by_cases hlt : k < d
  case neg =>
    obtain rfl : k = d := by omega
    refine st_v (v2 := .bool false) rfl (congrArg Value.bool (by simp)) ?_
    refine ai_cond (b := false) rfl (fun hb => by cases hb) fun _ => ?_
    refine ai_exit ?_
    exact ⟨rfl, (), le_cons rfl (le_cons rfl (le_cons rfl le_nil)), j1, nw, hnw, hge, a2, hj1, m2⟩
  refine st_v (v2 := .bool true) rfl (congrArg Value.bool (by simp; omega)) ?_
  refine ai_cond (b := true) rfl (fun _ => ?_) fun hb => by cases hb
  refine ai_skip ?_
  obtain ⟨sv, hg, hs⟩ := a2.row
  have hml := a2.ll
  have hjl := a2.jl
  refine ai_block ?_
  refine ai_seq (ai_drw (by kernel_rfl) ?_)
  iterate 4 refine dr rfl ?_
  refine dr (o_ld rfl (rd_f (x := 0) hg rfl)) ?_
  iterate 3 refine dr rfl ?_
  refine dr (o_ld rfl (rd_f (x := 1) hg rfl)) ?_
  refine dr rfl ?_
  refine dr (v := .agg ⟨p4 (made + k, 1, 0, now)⟩) (h' := h2) rfl ?_
  have hgB : (h2.new ⟨p4 (made + k, 1, 0, now), true, 0⟩).get L = some ⟨[sv, nI (made + k)], true, 0⟩ := by simp [Hp.new, show L ≠ h2.nx by omega, hg]
  have hgC : ((h2.new ⟨p4 (made + k, 1, 0, now), true, 0⟩).new ⟨[pE h2.nx], true, 1⟩).get L = some ⟨[sv, nI (made + k)], true, 0⟩ := by simp [Hp.new, show L ≠ h2.nx by omega, show L ≠ h2.nx + 1 by omega, hg]
  refine drR (v := ptr h2.nx) (h' := h2.new ⟨p4 (made + k, 1, 0, now), true, 0⟩) rfl ⟨ag_ld rfl rfl (rd_f (x := 0) hgB rfl), trivial⟩ ?_
  refine dr (v := pE h2.nx) (h' := h2.new ⟨p4 (made + k, 1, 0, now), true, 0⟩) rfl ?_
  refine drR (v := .slice (some ⟨(h2.new ⟨p4 (made + k, 1, 0, now), true, 0⟩).nx, 0, none⟩) 1 1) (h' := (h2.new ⟨p4 (made + k, 1, 0, now), true, 0⟩).new ⟨[pE h2.nx], true, 1⟩) rfl ⟨ag_ld rfl rfl (rd_f (x := 0) hgC rfl), trivial⟩ ?_
  have hs3 : LR (h2.new ⟨p4 (made + k, 1, 0, now), true, 0⟩) L j1 sv ((ps ++ nw).map fun p => pE p.1) := hs.keep fun _ => by simp [Hp.new, show j1 ≠ h2.nx by omega]
  obtain ⟨s', h3, j', hst, lr3, hn3, hjl3, hj3, hk3⟩ := hs3.push (by simp [Hp.new]; omega) (by simp [Hp.new]; omega) (u := pE h2.nx) rfl (by simp; omega)
  refine dr hst ?_
  have hnb : (h2.new ⟨p4 (made + k, 1, 0, now), true, 0⟩).nx = h2.nx + 1 := by simp [Hp.new]
  rw [hnb] at hn3 hj3 hk3
  have hone : one s' = true ∧ s'.cells = #[s'] := by rcases lr3 with ⟨rfl, _⟩ | ⟨_, rfl, _⟩ <;> exact ⟨rfl, rfl⟩
  have hg3 : h3.get L = some ⟨[sv, nI (made + k)], true, 0⟩ := (hk3 L (by omega) (by by_cases e : j1 = L; exact .inr e; exact .inl fun e' => e e'.symm)).trans hgB
  iterate 2 refine dr rfl ?_
  refine dr (o_st (h' := h3.put L ⟨[s', nI (made + k)], true, 0⟩) rfl (by rw [hone.2]; rfl) (by rw [hone.2]; exact wr_f hg3 (x := 0) (by simp) hone.1)) ?_
  have hg4 : (h3.put L ⟨[s', nI (made + k)], true, 0⟩).get L = some ⟨[s', nI (made + k)], true, 0⟩ := hput_same _ _ _
  refine ai_reg ?_
  iterate 3 refine st rfl ?_
  refine st_ld rfl (rd_f (x := 1) hg4 rfl) ?_
  refine st_w rfl (by omega) ?_
  iterate 2 refine st rfl ?_
  refine st_st (h' := (h3.put L ⟨[s', nI (made + k)], true, 0⟩).put L ⟨[s', nI (made + k + 1)], true, 0⟩) rfl rfl (wr_f hg4 (x := 1) (by simp) rfl) ?_
  rw [put_put]
  have hgrow := a2.grow (v := (made + k, 1, 0, now)) (m := made + k + 1) lr3 (by omega) hjl3 (by omega) hk3
  rw [List.append_assoc] at hgrow
  have em : made + ((k + 1 : Nat) : Int) = made + k + 1 := by omega
  refine ⟨k + 1, le_cons rfl (le_cons rfl (le_cons rfl le_nil)), ⟨⟨j', nw ++ [(h2.nx, (made + k, 1, 0, now))], by rw [List.map_append, hnw, newF_succ]; rfl, ?_, by rw [em]; exact hgrow, by have := m2.1; omega, ?_⟩, by omega⟩, by dsimp only; omega⟩
  case refine_1 =>
    intro q hq
    rcases List.mem_append.1 hq with hq | hq
    · exact hge q hq
    · rw [List.mem_singleton] at hq; subst hq; exact m2.1
  refine ⟨by rw [hput_nx]; have := m2.1; omega, fun q q1 q2 q3 q4 => ?_⟩
  have := m2.1
  rw [hput_ne _ _ q2, hk3 q (by omega) (.inl (by omega))]
  simp only [Hp.new, show ¬ q = h2.nx by omega, if_false]
  exact m2.2 q q1 q2 q3 q4
end Go.Proofs.YtnebdnbglggdkaaW.Am
