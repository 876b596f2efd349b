/- Pods over abstract heaps: which one goes next. -/
import Derived.Test.YtnebdnbglggdkaaLifeJ
namespace Go.Proofs.YtnebdnbglggdkaaW.Am
open Go Go.RowKit
theorem drU {P : Program} {CT : CTy} {env : Env} {h : Hp} {Q : Env → Hp → Prop} {d : Option Nat} {ix t : Nat} {b : Bool} {eff : Bool} {ik : IK} {L : List DE} (g : env.get t = some undef) (n : wpD P CT L (env.put d undef) h Q) : wpD P CT (⟨ix, ⟨d, some (t, b), ik⟩, eff, []⟩ :: L) env h Q := by
  unfold wpD wpIn
  simp only [wanted, g, undef]
  exact ⟨trivial, n⟩
/-- One pod is looked at. -/
def nxS (l : List Pd) (best : Int) (k : Nat) (p : Pd) : Int :=
  if p.2.1 = 3 then best else if best < 0 then k else
    if p.2.1 = 1 ∨ ((l.getD best.toNat (0, 0, 0, 0)).2.1 = 2 ∧ p.2.2.1 ≤ (l.getD best.toNat (0, 0, 0, 0)).2.2.1) then k else best
/-- The place of the one that goes next, of the first i. -/
def nxF (l : List Pd) : Nat → Int
  | 0 => -1
  | i + 1 => nxS l (nxF l i) i (l.getD i (0, 0, 0, 0))
theorem nxF_bd (l : List Pd) : ∀ i, -1 ≤ nxF l i ∧ nxF l i < i
  | 0 => by simp [nxF]
  | i + 1 => by
    have := nxF_bd l i
    simp only [nxF, nxS]
    split
    · omega
    · split
      · omega
      · split <;> omega
set_option maxHeartbeats 1000000 in
theorem next_ok (h : Hp) {L j : Nat} {ps : List (Nat × Pd)} {made : Int} (a : LA h L j ps made) (hb : ps.length ≤ 1000) : ACall PP 49 [ptr L] h (fun v h' => v = nI (nxF (ps.map (·.2)) ps.length) ∧ Ext h h') := by
  refine acall Go.Proofs.Try.func49 c49 (by simp [ir49]) ?_
  unfold ir49
  dsimp only
  refine ai_seq (ai_reg ?_)
  refine st rfl ?_
  refine ai_seq (ai_reg ?_)
  refine st rfl ?_
  refine ai_join (γ := Unit) (fun _ => [(3, nI (nxF (ps.map (·.2)) ps.length))]) (fun _ h' => Ext h h') ?_ ?_
  case refine_2 =>
    rintro _ h1 x1
    refine ai_seq (ai_reg ?_)
    iterate 2 refine st rfl ?_
    refine ai_ret ?_
    exact end_one rfl ⟨rfl, x1⟩
  refine ai_seq (ai_reg ?_)
  refine st rfl ?_
  refine stC rfl ((lall_ok h a hb).mono ?_)
  rintro v h1 ⟨x1, a1⟩
  obtain ⟨vx, vc, e⟩ := a1.len
  subst e
  have hpl : (ps.map (·.2)).length = ps.length := by simp
  have hget : ∀ (i : Nat) (p : Pd), (ps.map (·.2))[i]? = some p → ∃ q : Nat × Pd, ps[i]? = some q ∧ q.2 = p := by
    intro i p hp
    rw [List.getElem?_map] at hp
    cases hq : ps[i]? with
    | none => rw [hq] at hp; cases hp
    | some q => rw [hq] at hp; exact ⟨q, rfl, Option.some.inj hp⟩
  have hll : (ps.map (·.2)).length ≤ 1000 := by simpa using hb
  rw [← hpl]
  clear hpl
  generalize ps.map (·.2) = l at a1 hget hll ⊢
  iterate 2 refine st rfl ?_
  refine ai_block (ai_loopE (γ := Nat) (fun i => [(0, ptr L), (3, nI (nxF l i)), (8, .slice vx l.length vc), (9, nI l.length), (10, nI i)]) (fun i h' => Ext h1 h' ∧ i ≤ l.length) (fun i => l.length - i) 0
    (le_cons rfl (le_cons rfl (le_cons rfl (le_cons rfl (le_cons rfl le_nil))))) ⟨Ext.refl _, Nat.zero_le _⟩ ?_)
  rintro i h2 ⟨x2, hi⟩
  refine ai_seq (ai_reg ?_)
  refine st rfl ?_
  by_cases hlt : i < l.length
  case neg =>
    obtain rfl : i = l.length := by omega
    refine ai_seq (ai_cond (b := false) (by simp [evA, Env.get, Env.put]) (fun hb => by cases hb) fun _ => ?_)
    refine ai_exit ?_
    exact ⟨rfl, (), le_cons rfl le_nil, x1.trans x2⟩
  refine ai_seq (ai_cond (b := true) (by simp [evA, Env.get, Env.put, hlt]) (fun _ => ?_) fun hb => by cases hb)
  refine ai_skip ?_
  have hu : l[i]? = some l[i] := by simp [hlt]
  have hgd : l.getD i (0, 0, 0, 0) = l[i] := by simp [List.getD_eq_getElem?_getD, hlt]
  have hnx : nxF l (i + 1) = nxS l (nxF l i) i l[i] := by simp only [nxF, hgd]
  have hbd := nxF_bd l i
  generalize l[i] = p at hu hnx
  obtain ⟨k, e, _, _, hr⟩ := (a1.move x2).at hu
  cases e
  refine ai_join (γ := Unit) (fun _ => [(0, ptr L), (3, nI (nxF l (i + 1))), (8, .slice (some ⟨k, 0, some 0⟩) l.length l.length), (9, nI l.length), (10, nI i)]) (fun _ h' => Ext h1 h') ?_ ?_
  case refine_2 =>
    rintro _ h3 x3
    refine ai_reg ?_
    refine st_w rfl (by omega) ?_
    refine st rfl ?_
    exact ⟨i + 1, le_cons rfl (le_cons rfl (le_cons rfl (le_cons rfl (le_cons (by simp [Env.get, Env.put]) le_nil)))), ⟨x3, by omega⟩, by dsimp only; omega⟩
  rw [hnx]
  generalize nxF l i = best at hbd ⊢
  refine ai_block ?_
  refine ai_seq (ai_reg ?_)
  refine st rfl ?_
  refine st_iad rfl (by omega) ?_
  refine st_ldn rfl (by rw [Int.toNat_natCast]; exact hr) ?_
  refine st (v := ptr h2.nx) (h' := h2.new ⟨[nI 0, nI 0, nI 0, nI 0], true, 0⟩) rfl ?_
  refine st rfl ?_
  refine st_st (h' := (h2.new ⟨[nI 0, nI 0, nI 0, nI 0], true, 0⟩).put h2.nx ⟨p4 p, true, 0⟩) rfl rfl (copy_wr h2 p) ?_
  have x3 := x2.trans (copy_ext h2 p)
  have hO : ((h2.new ⟨[nI 0, nI 0, nI 0, nI 0], true, 0⟩).put h2.nx ⟨p4 p, true, 0⟩).get h2.nx = some ⟨p4 p, true, 0⟩ := hput_same _ _ _
  generalize (h2.new ⟨[nI 0, nI 0, nI 0, nI 0], true, 0⟩).put h2.nx ⟨p4 p, true, 0⟩ = h3 at x3 hO ⊢
  refine ai_seq (ai_block ?_)
  refine ai_seq (ai_reg ?_)
  refine st rfl ?_
  refine st_ld rfl (rd_f (x := 1) hO rfl) ?_
  by_cases hc : p.2.1 = 3
  · refine st_v (v2 := .bool true) rfl (congrArg Value.bool (by simp [hc])) ?_
    refine st rfl ?_
    refine ai_cond (b := true) rfl (fun _ => ?_) fun hb => by cases hb
    refine ai_exit ?_
    exact ⟨rfl, (), le_cons rfl (le_cons (by simp only [nxS, if_pos hc]; rfl) (le_cons rfl (le_cons rfl (le_cons rfl le_nil)))), x3⟩
  refine st_v (v2 := .bool false) rfl (congrArg Value.bool (by simp [hc])) ?_
  refine st rfl ?_
  refine ai_cond (b := false) rfl (fun hb => by cases hb) fun _ => ?_
  refine ai_seq (ai_reg ?_)
  refine st rfl ?_
  by_cases hb0 : best < 0
  · refine st_v (v2 := .bool true) rfl (congrArg Value.bool (by simp; omega)) ?_
    refine st rfl ?_
    refine ai_cond (b := true) rfl (fun _ => ?_) fun hb => by cases hb
    refine ai_seq (ai_reg ?_)
    iterate 2 refine st rfl ?_
    refine ai_exit ?_
    exact ⟨rfl, (), le_cons rfl (le_cons (by simp only [nxS, if_neg hc, if_pos hb0]; rfl) (le_cons rfl (le_cons rfl (le_cons rfl le_nil)))), x3⟩
  refine st_v (v2 := .bool false) rfl (congrArg Value.bool (by simp; omega)) ?_
  refine st rfl ?_
  refine ai_cond (b := false) rfl (fun hb => by cases hb) fun _ => ai_skip ?_
  obtain ⟨B, rfl⟩ := Int.eq_ofNat_of_zero_le (show 0 ≤ best by omega)
  have hBl : l[B]? = some l[B] := by simp
  have hBg : l.getD B (0, 0, 0, 0) = l[B] := by simp [List.getD_eq_getElem?_getD, show B < l.length by omega]
  generalize l[B] = b at hBl hBg
  obtain ⟨q, hq, rfl⟩ := hget B b hBl
  have a3 := a.ext (x1.trans x3)
  refine ai_seq (ai_reg ?_)
  iterate 2 refine st rfl ?_
  refine stC rfl ((pod_ok h3 a3 hq).mono ?_)
  rintro w _ ⟨rfl, rfl⟩
  refine st rfl ?_
  have hQ := a3.cell hq
  have key : nxS l (B : Int) i p = if p.2.1 = 1 ∨ (q.2.2.1 = 2 ∧ p.2.2.1 ≤ q.2.2.2.1) then (i : Int) else B := by
    simp only [nxS, if_neg hc, if_neg hb0, Int.toNat_natCast, hBg]
  refine ai_seq (ai_drw (by kernel_rfl) ?_)
  refine dr rfl ?_
  refine dr (o_ld rfl (rd_f (x := 1) hO rfl)) ?_
  by_cases h1s : p.2.1 = 1
  · rw [if_pos (.inl h1s)] at key
    rw [key]
    refine dr (v := .bool true) (o_v rfl (congrArg Value.bool (by simp [h1s]))) ?_
    refine dr rfl ?_
    iterate 6 refine drF rfl rfl ?_
    iterate 7 refine drU rfl ?_
    refine drF rfl rfl ?_
    refine dr rfl ?_
    refine ai_cond (b := true) rfl (fun _ => ?_) fun hb => by cases hb
    refine ai_reg ?_
    iterate 2 refine st rfl ?_
    exact ⟨rfl, (), le_cons rfl (le_cons rfl (le_cons rfl (le_cons rfl (le_cons rfl le_nil)))), x3⟩
  refine dr (v := .bool false) (o_v rfl (congrArg Value.bool (by simp [h1s]))) ?_
  refine dr rfl ?_
  iterate 3 refine drT rfl rfl rfl ?_
  refine drT rfl rfl (o_ld rfl (rd_f (x := 1) hQ rfl)) ?_
  by_cases h2s : q.2.2.1 = 2
  · refine drT (v := .bool true) rfl rfl (o_v rfl (congrArg Value.bool (by simp [h2s]))) ?_
    iterate 2 refine drT rfl rfl rfl ?_
    refine drT rfl rfl (o_ld rfl (rd_f (x := 2) hO rfl)) ?_
    iterate 3 refine drT rfl rfl rfl ?_
    refine drT rfl rfl (o_ld rfl (rd_f (x := 2) hQ rfl)) ?_
    by_cases h3s : p.2.2.1 ≤ q.2.2.2.1
    · rw [if_pos (.inr ⟨h2s, h3s⟩)] at key
      rw [key]
      refine drT (v := .bool true) rfl rfl (o_v rfl (congrArg Value.bool (by simp; omega))) ?_
      refine drT rfl rfl rfl ?_
      refine dr rfl ?_
      refine ai_cond (b := true) rfl (fun _ => ?_) fun hb => by cases hb
      refine ai_reg ?_
      iterate 2 refine st rfl ?_
      exact ⟨rfl, (), le_cons rfl (le_cons rfl (le_cons rfl (le_cons rfl (le_cons rfl le_nil)))), x3⟩
    · rw [if_neg (by rintro (h | h); exact h1s h; exact h3s h.2)] at key
      rw [key]
      refine drT (v := .bool false) rfl rfl (o_v rfl (congrArg Value.bool (by simp; omega))) ?_
      refine drT rfl rfl rfl ?_
      refine dr rfl ?_
      refine ai_cond (b := false) rfl (fun hb => by cases hb) fun _ => ai_skip ?_
      exact ⟨rfl, (), le_cons rfl (le_cons rfl (le_cons rfl (le_cons rfl (le_cons rfl le_nil)))), x3⟩
  · rw [if_neg (by rintro (h | h); exact h1s h; exact h2s h.1)] at key
    rw [key]
    refine drT (v := .bool false) rfl rfl (o_v rfl (congrArg Value.bool (by simp [h2s]))) ?_
    refine drT rfl rfl rfl ?_
    iterate 7 refine drF rfl rfl ?_
    refine drT rfl rfl rfl ?_
    refine dr rfl ?_
    refine ai_cond (b := false) rfl (fun hb => by cases hb) fun _ => ai_skip ?_
    exact ⟨rfl, (), le_cons rfl (le_cons rfl (le_cons rfl (le_cons rfl (le_cons rfl le_nil)))), x3⟩
end Go.Proofs.YtnebdnbglggdkaaW.Am
