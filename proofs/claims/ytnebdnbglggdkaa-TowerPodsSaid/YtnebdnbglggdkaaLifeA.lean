/- Pods over abstract heaps: what a Life is in memory; New, pod, All, Count, Ready. -/
import Derived.Test.YtnebdnbglggdkaaAmW
import Derived.Test.YtnebdnbglggdkaaIrL
namespace Go.Proofs.YtnebdnbglggdkaaW.Am
open Go Go.RowKit
noncomputable abbrev PP := Go.Proofs.Try.prog
/-- A pod: number, state, how many in flight, since when. -/
abbrev Pd := Int × Int × Int × Int
def p4 (v : Pd) : List Value := [nI v.1, nI v.2.1, nI v.2.2.1, nI v.2.2.2]
def fl4 : List Pd → List Value
  | [] => []
  | p :: l => p4 p ++ fl4 l
theorem fl4_len : ∀ l, (fl4 l).length = l.length * 4
  | [] => rfl
  | p :: l => by simp only [fl4, List.length_append, List.length_cons, fl4_len l, p4, List.length_nil]; omega
theorem fl4_app : ∀ l k, fl4 (l ++ k) = fl4 l ++ fl4 k
  | [], _ => rfl
  | p :: l, k => by simp only [List.cons_append, fl4, fl4_app l k, List.append_assoc]
theorem fl4_one : ∀ l, (fl4 l).all one = true
  | [] => rfl
  | p :: l => by simp [fl4, fl4_one l, p4, one]
theorem fl4_drop : ∀ (l : List Pd) (i : Nat), (fl4 l).drop (i * 4) = fl4 (l.drop i)
  | l, 0 => by simp
  | [], i + 1 => by simp [fl4]
  | p :: l, i + 1 => by rw [show (i + 1) * 4 = i * 4 + 1 + 1 + 1 + 1 by omega]; simp only [fl4, p4, List.cons_append, List.nil_append, List.drop_succ_cons]; exact fl4_drop l i
/-- A grown row of pods; its object's number is from N on. -/
def A4 (N : Nat) (h : Hp) (s : Value) (l : List Pd) : Prop :=
  (s = .slice none 0 0 ∧ l = []) ∨ ∃ i, N ≤ i ∧ i < h.nx ∧ s = .slice (some ⟨i, 0, some 0⟩) l.length l.length ∧ h.get i = some ⟨fl4 l, true, 4⟩ ∧ l ≠ []
theorem A4.nil (N : Nat) (h : Hp) : A4 N h (.slice none 0 0) [] := .inl ⟨rfl, rfl⟩
theorem A4.len {N : Nat} {h : Hp} {s : Value} {l : List Pd} (a : A4 N h s l) : ∃ x c, s = .slice x l.length c := by
  rcases a with ⟨rfl, rfl⟩ | ⟨i, _, _, rfl, _⟩ <;> exact ⟨_, _, rfl⟩
theorem A4.move {N : Nat} {h h2 : Hp} {s : Value} {l : List Pd} (o : A4 N h s l) (x : Ext h h2) : A4 N h2 s l := by
  rcases o with o | ⟨i, h1, h2', h3, h4, h5⟩
  · exact .inl o
  · exact .inr ⟨i, h1, Nat.lt_of_lt_of_le h2' x.1, h3, (x.2 i h2').trans h4, h5⟩
theorem A4.at {N : Nat} {h : Hp} {s : Value} {l : List Pd} (a : A4 N h s l) {i : Nat} {p : Pd} (hi : l[i]? = some p) :
    ∃ k, s = .slice (some ⟨k, 0, some 0⟩) l.length l.length ∧ k < h.nx ∧ N ≤ k ∧ h.rd k (0 + i * 4) 4 = some (p4 p) := by
  rcases a with ⟨_, rfl⟩ | ⟨k, h1, h2, rfl, hg, _⟩
  · cases hi
  refine ⟨k, rfl, h2, h1, ?_⟩
  obtain ⟨hl, rfl⟩ := List.getElem?_eq_some_iff.1 hi
  have hn := fl4_len l
  unfold Hp.rd
  simp only [hg, Nat.zero_add]
  rw [if_pos (by omega), fl4_drop, List.drop_eq_getElem_cons hl]
  simp [fl4, p4]
theorem A4.push {N : Nat} {h0 h : Hp} {s : Value} {l : List Pd} (o : A4 N h s l) (hN : h0.nx = N) (x : Ext h0 h) (p : Pd) (hl : l.length ≤ 1000) :
    ∃ s' h2, stepK (.app 25 4 32) [s, .slice (some ⟨h.nx, 0, none⟩) 1 1] (h.new ⟨p4 p, true, 4⟩) = some (s', h2) ∧ A4 N h2 s' (l ++ [p]) ∧ Ext h0 h2 := by
  have hrd : rdS (h.new ⟨p4 p, true, 4⟩) (some ⟨h.nx, 0, none⟩) (1 * 4) = some (p4 p) := by
    simp [rdS, Hp.rd, Hp.new, p4]
  have hall : (p4 p).all one = true := rfl
  rcases o with ⟨rfl, rfl⟩ | ⟨i, h1, h2, rfl, h4, h5⟩
  · refine ⟨.slice (some ⟨h.nx + 1, 0, some 0⟩) 1 1, (h.new ⟨p4 p, true, 4⟩).new ⟨p4 p, true, 4⟩, ?_, .inr ⟨h.nx + 1, ?_, ?_, rfl, ?_, by simp⟩, ?_⟩
    · simp only [stepK, hrd]
      simp [appA, Hp.new, p4, one]
    · have := x.1; omega
    · simp [Hp.new]
    · simp [Hp.new, fl4]
    · exact x.trans ((Ext.new _ _).trans (Ext.new _ _))
  · have hne : i ≠ h.nx := by omega
    have hg2 : (h.new ⟨p4 p, true, 4⟩).get i = some ⟨fl4 l, true, 4⟩ := by simp [Hp.new, hne, h4]
    have hn := fl4_len l
    have hlen : l.length ≠ 0 := fun hz => h5 (List.eq_nil_of_length_eq_zero hz)
    have hold : (if l.length = 0 then some [] else (h.new ⟨p4 p, true, 4⟩).rd i 0 (l.length * 4)) = some (fl4 l) := by
      rw [if_neg hlen]
      simp only [Hp.rd, hg2]
      rw [if_pos (by omega), List.drop_zero, List.take_of_length_le (by omega)]
    refine ⟨.slice (some ⟨h.nx + 1, 0, some 0⟩) (l.length + 1) (l.length + 1), (((h.new ⟨p4 p, true, 4⟩)).del i).new ⟨fl4 l ++ p4 p, true, 4⟩, ?_, .inr ⟨h.nx + 1, ?_, ?_, ?_, ?_, by simp⟩, ?_⟩
    · simp only [stepK, hrd]
      simp only [appA]
      rw [if_pos ⟨by simp [p4], hall, by omega, by omega, by omega⟩]
      simp only [Nat.one_ne_zero, if_false, show ¬ (l.length + 1 ≤ l.length) by omega, hold, hg2]
      rw [if_pos ⟨trivial, trivial, by omega, Nat.le_refl _, fl4_one l⟩]
      simp [Hp.del, Hp.new]
    · have := x.1; omega
    · simp [Hp.new, Hp.del]
    · simp
    · simp [Hp.new, Hp.del, fl4_app, fl4]
    · refine ⟨by have := x.1; simp [Hp.new, Hp.del]; omega, fun k hk => ?_⟩
      have := x.1
      have e1 : ¬ k = h.nx + 1 := by omega
      have e2 : ¬ k = i := by omega
      have e3 : ¬ k = h.nx := by omega
      simp only [Hp.new, Hp.del, e1, e2, e3, if_false]
      exact x.2 k hk

/-- A pod as the row holds it: a pointer to the pod's own object. -/
def pE (P : Nat) : Value := .iface 76 (ptr P)
/-- The row of the pods: with room behind it, perhaps. -/
def LR (h : Hp) (L j : Nat) (s : Value) (us : List Value) : Prop :=
  (s = .slice none 0 0 ∧ us = []) ∨ ∃ tl, s = .slice (some ⟨j, 0, some 0⟩) us.length (us.length + tl.length) ∧ h.get j = some ⟨us ++ tl, true, 1⟩ ∧ (us ++ tl).all one = true ∧ j ≠ L
theorem LR.len {h : Hp} {L j : Nat} {s : Value} {us : List Value} (a : LR h L j s us) : ∃ x c, s = .slice x us.length c := by
  rcases a with ⟨rfl, rfl⟩ | ⟨tl, rfl, _⟩ <;> exact ⟨_, _, rfl⟩
theorem LR.keep {h h' : Hp} {L j : Nat} {s : Value} {us : List Value} (a : LR h L j s us) (e : j ≠ L → h'.get j = h.get j) : LR h' L j s us := by
  rcases a with a | ⟨tl, e1, e2, e3, e4⟩
  · exact .inl a
  · exact .inr ⟨tl, e1, (e e4).trans e2, e3, e4⟩
theorem LR.at {h : Hp} {L j : Nat} {s : Value} {us : List Value} (a : LR h L j s us) {i : Nat} {v : Value} (hi : us[i]? = some v) : ∃ c, s = .slice (some ⟨j, 0, some 0⟩) us.length c ∧ h.rd j (0 + i * 1) 1 = some [v] := by
  rcases a with ⟨_, rfl⟩ | ⟨tl, rfl, hg, _⟩
  · cases hi
  refine ⟨_, rfl, ?_⟩
  have hl := (List.getElem?_eq_some_iff.1 hi).1
  have := rd_f hg (x := i) (v := v) (by rw [List.getElem?_append_left hl]; exact hi)
  simpa using this
structure LA (h : Hp) (L j : Nat) (ps : List (Nat × Pd)) (made : Int) : Prop where
  ll : L < h.nx
  jl : j < h.nx
  row : ∃ s, h.get L = some ⟨[s, nI made], true, 0⟩ ∧ LR h L j s (ps.map fun p => pE p.1)
  pods : ∀ p ∈ ps, h.get p.1 = some ⟨p4 p.2, true, 0⟩ ∧ p.1 < h.nx ∧ p.1 ≠ L ∧ p.1 ≠ j
  nd : (ps.map (·.1)).Nodup
theorem LA.ext {h h' : Hp} {L j : Nat} {ps : List (Nat × Pd)} {made : Int} (a : LA h L j ps made) (x : Ext h h') : LA h' L j ps made := by
  obtain ⟨hL, hj, ⟨s, hg, hs⟩, hp, hn⟩ := a
  exact ⟨Nat.lt_of_lt_of_le hL x.1, Nat.lt_of_lt_of_le hj x.1, ⟨s, (x.2 L hL).trans hg, hs.keep fun _ => x.2 j hj⟩, fun p hp' => ⟨(x.2 _ (hp p hp').2.1).trans (hp p hp').1, Nat.lt_of_lt_of_le (hp p hp').2.1 x.1, (hp p hp').2.2⟩, hn⟩

theorem lnew_ok (h : Hp) : ACall PP 21 [] h (fun v h' => v = ptr h.nx ∧ LA h' h.nx h.nx [] 0 ∧ Ext h h') := by
  refine acall Go.Proofs.Try.func21 c21 (by simp [ir21]) ?_
  unfold ir21
  dsimp only
  refine ai_seq (ai_reg ?_)
  refine st rfl ?_
  refine ai_seq (ai_reg ?_)
  refine st (v := .agg #[.slice none 0 0, nI 0]) (h' := h) rfl ?_
  refine st (v := ptr h.nx) (h' := h.new ⟨[.slice none 0 0, nI 0], true, 0⟩) rfl ?_
  refine st rfl ?_
  refine ai_ret ?_
  exact end_one rfl ⟨rfl, ⟨by simp [Hp.new], by simp [Hp.new], ⟨_, by simp [Hp.new], .inl ⟨rfl, rfl⟩⟩, (by intro p hp; cases hp), .nil⟩, Ext.new _ _⟩
theorem pod_ok (h : Hp) {L j : Nat} {ps : List (Nat × Pd)} {made : Int} (a : LA h L j ps made) {k : Nat} {p : Nat × Pd} (hk : ps[k]? = some p) : ACall PP 50 [ptr L, nI k] h (fun v h' => v = ptr p.1 ∧ h = h') := by
  obtain ⟨hL, hj, ⟨s, hg, hs⟩, hp, hn⟩ := a
  have hkl := (List.getElem?_eq_some_iff.1 hk).1
  obtain ⟨c, rfl, hr⟩ := hs.at (i := k) (v := pE p.1) (by rw [List.getElem?_map, hk]; rfl)
  refine acall Go.Proofs.Try.func50 c50 (by simp [ir50]) ?_
  unfold ir50
  dsimp only
  refine ai_seq (ai_reg ?_)
  refine st rfl ?_
  refine ai_seq (ai_reg ?_)
  iterate 3 refine st rfl ?_
  refine st_ld rfl (rd_f hg rfl) ?_
  refine st rfl ?_
  refine st_iad rfl (by simp; omega) ?_
  refine st_ld rfl (by rw [Int.toNat_natCast]; exact hr) ?_
  refine st (v := .tuple #[ptr p.1, .bool true]) rfl ?_
  iterate 5 refine st rfl ?_
  refine ai_seq (ai_reg ?_)
  iterate 2 refine st rfl ?_
  refine ai_ret ?_
  exact end_one rfl ⟨rfl, rfl⟩
theorem lall_nil (h : Hp) : ACall PP 28 [.pointer none] h (fun v h' => v = .slice none 0 0 ∧ h = h') := by
  refine acall Go.Proofs.Try.func28 c28 (by simp [ir28]) ?_
  unfold ir28
  dsimp only
  refine ai_seq (ai_reg ?_)
  refine st rfl ?_
  refine ai_seq (ai_seq (ai_reg ?_))
  iterate 2 refine st rfl ?_
  refine ai_cond (b := true) rfl (fun _ => ?_) (fun hb => by cases hb)
  refine ai_seq (ai_reg ?_)
  refine st rfl ?_
  refine ai_ret ?_
  simp only [thenQ_r]
  exact end_one rfl ⟨rfl, rfl⟩
theorem lall_ok (h : Hp) {L j : Nat} {ps : List (Nat × Pd)} {made : Int} (a : LA h L j ps made) (hb : ps.length ≤ 1000) : ACall PP 28 [ptr L] h (fun v h' => Ext h h' ∧ A4 h.nx h' v (ps.map (·.2))) := by
  have a0 := a
  obtain ⟨hL, hj, ⟨s, hg, hs⟩, hp, hn⟩ := a
  obtain ⟨x, c, e⟩ := hs.len
  subst e
  rw [List.length_map] at hg
  refine acall Go.Proofs.Try.func28 c28 (by simp [ir28]) ?_
  unfold ir28
  dsimp only
  refine ai_seq (ai_reg ?_)
  refine st rfl ?_
  refine ai_seq (ai_seq (ai_reg ?_))
  iterate 2 refine st rfl ?_
  refine ai_cond (b := false) rfl (fun hb => by cases hb) (fun _ => ai_skip ?_)
  refine ai_seq (ai_reg ?_)
  refine st rfl ?_
  refine ai_join (γ := Value) (fun v => [(3, v)]) (fun v h' => Ext h h' ∧ A4 h.nx h' v (ps.map (·.2))) ?_ ?_
  · refine ai_seq (ai_reg ?_)
    iterate 3 refine st rfl ?_
    refine st_ld rfl (rd_f hg rfl) ?_
    iterate 2 refine st rfl ?_
    refine ai_block (ai_loopE (γ := Nat × Value) (fun g => [(0, ptr L), (3, g.2), (11, nI ps.length), (12, nI g.1)]) (fun g h' => Ext h h' ∧ A4 h.nx h' g.2 ((ps.map (·.2)).take g.1) ∧ g.1 ≤ ps.length) (fun g => ps.length - g.1) (0, .slice none 0 0)
      (le_cons rfl (le_cons rfl (le_cons rfl (le_cons rfl le_nil)))) ⟨Ext.refl _, A4.nil _ _, Nat.zero_le _⟩ ?_)
    rintro ⟨i, v⟩ h1 ⟨hx, how, hi⟩
    dsimp only at how hi ⊢
    refine ai_seq (ai_reg ?_)
    refine st rfl ?_
    by_cases hlt : i < ps.length
    case neg =>
      refine ai_seq (ai_cond (b := false) (by simp [evA, Env.get, Env.put, hlt]) (fun hb => by cases hb) fun _ => ?_)
      refine ai_exit ?_
      rw [List.take_of_length_le (by simp; omega)] at how
      exact ⟨rfl, v, le_cons rfl le_nil, hx, how⟩
    refine ai_seq (ai_cond (b := true) (by simp [evA, Env.get, Env.put, hlt]) (fun _ => ?_) fun hb => by cases hb)
    refine ai_skip ?_
    have hu : ps[i]? = some ps[i] := by simp [hlt]
    have hpi := hp ps[i] (List.getElem_mem _)
    have htk : (ps.map (·.2)).take (i + 1) = (ps.map (·.2)).take i ++ [ps[i].2] := by
      rw [List.take_succ_eq_append_getElem (by simp; omega)]
      simp
    generalize ps[i] = p at hu hpi htk
    refine ai_seq (ai_block ?_)
    refine ai_seq (ai_reg ?_)
    iterate 2 refine st rfl ?_
    refine ai_reg ?_
    iterate 3 refine st rfl ?_
    refine stC rfl ((pod_ok h1 (a0.ext hx) hu).mono ?_)
    rintro w _ ⟨rfl, rfl⟩
    refine st rfl ?_
    refine st_ldn (us := p4 p.2) rfl (by simp only [Hp.rd, (hx.2 _ hpi.2.1).trans hpi.1]; rfl) ?_
    refine st (v := .slice (some ⟨h1.nx, 0, none⟩) 1 1) (h' := h1.new ⟨p4 p.2, true, 4⟩) rfl ?_
    obtain ⟨s', h2, hst, how2, hx2⟩ := how.push rfl hx p.2 (by simp; omega)
    refine st (v := s') (h' := h2) hst ?_
    refine st rfl ?_
    refine ai_reg ?_
    refine st_w rfl (by omega) ?_
    refine st rfl ?_
    refine ⟨(i + 1, s'), le_cons rfl (le_cons rfl (le_cons rfl (le_cons (by simp [Env.get, Env.put]) le_nil))), ⟨hx2, ?_, by dsimp only; omega⟩, by dsimp only; omega⟩
    dsimp only
    rw [htk]
    exact how2
  rintro v h1 ⟨hx, how⟩
  refine ai_seq (ai_reg ?_)
  iterate 2 refine st rfl ?_
  refine ai_ret ?_
  exact end_one rfl ⟨hx, how⟩
end Go.Proofs.YtnebdnbglggdkaaW.Am
