/- A queue over abstract heaps: All; two rows of numbers compared. -/
import Derived.Test.YtcdfoicebcmlaaaQueueC
namespace Go.Proofs.YtcdfoicebcmlaaaW.Am
open Go Go.RowKit
/-- A row that is read. -/
def Rd (h : Hp) (s : Value) (us : List Value) : Prop :=
  (s = .slice none 0 0 ∧ us = []) ∨ ∃ i o sp c, s = .slice (some ⟨i, o, sp⟩) us.length c ∧ ∀ x v, us[x]? = some v → h.rd i (o + x * 1) 1 = some [v]
theorem QS.rd {h : Hp} {q j : Nat} {s : Value} {us : List Value} (a : QS h q j s us) : Rd h s us := by
  rcases a with a | ⟨xs, sp, rfl, hg, _⟩
  · exact .inl a
  · exact .inr ⟨j, _, _, _, rfl, fun x v hx => rd_app hg hx⟩
theorem Ow.rdd {N : Nat} {h : Hp} {s : Value} {us : List Value} (a : Ow N h s us) : Rd h s us := by
  rcases a with a | ⟨i, _, _, rfl, hg, _⟩
  · exact .inl a
  · exact .inr ⟨i, _, _, _, rfl, fun x v hx => by have := rd_f hg hx; simpa using this⟩
theorem Rd.len {h : Hp} {s : Value} {us : List Value} (a : Rd h s us) : ∃ x c, s = .slice x us.length c := by
  rcases a with ⟨rfl, rfl⟩ | ⟨i, o, sp, c, rfl, _⟩ <;> exact ⟨_, _, rfl⟩
theorem Rd.ext {h h' : Hp} {s : Value} {us : List Value} (a : Rd h s us) (e : ∀ i o sp n c, s = .slice (some ⟨i, o, sp⟩) n c → h'.get i = h.get i) : Rd h' s us := by
  rcases a with a | ⟨i, o, sp, c, rfl, hr⟩
  · exact .inl a
  · refine .inr ⟨i, o, sp, c, rfl, fun x v hx => ?_⟩
    have := hr x v hx
    unfold Hp.rd at this ⊢
    rw [e i o sp _ _ rfl]
    exact this

theorem all_nil (h : Hp) : ACall PQ 25 [.pointer none] h (fun v h' => v = .slice none 0 0 ∧ h = h') := by
  refine acall Go.Proofs.Try.func25 c25 (by simp [ir25]) ?_
  unfold ir25
  dsimp only
  refine ai_seq (ai_reg ?_)
  refine st rfl ?_
  refine ai_seq (ai_seq (ai_reg ?_))
  iterate 2 refine st rfl ?_
  refine ai_cond (b := true) rfl (fun _ => ?_) (fun hb => by cases hb)
  refine ai_seq (ai_reg ?_)
  refine st rfl ?_
  refine ai_ret ?_
  simp only [thenQ_r]
  exact end_one rfl ⟨rfl, rfl⟩

theorem all_ok (h : Hp) {q j : Nat} {depth last : Int} {l : List (Int × Int)} (a : QA h q j depth last l) (hb : l.length ≤ 1000) : ACall PQ 25 [ptr q] h (fun v h' => Ext h h' ∧ Ow h.nx h' v (l.map fun p => nI p.1)) := by
  obtain ⟨hq, hj, s, hg, hs⟩ := a
  refine acall Go.Proofs.Try.func25 c25 (by simp [ir25]) ?_
  unfold ir25
  dsimp only
  refine ai_seq (ai_reg ?_)
  refine st rfl ?_
  refine ai_seq (ai_seq (ai_reg ?_))
  iterate 2 refine st rfl ?_
  refine ai_cond (b := false) rfl (fun hb => by cases hb) (fun _ => ai_skip ?_)
  refine ai_seq (ai_reg ?_)
  refine st rfl ?_
  have hrd := hs.rd
  have hjs : ∀ i o sp n c, s = .slice (some ⟨i, o, sp⟩) n c → i < h.nx := by
    intro i o sp n c e
    rcases hs with ⟨rfl, _⟩ | ⟨xs, sp', rfl, _⟩
    · cases e
    · cases e; exact hj
  obtain ⟨x, c, rfl⟩ := hrd.len
  refine ai_join (γ := Value) (fun v => [(3, v)]) (fun v h' => Ext h h' ∧ Ow h.nx h' v (l.map fun p => nI p.1)) ?_ ?_
  · refine ai_seq (ai_reg ?_)
    iterate 3 refine st rfl ?_
    refine st_ld rfl (rd_f hg rfl) ?_
    iterate 2 refine st rfl ?_
    refine ai_block (ai_loopE (γ := Nat × Value) (fun g => [(3, g.2), (11, .slice x (l.map qE).length c), (12, nI l.length), (13, nI g.1)]) (fun g h' => Ext h h' ∧ Ow h.nx h' g.2 ((l.map fun p => nI p.1).take g.1) ∧ g.1 ≤ l.length) (fun g => l.length - g.1) (0, .slice none 0 0)
      (le_cons rfl (le_cons rfl (le_cons (by simp [Env.get, Env.put]) (le_cons rfl le_nil)))) ⟨Ext.refl _, Ow.nil _ _, Nat.zero_le _⟩ ?_)
    rintro ⟨i, v⟩ h1 ⟨hx, how, hi⟩
    dsimp only at how hi ⊢
    refine ai_seq (ai_reg ?_)
    refine st rfl ?_
    by_cases hlt : i < l.length
    case neg =>
      refine ai_seq (ai_cond (b := false) (by simp [evA, Env.get, Env.put, hlt]) (fun hb => by cases hb) fun _ => ?_)
      refine ai_exit ?_
      rw [List.take_of_length_le (by simp; omega)] at how
      exact ⟨rfl, v, le_cons rfl le_nil, hx, how⟩
    refine ai_seq (ai_cond (b := true) (by simp [evA, Env.get, Env.put, hlt]) (fun _ => ?_) fun hb => by cases hb)
    refine ai_skip ?_
    have hu : (l.map qE)[i]? = some (qE l[i]) := by simp [hlt]
    have hrd1 : Rd h1 (.slice x (l.map qE).length c) (l.map qE) := hrd.ext fun i o sp n c e => hx.2 i (hjs i o sp n c e)
    obtain ⟨_, hn⟩ | ⟨i2, o2, sp2, c2, e2, hr2⟩ := hrd1
    · simp at hn
      subst hn
      simp at hlt
    cases e2
    refine ai_seq (ai_block ?_)
    refine ai_seq (ai_reg ?_)
    refine st_iad rfl (by simp; omega) ?_
    refine st_ld rfl (hr2 _ _ (by rw [Int.toNat_natCast]; exact hu)) ?_
    refine st rfl ?_
    refine ai_reg ?_
    iterate 2 refine st rfl ?_
    refine st (v := .agg #[nI l[i].1, nI l[i].2]) (h' := h1) rfl ?_
    refine st (v := nI l[i].1) (h' := h1) rfl ?_
    refine st (v := .slice (some ⟨h1.nx, 0, none⟩) 1 1) (h' := h1.new ⟨[nI l[i].1], true, 1⟩) rfl ?_
    have hlen : ((l.map fun p => nI p.1).take i).length ≤ 1000 := by simp; omega
    obtain ⟨s', h2, hst, how2, hx2⟩ := how.push (e := 3) (e2 := 1) (bytes := 8) rfl hx (u := nI l[i].1) rfl (by omega) (by omega)
    refine st (v := s') (h' := h2) hst ?_
    refine st rfl ?_
    refine ai_reg ?_
    refine st_w rfl (by omega) ?_
    refine st rfl ?_
    refine ⟨(i + 1, s'), le_cons rfl (le_cons rfl (le_cons rfl (le_cons (by simp [Env.get, Env.put]) le_nil))), ⟨hx2, ?_, by dsimp only; omega⟩, by dsimp only; omega⟩
    have : (l.map fun p => nI p.1).take (i + 1) = (l.map fun p => nI p.1).take i ++ [nI l[i].1] := by
      rw [List.take_succ_eq_append_getElem (by simp; omega)]
      simp
    dsimp only
    rw [this]
    exact how2
  rintro v h1 ⟨hx, how⟩
  refine ai_seq (ai_reg ?_)
  iterate 2 refine st rfl ?_
  refine ai_ret ?_
  exact end_one rfl ⟨hx, how⟩

theorem ints_ok (h : Hp) {s s' : Value} {l : List Int} (a : Rd h s (l.map nI)) (b : Rd h s' (l.map nI)) (hb : l.length ≤ 1000000) : ACall PQ 31 [s, s'] h (fun v h' => v = .bool true ∧ h = h') := by
  refine acall Go.Proofs.Try.func31 c31 (by simp [ir31]) ?_
  unfold ir31
  dsimp only
  have ⟨x, c, e⟩ := a.len
  subst e
  have ⟨y, d, e⟩ := b.len
  subst e
  refine ai_seq (ai_reg ?_)
  refine st rfl ?_
  refine ai_seq (ai_seq (ai_reg ?_))
  iterate 4 refine st rfl ?_
  refine st_v (v2 := .bool false) rfl (congrArg Value.bool (by simp)) ?_
  refine ai_cond (b := false) rfl (fun hb => by cases hb) (fun _ => ai_skip ?_)
  refine ai_join (γ := Unit) (fun _ => []) (fun _ h' => h = h') ?_ ?_
  · refine ai_seq (ai_reg ?_)
    refine st rfl ?_
    refine ai_block (ai_loopE (γ := Nat) (fun g => [(0, .slice x (l.map nI).length c), (1, .slice y (l.map nI).length d), (5, nI g)]) (fun g h' => h = h' ∧ g ≤ l.length) (fun g => l.length - g) 0
      (le_cons rfl (le_cons rfl (le_cons rfl le_nil))) ⟨rfl, Nat.zero_le _⟩ ?_)
    rintro i _ ⟨rfl, hi⟩
    refine ai_seq (ai_seq (ai_reg ?_))
    iterate 3 refine st rfl ?_
    by_cases hlt : i < l.length
    case neg =>
      refine st_v (v2 := .bool false) rfl (congrArg Value.bool (by simp; omega)) ?_
      refine ai_cond (b := false) rfl (fun hb => by cases hb) fun _ => ?_
      refine ai_exit ?_
      exact ⟨rfl, (), le_nil, rfl⟩
    refine st_v (v2 := .bool true) rfl (congrArg Value.bool (by simp; omega)) ?_
    refine ai_cond (b := true) rfl (fun _ => ?_) fun hb => by cases hb
    refine ai_skip ?_
    have hu : (l.map nI)[i]? = some (nI l[i]) := by simp [hlt]
    obtain ⟨_, hn⟩ | ⟨i2, o2, sp2, c2, e2, hr2⟩ := a
    · simp at hn
      subst hn
      simp at hlt
    cases e2
    obtain ⟨_, hn⟩ | ⟨i3, o3, sp3, c3, e3, hr3⟩ := b
    · simp at hn
      subst hn
      simp at hlt
    cases e3
    refine ai_seq (ai_block ?_)
    refine ai_seq (ai_drw (by kernel_rfl) ?_)
    iterate 2 refine dr rfl ?_
    refine dr (o_iad rfl (by simp; omega)) ?_
    refine dr (o_ld rfl (hr2 _ _ (by rw [Int.toNat_natCast]; exact hu))) ?_
    iterate 2 refine dr rfl ?_
    refine dr (o_iad rfl (by simp; omega)) ?_
    refine dr (o_ld rfl (hr3 _ _ (by rw [Int.toNat_natCast]; exact hu))) ?_
    refine dr (v := .bool false) (o_v rfl (congrArg Value.bool (by simp))) ?_
    refine ai_cond (b := false) rfl (fun hb => by cases hb) fun _ => ai_skip ?_
    refine ai_reg ?_
    refine st rfl ?_
    refine st_w rfl (by omega) ?_
    refine st rfl ?_
    exact ⟨i + 1, le_cons rfl (le_cons rfl (le_cons (by simp [Env.get, Env.put]) le_nil)), ⟨rfl, by omega⟩, by dsimp only; omega⟩
  rintro _ _ rfl
  refine ai_seq (ai_reg ?_)
  refine st rfl ?_
  refine ai_ret ?_
  exact end_one rfl ⟨rfl, rfl⟩
end Go.Proofs.YtcdfoicebcmlaaaW.Am
