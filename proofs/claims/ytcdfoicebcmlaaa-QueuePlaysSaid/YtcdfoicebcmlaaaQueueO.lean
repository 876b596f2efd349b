/- QueuePlays, over abstract heaps. -/
import Derived.Test.YtcdfoicebcmlaaaQueueN
namespace Go.Proofs.YtcdfoicebcmlaaaW.Am
open Go Go.RowKit
abbrev O5 := Int × Int × Int × Int × Int
def o5 (p : O5) : List Value := [nI p.1, nI p.2.1, nI p.2.2.1, nI p.2.2.2.1, nI p.2.2.2.2]
/-- A row of steps that is read. -/
def Rd5 (h : Hp) (s : Value) (ops : List O5) : Prop :=
  (s = .slice none 0 0 ∧ ops = []) ∨ ∃ i o sp c, s = .slice (some ⟨i, o, sp⟩) ops.length c ∧ ∀ x p, ops[x]? = some p → h.rd i (o + x * 5) 5 = some (o5 p)
theorem Rd5.len {h : Hp} {s : Value} {us : List O5} (a : Rd5 h s us) : ∃ x c, s = .slice x us.length c := by
  rcases a with ⟨rfl, rfl⟩ | ⟨i, o, sp, c, rfl, _⟩ <;> exact ⟨_, _, rfl⟩
theorem Rd5.ext {h h' : Hp} {s : Value} {us : List O5} (a : Rd5 h s us) (e : ∀ i o sp n c, s = .slice (some ⟨i, o, sp⟩) n c → h'.get i = h.get i) : Rd5 h' s us := by
  rcases a with a | ⟨i, o, sp, c, rfl, hr⟩
  · exact .inl a
  · refine .inr ⟨i, o, sp, c, rfl, fun x v hx => ?_⟩
    have := hr x v hx
    unfold Hp.rd at this ⊢
    rw [e i o sp _ _ rfl]
    exact this
structure PS (h0 h : Hp) (q m i : Nat) : Prop where
  ex : ∃ j j2 l depth last lastm p0, QA h q j depth last l ∧ RQ h m j2 depth lastm p0 l ∧ ((p0 = true ∧ lastm = last) ∨ (p0 = false ∧ last = -9223372036854775808)) ∧ Srt last l ∧ l.length ≤ i ∧ j ≠ m ∧ j2 ≠ q ∧ j ≠ j2 ∧ h0.nx ≤ j ∧ h0.nx ≤ j2
  ext : Ext h0 h
def InR (x : Int) : Prop := -9223372036854775808 ≤ x ∧ x ≤ 9223372036854775807

set_option maxHeartbeats 2000000 in
theorem queuePlays_ok (us : List O5) (s0 : Value) (dp : Int) (h0 : Hp) (r : Rd5 h0 s0 us) (hi0 : ∀ i o sp n c, s0 = .slice (some ⟨i, o, sp⟩) n c → i < h0.nx) (hr : ∀ p ∈ us, InR p.2.2.2.1) :
    ACall PQ 7 [nI dp, s0] h0 (fun v h' => v = .bool true ∧ Ext h0 h') := by
  obtain ⟨x0, c0, e⟩ := r.len
  subst e
  refine acall Go.Proofs.Try.func7 c7 (by simp [ir7]) ?_
  unfold ir7
  dsimp only
  refine ai_seq (ai_reg ?_)
  refine st rfl ?_
  refine ai_seq (ai_reg ?_)
  refine st rfl ?_
  by_cases hdp : dp < 0 ∨ 200 < dp
  · refine stC rfl ((new_no h0 hdp).mono ?_)
    rintro v _ ⟨rfl, rfl⟩
    refine st rfl ?_
    refine stC rfl ((rnew_no h0 hdp).mono ?_)
    rintro v _ ⟨rfl, rfl⟩
    iterate 2 refine st rfl ?_
    refine ai_seq (ai_seq (ai_reg ?_))
    iterate 2 refine st rfl ?_
    refine ai_cond (b := true) rfl (fun _ => ?_) fun hb => by cases hb
    refine ai_seq (ai_reg ?_)
    refine stC rfl ((qtold_ok h0).mono ?_)
    rintro v h1 ⟨rfl, y1⟩
    refine st rfl ?_
    iterate 2 refine stT rfl rfl rfl ?_
    iterate 2 refine st rfl ?_
    refine ai_ret ?_
    simp only [thenQ_r]
    exact end_one rfl ⟨rfl, y1⟩
  refine stC rfl ((new_ok h0 (by omega) (by omega)).mono ?_)
  rintro v h1 ⟨rfl, a1, x1⟩
  refine st rfl ?_
  refine stC rfl ((rnew_ok h1 (by omega) (by omega)).mono ?_)
  rintro v h2 ⟨rfl, a2, x2⟩
  have hq1 := a1.ql
  have P0 : PS h0 h2 h0.nx h1.nx 0 := ⟨⟨h0.nx, h1.nx, [], dp, -9223372036854775808, 0, false, a1.ext x2, a2, .inr ⟨rfl, rfl⟩, ⟨.nil, fun p hp => by cases hp⟩, Nat.le_refl _, by omega, by omega, by omega, Nat.le_refl _, by omega⟩, x1.trans x2⟩
  generalize h1.nx = m at P0 hq1 ⊢
  iterate 2 refine st rfl ?_
  refine ai_seq (ai_seq (ai_reg ?_))
  iterate 2 refine st rfl ?_
  refine ai_cond (b := false) rfl (fun hb => by cases hb) fun _ => ai_skip ?_
  refine ai_seq (ai_seq (ai_reg ?_))
  iterate 2 refine st rfl ?_
  refine ai_cond (b := false) rfl (fun hb => by cases hb) fun _ => ai_skip ?_
  refine ai_seq (ai_seq (ai_reg ?_))
  iterate 2 refine st rfl ?_
  by_cases hlen : 120 < us.length
  · refine st_v (v2 := .bool true) rfl (congrArg Value.bool (by simp; omega)) ?_
    refine ai_cond (b := true) rfl (fun _ => ?_) fun hb => by cases hb
    refine ai_seq (ai_reg ?_)
    refine stC rfl ((qtold_ok h2).mono ?_)
    rintro v h3 ⟨rfl, y3⟩
    refine st rfl ?_
    refine ai_ret ?_
    simp only [thenQ_r]
    exact end_one rfl ⟨rfl, P0.ext.trans y3⟩
  refine st_v (v2 := .bool false) rfl (congrArg Value.bool (by simp; omega)) ?_
  refine ai_cond (b := false) rfl (fun hb => by cases hb) fun _ => ai_skip ?_
  refine ai_join (γ := Unit) (fun _ => []) (fun _ h => Ext h0 h) ?_ ?_
  case refine_2 =>
    rintro _ h hx
    refine ai_seq (ai_reg ?_)
    refine stC rfl ((qtold_ok h).mono ?_)
    rintro v h3 ⟨rfl, y3⟩
    refine st rfl ?_
    refine ai_ret ?_
    exact end_one rfl ⟨rfl, hx.trans y3⟩
  refine ai_seq (ai_reg ?_)
  refine st rfl ?_
  refine ai_block (ai_loopE (γ := Nat) (fun i => [(1, .slice x0 us.length c0), (5, ptr h0.nx), (6, ptr m), (7, nI i)]) (fun i h => PS h0 h h0.nx m i ∧ i ≤ us.length) (fun i => us.length - i) 0
    (le_cons rfl (le_cons rfl (le_cons rfl (le_cons rfl le_nil)))) ⟨P0, Nat.zero_le _⟩ ?_)
  rintro i h ⟨F, hi⟩
  refine ai_seq (ai_seq (ai_reg ?_))
  iterate 3 refine st rfl ?_
  by_cases hlt : i < us.length
  case neg =>
    refine st_v (v2 := .bool false) rfl (congrArg Value.bool (by simp; omega)) ?_
    refine ai_cond (b := false) rfl (fun hb => by cases hb) fun _ => ?_
    refine ai_exit ?_
    exact ⟨rfl, (), le_nil, F.ext⟩
  refine st_v (v2 := .bool true) rfl (congrArg Value.bool (by simp; omega)) ?_
  refine ai_cond (b := true) rfl (fun _ => ?_) fun hb => by cases hb
  refine ai_skip ?_
  have hu : us[i]? = some us[i] := by simp [hlt]
  have hT := hr us[i] (List.getElem_mem _)
  have hrd1 : Rd5 h (.slice x0 us.length c0) us := r.ext fun i o sp n c e => F.ext.2 i (hi0 i o sp n c e)
  generalize us[i] = p at hu hT
  obtain ⟨_, hn⟩ | ⟨i2, o2, sp2, c2, e2, hr2⟩ := hrd1
  · rw [hn] at hlt; simp at hlt
  cases e2
  refine ai_seq (ai_block ?_)
  refine ai_seq (ai_reg ?_)
  iterate 2 refine st rfl ?_
  refine st_iad rfl (by omega) ?_
  refine st_ldn rfl (by rw [Int.toNat_natCast]; exact hr2 i p hu) ?_
  refine st (v := ptr h.nx) (h' := h.new ⟨[nI 0, nI 0, nI 0, nI 0, nI 0], true, 0⟩) rfl ?_
  have hgx : (h.new ⟨[nI 0, nI 0, nI 0, nI 0, nI 0], true, 0⟩).get h.nx = some ⟨[nI 0, nI 0, nI 0, nI 0, nI 0], true, 0⟩ := by simp [Hp.new]
  refine st_st (h' := (h.new ⟨[nI 0, nI 0, nI 0, nI 0, nI 0], true, 0⟩).put h.nx ⟨o5 p, true, 0⟩) rfl rfl ?_ ?_
  · unfold Hp.wr
    rw [hgx]
    rfl
  have hx2 : Ext h ((h.new ⟨[nI 0, nI 0, nI 0, nI 0, nI 0], true, 0⟩).put h.nx ⟨o5 p, true, 0⟩) :=
    ⟨by simp [Hp.new, Hp.put], fun k hk => by rw [hput_ne _ _ (by omega)]; simp [Hp.new, show k ≠ h.nx by omega]⟩
  have hO : ((h.new ⟨[nI 0, nI 0, nI 0, nI 0, nI 0], true, 0⟩).put h.nx ⟨o5 p, true, 0⟩).get h.nx = some ⟨o5 p, true, 0⟩ := hput_same _ _ _
  have hnx : h.nx < ((h.new ⟨[nI 0, nI 0, nI 0, nI 0, nI 0], true, 0⟩).put h.nx ⟨o5 p, true, 0⟩).nx := by simp [Hp.new, Hp.put]
  generalize (h.new ⟨[nI 0, nI 0, nI 0, nI 0, nI 0], true, 0⟩).put h.nx ⟨o5 p, true, 0⟩ = h3 at hx2 hO hnx
  obtain ⟨⟨j, j2, l, depth, last, lastm, p0, qa, rq, hp, hs, hll, hjm, hj2q, hjj, hj0, hj20⟩, hx⟩ := F
  have hql := qa.ql
  have hjl := qa.jl
  have hml := rq.ql
  have hj2l := rq.jl
  replace qa := qa.ext hx2
  replace rq := rq.ext hx2
  replace hx := hx.trans hx2
  have hml3 := rq.ql
  generalize h.nx = O at *
  refine ai_join (γ := Unit) (fun _ => [(1, .slice (some ⟨i2, o2, sp2⟩) us.length c0), (5, ptr h0.nx), (6, ptr m), (7, nI i)]) (fun _ h => PS h0 h h0.nx m (i + 1)) ?_ ?_
  case refine_2 =>
    rintro _ h F
    obtain ⟨⟨j, j2, l, depth, last, lastm, p0, qa, rq, hp, hs, hll, hjm, hj2q, hjj, hj0, hj20⟩, hx⟩ := F
    refine ai_seq (ai_reg ?_)
    refine st rfl ?_
    refine stC rfl ((all_ok h qa (by omega)).mono ?_)
    rintro v h4 ⟨y4, how4⟩
    refine st rfl ?_
    refine stC rfl ((rall_ok h4 (rq.ext y4) (by omega)).mono ?_)
    rintro w h5 ⟨y5, how5⟩
    have e : (l.map fun p => nI p.1) = (l.map fun p => p.1).map nI := by simp
    rw [e] at how4 how5
    refine stC rfl ((ints_ok h5 (how4.move y5).rdd how5.rdd (by simp; omega)).mono ?_)
    rintro _ _ ⟨rfl, rfl⟩
    refine st rfl ?_
    refine ai_cond (b := false) rfl (fun hb => by cases hb) fun _ => ai_skip ?_
    refine ai_reg ?_
    refine st rfl ?_
    refine st_w rfl (by omega) ?_
    refine st rfl ?_
    have y := y4.trans y5
    exact ⟨i + 1, le_cons rfl (le_cons rfl (le_cons rfl (le_cons (by simp [Env.get, Env.put]) le_nil))), ⟨⟨⟨j, j2, l, depth, last, lastm, p0, qa.ext y, rq.ext y, hp, hs, hll, hjm, hj2q, hjj, hj0, hj20⟩, hx.trans y⟩, by omega⟩, by dsimp only; omega⟩
  refine ai_seq (ai_reg ?_)
  refine st rfl ?_
  refine st_ld rfl (rd_f (x := 0) hO rfl) ?_
  iterate 2 refine st rfl ?_
  refine ai_block ?_
  refine ai_seq (ai_reg ?_)
  iterate 3 refine st rfl ?_
  refine ai_cond rfl (fun _ => ?_) (fun _ => ?_)
  · -- Put
    refine ai_seq (ai_drw (by kernel_rfl) ?_)
    iterate 2 refine dr rfl ?_
    refine dr (o_ld rfl (rd_f hO rfl)) ?_
    refine dr rfl ?_
    refine dr (o_ld rfl (rd_f hO rfl)) ?_
    iterate 2 refine dr rfl ?_
    refine dr (o_ld rfl (rd_f hO rfl)) ?_
    refine dr rfl ?_
    refine dr (o_ld rfl (rd_f hO rfl)) ?_
    refine drCR rfl ((put_any qa p.2.1 p.2.2.2.1 (by omega)).mono ?_)
    rintro v h4 ⟨rfl, j', qa4, m4, hj'⟩
    have hO4 : h4.get O = some ⟨o5 p, true, 0⟩ := (m4.2 O hnx (by omega) (by omega)).trans hO
    refine ⟨⟨ag_ld rfl rfl (rd_f hO4 rfl), ag_ld rfl rfl (rd_f hO4 rfl), trivial⟩, ?_⟩
    have rq4 := rq.mod m4 (by omega) (by omega) (by omega) (by omega)
    refine drCR rfl ((rput_any (last := last) rq4 p.2.1 p.2.2.2.1 (by omega) hT.1 hp).mono ?_)
    rintro v h5 ⟨rfl, j2', lastm', p0', rq5, m5, hj2', hp'⟩
    refine ⟨trivial, ?_⟩
    refine dr (v := .bool false) (o_v rfl (congrArg Value.bool (by simp))) ?_
    refine ai_cond (b := false) rfl (fun hb => by cases hb) fun _ => ai_skip ?_
    have hn4 := m4.1
    have hjl4 := qa4.jl
    have qa5 := qa4.mod m5 (by omega) (by omega) (by omega) (by omega)
    refine ⟨rfl, (), le_cons rfl (le_cons rfl (le_cons rfl (le_cons rfl le_nil))), ⟨⟨j', j2', _, depth, _, lastm', p0', qa5, rq5, hp', ?_, ?_, by omega, by omega, by omega, by omega, by omega⟩, (hx.mod m4 (Nat.le_refl _) hj0).mod m5 (by omega) hj20⟩⟩
    · by_cases e : putR depth last l.length p.2.1 p.2.2.2.1 = 0
      · rw [if_pos e, if_pos e]
        refine hs.push ?_ hT
        unfold putR at e
        split at e
        · cases e
        · omega
      · rw [if_neg e, if_neg e]; exact hs
    · split
      · simp; omega
      · omega
  refine ai_seq (ai_reg ?_)
  iterate 3 refine st rfl ?_
  refine ai_cond rfl (fun _ => ?_) (fun _ => ?_)
  · -- Take
    obtain ⟨a, b, e⟩ : ∃ a b, takeR l = .tuple #[nI a, .bool b] := by cases l <;> exact ⟨_, _, rfl⟩
    refine ai_seq (ai_reg ?_)
    refine st rfl ?_
    refine stC rfl ((take_any qa).mono ?_)
    rintro v h4 ⟨rfl, qa4, m4⟩
    rw [e]
    iterate 5 refine st rfl ?_
    have rq4 := rq.mod m4 (by omega) (by omega) (by omega) (by omega)
    refine ai_seq (ai_reg ?_)
    refine st rfl ?_
    refine stC rfl ((rtake_any rq4).mono ?_)
    rintro v h5 ⟨rfl, rq5, m5⟩
    rw [e]
    iterate 5 refine st rfl ?_
    have hn4 := m4.1
    have qa5 := qa4.mod m5 (by omega) (by omega) (by omega) (by omega)
    refine ai_seq (ai_reg ?_)
    iterate 2 refine st rfl ?_
    refine st_v (v2 := .bool false) rfl (congrArg Value.bool (by simp)) ?_
    refine st rfl ?_
    iterate 2 refine stT rfl rfl rfl ?_
    refine stT (v := .bool false) rfl rfl (o_v rfl (by cases b <;> rfl)) ?_
    refine st rfl ?_
    refine ai_cond (b := false) rfl (fun hb => by cases hb) fun _ => ai_skip ?_
    refine ⟨rfl, (), le_cons rfl (le_cons rfl (le_cons rfl (le_cons rfl le_nil))), ⟨⟨j, j2, _, depth, last, lastm, p0, qa5, rq5, hp, ?_, ?_, by omega, by omega, by omega, by omega, by omega⟩, (hx.mod m4 (Nat.le_refl _) hj0).mod m5 (by omega) hj20⟩⟩
    · rw [← List.drop_one]; exact hs.drop 1
    · rw [List.length_tail]; omega
  refine ai_seq (ai_reg ?_)
  iterate 3 refine st rfl ?_
  refine ai_cond rfl (fun _ => ?_) (fun _ => ?_)
  · -- Late
    refine ai_seq (ai_drw (by kernel_rfl) ?_)
    iterate 2 refine dr rfl ?_
    refine dr (o_ld rfl (rd_f hO rfl)) ?_
    refine dr rfl ?_
    refine dr (o_ld rfl (rd_f hO rfl)) ?_
    iterate 2 refine dr rfl ?_
    refine dr (o_ld rfl (rd_f hO rfl)) ?_
    refine dr rfl ?_
    refine dr (o_ld rfl (rd_f hO rfl)) ?_
    refine drCR rfl ((late_ok h3 qa (now := p.2.2.2.1) (age := p.2.2.2.2) (by omega)).mono ?_)
    rintro v h4 ⟨d, hd, hd1, hd2, how4, qa4, m4⟩
    have hO4 : h4.get O = some ⟨o5 p, true, 0⟩ := (m4.2 O hnx (by omega) (by omega)).trans hO
    refine ⟨⟨ag_ld rfl rfl (rd_f hO4 rfl), ag_ld rfl rfl (rd_f hO4 rfl), trivial⟩, ?_⟩
    have rq4 := rq.mod m4 (by omega) (by omega) (by omega) (by omega)
    refine drCR rfl ((rlate_ok h4 rq4 (by omega) hd (hs.late hT hd1 hd2)).mono ?_)
    rintro w h5 ⟨j2', rq5, m5, hj2', hrd5⟩
    refine ⟨trivial, ?_⟩
    have hn4 := m4.1
    have how5 := how4.mod hml3 (by omega) m5
    have e : ((l.take d).map fun p => nI p.1) = ((l.take d).map fun p => p.1).map nI := by rw [List.map_map]; rfl
    rw [e] at how5 hrd5
    refine drCR rfl ((ints_ok h5 how5.rdd hrd5 (by simp; omega)).mono ?_)
    rintro _ _ ⟨rfl, rfl⟩
    refine ⟨trivial, ?_⟩
    refine dr rfl ?_
    refine ai_cond (b := false) rfl (fun hb => by cases hb) fun _ => ai_skip ?_
    have qa5 := qa4.mod m5 (by omega) (by omega) (by omega) (by omega)
    exact ⟨rfl, (), le_cons rfl (le_cons rfl (le_cons rfl (le_cons rfl le_nil))), ⟨⟨j, j2', _, depth, last, lastm, p0, qa5, rq5, hp, hs.drop d, by rw [List.length_drop]; omega, by omega, by omega, by omega, by omega, by omega⟩, (hx.mod m4 (Nat.le_refl _) hj0).mod m5 (by omega) hj20⟩⟩
  · -- Depth
    refine ai_seq (ai_drw (by kernel_rfl) ?_)
    iterate 2 refine dr rfl ?_
    refine dr (o_ld rfl (rd_f hO rfl)) ?_
    iterate 2 refine dr rfl ?_
    refine dr (o_ld rfl (rd_f hO rfl)) ?_
    refine drCR rfl ((depth_any qa p.2.2.1).mono ?_)
    rintro v h4 ⟨rfl, qa4, m4⟩
    have hO4 : h4.get O = some ⟨o5 p, true, 0⟩ := (m4.2 O hnx (by omega) (by omega)).trans hO
    refine ⟨⟨ag_ld rfl rfl (rd_f hO4 rfl), trivial⟩, ?_⟩
    have rq4 := rq.mod m4 (by omega) (by omega) (by omega) (by omega)
    refine drCR rfl ((rdepth_any rq4 p.2.2.1).mono ?_)
    rintro v h5 ⟨rfl, rq5, m5⟩
    refine ⟨trivial, ?_⟩
    refine dr (v := .bool false) (o_v rfl (congrArg Value.bool (by simp))) ?_
    refine ai_cond (b := false) rfl (fun hb => by cases hb) fun _ => ai_skip ?_
    have hn4 := m4.1
    have qa5 := qa4.mod m5 (by omega) (by omega) (by omega) (by omega)
    exact ⟨rfl, (), le_cons rfl (le_cons rfl (le_cons rfl (le_cons rfl le_nil))), ⟨⟨j, j2, l, _, last, lastm, p0, qa5, rq5, hp, hs, by omega, by omega, by omega, by omega, by omega, by omega⟩, (hx.mod m4 (Nat.le_refl _) hj0).mod m5 (by omega) hj20⟩⟩
end Go.Proofs.YtcdfoicebcmlaaaW.Am
