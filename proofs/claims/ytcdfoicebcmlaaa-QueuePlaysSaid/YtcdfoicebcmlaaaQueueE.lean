/- A queue over abstract heaps: Late. -/
import Derived.Test.YtcdfoicebcmlaaaQueueD
namespace Go.Proofs.YtcdfoicebcmlaaaW.Am
open Go Go.RowKit
/-- Does one that came at t wait too long? -/
def lateB (now age t : Int) : Bool := !(decide (now < t) || decide (IntKind.u64.wrap (IntKind.u64.wrap now - IntKind.u64.wrap t) < IntKind.u64.wrap (if 0 > age then 0 else age)))
theorem Ow.put {N : Nat} {h : Hp} {s : Value} {us : List Value} (a : Ow N h s us) {q : Nat} (hq : q < N) (o : Ob) : Ow N (h.put q o) s us := by
  rcases a with a | ⟨i, h1, h2, h3, h4, h5⟩
  · exact .inl a
  · exact .inr ⟨i, h1, h2, h3, (hput_ne _ _ (by omega)).trans h4, h5⟩
theorem QS.tail {h : Hp} {q j : Nat} {s : Value} {u : Value} {us : List Value} (a : QS h q j s (u :: us)) : ∃ o, s = .slice (some ⟨j, o, some 0⟩) (us.length + 1) (us.length + 1) ∧ QS h q j (.slice (some ⟨j, o + 1, some (if us.length = 0 then 1 else 0)⟩) us.length us.length) us ∧ ∀ h' : Hp, h'.get j = h.get j → h'.rd j (o + 0 * 1) 1 = some [u] := by
  obtain ⟨_, hs⟩ | ⟨xs, sp, rfl, hgj, hsp, hal, hjq⟩ := a
  · cases hs
  obtain rfl := hsp (by simp)
  refine ⟨xs.length, rfl, .inr ⟨xs ++ [u], if us.length = 0 then 1 else 0, by simp, by rw [hgj]; simp, fun hne => by rw [if_neg fun h => hne (List.eq_nil_of_length_eq_zero h)], by simpa using hal, hjq⟩, fun h' e => rd_app (e.trans hgj) (x := 0) rfl⟩
set_option maxHeartbeats 1000000 in
theorem late_ok (h : Hp) {q j : Nat} {depth last now age : Int} {l : List (Int × Int)} (a : QA h q j depth last l) (hb : l.length ≤ 1000) : ACall PQ 24 [ptr q, nI now, nI age] h
    (fun v h' => ∃ d, d ≤ l.length ∧ (∀ p ∈ l.take d, lateB now age p.2 = true) ∧ (∀ p, l[d]? = some p → lateB now age p.2 = false) ∧ Ow h.nx h' v ((l.take d).map fun p => nI p.1) ∧ QA h' q j depth last (l.drop d) ∧ Mod q j h h') := by
  obtain ⟨hq, hj, s, hg, hs⟩ := a
  refine acall Go.Proofs.Try.func24 c24 (by simp [ir24]) ?_
  unfold ir24
  dsimp only
  refine ai_seq (ai_reg ?_)
  refine st rfl ?_
  refine ai_seq (ai_seq (ai_reg ?_))
  iterate 2 refine st rfl ?_
  refine ai_cond (b := false) rfl (fun hb => by cases hb) (fun _ => ai_skip ?_)
  refine ai_seq (ai_reg ?_)
  refine st rfl ?_
  refine ai_join (γ := Value) (fun v => [(7, v)]) (fun v h' => ∃ d, d ≤ l.length ∧ (∀ p ∈ l.take d, lateB now age p.2 = true) ∧ (∀ p, l[d]? = some p → lateB now age p.2 = false) ∧ Ow h.nx h' v ((l.take d).map fun p => nI p.1) ∧ QA h' q j depth last (l.drop d) ∧ Mod q j h h') ?_ ?_
  case refine_2 =>
    rintro v h1 hR
    refine ai_seq (ai_reg ?_)
    iterate 2 refine st rfl ?_
    refine ai_ret ?_
    exact end_one rfl hR
  refine ai_block (ai_loopE (γ := Nat × Value) (fun g => [(0, ptr q), (1, nI now), (2, nI age), (7, g.2)])
    (fun g h' => (∃ s, Ext (h.put q ⟨[s, nI depth, nI last], true, 0⟩) h' ∧ QS h q j s ((l.drop g.1).map qE)) ∧ Ow h.nx h' g.2 ((l.take g.1).map fun p => nI p.1) ∧ g.1 ≤ l.length ∧ (∀ p ∈ l.take g.1, lateB now age p.2 = true)) (fun g => l.length - g.1) (0, .slice none 0 0)
    (le_cons rfl (le_cons rfl (le_cons rfl (le_cons rfl le_nil)))) ⟨⟨s, ⟨Nat.le_refl _, fun k hk => ?_⟩, hs⟩, Ow.nil _ _, Nat.zero_le _, by simp⟩ ?_)
  · by_cases e : k = q
    · subst e; rw [hput_same, hg]
    · rw [hput_ne _ _ e]
  rintro ⟨d, v⟩ h1 ⟨⟨s, hx, hs⟩, how, hd, hall⟩
  dsimp only at hs how hd hall ⊢
  have hg1 : h1.get q = some ⟨[s, nI depth, nI last], true, 0⟩ := (hx.2 q hq).trans (hput_same _ _ _)
  have hrd := hs.rd
  have hlen : (List.map qE (List.drop d l)).length = l.length - d := by simp
  have hQA : ∀ h2 : Hp, Ext h1 h2 → QA h2 q j depth last (l.drop d) := by
    intro h2 hx2
    have h0 := hx.1
    rw [hput_nx] at h0
    have := hx2.1
    refine ⟨by omega, by omega, s, (hx2.2 q (by omega)).trans hg1, ?_⟩
    rcases hs with hs | ⟨xs, sp, e1, e2, e3, e4, e5⟩
    · exact .inl hs
    · exact .inr ⟨xs, sp, e1, (hx2.2 j (by omega)).trans ((hx.2 j hj).trans ((hput_ne _ _ e5).trans e2)), e3, e4, e5⟩
  have hMod : ∀ h2 : Hp, Ext h1 h2 → Mod q j h h2 := by
    intro h2 hx2
    have h0 := hx.1
    rw [hput_nx] at h0
    have := hx2.1
    refine ⟨by omega, fun k k1 k2 _ => (hx2.2 k (by omega)).trans ((hx.2 k k1).trans (hput_ne _ _ k2))⟩
  refine ai_seq (ai_seq (ai_reg ?_))
  iterate 3 refine st rfl ?_
  refine st_ld rfl (rd_f hg1 rfl) ?_
  refine st (v := nI (l.length - d : Nat)) (h' := h1) (by obtain ⟨x, c, rfl⟩ := hrd.len; rw [← hlen]; rfl) ?_
  by_cases hlt : d < l.length
  case neg =>
    refine st_v (v2 := .bool false) rfl (congrArg Value.bool (by simp; omega)) ?_
    refine ai_cond (b := false) rfl (fun hb => by cases hb) fun _ => ?_
    refine ai_exit ?_
    exact ⟨rfl, v, le_cons rfl le_nil, d, hd, hall, fun p hp => (by rw [List.getElem?_eq_none (by omega)] at hp; cases hp), how, hQA _ (Ext.refl _), hMod _ (Ext.refl _)⟩
  refine st_v (v2 := .bool true) rfl (congrArg Value.bool (by simp; omega)) ?_
  refine ai_cond (b := true) rfl (fun _ => ?_) fun hb => by cases hb
  refine ai_skip ?_
  have hdr : l.drop d = l[d] :: l.drop (d + 1) := List.drop_eq_getElem_cons hlt
  have hld : l[d]? = some l[d] := by simp [hlt]
  have htk : l.take (d + 1) = l.take d ++ [l[d]] := List.take_succ_eq_append_getElem hlt
  generalize l[d] = p at hdr hld htk
  rw [hdr, List.map_cons] at hs
  obtain ⟨o, rfl, hs', hrd'⟩ := hs.tail
  have hjq : j ≠ q := by
    rcases hs with ⟨e, _⟩ | ⟨_, _, _, _, _, _, e⟩
    · cases e
    · exact e
  refine ai_block ?_
  refine ai_seq (ai_reg ?_)
  iterate 3 refine st rfl ?_
  refine st_ld rfl (rd_f hg1 rfl) ?_
  refine st_iad rfl (by omega) ?_
  refine st_ld rfl (hrd' h1 ((hx.2 j hj).trans (hput_ne _ _ hjq))) ?_
  refine st (v := .agg #[nI p.1, nI p.2]) rfl ?_
  refine st (v := ptr h1.nx) (h' := h1.new ⟨[nI 0, nI 0], true, 0⟩) rfl ?_
  have hgx : (h1.new ⟨[nI 0, nI 0], true, 0⟩).get h1.nx = some ⟨[nI 0, nI 0], true, 0⟩ := by simp [Hp.new]
  refine st_st (h' := (h1.new ⟨[nI 0, nI 0], true, 0⟩).put h1.nx ⟨[nI p.1, nI p.2], true, 0⟩) rfl rfl ?_ ?_
  · unfold Hp.wr
    rw [hgx]
    rfl
  have hx2 : Ext h1 ((h1.new ⟨[nI 0, nI 0], true, 0⟩).put h1.nx ⟨[nI p.1, nI p.2], true, 0⟩) :=
    ⟨by simp [Hp.new, Hp.put], fun k hk => by rw [hput_ne _ _ (by omega)]; simp [Hp.new, show k ≠ h1.nx by omega]⟩
  have hy : ((h1.new ⟨[nI 0, nI 0], true, 0⟩).put h1.nx ⟨[nI p.1, nI p.2], true, 0⟩).get h1.nx = some ⟨[nI p.1, nI p.2], true, 0⟩ := hput_same _ _ _
  generalize (h1.new ⟨[nI 0, nI 0], true, 0⟩).put h1.nx ⟨[nI p.1, nI p.2], true, 0⟩ = h2 at hx2 hy
  have fin : lateB now age p.2 = false → ∃ d, d ≤ l.length ∧ (∀ p ∈ l.take d, lateB now age p.2 = true) ∧ (∀ p, l[d]? = some p → lateB now age p.2 = false) ∧ Ow h.nx h2 v ((l.take d).map fun p => nI p.1) ∧ QA h2 q j depth last (l.drop d) ∧ Mod q j h h2 :=
    fun hl => ⟨d, hd, hall, fun p' hp' => (by rw [hld] at hp'; cases hp'; exact hl), how.move hx2, hQA _ hx2, hMod _ hx2⟩
  refine ai_seq (ai_seq (ai_reg ?_))
  iterate 2 refine st rfl ?_
  refine st_ld rfl (rd_f (x := 1) hy rfl) ?_
  by_cases hc : now < p.2
  · refine st_v (v2 := .bool true) rfl (congrArg Value.bool (by simp; omega)) ?_
    refine st rfl ?_
    iterate 10 refine stF rfl rfl ?_
    refine st rfl ?_
    refine ai_cond (b := true) rfl (fun _ => ?_) fun hb => by cases hb
    refine ai_exit ?_
    exact ⟨rfl, v, le_cons rfl le_nil, fin (by simp [lateB, hc])⟩
  refine st_v (v2 := .bool false) rfl (congrArg Value.bool (by simp; omega)) ?_
  refine st rfl ?_
  iterate 3 refine stT rfl rfl rfl ?_
  refine stT rfl rfl (o_ld rfl (rd_f (x := 1) hy rfl)) ?_
  iterate 6 refine stT rfl rfl rfl ?_
  refine st rfl ?_
  by_cases hc2 : IntKind.u64.wrap (IntKind.u64.wrap now - IntKind.u64.wrap p.2) < IntKind.u64.wrap (if 0 > age then 0 else age)
  · refine ai_cond (b := true) (congrArg some (congrArg Value.bool (decide_eq_true hc2))) (fun _ => ?_) fun hb => by cases hb
    refine ai_exit ?_
    exact ⟨rfl, v, le_cons rfl le_nil, fin (by simp only [lateB, decide_eq_true hc2, Bool.or_true]; rfl)⟩
  refine ai_cond (b := false) (congrArg some (congrArg Value.bool (decide_eq_false hc2))) (fun hb => by cases hb) fun _ => ?_
  refine ai_skip ?_
  have hl : lateB now age p.2 = true := by simp only [lateB, decide_eq_false hc, decide_eq_false hc2]; rfl
  clear fin
  refine ai_seq (ai_reg ?_)
  iterate 2 refine st rfl ?_
  refine st_ld rfl (rd_f (x := 0) hy rfl) ?_
  refine st (v := .slice (some ⟨h2.nx, 0, none⟩) 1 1) (h' := h2.new ⟨[nI p.1], true, 1⟩) rfl ?_
  have hlen2 : ((l.take d).map fun p => nI p.1).length ≤ 1000 := by simp; omega
  obtain ⟨v', h3, hst, how3, hx3⟩ := (how.move hx2).push (e := 3) (e2 := 1) (bytes := 8) (h0 := h.put q ⟨[.slice (some ⟨j, o, some 0⟩) ((List.map qE (List.drop (d + 1) l)).length + 1) ((List.map qE (List.drop (d + 1) l)).length + 1), nI depth, nI last], true, 0⟩) rfl (hx.trans hx2) (u := nI p.1) rfl (by omega) (by omega)
  refine st (v := v') (h' := h3) hst ?_
  refine st rfl ?_
  have hg3 := (hx3.2 q hq).trans (hput_same _ _ _)
  refine ai_reg ?_
  iterate 4 refine st rfl ?_
  refine st_ld rfl (rd_f hg3 rfl) ?_
  refine st slc_one ?_
  iterate 2 refine st rfl ?_
  refine st_st rfl rfl (wr_f hg3 (by simp) rfl) ?_
  refine ⟨(d + 1, v'), le_cons rfl (le_cons rfl (le_cons rfl (le_cons rfl le_nil))), ⟨⟨.slice (some ⟨j, o + 1, some (if (List.map qE (List.drop (d + 1) l)).length = 0 then 1 else 0)⟩) (List.map qE (List.drop (d + 1) l)).length (List.map qE (List.drop (d + 1) l)).length, ⟨hx3.1, fun k hk => ?_⟩, hs'⟩, ?_, by dsimp only; omega, ?_⟩, by dsimp only; omega⟩
  · by_cases e : k = q
    · subst e; rw [hput_same, hput_same]; rfl
    · rw [hput_ne _ _ e, hput_ne _ _ e, hx3.2 k hk, hput_ne _ _ e]
  · dsimp only
    rw [htk, List.map_append]
    exact how3.put hq _
  · dsimp only
    rw [htk]
    intro p' hp'
    rw [List.mem_append] at hp'
    rcases hp' with hp' | hp'
    · exact hall p' hp'
    · rw [List.mem_singleton] at hp'; subst hp'; exact hl
end Go.Proofs.YtcdfoicebcmlaaaW.Am
