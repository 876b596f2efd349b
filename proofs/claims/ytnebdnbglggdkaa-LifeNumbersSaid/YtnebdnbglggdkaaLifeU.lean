/- Pods over abstract heaps: the law LifeNumbers. -/
import Derived.Test.YtnebdnbglggdkaaLifeT
import Derived.Test.YtnebdnbglggdkaaAmLw
namespace Go.Proofs.YtnebdnbglggdkaaW.Am
open Go Go.RowKit
theorem A4.lenn {N n : Nat} {h : Hp} {s : Value} {l : List Pd} (a : A4 N h s l) (hl : l.length = n) : ∃ x, s = .slice x n n := by
  subst hl
  rcases a with ⟨rfl, rfl⟩ | ⟨i, _, _, rfl, _⟩ <;> exact ⟨_, rfl⟩
theorem A4.fld {N n : Nat} {h : Hp} {s : Value} {l : List Pd} (a : A4 N h s l) (hl : l.length = n) {i : Nat} {p : Pd} (hi : l[i]? = some p) :
    ∃ k, s = .slice (some ⟨k, 0, some 0⟩) n n ∧ N ≤ k ∧ k < h.nx ∧ h.rd k (0 + ((i : Nat) : Int).toNat * 4 + 0) 1 = some [nI p.1] ∧ h.rd k (0 + ((i : Nat) : Int).toNat * 4 + 1) 1 = some [nI p.2.1] ∧ h.rd k (0 + ((i : Nat) : Int).toNat * 4 + 2) 1 = some [nI p.2.2.1] ∧ h.rd k (0 + ((i : Nat) : Int).toNat * 4 + 3) 1 = some [nI p.2.2.2] := by
  obtain ⟨k, e, h1, h2, hr⟩ := a.atl hl hi
  rw [Int.toNat_natCast]
  exact ⟨k, e, h2, h1, (rd_at hr (x := 0) (by omega)).2, (rd_at hr (x := 1) (by omega)).2, (rd_at hr (x := 2) (by omega)).2, (rd_at hr (x := 3) (by omega)).2⟩
theorem Ext.fr {h0 h h' : Hp} {S : List Nat} (x : Ext h0 h) (hs : ∀ k ∈ S, h0.nx ≤ k) (f : Fr S h h') : Ext h0 h' :=
  ⟨Nat.le_trans x.1 f.1, fun k hk => (f.2 k (Nat.lt_of_lt_of_le hk x.1) fun hm => by have := hs k hm; omega).trans (x.2 k hk)⟩
theorem Gr.ge {h0 h : Hp} {S S' : List Nat} (g : Gr h S S') (hs : ∀ k ∈ S, h0.nx ≤ k) (x : Ext h0 h) : ∀ k ∈ S', h0.nx ≤ k := fun k hk => by
  rcases g k hk with h | h
  · exact hs k h
  · exact Nat.le_trans x.1 h
theorem Rd.get {h0 h : Hp} {x : Option Addr} {n c : Nat} {us : List Int} (r : Rd h0 (.slice x n c) (us.map nI)) (hlt : ∀ i o sp n' c', (Value.slice x n c) = .slice (some ⟨i, o, sp⟩) n' c' → i < h0.nx) (e : Ext h0 h) {k : Nat} (hk : k < us.length) :
    ∃ i o sp, x = some ⟨i, o, sp⟩ ∧ h.rd i (o + ((k : Nat) : Int).toNat * 1) 1 = some [nI us[k]] := by
  rcases r with ⟨_, e2⟩ | ⟨i, o, sp, c', e2, hr⟩
  · rw [List.map_eq_nil_iff] at e2; subst e2; cases hk
  · cases e2
    refine ⟨i, o, sp, rfl, ?_⟩
    rw [e.rd (hlt _ _ _ _ _ rfl), Int.toNat_natCast]
    exact hr k _ (by rw [List.getElem?_map, List.getElem?_eq_getElem hk]; rfl)
theorem dnF_sub {now : Int} {l : List Pd} (h : ∀ p ∈ l, p.2.2.1 = 0) : ∀ p ∈ dnF now l, p ∈ l := by
  intro p hp
  unfold dnF at hp
  have h0 : (l.getD (nxF l l.length).toNat p0).2.2.1 = 0 := by
    rw [List.getD_eq_getElem?_getD]
    cases e : l[(nxF l l.length).toNat]? with
    | none => rfl
    | some q => exact h q (List.mem_of_getElem? e)
  rw [if_pos h0] at hp
  rcases List.mem_append.1 hp with hp | hp
  · exact List.mem_of_mem_take hp
  · exact List.mem_of_mem_drop hp
theorem dnN_sub {now : Int} {l : List Pd} (h : ∀ p ∈ l, p.2.2.1 = 0) : ∀ k, ∀ p ∈ dnN now l k, p ∈ l
  | 0, _, hp => hp
  | k + 1, p, hp => dnN_sub h k p (dnF_sub (fun q hq => h q (dnN_sub h k q hq)) p hp)
theorem newF_mem {made now : Int} {k : Nat} {p : Pd} (h : p ∈ newF made now k) : ∃ i : Nat, i < k ∧ p = (made + i, 1, 0, now) := by
  simp only [newF, List.mem_map, List.mem_range] at h
  obtain ⟨i, hi, rfl⟩ := h
  exact ⟨i, hi, rfl⟩
theorem scL_c {made now : Int} {w : Nat} {l : List Pd} : cF (scL made now w l) = w := by
  unfold scL
  split
  · rw [cF_app]; omega
  · have := dnN_c now l (cF l - w) (by omega); omega
/-- Pods of which none was ever ready. -/
def nuI (l : List Pd) (made : Int) : Prop := ∀ p ∈ l, (0 ≤ p.1 ∧ p.1 < made) ∧ p.2.1 = 1 ∧ p.2.2.1 = 0
theorem nuI_len {l : List Pd} {made : Int} (h : nuI l made) : cF l = l.length := cF_all fun p hp => by have := (h p hp).2.1; omega
theorem nuI_sc {l : List Pd} {made now : Int} (w : Nat) (h : nuI l made) (h0 : 0 ≤ made) : nuI (scL made now w l) (scM made w l) := by
  intro p hp
  unfold scL at hp
  unfold scM
  split at hp
  · rcases List.mem_append.1 hp with hp | hp
    · have := h p hp; omega
    · obtain ⟨i, hi, rfl⟩ := newF_mem hp
      dsimp only; omega
  · have := h p (dnN_sub (fun q hq => (h q hq).2.2) _ p hp); omega
set_option maxHeartbeats 4000000 in
set_option maxRecDepth 10000 in
theorem numbers_ok (us : List Int) (s0 : Value) (h0 : Hp) (r : Rd h0 s0 (us.map nI)) (hi0 : ∀ i o sp n c, s0 = .slice (some ⟨i, o, sp⟩) n c → i < h0.nx) :
    ACall PP 8 [s0] h0 (fun v _ => v = .bool true) := by
  obtain ⟨x0, c0, e⟩ := r.len
  subst e
  rw [List.length_map] at *
  refine acall Go.Proofs.Try.func8 c8 (by simp [ir8]) ?_
  unfold ir8
  dsimp only
  repeat (first | refine sS ?_ | refine dS ?_ | refine w_mv rfl ?_ | refine w_gT rfl rfl ?_ | refine w_gF rfl rfl ?_ | refine w_gU rfl ?_ | refine w_add rfl (by omega) ?_ | refine w_sub rfl (by omega) ?_ | refine w_ci rfl (by omega) ?_ | refine w_cu rfl (by omega) ?_ | refine w_cmp rfl (c2 := true) (by first | (simp; done) | (simp; omega)) ?_ | refine w_cmp rfl (c2 := false) (by first | (simp; done) | (simp; omega)) ?_ | refine w_ld rfl (by first | exact rd_g ‹_› rfl | assumption) ?_ | refine w_ldn rfl (by first | exact rd_all ‹_› rfl | assumption) ?_ | refine w_iad rfl (by first | omega | (simp; done) | (simp; omega)) ?_ | refine w_mul rfl (by omega) ?_ | refine w_rem rfl (by omega) (by omega) ?_ | refine w_quo rfl (by omega) (by omega) ?_ | refine w_addu rfl (by omega) ?_ | refine w_quou rfl (by omega) (by omega) ?_ | refine w_max rfl ?_ | refine w_min rfl ?_ | refine w_opk rfl rfl ?_ | refine w_cuw rfl ?_ | refine ai_seq ?_ | refine ai_reg ?_ | refine ai_cond (b := true) rfl (fun _ => ?_) (fun hb => by cases hb) | refine ai_cond (b := false) rfl (fun hb => by cases hb) (fun _ => ?_) | refine ai_skip ?_ | refine ai_block ?_ | refine ai_exit ?_ | (refine ai_ret ?_; repeat (first | rw [thenQ_r] | rw [blockQ_r] | rw [roundE_r])))
  refine w_call rfl ((new_lf _).mono ?_)
  rintro v h1 ⟨rfl, a1, x1⟩
  repeat (first | refine sS ?_ | refine dS ?_ | refine w_mv rfl ?_ | refine w_gT rfl rfl ?_ | refine w_gF rfl rfl ?_ | refine w_gU rfl ?_ | refine w_add rfl (by omega) ?_ | refine w_sub rfl (by omega) ?_ | refine w_ci rfl (by omega) ?_ | refine w_cu rfl (by omega) ?_ | refine w_cmp rfl (c2 := true) (by first | (simp; done) | (simp; omega)) ?_ | refine w_cmp rfl (c2 := false) (by first | (simp; done) | (simp; omega)) ?_ | refine w_ld rfl (by first | exact rd_g ‹_› rfl | assumption) ?_ | refine w_ldn rfl (by first | exact rd_all ‹_› rfl | assumption) ?_ | refine w_iad rfl (by first | omega | (simp; done) | (simp; omega)) ?_ | refine w_mul rfl (by omega) ?_ | refine w_rem rfl (by omega) (by omega) ?_ | refine w_quo rfl (by omega) (by omega) ?_ | refine w_addu rfl (by omega) ?_ | refine w_quou rfl (by omega) (by omega) ?_ | refine w_max rfl ?_ | refine w_min rfl ?_ | refine w_opk rfl rfl ?_ | refine w_cuw rfl ?_ | refine ai_seq ?_ | refine ai_reg ?_ | refine ai_cond (b := true) rfl (fun _ => ?_) (fun hb => by cases hb) | refine ai_cond (b := false) rfl (fun hb => by cases hb) (fun _ => ?_) | refine ai_skip ?_ | refine ai_block ?_ | refine ai_exit ?_ | (refine ai_ret ?_; repeat (first | rw [thenQ_r] | rw [blockQ_r] | rw [roundE_r])))
  refine ai_loopE (γ := Nat × Int × Int) (fun g => [(0, .slice x0 us.length c0), (3, ptr h0.nx), (4, nI g.2.1), (5, nI g.2.2), (6, nI g.1)])
    (fun g h => (∃ S l, LF h S h0.nx l g.2.2 ∧ nuI l g.2.2 ∧ (∀ k ∈ S, h0.nx ≤ k) ∧ l.length ≤ 12) ∧ Ext h0 h ∧ g.1 ≤ us.length ∧ g.1 ≤ 30 ∧ -1 ≤ g.2.1 ∧ g.2.1 < g.2.2 ∧ 0 ≤ g.2.2 ∧ g.2.2 ≤ 13 * g.1) (fun g => 30 - g.1) (0, -1, 0)
    (by repeat (first | exact le_nil | refine le_cons rfl ?_)) ⟨⟨_, [], a1, (by intro p hp; cases hp), (by simp), (by simp)⟩, x1, Nat.zero_le _, Nat.zero_le _, by dsimp only; omega, by dsimp only; omega, by dsimp only; omega, by dsimp only; omega⟩ ?_
  rintro ⟨i, top, made⟩ h2 ⟨⟨S2, l, a2, hl, hs2, hlen⟩, x2, hi, hi30, ht1, ht2, hm0, hm⟩
  dsimp only at a2 hl hi hi30 ht1 ht2 hm0 hm ⊢
  have hcl := nuI_len hl
  by_cases hlt : i < us.length
  case neg =>
    repeat (first | refine sS ?_ | refine dS ?_ | refine w_mv rfl ?_ | refine w_gT rfl rfl ?_ | refine w_gF rfl rfl ?_ | refine w_gU rfl ?_ | refine w_add rfl (by omega) ?_ | refine w_sub rfl (by omega) ?_ | refine w_ci rfl (by omega) ?_ | refine w_cu rfl (by omega) ?_ | refine w_cmp rfl (c2 := true) (by first | (simp; done) | (simp; omega)) ?_ | refine w_cmp rfl (c2 := false) (by first | (simp; done) | (simp; omega)) ?_ | refine w_ld rfl (by first | exact rd_g ‹_› rfl | assumption) ?_ | refine w_ldn rfl (by first | exact rd_all ‹_› rfl | assumption) ?_ | refine w_iad rfl (by first | omega | (simp; done) | (simp; omega)) ?_ | refine w_mul rfl (by omega) ?_ | refine w_rem rfl (by omega) (by omega) ?_ | refine w_quo rfl (by omega) (by omega) ?_ | refine w_addu rfl (by omega) ?_ | refine w_quou rfl (by omega) (by omega) ?_ | refine w_max rfl ?_ | refine w_min rfl ?_ | refine w_opk rfl rfl ?_ | refine w_cuw rfl ?_ | refine ai_seq ?_ | refine ai_reg ?_ | refine ai_cond (b := true) rfl (fun _ => ?_) (fun hb => by cases hb) | refine ai_cond (b := false) rfl (fun hb => by cases hb) (fun _ => ?_) | refine ai_skip ?_ | refine ai_block ?_ | refine ai_exit ?_ | (refine ai_ret ?_; repeat (first | rw [thenQ_r] | rw [blockQ_r] | rw [roundE_r])))
    refine w_call rfl ((told_ok _).mono ?_)
    rintro v _ ⟨rfl, rfl⟩
    repeat (first | refine sS ?_ | refine dS ?_ | refine w_mv rfl ?_ | refine w_gT rfl rfl ?_ | refine w_gF rfl rfl ?_ | refine w_gU rfl ?_ | refine w_add rfl (by omega) ?_ | refine w_sub rfl (by omega) ?_ | refine w_ci rfl (by omega) ?_ | refine w_cu rfl (by omega) ?_ | refine w_cmp rfl (c2 := true) (by first | (simp; done) | (simp; omega)) ?_ | refine w_cmp rfl (c2 := false) (by first | (simp; done) | (simp; omega)) ?_ | refine w_ld rfl (by first | exact rd_g ‹_› rfl | assumption) ?_ | refine w_ldn rfl (by first | exact rd_all ‹_› rfl | assumption) ?_ | refine w_iad rfl (by first | omega | (simp; done) | (simp; omega)) ?_ | refine w_mul rfl (by omega) ?_ | refine w_rem rfl (by omega) (by omega) ?_ | refine w_quo rfl (by omega) (by omega) ?_ | refine w_addu rfl (by omega) ?_ | refine w_quou rfl (by omega) (by omega) ?_ | refine w_max rfl ?_ | refine w_min rfl ?_ | refine w_opk rfl rfl ?_ | refine w_cuw rfl ?_ | refine ai_seq ?_ | refine ai_reg ?_ | refine ai_cond (b := true) rfl (fun _ => ?_) (fun hb => by cases hb) | refine ai_cond (b := false) rfl (fun hb => by cases hb) (fun _ => ?_) | refine ai_skip ?_ | refine ai_block ?_ | refine ai_exit ?_ | (refine ai_ret ?_; repeat (first | rw [thenQ_r] | rw [blockQ_r] | rw [roundE_r])))
    exact end_one rfl rfl
  by_cases h30 : i < 30
  case neg =>
    repeat (first | refine sS ?_ | refine dS ?_ | refine w_mv rfl ?_ | refine w_gT rfl rfl ?_ | refine w_gF rfl rfl ?_ | refine w_gU rfl ?_ | refine w_add rfl (by omega) ?_ | refine w_sub rfl (by omega) ?_ | refine w_ci rfl (by omega) ?_ | refine w_cu rfl (by omega) ?_ | refine w_cmp rfl (c2 := true) (by first | (simp; done) | (simp; omega)) ?_ | refine w_cmp rfl (c2 := false) (by first | (simp; done) | (simp; omega)) ?_ | refine w_ld rfl (by first | exact rd_g ‹_› rfl | assumption) ?_ | refine w_ldn rfl (by first | exact rd_all ‹_› rfl | assumption) ?_ | refine w_iad rfl (by first | omega | (simp; done) | (simp; omega)) ?_ | refine w_mul rfl (by omega) ?_ | refine w_rem rfl (by omega) (by omega) ?_ | refine w_quo rfl (by omega) (by omega) ?_ | refine w_addu rfl (by omega) ?_ | refine w_quou rfl (by omega) (by omega) ?_ | refine w_max rfl ?_ | refine w_min rfl ?_ | refine w_opk rfl rfl ?_ | refine w_cuw rfl ?_ | refine ai_seq ?_ | refine ai_reg ?_ | refine ai_cond (b := true) rfl (fun _ => ?_) (fun hb => by cases hb) | refine ai_cond (b := false) rfl (fun hb => by cases hb) (fun _ => ?_) | refine ai_skip ?_ | refine ai_block ?_ | refine ai_exit ?_ | (refine ai_ret ?_; repeat (first | rw [thenQ_r] | rw [blockQ_r] | rw [roundE_r])))
    refine w_call rfl ((told_ok _).mono ?_)
    rintro v _ ⟨rfl, rfl⟩
    repeat (first | refine sS ?_ | refine dS ?_ | refine w_mv rfl ?_ | refine w_gT rfl rfl ?_ | refine w_gF rfl rfl ?_ | refine w_gU rfl ?_ | refine w_add rfl (by omega) ?_ | refine w_sub rfl (by omega) ?_ | refine w_ci rfl (by omega) ?_ | refine w_cu rfl (by omega) ?_ | refine w_cmp rfl (c2 := true) (by first | (simp; done) | (simp; omega)) ?_ | refine w_cmp rfl (c2 := false) (by first | (simp; done) | (simp; omega)) ?_ | refine w_ld rfl (by first | exact rd_g ‹_› rfl | assumption) ?_ | refine w_ldn rfl (by first | exact rd_all ‹_› rfl | assumption) ?_ | refine w_iad rfl (by first | omega | (simp; done) | (simp; omega)) ?_ | refine w_mul rfl (by omega) ?_ | refine w_rem rfl (by omega) (by omega) ?_ | refine w_quo rfl (by omega) (by omega) ?_ | refine w_addu rfl (by omega) ?_ | refine w_quou rfl (by omega) (by omega) ?_ | refine w_max rfl ?_ | refine w_min rfl ?_ | refine w_opk rfl rfl ?_ | refine w_cuw rfl ?_ | refine ai_seq ?_ | refine ai_reg ?_ | refine ai_cond (b := true) rfl (fun _ => ?_) (fun hb => by cases hb) | refine ai_cond (b := false) rfl (fun hb => by cases hb) (fun _ => ?_) | refine ai_skip ?_ | refine ai_block ?_ | refine ai_exit ?_ | (refine ai_ret ?_; repeat (first | rw [thenQ_r] | rw [blockQ_r] | rw [roundE_r])))
    exact end_one rfl rfl
  repeat (first | refine sS ?_ | refine dS ?_ | refine w_mv rfl ?_ | refine w_gT rfl rfl ?_ | refine w_gF rfl rfl ?_ | refine w_gU rfl ?_ | refine w_add rfl (by omega) ?_ | refine w_sub rfl (by omega) ?_ | refine w_ci rfl (by omega) ?_ | refine w_cu rfl (by omega) ?_ | refine w_cmp rfl (c2 := true) (by first | (simp; done) | (simp; omega)) ?_ | refine w_cmp rfl (c2 := false) (by first | (simp; done) | (simp; omega)) ?_ | refine w_ld rfl (by first | exact rd_g ‹_› rfl | assumption) ?_ | refine w_ldn rfl (by first | exact rd_all ‹_› rfl | assumption) ?_ | refine w_iad rfl (by first | omega | (simp; done) | (simp; omega)) ?_ | refine w_mul rfl (by omega) ?_ | refine w_rem rfl (by omega) (by omega) ?_ | refine w_quo rfl (by omega) (by omega) ?_ | refine w_addu rfl (by omega) ?_ | refine w_quou rfl (by omega) (by omega) ?_ | refine w_max rfl ?_ | refine w_min rfl ?_ | refine w_opk rfl rfl ?_ | refine w_cuw rfl ?_ | refine ai_seq ?_ | refine ai_reg ?_ | refine ai_cond (b := true) rfl (fun _ => ?_) (fun hb => by cases hb) | refine ai_cond (b := false) rfl (fun hb => by cases hb) (fun _ => ?_) | refine ai_skip ?_ | refine ai_block ?_ | refine ai_exit ?_ | (refine ai_ret ?_; repeat (first | rw [thenQ_r] | rw [blockQ_r] | rw [roundE_r])))
  refine w_call rfl ((count_lf _ a2 (by omega)).mono ?_)
  rintro v h3 ⟨rfl, x3⟩
  have a3 := a2.ext x3
  rw [hcl]
  have e3 := x2.trans x3
  obtain ⟨bi, bo, bs, rfl, hr3⟩ := r.get hi0 e3 hlt
  have hu := u64_rng us[i]
  repeat (first | refine sS ?_ | refine dS ?_ | refine w_mv rfl ?_ | refine w_gT rfl rfl ?_ | refine w_gF rfl rfl ?_ | refine w_gU rfl ?_ | refine w_add rfl (by omega) ?_ | refine w_sub rfl (by omega) ?_ | refine w_ci rfl (by omega) ?_ | refine w_cu rfl (by omega) ?_ | refine w_cmp rfl (c2 := true) (by first | (simp; done) | (simp; omega)) ?_ | refine w_cmp rfl (c2 := false) (by first | (simp; done) | (simp; omega)) ?_ | refine w_ld rfl (by first | exact rd_g ‹_› rfl | assumption) ?_ | refine w_ldn rfl (by first | exact rd_all ‹_› rfl | assumption) ?_ | refine w_iad rfl (by first | omega | (simp; done) | (simp; omega)) ?_ | refine w_mul rfl (by omega) ?_ | refine w_rem rfl (by omega) (by omega) ?_ | refine w_quo rfl (by omega) (by omega) ?_ | refine w_addu rfl (by omega) ?_ | refine w_quou rfl (by omega) (by omega) ?_ | refine w_max rfl ?_ | refine w_min rfl ?_ | refine w_opk rfl rfl ?_ | refine w_cuw rfl ?_ | refine ai_seq ?_ | refine ai_reg ?_ | refine ai_cond (b := true) rfl (fun _ => ?_) (fun hb => by cases hb) | refine ai_cond (b := false) rfl (fun hb => by cases hb) (fun _ => ?_) | refine ai_skip ?_ | refine ai_block ?_ | refine ai_exit ?_ | (refine ai_ret ?_; repeat (first | rw [thenQ_r] | rw [blockQ_r] | rw [roundE_r])))
  obtain ⟨n, hn⟩ : ∃ n : Nat, IntKind.u64.wrap us[i] % 13 = n := ⟨(IntKind.u64.wrap us[i] % 13).toNat, by omega⟩
  rw [hn]
  refine w_call rfl ((scale_lf _ a3 (by omega) (by omega) (by omega) (by omega)).mono ?_)
  rintro v h4 ⟨rfl, S4, a4, g4, f4⟩
  rw [Int.toNat_natCast] at a4
  have l4 := nuI_sc (now := i) n hl hm0
  have c4 : cF (scL made i n l) = n := scL_c
  have hlen4 := (nuI_len l4).symm.trans c4
  have e4 := e3.fr hs2 f4
  have hs4 := g4.ge hs2 e3
  have hget : ∀ (j : Nat) q, (scL made i n l)[j]? = some q → l.length < n → l.length ≤ j → top < q.1 := by
    intro j q hq h1 h2
    unfold scL at hq
    rw [if_pos (by omega), List.getElem?_append_right h2] at hq
    obtain ⟨m, _, rfl⟩ := newF_mem (List.mem_of_getElem? hq)
    dsimp only; omega
  have hM : scM made n l = made + max ((n : Int) - l.length) 0 := by unfold scM; rw [hcl]; omega
  rw [hM] at a4 l4
  generalize scL made i n l = l2 at a4 l4 c4 hlen4 hget
  repeat (first | refine sS ?_ | refine dS ?_ | refine w_mv rfl ?_ | refine w_gT rfl rfl ?_ | refine w_gF rfl rfl ?_ | refine w_gU rfl ?_ | refine w_add rfl (by omega) ?_ | refine w_sub rfl (by omega) ?_ | refine w_ci rfl (by omega) ?_ | refine w_cu rfl (by omega) ?_ | refine w_cmp rfl (c2 := true) (by first | (simp; done) | (simp; omega)) ?_ | refine w_cmp rfl (c2 := false) (by first | (simp; done) | (simp; omega)) ?_ | refine w_ld rfl (by first | exact rd_g ‹_› rfl | assumption) ?_ | refine w_ldn rfl (by first | exact rd_all ‹_› rfl | assumption) ?_ | refine w_iad rfl (by first | omega | (simp; done) | (simp; omega)) ?_ | refine w_mul rfl (by omega) ?_ | refine w_rem rfl (by omega) (by omega) ?_ | refine w_quo rfl (by omega) (by omega) ?_ | refine w_addu rfl (by omega) ?_ | refine w_quou rfl (by omega) (by omega) ?_ | refine w_max rfl ?_ | refine w_min rfl ?_ | refine w_opk rfl rfl ?_ | refine w_cuw rfl ?_ | refine ai_seq ?_ | refine ai_reg ?_ | refine ai_cond (b := true) rfl (fun _ => ?_) (fun hb => by cases hb) | refine ai_cond (b := false) rfl (fun hb => by cases hb) (fun _ => ?_) | refine ai_skip ?_ | refine ai_block ?_ | refine ai_exit ?_ | (refine ai_ret ?_; repeat (first | rw [thenQ_r] | rw [blockQ_r] | rw [roundE_r])))
  refine w_call rfl ((all_lf _ a4 (by omega)).mono ?_)
  rintro v h5 ⟨r5, x5⟩
  have a5 := a4.ext x5
  have e5 := e4.trans x5
  obtain ⟨y, rfl⟩ := r5.lenn hlen4
  repeat (first | refine sS ?_ | refine dS ?_ | refine w_mv rfl ?_ | refine w_gT rfl rfl ?_ | refine w_gF rfl rfl ?_ | refine w_gU rfl ?_ | refine w_add rfl (by omega) ?_ | refine w_sub rfl (by omega) ?_ | refine w_ci rfl (by omega) ?_ | refine w_cu rfl (by omega) ?_ | refine w_cmp rfl (c2 := true) (by first | (simp; done) | (simp; omega)) ?_ | refine w_cmp rfl (c2 := false) (by first | (simp; done) | (simp; omega)) ?_ | refine w_ld rfl (by first | exact rd_g ‹_› rfl | assumption) ?_ | refine w_ldn rfl (by first | exact rd_all ‹_› rfl | assumption) ?_ | refine w_iad rfl (by first | omega | (simp; done) | (simp; omega)) ?_ | refine w_mul rfl (by omega) ?_ | refine w_rem rfl (by omega) (by omega) ?_ | refine w_quo rfl (by omega) (by omega) ?_ | refine w_addu rfl (by omega) ?_ | refine w_quou rfl (by omega) (by omega) ?_ | refine w_max rfl ?_ | refine w_min rfl ?_ | refine w_opk rfl rfl ?_ | refine w_cuw rfl ?_ | refine ai_seq ?_ | refine ai_reg ?_ | refine ai_cond (b := true) rfl (fun _ => ?_) (fun hb => by cases hb) | refine ai_cond (b := false) rfl (fun hb => by cases hb) (fun _ => ?_) | refine ai_skip ?_ | refine ai_block ?_ | refine ai_exit ?_ | (refine ai_ret ?_; repeat (first | rw [thenQ_r] | rw [blockQ_r] | rw [roundE_r])))
  refine ai_loopE (γ := Nat) (fun j => [(0, .slice (some ⟨bi, bo, bs⟩) us.length c0), (3, ptr h0.nx), (4, nI top), (5, nI made), (6, nI i), (7, nI l.length), (8, nI n), (9, .slice y n n), (10, nI j)]) (fun j h => h = h5 ∧ j ≤ n) (fun j => n - j) 0
    (by repeat (first | exact le_nil | refine le_cons rfl ?_)) ⟨rfl, Nat.zero_le _⟩ ?_
  rintro j h6 ⟨rfl, hj⟩
  by_cases hjn : j < n
  · obtain ⟨q, hq⟩ : ∃ q, l2[j]? = some q := ⟨_, List.getElem?_eq_getElem (by omega)⟩
    obtain ⟨k, e, _, _, hr0, hr1, hr2, hr3⟩ := r5.fld hlen4 hq
    cases e
    have hst := (l4 q (List.mem_of_getElem? hq)).2.1
    have hcs : q.2.2.2 ≠ i ∨ (q.2.2.2 = i ∧ ¬ q.1 ≤ top) ∨ (q.2.2.2 = i ∧ q.1 ≤ top ∧ ¬ (l.length : Int) < n) ∨ (q.2.2.2 = i ∧ q.1 ≤ top ∧ (l.length : Int) < n ∧ ¬ l.length ≤ j) := by
      by_cases c1 : q.2.2.2 = i
      · by_cases c2 : q.1 ≤ top
        · by_cases c4 : (l.length : Int) < n
          · by_cases c5 : l.length ≤ j
            · have := hget j q hq (by omega) c5; omega
            · exact .inr (.inr (.inr ⟨c1, c2, c4, c5⟩))
          · exact .inr (.inr (.inl ⟨c1, c2, c4⟩))
        · exact .inr (.inl ⟨c1, c2⟩)
      · exact .inl c1
    rcases hcs with c1 | ⟨c1, c2⟩ | ⟨c1, c2, c4⟩ | ⟨c1, c2, c4, c5⟩
    · repeat (first | refine sS ?_ | refine dS ?_ | refine w_mv rfl ?_ | refine w_gT rfl rfl ?_ | refine w_gF rfl rfl ?_ | refine w_gU rfl ?_ | refine w_add rfl (by omega) ?_ | refine w_sub rfl (by omega) ?_ | refine w_ci rfl (by omega) ?_ | refine w_cu rfl (by omega) ?_ | refine w_cmp rfl (c2 := true) (by first | (simp; done) | (simp; omega)) ?_ | refine w_cmp rfl (c2 := false) (by first | (simp; done) | (simp; omega)) ?_ | refine w_ld rfl (by first | exact rd_g ‹_› rfl | assumption) ?_ | refine w_ldn rfl (by first | exact rd_all ‹_› rfl | assumption) ?_ | refine w_iad rfl (by first | omega | (simp; done) | (simp; omega)) ?_ | refine w_mul rfl (by omega) ?_ | refine w_rem rfl (by omega) (by omega) ?_ | refine w_quo rfl (by omega) (by omega) ?_ | refine w_addu rfl (by omega) ?_ | refine w_quou rfl (by omega) (by omega) ?_ | refine w_max rfl ?_ | refine w_min rfl ?_ | refine w_opk rfl rfl ?_ | refine w_cuw rfl ?_ | refine ai_seq ?_ | refine ai_reg ?_ | refine ai_cond (b := true) rfl (fun _ => ?_) (fun hb => by cases hb) | refine ai_cond (b := false) rfl (fun hb => by cases hb) (fun _ => ?_) | refine ai_skip ?_ | refine ai_block ?_ | refine ai_exit ?_ | (refine ai_ret ?_; repeat (first | rw [thenQ_r] | rw [blockQ_r] | rw [roundE_r])))
      exact ⟨j + 1, (by repeat (first | exact le_nil | refine le_cons rfl ?_)), ⟨rfl, by omega⟩, by dsimp only; omega⟩
    · repeat (first | refine sS ?_ | refine dS ?_ | refine w_mv rfl ?_ | refine w_gT rfl rfl ?_ | refine w_gF rfl rfl ?_ | refine w_gU rfl ?_ | refine w_add rfl (by omega) ?_ | refine w_sub rfl (by omega) ?_ | refine w_ci rfl (by omega) ?_ | refine w_cu rfl (by omega) ?_ | refine w_cmp rfl (c2 := true) (by first | (simp; done) | (simp; omega)) ?_ | refine w_cmp rfl (c2 := false) (by first | (simp; done) | (simp; omega)) ?_ | refine w_ld rfl (by first | exact rd_g ‹_› rfl | assumption) ?_ | refine w_ldn rfl (by first | exact rd_all ‹_› rfl | assumption) ?_ | refine w_iad rfl (by first | omega | (simp; done) | (simp; omega)) ?_ | refine w_mul rfl (by omega) ?_ | refine w_rem rfl (by omega) (by omega) ?_ | refine w_quo rfl (by omega) (by omega) ?_ | refine w_addu rfl (by omega) ?_ | refine w_quou rfl (by omega) (by omega) ?_ | refine w_max rfl ?_ | refine w_min rfl ?_ | refine w_opk rfl rfl ?_ | refine w_cuw rfl ?_ | refine ai_seq ?_ | refine ai_reg ?_ | refine ai_cond (b := true) rfl (fun _ => ?_) (fun hb => by cases hb) | refine ai_cond (b := false) rfl (fun hb => by cases hb) (fun _ => ?_) | refine ai_skip ?_ | refine ai_block ?_ | refine ai_exit ?_ | (refine ai_ret ?_; repeat (first | rw [thenQ_r] | rw [blockQ_r] | rw [roundE_r])))
      exact ⟨j + 1, (by repeat (first | exact le_nil | refine le_cons rfl ?_)), ⟨rfl, by omega⟩, by dsimp only; omega⟩
    · repeat (first | refine sS ?_ | refine dS ?_ | refine w_mv rfl ?_ | refine w_gT rfl rfl ?_ | refine w_gF rfl rfl ?_ | refine w_gU rfl ?_ | refine w_add rfl (by omega) ?_ | refine w_sub rfl (by omega) ?_ | refine w_ci rfl (by omega) ?_ | refine w_cu rfl (by omega) ?_ | refine w_cmp rfl (c2 := true) (by first | (simp; done) | (simp; omega)) ?_ | refine w_cmp rfl (c2 := false) (by first | (simp; done) | (simp; omega)) ?_ | refine w_ld rfl (by first | exact rd_g ‹_› rfl | assumption) ?_ | refine w_ldn rfl (by first | exact rd_all ‹_› rfl | assumption) ?_ | refine w_iad rfl (by first | omega | (simp; done) | (simp; omega)) ?_ | refine w_mul rfl (by omega) ?_ | refine w_rem rfl (by omega) (by omega) ?_ | refine w_quo rfl (by omega) (by omega) ?_ | refine w_addu rfl (by omega) ?_ | refine w_quou rfl (by omega) (by omega) ?_ | refine w_max rfl ?_ | refine w_min rfl ?_ | refine w_opk rfl rfl ?_ | refine w_cuw rfl ?_ | refine ai_seq ?_ | refine ai_reg ?_ | refine ai_cond (b := true) rfl (fun _ => ?_) (fun hb => by cases hb) | refine ai_cond (b := false) rfl (fun hb => by cases hb) (fun _ => ?_) | refine ai_skip ?_ | refine ai_block ?_ | refine ai_exit ?_ | (refine ai_ret ?_; repeat (first | rw [thenQ_r] | rw [blockQ_r] | rw [roundE_r])))
      exact ⟨j + 1, (by repeat (first | exact le_nil | refine le_cons rfl ?_)), ⟨rfl, by omega⟩, by dsimp only; omega⟩
    · repeat (first | refine sS ?_ | refine dS ?_ | refine w_mv rfl ?_ | refine w_gT rfl rfl ?_ | refine w_gF rfl rfl ?_ | refine w_gU rfl ?_ | refine w_add rfl (by omega) ?_ | refine w_sub rfl (by omega) ?_ | refine w_ci rfl (by omega) ?_ | refine w_cu rfl (by omega) ?_ | refine w_cmp rfl (c2 := true) (by first | (simp; done) | (simp; omega)) ?_ | refine w_cmp rfl (c2 := false) (by first | (simp; done) | (simp; omega)) ?_ | refine w_ld rfl (by first | exact rd_g ‹_› rfl | assumption) ?_ | refine w_ldn rfl (by first | exact rd_all ‹_› rfl | assumption) ?_ | refine w_iad rfl (by first | omega | (simp; done) | (simp; omega)) ?_ | refine w_mul rfl (by omega) ?_ | refine w_rem rfl (by omega) (by omega) ?_ | refine w_quo rfl (by omega) (by omega) ?_ | refine w_addu rfl (by omega) ?_ | refine w_quou rfl (by omega) (by omega) ?_ | refine w_max rfl ?_ | refine w_min rfl ?_ | refine w_opk rfl rfl ?_ | refine w_cuw rfl ?_ | refine ai_seq ?_ | refine ai_reg ?_ | refine ai_cond (b := true) rfl (fun _ => ?_) (fun hb => by cases hb) | refine ai_cond (b := false) rfl (fun hb => by cases hb) (fun _ => ?_) | refine ai_skip ?_ | refine ai_block ?_ | refine ai_exit ?_ | (refine ai_ret ?_; repeat (first | rw [thenQ_r] | rw [blockQ_r] | rw [roundE_r])))
      exact ⟨j + 1, (by repeat (first | exact le_nil | refine le_cons rfl ?_)), ⟨rfl, by omega⟩, by dsimp only; omega⟩
  · have hje : j = n := by omega
    rw [hje]
    have hin : ∀ p ∈ l2, (0 ≤ p.2.2.1 ∧ p.2.2.1 ≤ 1000000) := fun p hp => by have := (l4 p hp).2.2; omega
    obtain ⟨_, _, _, e, hr5⟩ := r.get hi0 e5 hlt
    cases e
    by_cases hn0 : n = 0
    · repeat (first | refine sS ?_ | refine dS ?_ | refine w_mv rfl ?_ | refine w_gT rfl rfl ?_ | refine w_gF rfl rfl ?_ | refine w_gU rfl ?_ | refine w_add rfl (by omega) ?_ | refine w_sub rfl (by omega) ?_ | refine w_ci rfl (by omega) ?_ | refine w_cu rfl (by omega) ?_ | refine w_cmp rfl (c2 := true) (by first | (simp; done) | (simp; omega)) ?_ | refine w_cmp rfl (c2 := false) (by first | (simp; done) | (simp; omega)) ?_ | refine w_ld rfl (by first | exact rd_g ‹_› rfl | assumption) ?_ | refine w_ldn rfl (by first | exact rd_all ‹_› rfl | assumption) ?_ | refine w_iad rfl (by first | omega | (simp; done) | (simp; omega)) ?_ | refine w_mul rfl (by omega) ?_ | refine w_rem rfl (by omega) (by omega) ?_ | refine w_quo rfl (by omega) (by omega) ?_ | refine w_addu rfl (by omega) ?_ | refine w_quou rfl (by omega) (by omega) ?_ | refine w_max rfl ?_ | refine w_min rfl ?_ | refine w_opk rfl rfl ?_ | refine w_cuw rfl ?_ | refine ai_seq ?_ | refine ai_reg ?_ | refine ai_cond (b := true) rfl (fun _ => ?_) (fun hb => by cases hb) | refine ai_cond (b := false) rfl (fun hb => by cases hb) (fun _ => ?_) | refine ai_skip ?_ | refine ai_block ?_ | refine ai_exit ?_ | (refine ai_ret ?_; repeat (first | rw [thenQ_r] | rw [blockQ_r] | rw [roundE_r])))
      refine w_call rfl ((crash_out _ a5 (by omega)).mono ?_)
      rintro v h7 ⟨rfl, a7, f7⟩
      repeat (first | refine sS ?_ | refine dS ?_ | refine w_mv rfl ?_ | refine w_gT rfl rfl ?_ | refine w_gF rfl rfl ?_ | refine w_gU rfl ?_ | refine w_add rfl (by omega) ?_ | refine w_sub rfl (by omega) ?_ | refine w_ci rfl (by omega) ?_ | refine w_cu rfl (by omega) ?_ | refine w_cmp rfl (c2 := true) (by first | (simp; done) | (simp; omega)) ?_ | refine w_cmp rfl (c2 := false) (by first | (simp; done) | (simp; omega)) ?_ | refine w_ld rfl (by first | exact rd_g ‹_› rfl | assumption) ?_ | refine w_ldn rfl (by first | exact rd_all ‹_› rfl | assumption) ?_ | refine w_iad rfl (by first | omega | (simp; done) | (simp; omega)) ?_ | refine w_mul rfl (by omega) ?_ | refine w_rem rfl (by omega) (by omega) ?_ | refine w_quo rfl (by omega) (by omega) ?_ | refine w_addu rfl (by omega) ?_ | refine w_quou rfl (by omega) (by omega) ?_ | refine w_max rfl ?_ | refine w_min rfl ?_ | refine w_opk rfl rfl ?_ | refine w_cuw rfl ?_ | refine ai_seq ?_ | refine ai_reg ?_ | refine ai_cond (b := true) rfl (fun _ => ?_) (fun hb => by cases hb) | refine ai_cond (b := false) rfl (fun hb => by cases hb) (fun _ => ?_) | refine ai_skip ?_ | refine ai_block ?_ | refine ai_exit ?_ | (refine ai_ret ?_; repeat (first | rw [thenQ_r] | rw [blockQ_r] | rw [roundE_r])))
      refine w_st rfl rfl (copy_wr h7 _) ?_
      have x8 := copy_ext h7 (0, 0, 0, 0)
      generalize (h7.new ⟨[nI 0, nI 0, nI 0, nI 0], true, 0⟩).put h7.nx ⟨p4 (0, 0, 0, 0), true, 0⟩ = h8 at x8 ⊢
      repeat (first | refine sS ?_ | refine dS ?_ | refine w_mv rfl ?_ | refine w_gT rfl rfl ?_ | refine w_gF rfl rfl ?_ | refine w_gU rfl ?_ | refine w_add rfl (by omega) ?_ | refine w_sub rfl (by omega) ?_ | refine w_ci rfl (by omega) ?_ | refine w_cu rfl (by omega) ?_ | refine w_cmp rfl (c2 := true) (by first | (simp; done) | (simp; omega)) ?_ | refine w_cmp rfl (c2 := false) (by first | (simp; done) | (simp; omega)) ?_ | refine w_ld rfl (by first | exact rd_g ‹_› rfl | assumption) ?_ | refine w_ldn rfl (by first | exact rd_all ‹_› rfl | assumption) ?_ | refine w_iad rfl (by first | omega | (simp; done) | (simp; omega)) ?_ | refine w_mul rfl (by omega) ?_ | refine w_rem rfl (by omega) (by omega) ?_ | refine w_quo rfl (by omega) (by omega) ?_ | refine w_addu rfl (by omega) ?_ | refine w_quou rfl (by omega) (by omega) ?_ | refine w_max rfl ?_ | refine w_min rfl ?_ | refine w_opk rfl rfl ?_ | refine w_cuw rfl ?_ | refine ai_seq ?_ | refine ai_reg ?_ | refine ai_cond (b := true) rfl (fun _ => ?_) (fun hb => by cases hb) | refine ai_cond (b := false) rfl (fun hb => by cases hb) (fun _ => ?_) | refine ai_skip ?_ | refine ai_block ?_ | refine ai_exit ?_ | (refine ai_ret ?_; repeat (first | rw [thenQ_r] | rw [blockQ_r] | rw [roundE_r])))
      exact ⟨(i + 1, top, made + max ((n : Int) - l.length) 0), (by repeat (first | exact le_nil | refine le_cons rfl ?_)), ⟨⟨_, l2, a7.ext x8, l4, hs4, by omega⟩, (e5.fr hs4 f7).trans x8, by dsimp only; omega, by dsimp only; omega, by dsimp only; omega, by dsimp only; omega, by dsimp only; omega, by dsimp only; omega⟩, by dsimp only; omega⟩
    · obtain ⟨q, hq⟩ : ∃ q, l2[n - 1]? = some q := ⟨_, List.getElem?_eq_getElem (by omega)⟩
      obtain ⟨k, e, _, _, hr0, _⟩ := r5.fld hlen4 hq
      cases e
      rw [show ((n - 1 : Nat) : Int) = (n : Int) - 1 by omega] at hr0
      have hqb := (l4 q (List.mem_of_getElem? hq)).1
      repeat (first | refine sS ?_ | refine dS ?_ | refine w_mv rfl ?_ | refine w_gT rfl rfl ?_ | refine w_gF rfl rfl ?_ | refine w_gU rfl ?_ | refine w_add rfl (by omega) ?_ | refine w_sub rfl (by omega) ?_ | refine w_ci rfl (by omega) ?_ | refine w_cu rfl (by omega) ?_ | refine w_cmp rfl (c2 := true) (by first | (simp; done) | (simp; omega)) ?_ | refine w_cmp rfl (c2 := false) (by first | (simp; done) | (simp; omega)) ?_ | refine w_ld rfl (by first | exact rd_g ‹_› rfl | assumption) ?_ | refine w_ldn rfl (by first | exact rd_all ‹_› rfl | assumption) ?_ | refine w_iad rfl (by first | omega | (simp; done) | (simp; omega)) ?_ | refine w_mul rfl (by omega) ?_ | refine w_rem rfl (by omega) (by omega) ?_ | refine w_quo rfl (by omega) (by omega) ?_ | refine w_addu rfl (by omega) ?_ | refine w_quou rfl (by omega) (by omega) ?_ | refine w_max rfl ?_ | refine w_min rfl ?_ | refine w_opk rfl rfl ?_ | refine w_cuw rfl ?_ | refine ai_seq ?_ | refine ai_reg ?_ | refine ai_cond (b := true) rfl (fun _ => ?_) (fun hb => by cases hb) | refine ai_cond (b := false) rfl (fun hb => by cases hb) (fun _ => ?_) | refine ai_skip ?_ | refine ai_block ?_ | refine ai_exit ?_ | (refine ai_ret ?_; repeat (first | rw [thenQ_r] | rw [blockQ_r] | rw [roundE_r])))
      by_cases hK : (IntKind.u64.wrap us[i] / 13 % 13).toNat < n
      · obtain ⟨m, hm2⟩ : ∃ m : Nat, IntKind.u64.wrap us[i] / 13 % 13 = m := ⟨(IntKind.u64.wrap us[i] / 13 % 13).toNat, by omega⟩
        rw [hm2] at hK ⊢
        rw [Int.toNat_natCast] at hK
        obtain ⟨p, hp⟩ : ∃ p, l2[m]? = some p := ⟨_, List.getElem?_eq_getElem (by omega)⟩
        have hpb := (l4 p (List.mem_of_getElem? hp)).1
        refine w_call rfl ((crash_lf _ a5 (by omega) hp).mono ?_)
        rintro v h7 ⟨rfl, S7, a7, g7, f7⟩
        have hs7 := g7.ge hs4 e5
        have e7 := e5.fr hs4 f7
        repeat (first | refine sS ?_ | refine dS ?_ | refine w_mv rfl ?_ | refine w_gT rfl rfl ?_ | refine w_gF rfl rfl ?_ | refine w_gU rfl ?_ | refine w_add rfl (by omega) ?_ | refine w_sub rfl (by omega) ?_ | refine w_ci rfl (by omega) ?_ | refine w_cu rfl (by omega) ?_ | refine w_cmp rfl (c2 := true) (by first | (simp; done) | (simp; omega)) ?_ | refine w_cmp rfl (c2 := false) (by first | (simp; done) | (simp; omega)) ?_ | refine w_ld rfl (by first | exact rd_g ‹_› rfl | assumption) ?_ | refine w_ldn rfl (by first | exact rd_all ‹_› rfl | assumption) ?_ | refine w_iad rfl (by first | omega | (simp; done) | (simp; omega)) ?_ | refine w_mul rfl (by omega) ?_ | refine w_rem rfl (by omega) (by omega) ?_ | refine w_quo rfl (by omega) (by omega) ?_ | refine w_addu rfl (by omega) ?_ | refine w_quou rfl (by omega) (by omega) ?_ | refine w_max rfl ?_ | refine w_min rfl ?_ | refine w_opk rfl rfl ?_ | refine w_cuw rfl ?_ | refine ai_seq ?_ | refine ai_reg ?_ | refine ai_cond (b := true) rfl (fun _ => ?_) (fun hb => by cases hb) | refine ai_cond (b := false) rfl (fun hb => by cases hb) (fun _ => ?_) | refine ai_skip ?_ | refine ai_block ?_ | refine ai_exit ?_ | (refine ai_ret ?_; repeat (first | rw [thenQ_r] | rw [blockQ_r] | rw [roundE_r])))
        refine w_st rfl rfl (copy_wr h7 _) ?_
        have x8 := copy_ext h7 p
        have g8 : ((h7.new ⟨[nI 0, nI 0, nI 0, nI 0], true, 0⟩).put h7.nx ⟨p4 p, true, 0⟩).get h7.nx = some ⟨p4 p, true, 0⟩ := hput_same _ _ _
        generalize (h7.new ⟨[nI 0, nI 0, nI 0, nI 0], true, 0⟩).put h7.nx ⟨p4 p, true, 0⟩ = h8 at x8 g8 ⊢
        repeat (first | refine sS ?_ | refine dS ?_ | refine w_mv rfl ?_ | refine w_gT rfl rfl ?_ | refine w_gF rfl rfl ?_ | refine w_gU rfl ?_ | refine w_add rfl (by omega) ?_ | refine w_sub rfl (by omega) ?_ | refine w_ci rfl (by omega) ?_ | refine w_cu rfl (by omega) ?_ | refine w_cmp rfl (c2 := true) (by first | (simp; done) | (simp; omega)) ?_ | refine w_cmp rfl (c2 := false) (by first | (simp; done) | (simp; omega)) ?_ | refine w_ld rfl (by first | exact rd_g ‹_› rfl | assumption) ?_ | refine w_ldn rfl (by first | exact rd_all ‹_› rfl | assumption) ?_ | refine w_iad rfl (by first | omega | (simp; done) | (simp; omega)) ?_ | refine w_mul rfl (by omega) ?_ | refine w_rem rfl (by omega) (by omega) ?_ | refine w_quo rfl (by omega) (by omega) ?_ | refine w_addu rfl (by omega) ?_ | refine w_quou rfl (by omega) (by omega) ?_ | refine w_max rfl ?_ | refine w_min rfl ?_ | refine w_opk rfl rfl ?_ | refine w_cuw rfl ?_ | refine ai_seq ?_ | refine ai_reg ?_ | refine ai_cond (b := true) rfl (fun _ => ?_) (fun hb => by cases hb) | refine ai_cond (b := false) rfl (fun hb => by cases hb) (fun _ => ?_) | refine ai_skip ?_ | refine ai_block ?_ | refine ai_exit ?_ | (refine ai_ret ?_; repeat (first | rw [thenQ_r] | rw [blockQ_r] | rw [roundE_r])))
        exact ⟨(i + 1, max top q.1, made + max ((n : Int) - l.length) 0), (by repeat (first | exact le_nil | refine le_cons rfl ?_)), ⟨⟨_, _, a7.ext x8, (fun r hr => l4 r (by
          rcases List.mem_append.1 hr with hr | hr
          · exact List.mem_of_mem_take hr
          · exact List.mem_of_mem_drop hr)), hs7, by simp; omega⟩, e7.trans x8, by dsimp only; omega, by dsimp only; omega, by dsimp only; omega, by dsimp only; omega, by dsimp only; omega, by dsimp only; omega⟩, by dsimp only; omega⟩
      · refine w_call rfl ((crash_out _ a5 (by omega)).mono ?_)
        rintro v h7 ⟨rfl, a7, f7⟩
        repeat (first | refine sS ?_ | refine dS ?_ | refine w_mv rfl ?_ | refine w_gT rfl rfl ?_ | refine w_gF rfl rfl ?_ | refine w_gU rfl ?_ | refine w_add rfl (by omega) ?_ | refine w_sub rfl (by omega) ?_ | refine w_ci rfl (by omega) ?_ | refine w_cu rfl (by omega) ?_ | refine w_cmp rfl (c2 := true) (by first | (simp; done) | (simp; omega)) ?_ | refine w_cmp rfl (c2 := false) (by first | (simp; done) | (simp; omega)) ?_ | refine w_ld rfl (by first | exact rd_g ‹_› rfl | assumption) ?_ | refine w_ldn rfl (by first | exact rd_all ‹_› rfl | assumption) ?_ | refine w_iad rfl (by first | omega | (simp; done) | (simp; omega)) ?_ | refine w_mul rfl (by omega) ?_ | refine w_rem rfl (by omega) (by omega) ?_ | refine w_quo rfl (by omega) (by omega) ?_ | refine w_addu rfl (by omega) ?_ | refine w_quou rfl (by omega) (by omega) ?_ | refine w_max rfl ?_ | refine w_min rfl ?_ | refine w_opk rfl rfl ?_ | refine w_cuw rfl ?_ | refine ai_seq ?_ | refine ai_reg ?_ | refine ai_cond (b := true) rfl (fun _ => ?_) (fun hb => by cases hb) | refine ai_cond (b := false) rfl (fun hb => by cases hb) (fun _ => ?_) | refine ai_skip ?_ | refine ai_block ?_ | refine ai_exit ?_ | (refine ai_ret ?_; repeat (first | rw [thenQ_r] | rw [blockQ_r] | rw [roundE_r])))
        refine w_st rfl rfl (copy_wr h7 _) ?_
        have x8 := copy_ext h7 (0, 0, 0, 0)
        generalize (h7.new ⟨[nI 0, nI 0, nI 0, nI 0], true, 0⟩).put h7.nx ⟨p4 (0, 0, 0, 0), true, 0⟩ = h8 at x8 ⊢
        repeat (first | refine sS ?_ | refine dS ?_ | refine w_mv rfl ?_ | refine w_gT rfl rfl ?_ | refine w_gF rfl rfl ?_ | refine w_gU rfl ?_ | refine w_add rfl (by omega) ?_ | refine w_sub rfl (by omega) ?_ | refine w_ci rfl (by omega) ?_ | refine w_cu rfl (by omega) ?_ | refine w_cmp rfl (c2 := true) (by first | (simp; done) | (simp; omega)) ?_ | refine w_cmp rfl (c2 := false) (by first | (simp; done) | (simp; omega)) ?_ | refine w_ld rfl (by first | exact rd_g ‹_› rfl | assumption) ?_ | refine w_ldn rfl (by first | exact rd_all ‹_› rfl | assumption) ?_ | refine w_iad rfl (by first | omega | (simp; done) | (simp; omega)) ?_ | refine w_mul rfl (by omega) ?_ | refine w_rem rfl (by omega) (by omega) ?_ | refine w_quo rfl (by omega) (by omega) ?_ | refine w_addu rfl (by omega) ?_ | refine w_quou rfl (by omega) (by omega) ?_ | refine w_max rfl ?_ | refine w_min rfl ?_ | refine w_opk rfl rfl ?_ | refine w_cuw rfl ?_ | refine ai_seq ?_ | refine ai_reg ?_ | refine ai_cond (b := true) rfl (fun _ => ?_) (fun hb => by cases hb) | refine ai_cond (b := false) rfl (fun hb => by cases hb) (fun _ => ?_) | refine ai_skip ?_ | refine ai_block ?_ | refine ai_exit ?_ | (refine ai_ret ?_; repeat (first | rw [thenQ_r] | rw [blockQ_r] | rw [roundE_r])))
        exact ⟨(i + 1, max top q.1, made + max ((n : Int) - l.length) 0), (by repeat (first | exact le_nil | refine le_cons rfl ?_)), ⟨⟨_, l2, a7.ext x8, l4, hs4, by omega⟩, (e5.fr hs4 f7).trans x8, by dsimp only; omega, by dsimp only; omega, by dsimp only; omega, by dsimp only; omega, by dsimp only; omega, by dsimp only; omega⟩, by dsimp only; omega⟩
end Go.Proofs.YtnebdnbglggdkaaW.Am
