/- Texts: the document's own Print. -/
import Derived.Test.YtapbmmlgmcmpnaaDoorTextM4
import Derived.Test.YtapbmmlgmcmpnaaDoorTextM2
import Derived.Test.YtapbmmlgmcmpnaaDoorTextM1
import Derived.Handed
import Derived.HandedShaped
import Derived.Test.YtapbmmlgmcmpnaaDoorRows
import Derived.Test.YtapbmmlgmcmpnaaDoorTextM3
import Derived.Deep.DeepLaidRun
import Derived.Stop.LaidErr
namespace Go.Proofs.YtapbmmlgmcmpnaaDoorW.Am
open Go Go.RowKit
set_option maxRecDepth 10000 in
set_option maxHeartbeats 4000000 in
theorem rprint_ok (c : Cf20) (h : Hp) : ACall PX 16 [.agg ⟨cs20 c⟩] h (fun v g => v = .tuple #[bs (printF c).1, nI (printF c).2] ∧ Ext h g) := by
  unfold printF
  refine acall Go.Proofs.Tryd.func16 c16 (by simp [ir16]) ?_
  unfold ir16
  dsimp only
  refine ai_seq (ai_regW (sS (w_box rfl fun g1 x1 k1 n1 => ?_)))
  repeat (first | refine sS ?_ | refine sE ?_ | refine w_mv rfl ?_ | (refine is_ldn ?_; refine w_ldn rfl (by first | exact rd_all ‹_› rfl | exact rd_newn rfl | assumption) ?_) | refine ai_seq ?_ | refine ai_regW ?_)
  refine w_call rfl ((rmay_ok _ c).mono ?_)
  rintro _ g2 ⟨rfl, x2⟩
  have hn2 := x2.1
  cases hm : mayB c
  · repeat (first | refine sS ?_ | refine sE ?_ | refine w_mv rfl ?_ | (refine is_okn rfl ?_; refine w_op rfl ?_) | refine ai_seq ?_ | refine ai_regW ?_ | refine ai_condF (b := true) rfl (fun _ => ?_) (fun hb => by cases hb) | (refine ai_ret ?_; repeat (first | rw [thenQ_r] | rw [blockQ_r] | rw [roundE_r])))
    exact ⟨_, rfl, rfl, x1.trans x2⟩
  have k2 := (x2.2 _ n1).trans k1
  repeat (first | refine sS ?_ | refine sE ?_ | refine w_mv rfl ?_ | (refine is_okn rfl ?_; refine w_op rfl ?_) | (refine is_ldn ?_; refine w_ldn rfl (by first | exact rd_all ‹_› rfl | exact rd_newn rfl | assumption) ?_) | refine ai_seq ?_ | refine ai_regW ?_ | refine ai_condF (b := false) rfl (fun hb => by cases hb) (fun _ => ?_) | refine ai_skip ?_)
  refine w_call rfl ((values_ok _ c).mono ?_)
  rintro _ g3 ⟨rfl, x3, k3, n3⟩
  have x03 := (x1.trans x2).trans x3
  repeat (first | refine sS ?_ | refine sE ?_ | refine w_mv rfl ?_ | refine ai_seq ?_ | refine ai_regW ?_ | refine ai_block ?_)
  refine ai_loopE (γ := Nat) (fun j => [(4, bs (prU (vl c) j)), (5, .slice (some ⟨g2.nx + 1, 0, none⟩) 20 20), (6, nI j)])
    (fun j g => j ≤ 20 ∧ Ext g3 g) (fun j => 20 - j) 0
    (by repeat (first | exact le_nil | refine le_consF rfl ?_)) ⟨Nat.zero_le _, Ext.refl _⟩ ?_
  rintro j g ⟨hj, x4⟩
  by_cases hj20 : j < 20
  · have kv := (x4.2 _ n3).trans k3
    have hpl := prU_len hm j hj
    obtain ⟨x, hx⟩ : ∃ x, (vl c)[j]? = some x := ⟨_, List.getElem?_eq_getElem (by rw [vl_len]; exact hj20)⟩
    have hxd : (vl c).getD j 0 = x := by rw [List.getD_eq_getElem?_getD, hx]; rfl
    obtain ⟨hb1, hb2⟩ := may_b hm j x hx
    have hsl := shown_len (k := j) hb1
    have hnm : nmB[j]? = some (nmB.getD j []) := by
      rw [List.getD_eq_getElem?_getD, List.getElem?_eq_getElem (show j < nmB.length from hj20)]
      rfl
    have hnml : (nmB.getD j []).length ≤ 20 := nm_len _ (List.mem_of_getElem? hnm)
    have hrx := rd_row kv (x := j) (v := nI x) (by show (cs20 c)[j]? = _; rw [cs_vl, List.getElem?_map, hx]; rfl)
    have hmx : max x 0 = ((x.toNat : Nat) : Int) := by omega
    have hun : prU (vl c) (j + 1) = (((prU (vl c) j ++ nmB.getD j []) ++ [58, 32]) ++ shownF j x) ++ [10] := by
      show prU (vl c) j ++ ((nmB.getD j [] ++ [58, 32]) ++ (shownF j ((vl c).getD j 0) ++ [10])) = _
      rw [hxd]
      simp only [List.append_assoc]
    repeat (first | refine sS ?_ | refine sE ?_ | refine w_mv rfl ?_ | (refine is_okn rfl ?_; refine w_op rfl ?_) | (refine is_ld ?_; refine w_ld rfl (by first | exact rd_g ‹_› rfl | exact rd_new rfl | assumption) ?_) | (refine w_cmp (c2 := true) rfl ?_ ?_; focus (first | exact decide_eq_true (by omega) | (simp; done) | (simp; omega))) | (refine w_iad rfl ?_ ?_; focus (first | omega | (simp; done) | (simp; omega))) | refine w_max rfl ?_ | refine ai_seq ?_ | refine ai_regW ?_ | refine ai_condF (b := true) rfl (fun _ => ?_) (fun hb => by cases hb) | refine ai_skip ?_ | refine ai_block ?_)
    rw [hmx]
    refine w_call rfl ((decimal_ok x.toNat (by omega) _).mono ?_)
    rintro _ _ ⟨rfl, rfl⟩
    repeat (first | refine sS ?_ | refine sE ?_ | refine w_mv rfl ?_ | refine ai_seq ?_ | refine ai_regW ?_)
    refine w_call rfl ((thin_ok _ j).mono ?_)
    rintro _ _ ⟨rfl, rfl⟩
    cases ht : thinK j
    · have hsh : shownF j x = Go.Lib.decDigits x.toNat := by
        unfold shownF
        rw [ht]
        have := hb2 ht
        obtain ⟨m, rfl⟩ : ∃ m : Nat, x = (m : Int) := ⟨x.toNat, by omega⟩
        rw [if_neg (by simp), itoa_nn, Int.toNat_natCast]
      rw [hsh] at hsl hun
      repeat (first | refine sS ?_ | refine sE ?_ | refine w_mv rfl ?_ | refine ai_regW ?_ | refine ai_condF (b := false) rfl (fun hb => by cases hb) (fun _ => ?_) | refine ai_skip ?_)
      refine w_call rfl ((names_ok _).mono ?_)
      rintro _ g5 ⟨rfl, x5, k5, n5⟩
      have hrn := rd_row k5 (x := j) (v := bsV (nmB.getD j [])) (by rw [List.getElem?_map, hnm]; rfl)
      repeat (first | refine sS ?_ | refine w_mv rfl ?_ | (refine is_ld ?_; refine w_ld rfl (by first | exact rd_g ‹_› rfl | exact rd_new rfl | assumption) ?_) | (refine w_iad rfl ?_ ?_; focus (first | omega | (simp; done) | (simp; omega))))
      refine w_catB (a := prU (vl c) j) (b := nmB.getD j []) rfl (by omega) ?_
      repeat (first | refine sS ?_)
      refine w_catB (a := prU (vl c) j ++ nmB.getD j []) (b := [58, 32]) rfl (by rw [List.length_append]; simp only [List.length_cons, List.length_nil]; omega) ?_
      repeat (first | refine sS ?_ | refine w_mv rfl ?_)
      refine w_catB (a := (prU (vl c) j ++ nmB.getD j []) ++ [58, 32]) (b := Go.Lib.decDigits x.toNat) rfl (by rw [List.length_append, List.length_append]; simp only [List.length_cons, List.length_nil]; omega) ?_
      repeat (first | refine sS ?_)
      refine w_catB (a := ((prU (vl c) j ++ nmB.getD j []) ++ [58, 32]) ++ Go.Lib.decDigits x.toNat) (b := [10]) rfl (by rw [List.length_append, List.length_append, List.length_append]; simp only [List.length_cons, List.length_nil]; omega) ?_
      rw [← hun]
      repeat (first | refine sS ?_ | refine sE ?_ | refine w_mv rfl ?_ | (refine w_add rfl ?_ ?_; (focus omega)) | refine ai_regW ?_)
      exact ⟨j + 1, (by repeat (first | exact le_nil | refine le_consF rfl ?_)), ⟨by omega, x4.trans x5⟩, by dsimp only; omega⟩
    · have hsh : shownF j x = showF x := by unfold shownF; rw [ht]; rfl
      rw [hsh] at hsl hun
      repeat (first | refine sS ?_ | refine sE ?_ | refine w_mv rfl ?_ | (refine is_ld ?_; refine w_ld rfl (by first | exact rd_g ‹_› rfl | exact rd_new rfl | assumption) ?_) | (refine w_iad rfl ?_ ?_; focus (first | omega | (simp; done) | (simp; omega))) | refine ai_regW ?_ | refine ai_condF (b := true) rfl (fun _ => ?_) (fun hb => by cases hb))
      refine w_call rfl ((rshow_ok ⟨by omega, by omega⟩ _).mono ?_)
      rintro _ _ ⟨rfl, rfl⟩
      repeat (first | refine sS ?_ | refine sE ?_ | refine w_mv rfl ?_ | refine ai_regW ?_)
      refine w_call rfl ((names_ok _).mono ?_)
      rintro _ g5 ⟨rfl, x5, k5, n5⟩
      have hrn := rd_row k5 (x := j) (v := bsV (nmB.getD j [])) (by rw [List.getElem?_map, hnm]; rfl)
      repeat (first | refine sS ?_ | refine w_mv rfl ?_ | (refine is_ld ?_; refine w_ld rfl (by first | exact rd_g ‹_› rfl | exact rd_new rfl | assumption) ?_) | (refine w_iad rfl ?_ ?_; focus (first | omega | (simp; done) | (simp; omega))))
      refine w_catB (a := prU (vl c) j) (b := nmB.getD j []) rfl (by omega) ?_
      repeat (first | refine sS ?_)
      refine w_catB (a := prU (vl c) j ++ nmB.getD j []) (b := [58, 32]) rfl (by rw [List.length_append]; simp only [List.length_cons, List.length_nil]; omega) ?_
      repeat (first | refine sS ?_ | refine w_mv rfl ?_)
      refine w_catB (a := (prU (vl c) j ++ nmB.getD j []) ++ [58, 32]) (b := showF x) rfl (by rw [List.length_append, List.length_append]; simp only [List.length_cons, List.length_nil]; omega) ?_
      repeat (first | refine sS ?_)
      refine w_catB (a := ((prU (vl c) j ++ nmB.getD j []) ++ [58, 32]) ++ showF x) (b := [10]) rfl (by rw [List.length_append, List.length_append, List.length_append]; simp only [List.length_cons, List.length_nil]; omega) ?_
      rw [← hun]
      repeat (first | refine sS ?_ | refine sE ?_ | refine w_mv rfl ?_ | (refine w_add rfl ?_ ?_; (focus omega)) | refine ai_regW ?_)
      exact ⟨j + 1, (by repeat (first | exact le_nil | refine le_consF rfl ?_)), ⟨by omega, x4.trans x5⟩, by dsimp only; omega⟩
  · obtain rfl : j = 20 := by omega
    repeat (first | refine sS ?_ | refine sE ?_ | refine w_mv rfl ?_ | (refine is_okn rfl ?_; refine w_op rfl ?_) | (refine w_cmp (c2 := false) rfl ?_ ?_; focus (first | exact decide_eq_false (by omega) | (simp; done) | (simp; omega))) | refine ai_seq ?_ | refine ai_regW ?_ | refine ai_condF (b := false) rfl (fun hb => by cases hb) (fun _ => ?_) | refine ai_exit ?_ | (refine ai_ret ?_; repeat (first | rw [thenQ_r] | rw [blockQ_r] | rw [roundE_r])))
    exact ⟨_, rfl, rfl, x03.trans x4⟩
end Go.Proofs.YtapbmmlgmcmpnaaDoorW.Am
/- Texts: the law TextAsks. -/
namespace Go.Proofs.YtapbmmlgmcmpnaaDoorW.Am
open Go Go.RowKit
section
variable {P : Program} {CT : FuncId → List Value → Hp → (Value → Hp → Prop) → Prop} {d : Option Nat} {xs : List Operand} {env : Env} {h : Hp} {R : Value → Hp → Prop}
theorem w_lens {l : List UInt8} (e : mapF env xs = some [bs l]) (n : R (nI l.length) h) : WI P CT ⟨d, none, .op .lens xs⟩ env h R := by
  refine w_v (v := .int .i64 ((ByteArray.mk l.toArray).size : Int)) (by unfold opF; rw [e]; rfl) ?_ n
  rw [sz_mk]
end
def rB (ls : List (List UInt8)) : List (List Value) := ls.map fun l => [bsV l]
theorem rB_len (ls : List (List UInt8)) : (rB ls).length = ls.length := by simp [rB]
theorem rB_get {ls : List (List UInt8)} {i : Nat} {l : List UInt8} (h : ls[i]? = some l) : (rB ls)[i]? = some [bsV l] := by simp [rB, h]
set_option maxRecDepth 10000 in
set_option maxHeartbeats 4000000 in
theorem tasks_ok (s : List UInt8) (hs : s.length ≤ maxLen) {n : Int} (hn : I64 n) (c : Cf20) (sv : Value) (ls : List (List UInt8)) (hll : ls.length ≤ maxLen) (hls : ∀ l ∈ ls, l.length ≤ maxLen) (h : Hp) (r : RR 1 h sv (rB ls)) :
    ACall PX 4 [bs s, nI n, .agg ⟨cs20 c⟩, sv] h (fun v _ => v = .bool true) := by
  have hm : maxLen = 9223372036854775807 := rfl
  have hz := sz_mk s
  obtain ⟨x0, c0, rfl⟩ := r.len
  have hrl := rB_len ls
  refine acall Go.Proofs.Tryd.func4 c4 (by simp [ir4]) ?_
  unfold ir4
  dsimp only
  refine ai_seq (ai_regW (sS (w_box rfl fun g1 x1 k1 n1 => ?_)))
  have r1 := r.ext x1
  repeat (first | refine sS ?_ | refine sE ?_ | refine w_mv rfl ?_ | (refine is_okn rfl ?_; refine w_op rfl ?_) | refine ai_seq ?_ | refine ai_regW ?_)
  by_cases h1 : 30 < s.length
  · repeat (first | refine sS ?_ | refine sE ?_ | refine w_mv rfl ?_ | refine w_pickT rfl ?_ | refine w_gF rfl rfl ?_ | (refine w_cmp (c2 := true) rfl ?_ ?_; focus (first | exact decide_eq_true (by omega) | (simp; done) | (simp; omega))) | refine ai_seq ?_ | refine ai_regW ?_ | refine ai_condF (b := true) rfl (fun _ => ?_) (fun hb => by cases hb))
    refine w_call rfl ((told_ok _).mono ?_)
    rintro _ ga ⟨rfl, xa⟩
    repeat (first | refine sS ?_ | refine sE ?_ | refine w_mv rfl ?_ | (refine ai_ret ?_; repeat (first | rw [thenQ_r] | rw [blockQ_r] | rw [roundE_r])))
    exact end_one rfl rfl
  by_cases h2 : 12 < ls.length
  · repeat (first | refine sS ?_ | refine sE ?_ | refine w_mv rfl ?_ | refine w_pickF rfl ?_ | (refine is_okn rfl ?_; refine w_op rfl ?_) | refine w_gT rfl rfl ?_ | (refine w_cmp (c2 := true) rfl ?_ ?_; focus (first | exact decide_eq_true (by omega) | (simp; done) | (simp; omega))) | (refine w_cmp (c2 := false) rfl ?_ ?_; focus (first | exact decide_eq_false (by omega) | (simp; done) | (simp; omega))) | refine ai_seq ?_ | refine ai_regW ?_ | refine ai_condF (b := true) rfl (fun _ => ?_) (fun hb => by cases hb))
    refine w_call rfl ((told_ok _).mono ?_)
    rintro _ ga ⟨rfl, xa⟩
    repeat (first | refine sS ?_ | refine sE ?_ | refine w_mv rfl ?_ | (refine ai_ret ?_; repeat (first | rw [thenQ_r] | rw [blockQ_r] | rw [roundE_r])))
    exact end_one rfl rfl
  repeat (first | refine sS ?_ | refine sE ?_ | refine w_mv rfl ?_ | refine w_pickF rfl ?_ | (refine is_okn rfl ?_; refine w_op rfl ?_) | refine w_gT rfl rfl ?_ | (refine w_cmp (c2 := false) rfl ?_ ?_; focus (first | exact decide_eq_false (by omega) | (simp; done) | (simp; omega))) | refine ai_seq ?_ | refine ai_regW ?_ | refine ai_condF (b := false) rfl (fun hb => by cases hb) (fun _ => ?_) | refine ai_skip ?_ | refine ai_block ?_)
  refine ai_loopE (γ := Nat × List UInt8) (fun e => [(0, bs s), (1, nI n), (3, .slice x0 (rB ls).length c0), (6, .pointer (some ⟨h.nx, 0, none⟩)), (9, bs e.2), (10, nI e.1)])
    (fun e g => g1 = g ∧ e.1 ≤ ls.length ∧ e.2.length ≤ e.1 * 41) (fun e => ls.length - e.1) (0, [])
    (by repeat (first | exact le_nil | refine le_consF rfl ?_)) ⟨rfl, Nat.zero_le _, Nat.zero_le _⟩ ?_
  rintro ⟨i, t⟩ _ ⟨rfl, hi, ht⟩
  dsimp only at hi ht ⊢
  by_cases hil : i < ls.length
  · obtain ⟨l, hl⟩ : ∃ l, ls[i]? = some l := ⟨_, List.getElem?_eq_getElem hil⟩
    have hlm := hls l (List.mem_of_getElem? hl)
    have hzl := sz_mk l
    obtain ⟨bi, bo, bsp, rfl, _, hrd⟩ := r1.at (rB_get hl)
    by_cases h40 : 40 < l.length
    · repeat (first | refine sS ?_ | refine sE ?_ | refine w_mv rfl ?_ | (refine is_okn rfl ?_; refine w_op rfl ?_) | (refine is_ld ?_; refine w_ld rfl (by first | exact rd_g ‹_› rfl | exact rd_new rfl | assumption) ?_) | (refine w_cmp (c2 := true) rfl ?_ ?_; focus (first | exact decide_eq_true (by omega) | (simp; done) | (simp; omega))) | (refine w_iad rfl ?_ ?_; focus (first | omega | (simp; done) | (simp; omega))) | refine ai_seq ?_ | refine ai_regW ?_ | refine ai_condF (b := true) rfl (fun _ => ?_) (fun hb => by cases hb) | refine ai_skip ?_ | refine ai_block ?_)
      refine w_call rfl ((told_ok _).mono ?_)
      rintro _ ga ⟨rfl, xa⟩
      repeat (first | refine sS ?_ | refine sE ?_ | refine w_mv rfl ?_ | (refine ai_ret ?_; repeat (first | rw [thenQ_r] | rw [blockQ_r] | rw [roundE_r])))
      exact end_one rfl rfl
    · repeat (first | refine sS ?_ | refine sE ?_ | refine w_mv rfl ?_ | (refine is_okn rfl ?_; refine w_op rfl ?_) | (refine is_ld ?_; refine w_ld rfl (by first | exact rd_g ‹_› rfl | exact rd_new rfl | assumption) ?_) | (refine w_cmp (c2 := true) rfl ?_ ?_; focus (first | exact decide_eq_true (by omega) | (simp; done) | (simp; omega))) | (refine w_cmp (c2 := false) rfl ?_ ?_; focus (first | exact decide_eq_false (by omega) | (simp; done) | (simp; omega))) | (refine w_iad rfl ?_ ?_; focus (first | omega | (simp; done) | (simp; omega))) | refine ai_seq ?_ | refine ai_regW ?_ | refine ai_condF (b := true) rfl (fun _ => ?_) (fun hb => by cases hb) | refine ai_condF (b := false) rfl (fun hb => by cases hb) (fun _ => ?_) | refine ai_skip ?_ | refine ai_block ?_)
      refine w_catB (a := t) (b := l) rfl (by omega) ?_
      repeat (first | refine sS ?_)
      refine w_catB (a := t ++ l) (b := [10]) rfl (by rw [List.length_append]; simp only [List.length_cons, List.length_nil]; omega) ?_
      repeat (first | refine sS ?_ | refine sE ?_ | refine w_mv rfl ?_ | (refine w_add rfl ?_ ?_; (focus omega)) | refine ai_regW ?_)
      exact ⟨(i + 1, (t ++ l) ++ [10]), (by repeat (first | exact le_nil | refine le_consF rfl ?_)), ⟨rfl, by dsimp only; omega, by dsimp only; rw [List.length_append, List.length_append]; simp only [List.length_cons, List.length_nil]; omega⟩, by dsimp only; omega⟩
  · obtain rfl : i = ls.length := by omega
    have htl : t.length ≤ 1000000 := by omega
    have hsl : s.length ≤ 1000000 := by omega
    repeat (first | refine sS ?_ | refine sE ?_ | refine w_mv rfl ?_ | (refine is_okn rfl ?_; refine w_op rfl ?_) | (refine w_cmp (c2 := false) rfl ?_ ?_; focus (first | exact decide_eq_false (by omega) | (simp; done) | (simp; omega))) | refine ai_seq ?_ | refine ai_regW ?_ | refine ai_condF (b := false) rfl (fun hb => by cases hb) (fun _ => ?_) | refine ai_exit ?_)
    refine w_call rfl ((number_ok s hsl _).mono ?_)
    rintro _ _ ⟨rfl, rfl⟩
    repeat (first | refine sS ?_ | refine sE ?_ | refine w_mv rfl ?_ | refine w_ext rfl rfl ?_ | refine ai_seq ?_ | refine ai_regW ?_)
    refine w_call rfl ((rnumber_ok s hsl _).mono ?_)
    rintro _ _ ⟨rfl, rfl⟩
    repeat (first | refine sS ?_ | refine sE ?_ | refine w_mv rfl ?_ | refine w_ext rfl rfl ?_ | (refine is_ldn ?_; refine w_ldn rfl (by first | exact rd_all ‹_› rfl | exact rd_newn rfl | assumption) ?_) | refine ai_seq ?_ | refine ai_regW ?_)
    refine w_call rfl ((tparse_ok c t htl _).mono ?_)
    rintro _ g4 ⟨rfl, x4⟩
    have k4 := (x4.2 _ n1).trans k1
    have l4 := Nat.lt_of_lt_of_le n1 x4.1
    repeat (first | refine sS ?_ | refine w_mv rfl ?_ | refine w_ext rfl rfl ?_)
    refine w_new fun g5 x5 k5 m5 => ?_
    repeat (first | refine sSn ?_)
    refine w_stN rfl rfl k5 rfl rfl fun g6 q6 k6 m6 => ?_
    have k46 := (q6 _ (by omega)).trans ((x5.2 _ l4).trans k4)
    have l6 : h.nx < g6.nx := by have := x5.1; omega
    have p6 : g4.nx < g6.nx := by omega
    repeat (first | refine sS ?_ | refine sE ?_ | refine w_mv rfl ?_ | (refine is_ldn ?_; refine w_ldn rfl (by first | exact rd_all ‹_› rfl | exact rd_newn rfl | assumption) ?_) | refine ai_seq ?_ | refine ai_regW ?_)
    refine w_call rfl ((rparse_ok c t htl _).mono ?_)
    rintro _ g7 ⟨rfl, x7⟩
    have k7 := (x7.2 _ l6).trans k46
    have e7 := (x7.2 _ p6).trans k6
    have l7 := Nat.lt_of_lt_of_le l6 x7.1
    have p7 := Nat.lt_of_lt_of_le p6 x7.1
    repeat (first | refine sS ?_ | refine w_mv rfl ?_ | refine w_ext rfl rfl ?_)
    refine w_new fun g8 x8 k8 m8 => ?_
    repeat (first | refine sSn ?_)
    refine w_stN rfl rfl k8 rfl rfl fun g9 q9 k9 m9 => ?_
    have kc9 := (q9 _ (by omega)).trans ((x8.2 _ l7).trans k7)
    have e9 := (q9 _ (by omega)).trans ((x8.2 _ p7).trans e7)
    have l9 : h.nx < g9.nx := by have := x8.1; omega
    have p9 : g4.nx < g9.nx := by have := x8.1; omega
    have u9 : g7.nx < g9.nx := by omega
    repeat (first | refine sS ?_ | refine sE ?_ | refine w_mv rfl ?_ | (refine is_ldn ?_; refine w_ldn rfl (by first | exact rd_all ‹_› rfl | exact rd_newn rfl | assumption) ?_) | refine ai_seq ?_ | refine ai_regW ?_)
    refine w_call rfl ((print_ok c _).mono ?_)
    rintro _ ga ⟨rfl, xa⟩
    have kca := (xa.2 _ l9).trans kc9
    have ea := (xa.2 _ p9).trans e9
    have fa := (xa.2 _ u9).trans k9
    have la := Nat.lt_of_lt_of_le l9 xa.1
    have pa := Nat.lt_of_lt_of_le p9 xa.1
    have ua := Nat.lt_of_lt_of_le u9 xa.1
    repeat (first | refine sS ?_ | refine sE ?_ | refine w_mv rfl ?_ | refine w_ext rfl rfl ?_ | (refine is_ldn ?_; refine w_ldn rfl (by first | exact rd_all ‹_› rfl | exact rd_newn rfl | assumption) ?_) | refine ai_seq ?_ | refine ai_regW ?_)
    refine w_call rfl ((rprint_ok c _).mono ?_)
    rintro _ gb ⟨rfl, xb⟩
    have eb := (xb.2 _ pa).trans ea
    have fb := (xb.2 _ ua).trans fa
    have pb := Nat.lt_of_lt_of_le pa xb.1
    have ub := Nat.lt_of_lt_of_le ua xb.1
    repeat (first | refine sS ?_ | refine sE ?_ | refine w_mv rfl ?_ | refine w_ext rfl rfl ?_ | refine ai_seq ?_ | refine ai_regW ?_)
    refine w_call rfl ((told_ok _).mono ?_)
    rintro _ gc ⟨rfl, xc⟩
    have ec := (xc.2 _ pb).trans eb
    have fc := (xc.2 _ ub).trans fb
    repeat (first | refine sS ?_ | refine w_mv rfl ?_ | refine w_pickT rfl ?_ | (refine is_okn rfl ?_; refine w_op rfl ?_) | refine w_gT rfl rfl ?_ | (refine w_cmp (c2 := true) rfl ?_ ?_; focus (first | exact decide_eq_true (by omega) | (simp; done) | (simp; omega))))
    rw [beq_self_eq_true]
    repeat (first | refine sS ?_ | refine w_mv rfl ?_ | refine w_gT rfl rfl ?_)
    refine w_call rfl ((show_ok hn _).mono ?_)
    rintro _ _ ⟨rfl, rfl⟩
    repeat (first | refine sS ?_ | refine w_mv rfl ?_ | refine w_gT rfl rfl ?_)
    refine w_call rfl ((rshow_ok hn _).mono ?_)
    rintro _ _ ⟨rfl, rfl⟩
    repeat (first | refine sS ?_ | refine w_mv rfl ?_ | refine w_pickT rfl ?_ | refine w_gT rfl rfl ?_ | (refine is_ldn ?_; refine w_ldn rfl (by first | exact rd_all ‹_› rfl | exact rd_newn rfl | assumption) ?_) | (refine w_cmp (c2 := true) rfl ?_ ?_; focus (first | exact decide_eq_true (by omega) | (simp; done) | (simp; omega))))
    refine w_eqS rfl rfl (ks := List.replicate 20 (.int .i64)) (by kernel_rfl) rfl rfl ?_
    intro bb hbb
    obtain rfl : bb = true := hbb.2 rfl
    repeat (first | refine sS ?_ | refine sE ?_ | refine w_mv rfl ?_ | refine w_pickT rfl ?_ | refine w_gT rfl rfl ?_ | (refine w_cmp (c2 := true) rfl ?_ ?_; focus (first | exact decide_eq_true (by omega) | (simp; done) | (simp; omega))) | (refine ai_ret ?_; repeat (first | rw [thenQ_r] | rw [blockQ_r] | rw [roundE_r])))
    exact end_one rfl rfl
end Go.Proofs.YtapbmmlgmcmpnaaDoorW.Am
/- Arguments of the text's laws: strings, rows of strings, a conf. -/
namespace Go.Proofs.YtapbmmlgmcmpnaaDoorW.Am
open Go Go.RowKit
section
variable {P : Program} {h : Hp} {n : Nat} {t : TypeId} {cs : List Value}
theorem tv_int {k : IntKind} (hu : P.underlying t = some (.int k)) (e : Tv P h n t cs) : ∃ x, cs = [.int k x] ∧ (Lit.int k x).wf = true := by
  cases n with
  | zero => exact e.elim
  | succ n => unfold Tv at e; rw [hu] at e; exact e
theorem tv_string (hu : P.underlying t = some .string) (e : Tv P h n t cs) : ∃ s, cs = [.string s] ∧ s.size ≤ maxLen := by
  cases n with
  | zero => exact e.elim
  | succ n => unfold Tv at e; rw [hu] at e; exact e
theorem tv_slice {el : TypeId} (hu : P.underlying t = some (.slice el)) (e : Tv P h n t cs) : ∃ m s us, cs = [s] ∧ RR (P.cellsOf el) h s us ∧ (∀ u ∈ us, Tv P h m el u) ∧ us.length ≤ maxLen ∧ ∃ x c, s = .slice x us.length c ∧ us.length ≤ c := by
  cases n with
  | zero => exact e.elim
  | succ n => unfold Tv at e; rw [hu] at e; exact ⟨n, e⟩
theorem tv_struct {fs : Array Field} {l : List TypeId} (hu : P.underlying t = some (.struct fs)) (hl : fs.toList.map (·.type) = l) (e : Tv P h n t cs) : ∃ m, Fld (Tv P h m) l cs := by
  cases n with
  | zero => exact e.elim
  | succ n => unfold Tv at e; rw [hu] at e; subst hl; exact ⟨n, e⟩
end
theorem i64_of {x : Int} (h : (Lit.int .i64 x).wf = true) : I64 x := by
  unfold Lit.wf at h
  rw [Bool.and_eq_true] at h
  have h1 := of_decide_eq_true h.1
  have h2 := of_decide_eq_true h.2
  have e1 : IntKind.i64.min = -9223372036854775808 := by decide
  have e2 : IntKind.i64.max = 9223372036854775807 := by decide
  rw [e1] at h1
  rw [e2] at h2
  exact ⟨h1, h2⟩
theorem tv_i64 {h : Hp} {n : Nat} {t : TypeId} {cs : List Value} (e : Tv PX h n t cs) (hu : PX.underlying t = some (.int .i64) := by first | exact Go.Proofs.Tryd.underlying3 | exact Go.Proofs.Tryd.underlying2) : ∃ x, cs = [nI x] ∧ I64 x := by
  obtain ⟨x, h1, h2⟩ := tv_int hu e
  exact ⟨x, h1, i64_of h2⟩
theorem str_of {h : Hp} {n : Nat} {cs : List Value} (e : Tv PX h n 9 cs) : ∃ s, cs = [bs s] ∧ s.length ≤ maxLen := by
  obtain ⟨s, rfl, hs⟩ := tv_string Go.Proofs.Tryd.underlying9 e
  exact ⟨s.data.toList, by simp [bs], by simpa using hs⟩
theorem strs_all : ∀ {us : List (List Value)}, (∀ u ∈ us, ∃ s, u = [bs s] ∧ s.length ≤ maxLen) → ∃ ls : List (List UInt8), us = rB ls ∧ ∀ l ∈ ls, l.length ≤ maxLen
  | [], _ => ⟨[], rfl, fun _ h => by cases h⟩
  | u :: us, h => by
    obtain ⟨s, rfl, hs⟩ := h u List.mem_cons_self
    obtain ⟨ls, rfl, hl⟩ := strs_all (us := us) fun x hx => h x (List.mem_cons_of_mem _ hx)
    refine ⟨s :: ls, rfl, fun l hx => ?_⟩
    rcases List.mem_cons.1 hx with rfl | hx
    · exact hs
    · exact hl l hx
theorem strs_of {h : Hp} {n : Nat} {cs : List Value} (e : Tv PX h n 30 cs) : ∃ s, ∃ ls : List (List UInt8), cs = [s] ∧ RR 1 h s (rB ls) ∧ ls.length ≤ maxLen ∧ ∀ l ∈ ls, l.length ≤ maxLen := by
  obtain ⟨m, s, us, rfl, r, hu, hl, _⟩ := tv_slice Go.Proofs.Tryd.underlying30 e
  obtain ⟨ls, rfl, hls⟩ := strs_all fun u hu' => str_of (hu u hu')
  rw [rB_len] at hl
  rw [show PX.cellsOf 9 = 1 by kernel_rfl] at r
  exact ⟨s, ls, rfl, r, hl, hls⟩
theorem fld_i64 : ∀ (k : Nat) {h : Hp} {n : Nat} {l : List TypeId} {cs : List Value}, Fld (Tv PX h n) l cs → l.length = k → (∀ t ∈ l, t = 2 ∨ t = 3) → ∃ xs : List Int, cs = xs.map nI ∧ xs.length = k ∧ ∀ x ∈ xs, I64 x
  | 0, h, n, l, cs, e, hl, _ => by
    obtain rfl := List.length_eq_zero_iff.1 hl
    have e : cs = [] := e
    subst e
    exact ⟨[], rfl, rfl, fun _ h => by cases h⟩
  | k + 1, h, n, [], cs, e, hl, _ => by simp at hl
  | k + 1, h, n, t :: l, cs, e, hl, ht => by
    obtain ⟨a, b, rfl, h1, h2⟩ := e
    obtain ⟨xs, rfl, h3, h4⟩ := fld_i64 k h2 (by simpa using hl) fun t h => ht t (List.mem_cons_of_mem _ h)
    have : ∃ x, a = [nI x] ∧ I64 x := by
      rcases ht t List.mem_cons_self with rfl | rfl
      · exact tv_i64 h1 Go.Proofs.Tryd.underlying2
      · exact tv_i64 h1 Go.Proofs.Tryd.underlying3
    obtain ⟨x, rfl, hx⟩ := this
    refine ⟨x :: xs, rfl, by simp [h3], fun y hy => ?_⟩
    rcases List.mem_cons.1 hy with rfl | hy
    · exact hx
    · exact h4 y hy
/-- Every part is in range. -/
def CfI (c : Cf20) : Prop := ∀ v ∈ cs20 c, ∃ x, v = nI x ∧ I64 x
theorem conf_of {h : Hp} {n : Nat} {cs : List Value} (e : Tv PX h n 24 cs) : ∃ c : Cf20, cs = cs20 c ∧ CfI c := by
  obtain ⟨m, e⟩ := tv_struct (l := [2, 2, 3, 3, 3, 2, 2, 2, 3, 3, 3, 3, 3, 2, 3, 3, 3, 3, 3, 3]) Go.Proofs.Tryd.underlying24 rfl e
  obtain ⟨xs, rfl, hl, hx⟩ := fld_i64 20 e rfl (by decide)
  match xs, hl with
  | [x1, x2, x3, x4, x5, x6, x7, x8, x9, x10, x11, x12, x13, x14, x15, x16, x17, x18, x19, x20], _ =>
    refine ⟨⟨x1, x2, x3, x4, x5, x6, x7, x8, x9, x10, x11, x12, x13, x14, x15, x16, x17, x18, x19, x20⟩, rfl, fun v hv => ?_⟩
    obtain ⟨x, hx', rfl⟩ := List.mem_map.1 (show v ∈ List.map nI [x1, x2, x3, x4, x5, x6, x7, x8, x9, x10, x11, x12, x13, x14, x15, x16, x17, x18, x19, x20] from hv)
    exact ⟨x, rfl, hx x hx'⟩
theorem rvs_ints {m : Mu} : ∀ {us cs : List Value}, (∀ v ∈ us, ∃ x, v = nI x) → RVs m us cs → cs = us
  | us, cs, h, r => by
    refine List.ext_getElem? fun i => ?_
    rcases Nat.lt_or_ge i us.length with hi | hi
    · have hi' : i < cs.length := by rw [← r.1]; exact hi
      have := r.2 i _ _ (List.getElem?_eq_getElem hi) (List.getElem?_eq_getElem hi')
      obtain ⟨x, hx⟩ := h _ (List.getElem_mem hi)
      rw [List.getElem?_eq_getElem hi, List.getElem?_eq_getElem hi']
      rw [hx] at this ⊢
      generalize cs[i] = y at this
      cases this
      rfl
    · rw [List.getElem?_eq_none hi, List.getElem?_eq_none (by rw [← r.1]; exact hi)]
theorem conf_rv {m : Mu} {c : Cf20} {a : Array Value} (h : RVs m (cs20 c) a.toList) : RV m (.agg ⟨cs20 c⟩) (.agg a) :=
  RV.agg h.1 h.2
end Go.Proofs.YtapbmmlgmcmpnaaDoorW.Am
/- Texts: what is shown is read as it; what is printed is read as it. -/
namespace Go.Proofs.YtapbmmlgmcmpnaaDoorW.Am
open Go Go.RowKit
def frL (p : Nat) : List UInt8 := Go.Lib.trimRightB [UInt8.ofNat (48 + p / 100), UInt8.ofNat (48 + p / 10 % 10), UInt8.ofNat (48 + p % 10)] 48
theorem fr_facts : ∀ p, p < 1000 → (p == 0 || ((frL p).all isDig && decide (1 ≤ (frL p).length) && decide ((frL p).length ≤ 3) && (valA 0 (frL p) * 10 ^ (3 - (frL p).length) == p))) = true := by decide +kernel
theorem frac_eq (a : Nat) (h : a % 1000 ≠ 0) : fracB (a : Int) = 46 :: frL (a % 1000) := by
  unfold fracB frL
  rw [if_neg (by omega), show (1000 : Int) + (a : Int) % 1000 = ((1000 + a % 1000 : Nat) : Int) by omega, itoa_nn, dec4 (by omega)]
  rfl
theorem show_sg {n : Int} (h : -1000000000000 < n ∧ n < 1000000000000) : showF n = sgL (decide (n < 0)) (Go.Lib.decDigits (n.natAbs / 1000) ++ fracB (n.natAbs : Int)) := by
  have e : absB n = (n.natAbs : Int) := by unfold absB; split <;> omega
  unfold showF
  rw [e, show (n.natAbs : Int) / 1000 = ((n.natAbs / 1000 : Nat) : Int) by omega, itoa_nn]
  by_cases hn : n < 0
  · rw [if_pos hn, decide_eq_true hn]
    simp [sgL]
  · rw [if_neg hn, decide_eq_false hn]
    simp [sgL]
theorem num_show {n : Int} (h : -1000000000000 < n ∧ n < 1000000000000) : numF (showF n) = some n := by
  obtain ⟨d1, d2, d3⟩ := dec_facts (n.natAbs / 1000)
  have d4 := dec_short 8 (n.natAbs / 1000) (by omega)
  have hDn : Go.Lib.decDigits (n.natAbs / 1000) ≠ [] := by intro e; rw [e] at d3; simp at d3
  have hs : sgn (decide (n < 0)) (n.natAbs : Int) = n := by
    unfold sgn
    by_cases hn : n < 0
    · rw [decide_eq_true hn, if_pos rfl]; omega
    · rw [decide_eq_false hn, if_neg (by decide)]; omega
  rw [show_sg h, numF_sg (dig_head d1 _ hDn)]
  by_cases h0 : n.natAbs % 1000 = 0
  · have : fracB (n.natAbs : Int) = [] := if_pos (by omega)
    rw [this, List.append_nil, numU_int d1 d3 d4, d2]
    show some (sgn _ ((n.natAbs / 1000 * 1000 : Nat) : Int)) = _
    rw [show n.natAbs / 1000 * 1000 = n.natAbs by omega, hs]
  · have hf := fr_facts (n.natAbs % 1000) (by omega)
    simp only [Bool.or_eq_true, Bool.and_eq_true, beq_iff_eq, decide_eq_true_eq, h0, false_or] at hf
    obtain ⟨⟨⟨f1, f2⟩, f3⟩, f4⟩ := hf
    rw [frac_eq _ h0, numU_pt d1 d3 d4 f1 f2 f3, d2, f4]
    show some (sgn _ ((n.natAbs / 1000 * 1000 + n.natAbs % 1000 : Nat) : Int)) = _
    rw [show n.natAbs / 1000 * 1000 + n.natAbs % 1000 = n.natAbs by omega, hs]
def shC (b : UInt8) : Bool := isDig b || b == 45 || b == 46
theorem dig_shC {l : List UInt8} (h : l.all isDig = true) : l.all shC = true := by
  rw [List.all_eq_true] at h ⊢
  intro b hb
  unfold shC
  rw [h b hb]
  rfl
theorem show_all {n : Int} (h : -1000000000000 < n ∧ n < 1000000000000) : (showF n).all shC = true ∧ showF n ≠ [] := by
  obtain ⟨d1, _, d3⟩ := dec_facts (n.natAbs / 1000)
  have hDn : Go.Lib.decDigits (n.natAbs / 1000) ≠ [] := by intro e; rw [e] at d3; simp at d3
  have hfr : (fracB (n.natAbs : Int)).all shC = true := by
    by_cases h0 : n.natAbs % 1000 = 0
    · have : fracB (n.natAbs : Int) = [] := if_pos (by omega)
      rw [this]
      rfl
    · have hf := fr_facts (n.natAbs % 1000) (by omega)
      simp only [Bool.or_eq_true, Bool.and_eq_true, beq_iff_eq, decide_eq_true_eq, h0, false_or] at hf
      rw [frac_eq _ h0, List.all_cons, dig_shC hf.1.1.1]
      rfl
  rw [show_sg h]
  have h2 : (Go.Lib.decDigits (n.natAbs / 1000) ++ fracB (n.natAbs : Int)).all shC = true := by rw [List.all_append, dig_shC d1, hfr]; rfl
  unfold sgL
  split
  · exact ⟨by rw [List.all_cons, h2]; rfl, by simp⟩
  · exact ⟨h2, by simp [hDn]⟩
theorem may_s {c : Cf20} (h : mayB c = true) : ∀ (k : Nat) x, (vl c)[k]? = some x → thinK k = false → x < 1000000 := by
  unfold mayB wrL wrB inB at h
  simp only [List.all_cons, List.all_nil, Bool.and_eq_true, decide_eq_true_eq, Bool.or_eq_true, beq_iff_eq, and_true] at h
  obtain ⟨h0, h1, h2, h3, h4, h5, h6, h7, h8, h9, h10, h11, h12, h13, h14, h15, h16, h17, h18, h19⟩ := h
  have hm : (if c.max = 0 then 100 else c.max) ≤ 100 := by
    split
    · omega
    · rcases h9 with h9 | h9
      · omega
      · omega
  have h9b : 0 ≤ c.max ∧ c.max ≤ 100 := by
    rcases h9 with h9 | h9
    · omega
    · have := h9.1; split at this <;> omega
  intro k x hk
  match k with
  | 0 => exact fun e => absurd e (by decide)
  | 1 => exact fun e => absurd e (by decide)
  | 2 => cases hk; exact fun _ => by omega
  | 3 => cases hk; exact fun _ => by omega
  | 4 => cases hk; exact fun _ => by omega
  | 5 => exact fun e => absurd e (by decide)
  | 6 => exact fun e => absurd e (by decide)
  | 7 => exact fun e => absurd e (by decide)
  | 8 => cases hk; exact fun _ => by omega
  | 9 => cases hk; exact fun _ => by omega
  | 10 => cases hk; exact fun _ => by omega
  | 11 => cases hk; exact fun _ => by omega
  | 12 => cases hk; exact fun _ => by omega
  | 13 => exact fun e => absurd e (by decide)
  | 14 => cases hk; exact fun _ => by omega
  | 15 => cases hk; exact fun _ => by omega
  | 16 => cases hk; exact fun _ => by omega
  | 17 => cases hk; exact fun _ => by omega
  | 18 => cases hk; exact fun _ => by omega
  | 19 => cases hk; exact fun _ => by omega
  | k + 20 => simp [vl] at hk
/-- What is shown of a part: its bytes, and that it is read as it. -/
theorem shown_ok {k : Nat} {x : Int} (h1 : -1000 ≤ x ∧ x ≤ 100000000) (h2 : thinK k = false → 0 ≤ x ∧ x < 1000000) : ((shownF k x).all shC = true ∧ shownF k x ≠ []) ∧ setF k (shownF k x) = some x := by
  unfold shownF setF
  by_cases ht : thinK k = true
  · rw [if_pos ht, if_pos ht]
    exact ⟨show_all (by omega), num_show (by omega)⟩
  · rw [if_neg ht, if_neg ht]
    obtain ⟨h3, h4⟩ := h2 (by simpa using ht)
    obtain ⟨m, rfl⟩ : ∃ m : Nat, x = (m : Int) := ⟨x.toNat, by omega⟩
    rw [itoa_nn, digF_dec (k := 5) (by omega)]
    obtain ⟨d1, _, d3⟩ := dec_facts m
    exact ⟨⟨dig_shC d1, by intro e; rw [e] at d3; simp at d3⟩, rfl⟩
def lnP (l : List Int) (k : Nat) : List UInt8 := nmB.getD k [] ++ 58 :: 32 :: shownF k (l.getD k 0)
theorem prU_succ (l : List Int) (k : Nat) (t : List UInt8) : prU l (k + 1) ++ t = prU l k ++ (lnP l k ++ 10 :: t) := by
  show (prU l k ++ ((nmB.getD k [] ++ [58, 32]) ++ (shownF k (l.getD k 0) ++ [10]))) ++ t = _
  unfold lnP
  simp
theorem nm_facts : ∀ k, k < 20 → ((nmB.getD k []).all (fun b => b != 58 && b != 10) && (match nmB.getD k [] with | [] => false | a :: _ => a != 32 && a != 35) && (findN (nmB.getD k []) == some k)) = true := by decide +kernel
theorem trimR_no {m : List UInt8} {b c : UInt8} (h : b ≠ c) : Go.Lib.trimRightB (m ++ [b]) c = m ++ [b] := by
  unfold Go.Lib.trimRightB
  rw [List.reverse_append, List.reverse_singleton, List.singleton_append, List.dropWhile_cons, if_neg (by simpa using h)]
  simp
/-- A printed line, read. -/
theorem lnP_ok {l : List Int} {k : Nat} (hk : k < 20) {x : Int} (hx : l[k]? = some x) (h1 : -1000 ≤ x ∧ x ≤ 100000000) (h2 : thinK k = false → 0 ≤ x ∧ x < 1000000) :
    (∀ b ∈ lnP l k, b ≠ 10) ∧ Go.Lib.trimB (lnP l k) 32 = lnP l k ∧ blankB (lnP l k) = false ∧ lineF setF (lnP l k) = some (k, x) := by
  obtain ⟨⟨s1, s2⟩, s3⟩ := shown_ok (k := k) h1 h2
  have hf := nm_facts k hk
  simp only [Bool.and_eq_true, beq_iff_eq, List.all_eq_true, bne_iff_ne, ne_eq] at hf
  obtain ⟨⟨f1, f2⟩, f3⟩ := hf
  have hd : l.getD k 0 = x := by rw [List.getD_eq_getElem?_getD, hx]; rfl
  unfold lnP
  rw [hd]
  obtain ⟨nm, hnm⟩ : ∃ nm, nmB.getD k [] = nm := ⟨_, rfl⟩
  rw [hnm] at f1 f2 f3 ⊢
  obtain ⟨sh, hsh⟩ : ∃ sh, shownF k x = sh := ⟨_, rfl⟩
  rw [hsh] at s1 s2 s3 ⊢
  have s4 : ∀ b ∈ sh, b ≠ 10 ∧ b ≠ 32 := by
    intro b hb
    have hs := List.all_eq_true.1 s1 b hb
    constructor
    · intro e; rw [e] at hs; exact absurd hs (by decide)
    · intro e; rw [e] at hs; exact absurd hs (by decide)
  match nm, f2 with
  | a :: r, f2 =>
    simp only [Bool.and_eq_true, bne_iff_ne, ne_eq] at f2
    refine ⟨?_, ?_, ?_, ?_⟩
    · intro b hb
      rcases List.mem_append.1 hb with hb | hb
      · exact (f1 b hb).2
      · rcases List.mem_cons.1 hb with rfl | hb
        · decide
        · rcases List.mem_cons.1 hb with rfl | hb
          · decide
          · exact (s4 b hb).1
    · have e : (a :: r) ++ 58 :: 32 :: sh = ((a :: r) ++ 58 :: 32 :: sh.dropLast) ++ [sh.getLast s2] := by
        have := List.dropLast_concat_getLast s2
        rw [List.append_assoc]
        simp only [List.cons_append]
        rw [this]
      have hl := (s4 _ (List.getLast_mem s2)).2
      rw [e]
      unfold Go.Lib.trimB
      rw [trimR_no hl]
      unfold Go.Lib.trimLeftB
      rw [List.cons_append, List.cons_append, List.dropWhile_cons, if_neg (by simpa using f2.1)]
    · show (a == 35) = false
      simpa using f2.2
    · unfold lineF
      rw [cut_app fun b hb => (f1 b hb).1]
      dsimp only
      rw [f3]
      show (setF k sh).map _ = _
      rw [s3]
      rfl
theorem lines_prU {l : List Int} (hl : ∀ k, k < 20 → ∀ b ∈ lnP l k, b ≠ 10) : ∀ (k : Nat) (t : List UInt8), k ≤ 20 → linesL (prU l k ++ t) = (List.range k).map (lnP l) ++ linesL t
  | 0, t, _ => rfl
  | k + 1, t, hk => by
    rw [prU_succ, lines_prU hl k _ (by omega), lines_cons _ (hl k (by omega)), List.range_succ, List.map_append, List.append_assoc]
    rfl
theorem parse_prU {l v : List Int} (hl : l.length = 20) (hv : v.length = 20) (h : ∀ k x, k < 20 → l[k]? = some x → Go.Lib.trimB (lnP l k) 32 = lnP l k ∧ blankB (lnP l k) = false ∧ lineF setF (lnP l k) = some (k, x)) :
    ∀ (k : Nat) (R : List (List UInt8)), k ≤ 20 → parseL setF ((List.range k).map (lnP l) ++ R) 0 v [] = parseL setF R k (l.take k ++ v.drop k) (List.range k)
  | 0, R, _ => by simp
  | k + 1, R, hk => by
    rw [List.range_succ, List.map_append, List.append_assoc, parse_prU hl hv h k _ (by omega)]
    have hk' : k < l.length := by omega
    obtain ⟨h1, h2, h3⟩ := h k l[k] (by omega) (List.getElem?_eq_getElem hk')
    show parseL setF (lnP l k :: R) k _ _ = _
    rw [parseL, h1, h2, h3]
    dsimp only
    rw [if_neg (by decide), if_neg (by simp)]
    suffices e : (l.take k ++ v.drop k).set k l[k] = l.take (k + 1) ++ v.drop (k + 1) by rw [e]
    refine List.ext_getElem? fun i => ?_
    have hlt : (l.take k).length = k := by rw [List.length_take]; omega
    have hlt2 : (l.take (k + 1)).length = k + 1 := by rw [List.length_take]; omega
    rw [List.getElem?_set]
    rcases Nat.lt_trichotomy i k with hi | rfl | hi
    · rw [if_neg (by omega), List.getElem?_append_left (by omega), List.getElem?_append_left (by omega), List.getElem?_take, List.getElem?_take, if_pos hi, if_pos (by omega)]
    · rw [if_pos rfl, if_pos (by simp; omega), List.getElem?_append_left (by omega), List.getElem?_take, if_pos (by omega), List.getElem?_eq_getElem hk']
    · rw [if_neg (by omega), List.getElem?_append_right (by omega), List.getElem?_append_right (by omega), hlt, hlt2, List.getElem?_drop, List.getElem?_drop]
      congr 1
      omega
theorem parse_print {c : Cf20} (h : mayB c = true) (d : Cf20) : parseF setF d (prU (vl c) 20) = (c, 0, 0) := by
  have hb := may_b h
  have hs := may_s h
  have hall : ∀ k x, k < 20 → (vl c)[k]? = some x → (∀ b ∈ lnP (vl c) k, b ≠ 10) ∧ Go.Lib.trimB (lnP (vl c) k) 32 = lnP (vl c) k ∧ blankB (lnP (vl c) k) = false ∧ lineF setF (lnP (vl c) k) = some (k, x) := fun k x hk hx =>
    lnP_ok hk hx (hb k x hx).1 fun ht => ⟨(hb k x hx).2 ht, hs k x hx ht⟩
  have e1 := lines_prU (l := vl c) (fun k hk => (hall k _ hk (List.getElem?_eq_getElem (by exact hk))).1) 20 [] (Nat.le_refl _)
  rw [List.append_nil] at e1
  unfold parseF
  rw [e1, parse_prU (v := vl d) rfl rfl (fun k x hk hx => (hall k x hk hx).2) 20 _ (Nat.le_refl _)]
  have e2 : (vl c).take 20 ++ (vl d).drop 20 = vl c := rfl
  rw [e2]
  have e3 : parseL setF (linesL []) 20 (vl c) (List.range 20) = .ok (vl c) := rfl
  rw [e3]
  show (if mayB (ofL (vl c)) = true then (ofL (vl c), 0, 0) else (d, 5, 0)) = _
  rw [ofL_vl, if_pos h]
theorem parse_none {c : Cf20} (h : mayB c = true) : parseF setF c [] = (c, 0, 0) := by
  have e3 : parseL setF (linesL []) 0 (vl c) [] = .ok (vl c) := rfl
  unfold parseF
  rw [e3]
  show (if mayB (ofL (vl c)) = true then (ofL (vl c), 0, 0) else (c, 5, 0)) = _
  rw [ofL_vl, if_pos h]
end Go.Proofs.YtapbmmlgmcmpnaaDoorW.Am
/- Texts: the law TextBack. -/
namespace Go.Proofs.YtapbmmlgmcmpnaaDoorW.Am
open Go Go.RowKit
section
variable {P : Program} {CT : FuncId → List Value → Hp → (Value → Hp → Prop) → Prop} {d : Option Nat} {xs : List Operand} {env : Env} {h : Hp} {R : Value → Hp → Prop} {a b : Int}
theorem w_remT (e : mapF env xs = some [.int .i64 a, .int .i64 b]) (hb : 0 < b) (n : ∀ m, -b < m ∧ m < b → R (nI m) h) : WI P CT ⟨d, none, .op (.bin .rem) xs⟩ env h R := by
  have h1 : -b < a.tmod b := by have := Int.lt_tmod_of_pos a hb; omega
  have h2 : a.tmod b < b := Int.tmod_lt_of_pos a hb
  refine w_op (v := nI (a.tmod b)) (h' := h) ?_ (n _ ⟨h1, h2⟩)
  unfold opF
  rw [e]
  have : IntKind.i64 = IntKind.i64 ∧ b ≠ 0 := ⟨rfl, by omega⟩
  show (if IntKind.i64 = IntKind.i64 ∧ b ≠ 0 then some (Value.int .i64 (a.tmod b)) else none).map (·, h) = _
  rw [if_pos this]
  rfl
end
set_option maxRecDepth 10000 in
set_option maxHeartbeats 4000000 in
theorem tback_ok (n : Int) (c d : Cf20) (h : Hp) : ACall PX 5 [nI n, .agg ⟨cs20 c⟩, .agg ⟨cs20 d⟩] h (fun v _ => v = .bool true) := by
  refine acall Go.Proofs.Tryd.func5 c5 (by simp [ir5]) ?_
  unfold ir5
  dsimp only
  refine ai_seq (ai_regW (sS (w_box rfl fun g1 x1 k1 n1 => ?_)))
  refine sS (w_box rfl fun g2 x2 k2 n2 => ?_)
  have kc2 := (x2.2 _ n1).trans k1
  have l2 : h.nx < g2.nx := Nat.lt_of_lt_of_le n1 x2.1
  repeat (first | refine sS ?_ | refine sE ?_ | refine w_mv rfl ?_ | refine ai_seq ?_ | refine ai_regW ?_)
  refine w_remT rfl (by decide) fun m hm => ?_
  have hI : I64 m := ⟨by omega, by omega⟩
  have hsl : (showF m).length ≤ 1000000 := by
    rw [show_sg hm]
    have := dec_short 8 (m.natAbs / 1000) (by omega)
    have hfl : (fracB (m.natAbs : Int)).length ≤ 4 := by
      by_cases h0 : m.natAbs % 1000 = 0
      · have : fracB (m.natAbs : Int) = [] := if_pos (by omega)
        rw [this]
        exact Nat.zero_le _
      · have hf := fr_facts (m.natAbs % 1000) (by omega)
        simp only [Bool.or_eq_true, Bool.and_eq_true, beq_iff_eq, decide_eq_true_eq, h0, false_or] at hf
        rw [frac_eq _ h0, List.length_cons]
        omega
    unfold sgL
    split
    · rw [List.length_cons, List.length_append]; omega
    · rw [List.length_append]; omega
  have c1 := fun g => number_ok (showF m) hsl g
  rw [num_show hm] at c1
  repeat (first | refine sS ?_ | refine sE ?_ | refine w_mv rfl ?_ | refine ai_seq ?_ | refine ai_regW ?_)
  refine w_call rfl ((show_ok hI _).mono ?_)
  rintro _ _ ⟨rfl, rfl⟩
  repeat (first | refine sS ?_)
  refine w_call rfl ((c1 _).mono ?_)
  rintro _ _ ⟨rfl, rfl⟩
  repeat (first | refine sS ?_ | refine sE ?_ | refine w_mv rfl ?_ | refine w_pickF rfl ?_ | (refine is_okn rfl ?_; refine w_op rfl ?_) | refine w_ext rfl rfl ?_ | refine w_gT rfl rfl ?_ | (refine is_ldn ?_; refine w_ldn rfl (by first | exact rd_all ‹_› rfl | exact rd_newn rfl | assumption) ?_) | (refine w_cmp (c2 := false) rfl ?_ ?_; focus (first | exact decide_eq_false (by omega) | (simp; done) | (simp; omega))) | refine ai_seq ?_ | refine ai_regW ?_ | refine ai_condF (b := false) rfl (fun hb => by cases hb) (fun _ => ?_) | refine ai_skip ?_)
  refine w_call rfl ((print_ok c _).mono ?_)
  rintro _ g3 ⟨rfl, x3⟩
  have k3 := (x3.2 _ l2).trans kc2
  have kd3 := (x3.2 _ n2).trans k2
  have l3 := Nat.lt_of_lt_of_le l2 x3.1
  have ld3 := Nat.lt_of_lt_of_le n2 x3.1
  unfold printF
  cases hmay : mayB c
  · repeat (first | refine sS ?_ | refine sE ?_ | refine w_mv rfl ?_ | refine w_ext rfl rfl ?_ | (refine w_cmp (c2 := true) rfl ?_ ?_; focus (first | exact decide_eq_true (by omega) | (simp; done) | (simp; omega))) | refine ai_seq ?_ | refine ai_regW ?_ | refine ai_condF (b := true) rfl (fun _ => ?_) (fun hb => by cases hb))
    refine w_call rfl ((told_ok _).mono ?_)
    rintro _ g4 ⟨rfl, x4⟩
    have k4 := (x4.2 _ l3).trans k3
    repeat (first | refine sS ?_ | refine w_mv rfl ?_ | refine w_gT rfl rfl ?_ | (refine is_ldn ?_; refine w_ldn rfl (by first | exact rd_all ‹_› rfl | exact rd_newn rfl | assumption) ?_))
    refine w_call rfl ((rmay_ok _ c).mono ?_)
    rintro _ g5 ⟨rfl, x5⟩
    rw [hmay]
    repeat (first | refine sS ?_ | refine sE ?_ | refine w_mv rfl ?_ | refine w_pickT rfl ?_ | (refine is_okn rfl ?_; refine w_op rfl ?_) | refine w_gT rfl rfl ?_ | (refine w_cmp (c2 := true) rfl ?_ ?_; focus (first | exact decide_eq_true (by omega) | (simp; done) | (simp; omega))) | (refine ai_ret ?_; repeat (first | rw [thenQ_r] | rw [blockQ_r] | rw [roundE_r])))
    exact end_one rfl rfl
  have pl := prU_len hmay 20 (Nat.le_refl _)
  have p1 := fun g => tparse_ok d (prU (vl c) 20) (by omega) g
  rw [parse_print hmay] at p1
  have p2 := fun g => tparse_ok c [] (Nat.zero_le _) g
  rw [parse_none hmay] at p2
  repeat (first | refine sS ?_ | refine sE ?_ | refine w_mv rfl ?_ | refine w_ext rfl rfl ?_ | (refine is_ldn ?_; refine w_ldn rfl (by first | exact rd_all ‹_› rfl | exact rd_newn rfl | assumption) ?_) | (refine w_cmp (c2 := false) rfl ?_ ?_; focus (first | exact decide_eq_false (by omega) | (simp; done) | (simp; omega))) | refine ai_seq ?_ | refine ai_regW ?_ | refine ai_condF (b := false) rfl (fun hb => by cases hb) (fun _ => ?_) | refine ai_skip ?_)
  refine w_call rfl ((p1 _).mono ?_)
  rintro _ g4 ⟨rfl, x4⟩
  have k4 := (x4.2 _ l3).trans k3
  have l4 := Nat.lt_of_lt_of_le l3 x4.1
  repeat (first | refine sS ?_ | refine w_mv rfl ?_ | refine w_ext rfl rfl ?_)
  refine w_new fun g5 x5 k5 m5 => ?_
  repeat (first | refine sSn ?_)
  refine w_stN rfl rfl k5 rfl rfl fun g6 q6 k6 m6 => ?_
  have k46 := (q6 _ (by omega)).trans ((x5.2 _ l4).trans k4)
  have l6 : h.nx < g6.nx := by have := x5.1; omega
  have p6 : g4.nx < g6.nx := by omega
  repeat (first | refine sS ?_ | refine sE ?_ | refine w_mv rfl ?_ | (refine is_ldn ?_; refine w_ldn rfl (by first | exact rd_all ‹_› rfl | exact rd_newn rfl | assumption) ?_) | refine ai_seq ?_ | refine ai_regW ?_)
  refine w_call rfl ((p2 _).mono ?_)
  rintro _ g7 ⟨rfl, x7⟩
  have k7 := (x7.2 _ l6).trans k46
  have e7 := (x7.2 _ p6).trans k6
  have l7 := Nat.lt_of_lt_of_le l6 x7.1
  have p7 := Nat.lt_of_lt_of_le p6 x7.1
  repeat (first | refine sS ?_ | refine w_mv rfl ?_ | refine w_ext rfl rfl ?_)
  refine w_new fun g8 x8 k8 m8 => ?_
  repeat (first | refine sSn ?_)
  refine w_stN rfl rfl k8 rfl rfl fun g9 q9 k9 m9 => ?_
  have kc9 := (q9 _ (by omega)).trans ((x8.2 _ l7).trans k7)
  have e9 := (q9 _ (by omega)).trans ((x8.2 _ p7).trans e7)
  have l9 : h.nx < g9.nx := by have := x8.1; omega
  have p9 : g4.nx < g9.nx := by have := x8.1; omega
  have u9 : g7.nx < g9.nx := by omega
  repeat (first | refine sS ?_ | refine sE ?_ | refine w_mv rfl ?_ | refine ai_seq ?_ | refine ai_regW ?_)
  refine w_call rfl ((told_ok _).mono ?_)
  rintro _ ga ⟨rfl, xa⟩
  have kca := (xa.2 _ l9).trans kc9
  have ea := (xa.2 _ p9).trans e9
  have fa := (xa.2 _ u9).trans k9
  repeat (first | refine sS ?_ | refine w_mv rfl ?_ | refine w_pickT rfl ?_ | refine w_gT rfl rfl ?_ | (refine is_ldn ?_; refine w_ldn rfl (by first | exact rd_all ‹_› rfl | exact rd_newn rfl | assumption) ?_) | (refine w_cmp (c2 := true) rfl ?_ ?_; focus (first | exact decide_eq_true (by omega) | (simp; done) | (simp; omega))))
  refine w_eqS rfl rfl (ks := List.replicate 20 (.int .i64)) (by kernel_rfl) rfl rfl ?_
  intro b1 hb1
  obtain rfl : b1 = true := hb1.2 rfl
  repeat (first | refine sS ?_ | refine w_mv rfl ?_ | refine w_pickT rfl ?_ | refine w_gT rfl rfl ?_ | (refine is_ldn ?_; refine w_ldn rfl (by first | exact rd_all ‹_› rfl | exact rd_newn rfl | assumption) ?_) | (refine w_cmp (c2 := true) rfl ?_ ?_; focus (first | exact decide_eq_true (by omega) | (simp; done) | (simp; omega))))
  refine w_eqS rfl rfl (ks := List.replicate 20 (.int .i64)) (by kernel_rfl) rfl rfl ?_
  intro b2 hb2
  obtain rfl : b2 = true := hb2.2 rfl
  repeat (first | refine sS ?_ | refine sE ?_ | refine w_mv rfl ?_ | refine w_pickT rfl ?_ | (refine ai_ret ?_; repeat (first | rw [thenQ_r] | rw [blockQ_r] | rw [roundE_r])))
  exact end_one rfl rfl
end Go.Proofs.YtapbmmlgmcmpnaaDoorW.Am
/- Texts: the law TextNames. -/
namespace Go.Proofs.YtapbmmlgmcmpnaaDoorW.Am
open Go Go.RowKit
/-- The default, printed. -/
def T0 : List UInt8 := [116, 97, 114, 103, 101, 116, 58, 32, 49, 48, 10, 117, 116, 105, 108, 58, 32, 48, 46, 55, 10, 115, 116, 97, 98, 108, 101, 58, 32, 54, 48, 10, 112, 97, 110, 105, 99, 58, 32, 54, 10, 103, 114, 97, 105, 110, 58, 32, 49, 10, 116, 104, 114, 101, 115, 104, 111, 108, 100, 58, 32, 50, 10, 117, 112, 58, 32, 49, 48, 10, 100, 111, 119, 110, 58, 32, 50, 10, 109, 105, 110, 58, 32, 48, 10, 109, 97, 120, 58, 32, 48, 10, 105, 110, 105, 116, 105, 97, 108, 58, 32, 49, 10, 103, 114, 97, 99, 101, 58, 32, 51, 48, 10, 100, 101, 108, 97, 121, 58, 32, 48, 10, 98, 117, 114, 115, 116, 58, 32, 50, 48, 10, 108, 105, 109, 105, 116, 58, 32, 49, 48, 10, 113, 117, 101, 117, 101, 58, 32, 49, 48, 48, 10, 116, 105, 109, 101, 111, 117, 116, 58, 32, 54, 48, 10, 114, 101, 97, 100, 121, 58, 32, 51, 10, 115, 117, 98, 115, 101, 116, 58, 32, 48, 10, 115, 97, 109, 112, 108, 101, 58, 32, 48, 10]
def L0 : List (List UInt8) := [[116, 97, 114, 103, 101, 116, 58, 32, 49, 48], [117, 116, 105, 108, 58, 32, 48, 46, 55], [115, 116, 97, 98, 108, 101, 58, 32, 54, 48], [112, 97, 110, 105, 99, 58, 32, 54], [103, 114, 97, 105, 110, 58, 32, 49], [116, 104, 114, 101, 115, 104, 111, 108, 100, 58, 32, 50], [117, 112, 58, 32, 49, 48], [100, 111, 119, 110, 58, 32, 50], [109, 105, 110, 58, 32, 48], [109, 97, 120, 58, 32, 48], [105, 110, 105, 116, 105, 97, 108, 58, 32, 49], [103, 114, 97, 99, 101, 58, 32, 51, 48], [100, 101, 108, 97, 121, 58, 32, 48], [98, 117, 114, 115, 116, 58, 32, 50, 48], [108, 105, 109, 105, 116, 58, 32, 49, 48], [113, 117, 101, 117, 101, 58, 32, 49, 48, 48], [116, 105, 109, 101, 111, 117, 116, 58, 32, 54, 48], [114, 101, 97, 100, 121, 58, 32, 51], [115, 117, 98, 115, 101, 116, 58, 32, 48], [115, 97, 109, 112, 108, 101, 58, 32, 48]]
theorem int_fu : ∀ k, k < 20 → shownF k ((vl dflt).getD k 0) = (if thinK k = true then showFu ((vl dflt).getD k 0) else itoaFu ((vl dflt).getD k 0)) := by
  intro k hk
  have h : ∀ k, k < 20 → decide (-9223372036854775808 ≤ (vl dflt).getD k 0 ∧ (vl dflt).getD k 0 ≤ 9223372036854775807) = true := by decide +kernel
  have hr := of_decide_eq_true (h k hk)
  unfold shownF
  split
  · exact show_fu hr
  · exact itoa_fu hr
def prFu : Nat → List UInt8
  | 0 => []
  | k + 1 => prFu k ++ ((nmB.getD k [] ++ [58, 32]) ++ ((if thinK k = true then showFu ((vl dflt).getD k 0) else itoaFu ((vl dflt).getD k 0)) ++ [10]))
theorem pr_fu : ∀ k, k ≤ 20 → prU (vl dflt) k = prFu k
  | 0, _ => rfl
  | k + 1, h => by
    show prU (vl dflt) k ++ _ = prFu k ++ _
    rw [pr_fu k (by omega), int_fu k (by omega)]
theorem pr_T0 : printF dflt = (T0, 0) := by
  have hm : mayB dflt = true := by kernel_rfl
  unfold printF
  rw [hm, if_pos rfl, pr_fu 20 (Nat.le_refl _)]
  have : prFu 20 = T0 := by kernel_rfl
  rw [this]
/-- The scan for a line, by its number: where the line began, how many were, the line. -/
def scS (X : Nat) : Nat → Nat × Nat × List UInt8
  | 0 => (0, 0, [])
  | i + 1 => if T0.getD i 0 = 10 then (i + 1, (scS X i).2.1 + 1, if (scS X i).2.1 = X then (T0.take i).drop (scS X i).1 else (scS X i).2.2) else scS X i
theorem sc_le (X : Nat) : ∀ i, (scS X i).1 ≤ i ∧ (scS X i).2.1 ≤ i
  | 0 => ⟨Nat.le_refl _, Nat.le_refl _⟩
  | i + 1 => by
    have := sc_le X i
    unfold scS
    split
    · exact ⟨Nat.le_refl _, by dsimp only; omega⟩
    · omega
def badL (ln : List UInt8) : Nat → List UInt8
  | 0 => [88] ++ ln.drop 1
  | 1 => ln.drop 1
  | 2 => ln ++ [32, 49]
  | 3 => ln ++ [120]
  | _ => (ln ++ [10]) ++ ln
theorem sc_end : ∀ X, X < 20 → (scS X T0.length == (T0.length, 20, L0.getD X [])) = true := by decide +kernel
theorem ln_len : ∀ X, X < 20 → (decide (5 ≤ (L0.getD X []).length) && decide ((L0.getD X []).length ≤ 30)) = true := by decide +kernel
theorem ln_parse : ∀ X, X < 20 → (vl (parseF setF dflt (L0.getD X [])).1 == vl dflt && (parseF setF dflt (L0.getD X [])).2 == (0, 0)) = true := by decide +kernel
theorem bad_parse : ∀ X, X < 20 → ∀ y, y < 5 → ((parseF setF dflt (badL (L0.getD X []) y)).2.1 != 0 && decide (1 ≤ (parseF setF dflt (badL (L0.getD X []) y)).2.2)) = true := by decide +kernel
end Go.Proofs.YtapbmmlgmcmpnaaDoorW.Am
/- Texts: the law TextNames, walked. -/
namespace Go.Proofs.YtapbmmlgmcmpnaaDoorW.Am
open Go Go.RowKit
set_option maxRecDepth 10000 in
set_option maxHeartbeats 4000000 in
theorem tnames_ok (a b : Int) (h : Hp) : ACall PX 8 [nI a, nI b] h (fun v _ => v = .bool true) := by
  have ha := u64_r a
  have hb := u64_r b
  obtain ⟨X, hX⟩ : ∃ X : Nat, IntKind.u64.wrap a % ((20 : Nat) : Int) = (X : Int) := ⟨(IntKind.u64.wrap a % 20).toNat, by omega⟩
  obtain ⟨Y, hY⟩ : ∃ Y : Nat, IntKind.u64.wrap b % 5 = (Y : Int) := ⟨(IntKind.u64.wrap b % 5).toNat, by omega⟩
  have hX20 : X < 20 := by omega
  have hY5 : Y < 5 := by omega
  have r1 := fun g => rprint_ok dflt g
  simp only [pr_T0] at r1
  have hz := sz_mk T0
  have hTl : T0.length = 194 := rfl
  refine acall Go.Proofs.Tryd.func8 c8 (by simp [ir8]) ?_
  unfold ir8
  dsimp only
  refine ai_seq ?_
  repeat (first | refine sS ?_ | refine sE ?_ | refine w_mv rfl ?_ | refine ai_regW ?_)
  refine ai_seq ?_
  repeat (first | refine sS ?_ | refine ai_regW ?_)
  refine w_call rfl ((names_ok _).mono ?_)
  rintro _ g1 ⟨rfl, x1, k1, n1⟩
  repeat (first | refine sS ?_ | refine sE ?_ | refine w_mv rfl ?_)
  refine ai_seq ?_
  repeat (first | refine sS ?_ | refine ai_regW ?_)
  refine w_call rfl ((default_ok _).mono ?_)
  rintro _ g2 ⟨rfl, x2⟩
  repeat (first | refine sS ?_)
  refine w_new fun g3 x3 k3 m3 => ?_
  repeat (first | refine sSn ?_)
  refine w_stN rfl rfl k3 rfl rfl fun g4 q4 k4 m4 => ?_
  repeat (first | refine sE ?_)
  refine ai_seq ?_
  repeat (first | refine sS ?_ | (refine is_ldn ?_; refine w_ldn rfl (by first | exact rd_all ‹_› rfl | exact rd_newn rfl | assumption) ?_) | refine ai_regW ?_)
  refine w_call rfl ((r1 _).mono ?_)
  rintro _ g5 ⟨rfl, x5⟩
  have k5 := (x5.2 _ (by omega)).trans k4
  repeat (first | refine sS ?_ | refine sE ?_ | refine w_mv rfl ?_ | refine w_ext rfl rfl ?_)
  refine ai_seq ?_
  repeat (first | refine sS ?_ | refine sE ?_ | refine w_mv rfl ?_ | (refine is_okn rfl ?_; refine w_op rfl ?_) | (refine w_ci rfl ?_ ?_; (focus omega)) | (refine w_cu rfl ?_ ?_; (focus omega)) | (refine w_rem rfl ?_ ?_ ?_; (focus omega); (focus omega)) | refine w_cuw rfl ?_ | refine ai_regW ?_)
  rw [hX]
  refine ai_seq ?_
  repeat (first | refine sS ?_ | refine sE ?_ | refine w_mv rfl ?_ | refine ai_regW ?_)
  refine ai_seq ?_
  repeat (first | refine sS ?_ | refine sE ?_ | refine w_mv rfl ?_ | refine ai_regW ?_)
  refine ai_join (γ := Unit) (fun _ => [(1, nI b), (6, .pointer (some ⟨g2.nx, 0, none⟩)), (8, nI 0), (11, nI 20), (12, bs (L0.getD X []))]) (fun _ g => g5 = g) ?_ ?_
  · repeat (first | refine sS ?_ | refine sE ?_ | refine w_mv rfl ?_ | refine ai_seq ?_ | refine ai_regW ?_ | refine ai_block ?_)
    refine ai_loopE (γ := Nat) (fun i => [(1, nI b), (6, .pointer (some ⟨g2.nx, 0, none⟩)), (7, bs T0), (8, nI 0), (9, nI X), (10, nI (scS X i).1), (11, nI (scS X i).2.1), (12, bs (scS X i).2.2), (13, nI i)]) (fun i g => g5 = g ∧ i ≤ T0.length) (fun i => T0.length - i) 0
      (by repeat (first | exact le_nil | refine le_consF rfl ?_)) ⟨rfl, Nat.zero_le _⟩ ?_
    rintro i _ ⟨rfl, hi⟩
    obtain ⟨hsc1, hsc2⟩ := sc_le X i
    by_cases hiX : i < T0.length
    · have hc : T0[i]? = some (T0.getD i 0) := by rw [List.getD_eq_getElem?_getD, List.getElem?_eq_getElem hiX]; rfl
      have hs : scS X (i + 1) = if T0.getD i 0 = 10 then (i + 1, (scS X i).2.1 + 1, if (scS X i).2.1 = X then (T0.take i).drop (scS X i).1 else (scS X i).2.2) else scS X i := rfl
      obtain ⟨c, hcE⟩ : ∃ c, T0.getD i 0 = c := ⟨_, rfl⟩
      rw [hcE] at hc hs
      obtain ⟨⟨f, n, s⟩, hse⟩ : ∃ z, scS X i = z := ⟨_, rfl⟩
      rw [hse] at hs hsc1 hsc2 ⊢
      dsimp only at hs hsc1 hsc2 ⊢
      repeat (first | refine sS ?_ | refine sE ?_ | refine w_mv rfl ?_ | (refine is_okn rfl ?_; refine w_op rfl ?_) | (refine w_cmp (c2 := true) rfl ?_ ?_; focus (first | exact decide_eq_true (by omega) | (simp; done) | (simp; omega))) | refine ai_seq ?_ | refine ai_regW ?_ | refine ai_condF (b := true) rfl (fun _ => ?_) (fun hb => by cases hb) | refine ai_skip ?_ | refine ai_block ?_)
      refine w_ixs (l := T0) rfl hc ?_
      by_cases hn : c = 10
      · subst hn
        rw [if_pos rfl] at hs
        by_cases hl : n = X
        · rw [if_pos hl] at hs
          subst hl
          repeat (first | refine sS ?_ | refine sE ?_ | refine w_mv rfl ?_ | (refine w_cmp (c2 := true) rfl ?_ ?_; focus (first | exact decide_eq_true (by omega) | (simp; done) | (simp; omega))) | (refine w_cmp (c2 := false) rfl ?_ ?_; focus (first | exact decide_eq_false (by omega) | (simp; done) | (simp; omega))) | refine ai_seq ?_ | refine ai_regW ?_ | refine ai_condF (b := true) rfl (fun _ => ?_) (fun hb => by cases hb) | refine ai_condF (b := false) rfl (fun hb => by cases hb) (fun _ => ?_) | refine ai_skip ?_)
          refine w_slsB (l := T0) rfl (by omega) (by omega) ?_
          repeat (first | refine sS ?_ | refine sE ?_ | refine w_mv rfl ?_ | (refine w_add rfl ?_ ?_; (focus omega)) | refine ai_seq ?_ | refine ai_regW ?_)
          exact ⟨i + 1, by dsimp only; rw [hs]; exact (by repeat (first | exact le_nil | refine le_consF rfl ?_)), ⟨rfl, by omega⟩, by dsimp only; omega⟩
        · rw [if_neg hl] at hs
          repeat (first | refine sS ?_ | refine sE ?_ | refine w_mv rfl ?_ | (refine w_add rfl ?_ ?_; (focus omega)) | (refine w_cmp (c2 := false) rfl ?_ ?_; focus (first | exact decide_eq_false (by omega) | (simp; done) | (simp; omega))) | refine ai_seq ?_ | refine ai_regW ?_ | refine ai_condF (b := false) rfl (fun hb => by cases hb) (fun _ => ?_) | refine ai_skip ?_)
          exact ⟨i + 1, by dsimp only; rw [hs]; exact (by repeat (first | exact le_nil | refine le_consF rfl ?_)), ⟨rfl, by omega⟩, by dsimp only; omega⟩
      · rw [if_neg hn] at hs
        have hn2 : c.toNat ≠ 10 := fun q => hn (UInt8.toNat_inj.1 q)
        repeat (first | refine sS ?_ | refine sE ?_ | refine w_mv rfl ?_ | (refine w_add rfl ?_ ?_; (focus omega)) | (refine w_cmp (c2 := true) rfl ?_ ?_; focus (first | exact decide_eq_true (by omega) | (simp; done) | (simp; omega))) | refine ai_regW ?_ | refine ai_condF (b := true) rfl (fun _ => ?_) (fun hb => by cases hb) | refine ai_exit ?_)
        exact ⟨i + 1, by dsimp only; rw [hs]; exact (by repeat (first | exact le_nil | refine le_consF rfl ?_)), ⟨rfl, by omega⟩, by dsimp only; omega⟩
    · obtain rfl : i = T0.length := by omega
      have he := beq_iff_eq.1 (sc_end X hX20)
      rw [he]
      repeat (first | refine sS ?_ | refine sE ?_ | refine w_mv rfl ?_ | (refine is_okn rfl ?_; refine w_op rfl ?_) | (refine w_cmp (c2 := false) rfl ?_ ?_; focus (first | exact decide_eq_false (by omega) | (simp; done) | (simp; omega))) | refine ai_seq ?_ | refine ai_regW ?_ | refine ai_condF (b := false) rfl (fun hb => by cases hb) (fun _ => ?_) | refine ai_exit ?_)
      exact ⟨rfl, (), (by repeat (first | exact le_nil | refine le_consF rfl ?_)), rfl⟩
  rintro _ _ rfl
  have hln := ln_len X hX20
  have hlp := ln_parse X hX20
  have hbp := bad_parse X hX20 Y hY5
  obtain ⟨ln, hlnE⟩ : ∃ ln, L0.getD X [] = ln := ⟨_, rfl⟩
  rw [hlnE] at hln hlp hbp ⊢
  simp only [Bool.and_eq_true, decide_eq_true_eq, beq_iff_eq, bne_iff_ne, ne_eq] at hln hlp hbp
  have hzl := sz_mk ln
  obtain ⟨⟨hl5, hl30⟩, hd, h0⟩ := And.intro hln hlp
  have hd := vl_inj hd
  have hpe : parseF setF dflt ln = (dflt, 0, 0) := Prod.ext hd h0
  have p1 := fun g => tparse_ok dflt ln (by omega) g
  rw [hpe] at p1
  repeat (first | refine sS ?_ | refine sE ?_ | refine w_mv rfl ?_ | refine w_pickF rfl ?_ | (refine is_okn rfl ?_; refine w_op rfl ?_) | refine w_gT rfl rfl ?_ | (refine is_ldn ?_; refine w_ldn rfl (by first | exact rd_all ‹_› rfl | exact rd_newn rfl | assumption) ?_) | (refine w_cmp (c2 := false) rfl ?_ ?_; focus (first | exact decide_eq_false (by omega) | (simp; done) | (simp; omega))) | refine ai_seq ?_ | refine ai_regW ?_ | refine ai_condF (b := false) rfl (fun hb => by cases hb) (fun _ => ?_) | refine ai_skip ?_)
  refine w_call rfl ((p1 _).mono ?_)
  rintro _ g6 ⟨rfl, x6⟩
  have k6 := (x6.2 _ (by have := x5.1; omega)).trans k5
  repeat (first | refine sS ?_ | refine w_mv rfl ?_ | refine w_ext rfl rfl ?_)
  refine w_new fun g7 x7 k7 m7 => ?_
  repeat (first | refine sSn ?_)
  refine w_stN rfl rfl k7 rfl rfl fun g8 q8 k8 m8 => ?_
  have k68 := (q8 _ (by have := x5.1; have := x6.1; omega)).trans ((x7.2 _ (by have := x5.1; have := x6.1; omega)).trans k6)
  repeat (first | refine sS ?_ | refine sE ?_ | refine w_mv rfl ?_ | refine w_gT rfl rfl ?_ | (refine is_ldn ?_; refine w_ldn rfl (by first | exact rd_all ‹_› rfl | exact rd_newn rfl | assumption) ?_) | (refine w_cmp (c2 := false) rfl ?_ ?_; focus (first | exact decide_eq_false (by omega) | (simp; done) | (simp; omega))) | refine ai_seq ?_ | refine ai_regW ?_)
  refine w_neS rfl rfl (ks := List.replicate 20 (.int .i64)) (by kernel_rfl) rfl rfl ?_
  intro bb hbb
  obtain rfl : bb = false := by
    cases bb
    · rfl
    · exact absurd rfl (hbb.1 rfl)
  have hbl : (badL ln Y).length ≤ 100 := by
    match Y, hY5 with
    | 0, _ => simp [badL]; omega
    | 1, _ => simp [badL]; omega
    | 2, _ => simp [badL]; omega
    | 3, _ => simp [badL]; omega
    | 4, _ => simp [badL]; omega
  have p2 := fun g => tparse_ok dflt (badL ln Y) (by omega) g
  obtain ⟨⟨c', e', n'⟩, hE⟩ : ∃ z, parseF setF dflt (badL ln Y) = z := ⟨_, rfl⟩
  rw [hE] at p2 hbp
  obtain ⟨he', hn'⟩ := hbp
  dsimp only at he' hn'
  have hld : (ln.drop 1).length = ln.length - 1 := List.length_drop
  repeat (first | refine sS ?_ | refine dS ?_ | refine sE ?_ | refine w_mv rfl ?_ | refine w_pickF rfl ?_ | refine ai_seq ?_ | refine ai_condF (b := false) rfl (fun hb => by cases hb) (fun _ => ?_) | refine ai_skip ?_ | refine ai_drwW (by kernel_rfl) ?_)
  refine w_slsS (l := ln) (i := 1) rfl (by omega) ?_
  repeat (first | refine dS ?_)
  refine w_catB (a := [88]) (b := ln.drop 1) rfl (by simp only [List.length_cons, List.length_nil]; omega) ?_
  repeat (first | refine dS ?_ | refine w_mv rfl ?_)
  refine w_slsS (l := ln) (i := 1) rfl (by omega) ?_
  repeat (first | refine dS ?_ | refine w_mv rfl ?_)
  refine w_catB (a := ln) (b := [32, 49]) rfl (by simp only [List.length_cons, List.length_nil]; omega) ?_
  repeat (first | refine dS ?_ | refine w_mv rfl ?_)
  refine w_catB (a := ln) (b := [120]) rfl (by simp only [List.length_cons, List.length_nil]; omega) ?_
  repeat (first | refine dS ?_ | refine w_mv rfl ?_)
  refine w_catB (a := ln) (b := [10]) rfl (by simp only [List.length_cons, List.length_nil]; omega) ?_
  repeat (first | refine dS ?_ | refine w_mv rfl ?_)
  refine w_catB (a := ln ++ [10]) (b := ln) rfl (by simp only [List.length_append, List.length_cons, List.length_nil]; omega) ?_
  repeat (first | refine dS ?_ | refine w_mv rfl ?_ | (refine w_rem rfl ?_ ?_ ?_; (focus omega); (focus omega)) | refine w_cuw rfl ?_)
  rw [hY]
  refine w_bslF rfl rfl rfl rfl rfl ?_
  intro g9 x9 k9 n9
  repeat (first | refine dS ?_ | (refine w_iad rfl ?_ ?_; focus (first | omega | (simp; done) | (simp; omega))))
  have hx : ([bs ([88] ++ ln.drop 1), bs (ln.drop 1), bs (ln ++ [32, 49]), bs (ln ++ [120]), bs ((ln ++ [10]) ++ ln)].flatMap fun v => v.cells.toList)[Y]? = some (bs (badL ln Y)) := by
    match Y, hY5 with
    | 0, _ => rfl
    | 1, _ => rfl
    | 2, _ => rfl
    | 3, _ => rfl
    | 4, _ => rfl
  refine w_ld (v := bs (badL ln Y)) rfl (by rw [show 0 + (Y : Int).toNat * 1 = 0 + Y by omega]; exact rd_f k9 hx) ?_
  have k89 := (x9.2 _ (by have := x5.1; have := x6.1; omega)).trans k68
  repeat (first | refine sS ?_ | refine dS ?_ | refine dE ?_ | refine w_mv rfl ?_ | (refine is_ldn ?_; refine w_ldn rfl (by first | exact rd_all ‹_› rfl | exact rd_newn rfl | assumption) ?_) | refine ai_seq ?_ | refine ai_regW ?_)
  refine w_call rfl ((p2 _).mono ?_)
  rintro _ ga ⟨rfl, xa⟩
  repeat (first | refine sS ?_ | refine w_mv rfl ?_ | refine w_ext rfl rfl ?_)
  refine w_new fun gb xb kb mb => ?_
  repeat (first | refine sSn ?_)
  refine w_stN rfl rfl kb rfl rfl fun gc qc kc mc => ?_
  repeat (first | refine sS ?_ | refine sE ?_ | refine w_mv rfl ?_ | refine ai_seq ?_ | refine ai_regW ?_)
  refine w_call rfl ((told_ok _).mono ?_)
  rintro _ gd ⟨rfl, xd⟩
  repeat (first | refine sS ?_ | refine sE ?_ | refine w_mv rfl ?_ | refine w_pickT rfl ?_ | refine w_gT rfl rfl ?_ | (refine w_cmp (c2 := true) rfl ?_ ?_; focus (first | exact decide_eq_true (by omega) | (simp; done) | (simp; omega))) | (refine ai_ret ?_; repeat (first | rw [thenQ_r] | rw [blockQ_r] | rw [roundE_r])))
  exact end_one rfl rfl
end Go.Proofs.YtapbmmlgmcmpnaaDoorW.Am
/- From a law's contract to its row: with the laid condition and the world's shape. -/
namespace Go.Proofs.YtapbmmlgmcmpnaaDoorW.Am
open Go Go.RowKit
variable {H : Type} {enc : TypeId × Value → H}
theorem handed_and_shaped {a : Assume} {C : Checked} {os : Os} {f : FuncId} {fn : Func} {s : ChangeSpec} {conds : List PathCond} {apart fresh handsOn again : Bool} {X : World → Array Value → Prop}
    (hX : ∀ (w w' : World) (args : Array Value), w.heap = w'.heap → X w args → X w' args)
    (own : ownKnob C.prog.godebug = none) (started : os.Started) (noInit : C.prog.inits.idxOf? f = none) (hfn : C.prog.funcs[f]? = some fn)
    (witness : ∃ (w : World) (tape : Tape) (i : Input), w.os = os ∧ (w.forCall tape i).Shaped C.prog ∧ i.vars = [] ∧ Input.okWide C.prog (w.forCall tape i) .any w.heap.size f i ∧
      ((s.pre enc C.prog fn conds apart (w.forCall tape i).memory i.args ∧ X (w.forCall tape i).memory i.args) ∧ sizedMet enc C.prog fn (OpenSpec.ofChange s) apart (w.forCall tape i).memory i.args) ∧ a.holds C.prog (lone (Frame.enter C.prog f i.args .normal) [] (w.forCall tape i)))
    (contract : ∀ (W : World) (base : Nat) (args : Array Value) (ds gs : List (DataW H)) (before : List MemPlace),
      (∀ (j : Nat) t v, fn.params[j]? = some t → args[j]? = some v → Value.okWide C.prog W .any base t v) →
      DataW.Whole enc C.prog fn.params.toList s.vars apart W args.toList ds gs before →
      conds.all (PathCond.test C.prog ⟨fn.params.toList, ds, s.plain.varTypes C.prog, gs⟩) = true →
      (DataW.weightsEach C.prog (fn.params.toList ++ s.plain.varTypes C.prog) (ds ++ gs)).all (· ≤ reachBytes) = true → X W args → W.ShapedOpen C.prog →
      a.holds C.prog (lone (Frame.enter C.prog f args .normal) [] W) →
      Calls C.prog f args W fun e W' => ∃ v, e = .returned v ∧ s.post enc C.prog fn apart fresh handsOn again W args v W') :
    ReturnsInHanded a C os f .any (fun w args => (s.pre enc C.prog fn conds apart w args ∧ X w args) ∧ sizedMet enc C.prog fn (OpenSpec.ofChange s) apart w args) (s.post enc C.prog fn apart fresh handsOn again) := by
  refine returnsInHanded_of_calls own started noInit witness ?_
  intro w tape i _ hsh _ hok hpre hholds
  obtain ⟨_, _, _, fn', hfn', _, _, _, _, hval⟩ := hok
  have e : fn' = fn := Option.some.inj (hfn'.symm.trans hfn)
  subst e
  obtain ⟨⟨⟨ds, gs, before, hw, hc⟩, hx⟩, hz⟩ := hpre
  have hw' := DataW.Whole.of_heap (w' := w.forCall tape i) (by rfl) hw
  refine (contract (w.forCall tape i) w.heap.size i.args ds gs before hval hw' hc (hz.weights hw) (hX _ _ _ (by rfl) hx) hsh hholds).mono fun e W' ⟨v, he, hp⟩ => ?_
  subst he
  exact ChangeSpec.post_blind hp
end Go.Proofs.YtapbmmlgmcmpnaaDoorW.Am
/- What the rows list: a world that holds the tables; what the condition gives. -/
namespace Go.Proofs.YtapbmmlgmcmpnaaDoorW.Am
open Go Go.RowKit
open Go.Proofs.YtapbmmlgmcmpnaaDoor
def cellsL : DataW Unit → Array Value
  | .agg l => (l.flatMap fun
    | .lit (.int k z) => [Value.int k z]
    | .agg m => m.map fun | .lit (.int k z) => Value.int k z | _ => .bool false
    | _ => [.bool false]).toArray
  | _ => #[]
noncomputable def lowN : Nat := (World.holding Go.Proofs.Tryd.prog default ⟨#[], #[], []⟩).heap.size
def setBlk (b : Nat) (c : Array Value) (h : Array Obj) : Array Obj := h.modify b fun
  | .cells _ t frozen => .cells c t frozen
  | o => o
noncomputable def laidWorld (os : Os) : World :=
  let w0 := World.holding Go.Proofs.Tryd.prog os ⟨#[.cells #[.string ⟨#[118, 97, 108, 117, 101, 32, 111, 117, 116, 32, 111, 102, 32, 114, 97, 110, 103, 101]⟩] 142, .cells #[.string ⟨#[105, 110, 118, 97, 108, 105, 100, 32, 115, 121, 110, 116, 97, 120]⟩] 142], #[], []⟩
  { w0 with heap := setBlk 2 (cellsL Rows.laid_unicode_utf8_first) (setBlk 4 #[.iface 140 (.pointer (some ⟨lowN + 1, 0, none⟩))] (setBlk 5 #[.iface 140 (.pointer (some ⟨lowN, 0, none⟩))]
      (setBlk 3 (cellsL Rows.laid_unicode_utf8_acceptRanges) (setBlk 1 (cellsL Rows.laid_internal_strconv_uint64pow10) (setBlk 7 (cellsL Rows.laid_math_bits_deBruijn64tab) (setBlk 6 (cellsL Rows.laid_math_bits_deBruijn32tab) w0.heap)))))) }
abbrev laidL : List (String × DataW Unit) := [("math/bits.deBruijn32tab", Rows.laid_math_bits_deBruijn32tab), ("math/bits.deBruijn64tab", Rows.laid_math_bits_deBruijn64tab), ("internal/strconv.uint64pow10", Rows.laid_internal_strconv_uint64pow10), ("unicode/utf8.acceptRanges", Rows.laid_unicode_utf8_acceptRanges), ("strconv.ErrRange", Rows.laid_strconv_ErrRange), ("strconv.ErrSyntax", Rows.laid_strconv_ErrSyntax), ("unicode/utf8.first", Rows.laid_unicode_utf8_first)]
theorem gP : Go.Proofs.Tryd.prog.globalNamed "internal/strconv.uint64pow10" = some 1 := by kernel_rfl
theorem tb_laid {W : World} (h : laidMet Go.Proofs.Tryd.prog laidL W) (hsh : W.ShapedOpen Go.Proofs.Tryd.prog) : TbP W :=
  ⟨Go.Lib.tabIs_of_head (rest := _) gP (by kernel_rfl : (Go.Proofs.Tryd.prog.globals[1]?).map (·.type) = some 123) Go.Proofs.Tryd.underlying123 Go.Proofs.Tryd.underlying106 (by kernel_rfl) (by kernel_rfl) (laidMet.tail (laidMet.tail h)), Tryd.laysM146.s1_3 W hsh⟩
theorem hz_laid {W : World} (h : laidMet Go.Proofs.Tryd.prog laidL W) (hsh : W.ShapedOpen Go.Proofs.Tryd.prog) : 0 < W.heap.size :=
  Nat.lt_of_le_of_lt (Nat.zero_le _) (cell_at (Go.Lib.TabIs.cell (tb_laid h hsh).1 gP 0 (by decide))).2
theorem laid_met (os : Os) (args : Array Value) : laidMet Go.Proofs.Tryd.prog laidL ((laidWorld os).forCall (fun _ _ => 0) ⟨#[], args, []⟩).memory :=
  laidMet_of_run3 10 (by kernel_rfl) (by kernel_rfl) (by kernel_rfl)
end Go.Proofs.YtapbmmlgmcmpnaaDoorW.Am
