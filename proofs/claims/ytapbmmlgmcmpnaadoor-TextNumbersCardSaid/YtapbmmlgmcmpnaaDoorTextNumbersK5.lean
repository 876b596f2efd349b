/- Texts: Print. -/
import Derived.Test.YtapbmmlgmcmpnaaDoorTextNumbersK4
import Derived.KernelRfl
import Derived.Test.YtapbmmlgmcmpnaaDoorTextNumbersK2
import Derived.ChangeSlices
import Derived.OpenShut
import Derived.ChangeArms
import Derived.DataReads
import Derived.Test.YtapbmmlgmcmpnaaDoorTextNumbersK1
import Derived.Handed
import Derived.HandedShaped
import Derived.Test.YtapbmmlgmcmpnaaDoorRows
import Derived.Test.YtapbmmlgmcmpnaaDoorTextNumbersK3
import Derived.Deep.DeepLaidRun
import Derived.Stop.LaidErr
import Derived.WalkKit
import Derived.ProofKit
import Derived.ShutString
import Derived.ChangeOld
import Derived.Below
import Derived.SizedLaws
import Derived.Test.YtapbmmlgmcmpnaaDoorCards
import Derived.Test.YtapbmmlgmcmpnaaDoorTie
import Derived.ChangeSame
import Derived.ChangeVars
import Derived.JoinedOf
import Derived.LaidLaws
import Derived.SevenTiedAt
namespace Go.Proofs.YtapbmmlgmcmpnaaDoorW.Am
open Go Go.RowKit
def shownF (k : Nat) (n : Int) : List UInt8 := if thinK k = true then showF n else Go.Lib.itoa n
/-- The first lines of settings as a text. -/
def prU (l : List Int) : Nat → List UInt8
  | 0 => []
  | k + 1 => prU l k ++ ((nmB.getD k [] ++ [58, 32]) ++ (shownF k (l.getD k 0) ++ [10]))
def printF (c : Cf20) : List UInt8 × Int := if mayB c = true then (prU (vl c) 20, 0) else ([], 1)
theorem may_b {c : Cf20} (h : mayB c = true) : ∀ (k : Nat) x, (vl c)[k]? = some x → (-1000 ≤ x ∧ x ≤ 100000000) ∧ (thinK k = false → 0 ≤ x) := by
  unfold mayB wrL wrB inB at h
  simp only [List.all_cons, List.all_nil, Bool.and_eq_true, decide_eq_true_eq, Bool.or_eq_true, beq_iff_eq, and_true] at h
  obtain ⟨h0, h1, h2, h3, h4, h5, h6, h7, h8, h9, h10, h11, h12, h13, h14, h15, h16, h17, h18, h19⟩ := h
  have hm : (if c.max = 0 then 100 else c.max) ≤ 100 := by
    split
    · omega
    · rcases h9 with h9 | h9
      · omega
      · omega
  have h9b : 0 ≤ c.max ∧ c.max ≤ 100 := by
    rcases h9 with h9 | h9
    · omega
    · have := h9.1; split at this <;> omega
  intro k x hk
  match k with
  | 0 => cases hk; exact ⟨by omega, fun e => absurd e (by decide)⟩
  | 1 => cases hk; exact ⟨by omega, fun e => absurd e (by decide)⟩
  | 2 => cases hk; exact ⟨by omega, fun _ => by omega⟩
  | 3 => cases hk; exact ⟨by omega, fun _ => by omega⟩
  | 4 => cases hk; exact ⟨by omega, fun _ => by omega⟩
  | 5 => cases hk; exact ⟨by omega, fun e => absurd e (by decide)⟩
  | 6 => cases hk; exact ⟨by omega, fun e => absurd e (by decide)⟩
  | 7 => cases hk; exact ⟨by omega, fun e => absurd e (by decide)⟩
  | 8 => cases hk; exact ⟨by omega, fun _ => by omega⟩
  | 9 => cases hk; exact ⟨by omega, fun _ => by omega⟩
  | 10 => cases hk; exact ⟨by omega, fun _ => by omega⟩
  | 11 => cases hk; exact ⟨by omega, fun _ => by omega⟩
  | 12 => cases hk; exact ⟨by omega, fun _ => by omega⟩
  | 13 => cases hk; exact ⟨by omega, fun e => absurd e (by decide)⟩
  | 14 => cases hk; exact ⟨by omega, fun _ => by omega⟩
  | 15 => cases hk; exact ⟨by omega, fun _ => by omega⟩
  | 16 => cases hk; exact ⟨by omega, fun _ => by omega⟩
  | 17 => cases hk; exact ⟨by omega, fun _ => by omega⟩
  | 18 => cases hk; exact ⟨by omega, fun _ => by omega⟩
  | 19 => cases hk; exact ⟨by omega, fun _ => by omega⟩
  | k + 20 => simp [vl] at hk
theorem show_len {n : Int} (hn : -1000 ≤ n ∧ n ≤ 100000000) : (showF n).length ≤ 60 := by
  have ha : 0 ≤ absB n ∧ absB n ≤ 100000000 := by
    unfold absB
    split <;> omega
  have h1 := Go.Lib.itoa_length_le (absB n / 1000) (by omega) (by omega)
  have h2 := Go.Lib.itoa_length_le (1000 + absB n % 1000) (by omega) (by omega)
  have h3 := trimR_len ((Go.Lib.itoa (1000 + absB n % 1000)).drop 1) 48
  rw [List.length_drop] at h3
  unfold showF fracB
  rw [List.length_append, List.length_append]
  have h4 : (if n < 0 then [45] else [] : List UInt8).length ≤ 1 := by split <;> simp
  have h5 : (if absB n % 1000 = 0 then [] else 46 :: Go.Lib.trimRightB ((Go.Lib.itoa (1000 + absB n % 1000)).drop 1) 48 : List UInt8).length ≤ 30 := by
    split
    · exact Nat.zero_le _
    · rw [List.length_cons]; omega
  omega
theorem shown_len {k : Nat} {n : Int} (hn : -1000 ≤ n ∧ n ≤ 100000000) : (shownF k n).length ≤ 60 := by
  unfold shownF
  split
  · exact show_len hn
  · have := Go.Lib.itoa_length_le n (by omega) (by omega)
    omega
theorem vl_len (c : Cf20) : (vl c).length = 20 := rfl
theorem prU_len {c : Cf20} (h : mayB c = true) : ∀ k, k ≤ 20 → (prU (vl c) k).length ≤ k * 100
  | 0, _ => Nat.le_refl _
  | k + 1, hk => by
    have ih := prU_len h k (by omega)
    have hx : (vl c)[k]? = some ((vl c).getD k 0) := by
      rw [List.getD_eq_getElem?_getD, List.getElem?_eq_getElem (show k < (vl c).length by rw [vl_len]; omega)]
      rfl
    have h1 := shown_len (k := k) (may_b h k _ hx).1
    have h2 : (nmB.getD k []).length ≤ 20 := by
      rw [List.getD_eq_getElem?_getD, List.getElem?_eq_getElem (show k < nmB.length from by show k < 20; omega)]
      exact nm_len _ (List.getElem_mem _)
    simp only [prU, List.length_append, List.length_cons, List.length_nil]
    omega
theorem itoa_br {n : Int} (hn : I64 n) (h : Hp) : ACall PX 35 [nI n] h (fun v g => v = bs (Go.Lib.itoa n) ∧ h = g) :=
  bridge (enters_comp Go.Proofs.Tryd.func35 c35) rfl rfl (fun w tb => (Go.Proofs.Tryd.strconv_Itoa n hn.1 hn.2 w tb.1).mono (by
    rintro e w' ⟨rfl, k, os, rfl⟩
    refine ⟨rfl, ⟨rfl, rfl, rfl, ?_, fun b hb => ?_⟩, fun d => (dr_no d).elim⟩
    · show w.heap.size ≤ (w.heap ++ os).size
      rw [Array.size_append]
      exact Nat.le_add_right _ _
    · show (w.heap ++ os)[b]? = w.heap[b]?
      exact Array.getElem?_append_left hb)) h
set_option maxRecDepth 10000 in
set_option maxHeartbeats 4000000 in
theorem print_ok (c : Cf20) (h : Hp) : ACall PX 15 [.agg ⟨cs20 c⟩] h (fun v g => v = .tuple #[bs (printF c).1, nI (printF c).2] ∧ Ext h g) := by
  unfold printF
  refine acall Go.Proofs.Tryd.func15 c15 (by simp [ir15]) ?_
  unfold ir15
  dsimp only
  refine ai_seq (ai_regW (sS (w_box rfl fun g1 x1 k1 n1 => ?_)))
  repeat (first | refine sS ?_ | refine sE ?_ | refine w_mv rfl ?_ | (refine is_ldn ?_; refine w_ldn rfl (by first | exact rd_all ‹_› rfl | exact rd_newn rfl | assumption) ?_) | refine ai_seq ?_ | refine ai_regW ?_)
  refine w_call rfl ((may_ok _ c).mono ?_)
  rintro _ g2 ⟨rfl, x2⟩
  have hn2 := x2.1
  cases hm : mayB c
  · repeat (first | refine sS ?_ | refine sE ?_ | refine w_mv rfl ?_ | (refine is_okn rfl ?_; refine w_op rfl ?_) | refine ai_seq ?_ | refine ai_regW ?_ | refine ai_condF (b := true) rfl (fun _ => ?_) (fun hb => by cases hb) | (refine ai_ret ?_; repeat (first | rw [thenQ_r] | rw [blockQ_r] | rw [roundE_r])))
    exact ⟨_, rfl, rfl, x1.trans x2⟩
  have k2 := (x2.2 _ n1).trans k1
  repeat (first | refine sS ?_ | refine sE ?_ | (refine is_okn rfl ?_; refine w_op rfl ?_) | refine ai_seq ?_ | refine ai_regW ?_ | refine ai_condF (b := false) rfl (fun hb => by cases hb) (fun _ => ?_) | refine ai_skip ?_)
  have x3 : Ext g2 (g2.new ⟨[.pointer none, .slice none 0 0], true, mkE * (tBld + 1)⟩) := Ext.new _ _
  have k3 : (g2.new ⟨[.pointer none, .slice none 0 0], true, mkE * (tBld + 1)⟩).get g2.nx = some ⟨[.pointer none, .slice none 0 0], true, mkE * (tBld + 1)⟩ := new_get _ _
  have n3 : g2.nx < (g2.new ⟨[.pointer none, .slice none 0 0], true, mkE * (tBld + 1)⟩).nx := by simp [Hp.new]
  change WI _ _ _ _ (g2.new ⟨[.pointer none, .slice none 0 0], true, mkE * (tBld + 1)⟩) _
  generalize g2.new ⟨[.pointer none, .slice none 0 0], true, mkE * (tBld + 1)⟩ = g3 at x3 k3 n3 ⊢
  refine w_call rfl ((parts_ok _ h.nx).mono ?_)
  rintro _ g4 ⟨rfl, x4, k4, n4⟩
  have hn3 := x3.1
  have hn4 := x4.1
  have k24 := (x4.2 _ (by omega)).trans ((x3.2 _ (by omega)).trans k2)
  have x04 := ((x1.trans x2).trans x3).trans x4
  have b4 : BLD g4.nx g4 g2.nx [] := ⟨by omega, Nat.le_refl _, _, _, (x4.2 _ n3).trans k3, .inl rfl, .inl ⟨rfl, rfl⟩⟩
  repeat (first | refine sS ?_ | refine sE ?_ | refine w_mv rfl ?_ | (refine is_okn rfl ?_; refine w_op rfl ?_) | refine ai_block ?_)
  refine ai_loopE (γ := Nat) (fun j => [(1, .pointer (some ⟨h.nx, 0, none⟩)), (4, .pointer (some ⟨g2.nx, 0, none⟩)), (12, .slice (some ⟨g3.nx, 0, none⟩) 20 20), (13, nI 20), (14, nI j)])
    (fun j g => j ≤ 20 ∧ BLD g4.nx g g2.nx (prU (vl c) j) ∧ g4.nx ≤ g.nx ∧ ∀ q, q < g4.nx → q ≠ g2.nx → g.get q = g4.get q) (fun j => 20 - j) 0
    (by repeat (first | exact le_nil | refine le_consF rfl ?_)) ⟨Nat.zero_le _, b4, Nat.le_refl _, fun _ _ _ => rfl⟩ ?_
  rintro j g ⟨hj, b, hng, hfr⟩
  by_cases hj20 : j < 20
  · have kp := (hfr g3.nx (by omega) (by omega)).trans k4
    have kc := (hfr h.nx (by omega) (by omega)).trans k24
    have hrd := ptC_rd kp hj20
    have hpl := prU_len hm j hj
    obtain ⟨x, hx⟩ : ∃ x, (vl c)[j]? = some x := ⟨_, List.getElem?_eq_getElem (by rw [vl_len]; exact hj20)⟩
    have hxd : (vl c).getD j 0 = x := by rw [List.getD_eq_getElem?_getD, hx]; rfl
    obtain ⟨hb1, hb2⟩ := may_b hm j x hx
    have hsl := shown_len (k := j) hb1
    have hnml : (nmB.getD j []).length ≤ 20 := by
      rw [List.getD_eq_getElem?_getD, List.getElem?_eq_getElem (show j < nmB.length from hj20)]
      exact nm_len _ (List.getElem_mem _)
    repeat (first | refine sS ?_ | refine sE ?_ | (refine is_ldn ?_; refine w_ldn rfl (by first | exact rd_all ‹_› rfl | exact rd_newn rfl | assumption) ?_) | (refine w_cmp (c2 := true) rfl ?_ ?_; focus (first | exact decide_eq_true (by omega) | (simp; done) | (simp; omega))) | (refine w_iad rfl ?_ ?_; focus (first | omega | (simp; done) | (simp; omega))) | refine ai_seq ?_ | refine ai_regW ?_ | refine ai_condF (b := true) rfl (fun _ => ?_) (fun hb => by cases hb) | refine ai_skip ?_ | refine ai_block ?_)
    refine w_new fun g5 x5 k5 n5 => ?_
    repeat (first | refine sSn ?_)
    refine w_stN rfl rfl k5 rfl rfl fun g6 m6 k6 n6 => ?_
    have x56 : Ext g g6 := x5.own m6 n6
    have b6 := b.ext x56
    have hn5 := x5.1
    repeat (first | refine sS ?_ | refine sE ?_ | (refine is_okn rfl ?_; refine w_op rfl ?_) | (refine is_ld ?_; refine w_ld rfl (by first | exact rd_g ‹_› rfl | exact rd_new rfl | assumption) ?_) | refine ai_seq ?_ | refine ai_regW ?_)
    refine w_catB (a := nmB.getD j []) (b := [58, 32]) rfl (by simp only [List.length_cons, List.length_nil]; omega) ?_
    repeat (first | refine sS ?_)
    refine w_call rfl ((wstr_ok (s := nmB.getD j [] ++ [58, 32]) b6 (by simp) (by rw [List.length_append]; simp only [List.length_cons, List.length_nil]; omega)).mono ?_)
    rintro _ g7 ⟨b7, hn7, f7⟩
    have hbuf : ∀ q, q < g.nx → q < g4.nx → bufN g6 g2.nx ≠ some q := fun q h1 h2 e => by have := b6.buf e; omega
    have hbe : bufN g6 g2.nx = bufN g g2.nx := bufN_of (x56.2 _ (by omega))
    have hbp : bufN g6 g2.nx ≠ some g.nx := fun e => by rw [hbe] at e; have := b.buf e; omega
    have k7 := (f7 g.nx (by omega) (by omega) hbp).trans k6
    have kc7 := (f7 h.nx (by omega) (by omega) (hbuf _ (by omega) (by omega))).trans ((x56.2 _ (by omega)).trans kc)
    have hrx := rd_g (o := j) kc7 (v := nI x) (by show (cs20 c)[j]? = _; rw [cs_vl, List.getElem?_map, hx]; rfl)
    have fin : ∀ g8, BLD g4.nx g8 g2.nx ((prU (vl c) j ++ (nmB.getD j [] ++ [58, 32])) ++ (shownF j x ++ [10])) → g7.nx ≤ g8.nx → (∀ q, q < g7.nx → q ≠ g2.nx → bufN g7 g2.nx ≠ some q → g8.get q = g7.get q) →
        (j + 1 ≤ 20 ∧ BLD g4.nx g8 g2.nx (prU (vl c) (j + 1)) ∧ g4.nx ≤ g8.nx ∧ ∀ q, q < g4.nx → q ≠ g2.nx → g8.get q = g4.get q) := by
      intro g8 b8 hn8 f8
      refine ⟨by omega, ?_, by omega, fun q h1 h2 => ?_⟩
      · unfold prU
        rw [hxd, ← List.append_assoc]
        exact b8
      · refine (f8 q (by omega) h2 (fun e => by have := b7.buf e; omega)).trans ((f7 q (by omega) h2 (hbuf q (by omega) h1)).trans ((x56.2 q (by omega)).trans (hfr q h1 h2)))
    cases ht : thinK j
    · rw [ht] at k7
      have hsh : shownF j x = Go.Lib.itoa x := by unfold shownF; rw [ht]; rfl
      rw [hsh] at hsl fin
      repeat (first | refine sS ?_ | refine sE ?_ | refine w_mv rfl ?_ | (refine is_okn rfl ?_; refine w_op rfl ?_) | refine w_ext rfl rfl ?_ | (refine is_ld ?_; refine w_ld rfl (by first | exact rd_g ‹_› rfl | exact rd_new rfl | assumption) ?_) | refine ai_seq ?_ | refine ai_regW ?_ | refine ai_condF (b := false) rfl (fun hb => by cases hb) (fun _ => ?_) | refine ai_skip ?_)
      refine w_call rfl ((itoa_br ⟨by omega, by omega⟩ _).mono ?_)
      rintro _ _ ⟨rfl, rfl⟩
      repeat (first | refine sS ?_)
      refine w_catB (a := Go.Lib.itoa x) (b := [10]) rfl (by simp only [List.length_cons, List.length_nil]; omega) ?_
      repeat (first | refine sS ?_)
      refine w_call rfl ((wstr_ok (s := Go.Lib.itoa x ++ [10]) b7 (by simp) (by simp only [List.length_append, List.length_cons, List.length_nil]; omega)).mono ?_)
      rintro _ g8 ⟨b8, hn8, f8⟩
      repeat (first | refine sS ?_ | refine sE ?_ | refine w_mv rfl ?_ | (refine w_add rfl ?_ ?_; (focus omega)) | refine ai_regW ?_)
      exact ⟨j + 1, (by repeat (first | exact le_nil | refine le_consF rfl ?_)), fin g8 b8 hn8 f8, by dsimp only; omega⟩
    · rw [ht] at k7
      have hsh : shownF j x = showF x := by unfold shownF; rw [ht]; rfl
      rw [hsh] at hsl fin
      repeat (first | refine sS ?_ | refine sE ?_ | refine w_mv rfl ?_ | (refine is_okn rfl ?_; refine w_op rfl ?_) | refine w_ext rfl rfl ?_ | (refine is_ld ?_; refine w_ld rfl (by first | exact rd_g ‹_› rfl | exact rd_new rfl | assumption) ?_) | refine ai_seq ?_ | refine ai_regW ?_ | refine ai_condF (b := true) rfl (fun _ => ?_) (fun hb => by cases hb))
      refine w_call rfl ((show_ok ⟨by omega, by omega⟩ _).mono ?_)
      rintro _ _ ⟨rfl, rfl⟩
      repeat (first | refine sS ?_)
      refine w_catB (a := showF x) (b := [10]) rfl (by simp only [List.length_cons, List.length_nil]; omega) ?_
      repeat (first | refine sS ?_)
      refine w_call rfl ((wstr_ok (s := showF x ++ [10]) b7 (by simp) (by simp only [List.length_append, List.length_cons, List.length_nil]; omega)).mono ?_)
      rintro _ g8 ⟨b8, hn8, f8⟩
      repeat (first | refine sS ?_ | refine sE ?_ | refine w_mv rfl ?_ | (refine w_add rfl ?_ ?_; (focus omega)) | refine ai_regW ?_ | refine ai_exit ?_)
      exact ⟨j + 1, (by repeat (first | exact le_nil | refine le_consF rfl ?_)), fin g8 b8 hn8 f8, by dsimp only; omega⟩
  · obtain rfl : j = 20 := by omega
    have hpl := prU_len hm 20 (Nat.le_refl _)
    repeat (first | refine sS ?_ | refine sE ?_ | (refine w_cmp (c2 := false) rfl ?_ ?_; focus (first | exact decide_eq_false (by omega) | (simp; done) | (simp; omega))) | refine ai_seq ?_ | refine ai_regW ?_ | refine ai_condF (b := false) rfl (fun hb => by cases hb) (fun _ => ?_) | refine ai_exit ?_)
    refine w_call rfl ((str_ok b (by omega)).mono ?_)
    rintro _ g5 ⟨rfl, hn5, f5⟩
    repeat (first | refine sS ?_ | refine sE ?_ | refine w_mv rfl ?_ | (refine ai_ret ?_; repeat (first | rw [thenQ_r] | rw [blockQ_r] | rw [roundE_r])))
    exact ⟨_, rfl, rfl, by have := x04.1; omega, fun q hq => (f5 q (by have := x04.1; omega)).trans ((hfr q (by have := x04.1; omega) (by omega)).trans (x04.2 q hq))⟩
end Go.Proofs.YtapbmmlgmcmpnaaDoorW.Am
/- Texts: what the program tells of a few. -/
namespace Go.Proofs.YtapbmmlgmcmpnaaDoorW.Am
open Go Go.RowKit
/-- The digits of a number, by so many steps. -/
def decFu : Nat → Nat → List UInt8
  | 0, _ => []
  | k + 1, n => match Nat.ble n 9 with
    | true => [UInt8.ofNat (48 + n)]
    | false => decFu k (n / 10) ++ [UInt8.ofNat (48 + n % 10)]
theorem ble_t {n : Nat} (h : n ≤ 9) : Nat.ble n 9 = true := Nat.ble_eq_true_of_le h
theorem ble_f {n : Nat} (h : 9 < n) : Nat.ble n 9 = false := by
  cases hb : Nat.ble n 9
  · rfl
  · have := Nat.le_of_ble_eq_true hb; omega
theorem dec_fu : ∀ (k n : Nat), n < 10 ^ (k + 1) → Go.Lib.decDigits n = decFu (k + 1) n
  | 0, n, h => by
    rw [decd_small (by omega)]
    unfold decFu
    rw [ble_t (by omega)]
  | k + 1, n, h => by
    unfold decFu
    by_cases h9 : 9 < n
    · rw [decd_big h9, dec_fu k (n / 10) (by rw [Nat.pow_succ] at h; omega), ble_f h9]
    · rw [decd_small h9, ble_t (by omega)]
def itoaFu (n : Int) : List UInt8 := if n < 0 then 45 :: decFu 20 n.natAbs else decFu 20 n.toNat
theorem itoa_fu {n : Int} (h : I64 n) : Go.Lib.itoa n = itoaFu n := by
  unfold Go.Lib.itoa itoaFu
  obtain ⟨h1, h2⟩ := h
  split
  · rw [dec_fu 19 _ (by omega)]
  · rw [dec_fu 19 _ (by omega)]
def showFu (n : Int) : List UInt8 := ((if n < 0 then [45] else []) ++ itoaFu (absB n / 1000)) ++ (if absB n % 1000 = 0 then [] else 46 :: Go.Lib.trimRightB ((itoaFu (1000 + absB n % 1000)).drop 1) 48)
theorem show_fu {n : Int} (h : I64 n) : showF n = showFu n := by
  obtain ⟨h1, h2⟩ := h
  have ha : 0 ≤ absB n ∧ absB n ≤ 9223372036854775807 := by
    unfold absB
    split <;> omega
  unfold showF showFu fracB
  rw [itoa_fu (n := absB n / 1000) ⟨by omega, by omega⟩, itoa_fu (n := 1000 + absB n % 1000) ⟨by omega, by omega⟩]
def dflt : Cf20 := ⟨10000, 700, 60, 6, 1, 2000, 10000, 2000, 0, 0, 1, 30, 0, 20000, 10, 100, 60, 3, 0, 0⟩
def tc1 : Cf20 := ⟨5500, 700, 60, 6, 1, 2000, 10000, 2000, 2, 0, 1, 30, 0, 20000, 10, 100, 60, 3, 0, 0⟩
theorem t_n1 : numF [45, 49, 46, 48, 53] = some (-1050) := by kernel_rfl
theorem t_n2 : numF [49, 46] = none := by kernel_rfl
theorem t_n3 : numF [49, 50, 51, 52, 53, 54, 55, 56, 57, 48] = none := by kernel_rfl
theorem t_p1 : parseF setF dflt [35, 32, 120, 10, 32, 32, 116, 97, 114, 103, 101, 116, 58, 32, 53, 46, 53, 32, 10, 10, 109, 105, 110, 58, 32, 50] = (tc1, 0, 0) := by kernel_rfl
theorem t_p2 : parseF setF tc1 [109, 105, 110, 58, 32, 50, 10, 109, 105, 110, 58, 32, 51] = (tc1, 4, 2) := by kernel_rfl
theorem t_p3 : parseF setF tc1 [117, 112, 58, 32, 48, 46, 53] = (tc1, 5, 0) := by kernel_rfl
theorem t_p4 : parseF setF tc1 [103, 114, 97, 99, 101, 58, 32, 48, 48, 48, 48, 48, 48, 55] = (tc1, 4, 1) := by kernel_rfl
theorem t_p5 : parseF setF tc1 [9, 109, 105, 110, 58, 32, 50] = (tc1, 4, 1) := by kernel_rfl
theorem t_p6 : parseF setF tc1 [109, 105, 110, 58, 32, 50, 32, 35, 32, 120] = (tc1, 4, 1) := by kernel_rfl
theorem t_s1 : showF 1500 = [49, 46, 53] := (show_fu ⟨by decide, by decide⟩).trans (by kernel_rfl)
theorem t_s2 : showF (-50) = [45, 48, 46, 48, 53] := (show_fu ⟨by decide, by decide⟩).trans (by kernel_rfl)
theorem t_s3 : showF 0 = [48] := (show_fu ⟨by decide, by decide⟩).trans (by kernel_rfl)
theorem prU_pre (l : List Int) : ∀ k j, ∃ r, prU l (j + k) = prU l j ++ r
  | 0, j => ⟨[], by simp⟩
  | k + 1, j => by
    obtain ⟨r, hr⟩ := prU_pre l k j
    exact ⟨r ++ ((nmB.getD (j + k) [] ++ [58, 32]) ++ (shownF (j + k) (l.getD (j + k) 0) ++ [10])), by rw [← Nat.add_assoc, prU, hr, List.append_assoc]⟩
theorem t_pr : ∃ r, printF tc1 = ([116, 97, 114, 103, 101, 116, 58, 32, 53, 46, 53, 10] ++ (117 :: 116 :: r), 0) := by
  have hm : mayB tc1 = true := by kernel_rfl
  obtain ⟨r, hr⟩ := prU_pre (vl tc1) 18 2
  have h2 : prU (vl tc1) 2 = [116, 97, 114, 103, 101, 116, 58, 32, 53, 46, 53, 10] ++ (117 :: 116 :: ([105, 108, 58, 32] ++ (showF 700 ++ [10]))) := by
    have h1 : prU (vl tc1) 1 = [116, 97, 114, 103, 101, 116, 58, 32, 53, 46, 53, 10] := by
      show [] ++ ((nmB.getD 0 [] ++ [58, 32]) ++ (showF 5500 ++ [10])) = _
      rw [show_fu ⟨by decide, by decide⟩]
      kernel_rfl
    show prU (vl tc1) 1 ++ ((nmB.getD 1 [] ++ [58, 32]) ++ (showF 700 ++ [10])) = _
    rw [h1]
    rfl
  refine ⟨([105, 108, 58, 32] ++ (showF 700 ++ [10])) ++ r, ?_⟩
  unfold printF
  rw [hm, if_pos rfl]
  congr 1
  rw [show (20 : Nat) = 2 + 18 from rfl, hr, h2]
  simp
set_option maxRecDepth 10000 in
set_option maxHeartbeats 4000000 in
theorem told_ok (h : Hp) : ACall PX 11 [] h (fun v g => v = .bool true ∧ Ext h g) := by
  refine acall Go.Proofs.Tryd.func11 c11 (by simp [ir11]) ?_
  unfold ir11
  dsimp only
  have n1 := fun g => number_ok [45, 49, 46, 48, 53] (by decide) g
  have n2 := fun g => number_ok [49, 46] (by decide) g
  have n3 := fun g => number_ok [49, 50, 51, 52, 53, 54, 55, 56, 57, 48] (by decide) g
  simp only [t_n1, t_n2, t_n3] at n1 n2 n3
  repeat (first | refine sS ?_ | refine sE ?_ | refine w_mv rfl ?_ | refine w_ext rfl rfl ?_ | (refine w_call rfl ((n1 _).mono ?_); rintro _ _ ⟨rfl, rfl⟩) | (refine w_call rfl ((n2 _).mono ?_); rintro _ _ ⟨rfl, rfl⟩) | refine ai_seq ?_ | refine ai_regW ?_)
  have s1 := fun g => show_ok (n := 1500) ⟨by decide, by decide⟩ g
  have s2 := fun g => show_ok (n := -50) ⟨by decide, by decide⟩ g
  have s3 := fun g => show_ok (n := 0) ⟨by decide, by decide⟩ g
  simp only [t_s1, t_s2, t_s3] at s1 s2 s3
  refine w_call rfl ((default_ok _).mono ?_)
  rintro _ g1 ⟨rfl, x1⟩
  repeat (first | refine sS ?_)
  have p1 := fun g => tparse_ok dflt [35, 32, 120, 10, 32, 32, 116, 97, 114, 103, 101, 116, 58, 32, 53, 46, 53, 32, 10, 10, 109, 105, 110, 58, 32, 50] (by decide) g
  simp only [t_p1] at p1
  refine w_call rfl ((p1 _).mono ?_)
  rintro _ a1 ⟨rfl, ax1⟩
  repeat (first | refine sS ?_ | refine w_mv rfl ?_ | refine w_ext rfl rfl ?_)
  refine w_new fun b1 bx1 bk1 bm1 => ?_
  repeat (first | refine sSn ?_)
  refine w_stN rfl rfl bk1 rfl rfl fun c1 cq1 ck1 cm1 => ?_
  have y1 : Ext g1 c1 := (ax1.trans bx1).own' cq1 cm1 (by have := ax1.1; omega)
  have z1 : Ext h c1 := x1.trans y1
  have hc1 : a1.nx < c1.nx := by omega
  repeat (first | refine sS ?_ | refine sE ?_ | refine w_mv rfl ?_ | (refine is_ldn ?_; refine w_ldn rfl (by first | exact rd_all ‹_› rfl | exact rd_newn rfl | assumption) ?_) | refine ai_seq ?_ | refine ai_regW ?_)
  have p2 := fun g => tparse_ok tc1 [109, 105, 110, 58, 32, 50, 10, 109, 105, 110, 58, 32, 51] (by decide) g
  simp only [t_p2] at p2
  refine w_call rfl ((p2 _).mono ?_)
  rintro _ a2 ⟨rfl, ax2⟩
  repeat (first | refine sS ?_ | refine w_mv rfl ?_ | refine w_ext rfl rfl ?_)
  refine w_new fun b2 bx2 bk2 bm2 => ?_
  repeat (first | refine sSn ?_)
  refine w_stN rfl rfl bk2 rfl rfl fun c2 cq2 ck2 cm2 => ?_
  have y2 : Ext c1 c2 := (ax2.trans bx2).own' cq2 cm2 (by have := ax2.1; omega)
  have e2 := (y2.2 _ hc1).trans ck1
  have l2 : a1.nx < c2.nx := Nat.lt_of_lt_of_le hc1 y2.1
  repeat (first | refine sS ?_ | refine sE ?_ | refine w_mv rfl ?_ | (refine is_ldn ?_; refine w_ldn rfl (by first | exact rd_all ‹_› rfl | exact rd_newn rfl | assumption) ?_) | refine ai_seq ?_ | refine ai_regW ?_)
  have p3 := fun g => tparse_ok tc1 [117, 112, 58, 32, 48, 46, 53] (by decide) g
  simp only [t_p3] at p3
  refine w_call rfl ((p3 _).mono ?_)
  rintro _ a3 ⟨rfl, ax3⟩
  repeat (first | refine sS ?_ | refine w_mv rfl ?_ | refine w_ext rfl rfl ?_)
  refine w_new fun b3 bx3 bk3 bm3 => ?_
  repeat (first | refine sSn ?_)
  refine w_stN rfl rfl bk3 rfl rfl fun c3 cq3 ck3 cm3 => ?_
  have y3 : Ext c2 c3 := (ax3.trans bx3).own' cq3 cm3 (by have := ax3.1; omega)
  have e3 := (y3.2 _ l2).trans e2
  have l3 : a1.nx < c3.nx := Nat.lt_of_lt_of_le l2 y3.1
  have hc3 : a3.nx < c3.nx := by omega
  repeat (first | refine sS ?_ | refine sE ?_ | refine w_mv rfl ?_ | (refine is_ldn ?_; refine w_ldn rfl (by first | exact rd_all ‹_› rfl | exact rd_newn rfl | assumption) ?_) | refine ai_seq ?_ | refine ai_regW ?_)
  obtain ⟨pr, hpr⟩ := t_pr
  have pp := fun g => print_ok tc1 g
  simp only [hpr] at pp
  refine w_call rfl ((pp _).mono ?_)
  rintro _ g5 ⟨rfl, x5⟩
  have e5 := (x5.2 _ l3).trans e3
  have l5 : a1.nx < g5.nx := Nat.lt_of_lt_of_le l3 x5.1
  have d5 := (x5.2 _ hc3).trans ck3
  have m5 : a3.nx < g5.nx := Nat.lt_of_lt_of_le hc3 x5.1
  repeat (first | refine sS ?_ | refine sE ?_ | refine w_mv rfl ?_ | refine w_ext rfl rfl ?_ | (refine is_ldn ?_; refine w_ldn rfl (by first | exact rd_all ‹_› rfl | exact rd_newn rfl | assumption) ?_) | (refine w_call rfl ((n3 _).mono ?_); rintro _ _ ⟨rfl, rfl⟩) | refine ai_seq ?_ | refine ai_regW ?_)
  have p4 := fun g => tparse_ok tc1 [103, 114, 97, 99, 101, 58, 32, 48, 48, 48, 48, 48, 48, 55] (by decide) g
  simp only [t_p4] at p4
  refine w_call rfl ((p4 _).mono ?_)
  rintro _ a4 ⟨rfl, ax4⟩
  repeat (first | refine sS ?_ | refine w_mv rfl ?_ | refine w_ext rfl rfl ?_)
  refine w_new fun b4 bx4 bk4 bm4 => ?_
  repeat (first | refine sSn ?_)
  refine w_stN rfl rfl bk4 rfl rfl fun c4 cq4 ck4 cm4 => ?_
  have y4 : Ext g5 c4 := (ax4.trans bx4).own' cq4 cm4 (by have := ax4.1; omega)
  have e6 := (y4.2 _ l5).trans e5
  have l6 : a1.nx < c4.nx := Nat.lt_of_lt_of_le l5 y4.1
  have d6 := (y4.2 _ m5).trans d5
  have m6 : a3.nx < c4.nx := Nat.lt_of_lt_of_le m5 y4.1
  repeat (first | refine sS ?_ | refine sE ?_ | refine w_mv rfl ?_ | (refine is_ldn ?_; refine w_ldn rfl (by first | exact rd_all ‹_› rfl | exact rd_newn rfl | assumption) ?_) | refine ai_seq ?_ | refine ai_regW ?_)
  have p5 := fun g => tparse_ok tc1 [9, 109, 105, 110, 58, 32, 50] (by decide) g
  simp only [t_p5] at p5
  refine w_call rfl ((p5 _).mono ?_)
  rintro _ a5 ⟨rfl, ax5⟩
  repeat (first | refine sS ?_ | refine w_mv rfl ?_ | refine w_ext rfl rfl ?_)
  refine w_new fun b5 bx5 bk5 bm5 => ?_
  repeat (first | refine sSn ?_)
  refine w_stN rfl rfl bk5 rfl rfl fun c5 cq5 ck5 cm5 => ?_
  have y5 : Ext c4 c5 := (ax5.trans bx5).own' cq5 cm5 (by have := ax5.1; omega)
  have e7 := (y5.2 _ l6).trans e6
  have l7 : a1.nx < c5.nx := Nat.lt_of_lt_of_le l6 y5.1
  have d7 := (y5.2 _ m6).trans d6
  have m7 : a3.nx < c5.nx := Nat.lt_of_lt_of_le m6 y5.1
  repeat (first | refine sS ?_ | refine sE ?_ | refine w_mv rfl ?_ | (refine is_ldn ?_; refine w_ldn rfl (by first | exact rd_all ‹_› rfl | exact rd_newn rfl | assumption) ?_) | refine ai_seq ?_ | refine ai_regW ?_)
  have p6 := fun g => tparse_ok tc1 [109, 105, 110, 58, 32, 50, 32, 35, 32, 120] (by decide) g
  simp only [t_p6] at p6
  refine w_call rfl ((p6 _).mono ?_)
  rintro _ a6 ⟨rfl, ax6⟩
  repeat (first | refine sS ?_ | refine w_mv rfl ?_ | refine w_ext rfl rfl ?_)
  refine w_new fun b6 bx6 bk6 bm6 => ?_
  repeat (first | refine sSn ?_)
  refine w_stN rfl rfl bk6 rfl rfl fun c6 cq6 ck6 cm6 => ?_
  have y6 : Ext c5 c6 := (ax6.trans bx6).own' cq6 cm6 (by have := ax6.1; omega)
  have e8 := (y6.2 _ l7).trans e7
  have l8 : a1.nx < c6.nx := Nat.lt_of_lt_of_le l7 y6.1
  have d8 := (y6.2 _ m7).trans d7
  have m8 : a3.nx < c6.nx := Nat.lt_of_lt_of_le m7 y6.1
  repeat (first | refine sS ?_ | refine sE ?_ | refine w_mv rfl ?_ | refine w_pickT rfl ?_ | (refine is_okn rfl ?_; refine w_op rfl ?_) | refine w_gT rfl rfl ?_ | (refine is_ld ?_; refine w_ld rfl (by first | exact rd_g ‹_› rfl | exact rd_new rfl | assumption) ?_) | (refine w_cmp (c2 := true) rfl ?_ ?_; focus (first | exact decide_eq_true (by omega) | (simp; done) | (simp; omega))) | (refine w_call rfl ((s1 _).mono ?_); rintro _ _ ⟨rfl, rfl⟩) | (refine w_call rfl ((s2 _).mono ?_); rintro _ _ ⟨rfl, rfl⟩) | (refine w_call rfl ((s3 _).mono ?_); rintro _ _ ⟨rfl, rfl⟩) | refine ai_seq ?_ | refine ai_regW ?_)
  refine w_cmp (c2 := true) rfl rfl ?_
  repeat (first | refine sS ?_ | refine w_mv rfl ?_ | refine w_pickT rfl ?_ | (refine is_okn rfl ?_; refine w_op rfl ?_) | refine w_gT rfl rfl ?_ | (refine is_ld ?_; refine w_ld rfl (by first | exact rd_g ‹_› rfl | exact rd_new rfl | assumption) ?_))
  refine w_cmp (c2 := true) rfl rfl ?_
  repeat (first | refine sS ?_ | refine w_mv rfl ?_ | refine w_pickT rfl ?_ | refine w_gT rfl rfl ?_ | (refine is_ldn ?_; refine w_ldn rfl (by first | exact rd_all ‹_› rfl | exact rd_newn rfl | assumption) ?_) | (refine w_cmp (c2 := true) rfl ?_ ?_; focus (first | exact decide_eq_true (by omega) | (simp; done) | (simp; omega))))
  refine w_eqS rfl rfl (ks := List.replicate 20 (.int .i64)) (by kernel_rfl) rfl rfl ?_
  intro bb hbb
  obtain rfl : bb = true := hbb.2 rfl
  repeat (first | refine sS ?_ | refine w_mv rfl ?_ | refine w_pickT rfl ?_ | (refine is_okn rfl ?_; refine w_op rfl ?_) | refine w_gT rfl rfl ?_ | (refine w_cmp (c2 := true) rfl ?_ ?_; focus (first | exact decide_eq_true (by omega) | (simp; done) | (simp; omega))))
  have hzr := sz_mk ([116, 97, 114, 103, 101, 116, 58, 32, 53, 46, 53, 10] ++ (117 :: 116 :: pr))
  rw [List.length_append, List.length_cons, List.length_cons] at hzr
  refine w_cmp (c2 := true) rfl (by rw [hzr]; exact decide_eq_true (by simp; omega)) ?_
  repeat (first | refine sS ?_ | refine w_mv rfl ?_ | refine w_pickT rfl ?_ | refine w_gT rfl rfl ?_)
  refine w_slsP (l := [116, 97, 114, 103, 101, 116, 58, 32, 53, 46, 53, 10] ++ (117 :: 116 :: pr)) (i := 12) rfl (by simp) ?_
  repeat (first | refine sS ?_ | refine sE ?_ | refine w_mv rfl ?_ | refine w_pickT rfl ?_ | refine w_gT rfl rfl ?_ | (refine w_cmp (c2 := true) rfl ?_ ?_; focus (first | exact decide_eq_true (by omega) | (simp; done) | (simp; omega))) | (refine ai_ret ?_; repeat (first | rw [thenQ_r] | rw [blockQ_r] | rw [roundE_r])))
  exact end_one rfl ⟨rfl, (((((z1.trans y2).trans y3).trans x5).trans y4).trans y5).trans y6⟩
end Go.Proofs.YtapbmmlgmcmpnaaDoorW.Am
/- Texts: the law TextBlanks. -/
namespace Go.Proofs.YtapbmmlgmcmpnaaDoorW.Am
open Go Go.RowKit
theorem u64_r (x : Int) : 0 ≤ IntKind.u64.wrap x ∧ IntKind.u64.wrap x ≤ 18446744073709551615 := by
  have : IntKind.u64.wrap x = x % 18446744073709551616 := rfl
  omega
theorem lines_cons {ln : List UInt8} (t : List UInt8) (h : ∀ b ∈ ln, b ≠ 10) : linesL (ln ++ 10 :: t) = ln :: linesL t := by
  have h1 : (ln ++ 10 :: t)[ln.length]? = some 10 := by simp
  have h2 := lines_at (ln ++ 10 :: t) ln.length h1 (fun q hq => by
    rw [List.getElem?_append_left hq, List.getElem?_eq_getElem hq]
    exact fun e => h _ (List.getElem_mem hq) (Option.some.inj e))
  rw [h2]
  simp
theorem parse_skip (S : Nat → List UInt8 → Option Int) {ln : List UInt8} (hb : blankB (Go.Lib.trimB ln 32) = true) (R : List (List UInt8)) (v : List Int) (was : List Nat) : ∀ (n i : Nat), parseL S (List.replicate n ln ++ R) i v was = parseL S R (i + n) v was
  | 0, i => rfl
  | n + 1, i => by
    rw [List.replicate_succ, List.cons_append]
    show (if blankB (Go.Lib.trimB ln 32) = true then parseL S (List.replicate n ln ++ R) (i + 1) v was else _) = _
    rw [if_pos hb, parse_skip S hb R v was n (i + 1)]
    congr 1
    omega
def blk1 : List UInt8 := [32, 32, 32]
def blk2 : List UInt8 := [32, 35, 32, 109, 105, 110, 58, 32, 57]
def repS (n : Nat) (l : List UInt8) : List UInt8 := (List.replicate n (l ++ [10])).flatten
theorem repS_succ (n : Nat) (l : List UInt8) : repS (n + 1) l = repS n l ++ (l ++ [10]) := by
  unfold repS
  rw [List.replicate_succ', List.flatten_append]
  simp
theorem repS_len (n : Nat) (l : List UInt8) : (repS n l).length = n * (l.length + 1) := by
  unfold repS
  simp
theorem lines_rep {l : List UInt8} (h : ∀ b ∈ l, b ≠ 10) (t : List UInt8) : ∀ n, linesL (repS n l ++ t) = List.replicate n l ++ linesL t
  | 0 => rfl
  | n + 1 => by
    have e : repS (n + 1) l ++ t = l ++ 10 :: (repS n l ++ t) := by
      unfold repS
      rw [List.replicate_succ]
      simp
    rw [e, lines_cons _ h, lines_rep h t n, List.replicate_succ]
    rfl
theorem blk_lines (x y : Nat) (t : List UInt8) : linesL ((repS x blk1 ++ repS y blk2) ++ t) = List.replicate x blk1 ++ (List.replicate y blk2 ++ linesL t) := by
  rw [List.append_assoc, lines_rep (by decide), lines_rep (by decide)]
theorem blk_parse (x y : Nat) (t : List UInt8) (v : List Int) : parseL setF (linesL ((repS x blk1 ++ repS y blk2) ++ t)) 0 v [] = parseL setF (linesL t) (0 + x + y) v [] := by
  rw [blk_lines, parse_skip setF (by kernel_rfl), parse_skip setF (by kernel_rfl)]
def min3 : Cf20 := { dflt with min := 3 }
theorem blk_p1 (x y : Nat) : parseF setF dflt ((repS x blk1 ++ repS y blk2) ++ [32, 32, 109, 105, 110, 58, 32, 51, 32, 32, 32]) = (min3, 0, 0) := by
  unfold parseF
  rw [blk_parse]
  kernel_rfl
theorem blk_p2 (x y : Nat) : parseF setF dflt ((repS x blk1 ++ repS y blk2) ++ [109, 105, 110, 58, 32, 51, 10, 109, 105, 110, 32, 52]) = (dflt, 4, ((0 + x + y + 1 + 1 : Nat) : Int)) := by
  unfold parseF
  rw [blk_parse]
  kernel_rfl
set_option maxHeartbeats 2000000 in
theorem tblanks_ok (a b : Int) (h : Hp) : ACall PX 3 [nI a, nI b] h (fun v _ => v = .bool true) := by
  have ha := u64_r a
  have hb := u64_r b
  obtain ⟨X, hX⟩ : ∃ X : Nat, IntKind.u64.wrap a % 10 = (X : Int) := ⟨(IntKind.u64.wrap a % 10).toNat, by omega⟩
  obtain ⟨Y, hY⟩ : ∃ Y : Nat, IntKind.u64.wrap b % 10 = (Y : Int) := ⟨(IntKind.u64.wrap b % 10).toNat, by omega⟩
  have hX9 : X ≤ 9 := by omega
  have hY9 : Y ≤ 9 := by omega
  refine acall Go.Proofs.Tryd.func3 c3 (by simp [ir3]) ?_
  unfold ir3
  dsimp only
  refine ai_seq ?_
  repeat (first | refine sS ?_ | refine sE ?_ | refine w_mv rfl ?_ | refine ai_regW ?_)
  refine ai_seq ?_
  repeat (first | refine sS ?_ | refine sE ?_ | refine w_mv rfl ?_ | (refine w_ci rfl ?_ ?_; (focus omega)) | (refine w_rem rfl ?_ ?_ ?_; (focus omega); (focus omega)) | refine w_cuw rfl ?_ | refine ai_regW ?_)
  rw [hX, hY]
  refine ai_seq ?_
  repeat (first | refine sS ?_ | refine sE ?_ | refine w_mv rfl ?_ | refine ai_regW ?_)
  refine ai_join (γ := Unit) (fun _ => [(5, nI X), (6, nI Y), (7, bs (repS X blk1))]) (fun _ g => h = g) ?_ ?_
  · repeat (first | refine sS ?_ | refine sE ?_ | refine w_mv rfl ?_ | refine ai_seq ?_ | refine ai_regW ?_ | refine ai_block ?_)
    refine ai_loopE (γ := Nat) (fun i => [(5, nI X), (6, nI Y), (7, bs (repS i blk1)), (8, nI i)]) (fun i g => h = g ∧ i ≤ X) (fun i => X - i) 0
      (by repeat (first | exact le_nil | refine le_consF rfl ?_)) ⟨rfl, Nat.zero_le _⟩ ?_
    rintro i _ ⟨rfl, hi⟩
    have hl := repS_len i blk1
    have hbl : blk1.length = 3 := rfl
    rw [hbl] at hl
    by_cases hiX : i < X
    · repeat (first | refine sS ?_ | refine sE ?_ | refine w_mv rfl ?_ | (refine w_cmp (c2 := true) rfl ?_ ?_; focus (first | exact decide_eq_true (by omega) | (simp; done) | (simp; omega))) | refine ai_seq ?_ | refine ai_regW ?_ | refine ai_condF (b := true) rfl (fun _ => ?_) (fun hb => by cases hb) | refine ai_skip ?_ | refine ai_block ?_)
      refine w_catB (b := blk1 ++ [10]) rfl (by rw [hl]; simp [blk1]; omega) ?_
      rw [← repS_succ]
      repeat (first | refine sS ?_ | refine sE ?_ | refine w_mv rfl ?_ | (refine w_add rfl ?_ ?_; (focus omega)) | refine ai_regW ?_)
      exact ⟨i + 1, (by repeat (first | exact le_nil | refine le_consF rfl ?_)), ⟨rfl, by omega⟩, by dsimp only; omega⟩
    · obtain rfl : i = X := by omega
      repeat (first | refine sS ?_ | refine sE ?_ | refine w_mv rfl ?_ | (refine w_cmp (c2 := false) rfl ?_ ?_; focus (first | exact decide_eq_false (by omega) | (simp; done) | (simp; omega))) | refine ai_seq ?_ | refine ai_regW ?_ | refine ai_condF (b := false) rfl (fun hb => by cases hb) (fun _ => ?_) | refine ai_exit ?_)
      exact ⟨rfl, (), (by repeat (first | exact le_nil | refine le_consF rfl ?_)), rfl⟩
  rintro _ _ rfl
  refine ai_join (γ := Unit) (fun _ => [(5, nI X), (6, nI Y), (7, bs (repS X blk1 ++ repS Y blk2))]) (fun _ g => h = g) ?_ ?_
  · repeat (first | refine sS ?_ | refine sE ?_ | refine w_mv rfl ?_ | refine ai_seq ?_ | refine ai_regW ?_ | refine ai_block ?_)
    refine ai_loopE (γ := Nat) (fun i => [(5, nI X), (6, nI Y), (7, bs (repS X blk1 ++ repS i blk2)), (9, nI i)]) (fun i g => h = g ∧ i ≤ Y) (fun i => Y - i) 0
      (by rw [show repS X blk1 ++ repS 0 blk2 = repS X blk1 from List.append_nil _]; exact (by repeat (first | exact le_nil | refine le_consF rfl ?_))) ⟨rfl, Nat.zero_le _⟩ ?_
    rintro i _ ⟨rfl, hi⟩
    have hl := repS_len X blk1
    have hl2 := repS_len i blk2
    have hbl : blk1.length = 3 := rfl
    have hbl2 : blk2.length = 9 := rfl
    rw [hbl] at hl
    rw [hbl2] at hl2
    by_cases hiX : i < Y
    · repeat (first | refine sS ?_ | refine sE ?_ | refine w_mv rfl ?_ | (refine w_cmp (c2 := true) rfl ?_ ?_; focus (first | exact decide_eq_true (by omega) | (simp; done) | (simp; omega))) | refine ai_seq ?_ | refine ai_regW ?_ | refine ai_condF (b := true) rfl (fun _ => ?_) (fun hb => by cases hb) | refine ai_skip ?_ | refine ai_block ?_)
      refine w_catB (b := blk2 ++ [10]) rfl (by rw [List.length_append, hl, hl2]; simp [blk2]; omega) ?_
      rw [List.append_assoc, ← repS_succ]
      repeat (first | refine sS ?_ | refine sE ?_ | refine w_mv rfl ?_ | (refine w_add rfl ?_ ?_; (focus omega)) | refine ai_regW ?_)
      exact ⟨i + 1, (by repeat (first | exact le_nil | refine le_consF rfl ?_)), ⟨rfl, by omega⟩, by dsimp only; omega⟩
    · obtain rfl : i = Y := by omega
      repeat (first | refine sS ?_ | refine sE ?_ | refine w_mv rfl ?_ | (refine w_cmp (c2 := false) rfl ?_ ?_; focus (first | exact decide_eq_false (by omega) | (simp; done) | (simp; omega))) | refine ai_seq ?_ | refine ai_regW ?_ | refine ai_condF (b := false) rfl (fun hb => by cases hb) (fun _ => ?_) | refine ai_exit ?_)
      exact ⟨rfl, (), (by repeat (first | exact le_nil | refine le_consF rfl ?_)), rfl⟩
  rintro _ _ rfl
  have p1 := blk_p1 X Y
  have p2 := blk_p2 X Y
  have hl : (repS X blk1 ++ repS Y blk2).length ≤ 1000 := by
    have h1 := repS_len X blk1
    have h2 := repS_len Y blk2
    have hbl : blk1.length = 3 := rfl
    have hbl2 : blk2.length = 9 := rfl
    rw [List.length_append, h1, h2, hbl, hbl2]
    omega
  generalize repS X blk1 ++ repS Y blk2 = s at p1 p2 hl ⊢
  repeat (first | refine sS ?_ | refine ai_seq ?_ | refine ai_regW ?_)
  refine w_call rfl ((default_ok _).mono ?_)
  rintro _ g1 ⟨rfl, x1⟩
  repeat (first | refine sS ?_)
  refine w_new fun g2 x2 k2 m2 => ?_
  repeat (first | refine sSn ?_)
  refine w_stN rfl rfl k2 rfl rfl fun g3 q3 k3 m3 => ?_
  repeat (first | refine sS ?_ | refine sE ?_ | refine w_mv rfl ?_ | (refine is_ldn ?_; refine w_ldn rfl (by first | exact rd_all ‹_› rfl | exact rd_newn rfl | assumption) ?_) | refine ai_seq ?_ | refine ai_regW ?_)
  refine w_catB (a := s) (b := [32, 32, 109, 105, 110, 58, 32, 51, 32, 32, 32]) rfl (by simp only [List.length_cons, List.length_nil]; omega) ?_
  have c1 := fun g => tparse_ok dflt (s ++ [32, 32, 109, 105, 110, 58, 32, 51, 32, 32, 32]) (by rw [List.length_append]; simp only [List.length_cons, List.length_nil]; omega) g
  simp only [p1] at c1
  repeat (first | refine sS ?_)
  refine w_call rfl ((c1 _).mono ?_)
  rintro _ g4 ⟨rfl, x4⟩
  have k4 := (x4.2 _ (by omega)).trans k3
  repeat (first | refine sS ?_ | refine w_mv rfl ?_ | refine w_ext rfl rfl ?_)
  refine w_new fun g5 x5 k5 m5 => ?_
  have k45 := (x5.2 _ (by have := x4.1; omega)).trans k4
  repeat (first | refine sSn ?_)
  refine w_stN rfl rfl k5 rfl rfl fun g6 q6 k6 m6 => ?_
  have k46 := (q6 _ (by have := x4.1; omega)).trans k45
  repeat (first | refine sS ?_ | refine sE ?_ | refine w_mv rfl ?_ | (refine is_ldn ?_; refine w_ldn rfl (by first | exact rd_all ‹_› rfl | exact rd_newn rfl | assumption) ?_) | refine ai_seq ?_ | refine ai_regW ?_)
  refine w_catB (a := s) (b := [109, 105, 110, 58, 32, 51, 10, 109, 105, 110, 32, 52]) rfl (by simp only [List.length_cons, List.length_nil]; omega) ?_
  have c2 := fun g => tparse_ok dflt (s ++ [109, 105, 110, 58, 32, 51, 10, 109, 105, 110, 32, 52]) (by rw [List.length_append]; simp only [List.length_cons, List.length_nil]; omega) g
  simp only [p2] at c2
  repeat (first | refine sS ?_)
  refine w_call rfl ((c2 _).mono ?_)
  rintro _ g7 ⟨rfl, x7⟩
  have k7 := (x7.2 _ (by omega)).trans k6
  repeat (first | refine sS ?_ | refine w_mv rfl ?_ | refine w_ext rfl rfl ?_)
  refine w_new fun g8 x8 k8 m8 => ?_
  have k78 := (x8.2 _ (by have := x7.1; omega)).trans k7
  repeat (first | refine sSn ?_)
  refine w_stN rfl rfl k8 rfl rfl fun g9 q9 k9 m9 => ?_
  have k79 := (q9 _ (by have := x7.1; omega)).trans k78
  repeat (first | refine sS ?_ | refine sE ?_ | refine w_mv rfl ?_ | refine ai_seq ?_ | refine ai_regW ?_)
  refine w_call rfl ((told_ok _).mono ?_)
  rintro _ ga ⟨rfl, xa⟩
  have ka := (xa.2 _ (by have := x7.1; have := x8.1; omega)).trans k79
  repeat (first | refine sS ?_ | refine w_mv rfl ?_ | refine w_pickT rfl ?_ | (refine is_okn rfl ?_; refine w_op rfl ?_) | refine w_gT rfl rfl ?_ | (refine is_ld ?_; refine w_ld rfl (by first | exact rd_g ‹_› rfl | exact rd_new rfl | assumption) ?_) | (refine w_cmp (c2 := true) rfl ?_ ?_; focus (first | exact decide_eq_true (by omega) | (simp; done) | (simp; omega))))
  refine w_cmp (c2 := true) rfl rfl ?_
  repeat (first | refine sS ?_ | refine sE ?_ | refine w_mv rfl ?_ | refine w_pickT rfl ?_ | refine w_gT rfl rfl ?_ | (refine w_add rfl ?_ ?_; (focus omega)) | (refine w_cmp (c2 := true) rfl ?_ ?_; focus (first | exact decide_eq_true (by omega) | (simp; done) | (simp; omega))) | (refine ai_ret ?_; repeat (first | rw [thenQ_r] | rw [blockQ_r] | rw [roundE_r])))
  exact end_one rfl rfl
end Go.Proofs.YtapbmmlgmcmpnaaDoorW.Am
/- Texts: numerals are read as what they are; the law TextNumbers. -/
namespace Go.Proofs.YtapbmmlgmcmpnaaDoorW.Am
open Go Go.RowKit
theorem ofNat_dig {d : Nat} (h : d < 10) : (UInt8.ofNat (48 + d)).toNat = 48 + d := by
  rw [UInt8.toNat_ofNat']
  omega
theorem dec_facts (n : Nat) : (Go.Lib.decDigits n).all isDig = true ∧ valA 0 (Go.Lib.decDigits n) = n ∧ 1 ≤ (Go.Lib.decDigits n).length := by
  induction n using Nat.strongRecOn with
  | ind n ih =>
    by_cases h : 9 < n
    · obtain ⟨h1, h2, h3⟩ := ih (n / 10) (by omega)
      have hd := ofNat_dig (d := n % 10) (by omega)
      rw [decd_big h]
      generalize UInt8.ofNat (48 + n % 10) = b at hd ⊢
      refine ⟨?_, ?_, by simp⟩
      · rw [List.all_append, h1]
        simp only [List.all_cons, List.all_nil, Bool.and_true, Bool.true_and, isDig, hd]
        exact decide_eq_true (by omega)
      · rw [valA_snoc, h2, hd]
        omega
    · have hd := ofNat_dig (d := n) (by omega)
      rw [decd_small h]
      generalize UInt8.ofNat (48 + n) = b at hd ⊢
      refine ⟨?_, ?_, by simp⟩
      · simp only [List.all_cons, List.all_nil, Bool.and_true, isDig, hd]
        exact decide_eq_true (by omega)
      · show 0 * 10 + (b.toNat - 48) = n
        omega
theorem dec_short : ∀ (k n : Nat), n < 10 ^ (k + 1) → (Go.Lib.decDigits n).length ≤ k + 1
  | 0, n, h => by rw [decd_small (by omega)]; simp
  | k + 1, n, h => by
    by_cases h9 : 9 < n
    · rw [decd_big h9, List.length_append, List.length_singleton]
      have := dec_short k (n / 10) (by rw [Nat.pow_succ] at h; omega)
      omega
    · rw [decd_small h9]; simp
theorem digF_all {l : List UInt8} {k : Nat} (h1 : 1 ≤ l.length) (h2 : l.length ≤ k) (h3 : l.all isDig = true) : digF l k = some (valA 0 l) := if_pos ⟨h1, h2, h3⟩
theorem digF_dec {n k : Nat} (h : n < 10 ^ (k + 1)) : digF (Go.Lib.decDigits n) (k + 1) = some n := by
  obtain ⟨h1, h2, h3⟩ := dec_facts n
  rw [digF_all h3 (dec_short k n h) h1, h2]
theorem dig_ne {l : List UInt8} (h : l.all isDig = true) {c : UInt8} (hc : isDig c = false) : ∀ q : Nat, l[q]? ≠ some c := by
  intro q e
  have := List.all_eq_true.1 h c (List.mem_of_getElem? e)
  rw [hc] at this
  cases this
theorem cut_pt {D T : List UInt8} (hD : D.all isDig = true) : Go.Lib.cut (D ++ 46 :: T) [46] = (D, T, true) := by
  rw [cut_at (i := D.length) (by simp) (fun k hk => by rw [List.getElem?_append_left hk]; exact dig_ne hD rfl k)]
  simp
theorem numU_int {D : List UInt8} (hD : D.all isDig = true) (h1 : 1 ≤ D.length) (h9 : D.length ≤ 9) : numU D = some (valA 0 D * 1000) := by
  unfold numU
  rw [cut_no (dig_ne hD rfl), digF_all h1 h9 hD]
  rfl
theorem numU_pt {D T : List UInt8} (hD : D.all isDig = true) (h1 : 1 ≤ D.length) (h9 : D.length ≤ 9) (hT : T.all isDig = true) (t1 : 1 ≤ T.length) (t3 : T.length ≤ 3) : numU (D ++ 46 :: T) = some (valA 0 D * 1000 + valA 0 T * 10 ^ (3 - T.length)) := by
  unfold numU
  rw [cut_pt hD]
  dsimp only
  rw [digF_all h1 h9 hD]
  dsimp only
  rw [if_pos rfl, digF_all t1 t3 hT]
theorem numU_long {D T : List UInt8} (hD : D.all isDig = true) (t3 : 3 < T.length) : numU (D ++ 46 :: T) = none := by
  unfold numU
  rw [cut_pt hD]
  dsimp only
  have : digF T 3 = none := if_neg (by omega)
  rw [this]
  cases digF D 9 <;> rfl
def sgL (b : Bool) (l : List UInt8) : List UInt8 := if b = true then 45 :: l else l
theorem sgL_app (b : Bool) (l m : List UInt8) : sgL b l ++ m = sgL b (l ++ m) := by cases b <;> rfl
theorem numF_sg {b : Bool} {l : List UInt8} (h : ∀ c r, l = c :: r → c ≠ 45) : numF (sgL b l) = (numU l).map fun n => sgn b n := by
  cases b
  · show numF l = _
    unfold numF Go.Lib.trimPrefix
    have hp : Go.Lib.hasPrefix l [45] = false := by
      cases l with
      | nil => rfl
      | cons c r => rw [pre_cons]; simpa using fun e => h c r rfl e.symm
    rw [hp]
    rfl
  · show numF (45 :: l) = _
    unfold numF Go.Lib.trimPrefix
    rw [pre_cons]
    rfl
theorem dig_head {l : List UInt8} (h : l.all isDig = true) (m : List UInt8) (hl : l ≠ []) : ∀ c r, l ++ m = c :: r → c ≠ 45 := by
  intro c r e hc
  cases l with
  | nil => exact hl rfl
  | cons a l =>
    rw [List.cons_append] at e
    cases e
    subst hc
    rw [List.all_cons] at h
    exact absurd h (by simp [isDig])
theorem itoa_all {n : Int} (h : 0 ≤ n) : (Go.Lib.itoa n).all isDig = true := by
  obtain ⟨m, rfl⟩ : ∃ m : Nat, n = (m : Int) := ⟨n.toNat, by omega⟩
  rw [itoa_nn]
  exact (dec_facts m).1
theorem absB_r {n : Int} (h : I64 n) : 0 ≤ absB n := by
  unfold absB
  obtain ⟨h1, h2⟩ := h
  split <;> omega
theorem show_pt {n : Int} (h : absB n % 1000 ≠ 0) : (46 : UInt8) ∈ showF n := by
  unfold showF fracB
  rw [if_neg h]
  simp
theorem show_nopt {n : Int} (hn : I64 n) (h : absB n % 1000 = 0) : (46 : UInt8) ∉ showF n := by
  unfold showF fracB
  rw [if_pos h, List.append_nil]
  intro hm
  rcases List.mem_append.1 hm with hm | hm
  · split at hm
    · simp at hm
    · cases hm
  · have := List.all_eq_true.1 (itoa_all (n := absB n / 1000) (by have := absB_r hn; omega)) 46 hm
    cases this
set_option maxRecDepth 10000 in
set_option maxHeartbeats 4000000 in
theorem tnumbers_ok (a b : Int) (mi : Bool) (h : Hp) : ACall PX 7 [nI a, nI b, .bool mi] h (fun v _ => v = .bool true) := by
  have ha := u64_r a
  have hb := u64_r b
  obtain ⟨W, hW⟩ : ∃ X : Nat, IntKind.u64.wrap a % 1000000000 = (X : Int) := ⟨(IntKind.u64.wrap a % 1000000000).toNat, by omega⟩
  obtain ⟨p, hp⟩ : ∃ Y : Nat, IntKind.u64.wrap b % 1000 = (Y : Int) := ⟨(IntKind.u64.wrap b % 1000).toNat, by omega⟩
  have hW9 : W < 10 ^ 9 := by omega
  have hp3 : p < 1000 := by omega
  have hcp : (1000 : Int) + (p : Int) = ((1000 + p : Nat) : Int) := by omega
  obtain ⟨d1, d2, d3⟩ := dec_facts W
  have d4 := dec_short 8 W hW9
  have hT4 := dec4 hp3
  have hTa : ((Go.Lib.decDigits (1000 + p)).drop 1).all isDig = true ∧ valA 0 ((Go.Lib.decDigits (1000 + p)).drop 1) = p ∧ ((Go.Lib.decDigits (1000 + p)).drop 1).length = 3 := by
    have e1 := ofNat_dig (d := p / 100) (by omega)
    have e2 := ofNat_dig (d := p / 10 % 10) (by omega)
    have e3 := ofNat_dig (d := p % 10) (by omega)
    rw [hT4]
    generalize UInt8.ofNat (48 + p / 100) = b1 at e1 ⊢
    generalize UInt8.ofNat (48 + p / 10 % 10) = b2 at e2 ⊢
    generalize UInt8.ofNat (48 + p % 10) = b3 at e3 ⊢
    refine ⟨?_, ?_, rfl⟩
    · simp only [List.drop_succ_cons, List.drop_zero, List.all_cons, List.all_nil, isDig, e1, e2, e3, Bool.and_true, Bool.and_eq_true, decide_eq_true_eq]
      omega
    · show ((0 * 10 + (b1.toNat - 48)) * 10 + (b2.toNat - 48)) * 10 + (b3.toNat - 48) = p
      omega
  have hdl : 1 ≤ (Go.Lib.decDigits (1000 + p)).length := by rw [hT4]; simp
  obtain ⟨T, hT⟩ : ∃ T, (Go.Lib.decDigits (1000 + p)).drop 1 = T := ⟨_, rfl⟩
  rw [hT] at hTa
  obtain ⟨t1, t2, t3⟩ := hTa
  obtain ⟨D, hD⟩ : ∃ D, Go.Lib.decDigits W = D := ⟨_, rfl⟩
  rw [hD] at d1 d2 d3 d4
  have hDn : D ≠ [] := by intro e; rw [e] at d3; simp at d3
  have f1 : numF (sgL mi (D ++ 46 :: T)) = some (sgn mi (W * 1000 + p)) := by
    rw [numF_sg (dig_head d1 _ hDn), numU_pt d1 d3 d4 t1 (by omega) (by omega), t2, t3, d2]
    simp
  have f2 : numF (sgL mi (D ++ 46 :: (T ++ [48]))) = none := by
    rw [numF_sg (dig_head d1 _ hDn), numU_long d1 (by simp; omega)]
    rfl
  have f3 : numF (sgL mi D) = some (sgn mi (W * 1000)) := by
    have := dig_head d1 [] hDn
    rw [List.append_nil] at this
    rw [numF_sg this, numU_int d1 d3 d4, d2]
    simp
  have ls : ∀ m : List UInt8, (sgL mi m).length ≤ m.length + 1 := by intro m; cases mi <;> simp [sgL]
  have c1 := fun g => number_ok (sgL mi (D ++ 46 :: T)) (by have := ls (D ++ 46 :: T); rw [List.length_append, List.length_cons] at this; omega) g
  have c2 := fun g => number_ok (sgL mi (D ++ 46 :: (T ++ [48]))) (by have := ls (D ++ 46 :: (T ++ [48])); rw [List.length_append, List.length_cons, List.length_append] at this; simp at this; omega) g
  have c3 := fun g => number_ok (sgL mi D) (by have := ls D; omega) g
  simp only [f1, f2, f3] at c1 c2 c3
  have lsD := ls D
  refine acall Go.Proofs.Tryd.func7 c7 (by simp [ir7]) ?_
  unfold ir7
  dsimp only
  refine ai_seq ?_
  repeat (first | refine sS ?_ | refine sE ?_ | refine w_mv rfl ?_ | refine ai_regW ?_)
  refine ai_seq ?_
  repeat (first | refine sS ?_ | refine sE ?_ | refine w_mv rfl ?_ | (refine w_ci rfl ?_ ?_; (focus omega)) | (refine w_rem rfl ?_ ?_ ?_; (focus omega); (focus omega)) | refine w_cuw rfl ?_ | refine ai_regW ?_)
  rw [hW, hp]
  refine ai_seq ?_
  repeat (first | refine sS ?_ | refine w_mv rfl ?_ | (refine w_add rfl ?_ ?_; (focus omega)) | refine ai_regW ?_)
  rw [hcp]
  refine w_call rfl ((decimal_ok (1000 + p) (by omega) _).mono ?_)
  rintro _ _ ⟨rfl, rfl⟩
  repeat (first | refine sS ?_)
  refine w_slsS (l := Go.Lib.decDigits (1000 + p)) (i := 1) rfl hdl ?_
  rw [hT]
  repeat (first | refine sS ?_ | refine sE ?_ | refine w_mv rfl ?_)
  refine ai_seq ?_
  repeat (first | refine sS ?_ | refine w_mv rfl ?_ | refine ai_regW ?_)
  refine w_call rfl ((decimal_ok W (by omega) _).mono ?_)
  rintro _ _ ⟨rfl, rfl⟩
  rw [hD]
  repeat (first | refine sS ?_ | refine sE ?_ | refine w_mv rfl ?_)
  refine ai_seq ?_
  repeat (first | refine sS ?_ | refine sE ?_ | refine w_mv rfl ?_ | (refine w_add rfl ?_ ?_; (focus omega)) | (refine w_mul rfl ?_ ?_; (focus omega)) | refine ai_regW ?_)
  refine ai_join (γ := Unit) (fun _ => [(7, nI W), (8, nI p), (9, bs T), (10, bs (sgL mi D)), (11, nI (sgn mi (W * 1000 + p)))]) (fun _ g => h = g) ?_ ?_
  · cases mi
    · repeat (first | refine sS ?_ | refine sE ?_ | refine w_mv rfl ?_ | refine ai_seq ?_ | refine ai_regW ?_ | refine ai_condF (b := false) rfl (fun hb => by cases hb) (fun _ => ?_) | refine ai_skip ?_)
      exact ⟨rfl, (), by
        refine le_consF rfl (le_consF rfl (le_consF rfl (le_consF rfl (le_consF ?_ le_nil))))
        show some (Value.int .i64 (1000 * (W : Int) + (p : Int))) = _
        rw [show 1000 * (W : Int) + (p : Int) = sgn false (W * 1000 + p) by unfold sgn; simp; omega], rfl⟩
    · repeat (first | refine sS ?_ | refine sE ?_ | refine w_mv rfl ?_ | refine ai_seq ?_ | refine ai_regW ?_ | refine ai_condF (b := true) rfl (fun _ => ?_) (fun hb => by cases hb))
      refine w_catB (a := [45]) (b := D) rfl (by simp only [List.length_cons, List.length_nil]; omega) ?_
      repeat (first | refine sS ?_ | refine sE ?_ | refine w_mv rfl ?_ | (refine w_neg rfl ?_ ?_; (focus omega)))
      exact ⟨rfl, (), by
        refine le_consF rfl (le_consF rfl (le_consF rfl (le_consF rfl (le_consF ?_ le_nil))))
        show some (Value.int .i64 (-(1000 * (W : Int) + (p : Int)))) = _
        rw [show -(1000 * (W : Int) + (p : Int)) = sgn true (W * 1000 + p) by unfold sgn; simp; omega], rfl⟩
  rintro _ _ rfl
  have wr : I64 (sgn mi (W * 1000 + p)) ∧ I64 (sgn mi (W * 1000)) := by cases mi <;> exact ⟨⟨by simp [sgn]; omega, by simp [sgn]; omega⟩, ⟨by simp [sgn]; omega, by simp [sgn]; omega⟩⟩
  have e1 : (sgL mi D ++ [46]) ++ T = sgL mi (D ++ 46 :: T) := by rw [sgL_app, sgL_app]; simp
  have e2 : (sgL mi (D ++ 46 :: T)) ++ [48] = sgL mi (D ++ 46 :: (T ++ [48])) := by rw [sgL_app]; simp
  repeat (first | refine sS ?_ | refine w_mv rfl ?_ | refine ai_seq ?_ | refine ai_regW ?_)
  refine w_catB (a := sgL mi D) (b := [46]) rfl (by simp only [List.length_cons, List.length_nil]; omega) ?_
  repeat (first | refine sS ?_ | refine w_mv rfl ?_)
  refine w_catB (a := sgL mi D ++ [46]) (b := T) rfl (by rw [List.length_append]; simp only [List.length_cons, List.length_nil]; omega) ?_
  rw [e1]
  repeat (first | refine sS ?_ | refine sE ?_ | refine w_mv rfl ?_ | refine w_ext rfl rfl ?_ | (refine w_call rfl ((c1 _).mono ?_); rintro _ _ ⟨rfl, rfl⟩) | refine ai_seq ?_ | refine ai_regW ?_)
  refine w_catB (a := sgL mi D) (b := [46]) rfl (by simp only [List.length_cons, List.length_nil]; omega) ?_
  repeat (first | refine sS ?_ | refine w_mv rfl ?_)
  refine w_catB (a := sgL mi D ++ [46]) (b := T) rfl (by rw [List.length_append]; simp only [List.length_cons, List.length_nil]; omega) ?_
  rw [e1]
  repeat (first | refine sS ?_)
  refine w_catB (a := sgL mi (D ++ 46 :: T)) (b := [48]) rfl (by rw [← e1, List.length_append, List.length_append]; simp only [List.length_cons, List.length_nil]; omega) ?_
  rw [e2]
  repeat (first | refine sS ?_ | refine sE ?_ | refine w_mv rfl ?_ | refine w_ext rfl rfl ?_ | (refine w_call rfl ((c2 _).mono ?_); rintro _ _ ⟨rfl, rfl⟩) | refine ai_seq ?_ | refine ai_regW ?_)
  repeat (first | refine sS ?_ | refine sE ?_ | refine w_mv rfl ?_ | refine w_ext rfl rfl ?_ | (refine w_call rfl ((c3 _).mono ?_); rintro _ _ ⟨rfl, rfl⟩) | refine ai_seq ?_ | refine ai_regW ?_)
  refine w_call rfl ((told_ok _).mono ?_)
  rintro _ ga ⟨rfl, xa⟩
  repeat (first | refine sS ?_ | refine w_mv rfl ?_ | refine w_pickT rfl ?_ | (refine is_okn rfl ?_; refine w_op rfl ?_) | refine w_gT rfl rfl ?_ | (refine w_cmp (c2 := true) rfl ?_ ?_; focus (first | exact decide_eq_true (by omega) | (simp; done) | (simp; omega))))
  by_cases hp0 : p = 0
  · refine w_cmp (c2 := true) rfl (by show (sgn mi ((W : Int) * 1000) == sgn mi ((W : Int) * 1000 + (p : Int))) = true; rw [hp0]; simp) ?_
    repeat (first | refine sS ?_ | refine sE ?_ | refine w_mv rfl ?_ | refine w_pickT rfl ?_ | refine w_gT rfl rfl ?_ | refine w_gF rfl rfl ?_ | (refine w_cmp (c2 := true) rfl ?_ ?_; focus (first | exact decide_eq_true (by omega) | (simp; done) | (simp; omega))) | (refine ai_ret ?_; repeat (first | rw [thenQ_r] | rw [blockQ_r] | rw [roundE_r])))
    exact end_one rfl rfl
  · refine w_cmp (c2 := false) rfl (by
      show (sgn mi ((W : Int) * 1000) == sgn mi ((W : Int) * 1000 + (p : Int))) = false
      rw [beq_eq_false_iff_ne]
      cases mi <;> simp [sgn] <;> omega) ?_
    repeat (first | refine sS ?_ | refine w_mv rfl ?_ | refine w_pickT rfl ?_ | refine w_pickF rfl ?_ | refine w_gT rfl rfl ?_ | (refine w_cmp (c2 := true) rfl ?_ ?_; focus (first | exact decide_eq_true (by omega) | (simp; done) | (simp; omega))) | (refine w_cmp (c2 := false) rfl ?_ ?_; focus (first | exact decide_eq_false (by omega) | (simp; done) | (simp; omega))))
    refine w_call rfl ((show_ok wr.1 _).mono ?_)
    rintro _ _ ⟨rfl, rfl⟩
    repeat (first | refine sS ?_ | refine w_mv rfl ?_ | refine w_gT rfl rfl ?_)
    refine w_call rfl ((show_ok wr.2 _).mono ?_)
    rintro _ _ ⟨rfl, rfl⟩
    repeat (first | refine sS ?_ | refine w_gT rfl rfl ?_)
    refine w_neB (a := showF (sgn mi (W * 1000 + p))) (b := showF (sgn mi (W * 1000))) rfl ?_
    have hne : showF (sgn mi (W * 1000 + p)) ≠ showF (sgn mi (W * 1000)) := by
      intro e
      have h1 := show_pt (n := sgn mi (W * 1000 + p)) (by cases mi <;> simp [sgn, absB] <;> split <;> omega)
      rw [e] at h1
      exact show_nopt wr.2 (by cases mi <;> simp [sgn, absB] <;> split <;> omega) h1
    rw [show (!(showF (sgn mi (W * 1000 + p)) == showF (sgn mi (W * 1000)))) = true by simpa using hne]
    repeat (first | refine sS ?_ | refine sE ?_ | refine w_mv rfl ?_ | refine w_pickT rfl ?_ | refine w_pickF rfl ?_ | refine w_gT rfl rfl ?_ | (refine ai_ret ?_; repeat (first | rw [thenQ_r] | rw [blockQ_r] | rw [roundE_r])))
    exact end_one rfl rfl
end Go.Proofs.YtapbmmlgmcmpnaaDoorW.Am
/- From a law's contract to its row, where some arguments are rows that are read alone. -/
namespace Go.Proofs.YtapbmmlgmcmpnaaDoorW.Am
open Go Go.RowKit
abbrev Ro := Option (Loc × List Value)
/-- Plain cells that stand in the world. -/
def RoC (W : World) (l : Loc) (cs : List Value) : Prop := l.blk < W.heap.size ∧ ∀ (i : Nat) v, cs[i]? = some v → W.cell? ⟨l.blk, l.off + i, none⟩ = some v ∧ flat v = true
def roN (rs : List Ro) : Hp := ⟨fun j => match rs[j]? with | some (some (_, cs)) => some ⟨cs, false, 0⟩ | _ => none, rs.length⟩
def roM (rs : List Ro) : Mu := ⟨fun j => match rs[j]? with | some (some (l, _)) => some l | _ => none, fun _ => none⟩
theorem roN_get {rs : List Ro} {j : Nat} {l : Loc} {cs : List Value} (h : rs[j]? = some (some (l, cs))) : (roN rs).get j = some ⟨cs, false, 0⟩ ∧ roM rs j = some l := by simp [roN, roM, h]
theorem roN_of {rs : List Ro} {j : Nat} {ob : Ob} (h : (roN rs).get j = some ob) : ∃ l, rs[j]? = some (some (l, ob.cells)) ∧ ob.rw = false := by
  simp only [roN] at h
  split at h
  · next l cs hj => cases h; exact ⟨l, hj, rfl⟩
  · cases h
theorem roN_sim {W : World} {rs : List Ro} (h : ∀ (j : Nat) l cs, rs[j]? = some (some (l, cs)) → RoC W l cs) (t : Tb W.heap.size W) : Sim W.heap.size W (roM rs) (roN rs) W := by
  refine ⟨Bel.refl t, Nat.le_refl _, fun i hi => ?_, fun i l e => ?_, MS.empty _ _ _ _, fun i ob e _ => ?_, fun i j x y l l' e e' hij hrw => ?_⟩
  · have : rs[i]? = none := List.getElem?_eq_none hi
    simp [roM, this]
  · simp only [roM] at e
    split at e
    · next l' cs hj => cases e; exact (h _ _ _ hj).1
    · cases e
  · obtain ⟨l, hj, hw⟩ := roN_of e
    refine ⟨l, (roN_get hj).2, fun k v hv => ?_, fun hr => by rw [hw] at hr; cases hr⟩
    obtain ⟨h1, h2⟩ := (h _ _ _ hj).2 k v hv
    exact ⟨v, h1, RV.of_flat _ _ h2⟩
  · obtain ⟨_, _, hw⟩ := roN_of e
    rw [hw] at hrw; cases hrw
theorem law_ro {P : Program} {f : FuncId} {W : World} {rs : List Ro} {args args' : List Value} (h : ∀ (j : Nat) l cs, rs[j]? = some (some (l, cs)) → RoC W l cs) (ra : RVs (roM rs) args args') (c : ACall P f args (roN rs) (fun v _ => v = .bool true)) (t : Tb W.heap.size W := by first | exact fun _ _ => trivial | assumption) :
    Calls P f args'.toArray W fun e W' => e = .returned (.bool true) ∧ Below W.heap.size W W' := by
  refine (c.2 W.heap.size W _ W _ ra (roN_sim h t)).mono ?_
  rintro e W' ⟨m', v, v', h', rfl, _, rv, s, rfl⟩
  cases rv
  exact ⟨rfl, s.below.bl⟩
theorem ro_all {W : World} {rs : List Ro} (h : ∀ r ∈ rs, ∀ l cs, r = some (l, cs) → RoC W l cs) : ∀ (j : Nat) l cs, rs[j]? = some (some (l, cs)) → RoC W l cs := fun _ _ _ e => h _ (List.mem_of_getElem? e) _ _ rfl
/-- An argument that is a row of numbers. -/
structure RowArg (W : World) (j : Nat) (v : Value) (r : Ro) (s : Value) (us : List Int) : Prop where
  cells : ∀ l cs, r = some (l, cs) → RoC W l cs
  rel : ∀ rs, rs[j]? = some r → RV (roM rs) s v
  rd : ∀ rs, rs[j]? = some r → Rd (roN rs) s (us.map nI)
  lt : ∀ rs : List Ro, rs[j]? = some r → ∀ i o sp n c, s = .slice (some ⟨i, o, sp⟩) n c → i < (roN rs).nx
  wf : ∀ n ∈ us, (Lit.int .i64 n).wf = true
  pl : ∀ i o sp n c, s = .slice (some ⟨i, o, sp⟩) n c → sp.getD 0 = 0
theorem row_arg {H : Type} {enc : TypeId × Value → H} {P : Program} {W : World} {base : Nat} {spare : Nat → Bool} {held : Bool} {fuel : Nat} {t e : TypeId} {v : Value} {x : DataW H × List MemPlace} (ht : P.underlying t = some (.slice e)) (he : P.underlying e = some (.int .i64)) (hc : P.cellsOf e = 1) (hv : Value.okWide P W .any base t v)
    (h : DataW.trod enc P W 0 spare held fuel t v.cells.toList = some x) (j : Nat) : ∃ r s us, RowArg W j v r s us := by
  obtain ⟨a0, len0, cap0, rfl⟩ := Go.WideShapes.okWide_slice ht hv
  rcases Go.ChangeShapes.open_ints ht he hc h with ⟨hcs, _⟩ | ⟨a, len, cap, zs, hcs, _, hle, _, hzl, _, hcell, hwf⟩
  · obtain ⟨rfl, rfl, rfl⟩ : a0 = none ∧ len0 = 0 ∧ cap0 = 0 := by simpa using (show [Value.slice a0 len0 cap0] = _ from hcs)
    exact ⟨none, .slice none 0 0, [], (fun _ _ e => by cases e), (fun _ _ => .nils 0 0), (fun _ _ => .inl ⟨rfl, rfl⟩), (fun _ _ i o sp n c e => by cases e), (by simp), (fun i o sp n c e => by cases e)⟩
  · obtain ⟨rfl, rfl, rfl⟩ : a0 = some a ∧ len0 = len ∧ cap0 = cap := by simpa using (show [Value.slice a0 len0 cap0] = _ from hcs)
    obtain ⟨hs, hb⟩ := okWide_at ht hv
    obtain ⟨b, off, sp⟩ := a
    have hs : sp = none := hs
    subst hs
    have hlz : len0 ≤ zs.length := by rw [hzl]; split <;> omega
    refine ⟨some (⟨b, off, 0⟩, zs.map nI), .slice (some ⟨j, 0, none⟩) len0 cap0, zs.take len0, ?_, fun rs hj => ?_, fun rs hj => ?_, fun rs hj i o sp n c e => ?_, fun n hn => hwf n (List.mem_of_mem_take hn), fun i o sp n c e => by cases e; rfl⟩
    · intro l cs e
      cases e
      refine ⟨hb, fun i v hv => ?_⟩
      rw [List.getElem?_map] at hv
      cases hz : zs[i]? with
      | none => rw [hz] at hv; cases hv
      | some z =>
        rw [hz] at hv
        cases hv
        have hi := (List.getElem?_eq_some_iff.1 hz).1
        have := hcell i hi
        rw [Go.WideShapes.add_plain] at this
        exact ⟨by rw [this, List.getD_eq_getElem?_getD, hz]; rfl, rfl⟩
    · exact .slice (roN_get hj).2
    · refine .inr ⟨j, 0, none, cap0, by simp [Nat.min_eq_left hlz], fun x v hx => ?_⟩
      have hx2 : (zs.map nI)[x]? = some v := by
        rw [List.getElem?_map, List.getElem?_take] at hx
        rw [List.getElem?_map]
        split at hx
        · exact hx
        · cases hx
      have := rd_f (roN_get hj).1 hx2
      simpa using this
    · cases e
      have := (List.getElem?_eq_some_iff.1 hj).1
      simpa [roN] using this
end Go.Proofs.YtapbmmlgmcmpnaaDoorW.Am
/- Arguments of plain types of any depth (numbers, strings, structs, arrays, slices), opened. -/
namespace Go.Proofs.YtapbmmlgmcmpnaaDoorW.Am
open Go Go.RowKit
/-- Parts, one behind the other. -/
def Fld (T : TypeId → List Value → Prop) : List TypeId → List Value → Prop
  | [], cs => cs = []
  | t :: r, cs => ∃ a b, cs = a ++ b ∧ T t a ∧ Fld T r b
/-- What a value of a plain type is, over an abstract heap. -/
def Tv (P : Program) (h : Hp) : Nat → TypeId → List Value → Prop
  | 0, _, _ => False
  | n + 1, t, cs => match P.underlying t with
    | some .bool => ∃ b, cs = [.bool b]
    | some (.int k) => ∃ x, cs = [.int k x] ∧ (Lit.int k x).wf = true
    | some .string => ∃ s, cs = [.string s] ∧ s.size ≤ maxLen
    | some (.slice e) => ∃ s us, cs = [s] ∧ RR (P.cellsOf e) h s us ∧ (∀ u ∈ us, Tv P h n e u) ∧ us.length ≤ maxLen ∧ ∃ x c, s = .slice x us.length c ∧ us.length ≤ c
    | some (.struct fs) => Fld (Tv P h n) (fs.toList.map (·.type)) cs
    | some (.array m e) => ∃ us : List (List Value), cs = us.flatten ∧ us.length = m ∧ ∀ u ∈ us, Tv P h n e u
    | _ => False
def offs (P : Program) (pl : TypeId → Bool) : Nat → List Field → Nat → Bool
  | o, [], z => o == z
  | o, f :: r, z => f.offset == o && pl f.type && offs P pl (o + P.cellsOf f.type) r z
/-- Which types are plain. -/
def plT (P : Program) : Nat → TypeId → Bool
  | 0, _ => false
  | n + 1, t => match P.underlying t with
    | some .bool | some (.int _) | some .string => true
    | some (.slice e) => decide (0 < P.cellsOf e) && plT P n e
    | some (.struct fs) => offs P (plT P n) 0 fs.toList (P.cellsOf t)
    | some (.array m e) => decide (P.cellsOf t = m * P.cellsOf e) && plT P n e
    | _ => false
theorem Fld.mono {T T' : TypeId → List Value → Prop} (h : ∀ t cs, T t cs → T' t cs) : ∀ {l : List TypeId} {cs : List Value}, Fld T l cs → Fld T' l cs
  | [], _, e => e
  | _ :: _, _, ⟨a, b, e, x, y⟩ => ⟨a, b, e, h _ _ x, Fld.mono h y⟩
theorem Tv.ext {P : Program} {h g : Hp} (x : Ext h g) : ∀ {n : Nat} {t : TypeId} {cs : List Value}, Tv P h n t cs → Tv P g n t cs
  | 0, _, _, e => e
  | n + 1, t, cs, e => by
    unfold Tv at e ⊢
    split at e
    · exact e
    · exact e
    · exact e
    · obtain ⟨s, us, e1, e2, e3, e4⟩ := e
      exact ⟨s, us, e1, e2.ext x, fun u hu => (e3 u hu).ext x, e4⟩
    · exact e.mono fun _ _ y => y.ext x
    · obtain ⟨us, e1, e2, e3⟩ := e
      exact ⟨us, e1, e2, fun u hu => (e3 u hu).ext x⟩
    · exact e
theorem Fld.one {T : TypeId → List Value → Prop} (h : ∀ t cs, T t cs → cs.all Am.one = true) : ∀ {l : List TypeId} {cs : List Value}, Fld T l cs → cs.all Am.one = true
  | [], _, e => by subst e; rfl
  | _ :: _, _, ⟨a, b, e, x, y⟩ => by subst e; rw [List.all_append, h _ _ x, Fld.one h y]; rfl
theorem flat_one {us : List (List Value)} (h : ∀ u ∈ us, u.all one = true) : us.flatten.all one = true := by
  rw [List.all_eq_true]
  intro v hv
  obtain ⟨u, hu, hv⟩ := List.mem_flatten.1 hv
  exact List.all_eq_true.1 (h u hu) v hv
theorem Tv.one {P : Program} {h : Hp} : ∀ {n : Nat} {t : TypeId} {cs : List Value}, Tv P h n t cs → cs.all Am.one = true
  | 0, _, _, e => e.elim
  | n + 1, t, cs, e => by
    unfold Tv at e
    split at e
    · obtain ⟨b, rfl⟩ := e; rfl
    · obtain ⟨b, rfl, _⟩ := e; rfl
    · obtain ⟨b, rfl, _⟩ := e; rfl
    · obtain ⟨s, us, rfl, e2, _⟩ := e
      simp [e2.one]
    · exact e.one fun _ _ y => y.one
    · obtain ⟨us, rfl, _, e3⟩ := e
      exact flat_one fun u hu => (e3 u hu).one
    · exact e.elim
/-- Windows of the world, each a row of abstract cells. -/
def Wn (W : World) (rs : List Ro) : Prop := ∀ (j : Nat) l cs, rs[j]? = some (some (l, cs)) → l.blk < W.heap.size ∧ ∀ (i : Nat) v, cs[i]? = some v → ∃ v', W.cell? ⟨l.blk, l.off + i, none⟩ = some v' ∧ RV (roM rs) v v'
theorem Wn.nil (W : World) : Wn W [] := fun _ _ _ h => by simp at h
theorem roM_app (rs ms : List Ro) : (roM rs).le (roM (rs ++ ms)) := by
  refine ⟨fun i l e => ?_, fun i b e => by simp [roM] at e⟩
  simp only [roM] at e ⊢
  split at e
  · next l' cs hj =>
    have hi := (List.getElem?_eq_some_iff.1 hj).1
    rw [List.getElem?_append_left hi, hj]
    exact e
  · cases e
theorem roN_app (rs ms : List Ro) : Ext (roN rs) (roN (rs ++ ms)) := by
  refine ⟨by simp [roN], fun i hi => ?_⟩
  have hi : i < rs.length := hi
  simp only [roN]
  rw [List.getElem?_append_left hi]
theorem Wn.snoc {W : World} {rs : List Ro} (w : Wn W rs) {l : Loc} {cs : List Value} (hb : l.blk < W.heap.size) (hc : ∀ (i : Nat) v, cs[i]? = some v → ∃ v', W.cell? ⟨l.blk, l.off + i, none⟩ = some v' ∧ RV (roM rs) v v') : Wn W (rs ++ [some (l, cs)]) := by
  intro j l' cs' hj
  have hm := roM_app rs [some (l, cs)]
  by_cases hjl : j < rs.length
  · rw [List.getElem?_append_left hjl] at hj
    obtain ⟨h1, h2⟩ := w j l' cs' hj
    exact ⟨h1, fun i v hv => by obtain ⟨v', e1, e2⟩ := h2 i v hv; exact ⟨v', e1, e2.mono hm⟩⟩
  · rw [List.getElem?_append_right (by omega)] at hj
    have h0 : j - rs.length = 0 := by
      have := (List.getElem?_eq_some_iff.1 hj).1
      simp at this
      omega
    rw [h0] at hj
    cases hj
    exact ⟨hb, fun i v hv => by obtain ⟨v', e1, e2⟩ := hc i v hv; exact ⟨v', e1, e2.mono hm⟩⟩
theorem wn_sim {W : World} {rs : List Ro} (h : Wn W rs) (t : Tb W.heap.size W) : Sim W.heap.size W (roM rs) (roN rs) W := by
  refine ⟨Bel.refl t, Nat.le_refl _, fun i hi => ?_, fun i l e => ?_, MS.empty _ _ _ _, fun i ob e _ => ?_, fun i j x y l l' e e' hij hrw => ?_⟩
  · have : rs[i]? = none := List.getElem?_eq_none hi
    simp [roM, this]
  · simp only [roM] at e
    split at e
    · next l' cs hj => cases e; exact (h _ _ _ hj).1
    · cases e
  · obtain ⟨l, hj, hw⟩ := roN_of e
    exact ⟨l, (roN_get hj).2, fun k v hv => (h _ _ _ hj).2 k v hv, fun hr => by rw [hw] at hr; cases hr⟩
  · obtain ⟨_, _, hw⟩ := roN_of e
    rw [hw] at hrw; cases hrw
theorem law_op {P : Program} {f : FuncId} {W : World} {rs : List Ro} {args args' : List Value} (h : Wn W rs) (ra : RVs (roM rs) args args') (c : ACall P f args (roN rs) (fun v _ => v = .bool true)) (t : Tb W.heap.size W := by first | exact fun _ _ => trivial | assumption) :
    Calls P f args'.toArray W fun e W' => e = .returned (.bool true) ∧ Below W.heap.size W W' := by
  refine (c.2 W.heap.size W _ W _ ra (wn_sim h t)).mono ?_
  rintro e W' ⟨m', v, v', h', rfl, _, rv, s, rfl⟩
  cases rv
  exact ⟨rfl, s.below.bl⟩
/-- Rows of cells, part by part. -/
def R2 (m : Mu) (us cs : List (List Value)) : Prop := us.length = cs.length ∧ ∀ (i : Nat) u c, us[i]? = some u → cs[i]? = some c → RVs m u c
theorem R2.cons {m : Mu} {u c : List Value} {us cs : List (List Value)} (a : RVs m u c) (b : R2 m us cs) : R2 m (u :: us) (c :: cs) := by
  refine ⟨by simp [b.1], fun i => ?_⟩
  cases i with
  | zero => intro x y e e'; simp at e e'; subst e e'; exact a
  | succ i => intro x y e e'; simp at e e'; exact b.2 i x y e e'
theorem R2.flat {m : Mu} : ∀ {us cs : List (List Value)}, R2 m us cs → RVs m us.flatten cs.flatten
  | [], [], _ => RVs.nil m
  | [], _ :: _, h => by have := h.1; simp at this
  | _ :: _, [], h => by have := h.1; simp at this
  | u :: us, c :: cs, h => by
    rw [List.flatten_cons, List.flatten_cons]
    exact (h.2 0 u c rfl rfl).append (R2.flat ⟨by have := h.1; simpa using this, fun i x y e e' => h.2 (i + 1) x y (by simpa using e) (by simpa using e')⟩)
theorem flat_get {α : Type} {k : Nat} : ∀ {css : List (List α)}, (∀ c ∈ css, c.length = k) → ∀ i, i < css.length * k → css.flatten[i]? = (css[i / k]?).bind (·[i % k]?)
  | [], _, i, h => by simp at h
  | c :: r, hc, i, h => by
    have hl := hc c List.mem_cons_self
    rw [List.length_cons, Nat.add_mul, Nat.one_mul] at h
    rw [List.flatten_cons]
    by_cases hi : i < k
    · rw [List.getElem?_append_left (by omega), Nat.div_eq_of_lt hi, Nat.mod_eq_of_lt hi]
      rfl
    · have hk : 0 < k := by
        rcases Nat.eq_zero_or_pos k with e | e
        · subst e; simp at h
        · exact e
      have hki : k ≤ i := by omega
      have e1 : i / k = (i - k) / k + 1 := Nat.div_eq_sub_div hk hki
      have e2 : i % k = (i - k) % k := Nat.mod_eq_sub_mod hki
      rw [List.getElem?_append_right (by omega), hl, flat_get (fun x hx => hc x (List.mem_cons_of_mem _ hx)) (i - k) (by omega), e1, e2, List.getElem?_cons_succ]
theorem add_add (a : Addr) (x y : Nat) : (a.add x).add y = a.add (x + y) := by
  by_cases hx : x = 0 <;> by_cases hy : y = 0 <;> simp [Addr.add, hx, hy, Nat.add_assoc]
theorem cell_at {W : World} {a : Addr} {v : Value} (h : W.cell? a = some v) : a.spot = none ∧ a.block < W.heap.size := by
  unfold World.cell? at h
  split at h
  · next hb =>
    refine ⟨?_, (Array.getElem?_eq_some_iff.1 hb).1⟩
    split at h
    · cases h
    · next hs => simpa using hs
  · cases h
theorem flat_len {α : Type} {k : Nat} : ∀ {css : List (List α)}, (∀ c ∈ css, c.length = k) → css.flatten.length = css.length * k
  | [], _ => by simp
  | c :: r, h => by
    rw [List.flatten_cons, List.length_append, flat_len fun x hx => h x (List.mem_cons_of_mem _ hx), h c List.mem_cons_self, List.length_cons, Nat.add_mul, Nat.one_mul, Nat.add_comm]
theorem chunks {α : Type} {k : Nat} : ∀ (n : Nat) (cs : List α), cs.length = n * k → ((List.range n).map fun i => (cs.drop (i * k)).take k).flatten = cs
  | 0, cs, h => by
    rw [Nat.zero_mul] at h
    rw [List.eq_nil_of_length_eq_zero h]
    rfl
  | n + 1, cs, h => by
    have e : ((List.range n).map fun i => (cs.drop ((i + 1) * k)).take k) = ((List.range n).map fun i => ((cs.drop k).drop (i * k)).take k) := by
      refine List.map_congr_left fun i _ => ?_
      rw [List.drop_drop, Nat.add_mul, Nat.one_mul, Nat.add_comm]
    have h' := h
    rw [Nat.add_mul, Nat.one_mul] at h'
    have ih := chunks (k := k) n (cs.drop k) (by rw [List.length_drop]; omega)
    rw [List.range_succ_eq_map, List.map_cons, List.map_map, List.flatten_cons]
    show (cs.drop (0 * k)).take k ++ ((List.range n).map fun i => (cs.drop ((i + 1) * k)).take k).flatten = cs
    rw [e, ih, Nat.zero_mul, List.drop_zero, List.take_append_drop]
theorem open_list {W : World} {T : Hp → List Value → Prop} (mono : ∀ h g cs, Ext h g → T h cs → T g cs) {D : List Value → Prop}
    (ih : ∀ cs rs, D cs → Wn W rs → ∃ more cs', Wn W (rs ++ more) ∧ RVs (roM (rs ++ more)) cs' cs ∧ T (roN (rs ++ more)) cs') :
    ∀ css rs, (∀ c ∈ css, D c) → Wn W rs → ∃ more uss, Wn W (rs ++ more) ∧ R2 (roM (rs ++ more)) uss css ∧ ∀ u ∈ uss, T (roN (rs ++ more)) u
  | [], rs, _, w => ⟨[], [], by simpa using w, ⟨rfl, by simp⟩, by simp⟩
  | c :: r, rs, hd, w => by
    obtain ⟨m1, u, w1, r1, t1⟩ := ih c rs (hd c List.mem_cons_self) w
    obtain ⟨m2, us, w2, r2, t2⟩ := open_list mono ih r (rs ++ m1) (fun x hx => hd x (List.mem_cons_of_mem _ hx)) w1
    refine ⟨m1 ++ m2, u :: us, ?_⟩
    rw [← List.append_assoc]
    refine ⟨w2, R2.cons (r1.mono (roM_app _ _)) r2, fun x hx => ?_⟩
    rcases List.mem_cons.1 hx with rfl | hx
    · exact mono _ _ _ (roN_app _ _) t1
    · exact t2 x hx
theorem offs_le {P : Program} {pl : TypeId → Bool} : ∀ {fs : List Field} {o z : Nat}, offs P pl o fs z = true → o ≤ z ∧ ∀ f ∈ fs, o ≤ f.offset
  | [], o, z, h => by
    have : o = z := by simpa [offs] using h
    exact ⟨by omega, by simp⟩
  | f :: r, o, z, h => by
    simp only [offs, Bool.and_eq_true, beq_iff_eq] at h
    obtain ⟨h1, h2⟩ := offs_le h.2
    refine ⟨by omega, fun g hg => ?_⟩
    rcases List.mem_cons.1 hg with rfl | hg
    · omega
    · have := h2 g hg; omega
theorem open_fld {P : Program} {W : World} {pl : TypeId → Bool} {T : Hp → TypeId → List Value → Prop} (mono : ∀ h g t cs, Ext h g → T h t cs → T g t cs) {D : TypeId → List Value → Prop}
    (ih : ∀ t cs rs, pl t = true → D t cs → Wn W rs → ∃ more cs', Wn W (rs ++ more) ∧ RVs (roM (rs ++ more)) cs' cs ∧ T (roN (rs ++ more)) t cs') :
    ∀ (fs : List Field) (o z : Nat) (cs : List Value) rs, offs P pl o fs z = true → cs.length + o = z → (∀ f ∈ fs, D f.type ((cs.drop (f.offset - o)).take (P.cellsOf f.type))) → Wn W rs →
      ∃ more cs', Wn W (rs ++ more) ∧ RVs (roM (rs ++ more)) cs' cs ∧ Fld (T (roN (rs ++ more))) (fs.map (·.type)) cs'
  | [], o, z, cs, rs, h, hl, _, w => by
    have : o = z := by simpa [offs] using h
    obtain rfl : cs = [] := List.eq_nil_of_length_eq_zero (by omega)
    exact ⟨[], [], by simpa using w, RVs.nil _, rfl⟩
  | f :: r, o, z, cs, rs, h, hl, hd, w => by
    have h' := h
    simp only [offs, Bool.and_eq_true, beq_iff_eq] at h'
    obtain ⟨⟨ho, hp⟩, hr⟩ := h'
    obtain ⟨hz, hge⟩ := offs_le hr
    have hd0 := hd f List.mem_cons_self
    rw [ho, Nat.sub_self, List.drop_zero] at hd0
    obtain ⟨m1, u, w1, r1, t1⟩ := ih f.type _ rs hp hd0 w
    obtain ⟨m2, us, w2, r2, t2⟩ := open_fld mono ih r (o + P.cellsOf f.type) z (cs.drop (P.cellsOf f.type)) (rs ++ m1) hr (by rw [List.length_drop]; omega) (fun g hg => by
      have h1 := hd g (List.mem_cons_of_mem _ hg)
      have h2 := hge g hg
      rw [List.drop_drop, show P.cellsOf f.type + (g.offset - (o + P.cellsOf f.type)) = g.offset - o by omega]
      exact h1) w1
    refine ⟨m1 ++ m2, u ++ us, ?_⟩
    rw [← List.append_assoc]
    refine ⟨w2, ?_, u, us, rfl, mono _ _ _ _ (roN_app _ _) t1, t2⟩
    have := (r1.mono (roM_app (rs ++ m1) m2)).append r2
    rwa [List.take_append_drop] at this
section
variable {P : Program} {CT : FuncId → List Value → Hp → (Value → Hp → Prop) → Prop} {d : Option Nat} {xs : List Operand} {env : Env} {h : Hp} {R : Value → Hp → Prop}
/-- l[:m] of a row that is read. -/
theorem w_slP {k m n c : Nat} {x : Option Addr} {us : List (List Value)} (e : mapF env xs = some [.slice x n c, .int .i64 (m : Int)]) (r : RR k h (.slice x n c) us) (hc : us.length ≤ c) (hm : m ≤ us.length)
    (nx : ∀ s', RR k h s' (us.take m) → R s' h) : WI P CT ⟨d, none, .op (.slc k false true false) xs⟩ env h R := by
  have hbd : bounds us.length c none (some (.int .i64 (m : Int))) none = some (0, m, c) := by
    have : (0 : Int) ≤ m ∧ (m : Int) ≤ c := by omega
    simp [bounds, bnd, this]
  rcases r with ⟨e1, e2⟩ | ⟨i, o, sp, c', e1, hi, hsp, hr⟩
  · cases e1
    subst e2
    have hm0 : m = 0 := by simpa using hm
    subst hm0
    refine w_op (v := .slice none 0 0) (h' := h) ?_ (nx _ (.inl ⟨rfl, rfl⟩))
    unfold opF
    rw [e]
    have hbd : bounds 0 0 none (some (.int .i64 ((0 : Nat) : Int))) none = some (0, 0, 0) := hbd
    simp only [stepK, get3, takeB, sliceA, hbd, Option.map_some]
  · cases e1
    have hrd : ∀ (y : Nat) u, (us.take m)[y]? = some u → h.rd i (o + y * k) k = some u := by
      intro y u hu
      rw [List.getElem?_take] at hu
      split at hu
      · exact hr y u hu
      · cases hu
    have hl : (us.take m).length = m := by rw [List.length_take, Nat.min_eq_left hm]
    rcases sp with _ | _ | sp
    · refine w_op (v := .slice (some ⟨i, o, none⟩) m c) (h' := h) ?_ (nx _ (.inr ⟨i, o, none, c, by rw [hl], hi, fun _ => rfl, hrd⟩))
      unfold opF
      rw [e]
      simp only [stepK, get3, takeB, sliceA, hbd, Option.map_some, Nat.sub_zero]
      simp
    · refine w_op (v := .slice (some ⟨i, o, some (if c = 0 then 1 else 0)⟩) m c) (h' := h) ?_ (nx _ (.inr ⟨i, o, _, c, by rw [hl], hi, fun hne => ?_, hrd⟩))
      · unfold opF
        rw [e]
        simp only [stepK, get3, takeB, sliceA, hbd, Nat.sub_zero]
        simp
      · have hpos := List.length_pos_iff.2 hne
        rw [hl] at hpos
        rw [if_neg (by omega)]
        rfl
    · have hu0 : us = [] := by
        by_cases h0 : us = []
        · exact h0
        · have := hsp h0
          simp at this
      subst hu0
      have hm0 : m = 0 := by simpa using hm
      subst hm0
      refine w_op (v := .slice (some ⟨i, o, some (sp + 1)⟩) 0 c) (h' := h) ?_ (nx _ (.inr ⟨i, o, some (sp + 1), c, rfl, hi, fun h0 => absurd rfl h0, fun y u hu => by cases hu⟩))
      unfold opF
      rw [e]
      simp only [stepK, get3, takeB, sliceA, hbd, Option.map_some, Nat.sub_zero]
/-- l[m:] of a row that is read. -/
theorem w_slS {k m n c : Nat} {x : Option Addr} {us : List (List Value)} (e : mapF env xs = some [.slice x n c, .int .i64 (m : Int)]) (r : RR k h (.slice x n c) us) (hc : us.length ≤ c) (hm : m ≤ us.length)
    (nx : ∀ s', RR k h s' (us.drop m) → R s' h) : WI P CT ⟨d, none, .op (.slc k true false false) xs⟩ env h R := by
  have hbd : bounds us.length c (some (.int .i64 (m : Int))) none none = some (m, us.length, c) := by
    have : (0 : Int) ≤ m ∧ (m : Int) ≤ us.length := by omega
    have h2 : ¬ c < us.length := by omega
    simp [bounds, bnd, this, h2]
  rcases r with ⟨e1, e2⟩ | ⟨i, o, sp, c', e1, hi, hsp, hr⟩
  · cases e1
    subst e2
    have hm0 : m = 0 := by simpa using hm
    subst hm0
    refine w_op (v := .slice none 0 0) (h' := h) ?_ (nx _ (.inl ⟨rfl, rfl⟩))
    unfold opF
    rw [e]
    have hbd : bounds 0 0 (some (.int .i64 ((0 : Nat) : Int))) none none = some (0, 0, 0) := hbd
    simp only [stepK, get3, takeB, sliceA, hbd, Option.map_some]
  · cases e1
    have hrd : ∀ (y : Nat) u, (us.drop m)[y]? = some u → h.rd i (o + m * k + y * k) k = some u := by
      intro y u hu
      rw [List.getElem?_drop] at hu
      have := hr (m + y) u hu
      rwa [Nat.add_mul, ← Nat.add_assoc] at this
    have hl : (us.drop m).length = us.length - m := by rw [List.length_drop]
    rcases sp with _ | _ | sp
    · by_cases hcm : c = m
      · have hum : us.length = m := by omega
        have hd0 : us.drop m = [] := List.eq_nil_of_length_eq_zero (by rw [hl]; omega)
        refine w_op (v := .slice (some ⟨i, o, none⟩) (us.length - m) (c - m)) (h' := h) ?_ (nx _ (.inr ⟨i, o, none, c - m, by rw [hl], hi, fun _ => rfl, fun y u hu => by rw [hd0] at hu; cases hu⟩))
        unfold opF
        rw [e]
        simp only [stepK, get3, takeB, sliceA, hbd, Option.map_some, if_pos hcm]
      · refine w_op (v := .slice (some ⟨i, o + m * k, none⟩) (us.length - m) (c - m)) (h' := h) ?_ (nx _ (.inr ⟨i, o + m * k, none, c - m, by rw [hl], hi, fun _ => rfl, hrd⟩))
        unfold opF
        rw [e]
        simp only [stepK, get3, takeB, sliceA, hbd, Option.map_some, if_neg hcm]
    · refine w_op (v := .slice (some ⟨i, o + m * k, some (if c = m then 1 else 0)⟩) (us.length - m) (c - m)) (h' := h) ?_ (nx _ (.inr ⟨i, o + m * k, _, c - m, by rw [hl], hi, fun hne => ?_, hrd⟩))
      · unfold opF
        rw [e]
        simp only [stepK, get3, takeB, sliceA, hbd]
        simp
      · have hpos := List.length_pos_iff.2 hne
        rw [hl] at hpos
        rw [if_neg (by omega)]
        rfl
    · have hu0 : us = [] := by
        by_cases h0 : us = []
        · exact h0
        · have := hsp h0
          simp at this
      subst hu0
      have hm0 : m = 0 := by simpa using hm
      subst hm0
      refine w_op (v := .slice (some ⟨i, o, some (sp + 1)⟩) (([] : List (List Value)).length - 0) (c - 0)) (h' := h) ?_ (nx _ (.inr ⟨i, o, some (sp + 1), c - 0, rfl, hi, fun h0 => absurd rfl h0, fun y u hu => by cases hu⟩))
      unfold opF
      rw [e]
      simp only [stepK, get3, takeB, sliceA, hbd, Option.map_some]
end
theorem open_gen {H : Type} {enc : TypeId × Value → H} {P : Program} {W : World} {held : Bool} (hz : 0 < W.heap.size) : ∀ (n : Nat) (t : TypeId) (cs : List Value) (x : DataW H × List MemPlace) (fuel : Nat) (rs : List Ro), plT P n t = true →
    DataW.trod enc P W 0 (fun _ => true) held fuel t cs = some x → Wn W rs → ∃ more cs', Wn W (rs ++ more) ∧ RVs (roM (rs ++ more)) cs' cs ∧ Tv P (roN (rs ++ more)) n t cs'
  | 0, _, _, _, _, _, h, _, _ => by simp [plT] at h
  | n + 1, t, cs, x, fuel, rs, hp, hx, w => by
    unfold plT at hp
    unfold Tv
    split at hp
    · next ht =>
      obtain ⟨b, rfl, _⟩ := DataW.trod_bool ht hx
      exact ⟨[], [.bool b], by simpa using w, RVs.cons (.bool b) (RVs.nil _), ⟨b, rfl⟩⟩
    · next k ht =>
      obtain ⟨b, rfl, _, hw⟩ := DataW.trod_int ht hx
      exact ⟨[], [.int k b], by simpa using w, RVs.cons (.int k b) (RVs.nil _), ⟨b, rfl, hw⟩⟩
    · next ht =>
      obtain ⟨b, rfl, _, hw⟩ := DataW.trod_string ht hx
      exact ⟨[], [.string b], by simpa using w, RVs.cons (.string b) (RVs.nil _), ⟨b, rfl, hw⟩⟩
    · next e ht =>
      rw [Bool.and_eq_true, decide_eq_true_eq] at hp
      obtain ⟨hk, hp⟩ := hp
      rcases DataW.trod_slice ht hx with ⟨rfl, _⟩ | ⟨a, len, cap, elems, rest, m, _, rfl, _, _, hlc, hcm, hln, hel, hsp, _⟩
      · exact ⟨[], [.slice none 0 0], by simpa using w, RVs.cons (.nils 0 0) (RVs.nil _), _, [], rfl, .inl ⟨rfl, rfl⟩, by simp, Nat.zero_le _, _, _, rfl, Nat.le_refl _⟩
      obtain ⟨hrl, hrest⟩ := hsp rfl
      by_cases hc : cap = 0
      · obtain rfl : len = 0 := by omega
        subst hc
        exact ⟨[some (⟨0, 0, 0⟩, [])], [.slice (some ⟨rs.length, 0, some 1⟩) 0 0], w.snoc hz (by simp), RVs.cons (.sliceY (l := ⟨0, 0, 0⟩) a (roN_get (cs := []) (by simp)).2) (RVs.nil _), _, [], rfl,
          .inr ⟨rs.length, 0, some 1, 0, rfl, by simp [roN], fun h => absurd rfl h, fun x u hu => by cases hu⟩, by simp, Nat.zero_le _, _, _, rfl, Nat.le_refl _⟩
      have hcs : ∀ i, i < len → ∃ c, W.cells? 0 (a.add (i * P.cellsOf e)) (P.cellsOf e) = some c ∧ ∃ y, DataW.trod enc P W 0 (fun _ => true) held m e c = some y := by
        intro i hi
        have h1 := hel i hi
        rw [List.getElem?_eq_getElem (by omega), Option.bind_eq_some_iff] at h1
        obtain ⟨c, h2, h3⟩ := h1
        exact ⟨c, h2, _, h3⟩
      have h0 : ∃ c, W.cells? 0 (a.add 0) (P.cellsOf e) = some c := by
        by_cases hl : 0 < len
        · obtain ⟨c, h1, _⟩ := hcs 0 hl
          rw [Nat.zero_mul] at h1
          exact ⟨c, h1⟩
        · have h1 := hrest 0 (by omega)
          rw [List.getElem?_eq_getElem (by omega), Option.bind_eq_some_iff, show len + 0 = 0 by omega, Nat.zero_mul] at h1
          exact ⟨_, h1.choose_spec.1⟩
      obtain ⟨c0, h0⟩ := h0
      obtain ⟨_, hl0, hc0⟩ := World.cells?_some h0
      have h00 := hc0 0 hk
      rw [add_add, List.getElem?_eq_getElem (by omega)] at h00
      have hat := cell_at h00
      have hadd : a.add (0 + 0) = a := by simp [Addr.add]
      rw [hadd] at hat
      obtain ⟨b, off, sp⟩ := a
      obtain ⟨hs, hb⟩ := hat
      have hs : sp = none := hs
      subst hs
      have hb : b < W.heap.size := hb
      obtain ⟨more, uss, w1, r2, t2⟩ := open_list (W := W) (T := fun h c => Tv P h n e c) (fun _ _ _ x y => y.ext x) (D := fun c => c.length = P.cellsOf e ∧ ∃ y, DataW.trod enc P W 0 (fun _ => true) held m e c = some y)
        (fun cs rs d w => open_gen hz n e cs _ m rs hp d.2.choose_spec w) ((List.range len).map fun i => (W.cells? 0 ((⟨b, off, none⟩ : Addr).add (i * P.cellsOf e)) (P.cellsOf e)).getD []) rs (fun c hcm => by
          obtain ⟨i, hi, rfl⟩ := List.mem_map.1 hcm
          rw [List.mem_range] at hi
          obtain ⟨c, h1, h2⟩ := hcs i hi
          rw [h1]
          exact ⟨(World.cells?_some h1).2.1, h2⟩) w
      have hlk : ∀ c ∈ ((List.range len).map fun i => (W.cells? 0 ((⟨b, off, none⟩ : Addr).add (i * P.cellsOf e)) (P.cellsOf e)).getD []), c.length = P.cellsOf e := by
        intro c hcm
        obtain ⟨i, hi, rfl⟩ := List.mem_map.1 hcm
        rw [List.mem_range] at hi
        obtain ⟨c, h1, h2⟩ := hcs i hi
        rw [h1]
        exact (World.cells?_some h1).2.1
      have hul : uss.length = len := by rw [r2.1]; simp
      have hels : Els (P.cellsOf e) uss := by
        intro u hu
        refine ⟨?_, (t2 u hu).one⟩
        obtain ⟨i, hi, rfl⟩ := List.getElem_of_mem hu
        have hi2 : i < ((List.range len).map fun i => (W.cells? 0 ((⟨b, off, none⟩ : Addr).add (i * P.cellsOf e)) (P.cellsOf e)).getD []).length := by rw [← r2.1]; exact hi
        have := (r2.2 i _ _ (List.getElem?_eq_getElem hi) (List.getElem?_eq_getElem hi2)).1
        rw [this]
        exact hlk _ (List.getElem_mem hi2)
      refine ⟨more ++ [some (⟨b, off, 0⟩, uss.flatten)], [.slice (some ⟨(rs ++ more).length, 0, none⟩) len cap], ?_⟩
      rw [← List.append_assoc]
      have hJ : (rs ++ more ++ [some (⟨b, off, 0⟩, uss.flatten)])[(rs ++ more).length]? = some (some (⟨b, off, 0⟩, uss.flatten)) := by simp
      refine ⟨w1.snoc hb fun i v hv => ?_, RVs.cons (.slice (roN_get hJ).2) (RVs.nil _), _, uss, rfl, .inr ⟨(rs ++ more).length, 0, none, cap, by rw [hul], by simp [roN], fun _ => rfl, fun x u hu => rd_row2 (tl := []) (by rw [List.append_nil]; exact (roN_get hJ).1) hels hu⟩, fun u hu => (t2 u hu).ext (roN_app _ _), by omega, _, _, by rw [hul], by omega⟩
      obtain ⟨v', hv', rv⟩ := r2.flat.get hv
      refine ⟨v', ?_, rv⟩
      have hi := (List.getElem?_eq_some_iff.1 hv').1
      rw [flat_len hlk] at hi
      rw [flat_get hlk i hi] at hv'
      have hq : i / P.cellsOf e < len := by
        rw [List.length_map, List.length_range] at hi
        exact Nat.div_lt_of_lt_mul (by rw [Nat.mul_comm]; exact hi)
      obtain ⟨c, h1, _⟩ := hcs _ hq
      rw [List.getElem?_map, List.getElem?_range hq, Option.map_some, h1] at hv'
      have hv' : c[i % P.cellsOf e]? = some v' := hv'
      have h2 := (World.cells?_some h1).2.2 (i % P.cellsOf e) (Nat.mod_lt _ hk)
      rw [add_add, Nat.mul_comm, Nat.div_add_mod, hv'] at h2
      rw [← h2]
      unfold Addr.add
      split
      · next e0 => subst e0; rfl
      · rfl
    · next fs ht =>
      obtain ⟨xs, m, _, _, hl, hlen, hf⟩ := DataW.trod_struct ht hx
      exact open_fld (T := fun h => Tv P h n) (fun _ _ _ _ x y => y.ext x) (D := fun t c => ∃ y, DataW.trod enc P W 0 (fun _ => true) held m t c = some y) (fun t cs rs hp d w => open_gen hz n t cs _ m rs hp d.choose_spec w)
        fs.toList 0 _ cs rs hp (by omega) (fun f hfm => by
          obtain ⟨i, hi, rfl⟩ := List.getElem_of_mem hfm
          have hi2 : i < fs.size := by simpa using hi
          have := hf i _ (Array.getElem?_eq_getElem hi2)
          rw [List.getElem?_eq_getElem (by omega)] at this
          exact ⟨_, by simpa using this⟩) w
    · next m' e ht =>
      rw [Bool.and_eq_true, decide_eq_true_eq] at hp
      obtain ⟨xs, m, _, _, hl, hlen, hf⟩ := DataW.trod_array ht hx
      obtain ⟨more, uss, w1, r2, t2⟩ := open_list (W := W) (T := fun h c => Tv P h n e c) (fun _ _ _ x y => y.ext x) (D := fun c => ∃ y, DataW.trod enc P W 0 (fun _ => true) held m e c = some y)
        (fun cs rs d w => open_gen hz n e cs _ m rs hp.2 d.choose_spec w) ((List.range m').map fun i => (cs.drop (i * P.cellsOf e)).take (P.cellsOf e)) rs (fun c hcm => by
          obtain ⟨i, hi, rfl⟩ := List.mem_map.1 hcm
          rw [List.mem_range] at hi
          have := hf i hi
          rw [List.getElem?_eq_getElem (by omega)] at this
          exact ⟨_, this⟩) w
      refine ⟨more, uss.flatten, w1, ?_, uss, rfl, by rw [r2.1]; simp, t2⟩
      have := r2.flat
      rwa [chunks m' cs (by rw [hl, hp.1])] at this
    · cases hp
end Go.Proofs.YtapbmmlgmcmpnaaDoorW.Am
/- From a law's contract to its row: with the laid condition and the world's shape. -/
namespace Go.Proofs.YtapbmmlgmcmpnaaDoorW.Am
open Go Go.RowKit
variable {H : Type} {enc : TypeId × Value → H}
theorem handed_and_shaped {a : Assume} {C : Checked} {os : Os} {f : FuncId} {fn : Func} {s : ChangeSpec} {conds : List PathCond} {apart fresh handsOn again : Bool} {X : World → Array Value → Prop}
    (hX : ∀ (w w' : World) (args : Array Value), w.heap = w'.heap → X w args → X w' args)
    (own : ownKnob C.prog.godebug = none) (started : os.Started) (noInit : C.prog.inits.idxOf? f = none) (hfn : C.prog.funcs[f]? = some fn)
    (witness : ∃ (w : World) (tape : Tape) (i : Input), w.os = os ∧ (w.forCall tape i).Shaped C.prog ∧ i.vars = [] ∧ Input.okWide C.prog (w.forCall tape i) .any w.heap.size f i ∧
      ((s.pre enc C.prog fn conds apart (w.forCall tape i).memory i.args ∧ X (w.forCall tape i).memory i.args) ∧ sizedMet enc C.prog fn (OpenSpec.ofChange s) apart (w.forCall tape i).memory i.args) ∧ a.holds C.prog (lone (Frame.enter C.prog f i.args .normal) [] (w.forCall tape i)))
    (contract : ∀ (W : World) (base : Nat) (args : Array Value) (ds gs : List (DataW H)) (before : List MemPlace),
      (∀ (j : Nat) t v, fn.params[j]? = some t → args[j]? = some v → Value.okWide C.prog W .any base t v) →
      DataW.Whole enc C.prog fn.params.toList s.vars apart W args.toList ds gs before →
      conds.all (PathCond.test C.prog ⟨fn.params.toList, ds, s.plain.varTypes C.prog, gs⟩) = true →
      (DataW.weightsEach C.prog (fn.params.toList ++ s.plain.varTypes C.prog) (ds ++ gs)).all (· ≤ reachBytes) = true → X W args → W.ShapedOpen C.prog →
      a.holds C.prog (lone (Frame.enter C.prog f args .normal) [] W) →
      Calls C.prog f args W fun e W' => ∃ v, e = .returned v ∧ s.post enc C.prog fn apart fresh handsOn again W args v W') :
    ReturnsInHanded a C os f .any (fun w args => (s.pre enc C.prog fn conds apart w args ∧ X w args) ∧ sizedMet enc C.prog fn (OpenSpec.ofChange s) apart w args) (s.post enc C.prog fn apart fresh handsOn again) := by
  refine returnsInHanded_of_calls own started noInit witness ?_
  intro w tape i _ hsh _ hok hpre hholds
  obtain ⟨_, _, _, fn', hfn', _, _, _, _, hval⟩ := hok
  have e : fn' = fn := Option.some.inj (hfn'.symm.trans hfn)
  subst e
  obtain ⟨⟨⟨ds, gs, before, hw, hc⟩, hx⟩, hz⟩ := hpre
  have hw' := DataW.Whole.of_heap (w' := w.forCall tape i) (by rfl) hw
  refine (contract (w.forCall tape i) w.heap.size i.args ds gs before hval hw' hc (hz.weights hw) (hX _ _ _ (by rfl) hx) hsh hholds).mono fun e W' ⟨v, he, hp⟩ => ?_
  subst he
  exact ChangeSpec.post_blind hp
end Go.Proofs.YtapbmmlgmcmpnaaDoorW.Am
/- What the rows list: a world that holds the tables; what the condition gives. -/
namespace Go.Proofs.YtapbmmlgmcmpnaaDoorW.Am
open Go Go.RowKit
open Go.Proofs.YtapbmmlgmcmpnaaDoor
def cellsL : DataW Unit → Array Value
  | .agg l => (l.flatMap fun
    | .lit (.int k z) => [Value.int k z]
    | .agg m => m.map fun | .lit (.int k z) => Value.int k z | _ => .bool false
    | _ => [.bool false]).toArray
  | _ => #[]
noncomputable def lowN : Nat := (World.holding Go.Proofs.Tryd.prog default ⟨#[], #[], []⟩).heap.size
def setBlk (b : Nat) (c : Array Value) (h : Array Obj) : Array Obj := h.modify b fun
  | .cells _ t frozen => .cells c t frozen
  | o => o
noncomputable def laidWorld (os : Os) : World :=
  let w0 := World.holding Go.Proofs.Tryd.prog os ⟨#[.cells #[.string ⟨#[118, 97, 108, 117, 101, 32, 111, 117, 116, 32, 111, 102, 32, 114, 97, 110, 103, 101]⟩] 142, .cells #[.string ⟨#[105, 110, 118, 97, 108, 105, 100, 32, 115, 121, 110, 116, 97, 120]⟩] 142], #[], []⟩
  { w0 with heap := setBlk 2 (cellsL Rows.laid_unicode_utf8_first) (setBlk 4 #[.iface 140 (.pointer (some ⟨lowN + 1, 0, none⟩))] (setBlk 5 #[.iface 140 (.pointer (some ⟨lowN, 0, none⟩))]
      (setBlk 3 (cellsL Rows.laid_unicode_utf8_acceptRanges) (setBlk 1 (cellsL Rows.laid_internal_strconv_uint64pow10) (setBlk 7 (cellsL Rows.laid_math_bits_deBruijn64tab) (setBlk 6 (cellsL Rows.laid_math_bits_deBruijn32tab) w0.heap)))))) }
abbrev laidL : List (String × DataW Unit) := [("math/bits.deBruijn32tab", Rows.laid_math_bits_deBruijn32tab), ("math/bits.deBruijn64tab", Rows.laid_math_bits_deBruijn64tab), ("internal/strconv.uint64pow10", Rows.laid_internal_strconv_uint64pow10), ("unicode/utf8.acceptRanges", Rows.laid_unicode_utf8_acceptRanges), ("strconv.ErrRange", Rows.laid_strconv_ErrRange), ("strconv.ErrSyntax", Rows.laid_strconv_ErrSyntax), ("unicode/utf8.first", Rows.laid_unicode_utf8_first)]
theorem gP : Go.Proofs.Tryd.prog.globalNamed "internal/strconv.uint64pow10" = some 1 := by kernel_rfl
theorem tb_laid {W : World} (h : laidMet Go.Proofs.Tryd.prog laidL W) (hsh : W.ShapedOpen Go.Proofs.Tryd.prog) : TbP W :=
  ⟨Go.Lib.tabIs_of_head (rest := _) gP (by kernel_rfl : (Go.Proofs.Tryd.prog.globals[1]?).map (·.type) = some 123) Go.Proofs.Tryd.underlying123 Go.Proofs.Tryd.underlying106 (by kernel_rfl) (by kernel_rfl) (laidMet.tail (laidMet.tail h)), Tryd.laysM146.s1_3 W hsh⟩
theorem hz_laid {W : World} (h : laidMet Go.Proofs.Tryd.prog laidL W) (hsh : W.ShapedOpen Go.Proofs.Tryd.prog) : 0 < W.heap.size :=
  Nat.lt_of_le_of_lt (Nat.zero_le _) (cell_at (Go.Lib.TabIs.cell (tb_laid h hsh).1 gP 0 (by decide))).2
theorem laid_met (os : Os) (args : Array Value) : laidMet Go.Proofs.Tryd.prog laidL ((laidWorld os).forCall (fun _ _ => 0) ⟨#[], args, []⟩).memory :=
  laidMet_of_run3 10 (by kernel_rfl) (by kernel_rfl) (by kernel_rfl)
end Go.Proofs.YtapbmmlgmcmpnaaDoorW.Am
/- TextNumbers holds: a number with a point is so many thousandths; noughts behind the point change nothing. For every input. -/
namespace Go.Proofs.YtapbmmlgmcmpnaaDoor.textNumbers
open Go.ChangeShapes Go.WideShapes Go.ChangeAt Go.RowKit
open Go.Proofs.YtapbmmlgmcmpnaaDoorW.Am
theorem own : ownKnob Tryd.prog.godebug = none := by kernel_rfl
set_option maxRecDepth 100000 in
theorem lifted (os : Os) (started : os.Started) (H : Type) (enc : TypeId × Value → H) :
    ReturnsInHanded {} Tryd.checked os 7 .any (fun w args => (Rows.textNumbersSpec.pre enc Tryd.prog Tryd.f7 [] false w args ∧ laidMet Tryd.prog laidL w) ∧ sizedMet enc Tryd.prog Tryd.f7 (OpenSpec.ofChange Rows.textNumbersSpec) false w args)
      (Rows.textNumbersSpec.post enc Tryd.prog Tryd.f7 false true false false) := by
  refine handed_and_shaped (C := Tryd.checked) (X := fun w _ => laidMet Tryd.prog laidL w) (fun _ _ _ hh h => h.of_heap hh) own started (by kernel_rfl) Tryd.func7
    (ChangeSpec.witness_at (enc := enc) (C := Tryd.checked) (os := os) (X := fun w _ => laidMet Tryd.prog laidL w) false (laidWorld os) #[.int .i64 0, .int .i64 0, .bool false] 8 rfl (by kernel_rfl) (by kernel_rfl) (by kernel_rfl) (by kernel_rfl) (by kernel_rfl) (laid_met os _)) ?_
  intro W base args ds gs before hval0 hW hcnd hsz0 hL hsh _
  have tbW : Tb W.heap.size W := tb_of (tb_laid hL hsh)
  have hval : ∀ (j : Nat) t v, Tryd.f7.params[j]? = some t → args[j]? = some v → Value.okWide Tryd.prog W .any base t v := hval0
  have hW' := hW
  obtain ⟨p, q, hA0, hV, rfl, hfz, hnd⟩ := hW
  have hA : DataW.TrodAll enc Tryd.prog W 0 (fun _ => true) true Tryd.f7.params.toList args.toList ds p := hA0
  rw [Tryd.params7] at hA hval
  obtain ⟨v0, vs0, d0, ds0, p0, q0, hargs, rfl, rfl, h0, r0⟩ := trodAll_cons hA
  obtain ⟨v1, vs1, d1, ds1, p1, q1, rfl, rfl, rfl, h1, r1⟩ := trodAll_cons r0
  obtain ⟨v2, vs2, d2, ds2, p2, q2, rfl, rfl, rfl, h2, r2⟩ := trodAll_cons r1
  obtain ⟨rfl, rfl, rfl⟩ := trodAll_nil r2
  obtain rfl : args = #[v0, v1, v2] := by cases args; simp_all
  obtain ⟨rfl, rfl⟩ := trodVars_none hV
  obtain ⟨a0, rfl, rfl, rfl, w0⟩ := open_int Tryd.underlying3 (hval 0 3 v0 rfl rfl) h0
  obtain ⟨a1, rfl, rfl, rfl, w1⟩ := open_int Tryd.underlying3 (hval 1 3 v1 rfl rfl) h1
  obtain ⟨a2, rfl, rfl, rfl⟩ := open_bool Tryd.underlying4 (hval 2 4 v2 rfl rfl) h2
  refine (law_plain (tnumbers_ok a0 a1 a2 _) rfl W).mono fun e W' ⟨he, bel⟩ => ?_
  subst he
  exact ⟨_, rfl, _, _, _, [], _, [], hW', trodAll_mk1 (shut_bool Tryd.underlying4 _), (trodAll_cons_mk (shut_int Tryd.underlying3 w0) (trodAll_cons_mk (shut_int Tryd.underlying3 w1) (trodAll_cons_mk (shut_bool Tryd.underlying4 a2) trodAll_mk0))), rfl, bel.frame _, fun h => by cases h⟩
theorem over : Rows.textNumbersRow.holds Tryd.pinned (OpenSpec.ofChange Rows.textNumbersSpec) :=
  OpenClaim.holds_of_wide 7 Tryd.f7 rfl rfl rfl rfl rfl rfl rfl ⟨rfl, rfl, rfl, rfl, rfl⟩ rfl rfl rfl rfl rfl (by kernel_rfl) Tryd.func7 (by kernel_rfl)
    (of_decide_eq_true (by kernel_rfl)) (by unfold Func.isWrapper; first | (rw [if_pos (by decide +kernel)]; kernel_rfl) | (rw [if_neg (by decide +kernel)]; exact ⟨rfl, rfl⟩))
    (fun os started H enc _ => lifted os started H enc)
theorem cardOver : Rows.TextNumbersCardSaid :=
  Claim7.holds_tied_plain_at .later [] [.data, .data, .data, .data, .sentinel, .sentinel, .pinned] true (true, "2b63ca96292b6a068453959516a9bb9ac68981dd8b203f6dc88024ccca19ea9f") true
    over (fun _ h => by cases h) (by kernel_rfl) (fun _ h => by cases h) textNumbers_row_tie rfl ⟨rfl, rfl⟩ (by kernel_rfl) rfl
    (fun f fn hf hfn => by
      obtain rfl : f = 7 := Option.some.inj ((show Tryd.prog.funcNamed "spinnaker/spinnakerlaw4.TextNumbers" = some 7 by kernel_rfl).symm.trans hf) |>.symm
      obtain rfl : fn = Tryd.f7 := (Option.some.inj (Tryd.func7.symm.trans hfn)).symm
      exact ⟨by kernel_rfl, fun j t ht => by
        rw [Tryd.params7] at ht
        have h3 : t ∈ [3, 3, 4] := List.mem_of_getElem? (by simpa using ht)
        simp only [List.mem_cons, List.not_mem_nil, or_false] at h3
        rcases h3 with rfl | rfl | rfl
        · exact (show Tryd.prog.wantsStandIn 3 = false by kernel_rfl)
        · exact (show Tryd.prog.wantsStandIn 3 = false by kernel_rfl)
        · exact (show Tryd.prog.wantsStandIn 4 = false by kernel_rfl)⟩)
    (by kernel_rfl)
theorem proved : Rows.TextNumbersCardSaid := cardOver
#print axioms proved
end Go.Proofs.YtapbmmlgmcmpnaaDoor.textNumbers
namespace Go.Proofs.YtapbmmlgmcmpnaaDoor
/-- The row, under a short name, for the claim. -/
theorem textNumbers_holds : Rows.TextNumbersCardSaid := textNumbers.proved
end Go.Proofs.YtapbmmlgmcmpnaaDoor
