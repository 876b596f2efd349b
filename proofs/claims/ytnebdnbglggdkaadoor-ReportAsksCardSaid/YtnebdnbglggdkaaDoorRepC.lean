/- Reports over abstract heaps: words, lines. -/
import Derived.Test.YtnebdnbglggdkaaDoorRepB
namespace Go.Proofs.YtnebdnbglggdkaaDoorW.Am
open Go Go.RowKit
def I64 (n : Int) : Prop := -9223372036854775808 ≤ n ∧ n ≤ 9223372036854775807
def itoaS (n : Int) : ByteArray := ⟨(Go.Lib.itoa n).toArray⟩
theorem below_gd (w : World) (k : Nat) (os : Array Obj) : Below w.heap.size w (Go.Sort.grow (w.drewN k) os) := by
  refine ⟨rfl, rfl, rfl, ?_, fun b hb => ?_⟩
  · show w.heap.size ≤ (w.heap ++ os).size
    rw [Array.size_append]
    exact Nat.le_add_right _ _
  · show (w.heap ++ os)[b]? = w.heap[b]?
    exact Array.getElem?_append_left hb
theorem dr_no : DrOn → False := id
theorem itoa_br {n : Int} (hn : I64 n) (h : Hp) : ACall PR 20 [nI n] h (fun v g => v = .string (itoaS n) ∧ h = g) :=
  bridge (enters_comp Go.Proofs.Tryd.func20 c20) rfl rfl (fun w tb => (Go.Proofs.Tryd.strconv_Itoa n hn.1 hn.2 w tb).mono (by
    rintro e w' ⟨rfl, k, os, rfl⟩
    exact ⟨rfl, below_gd _ _ _, fun d => (dr_no d).elim⟩)) h
theorem fint_br {n : Int} (hn : I64 n) (h : Hp) : ACall PR 14 [nI n, nI 10] h (fun v g => v = .string (itoaS n) ∧ h = g) :=
  bridge (enters_comp Go.Proofs.Tryd.func14 c14) rfl rfl (fun w tb => (Go.Proofs.Tryd.strconv_FormatInt_10 n hn.1 hn.2 w tb).mono (by
    rintro e w' ⟨rfl, k, os, rfl⟩
    exact ⟨rfl, below_gd _ _ _, fun d => (dr_no d).elim⟩)) h
theorem joinc_br {sep : ByteArray} {N : Nat} {h : Hp} {s : Value} {xs : List ByteArray} (r : GR 1 N h s (rS xs)) (h0 : xs ≠ []) (h1 : xs.length ≤ 140737488355328) (h2 : (Go.Lib.join (xs.map (·.data.toList)) sep.data.toList).length ≤ 140737488355328) :
    ACall PR 17 [s, .string sep] h (fun v g => v = .string (joinS xs sep) ∧ g = h) :=
  join_br ⟨_, Go.Proofs.Tryd.func17, by intro h; exact absurd (congrArg Option.isSome h) (by decide), by decide⟩ sep (fun bk o c xs w a b d e f => Go.Proofs.Tryd.strings_Join bk o c xs sep w a b d e f) dr_no r h0 h1 h2
theorem word_n {n : Int} (hn : I64 n) (h : Hp) : ACall PR 16 [.iface 3 (nI n)] h (fun v g => v = .string (itoaS n) ∧ h = g) := by
  refine acall Go.Proofs.Tryd.func16 c16 (by simp [ir16]) ?_
  unfold ir16
  dsimp only
  repeat (first | refine sS ?_ | refine sSn ?_ | refine dS ?_ | refine dSn ?_ | refine dSR ?_ | refine dSRn ?_ | refine sE ?_ | refine dE ?_ | (refine agS ?_ ?_; focus (repeat (first | exact ag_nil | refine ag_cons (by first | exact ag_gF rfl rfl | exact ag_l rfl rfl (by first | exact rd_g ‹_› rfl | exact rd_new rfl | assumption) | exact ag_gT rfl rfl (ag_l rfl rfl (by first | exact rd_g ‹_› rfl | exact rd_new rfl | assumption)) | exact ag_ln rfl rfl (by first | exact rd_all ‹_› rfl | exact rd_newn rfl | assumption) | exact ag_gT rfl rfl (ag_ln rfl rfl (by first | exact rd_all ‹_› rfl | exact rd_newn rfl | assumption))) ?_))) | refine w_mv rfl ?_ | refine w_bldF rfl rfl rfl rfl rfl ?_ | refine w_pickT rfl ?_ | refine w_pickF rfl ?_ | (refine is_okk rfl ?_; refine w_op rfl ?_) | refine w_ext rfl rfl ?_ | refine w_gT rfl rfl ?_ | refine w_gF rfl rfl ?_ | refine w_gU rfl ?_ | (refine is_ld ?_; refine w_ld rfl (by first | exact rd_g ‹_› rfl | exact rd_new rfl | assumption) ?_) | (refine is_ldn ?_; refine w_ldn rfl (by first | exact rd_all ‹_› rfl | exact rd_newn rfl | assumption) ?_) | (refine w_add rfl ?_ ?_; (focus omega)) | (refine w_sub rfl ?_ ?_; (focus omega)) | (refine w_ci rfl ?_ ?_; (focus omega)) | (refine w_cu rfl ?_ ?_; (focus omega)) | (refine w_cmp (c2 := true) rfl ?_ ?_; focus (first | exact decide_eq_true (by omega) | (simp; done) | (simp; omega))) | (refine w_cmp (c2 := false) rfl ?_ ?_; focus (first | exact decide_eq_false (by omega) | (simp; done) | (simp; omega))) | (refine w_iad rfl ?_ ?_; focus (first | omega | (simp; done) | (simp; omega))) | (refine w_iaa rfl ?_ ?_; focus (first | omega | (simp; done) | (simp; omega))) | (refine w_mul rfl ?_ ?_; (focus omega)) | (refine w_rem rfl ?_ ?_ ?_; (focus omega); (focus omega)) | (refine w_quo rfl ?_ ?_ ?_; (focus omega); (focus omega)) | (refine w_addu rfl ?_ ?_; (focus omega)) | (refine w_mulu rfl ?_ ?_; (focus omega)) | (refine w_quou rfl ?_ ?_ ?_; (focus omega); (focus omega)) | (refine w_neg rfl ?_ ?_; (focus omega)) | refine w_max rfl ?_ | refine w_min rfl ?_ | refine w_cuw rfl ?_ | refine w_adduw rfl ?_ | (refine w_call rfl ((itoa_br hn _).mono ?_); rintro _ _ ⟨rfl, rfl⟩) | refine ai_seq ?_ | refine ai_regW ?_ | refine ai_condF (b := true) rfl (fun _ => ?_) (fun hb => by cases hb) | refine ai_condF (b := false) rfl (fun hb => by cases hb) (fun _ => ?_) | refine ai_skip ?_ | refine ai_drwW (by kernel_rfl) ?_ | refine ai_block ?_ | refine ai_exit ?_ | (refine ai_ret ?_; repeat (first | rw [thenQ_r] | rw [blockQ_r] | rw [roundE_r])))
  exact ⟨_, rfl, rfl, rfl⟩
theorem word_s (b : ByteArray) (h : Hp) : ACall PR 16 [.iface 9 (.string b)] h (fun v g => v = .string b ∧ h = g) := by
  refine acall Go.Proofs.Tryd.func16 c16 (by simp [ir16]) ?_
  unfold ir16
  dsimp only
  repeat (first | refine sS ?_ | refine sSn ?_ | refine dS ?_ | refine dSn ?_ | refine dSR ?_ | refine dSRn ?_ | refine sE ?_ | refine dE ?_ | (refine agS ?_ ?_; focus (repeat (first | exact ag_nil | refine ag_cons (by first | exact ag_gF rfl rfl | exact ag_l rfl rfl (by first | exact rd_g ‹_› rfl | exact rd_new rfl | assumption) | exact ag_gT rfl rfl (ag_l rfl rfl (by first | exact rd_g ‹_› rfl | exact rd_new rfl | assumption)) | exact ag_ln rfl rfl (by first | exact rd_all ‹_› rfl | exact rd_newn rfl | assumption) | exact ag_gT rfl rfl (ag_ln rfl rfl (by first | exact rd_all ‹_› rfl | exact rd_newn rfl | assumption))) ?_))) | refine w_mv rfl ?_ | refine w_bldF rfl rfl rfl rfl rfl ?_ | refine w_pickT rfl ?_ | refine w_pickF rfl ?_ | (refine is_okn rfl ?_; refine w_op rfl ?_) | refine w_ext rfl rfl ?_ | refine w_gT rfl rfl ?_ | refine w_gF rfl rfl ?_ | refine w_gU rfl ?_ | (refine is_ld ?_; refine w_ld rfl (by first | exact rd_g ‹_› rfl | exact rd_new rfl | assumption) ?_) | (refine is_ldn ?_; refine w_ldn rfl (by first | exact rd_all ‹_› rfl | exact rd_newn rfl | assumption) ?_) | (refine w_add rfl ?_ ?_; (focus omega)) | (refine w_sub rfl ?_ ?_; (focus omega)) | (refine w_ci rfl ?_ ?_; (focus omega)) | (refine w_cu rfl ?_ ?_; (focus omega)) | (refine w_cmp (c2 := true) rfl ?_ ?_; focus (first | exact decide_eq_true (by omega) | (simp; done) | (simp; omega))) | (refine w_cmp (c2 := false) rfl ?_ ?_; focus (first | exact decide_eq_false (by omega) | (simp; done) | (simp; omega))) | (refine w_iad rfl ?_ ?_; focus (first | omega | (simp; done) | (simp; omega))) | (refine w_iaa rfl ?_ ?_; focus (first | omega | (simp; done) | (simp; omega))) | (refine w_mul rfl ?_ ?_; (focus omega)) | (refine w_rem rfl ?_ ?_ ?_; (focus omega); (focus omega)) | (refine w_quo rfl ?_ ?_ ?_; (focus omega); (focus omega)) | (refine w_addu rfl ?_ ?_; (focus omega)) | (refine w_mulu rfl ?_ ?_; (focus omega)) | (refine w_quou rfl ?_ ?_ ?_; (focus omega); (focus omega)) | (refine w_neg rfl ?_ ?_; (focus omega)) | refine w_max rfl ?_ | refine w_min rfl ?_ | refine w_cuw rfl ?_ | refine w_adduw rfl ?_ | refine ai_seq ?_ | refine ai_regW ?_ | refine ai_condF (b := true) rfl (fun _ => ?_) (fun hb => by cases hb) | refine ai_condF (b := false) rfl (fun hb => by cases hb) (fun _ => ?_) | refine ai_skip ?_ | refine ai_drwW (by kernel_rfl) ?_ | refine ai_block ?_ | refine ai_exit ?_ | (refine ai_ret ?_; repeat (first | rw [thenQ_r] | rw [blockQ_r] | rw [roundE_r])))
  exact ⟨_, rfl, rfl, rfl⟩
end Go.Proofs.YtnebdnbglggdkaaDoorW.Am
