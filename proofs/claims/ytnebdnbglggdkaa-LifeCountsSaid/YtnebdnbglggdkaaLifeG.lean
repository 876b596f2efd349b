/- Pods over abstract heaps: slices.Delete of one place. -/
import Derived.Test.YtnebdnbglggdkaaLifeF
namespace Go.Proofs.YtnebdnbglggdkaaW.Am
open Go Go.RowKit
theorem delete_ok (h : Hp) {L j i : Nat} {s : Value} {us : List Value} (a : LR h L j s us) (hi : i < us.length) (hb : us.length ≤ 1000) :
    ACall PP 51 [s, nI i, nI ((i : Int) + 1)] h (fun v h' => LR h' L j v (us.take i ++ us.drop (i + 1)) ∧ h'.nx = h.nx ∧ ∀ k, k ≠ j → h'.get k = h.get k) := by
  obtain ⟨_, rfl⟩ | ⟨tl, rfl, hg, hal, hjL⟩ := a
  · simp at hi
  refine acall Go.Proofs.Try.func51 c51 (by simp [ir51]) ?_
  unfold ir51
  dsimp only
  refine ai_seq (ai_reg ?_)
  refine st rfl ?_
  refine ai_seq (ai_reg ?_)
  iterate 5 refine st rfl ?_
  obtain ⟨w, hw⟩ := slc_lhm (j := j) (n := us.length) (c := us.length + tl.length) (h := h) (l := i) (u := i + 1) (m := us.length) (by omega) (by omega) (by omega)
  refine st hw ?_
  refine ai_seq (ai_seq (ai_reg ?_))
  iterate 2 refine st rfl ?_
  refine st_v (v2 := .bool false) rfl (congrArg Value.bool (by simp; omega)) ?_
  refine ai_cond (b := false) rfl (fun hb => by cases hb) (fun _ => ai_skip ?_)
  refine ai_seq (ai_reg ?_)
  iterate 3 refine st rfl ?_
  refine ai_seq (ai_drw (by kernel_rfl) ?_)
  obtain ⟨h2, hst, hg2, hn2, hk2⟩ := del_app hg hal rfl hi hb
  iterate 2 refine dr rfl ?_
  refine dr (slc_h (by omega) (by omega)) ?_
  iterate 2 refine dr rfl ?_
  refine dr (slc_l (l := i + 1) (by omega) (by omega)) ?_
  refine dr hst ?_
  refine dr rfl ?_
  refine ai_seq (ai_reg ?_)
  iterate 4 refine st rfl ?_
  refine st (slc_lh (l := us.length - 1) (u := us.length) (by omega) (by omega)) ?_
  have hA : (us.take i ++ us.drop (i + 1)).length = us.length - 1 := by simp; omega
  have hdr : (us ++ tl).drop (us.length - 1) = (us[us.length - 1]) :: tl := by
    rw [List.drop_append_of_le_length (by omega), List.drop_eq_getElem_cons (by omega), show us.length - 1 + 1 = us.length by omega, List.drop_length]
    rfl
  rw [hdr] at hg2
  have hclr := del_clr (h := h2) (j := j) (n := us.length - 1) (m := us.length + tl.length - (us.length - 1)) (sp := some (if us.length + tl.length = us.length - 1 then 1 else 0)) hg2 hA.symm
  rw [show us.length - (us.length - 1) = 1 by omega]
  refine st hclr ?_
  refine ai_seq (ai_reg ?_)
  iterate 2 refine st rfl ?_
  refine ai_ret ?_
  refine end_one rfl ⟨.inr ⟨.nilIface :: tl, ?_, hput_same _ _ _, ?_, hjL⟩, by rw [hput_nx]; exact hn2, fun k hk => (hput_ne _ _ hk).trans (hk2 k hk)⟩
  · rw [hA, List.length_cons, show us.length - 1 + (tl.length + 1) = us.length + tl.length by omega]
  · simp only [List.all_append, List.all_cons, Bool.and_eq_true] at hal ⊢
    refine ⟨⟨?_, ?_⟩, rfl, hal.2⟩
    · rw [List.all_eq_true] at hal ⊢
      exact fun x hx => hal.1 x (List.mem_of_mem_take hx)
    · rw [List.all_eq_true] at hal ⊢
      exact fun x hx => hal.1 x (List.mem_of_mem_drop hx)
end Go.Proofs.YtnebdnbglggdkaaW.Am
