/- The queue's told, over abstract heaps. -/
import Derived.Test.YtcdfoicebcmlaaaQueueE
namespace Go.Proofs.YtcdfoicebcmlaaaW.Am
open Go Go.RowKit
theorem Ext.mod {h h1 h2 : Hp} {q j : Nat} (x : Ext h h1) (m : Mod q j h1 h2) (hq : h.nx ≤ q) (hj : h.nx ≤ j) : Ext h h2 :=
  ⟨Nat.le_trans x.1 m.1, fun k hk => (m.2 k (Nat.lt_of_lt_of_le hk x.1) (by omega) (by omega)).trans (x.2 k hk)⟩
theorem Ow.mod {N : Nat} {h h' : Hp} {s : Value} {us : List Value} (a : Ow N h s us) {q j : Nat} (hq : q < N) (hj : j < N) (m : Mod q j h h') : Ow N h' s us := by
  rcases a with a | ⟨i, h1, h2, h3, h4, h5⟩
  · exact .inl a
  · exact .inr ⟨i, h1, Nat.lt_of_lt_of_le h2 m.1, h3, (m.2 i h2 (by omega) (by omega)).trans h4, h5⟩
theorem QA.ext {h h' : Hp} {q j : Nat} {depth last : Int} {l : List (Int × Int)} (a : QA h q j depth last l) (x : Ext h h') : QA h' q j depth last l := by
  obtain ⟨hq, hj, s, hg, hs⟩ := a
  refine ⟨Nat.lt_of_lt_of_le hq x.1, Nat.lt_of_lt_of_le hj x.1, s, (x.2 q hq).trans hg, ?_⟩
  rcases hs with hs | ⟨xs, sp, e1, e2, e3, e4, e5⟩
  · exact .inl hs
  · exact .inr ⟨xs, sp, e1, (x.2 j hj).trans e2, e3, e4, e5⟩

theorem qtold_ok (h : Hp) : ACall PQ 27 [] h (fun v h' => v = .bool true ∧ Ext h h') := by
  refine acall Go.Proofs.Try.func27 c27 (by simp [ir27]) ?_
  unfold ir27
  dsimp only
  refine ai_seq (ai_reg ?_)
  refine st rfl ?_
  refine ai_seq (ai_reg ?_)
  refine stC rfl ((new_ok h (by omega) (by omega)).mono ?_)
  rintro v h1 ⟨rfl, a1, x1⟩
  have hq0 : h.nx < h1.nx := a1.ql
  refine st rfl ?_
  refine ai_seq (ai_seq (ai_reg ?_))
  iterate 2 refine st rfl ?_
  refine ai_cond (b := false) rfl (fun hb => by cases hb) (fun _ => ai_skip ?_)
  refine ai_seq (ai_reg ?_)
  refine st rfl ?_
  refine stC rfl ((put_ok a1 (by decide) (by decide) (by decide) (by decide)).mono ?_)
  rintro v h2 ⟨rfl, j2, a2, m2, hj2⟩
  have x2 := x1.mod m2 (Nat.le_refl _) (Nat.le_refl _)
  refine st rfl ?_
  refine stC rfl ((put_ok a2 (by decide) (by decide) (by decide) (by decide)).mono ?_)
  rintro v h3 ⟨rfl, j3, a3, m3, hj3⟩
  have x3 := x2.mod m3 (Nat.le_refl _) (by omega)
  refine st rfl ?_
  refine stC rfl ((put_full a3 (by decide) (by decide) (by decide)).mono ?_)
  rintro v _ ⟨rfl, rfl⟩
  iterate 3 refine st rfl ?_
  refine ai_seq (ai_reg ?_)
  refine st rfl ?_
  refine stC rfl ((late_ok (now := 4) (age := 3) h3 a3 (by decide)).mono ?_)
  rintro v h4 ⟨d, hd, hd1, hd2, how, a4, m4⟩
  obtain rfl : d = 1 := by
    match d, hd, hd1, hd2 with
    | 0, _, _, e => have := e (5, 1) rfl; revert this; decide
    | 1, _, _, _ => rfl
    | 2, _, e, _ => have := e (5, 3) (by decide); revert this; decide
  have hj3' : h.nx ≤ j3 := by have := x2.1; omega
  have hj4 := a3.jl
  have hq4 := a3.ql
  have hQ : h.nx < h3.nx := by have := x2.1; omega
  have x4 := x3.mod m4 (Nat.le_refl _) hj3'
  replace a4 : QA h4 h.nx j3 2 3 [(5, 3)] := a4
  replace how : Ow h3.nx h4 v [nI 5] := how
  refine st rfl ?_
  refine ai_seq (ai_reg ?_)
  refine st rfl ?_
  refine stC rfl ((put_arg a4 (.inl (by decide))).mono ?_)
  rintro _ _ ⟨rfl, rfl⟩
  refine st rfl ?_
  refine ai_seq (ai_reg ?_)
  refine st rfl ?_
  refine stC rfl ((put_arg a4 (.inr (by decide))).mono ?_)
  rintro _ _ ⟨rfl, rfl⟩
  refine st rfl ?_
  refine ai_seq (ai_reg ?_)
  refine st rfl ?_
  refine stC rfl ((take_ok h4 a4).mono ?_)
  rintro _ h5 ⟨rfl, a5, m5⟩
  have x5 := x4.mod m5 (Nat.le_refl _) hj3'
  replace how := how.mod hQ hj4 m5
  iterate 5 refine st rfl ?_
  refine ai_seq (ai_reg ?_)
  refine st rfl ?_
  refine stC rfl ((take_nil h5 a5).mono ?_)
  rintro _ _ ⟨rfl, rfl⟩
  iterate 5 refine st rfl ?_
  refine ai_seq (ai_reg ?_)
  refine st rfl ?_
  refine stC rfl ((depth_ok h5 a5 (n := 0) (by decide) (by decide)).mono ?_)
  rintro _ h6 ⟨rfl, a6, m6⟩
  have x6 := x5.mod m6 (Nat.le_refl _) hj3'
  replace how := how.mod hQ hj4 m6
  refine st rfl ?_
  refine stC rfl ((depth_no h6 (n := 201) (.inr (by decide))).mono ?_)
  rintro _ _ ⟨rfl, rfl⟩
  iterate 2 refine st rfl ?_
  refine ai_seq (ai_reg ?_)
  refine st rfl ?_
  refine stC rfl ((put_full a6 (by decide) (by decide) (by decide)).mono ?_)
  rintro _ _ ⟨rfl, rfl⟩
  refine st rfl ?_
  refine ai_seq (ai_reg ?_)
  refine st rfl ?_
  refine ai_seq (ai_reg ?_)
  iterate 3 refine st rfl ?_
  iterate 2 refine stT rfl rfl rfl ?_
  iterate 2 refine st rfl ?_
  iterate 2 refine stT rfl rfl rfl ?_
  iterate 2 refine st rfl ?_
  refine stT rfl rfl rfl ?_
  refine stT (v := .slice (some ⟨h6.nx, 0, none⟩) 1 1) (h' := h6.new ⟨[nI 5], true, 1⟩) rfl rfl rfl ?_
  have hre : Rd (h6.new ⟨[nI 5], true, 1⟩) v ([5].map nI) := (how.move (Ext.new h6 _)).rdd
  have hr5 : Rd (h6.new ⟨[nI 5], true, 1⟩) (.slice (some ⟨h6.nx, 0, none⟩) 1 1) ([5].map nI) := .inr ⟨h6.nx, 0, none, _, rfl, fun x v hx => rd_app (xs := []) (us := [nI 5]) (b := true) (e := 1) (by simp [Hp.new]) hx⟩
  refine stCT rfl rfl rfl ((ints_ok _ hre hr5 (by decide)).mono ?_)
  rintro _ _ ⟨rfl, rfl⟩
  have a7 := a6.ext (Ext.new h6 ⟨[nI 5], true, 1⟩)
  have x7 := x6.trans (Ext.new h6 ⟨[nI 5], true, 1⟩)
  generalize h6.new ⟨[nI 5], true, 1⟩ = h7 at a7 x7
  iterate 2 refine st rfl ?_
  iterate 2 refine stT rfl rfl rfl ?_
  iterate 2 refine st rfl ?_
  iterate 2 refine stT rfl rfl rfl ?_
  iterate 2 refine st rfl ?_
  iterate 2 refine stT rfl rfl rfl ?_
  iterate 2 refine st rfl ?_
  refine stT rfl rfl rfl ?_
  iterate 2 refine st rfl ?_
  iterate 2 refine stT rfl rfl rfl ?_
  iterate 2 refine st rfl ?_
  iterate 2 refine stT rfl rfl rfl ?_
  iterate 2 refine st rfl ?_
  iterate 2 refine stT rfl rfl rfl ?_
  iterate 2 refine st rfl ?_
  iterate 2 refine stT rfl rfl rfl ?_
  iterate 2 refine st rfl ?_
  refine stT rfl rfl rfl ?_
  refine stCT rfl rfl rfl ((all_ok h7 a7 (by decide)).mono ?_)
  rintro v h8 ⟨y8, how8⟩
  obtain ⟨rfl, _⟩ | ⟨_, _, _, _, _, hne, _⟩ := how8
  case inr => exact (hne rfl).elim
  have x8 := x7.trans y8
  iterate 2 refine stT rfl rfl rfl ?_
  iterate 2 refine st rfl ?_
  refine stCT rfl rfl rfl ((new_no h8 (.inl (by decide))).mono ?_)
  rintro _ _ ⟨rfl, rfl⟩
  refine stT rfl rfl rfl ?_
  iterate 2 refine st rfl ?_
  refine stT rfl rfl rfl ?_
  refine stCT rfl rfl rfl ((put_nil h8 1 1).mono ?_)
  rintro _ _ ⟨rfl, rfl⟩
  refine stT rfl rfl rfl ?_
  iterate 2 refine st rfl ?_
  refine stT rfl rfl rfl ?_
  refine stCT rfl rfl rfl ((all_nil h8).mono ?_)
  rintro _ _ ⟨rfl, rfl⟩
  iterate 2 refine stT rfl rfl rfl ?_
  iterate 2 refine st rfl ?_
  refine ai_ret ?_
  exact end_one rfl ⟨rfl, x8⟩
end Go.Proofs.YtcdfoicebcmlaaaW.Am
