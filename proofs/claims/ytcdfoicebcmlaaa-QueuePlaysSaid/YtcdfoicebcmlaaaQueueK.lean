/- The reference's queue, over abstract heaps: what it is in memory; New, Put, Take, Depth. -/
import Derived.Test.YtcdfoicebcmlaaaQueueI
import Derived.Test.YtcdfoicebcmlaaaIrR
namespace Go.Proofs.YtcdfoicebcmlaaaW.Am
open Go Go.RowKit
/-- Pairs, laid end to end. -/
def fl : List (Int × Int) → List Value
  | [] => []
  | p :: l => nI p.1 :: nI p.2 :: fl l
theorem fl_len : ∀ l, (fl l).length = 2 * l.length
  | [] => rfl
  | p :: l => by simp only [fl, List.length_cons, fl_len l]; omega
theorem fl_app : ∀ l k, fl (l ++ k) = fl l ++ fl k
  | [], _ => rfl
  | p :: l, k => by simp only [List.cons_append, fl, fl_app l k]
theorem fl_one : ∀ l, (fl l).all one = true
  | [] => rfl
  | p :: l => by simp [fl, fl_one l, one]
theorem fl_drop : ∀ (l : List (Int × Int)) (i : Nat), (fl l).drop (i * 2) = fl (l.drop i)
  | l, 0 => by simp
  | [], i + 1 => by simp [fl]
  | p :: l, i + 1 => by rw [show (i + 1) * 2 = i * 2 + 1 + 1 by omega]; simp only [fl, List.drop_succ_cons]; exact fl_drop l i
/-- A row of pairs that may be appended to. -/
def RS (h : Hp) (q j : Nat) (s : Value) (l : List (Int × Int)) : Prop :=
  (s = .slice none 0 0 ∧ l = []) ∨ ∃ xs sp, s = .slice (some ⟨j, xs.length, some sp⟩) l.length l.length ∧ h.get j = some ⟨xs ++ fl l, true, 2⟩ ∧ (l ≠ [] → sp = 0) ∧ j ≠ q
theorem RS.keep {h h' : Hp} {q j : Nat} {s : Value} {l : List (Int × Int)} (a : RS h q j s l) (e : j ≠ q → h'.get j = h.get j) : RS h' q j s l := by
  rcases a with a | ⟨xs, sp, e1, e2, e3, e5⟩
  · exact .inl a
  · exact .inr ⟨xs, sp, e1, (e e5).trans e2, e3, e5⟩
theorem RS.len {h : Hp} {q j : Nat} {s : Value} {l : List (Int × Int)} (a : RS h q j s l) : ∃ x c, s = .slice x l.length c := by
  rcases a with ⟨rfl, rfl⟩ | ⟨xs, sp, rfl, _⟩ <;> exact ⟨_, _, rfl⟩
theorem RS.cell1 {h : Hp} {q j : Nat} {s : Value} {l : List (Int × Int)} (a : RS h q j s l) : one s = true ∧ s.cells = #[s] := by
  rcases a with ⟨rfl, rfl⟩ | ⟨xs, sp, rfl, _⟩ <;> exact ⟨rfl, rfl⟩
theorem rs_rd {h : Hp} {j : Nat} {xs : List Value} {l : List (Int × Int)} {b : Bool} {e : Nat} (hg : h.get j = some ⟨xs ++ fl l, b, e⟩) {i : Nat} {p : Int × Int} (hi : l[i]? = some p) :
    h.rd j (xs.length + i * 2 + 0) 1 = some [nI p.1] ∧ h.rd j (xs.length + i * 2 + 1) 1 = some [nI p.2] ∧ h.rd j (xs.length + i * 2) 2 = some [nI p.1, nI p.2] := by
  obtain ⟨hl, rfl⟩ := List.getElem?_eq_some_iff.1 hi
  have hd : (xs ++ fl l).drop (xs.length + i * 2) = nI l[i].1 :: nI l[i].2 :: fl (l.drop (i + 1)) := by
    rw [List.drop_append, List.drop_eq_nil_of_le (by omega), List.nil_append, Nat.add_sub_cancel_left, fl_drop, List.drop_eq_getElem_cons hl]
    rfl
  have hd1 : (xs ++ fl l).drop (xs.length + i * 2 + 1) = nI l[i].2 :: fl (l.drop (i + 1)) := by
    rw [← List.drop_drop, hd]
    rfl
  have hn := fl_len l
  refine ⟨?_, ?_, ?_⟩
  · unfold Hp.rd
    simp only [hg, Nat.add_zero]
    rw [if_pos (by rw [List.length_append]; omega), hd]
    rfl
  · unfold Hp.rd
    simp only [hg]
    rw [if_pos (by rw [List.length_append]; omega), hd1]
    rfl
  · unfold Hp.rd
    simp only [hg]
    rw [if_pos (by rw [List.length_append]; omega), hd]
    rfl
theorem RS.push {h : Hp} {q j : Nat} {s : Value} {l : List (Int × Int)} (a : RS h q j s l) (hj : j < h.nx) (hq : q < h.nx) (p : Int × Int) (hb : l.length ≤ 1000) :
    ∃ s' h2, stepK (.app 90 2 16) [s, .slice (some ⟨h.nx, 0, none⟩) 1 1] (h.new ⟨[nI p.1, nI p.2], true, 2⟩) = some (s', h2) ∧ RS h2 q (h.nx + 1) s' (l ++ [p]) ∧ h2.nx = h.nx + 2 ∧ ∀ k, k < h.nx → (k ≠ j ∨ j = q) → h2.get k = h.get k := by
  have hrd : rdS (h.new ⟨[nI p.1, nI p.2], true, 2⟩) (some ⟨h.nx, 0, none⟩) (1 * 2) = some [nI p.1, nI p.2] := by
    simp [rdS, Hp.rd, Hp.new]
  have hall : [nI p.1, nI p.2].all one = true := rfl
  rcases a with ⟨rfl, rfl⟩ | ⟨xs, sp, rfl, hg, hsp, hjq⟩
  · refine ⟨.slice (some ⟨h.nx + 1, 0, some 0⟩) 1 1, (h.new ⟨[nI p.1, nI p.2], true, 2⟩).new ⟨[nI p.1, nI p.2], true, 2⟩, ?_, .inr ⟨[], 0, rfl, ?_, fun _ => rfl, by omega⟩, by simp [Hp.new], ?_⟩
    · simp only [stepK, hrd]
      simp [appA, Hp.new, one]
    · simp [Hp.new, fl]
    · intro k hk _
      have e1 : ¬ k = h.nx + 1 := by omega
      have e3 : ¬ k = h.nx := by omega
      simp only [Hp.new, e1, e3, if_false]
  · have hne : j ≠ h.nx := by omega
    have hg2 : (h.new ⟨[nI p.1, nI p.2], true, 2⟩).get j = some ⟨xs ++ fl l, true, 2⟩ := by simp [Hp.new, hne, hg]
    have hn := fl_len l
    have hold : (if l.length = 0 then some [] else (h.new ⟨[nI p.1, nI p.2], true, 2⟩).rd j xs.length (l.length * 2)) = some (fl l) := by
      split
      · next hz => rw [List.eq_nil_of_length_eq_zero hz]; rfl
      · simp only [Hp.rd, hg2]
        rw [if_pos (by rw [List.length_append]; omega), List.drop_left, List.take_of_length_le (by omega)]
    refine ⟨.slice (some ⟨h.nx + 1, 0, some 0⟩) (l.length + 1) (l.length + 1), (((h.new ⟨[nI p.1, nI p.2], true, 2⟩)).del j).new ⟨fl l ++ [nI p.1, nI p.2], true, 2⟩, ?_, .inr ⟨[], 0, by simp, ?_, fun _ => rfl, by omega⟩, by simp [Hp.new, Hp.del], ?_⟩
    · simp only [stepK, hrd]
      simp only [appA]
      rw [if_pos ⟨by simp, hall, by omega, by omega, by omega⟩]
      simp only [Nat.one_ne_zero, if_false, show ¬ (l.length + 1 ≤ l.length) by omega, hold, hg2]
      rw [if_pos ⟨trivial, trivial, by rw [List.length_append]; omega, Nat.le_refl _, fl_one l⟩]
      simp [Hp.del, Hp.new]
    · simp [Hp.new, Hp.del, fl_app, fl]
    · intro k hk hkj
      have e1 : ¬ k = h.nx + 1 := by omega
      have e2 : ¬ k = j := by omega
      have e3 : ¬ k = h.nx := by omega
      simp only [Hp.new, Hp.del, e1, e2, e3, if_false]
structure RQ (h : Hp) (q j : Nat) (most last : Int) (p0 : Bool) (l : List (Int × Int)) : Prop where
  ql : q < h.nx
  jl : j < h.nx
  ex : ∃ s, h.get q = some ⟨[nI most, s, nI last, .bool p0], true, 0⟩ ∧ RS h q j s l

theorem rnew_ok {d : Int} (h : Hp) (hd : 0 ≤ d) (hd2 : d ≤ 200) : ACall PQ 28 [nI d] h (fun v h' => v = ptr h.nx ∧ RQ h' h.nx h.nx d 0 false [] ∧ Ext h h') := by
  refine acall Go.Proofs.Try.func28 c28 (by simp [ir28]) ?_
  unfold ir28
  dsimp only
  refine ai_seq (ai_reg ?_)
  refine st rfl ?_
  refine ai_seq (ai_seq (ai_reg ?_))
  refine st rfl ?_
  refine st_v (v2 := .bool false) rfl (congrArg Value.bool (by simp; omega)) ?_
  refine st rfl ?_
  refine stT rfl rfl rfl ?_
  refine stT (v := .bool false) rfl rfl (o_v rfl (congrArg Value.bool (by simp; omega))) ?_
  refine st rfl ?_
  refine ai_cond (b := false) rfl (fun hb => by cases hb) fun _ => ai_skip ?_
  refine ai_seq (ai_reg ?_)
  refine st rfl ?_
  refine st (v := .agg #[nI d, .slice none 0 0, nI 0, .bool false]) (h' := h) rfl ?_
  refine st (v := ptr h.nx) (h' := h.new ⟨[nI d, .slice none 0 0, nI 0, .bool false], true, 0⟩) rfl ?_
  refine st rfl ?_
  refine ai_ret ?_
  exact end_one rfl ⟨rfl, ⟨by simp [Hp.new], by simp [Hp.new], _, by simp [Hp.new], .inl ⟨rfl, rfl⟩⟩, Ext.new _ _⟩
theorem rnew_no {d : Int} (h : Hp) (hd : d < 0 ∨ 200 < d) : ACall PQ 28 [nI d] h (fun v h' => v = .pointer none ∧ h = h') := by
  refine acall Go.Proofs.Try.func28 c28 (by simp [ir28]) ?_
  unfold ir28
  dsimp only
  refine ai_seq (ai_reg ?_)
  refine st rfl ?_
  refine ai_seq (ai_seq (ai_reg ?_))
  refine st rfl ?_
  by_cases h0 : d < 0
  · refine st_v (v2 := .bool true) rfl (congrArg Value.bool (by simp; omega)) ?_
    refine st rfl ?_
    iterate 2 refine stF rfl rfl ?_
    refine st rfl ?_
    refine ai_cond (b := true) rfl (fun _ => ?_) (fun hb => by cases hb)
    refine ai_seq (ai_reg ?_)
    refine st rfl ?_
    refine ai_ret ?_
    simp only [thenQ_r]
    exact end_one rfl ⟨rfl, rfl⟩
  · refine st_v (v2 := .bool false) rfl (congrArg Value.bool (by simp; omega)) ?_
    refine st rfl ?_
    refine stT rfl rfl rfl ?_
    refine stT (v := .bool true) rfl rfl (o_v rfl (congrArg Value.bool (by simp; omega))) ?_
    refine st rfl ?_
    refine ai_cond (b := true) rfl (fun _ => ?_) (fun hb => by cases hb)
    refine ai_seq (ai_reg ?_)
    refine st rfl ?_
    refine ai_ret ?_
    simp only [thenQ_r]
    exact end_one rfl ⟨rfl, rfl⟩

theorem rput_arg {h : Hp} {q j : Nat} {most last : Int} {p0 : Bool} {l : List (Int × Int)} (a : RQ h q j most last p0 l) {id t : Int} (hb : id < 0 ∨ (p0 = true ∧ t < last)) : ACall PQ 29 [ptr q, nI id, nI t] h (fun v h' => v = nI 1 ∧ h = h') := by
  obtain ⟨_, _, s, hg, _⟩ := a
  refine acall Go.Proofs.Try.func29 c29 (by simp [ir29]) ?_
  unfold ir29
  dsimp only
  refine ai_seq (ai_reg ?_)
  refine st rfl ?_
  refine ai_seq (ai_block ?_)
  refine ai_seq (ai_reg ?_)
  refine st rfl ?_
  by_cases h0 : id < 0
  · refine st_v (v2 := .bool true) rfl (congrArg Value.bool (by simp; omega)) ?_
    refine st rfl ?_
    iterate 5 refine stF rfl rfl ?_
    iterate 6 refine stU rfl ?_
    refine stF rfl rfl ?_
    iterate 2 refine st rfl ?_
    refine ai_cond (b := true) rfl (fun _ => ?_) (fun hb => by cases hb)
    refine ai_seq (ai_reg ?_)
    refine st rfl ?_
    refine ai_ret ?_
    simp only [thenQ_r, blockQ_r]
    exact end_one rfl ⟨rfl, rfl⟩
  · obtain ⟨rfl, ht⟩ : p0 = true ∧ t < last := hb.resolve_left h0
    refine st_v (v2 := .bool false) rfl (congrArg Value.bool (by simp; omega)) ?_
    refine st rfl ?_
    iterate 3 refine stT rfl rfl rfl ?_
    refine stT rfl rfl (o_ld rfl (rd_f hg rfl)) ?_
    iterate 5 refine stT rfl rfl rfl ?_
    refine stT rfl rfl (o_ld rfl (rd_f hg rfl)) ?_
    refine stT (v := .bool true) rfl rfl (o_v rfl (congrArg Value.bool (by simp; omega))) ?_
    refine stT rfl rfl rfl ?_
    iterate 2 refine st rfl ?_
    refine ai_cond (b := true) rfl (fun _ => ?_) (fun hb => by cases hb)
    refine ai_seq (ai_reg ?_)
    refine st rfl ?_
    refine ai_ret ?_
    simp only [thenQ_r, blockQ_r]
    exact end_one rfl ⟨rfl, rfl⟩
end Go.Proofs.YtcdfoicebcmlaaaW.Am
