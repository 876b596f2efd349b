/- A queue over abstract heaps: what it is in memory, and what Put, Take, Depth, New do with it. -/
import Derived.Test.YtcdfoicebcmlaaaAmV
import Derived.Test.YtcdfoicebcmlaaaIrQ
namespace Go.Proofs.YtcdfoicebcmlaaaW.Am
open Go Go.RowKit
noncomputable abbrev PQ := Go.Proofs.Try.prog
abbrev nI : Int → Value := Value.int .i64
abbrev ptr (q : Nat) : Value := .pointer (some ⟨q, 0, none⟩)

theorem rd_f {h : Hp} {i : Nat} {us : List Value} {b : Bool} {e : Nat} (hg : h.get i = some ⟨us, b, e⟩) {x : Nat} {v : Value} (hx : us[x]? = some v) : h.rd i (0 + x) 1 = some [v] := by
  have hl := (List.getElem?_eq_some_iff.1 hx).1
  unfold Hp.rd
  simp only [hg, Nat.zero_add]
  rw [if_pos (by omega), List.drop_eq_getElem_cons hl]
  rw [List.getElem?_eq_getElem hl] at hx
  cases hx
  rfl
theorem wr_f {h : Hp} {i : Nat} {us : List Value} {e : Nat} (hg : h.get i = some ⟨us, true, e⟩) {x : Nat} (hx : x < us.length) {v : Value} (hv : one v = true) : h.wr i (0 + x) [v] = some (h.put i ⟨us.set x v, true, e⟩) := by
  unfold Hp.wr
  simp only [hg, Nat.zero_add]
  rw [if_pos ⟨trivial, by simp; omega, by simp [hv]⟩]
  rfl
theorem hput_same (h : Hp) (i : Nat) (o : Ob) : (h.put i o).get i = some o := by simp [Hp.put]
theorem hput_ne (h : Hp) {i j : Nat} (o : Ob) (hij : j ≠ i) : (h.put i o).get j = h.get j := by simp [Hp.put, hij]
theorem hput_nx (h : Hp) (i : Nat) (o : Ob) : (h.put i o).nx = h.nx := rfl

/-- One that waits. -/
def qE (p : Int × Int) : Value := .iface 84 (.agg #[nI p.1, nI p.2])
theorem qE_one (p : Int × Int) : one (qE p) = true := rfl
/-- The row of those that wait. -/
def QS (h : Hp) (q j : Nat) (s : Value) (us : List Value) : Prop :=
  (s = .slice none 0 0 ∧ us = []) ∨ ∃ xs sp, s = .slice (some ⟨j, xs.length, some sp⟩) us.length us.length ∧ h.get j = some ⟨xs ++ us, true, 1⟩ ∧ (us ≠ [] → sp = 0) ∧ (xs ++ us).all one = true ∧ j ≠ q
structure QA (h : Hp) (q j : Nat) (depth last : Int) (l : List (Int × Int)) : Prop where
  ql : q < h.nx
  jl : j < h.nx
  ex : ∃ s, h.get q = some ⟨[s, nI depth, nI last], true, 0⟩ ∧ QS h q j s (l.map qE)
/-- What turns: the queue and its row alone. -/
def Mod (q j : Nat) (h h' : Hp) : Prop := h.nx ≤ h'.nx ∧ ∀ k, k < h.nx → k ≠ q → k ≠ j → h'.get k = h.get k
theorem Mod.refl (q j : Nat) (h : Hp) : Mod q j h h := ⟨Nat.le_refl _, fun _ _ _ _ => rfl⟩

theorem QS.push {h : Hp} {q j e bytes : Nat} {s : Value} {us : List Value} (a : QS h q j s us) (hj : j < h.nx) (hq : q < h.nx) {u : Value} (hu : one u = true) (hb : us.length ≤ 1000) (hby : bytes ≤ 100) :
    ∃ s' h2, stepK (.app e 1 bytes) [s, .slice (some ⟨h.nx, 0, none⟩) 1 1] (h.new ⟨[u], true, 1⟩) = some (s', h2) ∧ QS h2 q (h.nx + 1) s' (us ++ [u]) ∧ h2.nx = h.nx + 2 ∧ ∀ k, k < h.nx → (k ≠ j ∨ j = q) → h2.get k = h.get k := by
  have hrd : rdS (h.new ⟨[u], true, 1⟩) (some ⟨h.nx, 0, none⟩) (1 * 1) = some [u] := by
    simp [rdS, Hp.rd, Hp.new]
  have hall : [u].all one = true := by simp [hu]
  rcases a with ⟨rfl, rfl⟩ | ⟨xs, sp, rfl, hg, hsp, hal, hjq⟩
  · refine ⟨.slice (some ⟨h.nx + 1, 0, some 0⟩) 1 1, (h.new ⟨[u], true, 1⟩).new ⟨[u], true, 1⟩, ?_, .inr ⟨[], 0, rfl, ?_, fun _ => rfl, hall, by omega⟩, by simp [Hp.new], ?_⟩
    · simp only [stepK, hrd]
      have : bytes ≤ 140737488355328 := by omega
      simp [appA, hu, Hp.new, this]
    · simp [Hp.new]
    · intro k hk _
      have e1 : ¬ k = h.nx + 1 := by omega
      have e3 : ¬ k = h.nx := by omega
      simp only [Hp.new, e1, e3, if_false]
  · have hne : j ≠ h.nx := by omega
    have hg2 : (h.new ⟨[u], true, 1⟩).get j = some ⟨xs ++ us, true, 1⟩ := by simp [Hp.new, hne, hg]
    have hold : (if us.length = 0 then some [] else (h.new ⟨[u], true, 1⟩).rd j xs.length (us.length * 1)) = some us := by
      split
      · next hz => rw [List.eq_nil_of_length_eq_zero hz]
      · simp [Hp.rd, hg2]
    simp only [List.all_append, Bool.and_eq_true] at hal
    refine ⟨.slice (some ⟨h.nx + 1, 0, some 0⟩) (us.length + 1) (us.length + 1), (((h.new ⟨[u], true, 1⟩)).del j).new ⟨us ++ [u], true, 1⟩, ?_, .inr ⟨[], 0, by simp, ?_, fun _ => rfl, by simp [hu, hal.2], by omega⟩, by simp [Hp.new, Hp.del], ?_⟩
    · simp only [stepK, hrd]
      simp only [appA]
      rw [if_pos ⟨by simp, hall, by omega, Nat.le_trans (Nat.mul_le_mul (show us.length + 1 ≤ 1001 by omega) hby) (by omega), by omega⟩]
      simp only [Nat.one_ne_zero, if_false, show ¬ (us.length + 1 ≤ us.length) by omega, hold, hg2]
      simp [hal.2, Hp.del, Hp.new]
    · simp [Hp.new, Hp.del]
    · intro k hk hkj
      have e1 : ¬ k = h.nx + 1 := by omega
      have e2 : ¬ k = j := by omega
      have e3 : ¬ k = h.nx := by omega
      simp only [Hp.new, Hp.del, e1, e2, e3, if_false]

theorem new_ok {d : Int} (h : Hp) (hd : 0 ≤ d) (hd2 : d ≤ 200) : ACall PQ 22 [nI d] h (fun v h' => v = ptr h.nx ∧ QA h' h.nx h.nx d (-9223372036854775808) [] ∧ Ext h h') := by
  refine acall Go.Proofs.Try.func22 c22 (by simp [ir22]) ?_
  unfold ir22
  dsimp only
  refine ai_seq (ai_reg ?_)
  refine st rfl ?_
  refine ai_seq (ai_seq (ai_reg ?_))
  refine st rfl ?_
  refine st_v (v2 := .bool false) rfl (congrArg Value.bool (by simp; omega)) ?_
  refine st rfl ?_
  refine stT rfl rfl rfl ?_
  refine stT (v := .bool false) rfl rfl (o_v rfl (congrArg Value.bool (by simp; omega))) ?_
  refine st rfl ?_
  refine ai_cond (b := false) rfl (fun hb => by cases hb) fun _ => ai_skip ?_
  refine ai_seq (ai_reg ?_)
  refine st rfl ?_
  refine st (v := .agg #[.slice none 0 0, nI d, nI (-9223372036854775808)]) (h' := h) rfl ?_
  refine st (v := ptr h.nx) (h' := h.new ⟨[.slice none 0 0, nI d, nI (-9223372036854775808)], true, 0⟩) rfl ?_
  refine st rfl ?_
  refine ai_ret ?_
  exact end_one rfl ⟨rfl, ⟨by simp [Hp.new], by simp [Hp.new], _, by simp [Hp.new], .inl ⟨rfl, rfl⟩⟩, Ext.new _ _⟩
theorem new_no {d : Int} (h : Hp) (hd : d < 0 ∨ 200 < d) : ACall PQ 22 [nI d] h (fun v h' => v = .pointer none ∧ h = h') := by
  refine acall Go.Proofs.Try.func22 c22 (by simp [ir22]) ?_
  unfold ir22
  dsimp only
  refine ai_seq (ai_reg ?_)
  refine st rfl ?_
  refine ai_seq (ai_seq (ai_reg ?_))
  refine st rfl ?_
  by_cases h0 : d < 0
  · refine st_v (v2 := .bool true) rfl (congrArg Value.bool (by simp; omega)) ?_
    refine st rfl ?_
    refine stF rfl rfl ?_
    refine stF rfl rfl ?_
    refine st rfl ?_
    refine ai_cond (b := true) rfl (fun _ => ?_) (fun hb => by cases hb)
    refine ai_seq (ai_reg ?_)
    refine st rfl ?_
    refine ai_ret ?_
    simp only [thenQ_r]
    exact end_one rfl ⟨rfl, rfl⟩
  · refine st_v (v2 := .bool false) rfl (congrArg Value.bool (by simp; omega)) ?_
    refine st rfl ?_
    refine stT rfl rfl rfl ?_
    refine stT (v := .bool true) rfl rfl (o_v rfl (congrArg Value.bool (by simp; omega))) ?_
    refine st rfl ?_
    refine ai_cond (b := true) rfl (fun _ => ?_) (fun hb => by cases hb)
    refine ai_seq (ai_reg ?_)
    refine st rfl ?_
    refine ai_ret ?_
    simp only [thenQ_r]
    exact end_one rfl ⟨rfl, rfl⟩

theorem QA.f1 {h : Hp} {q j : Nat} {depth last : Int} {l : List (Int × Int)} (a : QA h q j depth last l) : h.rd q (0 + 1) 1 = some [nI depth] := by
  obtain ⟨_, _, s, hg, _⟩ := a
  exact rd_f hg rfl
theorem QA.f2 {h : Hp} {q j : Nat} {depth last : Int} {l : List (Int × Int)} (a : QA h q j depth last l) : h.rd q (0 + 2) 1 = some [nI last] := by
  obtain ⟨_, _, s, hg, _⟩ := a
  exact rd_f hg rfl

theorem put_nil (h : Hp) (id t : Int) : ACall PQ 23 [.pointer none, nI id, nI t] h (fun v h' => v = nI 8 ∧ h = h') := by
  refine acall Go.Proofs.Try.func23 c23 (by simp [ir23]) ?_
  unfold ir23
  dsimp only
  refine ai_seq (ai_reg ?_)
  refine st rfl ?_
  refine ai_seq (ai_block ?_)
  refine ai_seq (ai_reg ?_)
  iterate 3 refine st rfl ?_
  refine ai_cond (b := true) rfl (fun _ => ?_) (fun hb => by cases hb)
  refine ai_seq (ai_reg ?_)
  refine st rfl ?_
  refine ai_ret ?_
  simp only [thenQ_r, blockQ_r]
  exact end_one rfl ⟨rfl, rfl⟩

theorem put_arg {h : Hp} {q j : Nat} {depth last : Int} {l : List (Int × Int)} (a : QA h q j depth last l) {id t : Int} (hb : id < 0 ∨ t < last) : ACall PQ 23 [ptr q, nI id, nI t] h (fun v h' => v = nI 1 ∧ h = h') := by
  refine acall Go.Proofs.Try.func23 c23 (by simp [ir23]) ?_
  unfold ir23
  dsimp only
  refine ai_seq (ai_reg ?_)
  refine st rfl ?_
  refine ai_seq (ai_block ?_)
  refine ai_seq (ai_reg ?_)
  iterate 3 refine st rfl ?_
  refine ai_cond (b := false) rfl (fun hb => by cases hb) (fun _ => ?_)
  refine ai_seq (ai_reg ?_)
  refine st rfl ?_
  by_cases h0 : id < 0
  · refine st_v (v2 := .bool true) rfl (congrArg Value.bool (by simp; omega)) ?_
    refine st rfl ?_
    iterate 6 refine stF rfl rfl ?_
    iterate 2 refine st rfl ?_
    refine ai_cond (b := true) rfl (fun _ => ?_) (fun hb => by cases hb)
    refine ai_seq (ai_reg ?_)
    refine st rfl ?_
    refine ai_ret ?_
    simp only [thenQ_r, blockQ_r]
    exact end_one rfl ⟨rfl, rfl⟩
  · refine st_v (v2 := .bool false) rfl (congrArg Value.bool (by simp; omega)) ?_
    refine st rfl ?_
    iterate 4 refine stT rfl rfl rfl ?_
    refine stT rfl rfl (o_ld rfl a.f2) ?_
    refine stT (v := .bool true) rfl rfl (o_v rfl (congrArg Value.bool (by simp; omega))) ?_
    iterate 2 refine st rfl ?_
    refine ai_cond (b := true) rfl (fun _ => ?_) (fun hb => by cases hb)
    refine ai_seq (ai_reg ?_)
    refine st rfl ?_
    refine ai_ret ?_
    simp only [thenQ_r, blockQ_r]
    exact end_one rfl ⟨rfl, rfl⟩
end Go.Proofs.YtcdfoicebcmlaaaW.Am
