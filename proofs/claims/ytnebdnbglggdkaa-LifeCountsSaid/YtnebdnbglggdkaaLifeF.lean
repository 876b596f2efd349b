/- Pods over abstract heaps: slices.Delete of one. -/
import Derived.Test.YtnebdnbglggdkaaLifeE
namespace Go.Proofs.YtnebdnbglggdkaaW.Am
open Go Go.RowKit
theorem slc_lhm {j n c : Nat} {h : Hp} {l u m : Nat} (h1 : l ≤ u) (h2 : u ≤ m) (h3 : m ≤ c) : ∃ v, stepK (.slc 1 true true true) [.slice (some ⟨j, 0, some 0⟩) n c, nI l, nI u, nI m] h = some (v, h) := by
  have e1 : (m : Int) ≤ c := by omega
  have e2 : (u : Int) ≤ m := by omega
  have e3 : (l : Int) ≤ u := by omega
  simp [stepK, get3, takeB, sliceA, bounds, bnd, e1, e2, e3]
theorem slc_h {j n c : Nat} {h : Hp} {u : Nat} (h2 : u ≤ c) (h3 : 0 < c) : stepK (.slc 1 false true false) [.slice (some ⟨j, 0, some 0⟩) n c, nI u] h = some (.slice (some ⟨j, 0, some 0⟩) u c, h) := by
  have e2 : (u : Int) ≤ c := by omega
  have e0 : c ≠ 0 := by omega
  simp [stepK, get3, takeB, sliceA, bounds, bnd, e2, e0]
theorem slc_l {j n c : Nat} {h : Hp} {l : Nat} (h1 : l ≤ n) (h2 : n ≤ c) : stepK (.slc 1 true false false) [.slice (some ⟨j, 0, some 0⟩) n c, nI l] h = some (.slice (some ⟨j, l, some (if c = l then 1 else 0)⟩) (n - l) (c - l), h) := by
  have e1 : (l : Int) ≤ n := by omega
  have e2 : ¬ c < n := by omega
  simp [stepK, get3, takeB, sliceA, bounds, bnd, e1, e2]
theorem slc_lh {j n c : Nat} {h : Hp} {l u : Nat} (h1 : l ≤ u) (h2 : u ≤ c) : stepK (.slc 1 true true false) [.slice (some ⟨j, 0, some 0⟩) n c, nI l, nI u] h = some (.slice (some ⟨j, l, some (if c = l then 1 else 0)⟩) (u - l) (c - l), h) := by
  have e1 : (l : Int) ≤ u := by omega
  have e2 : (u : Int) ≤ c := by omega
  simp [stepK, get3, takeB, sliceA, bounds, bnd, e1, e2]
theorem splice_eq (vs : List Value) : ∀ (cs : List Value) (o : Nat), o + vs.length ≤ cs.length → splice cs o vs = cs.take o ++ vs ++ cs.drop (o + vs.length) := by
  induction vs with
  | nil => intro cs o _; simp [splice]
  | cons v r ih =>
    intro cs o h
    rw [List.length_cons] at h
    simp only [splice]
    rw [ih _ _ (by rw [List.length_set]; omega), List.set_eq_take_append_cons_drop, if_pos (by omega)]
    have hl : (cs.take o).length = o := by rw [List.length_take]; omega
    have e1 : (cs.take o ++ v :: cs.drop (o + 1)).take (o + 1) = cs.take o ++ [v] := by
      rw [List.take_append, hl, List.take_of_length_le (by omega), show o + 1 - o = 1 by omega]
      rfl
    have e2 : (cs.take o ++ v :: cs.drop (o + 1)).drop (o + 1 + r.length) = cs.drop (o + (r.length + 1)) := by
      rw [List.drop_append, hl, List.drop_eq_nil_of_le (by omega), List.nil_append, show o + 1 + r.length - o = r.length + 1 by omega, List.drop_succ_cons, List.drop_drop]
      congr 1
      omega
    rw [e1, e2, List.length_cons]
    simp
theorem del_app {h : Hp} {j i c : Nat} {us tl : List Value} (hg : h.get j = some ⟨us ++ tl, true, 1⟩) (ha : (us ++ tl).all one = true) (hc : c = us.length + tl.length) (hi : i < us.length) (hb : us.length ≤ 1000) :
    ∃ h2, stepK (.app 20 1 16) [.slice (some ⟨j, 0, some 0⟩) i c, .slice (some ⟨j, i + 1, some (if c = i + 1 then 1 else 0)⟩) (us.length - (i + 1)) (c - (i + 1))] h = some (.slice (some ⟨j, 0, some 0⟩) (us.length - 1) c, h2) ∧
      h2.get j = some ⟨us.take i ++ us.drop (i + 1) ++ (us ++ tl).drop (us.length - 1), true, 1⟩ ∧ h2.nx = h.nx ∧ ∀ k, k ≠ j → h2.get k = h.get k := by
  have hal : us.all one = true := by simp only [List.all_append, Bool.and_eq_true] at ha; exact ha.1
  by_cases hz : us.length - (i + 1) = 0
  · refine ⟨h, ?_, ?_, rfl, fun _ _ => rfl⟩
    · have e : us.length - 1 = i := by omega
      simp only [stepK, rdS, hz, Nat.zero_mul, if_true]
      simp only [appA]
      rw [if_pos ⟨rfl, rfl, by omega, by omega, by omega⟩]
      simp only [if_true, e]
      rw [if_pos (by omega)]
    · have e : us.length - 1 = i := by omega
      rw [hg, e, List.drop_eq_nil_of_le (by omega : us.length ≤ i + 1), List.append_nil, List.drop_append_of_le_length (by omega), ← List.append_assoc, List.take_append_drop]
  · have hs : (if c = i + 1 then 1 else 0) = 0 := if_neg (by omega)
    have hr : h.rd j (i + 1) ((us.length - (i + 1)) * 1) = some (us.drop (i + 1)) := by
      unfold Hp.rd
      simp only [hg]
      rw [if_pos (by simp; omega), List.drop_append_of_le_length (by omega), List.take_append_of_le_length (by simp), List.take_of_length_le (by simp)]
    have hal2 : (us.drop (i + 1)).all one = true := by
      rw [List.all_eq_true] at hal ⊢
      exact fun x hx => hal x (List.mem_of_mem_drop hx)
    refine ⟨h.put j ⟨splice (us ++ tl) i (us.drop (i + 1)), true, 1⟩, ?_, ?_, rfl, fun k hk => hput_ne _ _ hk⟩
    · simp only [stepK, rdS, hs, Option.getD_some, if_true]
      rw [if_neg (by omega), hr]
      simp only [appA]
      rw [if_pos ⟨by simp, hal2, by omega, by omega, by omega⟩]
      simp only [hz, if_false]
      rw [if_pos (by omega)]
      simp only [Hp.wr, hg, Nat.zero_add, Nat.mul_one]
      rw [if_pos ⟨trivial, by simp; omega, hal2⟩]
      simp only [Option.map_some]
      rw [show i + (us.length - (i + 1)) = us.length - 1 by omega]
    · rw [hput_same]
      congr 2
      rw [splice_eq _ _ _ (by simp; omega), List.take_append_of_le_length (by omega), List.length_drop, show i + (us.length - (i + 1)) = us.length - 1 by omega]
theorem del_clr {h : Hp} {j n m : Nat} {sp : Option Nat} {A tl : List Value} {x : Value} (hg : h.get j = some ⟨A ++ x :: tl, true, 1⟩) (hn : n = A.length) : stepK (.clr 1 .nilIface) [.slice (some ⟨j, n, sp⟩) 1 m] h = some (.tuple #[], h.put j ⟨A ++ .nilIface :: tl, true, 1⟩) := by
  subst hn
  have e : (Builtin.zeroCells (Value.nilIface).cells 1).toList = [.nilIface] := by simp [Builtin.zeroCells, Value.cells]
  have e2 : (Value.nilIface).cells.size = 1 := rfl
  simp only [stepK, Nat.one_ne_zero, if_false, e2, if_true, e, Hp.wr, hg]
  rw [if_pos ⟨trivial, by simp, rfl⟩]
  simp [splice]
end Go.Proofs.YtnebdnbglggdkaaW.Am
