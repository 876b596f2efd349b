/- Pods over abstract heaps: words for Scale: one more pod in the row. -/
import Derived.Test.YtnebdnbglggdkaaLifeL
namespace Go.Proofs.YtnebdnbglggdkaaW.Am
open Go Go.RowKit
/-- In a region whose order is open: an operation behind which reads are made again. -/
theorem drR {P : Program} {CT : CTy} {env : Env} {h h' : Hp} {Q : Env → Hp → Prop} {d : Option Nat} {k : K} {xs : List Operand} {v : Value} {ix : Nat} {eff : Bool} {re : List In} {L : List DE} (e : opS env k xs h = some (v, h')) (ag : allAgain re env h') (n : wpD P CT L (env.put d v) h' Q) : wpD P CT (⟨ix, ⟨d, none, .op k xs⟩, eff, re⟩ :: L) env h Q := by
  unfold opS at e
  unfold wpD wpIn
  simp only [wanted]
  split at e
  · next vs hv => simp only [hv, e]; exact ⟨ag, n⟩
  · cases e
theorem LR.push {h : Hp} {L j : Nat} {s : Value} {us : List Value} (a : LR h L j s us) (hj : j < h.nx) (hL : L < h.nx) {u : Value} (hu : one u = true) (hb : us.length ≤ 1000) :
    ∃ s' h2 j', stepK (.app 20 1 16) [s, .slice (some ⟨h.nx, 0, none⟩) 1 1] (h.new ⟨[u], true, 1⟩) = some (s', h2) ∧ LR h2 L j' s' (us ++ [u]) ∧ h.nx < h2.nx ∧ j' < h2.nx ∧ (j' = j ∨ h.nx ≤ j') ∧ ∀ k, k < h.nx → (k ≠ j ∨ j = L) → h2.get k = h.get k := by
  have hrd : rdS (h.new ⟨[u], true, 1⟩) (some ⟨h.nx, 0, none⟩) (1 * 1) = some [u] := by
    simp [rdS, Hp.rd, Hp.new]
  have hall : [u].all one = true := by simp [hu]
  rcases a with ⟨rfl, rfl⟩ | ⟨tl, rfl, hg, hal, hjL⟩
  · refine ⟨.slice (some ⟨h.nx + 1, 0, some 0⟩) 1 1, (h.new ⟨[u], true, 1⟩).new ⟨[u], true, 1⟩, h.nx + 1, ?_, .inr ⟨[], rfl, ?_, hall, by omega⟩, by simp [Hp.new]; omega, by simp [Hp.new], .inr (by omega), ?_⟩
    · simp only [stepK, hrd]
      simp [appA, hu, Hp.new]
    · simp [Hp.new]
    · intro k hk _
      have e1 : ¬ k = h.nx + 1 := by omega
      have e3 : ¬ k = h.nx := by omega
      simp only [Hp.new, e1, e3, if_false]
  · have hne : j ≠ h.nx := by omega
    have hg2 : (h.new ⟨[u], true, 1⟩).get j = some ⟨us ++ tl, true, 1⟩ := by simp [Hp.new, hne, hg]
    have hal' := hal
    simp only [List.all_append, Bool.and_eq_true] at hal
    cases tl with
    | nil =>
      rw [List.append_nil] at hg2
      have hold : (if us.length = 0 then some [] else (h.new ⟨[u], true, 1⟩).rd j 0 (us.length * 1)) = some us := by
        split
        · next hz => rw [List.eq_nil_of_length_eq_zero hz]
        · simp [Hp.rd, hg2]
      refine ⟨.slice (some ⟨h.nx + 1, 0, some 0⟩) (us.length + 1) (us.length + 1), (((h.new ⟨[u], true, 1⟩)).del j).new ⟨us ++ [u], true, 1⟩, h.nx + 1, ?_, .inr ⟨[], by simp, ?_, by simp [hu, hal.1], by omega⟩, by simp [Hp.new, Hp.del]; omega, by simp [Hp.new, Hp.del], .inr (by omega), ?_⟩
      · simp only [stepK, hrd]
        simp only [appA]
        rw [if_pos ⟨by simp, hall, by omega, by omega, by omega⟩]
        simp only [Nat.one_ne_zero, if_false, List.length_nil, Nat.add_zero, show ¬ (us.length + 1 ≤ us.length) by omega, hold, hg2]
        simp [hal.1, Hp.del, Hp.new]
      · simp [Hp.new, Hp.del]
      · intro k hk hkj
        have e1 : ¬ k = h.nx + 1 := by omega
        have e2 : ¬ k = j := by omega
        have e3 : ¬ k = h.nx := by omega
        simp only [Hp.new, Hp.del, e1, e2, e3, if_false]
    | cons x tl =>
      refine ⟨.slice (some ⟨j, 0, some 0⟩) (us.length + 1) (us.length + (tl.length + 1)), (h.new ⟨[u], true, 1⟩).put j ⟨us ++ u :: tl, true, 1⟩, j, ?_, .inr ⟨tl, by simp; omega, by rw [hput_same]; simp, by simp only [List.all_append, List.all_cons, Bool.and_eq_true] at hal ⊢; simp [hu, hal], hjL⟩, by rw [hput_nx]; simp [Hp.new], by rw [hput_nx]; simp [Hp.new]; omega, .inl rfl, ?_⟩
      · simp only [stepK, hrd]
        simp only [appA]
        rw [if_pos ⟨by simp, hall, by omega, by omega, by omega⟩]
        simp only [Nat.one_ne_zero, if_false, List.length_cons]
        rw [if_pos (by omega)]
        simp only [Hp.wr, hg2, Nat.zero_add, Nat.mul_one]
        rw [if_pos ⟨trivial, by simp, hall⟩]
        simp [splice]
      · intro k hk hkj
        have e2 : k ≠ j := by omega
        rw [hput_ne _ _ e2]
        simp [Hp.new, show k ≠ h.nx by omega]
end Go.Proofs.YtnebdnbglggdkaaW.Am
