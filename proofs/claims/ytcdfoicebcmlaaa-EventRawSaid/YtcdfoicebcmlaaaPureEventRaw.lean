/- Bytes that are read are the only ones of their events; where it ends is where the next one would begin: for any bytes (at most 200); for more the statement asks only the document's few.
Conditions: none beyond the statement's own. -/
import Derived.Test.YtcdfoicebcmlaaaPEvRawx
import Derived.Test.YtcdfoicebcmlaaaEventGR
set_option linter.unusedSimpArgs false
set_option linter.unusedVariables false
namespace Go.Proofs.Ytcdfoicebcmlaaa.Pure
open Go.RowKit Go.Proofs.Ytcdfoicebcmlaaa.PEvRaw Go.Proofs.YtcdfoicebcmlaaaW.PrintWords Go.Proofs.YtcdfoicebcmlaaaW.PrintLast Go.Proofs.YtcdfoicebcmlaaaW.PrintMore
open Go.Proofs.Ytcdfoicebcmlaaa.EventFR Go.Proofs.Ytcdfoicebcmlaaa.EventGR

namespace EvRawL
theorem told_spec : spinnakerlaw23_told.f 40 = some true := by decide +kernel
theorem loop_ok (b : List Int) (l : List S50) (c at_ : Int) (hl : l.length ≤ 1000) (hm : ∀ e ∈ l, may e = true)
    (h : (c = 0 ∧ at_ = 0 ∧ (encs_ l).length = b.length) ∨ (c = 4 ∧ at_ = (encs_ l).length ∧ (encs_ l).length < b.length)) (d : Nat) :
    ∀ (k : Nat) (i : Int), 0 ≤ i → i + d = l.length → d + 50 ≤ k → spinnakerlaw23_EventRaw.l0 k b l c at_ (encs_ l) i = some true := by
  induction d with
  | zero =>
    intro k i h0 h1 hk
    obtain ⟨k, rfl⟩ : ∃ m, k = m + 1 := ⟨k - 1, by omega⟩
    simp only [spinnakerlaw23_EventRaw.l0]
    rw [if_neg (by omega), at_rounds (fun k => spinnakerlaw23_told.mono k) (by omega) told_spec]
    simp only [Option.bind_some, if_true]
    rcases h with ⟨rfl, rfl, hz⟩ | ⟨rfl, hat, hz⟩
    · rw [if_pos rfl, if_pos rfl, if_pos (by omega)]
    · rw [if_neg (by decide), if_pos rfl, if_pos hat, decide_eq_true (by omega)]
  | succ d ih =>
    intro k i h0 h1 hk
    obtain ⟨k, rfl⟩ : ∃ m, k = m + 1 := ⟨k - 1, by omega⟩
    simp only [spinnakerlaw23_EventRaw.l0]
    have hmem : may (rd_T50 l i) = true := by
      have := rd_drop l i h0 (by omega)
      exact hm _ (List.mem_of_mem_drop (this ▸ List.mem_cons_self))
    rw [if_pos (by omega), if_pos h0, may_at k (by omega), hmem]
    simp only [Option.bind_some, if_true]
    rw [Z.wrap_small (n := i + 1) (by omega) (by omega)]
    exact ih k (i + 1) (by omega) (by omega) (by omega)
end EvRawL
open EvRawL in
theorem EventRaw : spinnakerlaw23_EventRaw.Pure := by
  intro b hb0 _ hb1
  refine ⟨3000, ?_⟩
  unfold spinnakerlaw23_EventRaw.f
  by_cases hl : (b.length : Int) > 200
  · rw [if_pos hl, at_rounds (fun k => spinnakerlaw23_told.mono k) (by omega) told_spec]
    rfl
  · rw [if_neg hl]
    have hb : Bytes b := by
      intro x hx
      have := hb1 x hx
      simp [Lit.wf] at this
      exact ⟨Int.le_trans (by decide) this.1, Int.le_trans this.2 (by decide)⟩
    obtain ⟨l, c, at_, rest, h1, h2, h3, h4⟩ := all_spec b hb (by omega) 3000 (by omega)
    have hlen := congrArg List.length h3
    rw [List.length_append] at hlen
    have hml : l.length ≤ (encs_ l).length := by
      clear h1 h3 h4 hlen
      induction l with
      | nil => simp
      | cons e m ih =>
        have := enc_len (h2 e (by simp))
        have := ih (fun x hx => h2 x (by simp [hx]))
        simp [encs_] at *
        omega
    have hall : l.all may = true := List.all_eq_true.2 h2
    rw [h1]
    simp only [Option.bind_some]
    rw [put_spec l (by omega) 3000 (by omega), hall]
    simp only [cond_true, Option.bind_some, if_true]
    have ht : b.take ((encs_ l).length : Int).toNat = encs_ l := by
      rw [show ((encs_ l).length : Int).toNat = (encs_ l).length by omega, ← h3, List.take_left]
    rw [if_neg (by omega), if_pos (by omega), if_pos (by omega), ht]
    rw [show ((strOfNums (encs_ l)).toList != (strOfNums (encs_ l)).toList) = false by simp]
    show spinnakerlaw23_EventRaw.j0 (2999 + 1) b l c at_ (encs_ l) false = some true
    simp only [spinnakerlaw23_EventRaw.j0]
    rw [if_neg (by decide)]
    refine loop_ok b l c at_ (by omega) h2 ?_ l.length 2999 0 (by omega) (by omega) (by omega)
    rcases h4 with ⟨rfl, rfl, rfl⟩ | ⟨rfl, hat, hne, _⟩
    · exact .inl ⟨rfl, rfl, by simpa using hlen⟩
    · refine .inr ⟨rfl, hat, ?_⟩
      have := List.length_pos_iff.2 hne
      omega
end Go.Proofs.Ytcdfoicebcmlaaa.Pure
