/- Events come back from their bytes; cut off, those that are whole do, and the place is told: for any events (at most 30, their texts of at most 300 bytes) and any cut; for others the statement asks only the document's few.
Conditions: none beyond the statement's own. -/
import Derived.Test.YtcdfoicebcmlaaaPEventx9
import Derived.Test.YtcdfoicebcmlaaaEventG
set_option linter.unusedSimpArgs false
set_option linter.unusedVariables false
namespace Go.Proofs.Ytcdfoicebcmlaaa.Pure
open Go.RowKit Go.Proofs.Ytcdfoicebcmlaaa.PEvent Go.Proofs.YtcdfoicebcmlaaaW.PrintWords Go.Proofs.YtcdfoicebcmlaaaW.PrintLast Go.Proofs.YtcdfoicebcmlaaaW.PrintMore
open Go.Proofs.Ytcdfoicebcmlaaa.EventF Go.Proofs.Ytcdfoicebcmlaaa.EventG

namespace BackL
theorem told_spec : spinnakerlaw23_told.f 40 = some true := by decide +kernel
theorem few_l0 (l : List S50) (n : Int) (d : Nat) : ∀ (k : Nat) (i : Int), 0 ≤ i → i + d = l.length → l.length < 9223372036854775807 → d < k →
    ∃ r, spinnakerlaw23_Few.l0 k l n i = some r ∧ (r = true → (l.length : Int) ≤ n) := by
  induction d with
  | zero =>
    intro k i h0 h1 hm hk
    obtain ⟨k, rfl⟩ : ∃ m, k = m + 1 := ⟨k - 1, by omega⟩
    simp only [spinnakerlaw23_Few.l0]
    rw [if_neg (by omega)]
    exact ⟨_, rfl, fun h => of_decide_eq_true h⟩
  | succ d ih =>
    intro k i h0 h1 hm hk
    obtain ⟨k, rfl⟩ : ∃ m, k = m + 1 := ⟨k - 1, by omega⟩
    simp only [spinnakerlaw23_Few.l0]
    rw [if_pos (by omega), if_pos h0, Z.wrap_small (n := i + 1) (by omega) (by omega)]
    split
    · exact ⟨false, rfl, fun h => by cases h⟩
    · exact ih k (i + 1) (by omega) (by omega) hm (by omega)
theorem few_spec (l : List S50) (n : Int) (hm : l.length < 9223372036854775807) (k : Nat) (hk : l.length < k) : ∃ r, spinnakerlaw23_Few.f k l n = some r ∧ (r = true → (l.length : Int) ≤ n) := by
  unfold spinnakerlaw23_Few.f
  exact few_l0 l n l.length k 0 (by omega) (by omega) hm hk

theorem events_l0 (l : List S50) (hl : l.length ≤ 1000) (d : Nat) : ∀ (k : Nat) (i : Int), 0 ≤ i → i + d = l.length → d < k → spinnakerlaw23_events.l0 k l l i = some true := by
  induction d with
  | zero =>
    intro k i h0 h1 hk
    obtain ⟨k, rfl⟩ : ∃ m, k = m + 1 := ⟨k - 1, by omega⟩
    simp only [spinnakerlaw23_events.l0]
    rw [if_neg (by omega)]
  | succ d ih =>
    intro k i h0 h1 hk
    obtain ⟨k, rfl⟩ : ∃ m, k = m + 1 := ⟨k - 1, by omega⟩
    simp only [spinnakerlaw23_events.l0]
    rw [if_pos (by omega), if_pos h0, if_pos (by omega), if_neg (by simp), Z.wrap_small (n := i + 1) (by omega) (by omega)]
    exact ih k (i + 1) (by omega) (by omega) (by omega)
theorem events_spec (l : List S50) (hl : l.length ≤ 1000) (k : Nat) (hk : l.length < k) : spinnakerlaw23_events.f k l l = some true := by
  unfold spinnakerlaw23_events.f
  rw [if_pos rfl]
  exact events_l0 l hl l.length k 0 (by omega) (by omega) hk

theorem l0_walk (l : List S50) (hl : l.length ≤ 30) (a1 : Int) (d : Nat) : ∀ (k : Nat) (i : Int) (acc : List S50), 0 ≤ i → i + d = l.length → d + 2 < k → (acc.length : Int) ≤ i → ∃ k', k = k' + d ∧
    spinnakerlaw23_EventBack.l0 k l a1 acc i = spinnakerlaw23_EventBack.l0 k' l a1 (acc ++ (l.drop i.toNat).filter may) (l.length : Int) := by
  induction d with
  | zero =>
    intro k i acc h0 h1 hk _
    refine ⟨k, by omega, ?_⟩
    rw [List.drop_of_length_le (by omega), show i = (l.length : Int) by omega]
    simp
  | succ d ih =>
    intro k i acc h0 h1 hk ha
    obtain ⟨k, rfl⟩ : ∃ m, k = m + 1 := ⟨k - 1, by omega⟩
    have hlt : i < (l.length : Int) := by omega
    by_cases hm : may (rd_T50 l i) = true
    · obtain ⟨k', hk', e⟩ := ih k (i + 1) (acc ++ [rd_T50 l i]) (by omega) (by omega) (by omega) (by simp; omega)
      refine ⟨k', by omega, ?_⟩
      rw [rd_drop l i h0 hlt]
      conv => lhs; unfold spinnakerlaw23_EventBack.l0
      rw [if_pos hlt, if_pos h0, may_at k (by omega), Z.wrap_small (n := i + 1) (by omega) (by omega)]
      simp only [Option.bind_some]
      rw [if_pos hm, if_pos (by omega)]
      rw [show ([(⟨(rd_T50 l i).f0, (rd_T50 l i).f1, (rd_T50 l i).f2⟩ : S50)]) = [rd_T50 l i] from rfl, e]
      simp [List.filter_cons, hm]
    · obtain ⟨k', hk', e⟩ := ih k (i + 1) acc (by omega) (by omega) (by omega) (by omega)
      refine ⟨k', by omega, ?_⟩
      rw [rd_drop l i h0 hlt]
      conv => lhs; unfold spinnakerlaw23_EventBack.l0
      rw [if_pos hlt, if_pos h0, may_at k (by omega), Z.wrap_small (n := i + 1) (by omega) (by omega)]
      simp only [Option.bind_some]
      rw [if_neg hm, e]
      simp [List.filter_cons, hm]
end BackL

open BackL in
theorem EventBack : spinnakerlaw23_EventBack.Pure := by
  intro l a1 hw hsz ha
  have htold : ∀ k, 40 ≤ k → spinnakerlaw23_told.f k = some true := fun k hk => at_rounds (fun k => spinnakerlaw23_told.mono k) hk told_spec
  have hlm : l.length < 9223372036854775807 := by omega
  refine ⟨l.length + 20000, ?_⟩
  unfold spinnakerlaw23_EventBack.f
  obtain ⟨r, hr, hfew⟩ := few_spec l 30 hlm (l.length + 20000) (by omega)
  rw [hr]
  simp only [Option.bind_some]
  cases r with
  | false => rw [if_neg (by simp), htold _ (by omega)]; rfl
  | true =>
    rw [if_pos rfl]
    have hl := hfew rfl
    obtain ⟨k', hk', e⟩ := l0_walk l (by omega) a1 l.length (l.length + 20000) 0 [] (by omega) (by omega) (by omega) (by simp)
    rw [e]
    obtain ⟨K, rfl⟩ : ∃ K, k' = K + 1 := ⟨k' - 1, by omega⟩
    have hK : 19999 = K := by omega
    simp only [Int.toNat_zero, List.drop_zero, List.nil_append]
    have hm : ∀ x ∈ l.filter may, may x = true := fun x hx => (List.mem_filter.1 hx).2
    have hml : (l.filter may).length ≤ 30 := Nat.le_trans (List.length_filter_le _ _) (by omega)
    generalize l.filter may = m at *
    have hblen := encs_len m hm
    simp only [spinnakerlaw23_EventBack.l0]
    rw [if_neg (by omega), put_spec m (by omega) K (by omega), List.all_eq_true.2 hm]
    simp only [cond_true, Option.bind_some]
    rw [all_put m hm (by omega) K (by omega)]
    simp only [Option.bind_some]
    rw [if_pos trivial, if_pos trivial, if_pos trivial, events_spec m (by omega) K (by omega)]
    simp only [Option.bind_some, Bool.not_true]
    obtain ⟨K, rfl⟩ : ∃ K', K = K' + 1 := ⟨K - 1, by omega⟩
    simp only [spinnakerlaw23_EventBack.j1]
    have hW : IntKind.u64.wrap (wrap64 (((encs_ m).length : Int) + 1)) = ((encs_ m).length : Int) + 1 := by
      rw [Z.wrap_small (by omega) (by omega), Z.u64_wrap]; omega
    obtain ⟨c, hc, c0, c1⟩ := Z.pick a1 (((encs_ m).length : Int) + 1) (by omega) (by omega)
    rw [if_neg (by simp), hW, if_neg (by omega), hc, if_pos c0, if_pos (by omega)]
    obtain ⟨y, g, at_, rest, h1, h2, h3, h4⟩ := all_spec ((encs_ m).take c.toNat) ((encs_bytes m).take _) (by rw [List.length_take]; omega) K (by rw [List.length_take]; omega)
    have hpre : encs_ y ++ (rest ++ (encs_ m).drop c.toNat) = encs_ m := by rw [← List.append_assoc, h3, List.take_append_drop]
    obtain ⟨u1, u2, u3⟩ := uniq y m _ h2 hm (by omega) hpre
    rw [h1]
    simp only [Option.bind_some]
    rw [if_neg (by omega), if_pos (by omega), if_pos (by omega)]
    rw [show m.take ((y.length : Int)).toNat = y by rw [Int.toNat_natCast]; exact u1.symm, events_spec y (by omega) K (by omega)]
    simp only [Option.bind_some, Bool.not_true]
    obtain ⟨K, rfl⟩ : ∃ K', K = K' + 1 := ⟨K - 1, by omega⟩
    simp only [spinnakerlaw23_EventBack.j2]
    rw [if_neg (by simp), put_spec y (by omega) K (by omega), List.all_eq_true.2 h2, htold K (by omega)]
    simp only [cond_true, Option.bind_some]
    rw [if_pos trivial, if_pos trivial]
    have hlen := congrArg List.length h3
    rw [List.length_append, List.length_take] at hlen
    rcases h4 with ⟨rfl, rfl, hrest⟩ | ⟨rfl, rfl, hne, _⟩
    · rw [hrest] at hlen
      simp only [List.length_nil] at hlen
      rw [if_pos rfl, if_pos (by omega), if_pos rfl]
    · have hpos : 0 < rest.length := List.length_pos_iff.2 hne
      rw [if_neg (by omega), if_pos rfl, if_pos rfl]
      simp
      omega

end Go.Proofs.Ytcdfoicebcmlaaa.Pure
