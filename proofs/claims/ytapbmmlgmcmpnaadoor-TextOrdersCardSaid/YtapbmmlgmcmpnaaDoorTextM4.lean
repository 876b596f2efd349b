/- Texts: the document's own digits. -/
import Derived.Test.YtapbmmlgmcmpnaaDoorTextM3
import Derived.Lib.IndexLaws
import Derived.Lib.IndexBytes
import Derived.Lib.ItoaLen
import Derived.Lib.SplitLaws
import Derived.Lib.TrimByte
import Derived.Shelf.Strings.Builder1
import Derived.Test.YtapbmmlgmcmpnaaDoorProg
import Derived.KernelRfl
namespace Go.Proofs.YtapbmmlgmcmpnaaDoorW.Am
open Go Go.RowKit
section
variable {P : Program} {CT : FuncId → List Value → Hp → (Value → Hp → Prop) → Prop} {d : Option Nat} {xs : List Operand} {env : Env} {h : Hp} {R : Value → Hp → Prop}
theorem w_ixs {l : List UInt8} {i : Nat} {k : IntKind} {b : UInt8} (e : mapF env xs = some [bs l, .int k (i : Int)]) (hb : l[i]? = some b) (n : R (.int .u8 b.toNat) h) : WI P CT ⟨d, none, .op .ixs xs⟩ env h R := by
  refine w_op (v := .int .u8 b.toNat) (h' := h) ?_ n
  unfold opF
  rw [e]
  show (if (0 : Int) ≤ (i : Int) then ((ByteArray.mk l.toArray)[((i : Int)).toNat]?).map (fun b => (Value.int .u8 b.toNat, h)) else none) = _
  have hi := (List.getElem?_eq_some_iff.1 hb).1
  have hg : (ByteArray.mk l.toArray)[i]? = some b := by
    rw [getElem?_pos (ByteArray.mk l.toArray) i (by simpa [ByteArray.size] using hi)]
    have : l[i] = b := (List.getElem?_eq_some_iff.1 hb).2
    exact congrArg some this
  rw [if_pos (by omega), Int.toNat_natCast, hg]
  rfl
theorem w_sub8 {a b : Int} (e : mapF env xs = some [.int .u8 a, .int .u8 b]) (hx : 0 ≤ a - b ∧ a - b ≤ 255) (n : R (.int .u8 (a - b)) h) : WI P CT ⟨d, none, .op (.bin .sub) xs⟩ env h R :=
  w_v (v := .int .u8 (IntKind.u8.wrap (a - b))) (by unfold opF; rw [e]; rfl) (by
    have : IntKind.u8.wrap (a - b) = a - b := by
      have e1 : IntKind.u8.wrap (a - b) = (a - b) % 256 := rfl
      rw [e1]; omega
    rw [this]) n
end
theorem valA_snoc : ∀ (l : List UInt8) (a : Nat) (b : UInt8), valA a (l ++ [b]) = valA a l * 10 + (b.toNat - 48)
  | [], _, _ => rfl
  | c :: l, a, b => valA_snoc l (a * 10 + (c.toNat - 48)) b
set_option maxRecDepth 10000 in
set_option maxHeartbeats 1000000 in
theorem rdigits_ok (l : List UInt8) (most : Nat) (hm : most ≤ 9) (hl : l.length ≤ 1000000) (h : Hp) : ACall PX 30 [bs l, nI most] h (fun v g => v = nI (match digF l most with | some n => (n : Int) | none => -1) ∧ h = g) := by
  have hz := sz_mk l
  unfold digF
  refine acall Go.Proofs.Tryd.func30 c30 (by simp [ir30]) ?_
  unfold ir30
  dsimp only
  by_cases h1 : 1 ≤ l.length
  case neg =>
    rw [if_neg (fun q => h1 q.1)]
    repeat (first | refine sS ?_ | refine sE ?_ | refine w_mv rfl ?_ | refine w_pickT rfl ?_ | (refine is_okn rfl ?_; refine w_op rfl ?_) | refine w_gF rfl rfl ?_ | (refine w_cmp (c2 := true) rfl ?_ ?_; focus (first | exact decide_eq_true (by omega) | (simp; done) | (simp; omega))) | refine ai_seq ?_ | refine ai_regW ?_ | refine ai_condF (b := true) rfl (fun _ => ?_) (fun hb => by cases hb) | (refine ai_ret ?_; repeat (first | rw [thenQ_r] | rw [blockQ_r] | rw [roundE_r])))
    exact ⟨_, rfl, rfl, rfl⟩
  by_cases h2 : l.length ≤ most
  case neg =>
    rw [if_neg (fun q => h2 q.2.1)]
    repeat (first | refine sS ?_ | refine sE ?_ | refine w_mv rfl ?_ | refine w_pickF rfl ?_ | (refine is_okn rfl ?_; refine w_op rfl ?_) | refine w_gT rfl rfl ?_ | (refine w_cmp (c2 := true) rfl ?_ ?_; focus (first | exact decide_eq_true (by omega) | (simp; done) | (simp; omega))) | (refine w_cmp (c2 := false) rfl ?_ ?_; focus (first | exact decide_eq_false (by omega) | (simp; done) | (simp; omega))) | refine ai_seq ?_ | refine ai_regW ?_ | refine ai_condF (b := true) rfl (fun _ => ?_) (fun hb => by cases hb) | (refine ai_ret ?_; repeat (first | rw [thenQ_r] | rw [blockQ_r] | rw [roundE_r])))
    exact ⟨_, rfl, rfl, rfl⟩
  repeat (first | refine sS ?_ | refine sE ?_ | refine w_mv rfl ?_ | refine w_pickF rfl ?_ | (refine is_okn rfl ?_; refine w_op rfl ?_) | refine w_gT rfl rfl ?_ | (refine w_cmp (c2 := false) rfl ?_ ?_; focus (first | exact decide_eq_false (by omega) | (simp; done) | (simp; omega))) | refine ai_seq ?_ | refine ai_regW ?_ | refine ai_condF (b := false) rfl (fun hb => by cases hb) (fun _ => ?_) | refine ai_skip ?_ | refine ai_block ?_)
  refine ai_loopE (γ := Nat × Nat) (fun e => [(0, bs l), (5, nI (e.2 : Nat)), (6, nI e.1)])
    (fun e g => h = g ∧ e.1 ≤ l.length ∧ (l.take e.1).all isDig = true ∧ e.2 = valA 0 (l.take e.1)) (fun e => l.length - e.1) (0, 0)
    (by repeat (first | exact le_nil | refine le_consF rfl ?_)) ⟨rfl, Nat.zero_le _, rfl, rfl⟩ ?_
  rintro ⟨i, x⟩ g1 ⟨rfl, hi, hd, hx⟩
  dsimp only at hi hd hx ⊢
  have hb9 : x < 10 ^ 9 := by
    have := valA_lt (l.take i) 0 0 hd (by decide)
    rw [Nat.zero_add, List.length_take] at this
    rw [hx]
    exact Nat.lt_of_lt_of_le this (Nat.pow_le_pow_right (by decide) (by omega))
  by_cases hil : i < l.length
  · obtain ⟨b, hb⟩ := getD_lt hil
    have hv := valA_snoc (l.take i) 0 b
    rw [← take_snoc hb, ← hx] at hv
    have ha : (l.take (i + 1)).all isDig = isDig b := by rw [take_snoc hb, List.all_append, hd]; simp
    have hbt : b.toNat < 256 := b.toNat_lt
    repeat (first | refine sS ?_ | refine sE ?_ | refine w_mv rfl ?_ | (refine is_okn rfl ?_; refine w_op rfl ?_) | (refine w_cmp (c2 := true) rfl ?_ ?_; focus (first | exact decide_eq_true (by omega) | (simp; done) | (simp; omega))) | refine ai_seq ?_ | refine ai_regW ?_ | refine ai_condF (b := true) rfl (fun _ => ?_) (fun hb => by cases hb) | refine ai_skip ?_ | refine ai_block ?_)
    refine w_ixs rfl hb ?_
    by_cases c1 : b.toNat < 48
    · have hnd : ¬ (1 ≤ l.length ∧ l.length ≤ most ∧ l.all isDig = true) := by
        rintro ⟨_, _, q⟩
        have := List.all_eq_true.1 q b (List.mem_of_getElem? hb)
        simp [isDig] at this
        omega
      rw [if_neg hnd]
      repeat (first | refine sS ?_ | refine sE ?_ | refine w_mv rfl ?_ | refine w_pickT rfl ?_ | refine w_gF rfl rfl ?_ | (refine w_cmp (c2 := true) rfl ?_ ?_; focus (first | exact decide_eq_true (by omega) | (simp; done) | (simp; omega))) | refine ai_seq ?_ | refine ai_regW ?_ | refine ai_condF (b := true) rfl (fun _ => ?_) (fun hb => by cases hb) | (refine ai_ret ?_; repeat (first | rw [thenQ_r] | rw [blockQ_r] | rw [roundE_r])))
      exact ⟨_, rfl, rfl, rfl⟩
    · repeat (first | refine sS ?_ | refine w_mv rfl ?_ | refine w_gT rfl rfl ?_ | (refine w_cmp (c2 := false) rfl ?_ ?_; focus (first | exact decide_eq_false (by omega) | (simp; done) | (simp; omega))))
      refine w_ixs rfl hb ?_
      by_cases c2 : 57 < b.toNat
      · have hnd : ¬ (1 ≤ l.length ∧ l.length ≤ most ∧ l.all isDig = true) := by
          rintro ⟨_, _, q⟩
          have := List.all_eq_true.1 q b (List.mem_of_getElem? hb)
          simp [isDig] at this
          omega
        rw [if_neg hnd]
        repeat (first | refine sS ?_ | refine sE ?_ | refine w_mv rfl ?_ | refine w_pickF rfl ?_ | refine w_gT rfl rfl ?_ | (refine w_cmp (c2 := true) rfl ?_ ?_; focus (first | exact decide_eq_true (by omega) | (simp; done) | (simp; omega))) | refine ai_seq ?_ | refine ai_regW ?_ | refine ai_condF (b := true) rfl (fun _ => ?_) (fun hb => by cases hb) | (refine ai_ret ?_; repeat (first | rw [thenQ_r] | rw [blockQ_r] | rw [roundE_r])))
        exact ⟨_, rfl, rfl, rfl⟩
      · repeat (first | refine sS ?_ | refine sE ?_ | refine w_mv rfl ?_ | refine w_pickF rfl ?_ | refine w_gT rfl rfl ?_ | (refine w_cmp (c2 := false) rfl ?_ ?_; focus (first | exact decide_eq_false (by omega) | (simp; done) | (simp; omega))) | (refine w_mul rfl ?_ ?_; (focus omega)) | refine ai_regW ?_ | refine ai_condF (b := false) rfl (fun hb => by cases hb) (fun _ => ?_) | refine ai_skip ?_)
        refine w_ixs rfl hb ?_
        repeat (first | refine sS ?_)
        refine w_sub8 rfl (by omega) ?_
        repeat (first | refine sS ?_ | refine sE ?_ | refine w_mv rfl ?_ | (refine w_add rfl ?_ ?_; (focus omega)) | (refine w_ci rfl ?_ ?_; (focus omega)) | refine ai_regW ?_)
        have hcast : (x : Int) * 10 + ((b.toNat : Int) - 48) = ((x * 10 + (b.toNat - 48) : Nat) : Int) := by omega
        exact ⟨(i + 1, x * 10 + (b.toNat - 48)), (by repeat (first | exact le_nil | refine le_consF (by first | rfl | rw [← hcast]; rfl) ?_)), ⟨rfl, by dsimp only; omega, by dsimp only; rw [ha]; simp [isDig]; omega, by dsimp only; rw [hv]⟩, by dsimp only; omega⟩
  · obtain rfl : i = l.length := by omega
    rw [List.take_length] at hd hx
    rw [if_pos ⟨h1, h2, hd⟩, ← hx]
    repeat (first | refine sS ?_ | refine sE ?_ | refine w_mv rfl ?_ | (refine is_okn rfl ?_; refine w_op rfl ?_) | (refine w_cmp (c2 := false) rfl ?_ ?_; focus (first | exact decide_eq_false (by omega) | (simp; done) | (simp; omega))) | refine ai_seq ?_ | refine ai_regW ?_ | refine ai_condF (b := false) rfl (fun hb => by cases hb) (fun _ => ?_) | refine ai_exit ?_ | (refine ai_ret ?_; repeat (first | rw [thenQ_r] | rw [blockQ_r] | rw [roundE_r])))
    exact ⟨_, rfl, rfl, rfl⟩
end Go.Proofs.YtapbmmlgmcmpnaaDoorW.Am
/- Texts: parts of strings; where a point stands. -/
namespace Go.Proofs.YtapbmmlgmcmpnaaDoorW.Am
open Go Go.RowKit
theorem ex_mk (l : List UInt8) (a b : Nat) : (ByteArray.mk l.toArray).extract a b = ⟨((l.take b).drop a).toArray⟩ := by
  refine ByteArray.ext ?_
  rw [ByteArray.data_extract]
  refine Array.ext' ?_
  rw [Array.toList_extract]
  simp [List.drop_take]
section
variable {P : Program} {CT : FuncId → List Value → Hp → (Value → Hp → Prop) → Prop} {d : Option Nat} {xs : List Operand} {env : Env} {h : Hp} {R : Value → Hp → Prop}
theorem w_slsS {l : List UInt8} {i : Nat} (e : mapF env xs = some [bs l, .int .i64 (i : Int)]) (hi : i ≤ l.length) (n : R (bs (l.drop i)) h) : WI P CT ⟨d, none, .op (.sls true false) xs⟩ env h R := by
  refine w_op (v := bs (l.drop i)) (h' := h) ?_ n
  have hz := sz_mk l
  have hbd : bounds (ByteArray.mk l.toArray).size (ByteArray.mk l.toArray).size (some (.int .i64 (i : Int))) none none = some (i, l.length, l.length) := by
    rw [hz]
    have : (0 : Int) ≤ i ∧ (i : Int) ≤ l.length := by omega
    simp [bounds, bnd, this]
  unfold opF
  rw [e]
  show (bounds (ByteArray.mk l.toArray).size (ByteArray.mk l.toArray).size (some (.int .i64 (i : Int))) none none).map (fun b => (Value.string ((ByteArray.mk l.toArray).extract b.1 b.2.1), h)) = _
  rw [hbd, Option.map_some, ex_mk, List.take_length]
  rfl
theorem w_slsP {l : List UInt8} {i : Nat} (e : mapF env xs = some [bs l, .int .i64 (i : Int)]) (hi : i ≤ l.length) (n : R (bs (l.take i)) h) : WI P CT ⟨d, none, .op (.sls false true) xs⟩ env h R := by
  refine w_op (v := bs (l.take i)) (h' := h) ?_ n
  have hz := sz_mk l
  have hbd : bounds (ByteArray.mk l.toArray).size (ByteArray.mk l.toArray).size none (some (.int .i64 (i : Int))) none = some (0, i, l.length) := by
    rw [hz]
    have : (0 : Int) ≤ i ∧ (i : Int) ≤ l.length := by omega
    simp [bounds, bnd, this]
  unfold opF
  rw [e]
  show (bounds (ByteArray.mk l.toArray).size (ByteArray.mk l.toArray).size none (some (.int .i64 (i : Int))) none).map (fun b => (Value.string ((ByteArray.mk l.toArray).extract b.1 b.2.1), h)) = _
  rw [hbd, Option.map_some, ex_mk, List.drop_zero]
  rfl
end
theorem cut_at {l : List UInt8} {c : UInt8} {i : Nat} (hi : l[i]? = some c) (hn : ∀ k, k < i → l[k]? ≠ some c) : Go.Lib.cut l [c] = (l.take i, l.drop (i + 1), true) := by
  have he : Go.Lib.index l [c] = (i : Int) := by
    rw [Go.Lib.index_one]
    have hge := Go.Lib.indexByte_ge l c
    rcases Int.lt_or_le (Go.Lib.indexByte l c) 0 with h0 | h0
    · exact absurd hi (Go.Lib.indexByte_none (by omega) i)
    · obtain ⟨o, ho⟩ : ∃ o : Nat, Go.Lib.indexByte l c = o := ⟨(Go.Lib.indexByte l c).toNat, by omega⟩
      obtain ⟨h1, h2⟩ := Go.Lib.indexByte_some ho
      rw [ho]
      have a1 : ¬ o < i := fun q => hn o q h1
      have a2 : ¬ i < o := fun q => h2 i q hi
      omega
  unfold Go.Lib.cut
  rw [he, if_pos (by omega), Int.toNat_natCast]
  rfl
theorem cut_no {l : List UInt8} {c : UInt8} (hn : ∀ k : Nat, l[k]? ≠ some c) : Go.Lib.cut l [c] = (l, [], false) := by
  have he : Go.Lib.index l [c] < 0 := by
    rw [Go.Lib.index_one]
    have hge := Go.Lib.indexByte_ge l c
    rcases Int.lt_or_le (Go.Lib.indexByte l c) 0 with h0 | h0
    · exact h0
    · obtain ⟨o, ho⟩ : ∃ o : Nat, Go.Lib.indexByte l c = o := ⟨(Go.Lib.indexByte l c).toNat, by omega⟩
      exact absurd (Go.Lib.indexByte_some ho).1 (hn o)
  unfold Go.Lib.cut
  rw [if_neg (by omega)]
end Go.Proofs.YtapbmmlgmcmpnaaDoorW.Am
/- Texts: the document's own Number. -/
namespace Go.Proofs.YtapbmmlgmcmpnaaDoorW.Am
open Go Go.RowKit
theorem digF_zero {b : List UInt8} {k : Nat} (h : digF b 3 = some k) : ∀ j, b.length + j ≤ 3 → digF (b ++ List.replicate j 48) 3 = some (k * 10 ^ j) := by
  intro j hj
  unfold digF at h ⊢
  split at h
  case isFalse => cases h
  next hc =>
  cases h
  have hall : ∀ j, (b ++ List.replicate j (48 : UInt8)).all isDig = true ∧ valA 0 (b ++ List.replicate j (48 : UInt8)) = valA 0 b * 10 ^ j := by
    intro j
    induction j with
    | zero => simpa using hc.2.2
    | succ j ih =>
      rw [List.replicate_succ', ← List.append_assoc, valA_snoc, ih.2, List.all_append, ih.1]
      refine ⟨by decide, ?_⟩
      rw [Nat.pow_succ, ← Nat.mul_assoc]
      rfl
  rw [if_pos ⟨by rw [List.length_append]; omega, by rw [List.length_append, List.length_replicate]; omega, (hall j).1⟩, (hall j).2]
theorem pre_cons (c : UInt8) (r : List UInt8) : Go.Lib.hasPrefix (c :: r) [45] = (45 == c) := by
  show ([45] : List UInt8).isPrefixOf (c :: r) = _
  simp [List.isPrefixOf]
section
variable {P : Program} {CT : FuncId → List Value → Hp → (Value → Hp → Prop) → Prop} {d : Option Nat} {xs : List Operand} {env : Env} {h : Hp} {R : Value → Hp → Prop}
theorem w_catB {a b : List UInt8} (e : mapF env xs = some [bs a, bs b]) (hl : a.length + b.length ≤ 9223372036854775807) (n : R (bs (a ++ b)) h) : WI P CT ⟨d, none, .op (.bin .add) xs⟩ env h R := by
  refine w_op (v := bs (a ++ b)) (h' := h) ?_ n
  have za := sz_mk a
  have zb := sz_mk b
  unfold opF
  rw [e]
  show Option.map (·, h) (if (ByteArray.mk a.toArray).size + (ByteArray.mk b.toArray).size ≤ 9223372036854775807 then some (Value.string ((ByteArray.mk a.toArray) ++ (ByteArray.mk b.toArray))) else none) = _
  rw [if_pos (by omega)]
  have : ((ByteArray.mk a.toArray) ++ (ByteArray.mk b.toArray)) = ⟨(a ++ b).toArray⟩ := ByteArray.ext (by simp)
  rw [this]
  rfl
end
theorem pre_nil : Go.Lib.hasPrefix [] [45] = false := rfl
set_option maxRecDepth 10000 in
set_option maxHeartbeats 2000000 in
theorem rnumber_ok (l : List UInt8) (hl : l.length ≤ 1000000) (h : Hp) : ACall PX 13 [bs l] h (fun v g => v = .tuple #[nI ((numF l).getD 0), .bool (numF l).isSome] ∧ h = g) := by
  have hz := sz_mk l
  refine acall Go.Proofs.Tryd.func13 c13 (by simp [ir13]) ?_
  unfold ir13
  dsimp only
  repeat (first | rw [thenQ_r] | rw [blockQ_r] | rw [roundE_r])
  refine ai_seq ?_
  repeat (first | refine sS ?_ | refine sE ?_ | refine w_mv rfl ?_ | refine ai_regW ?_)
  repeat (first | rw [thenQ_r] | rw [blockQ_r] | rw [roundE_r])
  refine ai_join (γ := Unit) (fun _ => [(0, bs l), (4, .bool (Go.Lib.hasPrefix l [45]))]) (fun _ g => h = g) ?_ ?_
  · cases l with
    | nil =>
      rw [pre_nil]
      repeat (first | refine sS ?_ | refine w_mv rfl ?_ | (refine is_okn rfl ?_; refine w_op rfl ?_) | refine ai_regW ?_)
      exact ⟨rfl, (), (by repeat (first | exact le_nil | refine le_consF rfl ?_)), rfl⟩
    | cons c r =>
      have h0 : 0 < (c :: r).length := by simp
      rw [pre_cons]
      repeat (first | refine sS ?_ | refine w_mv rfl ?_ | (refine is_okn rfl ?_; refine w_op rfl ?_) | refine w_gT rfl rfl ?_ | (refine w_cmp (c2 := true) rfl ?_ ?_; focus (first | exact decide_eq_true (by omega) | (simp; done) | (simp; omega))) | refine ai_regW ?_)
      refine ⟨rfl, (), le_consF rfl (le_consF ?_ le_nil), rfl⟩
      show some (Value.bool ((c.toNat : Int) == 45)) = _
      have hb : ((c.toNat : Int) == 45) = (45 == c) := by
        by_cases hc : c = 45
        · subst hc; rfl
        · have hc2 : c.toNat ≠ 45 := fun q => hc (UInt8.toNat_inj.1 q)
          rw [show ((45 : UInt8) == c) = false by simpa using fun q => hc q.symm]
          simp
          omega
      rw [hb]
  rintro _ _ rfl
  obtain ⟨neg, hneg⟩ : ∃ b, Go.Lib.hasPrefix l [45] = b := ⟨_, rfl⟩
  obtain ⟨t, het⟩ : ∃ t, Go.Lib.trimPrefix l [45] = t := ⟨_, rfl⟩
  have ht := trimP_len l [45]
  rw [het] at ht
  rw [hneg]
  refine ai_join (γ := Unit) (fun _ => [(0, bs t), (4, .bool neg)]) (fun _ g => h = g) ?_ ?_
  · rw [← het]
    unfold Go.Lib.trimPrefix
    rw [hneg]
    cases neg
    · repeat (first | refine sS ?_ | refine sE ?_ | refine w_mv rfl ?_ | refine ai_seq ?_ | refine ai_regW ?_ | refine ai_condF (b := false) rfl (fun hb => by cases hb) (fun _ => ?_) | refine ai_skip ?_)
      exact ⟨rfl, (), (by repeat (first | exact le_nil | refine le_consF rfl ?_)), rfl⟩
    · have h1 : 1 ≤ l.length := by
        cases l with
        | nil => cases hneg
        | cons c r => simp
      repeat (first | refine sS ?_ | refine sE ?_ | refine w_mv rfl ?_ | refine ai_seq ?_ | refine ai_regW ?_ | refine ai_condF (b := true) rfl (fun _ => ?_) (fun hb => by cases hb))
      refine w_slsS (i := 1) rfl h1 ?_
      repeat (first | refine sS ?_ | refine sE ?_ | refine w_mv rfl ?_)
      exact ⟨rfl, (), (by repeat (first | exact le_nil | refine le_consF rfl ?_)), rfl⟩
  rintro _ _ rfl
  clear hz
  have hz := sz_mk t
  repeat (first | rw [thenQ_r] | rw [blockQ_r] | rw [roundE_r])
  refine ai_seq ?_
  repeat (first | refine sS ?_ | refine sE ?_ | refine w_mv rfl ?_ | (refine is_okn rfl ?_; refine w_op rfl ?_) | refine ai_regW ?_)
  repeat (first | rw [thenQ_r] | rw [blockQ_r] | rw [roundE_r])
  refine ai_join (γ := Nat) (fun p => [(0, bs t), (4, .bool neg), (5, nI p)]) (fun p g => h = g ∧ ((p = t.length ∧ ∀ k : Nat, t[k]? ≠ some 46) ∨ (p < t.length ∧ t[p]? = some 46 ∧ ∀ k, k < p → t[k]? ≠ some 46))) ?_ ?_
  · repeat (first | refine sS ?_ | refine sE ?_ | refine w_mv rfl ?_ | refine ai_seq ?_ | refine ai_regW ?_ | refine ai_block ?_)
    refine ai_loopE (γ := Nat × Nat) (fun e => [(0, bs t), (4, .bool neg), (5, nI e.2), (6, nI e.1)])
      (fun e g => h = g ∧ e.1 ≤ t.length ∧ ((e.2 = t.length ∧ ∀ k, k < e.1 → t[k]? ≠ some 46) ∨ (e.2 < t.length ∧ t[e.2]? = some 46 ∧ ∀ k, k < e.2 → t[k]? ≠ some 46))) (fun e => t.length - e.1) (0, t.length)
      (by repeat (first | exact le_nil | refine le_consF rfl ?_)) ⟨rfl, Nat.zero_le _, .inl ⟨rfl, fun k hk => by omega⟩⟩ ?_
    rintro ⟨i, p⟩ g1 ⟨rfl, hi, hp⟩
    dsimp only at hi hp ⊢
    by_cases hil : i < t.length
    · rcases hp with ⟨rfl, hno⟩ | ⟨hpl, hpa, hpn⟩
      · obtain ⟨b, hb⟩ := getD_lt hil
        repeat (first | refine sS ?_ | refine sE ?_ | refine w_mv rfl ?_ | refine w_pickT rfl ?_ | (refine is_okn rfl ?_; refine w_op rfl ?_) | refine w_gT rfl rfl ?_ | (refine w_cmp (c2 := true) rfl ?_ ?_; focus (first | exact decide_eq_true (by omega) | (simp; done) | (simp; omega))) | refine ai_seq ?_ | refine ai_regW ?_ | refine ai_condF (b := true) rfl (fun _ => ?_) (fun hb => by cases hb) | refine ai_skip ?_ | refine ai_block ?_)
        refine w_ixs rfl hb ?_
        by_cases hc : b = 46
        · subst hc
          repeat (first | refine sS ?_ | refine sE ?_ | refine w_mv rfl ?_ | (refine w_add rfl ?_ ?_; (focus omega)) | (refine w_cmp (c2 := true) rfl ?_ ?_; focus (first | exact decide_eq_true (by omega) | (simp; done) | (simp; omega))) | refine ai_regW ?_ | refine ai_condF (b := true) rfl (fun _ => ?_) (fun hb => by cases hb))
          exact ⟨(i + 1, i), (by repeat (first | exact le_nil | refine le_consF rfl ?_)), ⟨rfl, by dsimp only; omega, .inr ⟨hil, hb, hno⟩⟩, by dsimp only; omega⟩
        · have hc2 : b.toNat ≠ 46 := fun q => hc (UInt8.toNat_inj.1 q)
          repeat (first | refine sS ?_ | refine sE ?_ | refine w_mv rfl ?_ | (refine w_add rfl ?_ ?_; (focus omega)) | (refine w_cmp (c2 := false) rfl ?_ ?_; focus (first | exact decide_eq_false (by omega) | (simp; done) | (simp; omega))) | refine ai_regW ?_ | refine ai_condF (b := false) rfl (fun hb => by cases hb) (fun _ => ?_) | refine ai_skip ?_)
          refine ⟨(i + 1, t.length), (by repeat (first | exact le_nil | refine le_consF rfl ?_)), ⟨rfl, by dsimp only; omega, .inl ⟨rfl, fun k hk => ?_⟩⟩, by dsimp only; omega⟩
          by_cases hk2 : k < i
          · exact hno k hk2
          · obtain rfl : k = i := by dsimp only at hk; omega
            rw [hb]
            exact fun q => hc (Option.some.inj q)
      · repeat (first | refine sS ?_ | refine sE ?_ | refine w_mv rfl ?_ | refine w_pickT rfl ?_ | (refine is_okn rfl ?_; refine w_op rfl ?_) | refine w_gT rfl rfl ?_ | (refine w_cmp (c2 := true) rfl ?_ ?_; focus (first | exact decide_eq_true (by omega) | (simp; done) | (simp; omega))) | (refine w_cmp (c2 := false) rfl ?_ ?_; focus (first | exact decide_eq_false (by omega) | (simp; done) | (simp; omega))) | refine ai_seq ?_ | refine ai_regW ?_ | refine ai_condF (b := false) rfl (fun hb => by cases hb) (fun _ => ?_) | refine ai_exit ?_)
        exact ⟨rfl, p, (by repeat (first | exact le_nil | refine le_consF rfl ?_)), rfl, .inr ⟨hpl, hpa, hpn⟩⟩
    · repeat (first | refine sS ?_ | refine sE ?_ | refine w_mv rfl ?_ | refine w_pickF rfl ?_ | (refine is_okn rfl ?_; refine w_op rfl ?_) | refine w_gF rfl rfl ?_ | (refine w_cmp (c2 := false) rfl ?_ ?_; focus (first | exact decide_eq_false (by omega) | (simp; done) | (simp; omega))) | refine ai_seq ?_ | refine ai_regW ?_ | refine ai_condF (b := false) rfl (fun hb => by cases hb) (fun _ => ?_) | refine ai_exit ?_)
      refine ⟨rfl, p, (by repeat (first | exact le_nil | refine le_consF rfl ?_)), rfl, ?_⟩
      rcases hp with ⟨rfl, hno⟩ | hp
      · refine .inl ⟨rfl, fun k q => ?_⟩
        have := (List.getElem?_eq_some_iff.1 q).1
        exact hno k (by omega) q
      · exact .inr hp
  rintro p _ ⟨rfl, hp⟩
  unfold numF numU
  rw [het, hneg]
  rcases hp with ⟨rfl, hno⟩ | ⟨hpl, hpa, hpn⟩
  · rw [cut_no hno]
    dsimp only
    repeat (first | refine sS ?_ | refine w_mv rfl ?_ | refine ai_seq ?_ | refine ai_regW ?_)
    refine w_slsP rfl (Nat.le_refl _) ?_
    rw [List.take_length]
    repeat (first | refine sS ?_ | refine sE ?_ | refine w_mv rfl ?_ | (refine is_okn rfl ?_; refine w_op rfl ?_) | (refine w_cmp (c2 := false) rfl ?_ ?_; focus (first | exact decide_eq_false (by omega) | (simp; done) | (simp; omega))) | (refine w_call rfl ((rdigits_ok t 9 (by decide) (by omega) _).mono ?_); rintro _ _ ⟨rfl, rfl⟩) | refine ai_seq ?_ | refine ai_regW ?_ | refine ai_condF (b := false) rfl (fun hb => by cases hb) (fun _ => ?_) | refine ai_skip ?_)
    cases hA : digF t 9 with
    | none =>
      repeat (first | refine sS ?_ | refine sE ?_ | refine w_mv rfl ?_ | (refine w_cmp (c2 := true) rfl ?_ ?_; focus (first | exact decide_eq_true (by omega) | (simp; done) | (simp; omega))) | refine ai_seq ?_ | refine ai_regW ?_ | refine ai_condF (b := true) rfl (fun _ => ?_) (fun hb => by cases hb) | (refine ai_ret ?_; repeat (first | rw [thenQ_r] | rw [blockQ_r] | rw [roundE_r])))
      exact ⟨_, rfl, rfl, rfl⟩
    | some n =>
      obtain ⟨a1, a2, a3⟩ := digF_some hA
      have hn9 : n < 10 ^ 9 := Nat.lt_of_lt_of_le a3 (Nat.pow_le_pow_right (by decide) a2)
      dsimp only
      repeat (first | refine sS ?_ | refine sE ?_ | refine w_mv rfl ?_ | (refine w_add rfl ?_ ?_; (focus omega)) | (refine w_cmp (c2 := false) rfl ?_ ?_; focus (first | exact decide_eq_false (by omega) | (simp; done) | (simp; omega))) | (refine w_mul rfl ?_ ?_; (focus omega)) | refine ai_seq ?_ | refine ai_regW ?_ | refine ai_condF (b := false) rfl (fun hb => by cases hb) (fun _ => ?_) | refine ai_skip ?_)
      cases neg
      · repeat (first | refine sS ?_ | refine sE ?_ | refine w_mv rfl ?_ | refine ai_seq ?_ | refine ai_regW ?_ | refine ai_condF (b := false) rfl (fun hb => by cases hb) (fun _ => ?_) | refine ai_skip ?_ | (refine ai_ret ?_; repeat (first | rw [thenQ_r] | rw [blockQ_r] | rw [roundE_r])))
        exact ⟨_, rfl, by simp [pack, sgn, nI], rfl⟩
      · repeat (first | refine sS ?_ | refine sE ?_ | refine w_mv rfl ?_ | (refine w_neg rfl ?_ ?_; (focus omega)) | refine ai_seq ?_ | refine ai_regW ?_ | refine ai_condF (b := true) rfl (fun _ => ?_) (fun hb => by cases hb) | (refine ai_ret ?_; repeat (first | rw [thenQ_r] | rw [blockQ_r] | rw [roundE_r])))
        exact ⟨_, rfl, by simp [pack, sgn, nI], rfl⟩
  · rw [cut_at hpa hpn]
    dsimp only
    repeat (first | refine sS ?_ | refine w_mv rfl ?_ | refine ai_seq ?_ | refine ai_regW ?_)
    refine w_slsP rfl (by omega) ?_
    have htp : (t.take p).length ≤ 1000000 := by rw [List.length_take]; omega
    repeat (first | refine sS ?_ | refine sE ?_ | refine w_mv rfl ?_ | (refine is_okn rfl ?_; refine w_op rfl ?_) | (refine w_add rfl ?_ ?_; (focus omega)) | (refine w_cmp (c2 := true) rfl ?_ ?_; focus (first | exact decide_eq_true (by omega) | (simp; done) | (simp; omega))) | (refine w_call rfl ((rdigits_ok (t.take p) 9 (by decide) htp _).mono ?_); rintro _ _ ⟨rfl, rfl⟩) | refine ai_seq ?_ | refine ai_regW ?_ | refine ai_condF (b := true) rfl (fun _ => ?_) (fun hb => by cases hb))
    refine w_slsS (i := p + 1) rfl (by omega) ?_
    have hbl : (t.drop (p + 1)).length ≤ 1000000 := by rw [List.length_drop]; omega
    generalize t.drop (p + 1) = b at *
    repeat (first | refine sS ?_ | refine sE ?_ | refine w_mv rfl ?_ | (refine w_call rfl ((rdigits_ok b 3 (by decide) hbl _).mono ?_); rintro _ _ ⟨rfl, rfl⟩) | refine ai_seq ?_ | refine ai_regW ?_)
    cases hB : digF b 3 with
    | none =>
      repeat (first | refine sS ?_ | refine sE ?_ | refine w_mv rfl ?_ | (refine w_cmp (c2 := true) rfl ?_ ?_; focus (first | exact decide_eq_true (by omega) | (simp; done) | (simp; omega))) | refine ai_seq ?_ | refine ai_regW ?_ | refine ai_condF (b := true) rfl (fun _ => ?_) (fun hb => by cases hb) | (refine ai_ret ?_; repeat (first | rw [thenQ_r] | rw [blockQ_r] | rw [roundE_r])))
      exact ⟨_, rfl, by cases digF (t.take p) 9 <;> rfl, rfl⟩
    | some k =>
      obtain ⟨b1, b2, b3⟩ := digF_some hB
      dsimp only
      cases hA : digF (t.take p) 9 with
      | none =>
        dsimp only
        repeat (first | refine sE ?_ | (refine w_cmp (c2 := false) rfl ?_ ?_; focus (first | exact decide_eq_false (by omega) | (simp; done) | (simp; omega))) | refine ai_seq ?_ | refine ai_condF (b := false) rfl (fun hb => by cases hb) (fun _ => ?_) | refine ai_skip ?_ | refine ai_block ?_)
        refine ai_loopE (γ := Nat) (fun e => [(4, .bool neg), (7, nI (-1)), (9, bs (b ++ List.replicate e 48))])
          (fun e g => h = g ∧ b.length + e ≤ 3) (fun e => 3 - e) 0
          (by rw [List.replicate_zero, List.append_nil]; exact (by repeat (first | exact le_nil | refine le_consF rfl ?_))) ⟨rfl, by omega⟩ ?_
        rintro e g1 ⟨rfl, he⟩
        have hze := sz_mk (b ++ List.replicate e 48)
        rw [List.length_append, List.length_replicate] at hze
        by_cases h3 : b.length + e < 3
        · repeat (first | refine sS ?_ | refine sE ?_ | refine w_mv rfl ?_ | (refine is_okn rfl ?_; refine w_op rfl ?_) | (refine w_cmp (c2 := true) rfl ?_ ?_; focus (first | exact decide_eq_true (by omega) | (simp; done) | (simp; omega))) | refine ai_seq ?_ | refine ai_regW ?_ | refine ai_condF (b := true) rfl (fun _ => ?_) (fun hb => by cases hb) | refine ai_skip ?_ | refine ai_block ?_)
          refine w_catB (b := [48]) rfl (by rw [List.length_append, List.length_replicate]; simp; omega) ?_
          rw [List.append_assoc, ← List.replicate_succ']
          repeat (first | refine sS ?_ | refine sE ?_ | refine w_mv rfl ?_)
          exact ⟨e + 1, (by repeat (first | exact le_nil | refine le_consF rfl ?_)), ⟨rfl, by omega⟩, by dsimp only; omega⟩
        · obtain rfl : e = 3 - b.length := by omega
          have hbr : (b ++ List.replicate (3 - b.length) (48 : UInt8)).length ≤ 1000000 := by rw [List.length_append, List.length_replicate]; omega
          repeat (first | refine sS ?_ | refine sE ?_ | refine w_mv rfl ?_ | (refine is_okn rfl ?_; refine w_op rfl ?_) | (refine w_cmp (c2 := true) rfl ?_ ?_; focus (first | exact decide_eq_true (by omega) | (simp; done) | (simp; omega))) | (refine w_cmp (c2 := false) rfl ?_ ?_; focus (first | exact decide_eq_false (by omega) | (simp; done) | (simp; omega))) | (refine w_call rfl ((rdigits_ok (b ++ List.replicate (3 - b.length) 48) 3 (by decide) hbr _).mono ?_); rintro _ _ ⟨rfl, rfl⟩) | refine ai_seq ?_ | refine ai_regW ?_ | refine ai_condF (b := true) rfl (fun _ => ?_) (fun hb => by cases hb) | refine ai_condF (b := false) rfl (fun hb => by cases hb) (fun _ => ?_) | refine ai_exit ?_ | (refine ai_ret ?_; repeat (first | rw [thenQ_r] | rw [blockQ_r] | rw [roundE_r])))
          rw [digF_zero hB _ (by omega)]
          dsimp only
          skip
          exact ⟨_, rfl, rfl, rfl⟩
      | some n =>
        obtain ⟨a1, a2, a3⟩ := digF_some hA
        have hn9 : n < 10 ^ 9 := Nat.lt_of_lt_of_le a3 (Nat.pow_le_pow_right (by decide) a2)
        dsimp only
        repeat (first | refine sE ?_ | (refine w_cmp (c2 := false) rfl ?_ ?_; focus (first | exact decide_eq_false (by omega) | (simp; done) | (simp; omega))) | refine ai_seq ?_ | refine ai_condF (b := false) rfl (fun hb => by cases hb) (fun _ => ?_) | refine ai_skip ?_ | refine ai_block ?_)
        refine ai_loopE (γ := Nat) (fun e => [(4, .bool neg), (7, nI n), (9, bs (b ++ List.replicate e 48))])
          (fun e g => h = g ∧ b.length + e ≤ 3) (fun e => 3 - e) 0
          (by rw [List.replicate_zero, List.append_nil]; exact (by repeat (first | exact le_nil | refine le_consF rfl ?_))) ⟨rfl, by omega⟩ ?_
        rintro e g1 ⟨rfl, he⟩
        have hze := sz_mk (b ++ List.replicate e 48)
        rw [List.length_append, List.length_replicate] at hze
        by_cases h3 : b.length + e < 3
        · repeat (first | refine sS ?_ | refine sE ?_ | refine w_mv rfl ?_ | (refine is_okn rfl ?_; refine w_op rfl ?_) | (refine w_cmp (c2 := true) rfl ?_ ?_; focus (first | exact decide_eq_true (by omega) | (simp; done) | (simp; omega))) | refine ai_seq ?_ | refine ai_regW ?_ | refine ai_condF (b := true) rfl (fun _ => ?_) (fun hb => by cases hb) | refine ai_skip ?_ | refine ai_block ?_)
          refine w_catB (b := [48]) rfl (by rw [List.length_append, List.length_replicate]; simp; omega) ?_
          rw [List.append_assoc, ← List.replicate_succ']
          repeat (first | refine sS ?_ | refine sE ?_ | refine w_mv rfl ?_)
          exact ⟨e + 1, (by repeat (first | exact le_nil | refine le_consF rfl ?_)), ⟨rfl, by omega⟩, by dsimp only; omega⟩
        · obtain rfl : e = 3 - b.length := by omega
          have hbr : (b ++ List.replicate (3 - b.length) (48 : UInt8)).length ≤ 1000000 := by rw [List.length_append, List.length_replicate]; omega
          repeat (first | refine sS ?_ | refine sE ?_ | refine w_mv rfl ?_ | (refine is_okn rfl ?_; refine w_op rfl ?_) | (refine w_cmp (c2 := false) rfl ?_ ?_; focus (first | exact decide_eq_false (by omega) | (simp; done) | (simp; omega))) | (refine w_mul rfl ?_ ?_; (focus omega)) | (refine w_call rfl ((rdigits_ok (b ++ List.replicate (3 - b.length) 48) 3 (by decide) hbr _).mono ?_); rintro _ _ ⟨rfl, rfl⟩) | refine ai_seq ?_ | refine ai_regW ?_ | refine ai_condF (b := false) rfl (fun hb => by cases hb) (fun _ => ?_) | refine ai_skip ?_ | refine ai_exit ?_)
          rw [digF_zero hB _ (by omega)]
          dsimp only
          have hx1 : k * 10 ^ (3 - b.length) ≤ 99900 := by
            have hk3 : k < 1000 := Nat.lt_of_lt_of_le b3 (Nat.pow_le_pow_right (by decide) b2)
            rcases (show b.length = 1 ∨ b.length = 2 ∨ b.length = 3 by omega) with q | q | q <;> rw [q] at b3 ⊢ <;> simp at b3 ⊢ <;> omega
          generalize k * 10 ^ (3 - b.length) = x at *
          cases neg
          · repeat (first | refine sS ?_ | refine sE ?_ | refine w_mv rfl ?_ | (refine w_add rfl ?_ ?_; (focus omega)) | refine ai_seq ?_ | refine ai_regW ?_ | refine ai_condF (b := false) rfl (fun hb => by cases hb) (fun _ => ?_) | refine ai_skip ?_ | (refine ai_ret ?_; repeat (first | rw [thenQ_r] | rw [blockQ_r] | rw [roundE_r])))
            exact ⟨_, rfl, by simp [pack, sgn, nI], rfl⟩
          · repeat (first | refine sS ?_ | refine sE ?_ | refine w_mv rfl ?_ | (refine w_add rfl ?_ ?_; (focus omega)) | (refine w_neg rfl ?_ ?_; (focus omega)) | refine ai_seq ?_ | refine ai_regW ?_ | refine ai_condF (b := true) rfl (fun _ => ?_) (fun hb => by cases hb) | (refine ai_ret ?_; repeat (first | rw [thenQ_r] | rw [blockQ_r] | rw [roundE_r])))
            exact ⟨_, rfl, by simp [pack, sgn, nI], rfl⟩
end Go.Proofs.YtapbmmlgmcmpnaaDoorW.Am
/- Texts: Show. -/
namespace Go.Proofs.YtapbmmlgmcmpnaaDoorW.Am
open Go Go.RowKit
def absB (n : Int) : Int := if n < 0 then -(max n (-9223372036854775807)) else n
def fracB (m : Int) : List UInt8 := if m % 1000 = 0 then [] else 46 :: Go.Lib.trimRightB ((Go.Lib.itoa (1000 + m % 1000)).drop 1) 48
def showF (n : Int) : List UInt8 := ((if n < 0 then [45] else []) ++ Go.Lib.itoa (absB n / 1000)) ++ fracB (absB n)
def I64 (n : Int) : Prop := -9223372036854775808 ≤ n ∧ n ≤ 9223372036854775807
theorem fint_br {n : Int} (hn : I64 n) (h : Hp) : ACall PX 38 [nI n, nI 10] h (fun v g => v = bs (Go.Lib.itoa n) ∧ h = g) :=
  bridge (enters_comp Go.Proofs.Tryd.func38 c38) rfl rfl (fun w tb => (Go.Proofs.Tryd.strconv_FormatInt_10 n hn.1 hn.2 w tb.1).mono (by
    rintro e w' ⟨rfl, k, os, rfl⟩
    refine ⟨rfl, ⟨rfl, rfl, rfl, ?_, fun b hb => ?_⟩, fun d => (dr_no d).elim⟩
    · show w.heap.size ≤ (w.heap ++ os).size
      rw [Array.size_append]
      exact Nat.le_add_right _ _
    · show (w.heap ++ os)[b]? = w.heap[b]?
      exact Array.getElem?_append_left hb)) h
theorem trimR_br (l : List UInt8) (hl : l.length ≤ 1000000) (h : Hp) : ACall PX 39 [bs l, .string ⟨#[48]⟩] h (fun v g => v = bs (Go.Lib.trimRightB l 48) ∧ h = g) :=
  bridge (enters_comp Go.Proofs.Tryd.func39 c39) rfl rfl (fun w _ => (Go.Proofs.Tryd.strings_TrimRight_one ⟨l.toArray⟩ 48 (by decide) w (by show l.toArray.size ≤ _; rw [List.size_toArray]; omega)).mono (by
    rintro e w' ⟨rfl, rfl⟩
    exact ⟨rfl, Below.refl _ _, fun d => (dr_no d).elim⟩)) h
theorem dw_len {α : Type} (p : α → Bool) : ∀ l : List α, (l.dropWhile p).length ≤ l.length
  | [] => Nat.le_refl _
  | a :: l => by
    rw [List.dropWhile_cons]
    split
    · exact Nat.le_trans (dw_len p l) (by simp)
    · exact Nat.le_refl _
theorem trimR_len (l : List UInt8) (c : UInt8) : (Go.Lib.trimRightB l c).length ≤ l.length := by
  unfold Go.Lib.trimRightB
  rw [List.length_reverse]
  have := dw_len (fun x => x == c) l.reverse
  rwa [List.length_reverse] at this
theorem itoa_1000 {f : Int} (h : 0 ≤ f ∧ f < 1000) : 1 ≤ (Go.Lib.itoa (1000 + f)).length := by
  unfold Go.Lib.itoa
  rw [if_neg (by omega), Go.Lib.decDigits_length]
  exact Go.Lib.nDigits_pos _
set_option maxHeartbeats 1000000 in
theorem show_ok {n : Int} (hn : I64 n) (h : Hp) : ACall PX 17 [nI n] h (fun v g => v = bs (showF n) ∧ h = g) := by
  obtain ⟨n1, n2⟩ := hn
  have hmr : 0 ≤ absB n ∧ absB n ≤ 9223372036854775807 := by
    unfold absB
    split <;> omega
  obtain ⟨m, hm⟩ : ∃ m, absB n = m := ⟨_, rfl⟩
  rw [hm] at hmr
  have hq : I64 (m / 1000) := ⟨by omega, by omega⟩
  have hl1 := Go.Lib.itoa_length_le (m / 1000) hq.1 hq.2
  have hf : 0 ≤ m % 1000 ∧ m % 1000 < 1000 := by omega
  have hfi : I64 (1000 + m % 1000) := ⟨by omega, by omega⟩
  have hl2 := Go.Lib.itoa_length_le (1000 + m % 1000) hfi.1 hfi.2
  have hl3 := itoa_1000 hf
  have hl4 := trimR_len ((Go.Lib.itoa (1000 + m % 1000)).drop 1) 48
  rw [List.length_drop] at hl4
  have htr : ((Go.Lib.itoa (1000 + m % 1000)).drop 1).length ≤ 1000000 := by rw [List.length_drop]; omega
  unfold showF
  rw [hm]
  refine acall Go.Proofs.Tryd.func17 c17 (by simp [ir17]) ?_
  unfold ir17
  dsimp only
  repeat (first | rw [thenQ_r] | rw [blockQ_r] | rw [roundE_r])
  refine ai_seq ?_
  repeat (first | refine sS ?_ | refine sE ?_ | refine w_mv rfl ?_ | refine ai_regW ?_)
  repeat (first | rw [thenQ_r] | rw [blockQ_r] | rw [roundE_r])
  repeat (first | rw [thenQ_r] | rw [blockQ_r] | rw [roundE_r])
  refine ai_seq ?_
  repeat (first | refine sS ?_ | refine sE ?_ | refine w_mv rfl ?_ | refine ai_regW ?_)
  repeat (first | rw [thenQ_r] | rw [blockQ_r] | rw [roundE_r])
  refine ai_join (γ := Unit) (fun _ => [(0, nI m), (3, bs (if n < 0 then [45] else []))]) (fun _ g => h = g) ?_ ?_
  · by_cases h0 : n < 0
    · rw [if_pos h0]
      have he : -(max n (-9223372036854775807)) = m := by rw [← hm]; unfold absB; rw [if_pos h0]
      repeat (first | refine sS ?_ | refine sE ?_ | refine w_mv rfl ?_ | (refine w_cmp (c2 := true) rfl ?_ ?_; focus (first | exact decide_eq_true (by omega) | (simp; done) | (simp; omega))) | (refine w_neg rfl ?_ ?_; (focus omega)) | refine w_max rfl ?_ | refine ai_seq ?_ | refine ai_regW ?_ | refine ai_condF (b := true) rfl (fun _ => ?_) (fun hb => by cases hb))
      rw [he]
      skip
      exact ⟨rfl, (), (by repeat (first | exact le_nil | refine le_consF rfl ?_)), rfl⟩
    · rw [if_neg h0]
      have he : n = m := by rw [← hm]; unfold absB; rw [if_neg h0]
      subst he
      repeat (first | refine sS ?_ | refine sE ?_ | refine w_mv rfl ?_ | (refine w_cmp (c2 := false) rfl ?_ ?_; focus (first | exact decide_eq_false (by omega) | (simp; done) | (simp; omega))) | refine ai_seq ?_ | refine ai_regW ?_ | refine ai_condF (b := false) rfl (fun hb => by cases hb) (fun _ => ?_) | refine ai_skip ?_)
      exact ⟨rfl, (), (by repeat (first | exact le_nil | refine le_consF rfl ?_)), rfl⟩
  rintro _ _ rfl
  have hsl : (if n < 0 then [45] else [] : List UInt8).length ≤ 1 := by split <;> simp
  generalize (if n < 0 then [45] else [] : List UInt8) = sg at *
  repeat (first | refine sS ?_ | refine w_mv rfl ?_ | (refine w_quo rfl ?_ ?_ ?_; (focus omega); (focus omega)) | (refine w_call rfl ((fint_br hq _).mono ?_); rintro _ _ ⟨rfl, rfl⟩) | refine ai_seq ?_ | refine ai_regW ?_)
  refine w_catB rfl (by omega) ?_
  unfold fracB
  by_cases hz : m % 1000 = 0
  · rw [if_pos hz, List.append_nil]
    repeat (first | refine sS ?_ | refine sE ?_ | refine w_mv rfl ?_ | (refine w_cmp (c2 := true) rfl ?_ ?_; focus (first | exact decide_eq_true (by omega) | (simp; done) | (simp; omega))) | (refine w_rem rfl ?_ ?_ ?_; (focus omega); (focus omega)) | refine ai_seq ?_ | refine ai_regW ?_ | refine ai_condF (b := true) rfl (fun _ => ?_) (fun hb => by cases hb) | (refine ai_ret ?_; repeat (first | rw [thenQ_r] | rw [blockQ_r] | rw [roundE_r])))
    exact ⟨_, rfl, rfl, rfl⟩
  · rw [if_neg hz]
    repeat (first | refine sS ?_ | refine sE ?_ | refine w_mv rfl ?_ | (refine w_cmp (c2 := false) rfl ?_ ?_; focus (first | exact decide_eq_false (by omega) | (simp; done) | (simp; omega))) | (refine w_rem rfl ?_ ?_ ?_; (focus omega); (focus omega)) | refine ai_seq ?_ | refine ai_regW ?_ | refine ai_condF (b := false) rfl (fun hb => by cases hb) (fun _ => ?_) | refine ai_skip ?_)
    refine w_catB (b := [46]) rfl (by rw [List.length_append]; simp; omega) ?_
    repeat (first | refine sS ?_ | refine w_mv rfl ?_ | (refine w_add rfl ?_ ?_; (focus omega)) | (refine w_rem rfl ?_ ?_ ?_; (focus omega); (focus omega)) | (refine w_call rfl ((fint_br hfi _).mono ?_); rintro _ _ ⟨rfl, rfl⟩))
    refine w_slsS (i := 1) rfl hl3 ?_
    repeat (first | refine sS ?_ | (refine w_call rfl ((trimR_br _ htr _).mono ?_); rintro _ _ ⟨rfl, rfl⟩))
    refine w_catB rfl (by rw [List.length_append, List.length_append]; simp only [List.length_cons, List.length_nil]; omega) ?_
    repeat (first | refine sS ?_ | refine sE ?_ | refine w_mv rfl ?_ | (refine ai_ret ?_; repeat (first | rw [thenQ_r] | rw [blockQ_r] | rw [roundE_r])))
    exact ⟨_, rfl, by simp [pack], rfl⟩
end Go.Proofs.YtapbmmlgmcmpnaaDoorW.Am
/- Texts: the document's own numerals. -/
namespace Go.Proofs.YtapbmmlgmcmpnaaDoorW.Am
open Go Go.RowKit
section
variable {P : Program} {CT : FuncId → List Value → Hp → (Value → Hp → Prop) → Prop} {d : Option Nat} {xs : List Operand} {env : Env} {h : Hp} {R : Value → Hp → Prop}
theorem w_cat {a b : ByteArray} (e : mapF env xs = some [.string a, .string b]) (hl : a.size + b.size ≤ 9223372036854775807) (n : R (.string (a ++ b)) h) : WI P CT ⟨d, none, .op (.bin .add) xs⟩ env h R := by
  refine w_op (v := .string (a ++ b)) (h' := h) ?_ n
  unfold opF
  rw [e]
  show Option.map (·, h) (if a.size + b.size ≤ 9223372036854775807 then some (Value.string (a ++ b)) else none) = _
  rw [if_pos hl]
  rfl
end
theorem ba_app (a b : List UInt8) : ((⟨a.toArray⟩ : ByteArray) ++ (⟨b.toArray⟩ : ByteArray)) = ⟨(a ++ b).toArray⟩ := ByteArray.ext (by simp)
def digS : ByteArray := ⟨#[48, 49, 50, 51, 52, 53, 54, 55, 56, 57]⟩
theorem dig_sls (h : Hp) : ∀ d : Nat, d < 10 → stepK (.sls true true) [.string digS, nI d, nI ((d : Int) + 1)] h = some (.string ⟨[UInt8.ofNat (48 + d)].toArray⟩, h) := by
  intro d hd
  have : d = 0 ∨ d = 1 ∨ d = 2 ∨ d = 3 ∨ d = 4 ∨ d = 5 ∨ d = 6 ∨ d = 7 ∨ d = 8 ∨ d = 9 := by omega
  rcases this with rfl | rfl | rfl | rfl | rfl | rfl | rfl | rfl | rfl | rfl <;> rfl
theorem dec_len {N : Nat} (hN : N ≤ 9223372036854775807) : (Go.Lib.decDigits N).length ≤ 21 := by
  have := Go.Lib.itoa_length_le (N : Int) (by omega) (by omega)
  unfold Go.Lib.itoa at this
  rw [if_neg (by omega), Int.toNat_natCast] at this
  exact this
theorem decd_big {n : Nat} (h : 9 < n) : Go.Lib.decDigits n = Go.Lib.decDigits (n / 10) ++ [UInt8.ofNat (48 + n % 10)] := by rw [Go.Lib.decDigits, dif_neg (by omega)]
theorem decd_small {n : Nat} (h : ¬ 9 < n) : Go.Lib.decDigits n = [UInt8.ofNat (48 + n)] := by rw [Go.Lib.decDigits, dif_pos (by omega)]
set_option maxHeartbeats 1000000 in
theorem decimal_ok (N : Nat) (hN : N ≤ 9223372036854775807) (h : Hp) : ACall PX 20 [nI N] h (fun v g => v = .string ⟨(Go.Lib.decDigits N).toArray⟩ ∧ h = g) := by
  have hlen := dec_len hN
  refine acall Go.Proofs.Tryd.func20 c20 (by simp [ir20]) ?_
  unfold ir20
  dsimp only
  repeat (first | refine sS ?_ | refine sE ?_ | refine w_mv rfl ?_ | refine ai_seq ?_ | refine ai_regW ?_ | refine ai_block ?_)
  refine ai_loopE (γ := Nat × List UInt8) (fun e => [(0, nI e.1), (3, .string ⟨e.2.toArray⟩)])
    (fun e g => h = g ∧ e.1 ≤ N ∧ Go.Lib.decDigits N = Go.Lib.decDigits e.1 ++ e.2) (fun e => e.1) (N, [])
    (by repeat (first | exact le_nil | refine le_consF rfl ?_)) ⟨rfl, Nat.le_refl _, by simp⟩ ?_
  rintro ⟨n, s⟩ g1 ⟨rfl, hn, hs⟩
  dsimp only at hn hs ⊢
  have hsl : s.length ≤ 21 := by
    rw [hs, List.length_append] at hlen
    omega
  have hsz : (ByteArray.mk s.toArray).size = s.length := by simp [ByteArray.size]
  by_cases h9 : 9 < n
  · rw [decd_big h9, List.append_assoc] at hs
    obtain ⟨q, hq⟩ : ∃ q, n % 10 = q := ⟨_, rfl⟩
    have hq9 : q < 10 := by omega
    have hqi : (n : Int) % 10 = (q : Int) := by omega
    rw [hq] at hs
    repeat (first | refine sS ?_ | refine sE ?_ | refine w_mv rfl ?_ | (refine w_add rfl ?_ ?_; (focus omega)) | (refine w_cmp (c2 := true) rfl ?_ ?_; focus (first | exact decide_eq_true (by omega) | (simp; done) | (simp; omega))) | (refine w_rem rfl ?_ ?_ ?_; (focus omega); (focus omega)) | refine ai_seq ?_ | refine ai_regW ?_ | refine ai_condF (b := true) rfl (fun _ => ?_) (fun hb => by cases hb) | refine ai_skip ?_ | refine ai_block ?_)
    rw [hqi]
    refine w_op (dig_sls h q hq9) ?_
    repeat (first | refine sS ?_ | refine w_mv rfl ?_)
    refine w_cat rfl (by rw [hsz]; show 1 + s.length ≤ _; omega) ?_
    rw [ba_app]
    repeat (first | refine sS ?_ | refine sE ?_ | refine w_mv rfl ?_ | (refine w_quo rfl ?_ ?_ ?_; (focus omega); (focus omega)) | refine ai_regW ?_)
    exact ⟨(n / 10, UInt8.ofNat (48 + q) :: s), (by repeat (first | exact le_nil | refine le_consF rfl ?_)), ⟨rfl, by dsimp only; omega, hs⟩, by dsimp only; omega⟩
  · rw [decd_small h9] at hs
    repeat (first | refine sS ?_ | refine sE ?_ | refine w_mv rfl ?_ | (refine w_add rfl ?_ ?_; (focus omega)) | (refine w_cmp (c2 := false) rfl ?_ ?_; focus (first | exact decide_eq_false (by omega) | (simp; done) | (simp; omega))) | refine ai_seq ?_ | refine ai_regW ?_ | refine ai_condF (b := false) rfl (fun hb => by cases hb) (fun _ => ?_) | refine ai_exit ?_)
    refine w_op (dig_sls h n (by omega)) ?_
    repeat (first | refine sS ?_ | refine w_mv rfl ?_)
    refine w_cat rfl (by rw [hsz]; show 1 + s.length ≤ _; omega) ?_
    rw [ba_app]
    repeat (first | refine sS ?_ | refine sE ?_ | refine w_mv rfl ?_ | (refine ai_ret ?_; repeat (first | rw [thenQ_r] | rw [blockQ_r] | rw [roundE_r])))
    exact ⟨_, rfl, by rw [hs]; rfl, rfl⟩
end Go.Proofs.YtapbmmlgmcmpnaaDoorW.Am
/- Texts: the document's own Show. -/
namespace Go.Proofs.YtapbmmlgmcmpnaaDoorW.Am
open Go Go.RowKit
theorem trimR_zero (l : List UInt8) (c : UInt8) : Go.Lib.trimRightB (l ++ [c]) c = Go.Lib.trimRightB l c := by
  unfold Go.Lib.trimRightB
  simp
theorem trimR_other (l : List UInt8) {b c : UInt8} (h : b ≠ c) : Go.Lib.trimRightB (l ++ [b]) c = l ++ [b] := by
  unfold Go.Lib.trimRightB
  simp [h]
theorem dec4 {f : Nat} (h : f < 1000) : Go.Lib.decDigits (1000 + f) = [49, UInt8.ofNat (48 + f / 100), UInt8.ofNat (48 + f / 10 % 10), UInt8.ofNat (48 + f % 10)] := by
  rw [decd_big (by omega), decd_big (by omega), decd_big (by omega), decd_small (by omega)]
  rw [show (1000 + f) % 10 = f % 10 by omega, show (1000 + f) / 10 % 10 = f / 10 % 10 by omega, show (1000 + f) / 10 / 10 % 10 = f / 100 by omega, show (1000 + f) / 10 / 10 / 10 = 1 by omega]
  rfl
theorem itoa_nn (n : Nat) : Go.Lib.itoa (n : Int) = Go.Lib.decDigits n := by
  unfold Go.Lib.itoa
  rw [if_neg (by omega), Int.toNat_natCast]
theorem dig_eq {d : Nat} (h : d < 10) (e : UInt8.ofNat (48 + d) = 48) : d = 0 := by
  have := congrArg UInt8.toNat e
  rw [UInt8.toNat_ofNat'] at this
  have h48 : (48 : UInt8).toNat = 48 := rfl
  omega
theorem frac_ne {f : Nat} (h : f < 1000) (h0 : f ≠ 0) : Go.Lib.trimRightB ((Go.Lib.decDigits (1000 + f)).drop 1) 48 ≠ [] := by
  rw [dec4 h]
  show Go.Lib.trimRightB ([UInt8.ofNat (48 + f / 100), UInt8.ofNat (48 + f / 10 % 10)] ++ [UInt8.ofNat (48 + f % 10)]) 48 ≠ []
  by_cases h3 : UInt8.ofNat (48 + f % 10) = 48
  · rw [h3, trimR_zero]
    show Go.Lib.trimRightB ([UInt8.ofNat (48 + f / 100)] ++ [UInt8.ofNat (48 + f / 10 % 10)]) 48 ≠ []
    by_cases h2 : UInt8.ofNat (48 + f / 10 % 10) = 48
    · rw [h2, trimR_zero]
      show Go.Lib.trimRightB ([] ++ [UInt8.ofNat (48 + f / 100)]) 48 ≠ []
      by_cases h1 : UInt8.ofNat (48 + f / 100) = 48
      · have e1 := dig_eq (by omega) h1
        have e2 := dig_eq (by omega) h2
        have e3 := dig_eq (by omega) h3
        omega
      · rw [trimR_other _ h1]; simp
    · rw [trimR_other _ h2]; simp
  · rw [trimR_other _ h3]; simp
set_option maxRecDepth 10000 in
set_option maxHeartbeats 2000000 in
theorem rshow_ok {n : Int} (hn : I64 n) (h : Hp) : ACall PX 18 [nI n] h (fun v g => v = bs (showF n) ∧ h = g) := by
  obtain ⟨n1, n2⟩ := hn
  have hmr : 0 ≤ absB n ∧ absB n ≤ 9223372036854775807 := by
    unfold absB
    split <;> omega
  obtain ⟨M, hm⟩ : ∃ M : Nat, absB n = (M : Int) := ⟨(absB n).toNat, by omega⟩
  rw [hm] at hmr
  have hq : (M : Int) / 1000 = ((M / 1000 : Nat) : Int) := by omega
  have hf : (1000 : Int) + (M : Int) % 1000 = ((1000 + M % 1000 : Nat) : Int) := by omega
  have hl1 := dec_len (N := M / 1000) (by omega)
  have hl2 := dec_len (N := 1000 + M % 1000) (by omega)
  have hd4 := dec4 (f := M % 1000) (by omega)
  have hd5 : 1 ≤ (Go.Lib.decDigits (1000 + M % 1000)).length := by rw [hd4]; simp
  unfold showF fracB
  rw [hm, hf, hq, itoa_nn, itoa_nn]
  refine acall Go.Proofs.Tryd.func18 c18 (by simp [ir18]) ?_
  unfold ir18
  dsimp only
  repeat (first | rw [thenQ_r] | rw [blockQ_r] | rw [roundE_r])
  refine ai_seq ?_
  repeat (first | refine sS ?_ | refine sE ?_ | refine w_mv rfl ?_ | refine ai_regW ?_)
  repeat (first | rw [thenQ_r] | rw [blockQ_r] | rw [roundE_r])
  repeat (first | rw [thenQ_r] | rw [blockQ_r] | rw [roundE_r])
  refine ai_seq ?_
  repeat (first | refine sS ?_ | refine sE ?_ | refine w_mv rfl ?_ | refine ai_regW ?_)
  repeat (first | rw [thenQ_r] | rw [blockQ_r] | rw [roundE_r])
  refine ai_join (γ := Unit) (fun _ => [(0, nI M), (3, bs (if n < 0 then [45] else []))]) (fun _ g => h = g) ?_ ?_
  · by_cases h0 : n < 0
    · rw [if_pos h0]
      have he : -(max n (-9223372036854775807)) = (M : Int) := by rw [← hm]; unfold absB; rw [if_pos h0]
      repeat (first | refine sS ?_ | refine sE ?_ | refine w_mv rfl ?_ | (refine w_cmp (c2 := true) rfl ?_ ?_; focus (first | exact decide_eq_true (by omega) | (simp; done) | (simp; omega))) | (refine w_neg rfl ?_ ?_; (focus omega)) | refine w_max rfl ?_ | refine ai_seq ?_ | refine ai_regW ?_ | refine ai_condF (b := true) rfl (fun _ => ?_) (fun hb => by cases hb))
      rw [he]
      skip
      exact ⟨rfl, (), (by repeat (first | exact le_nil | refine le_consF rfl ?_)), rfl⟩
    · rw [if_neg h0]
      have he : n = (M : Int) := by rw [← hm]; unfold absB; rw [if_neg h0]
      subst he
      repeat (first | refine sS ?_ | refine sE ?_ | refine w_mv rfl ?_ | (refine w_cmp (c2 := false) rfl ?_ ?_; focus (first | exact decide_eq_false (by omega) | (simp; done) | (simp; omega))) | refine ai_seq ?_ | refine ai_regW ?_ | refine ai_condF (b := false) rfl (fun hb => by cases hb) (fun _ => ?_) | refine ai_skip ?_)
      exact ⟨rfl, (), (by repeat (first | exact le_nil | refine le_consF rfl ?_)), rfl⟩
  rintro _ _ rfl
  have hsl : (if n < 0 then [45] else [] : List UInt8).length ≤ 1 := by split <;> simp
  generalize (if n < 0 then [45] else [] : List UInt8) = sg at *
  repeat (first | refine sS ?_ | refine w_mv rfl ?_ | (refine w_quo rfl ?_ ?_ ?_; (focus omega); (focus omega)) | refine ai_seq ?_ | refine ai_regW ?_)
  rw [hq]
  repeat (first | refine sS ?_ | (refine w_call rfl ((decimal_ok (M / 1000) (by omega) _).mono ?_); rintro _ _ ⟨rfl, rfl⟩))
  refine w_catB (a := sg) (b := Go.Lib.decDigits (M / 1000)) rfl (by omega) ?_
  by_cases hz : (M : Int) % 1000 = 0
  · rw [if_pos hz, List.append_nil]
    repeat (first | refine sS ?_ | refine sE ?_ | refine w_mv rfl ?_ | (refine w_cmp (c2 := true) rfl ?_ ?_; focus (first | exact decide_eq_true (by omega) | (simp; done) | (simp; omega))) | (refine w_rem rfl ?_ ?_ ?_; (focus omega); (focus omega)) | refine ai_seq ?_ | refine ai_regW ?_ | refine ai_condF (b := true) rfl (fun _ => ?_) (fun hb => by cases hb) | (refine ai_ret ?_; repeat (first | rw [thenQ_r] | rw [blockQ_r] | rw [roundE_r])))
    exact ⟨_, rfl, rfl, rfl⟩
  · rw [if_neg hz]
    repeat (first | refine sS ?_ | refine sE ?_ | refine w_mv rfl ?_ | (refine w_add rfl ?_ ?_; (focus omega)) | (refine w_cmp (c2 := false) rfl ?_ ?_; focus (first | exact decide_eq_false (by omega) | (simp; done) | (simp; omega))) | (refine w_rem rfl ?_ ?_ ?_; (focus omega); (focus omega)) | refine ai_seq ?_ | refine ai_regW ?_ | refine ai_condF (b := false) rfl (fun hb => by cases hb) (fun _ => ?_) | refine ai_skip ?_)
    rw [hf]
    repeat (first | refine sS ?_ | (refine w_call rfl ((decimal_ok (1000 + M % 1000) (by omega) _).mono ?_); rintro _ _ ⟨rfl, rfl⟩))
    refine w_slsS (l := Go.Lib.decDigits (1000 + M % 1000)) (i := 1) rfl hd5 ?_
    repeat (first | refine sS ?_ | refine sE ?_ | refine w_mv rfl ?_ | refine ai_seq ?_ | refine ai_block ?_)
    have hne := frac_ne (f := M % 1000) (by omega) (by omega)
    have hl3 := trimR_len ((Go.Lib.decDigits (1000 + M % 1000)).drop 1) 48
    rw [List.length_drop] at hl3
    have hl4 : ((Go.Lib.decDigits (1000 + M % 1000)).drop 1).length ≤ 20 := by rw [List.length_drop]; omega
    obtain ⟨T, hT⟩ : ∃ T, (Go.Lib.decDigits (1000 + M % 1000)).drop 1 = T := ⟨_, rfl⟩
    rw [hT] at hne hl3 hl4 ⊢
    obtain ⟨R, hR⟩ : ∃ R, Go.Lib.trimRightB T 48 = R := ⟨_, rfl⟩
    rw [hR] at hne hl3 ⊢
    refine ai_loopE (γ := List UInt8) (fun t => [(3, bs (sg ++ Go.Lib.decDigits (M / 1000))), (4, bs t)])
      (fun t g => h = g ∧ t.length ≤ 20 ∧ Go.Lib.trimRightB t 48 = R) (fun t => t.length) T
      (by repeat (first | exact le_nil | refine le_consF rfl ?_)) ⟨rfl, hl4, hR⟩ ?_
    rintro t g1 ⟨rfl, ht, htr⟩
    have htn : t ≠ [] := by
      rintro rfl
      exact hne htr.symm
    obtain ⟨s, b, rfl⟩ : ∃ s b, t = s ++ [b] := ⟨t.dropLast, t.getLast htn, (List.dropLast_concat_getLast htn).symm⟩
    have hz2 := sz_mk (s ++ [b])
    rw [List.length_append, List.length_singleton] at hz2 ht
    have hi : ((ByteArray.mk (s ++ [b]).toArray).size : Int) - 1 = (s.length : Int) := by omega
    repeat (first | refine sS ?_ | refine w_mv rfl ?_ | (refine is_okn rfl ?_; refine w_op rfl ?_) | (refine w_sub rfl ?_ ?_; (focus omega)) | refine ai_seq ?_ | refine ai_regW ?_)
    rw [hi]
    refine w_ixs (b := b) rfl (by simp) ?_
    by_cases hb : b = 48
    · subst hb
      rw [trimR_zero] at htr
      repeat (first | refine sS ?_ | refine sE ?_ | refine w_mv rfl ?_ | (refine is_okn rfl ?_; refine w_op rfl ?_) | (refine w_sub rfl ?_ ?_; (focus omega)) | (refine w_cmp (c2 := true) rfl ?_ ?_; focus (first | exact decide_eq_true (by omega) | (simp; done) | (simp; omega))) | refine ai_regW ?_ | refine ai_condF (b := true) rfl (fun _ => ?_) (fun hb => by cases hb) | refine ai_skip ?_ | refine ai_block ?_)
      rw [hi]
      refine w_slsP rfl (by simp) ?_
      rw [List.take_left']
      repeat (first | refine sS ?_ | refine sE ?_ | refine w_mv rfl ?_)
      exact ⟨s, (by repeat (first | exact le_nil | refine le_consF rfl ?_)), ⟨rfl, by omega, htr⟩, by simp⟩
      rfl
    · have hb2 : b.toNat ≠ 48 := fun q => hb (UInt8.toNat_inj.1 q)
      rw [trimR_other _ hb] at htr
      repeat (first | refine sS ?_ | refine sE ?_ | refine w_mv rfl ?_ | (refine w_cmp (c2 := false) rfl ?_ ?_; focus (first | exact decide_eq_false (by omega) | (simp; done) | (simp; omega))) | refine ai_seq ?_ | refine ai_regW ?_ | refine ai_condF (b := false) rfl (fun hb => by cases hb) (fun _ => ?_) | refine ai_exit ?_)
      refine w_catB (b := [46]) rfl (by rw [List.length_append]; simp; omega) ?_
      repeat (first | refine sS ?_ | refine w_mv rfl ?_)
      rw [htr]
      refine w_catB rfl (by rw [List.length_append, List.length_append]; simp only [List.length_cons, List.length_nil]; omega) ?_
      repeat (first | refine sS ?_ | refine sE ?_ | refine w_mv rfl ?_ | (refine ai_ret ?_; repeat (first | rw [thenQ_r] | rw [blockQ_r] | rw [roundE_r])))
      exact ⟨_, rfl, by simp [pack], rfl⟩
end Go.Proofs.YtapbmmlgmcmpnaaDoorW.Am
/- Settings over abstract heaps: within, Wrong, May. -/
namespace Go.Proofs.YtapbmmlgmcmpnaaDoorW.Am
open Go Go.RowKit
theorem within_l (h : Hp) (n lo hi : Int) : ACall PX 65 [.iface 2 (nI n), nI lo, nI hi] h (fun v g => v = .bool (decide (lo ≤ n) && decide (n ≤ hi)) ∧ h = g) := by
  refine acall Go.Proofs.Tryd.func65 c65 (by simp [ir65]) ?_
  unfold ir65
  dsimp only
  repeat (first | refine sS ?_ | refine sE ?_ | refine w_mv rfl ?_ | (refine is_okk rfl ?_; refine w_op rfl ?_) | refine w_ext rfl rfl ?_ | refine ai_seq ?_ | refine ai_regW ?_ | refine ai_condF (b := true) rfl (fun _ => ?_) (fun hb => by cases hb))
  by_cases h1 : lo ≤ n
  · rw [decide_eq_true h1, Bool.true_and]
    by_cases h2 : n ≤ hi
    · rw [decide_eq_true h2]
      repeat (first | refine sS ?_ | refine sE ?_ | refine w_mv rfl ?_ | refine w_pickT rfl ?_ | refine w_gT rfl rfl ?_ | (refine w_cmp (c2 := true) rfl ?_ ?_; focus (first | exact decide_eq_true (by omega) | (simp; done) | (simp; omega))) | (refine ai_ret ?_; repeat (first | rw [thenQ_r] | rw [blockQ_r] | rw [roundE_r])))
      exact end_one rfl ⟨rfl, rfl⟩
    · rw [decide_eq_false h2]
      repeat (first | refine sS ?_ | refine sE ?_ | refine w_mv rfl ?_ | refine w_pickT rfl ?_ | refine w_gT rfl rfl ?_ | (refine w_cmp (c2 := true) rfl ?_ ?_; focus (first | exact decide_eq_true (by omega) | (simp; done) | (simp; omega))) | (refine w_cmp (c2 := false) rfl ?_ ?_; focus (first | exact decide_eq_false (by omega) | (simp; done) | (simp; omega))) | (refine ai_ret ?_; repeat (first | rw [thenQ_r] | rw [blockQ_r] | rw [roundE_r])))
      exact end_one rfl ⟨rfl, rfl⟩
  · rw [decide_eq_false h1, Bool.false_and]
    repeat (first | refine sS ?_ | refine sE ?_ | refine w_mv rfl ?_ | refine w_pickF rfl ?_ | refine w_gF rfl rfl ?_ | (refine w_cmp (c2 := false) rfl ?_ ?_; focus (first | exact decide_eq_false (by omega) | (simp; done) | (simp; omega))) | (refine ai_ret ?_; repeat (first | rw [thenQ_r] | rw [blockQ_r] | rw [roundE_r])))
    exact end_one rfl ⟨rfl, rfl⟩
theorem within_i (h : Hp) (n lo hi : Int) : ACall PX 65 [.iface 3 (nI n), nI lo, nI hi] h (fun v g => v = .bool (decide (lo ≤ n) && decide (n ≤ hi)) ∧ h = g) := by
  refine acall Go.Proofs.Tryd.func65 c65 (by simp [ir65]) ?_
  unfold ir65
  dsimp only
  repeat (first | refine sS ?_ | refine sE ?_ | refine w_mv rfl ?_ | (refine is_okk rfl ?_; refine w_op rfl ?_) | refine w_ext rfl rfl ?_ | refine w_gT rfl rfl ?_ | refine ai_seq ?_ | refine ai_regW ?_ | refine ai_condF (b := false) rfl (fun hb => by cases hb) (fun _ => ?_) | refine ai_skip ?_)
  by_cases h1 : lo ≤ n
  · rw [decide_eq_true h1, Bool.true_and]
    by_cases h2 : n ≤ hi
    · rw [decide_eq_true h2]
      repeat (first | refine sS ?_ | refine sE ?_ | refine w_mv rfl ?_ | refine w_pickT rfl ?_ | refine w_gT rfl rfl ?_ | (refine w_cmp (c2 := true) rfl ?_ ?_; focus (first | exact decide_eq_true (by omega) | (simp; done) | (simp; omega))) | (refine ai_ret ?_; repeat (first | rw [thenQ_r] | rw [blockQ_r] | rw [roundE_r])))
      exact end_one rfl ⟨rfl, rfl⟩
    · rw [decide_eq_false h2]
      repeat (first | refine sS ?_ | refine sE ?_ | refine w_mv rfl ?_ | refine w_pickT rfl ?_ | refine w_gT rfl rfl ?_ | (refine w_cmp (c2 := true) rfl ?_ ?_; focus (first | exact decide_eq_true (by omega) | (simp; done) | (simp; omega))) | (refine w_cmp (c2 := false) rfl ?_ ?_; focus (first | exact decide_eq_false (by omega) | (simp; done) | (simp; omega))) | (refine ai_ret ?_; repeat (first | rw [thenQ_r] | rw [blockQ_r] | rw [roundE_r])))
      exact end_one rfl ⟨rfl, rfl⟩
  · rw [decide_eq_false h1, Bool.false_and]
    repeat (first | refine sS ?_ | refine sE ?_ | refine w_mv rfl ?_ | refine w_pickT rfl ?_ | refine w_pickF rfl ?_ | refine w_gF rfl rfl ?_ | (refine w_cmp (c2 := false) rfl ?_ ?_; focus (first | exact decide_eq_false (by omega) | (simp; done) | (simp; omega))) | (refine ai_ret ?_; repeat (first | rw [thenQ_r] | rw [blockQ_r] | rw [roundE_r])))
    exact end_one rfl ⟨rfl, rfl⟩
/-- Settings: twenty numbers. -/
structure Cf20 where
  (target util stable panic grain threshold up down min max initial grace delay burst limit queue timeout ready subset sample : Int)
def cs20 (c : Cf20) : List Value := [nI c.target, nI c.util, nI c.stable, nI c.panic, nI c.grain, nI c.threshold, nI c.up, nI c.down, nI c.min, nI c.max, nI c.initial, nI c.grace, nI c.delay, nI c.burst, nI c.limit, nI c.queue, nI c.timeout, nI c.ready, nI c.subset, nI c.sample]
def inB (n lo hi : Int) : Bool := decide (lo ≤ n) && decide (n ≤ hi)
/-- The parts' names, and whether each may be. -/
def wrB (c : Cf20) (b1 b2 : Bool) : List (ByteArray × Bool) := [(⟨#[116, 97, 114, 103, 101, 116]⟩, inB c.target 10 1000000), (⟨#[117, 116, 105, 108]⟩, inB c.util 100 1000), (⟨#[115, 116, 97, 98, 108, 101]⟩, inB c.stable 6 600), (⟨#[112, 97, 110, 105, 99]⟩, inB c.panic 1 c.stable), (⟨#[103, 114, 97, 105, 110]⟩, inB c.grain 1 c.panic), (⟨#[116, 104, 114, 101, 115, 104, 111, 108, 100]⟩, inB c.threshold 1100 10000), (⟨#[117, 112]⟩, inB c.up 1001 1000000), (⟨#[100, 111, 119, 110]⟩, inB c.down 1001 1000000), (⟨#[109, 105, 110]⟩, inB c.min 0 100), (⟨#[109, 97, 120]⟩, (b1 || inB c.max (if 1 > c.min then 1 else c.min) 100)), (⟨#[105, 110, 105, 116, 105, 97, 108]⟩, inB c.initial 0 (if c.max = 0 then 100 else c.max)), (⟨#[103, 114, 97, 99, 101]⟩, inB c.grace 0 600), (⟨#[100, 101, 108, 97, 121]⟩, inB c.delay 0 600), (⟨#[98, 117, 114, 115, 116]⟩, (b2 || inB c.burst 0 100000000)), (⟨#[108, 105, 109, 105, 116]⟩, inB c.limit 1 1000), (⟨#[113, 117, 101, 117, 101]⟩, inB c.queue 0 200), (⟨#[116, 105, 109, 101, 111, 117, 116]⟩, inB c.timeout 1 10000), (⟨#[114, 101, 97, 100, 121]⟩, inB c.ready 0 100), (⟨#[115, 117, 98, 115, 101, 116]⟩, inB c.subset 0 100), (⟨#[115, 97, 109, 112, 108, 101]⟩, inB c.sample 0 100)]
def wrL (c : Cf20) : List (ByteArray × Bool) := wrB c (c.max == 0) (c.burst == -1000)
def wrongF : List (ByteArray × Bool) → ByteArray
  | [] => ⟨#[]⟩
  | (s, b) :: r => if b = true then wrongF r else s
def rowW (l : List (ByteArray × Bool)) : List Value := l.flatMap fun p => [.string p.1, .bool p.2]
theorem rowW_drop : ∀ (l : List (ByteArray × Bool)) (i : Nat), (rowW l).drop (i * 2) = rowW (l.drop i)
  | l, 0 => by simp
  | [], i + 1 => by simp [rowW]
  | p :: l, i + 1 => by rw [show (i + 1) * 2 = i * 2 + 1 + 1 by omega]; simp only [rowW, List.flatMap_cons, List.cons_append, List.nil_append, List.drop_succ_cons]; exact rowW_drop l i
theorem rowW_len : ∀ l, (rowW l).length = l.length * 2
  | [] => rfl
  | p :: l => by have := rowW_len l; simp only [rowW, List.flatMap_cons, List.length_append, List.length_cons, List.length_nil] at this ⊢; omega
theorem rowW_rd {h : Hp} {j : Nat} {l : List (ByteArray × Bool)} {b : Bool} {e : Nat} (hg : h.get j = some ⟨rowW l, b, e⟩) {i : Nat} {p : ByteArray × Bool} (hi : l[i]? = some p) : h.rd j (0 + ((i : Nat) : Int).toNat * 2) 2 = some [.string p.1, .bool p.2] := by
  obtain ⟨hl, rfl⟩ := List.getElem?_eq_some_iff.1 hi
  have hn := rowW_len l
  unfold Hp.rd
  simp only [hg, Nat.zero_add, Int.toNat_natCast]
  rw [if_pos (by omega), rowW_drop, List.drop_eq_getElem_cons hl]
  rfl
set_option maxHeartbeats 4000000 in
set_option maxRecDepth 10000 in
theorem wrong_ok (h : Hp) (c : Cf20) : ACall PX 50 [.agg ⟨cs20 c⟩] h (fun v g => v = .string (wrongF (wrL c)) ∧ Ext h g) := by
  refine acall Go.Proofs.Tryd.func50 c50 (by simp [ir50]) ?_
  unfold ir50
  dsimp only
  refine ai_seq ?_
  repeat (first | refine sS ?_ | refine sE ?_ | refine w_mv rfl ?_ | (refine is_okk rfl ?_; refine w_op rfl ?_) | refine ai_regW ?_)
  refine ai_seq ?_
  repeat (first | refine sS ?_ | refine sE ?_ | refine w_mv rfl ?_ | refine ai_regW ?_)
  refine ai_join (γ := Unit) (fun _ => [(1, ptr h.nx), (3, nI (if c.max = 0 then 100 else c.max))]) (fun _ g => g = h.new ⟨cs20 c, true, 0⟩) ?_ ?_
  · refine ai_seq ?_
    repeat (first | refine sS ?_ | (refine is_okk rfl ?_; refine w_op rfl ?_) | (refine is_ld ?_; refine w_ld rfl (by first | exact rd_g ‹_› rfl | exact rd_new rfl | assumption) ?_) | refine ai_regW ?_)
    by_cases h0 : c.max = 0
    · rw [if_pos h0]
      repeat (first | refine sE ?_ | (refine w_cmp (c2 := false) rfl ?_ ?_; focus (first | exact decide_eq_false (by omega) | (simp; done) | (simp; omega))) | refine ai_condF (b := false) rfl (fun hb => by cases hb) (fun _ => ?_) | refine ai_skip ?_)
      exact ⟨rfl, (), (by repeat (first | exact le_nil | refine le_consF rfl ?_)), rfl⟩
    · rw [if_neg h0]
      repeat (first | refine sS ?_ | refine sE ?_ | refine w_mv rfl ?_ | (refine is_okk rfl ?_; refine w_op rfl ?_) | (refine is_ld ?_; refine w_ld rfl (by first | exact rd_g ‹_› rfl | exact rd_new rfl | assumption) ?_) | (refine w_cmp (c2 := true) rfl ?_ ?_; focus (first | exact decide_eq_true (by omega) | (simp; done) | (simp; omega))) | refine ai_regW ?_ | refine ai_condF (b := true) rfl (fun _ => ?_) (fun hb => by cases hb))
      exact ⟨rfl, (), (by repeat (first | exact le_nil | refine le_consF rfl ?_)), rfl⟩
  rintro _ _ rfl
  refine ai_seq (ai_seq (ai_drwW (by kernel_rfl) ?_))
  repeat (first | refine dS ?_ | (refine is_okk rfl ?_; refine w_op rfl ?_) | (refine is_ld ?_; refine w_ld rfl (by first | exact rd_g ‹_› rfl | exact rd_new rfl | assumption) ?_))
  refine w_op rfl ?_
  generalize hb1 : (c.max == 0) = b1
  repeat (first | refine dS ?_ | refine w_mv rfl ?_ | (refine is_okk rfl ?_; refine w_op rfl ?_) | (refine is_ld ?_; refine w_ld rfl (by first | exact rd_g ‹_› rfl | exact rd_new rfl | assumption) ?_))
  refine w_op rfl ?_
  generalize hb2 : (c.burst == -1000) = b2
  repeat (first | refine dS ?_ | refine dSR ?_ | (refine agS ?_ ?_; focus (repeat (first | exact ag_nil | refine ag_cons (by first | exact ag_gF rfl rfl | exact ag_l rfl rfl (by first | exact rd_g ‹_› rfl | exact rd_new rfl | assumption) | exact ag_gT rfl rfl (ag_l rfl rfl (by first | exact rd_g ‹_› rfl | exact rd_new rfl | assumption)) | exact ag_ln rfl rfl (by first | exact rd_all ‹_› rfl | exact rd_newn rfl | assumption) | exact ag_gT rfl rfl (ag_ln rfl rfl (by first | exact rd_all ‹_› rfl | exact rd_newn rfl | assumption))) ?_))) | refine w_mv rfl ?_ | refine w_bldF rfl rfl rfl rfl rfl ?_ | (refine is_okk rfl ?_; refine w_op rfl ?_) | (refine is_ld ?_; refine w_ld rfl (by first | exact rd_g ‹_› rfl | exact rd_new rfl | assumption) ?_) | (refine w_call rfl ((within_l _ _ _ _).mono ?_); rintro _ _ ⟨rfl, rfl⟩) | (refine w_call rfl ((within_i _ _ _ _).mono ?_); rintro _ _ ⟨rfl, rfl⟩))
  repeat (first | refine dS ?_ | refine dSR ?_ | refine w_gB rfl (by intro hc; simp at hc; subst hc; first | rfl | exact o_ldF rfl (rd_new rfl)) ?_)
  refine w_gBc rfl (fun _ _ hr c => c.mono hr) (by intro hc; simp at hc; subst hc; rfl) (within_i _ _ _ _) ?_
  refine agS (by repeat (first | exact ag_nil | refine ag_cons (by first | exact ag_gF rfl rfl | exact ag_l rfl rfl (by first | exact rd_g ‹_› rfl | exact rd_new rfl | assumption) | exact ag_gT rfl rfl (ag_l rfl rfl (by first | exact rd_g ‹_› rfl | exact rd_new rfl | assumption)) | exact ag_ln rfl rfl (by first | exact rd_all ‹_› rfl | exact rd_newn rfl | assumption) | exact ag_gT rfl rfl (ag_ln rfl rfl (by first | exact rd_all ‹_› rfl | exact rd_newn rfl | assumption))) ?_)) ?_
  refine dS (w_v rfl (v2 := .bool (b1 || inB c.max (if 1 > c.min then 1 else c.min) 100)) (by cases b1 <;> rfl) ?_)
  repeat (first | refine dS ?_ | refine dSR ?_ | (refine agS ?_ ?_; focus (repeat (first | exact ag_nil | refine ag_cons (by first | exact ag_gF rfl rfl | exact ag_l rfl rfl (by first | exact rd_g ‹_› rfl | exact rd_new rfl | assumption) | exact ag_gT rfl rfl (ag_l rfl rfl (by first | exact rd_g ‹_› rfl | exact rd_new rfl | assumption)) | exact ag_ln rfl rfl (by first | exact rd_all ‹_› rfl | exact rd_newn rfl | assumption) | exact ag_gT rfl rfl (ag_ln rfl rfl (by first | exact rd_all ‹_› rfl | exact rd_newn rfl | assumption))) ?_))) | refine w_mv rfl ?_ | refine w_bldF rfl rfl rfl rfl rfl ?_ | (refine w_call rfl ((within_i _ _ _ _).mono ?_); rintro _ _ ⟨rfl, rfl⟩))
  repeat (first | refine dS ?_ | refine dSR ?_ | refine w_gB rfl (by intro hc; simp at hc; subst hc; first | rfl | exact o_ldF rfl (rd_new rfl)) ?_)
  refine w_gBc rfl (fun _ _ hr c => c.mono hr) (by intro hc; simp at hc; subst hc; rfl) (within_l _ _ _ _) ?_
  refine agS (by repeat (first | exact ag_nil | refine ag_cons (by first | exact ag_gF rfl rfl | exact ag_l rfl rfl (by first | exact rd_g ‹_› rfl | exact rd_new rfl | assumption) | exact ag_gT rfl rfl (ag_l rfl rfl (by first | exact rd_g ‹_› rfl | exact rd_new rfl | assumption)) | exact ag_ln rfl rfl (by first | exact rd_all ‹_› rfl | exact rd_newn rfl | assumption) | exact ag_gT rfl rfl (ag_ln rfl rfl (by first | exact rd_all ‹_› rfl | exact rd_newn rfl | assumption))) ?_)) ?_
  refine dS (w_v rfl (v2 := .bool (b2 || inB c.burst 0 100000000)) (by cases b2 <;> rfl) ?_)
  repeat (first | refine dS ?_ | refine dSR ?_ | (refine agS ?_ ?_; focus (repeat (first | exact ag_nil | refine ag_cons (by first | exact ag_gF rfl rfl | exact ag_l rfl rfl (by first | exact rd_g ‹_› rfl | exact rd_new rfl | assumption) | exact ag_gT rfl rfl (ag_l rfl rfl (by first | exact rd_g ‹_› rfl | exact rd_new rfl | assumption)) | exact ag_ln rfl rfl (by first | exact rd_all ‹_› rfl | exact rd_newn rfl | assumption) | exact ag_gT rfl rfl (ag_ln rfl rfl (by first | exact rd_all ‹_› rfl | exact rd_newn rfl | assumption))) ?_))) | refine w_bldF rfl rfl rfl rfl rfl ?_ | (refine w_call rfl ((within_i _ _ _ _).mono ?_); rintro _ _ ⟨rfl, rfl⟩))
  refine w_bslF rfl rfl rfl rfl rfl ?_
  intro g xg hg hng
  have hg2 : g.get (h.nx + 1) = some ⟨rowW (wrB c b1 b2), true, 2⟩ := hg
  have hw : wrB c b1 b2 = wrL c := by subst hb1 hb2; rfl
  rw [hw] at hg2
  have hng2 : h.nx + 1 < g.nx := hng
  have hl20 : (wrL c).length = 20 := rfl
  have x0 : Ext h g := (Ext.new _ _).trans xg
  clear hg xg hw
  generalize wrL c = l at hg2 hl20 ⊢
  repeat (first | refine dS ?_ | refine dE ?_ | (refine is_okk rfl ?_; refine w_op rfl ?_) | refine ai_block ?_)
  refine ai_loopE (γ := Nat) (fun i => [(129, .slice (some ⟨h.nx + 1, 0, none⟩) 20 20), (130, nI 20), (131, nI i)]) (fun i g' => Ext g g' ∧ i ≤ 20 ∧ wrongF (l.drop i) = wrongF l) (fun i => 20 - i) 0
    (by repeat (first | exact le_nil | refine le_consF rfl ?_)) ⟨Ext.refl _, Nat.zero_le _, rfl⟩ ?_
  rintro i g1 ⟨x1, hi, hwr⟩
  by_cases hi20 : i < 20
  · obtain ⟨p, hp⟩ : ∃ p, l[i]? = some p := ⟨_, List.getElem?_eq_getElem (by omega)⟩
    have hp2 : l.drop i = p :: l.drop (i + 1) := by
      obtain ⟨h1, rfl⟩ := List.getElem?_eq_some_iff.1 hp
      exact List.drop_eq_getElem_cons h1
    rw [hp2] at hwr
    have hrd := rowW_rd ((x1.2 (h.nx + 1) hng2).trans hg2) hp
    refine ai_seq ?_
    repeat (first | refine sS ?_ | refine sE ?_ | (refine w_cmp (c2 := true) rfl ?_ ?_; focus (first | exact decide_eq_true (by omega) | (simp; done) | (simp; omega))) | refine ai_regW ?_)
    refine ai_seq ?_
    repeat (first | refine ai_condF (b := true) rfl (fun _ => ?_) (fun hb => by cases hb) | refine ai_skip ?_)
    refine ai_seq ?_
    repeat (first | refine ai_block ?_)
    refine ai_seq ?_
    refine ai_regW (sS (w_iad rfl (by omega) (sS (w_ldn rfl hrd (sS (w_new ?_))))))
    intro g2 x2 k2 n2
    refine sSn (w_stN rfl rfl k2 rfl rfl fun g3 m3 k3 n3 => sE ?_)
    have x3 := x1.trans (x2.own m3 n3)
    obtain ⟨s, b⟩ := p
    dsimp only [wrongF] at hwr k3
    cases b
    · rw [if_neg (by decide)] at hwr
      repeat (first | refine sS ?_ | refine sE ?_ | refine w_mv rfl ?_ | (refine is_okk rfl ?_; refine w_op rfl ?_) | (refine is_ld ?_; refine w_ld rfl (by first | exact rd_g ‹_› rfl | exact rd_new rfl | assumption) ?_) | refine ai_seq ?_ | refine ai_regW ?_ | refine ai_condF (b := true) rfl (fun _ => ?_) (fun hb => by cases hb) | (refine ai_ret ?_; repeat (first | rw [thenQ_r] | rw [blockQ_r] | rw [roundE_r])))
      exact end_one rfl ⟨by rw [hwr], x0.trans x3⟩
    · rw [if_pos rfl] at hwr
      repeat (first | refine sS ?_ | refine sE ?_ | refine w_mv rfl ?_ | (refine is_okk rfl ?_; refine w_op rfl ?_) | (refine is_ld ?_; refine w_ld rfl (by first | exact rd_g ‹_› rfl | exact rd_new rfl | assumption) ?_) | (refine w_add rfl ?_ ?_; (focus omega)) | refine ai_seq ?_ | refine ai_regW ?_ | refine ai_condF (b := false) rfl (fun hb => by cases hb) (fun _ => ?_) | refine ai_skip ?_)
      exact ⟨i + 1, (by repeat (first | exact le_nil | refine le_consF rfl ?_)), ⟨x3, by omega, hwr⟩, by dsimp only; omega⟩
  · have e20 : i = l.length := by omega
    rw [e20, List.drop_length] at hwr
    repeat (first | refine sS ?_ | refine sE ?_ | refine w_mv rfl ?_ | (refine w_cmp (c2 := false) rfl ?_ ?_; focus (first | exact decide_eq_false (by omega) | (simp; done) | (simp; omega))) | refine ai_seq ?_ | refine ai_regW ?_ | refine ai_condF (b := false) rfl (fun hb => by cases hb) (fun _ => ?_) | refine ai_exit ?_ | (refine ai_ret ?_; repeat (first | rw [thenQ_r] | rw [blockQ_r] | rw [roundE_r])))
    exact end_one rfl ⟨by rw [← hwr]; rfl, x0.trans x1⟩
/-- May the settings be? -/
def mayB (c : Cf20) : Bool := (wrL c).all fun p => p.2
theorem wrong_empty : ∀ (l : List (ByteArray × Bool)), (l.all fun p => decide (p.1.size ≠ 0)) = true → ((wrongF l).toList == (⟨#[]⟩ : ByteArray).toList) = l.all fun p => p.2
  | [], _ => by simp [wrongF]
  | (s, b) :: l, h => by
    simp only [List.all_cons, Bool.and_eq_true, decide_eq_true_eq] at h
    cases b
    · simp only [wrongF, Bool.false_eq_true, if_false, List.all_cons, Bool.false_and]
      rw [beq_eq_false_iff_ne, ByteArray.toList_eq, ByteArray.toList_eq]
      intro e
      have e2 : s.data.toList.length = 0 := by rw [e]; rfl
      exact h.1 (by show s.data.size = 0; simpa using e2)
    · simp only [wrongF, if_true, List.all_cons, Bool.true_and]
      exact wrong_empty l h.2
theorem wrL_names (c : Cf20) : ((wrL c).all fun p => decide (p.1.size ≠ 0)) = true := by kernel_rfl
theorem may_ok (h : Hp) (c : Cf20) : ACall PX 27 [.agg ⟨cs20 c⟩] h (fun v g => v = .bool (mayB c) ∧ Ext h g) := by
  refine acall Go.Proofs.Tryd.func27 c27 (by simp [ir27]) ?_
  unfold ir27
  dsimp only
  refine ai_seq (ai_regW (sS (w_box rfl fun g1 x1 k1 n1 => ?_)))
  repeat (first | refine sS ?_ | refine sE ?_ | refine w_mv rfl ?_ | (refine is_ldn ?_; refine w_ldn rfl (by first | exact rd_all ‹_› rfl | exact rd_newn rfl | assumption) ?_) | refine ai_seq ?_ | refine ai_regW ?_)
  refine w_call rfl ((wrong_ok _ c).mono ?_)
  rintro v g2 ⟨rfl, x2⟩
  repeat (first | refine sS ?_)
  refine w_cmp (c2 := mayB c) rfl (wrong_empty _ (wrL_names c)) ?_
  repeat (first | refine sS ?_ | refine sE ?_ | refine w_mv rfl ?_ | (refine ai_ret ?_; repeat (first | rw [thenQ_r] | rw [blockQ_r] | rw [roundE_r])))
  exact end_one rfl ⟨rfl, x1.trans x2⟩
end Go.Proofs.YtapbmmlgmcmpnaaDoorW.Am
/- The document's own settings: names, values, which are in thousandths, which may be. -/
namespace Go.Proofs.YtapbmmlgmcmpnaaDoorW.Am
open Go Go.RowKit
theorem in_ok (h : Hp) (n lo hi : Int) : ACall PX 56 [nI n, nI lo, nI hi] h (fun v g => v = .bool (inB n lo hi) ∧ h = g) := by
  unfold inB
  refine acall Go.Proofs.Tryd.func56 c56 (by simp [ir56]) ?_
  unfold ir56
  dsimp only
  by_cases h1 : lo ≤ n
  · rw [decide_eq_true h1, Bool.true_and]
    by_cases h2 : n ≤ hi
    · rw [decide_eq_true h2]
      repeat (first | refine sS ?_ | refine sE ?_ | refine w_mv rfl ?_ | refine w_pickT rfl ?_ | refine w_gT rfl rfl ?_ | (refine w_cmp (c2 := true) rfl ?_ ?_; focus (first | exact decide_eq_true (by omega) | (simp; done) | (simp; omega))) | refine ai_seq ?_ | refine ai_regW ?_ | (refine ai_ret ?_; repeat (first | rw [thenQ_r] | rw [blockQ_r] | rw [roundE_r])))
      exact end_one rfl ⟨rfl, rfl⟩
    · rw [decide_eq_false h2]
      repeat (first | refine sS ?_ | refine sE ?_ | refine w_mv rfl ?_ | refine w_pickT rfl ?_ | refine w_gT rfl rfl ?_ | (refine w_cmp (c2 := true) rfl ?_ ?_; focus (first | exact decide_eq_true (by omega) | (simp; done) | (simp; omega))) | (refine w_cmp (c2 := false) rfl ?_ ?_; focus (first | exact decide_eq_false (by omega) | (simp; done) | (simp; omega))) | refine ai_seq ?_ | refine ai_regW ?_ | (refine ai_ret ?_; repeat (first | rw [thenQ_r] | rw [blockQ_r] | rw [roundE_r])))
      exact end_one rfl ⟨rfl, rfl⟩
  · rw [decide_eq_false h1, Bool.false_and]
    repeat (first | refine sS ?_ | refine sE ?_ | refine w_mv rfl ?_ | refine w_pickF rfl ?_ | refine w_gF rfl rfl ?_ | (refine w_cmp (c2 := false) rfl ?_ ?_; focus (first | exact decide_eq_false (by omega) | (simp; done) | (simp; omega))) | refine ai_seq ?_ | refine ai_regW ?_ | (refine ai_ret ?_; repeat (first | rw [thenQ_r] | rw [blockQ_r] | rw [roundE_r])))
    exact end_one rfl ⟨rfl, rfl⟩
/-- The names of the parts. -/
def nmB : List (List UInt8) := [[116, 97, 114, 103, 101, 116], [117, 116, 105, 108], [115, 116, 97, 98, 108, 101], [112, 97, 110, 105, 99], [103, 114, 97, 105, 110], [116, 104, 114, 101, 115, 104, 111, 108, 100], [117, 112], [100, 111, 119, 110], [109, 105, 110], [109, 97, 120], [105, 110, 105, 116, 105, 97, 108], [103, 114, 97, 99, 101], [100, 101, 108, 97, 121], [98, 117, 114, 115, 116], [108, 105, 109, 105, 116], [113, 117, 101, 117, 101], [116, 105, 109, 101, 111, 117, 116], [114, 101, 97, 100, 121], [115, 117, 98, 115, 101, 116], [115, 97, 109, 112, 108, 101]]
def bsV (l : List UInt8) : Value := .string ⟨l.toArray⟩
theorem names_ok (h : Hp) : ACall PX 21 [] h (fun v g => v = .slice (some ⟨h.nx, 0, none⟩) 20 20 ∧ Ext h g ∧ g.get h.nx = some ⟨nmB.map bsV, true, 1⟩ ∧ h.nx < g.nx) := by
  refine acall Go.Proofs.Tryd.func21 c21 (by simp [ir21]) ?_
  unfold ir21
  dsimp only
  repeat (first | refine sS ?_ | refine sE ?_ | refine w_mv rfl ?_ | refine ai_seq ?_ | refine ai_regW ?_)
  refine w_bslF rfl rfl rfl rfl rfl ?_
  intro g xg hg hng
  repeat (first | refine sS ?_ | refine sE ?_ | refine w_mv rfl ?_ | (refine ai_ret ?_; repeat (first | rw [thenQ_r] | rw [blockQ_r] | rw [roundE_r])))
  exact end_one rfl ⟨rfl, xg, hg, hng⟩
theorem values_ok (h : Hp) (c : Cf20) : ACall PX 31 [.agg ⟨cs20 c⟩] h (fun v g => v = .slice (some ⟨h.nx + 1, 0, none⟩) 20 20 ∧ Ext h g ∧ g.get (h.nx + 1) = some ⟨cs20 c, true, 1⟩ ∧ h.nx + 1 < g.nx) := by
  refine acall Go.Proofs.Tryd.func31 c31 (by simp [ir31]) ?_
  unfold ir31
  dsimp only
  repeat (first | refine sS ?_ | refine sE ?_ | refine w_mv rfl ?_ | (refine is_okk rfl ?_; refine w_op rfl ?_) | (refine is_ld ?_; refine w_ld rfl (by first | exact rd_g ‹_› rfl | exact rd_new rfl | assumption) ?_) | refine ai_seq ?_ | refine ai_regW ?_)
  refine w_bslF rfl rfl rfl rfl rfl ?_
  intro g xg hg hng
  repeat (first | refine sS ?_ | refine sE ?_ | refine w_mv rfl ?_ | (refine ai_ret ?_; repeat (first | rw [thenQ_r] | rw [blockQ_r] | rw [roundE_r])))
  exact end_one rfl ⟨rfl, (Ext.new _ _).trans xg, hg, hng⟩
set_option maxRecDepth 10000 in
theorem made_ok (h : Hp) (c : Cf20) {i n e : Nat} {b : Bool} (hg : h.get i = some ⟨cs20 c, b, e⟩) (hi : i < h.nx) : ACall PX 33 [.slice (some ⟨i, 0, none⟩) 20 n] h (fun v g => v = .agg ⟨cs20 c⟩ ∧ Ext h g) := by
  refine acall Go.Proofs.Tryd.func33 c33 (by simp [ir33]) ?_
  unfold ir33
  dsimp only
  refine ai_seq (ai_regW (sS (w_new fun g x k n => sE ?_)))
  have k2 := (x.2 i hi).trans hg
  refine ai_seq ?_
  repeat (first | refine dS ?_ | refine dSn ?_ | refine w_mv rfl ?_ | refine w_bldF rfl rfl rfl rfl rfl ?_ | (refine is_ld ?_; refine w_ld rfl (by first | exact rd_g ‹_› rfl | exact rd_new rfl | assumption) ?_) | (refine w_iad rfl ?_ ?_; focus (first | omega | (simp; done) | (simp; omega))) | refine ai_drwW (by kernel_rfl) ?_)
  refine w_stN rfl rfl k rfl rfl fun g3 m3 k3 n3 => ?_
  repeat (first | refine dE ?_ | (refine ai_ret ?_; repeat (first | rw [thenQ_r] | rw [blockQ_r] | rw [roundE_r])))
  exact end_cell1 rfl k3 Go.Proofs.Tryd.underlying24 rfl (by kernel_rfl) rfl ⟨rfl, x.own m3 n3⟩
/-- Which parts are told in thousandths. -/
def thinK (k : Nat) : Bool := [0, 1, 5, 6, 7, 13].contains k
theorem thin_ok (h : Hp) (k : Nat) : ACall PX 37 [nI k] h (fun v g => v = .bool (thinK k) ∧ h = g) := by
  refine acall Go.Proofs.Tryd.func37 c37 (by simp [ir37]) ?_
  unfold ir37
  dsimp only
  by_cases h0 : k = 0
  · subst h0
    repeat (first | refine sS ?_ | refine sE ?_ | refine w_mv rfl ?_ | refine w_pickT rfl ?_ | refine w_gF rfl rfl ?_ | (refine w_cmp (c2 := true) rfl ?_ ?_; focus (first | exact decide_eq_true (by omega) | (simp; done) | (simp; omega))) | refine ai_seq ?_ | refine ai_regW ?_ | (refine ai_ret ?_; repeat (first | rw [thenQ_r] | rw [blockQ_r] | rw [roundE_r])))
    exact end_one rfl ⟨rfl, rfl⟩
  by_cases h1 : k = 1
  · subst h1
    repeat (first | refine sS ?_ | refine sE ?_ | refine w_mv rfl ?_ | refine w_pickT rfl ?_ | refine w_pickF rfl ?_ | refine w_gT rfl rfl ?_ | refine w_gF rfl rfl ?_ | (refine w_cmp (c2 := true) rfl ?_ ?_; focus (first | exact decide_eq_true (by omega) | (simp; done) | (simp; omega))) | (refine w_cmp (c2 := false) rfl ?_ ?_; focus (first | exact decide_eq_false (by omega) | (simp; done) | (simp; omega))) | refine ai_seq ?_ | refine ai_regW ?_ | (refine ai_ret ?_; repeat (first | rw [thenQ_r] | rw [blockQ_r] | rw [roundE_r])))
    exact end_one rfl ⟨rfl, rfl⟩
  by_cases h5 : k = 5
  · subst h5
    repeat (first | refine sS ?_ | refine sE ?_ | refine w_mv rfl ?_ | refine w_pickT rfl ?_ | refine w_pickF rfl ?_ | refine w_gT rfl rfl ?_ | refine w_gF rfl rfl ?_ | (refine w_cmp (c2 := true) rfl ?_ ?_; focus (first | exact decide_eq_true (by omega) | (simp; done) | (simp; omega))) | (refine w_cmp (c2 := false) rfl ?_ ?_; focus (first | exact decide_eq_false (by omega) | (simp; done) | (simp; omega))) | refine ai_seq ?_ | refine ai_regW ?_ | (refine ai_ret ?_; repeat (first | rw [thenQ_r] | rw [blockQ_r] | rw [roundE_r])))
    exact end_one rfl ⟨rfl, rfl⟩
  by_cases h6 : k = 6
  · subst h6
    repeat (first | refine sS ?_ | refine sE ?_ | refine w_mv rfl ?_ | refine w_pickT rfl ?_ | refine w_pickF rfl ?_ | refine w_gT rfl rfl ?_ | refine w_gF rfl rfl ?_ | (refine w_cmp (c2 := true) rfl ?_ ?_; focus (first | exact decide_eq_true (by omega) | (simp; done) | (simp; omega))) | (refine w_cmp (c2 := false) rfl ?_ ?_; focus (first | exact decide_eq_false (by omega) | (simp; done) | (simp; omega))) | refine ai_seq ?_ | refine ai_regW ?_ | (refine ai_ret ?_; repeat (first | rw [thenQ_r] | rw [blockQ_r] | rw [roundE_r])))
    exact end_one rfl ⟨rfl, rfl⟩
  by_cases h7 : k = 7
  · subst h7
    repeat (first | refine sS ?_ | refine sE ?_ | refine w_mv rfl ?_ | refine w_pickT rfl ?_ | refine w_pickF rfl ?_ | refine w_gT rfl rfl ?_ | refine w_gF rfl rfl ?_ | (refine w_cmp (c2 := true) rfl ?_ ?_; focus (first | exact decide_eq_true (by omega) | (simp; done) | (simp; omega))) | (refine w_cmp (c2 := false) rfl ?_ ?_; focus (first | exact decide_eq_false (by omega) | (simp; done) | (simp; omega))) | refine ai_seq ?_ | refine ai_regW ?_ | (refine ai_ret ?_; repeat (first | rw [thenQ_r] | rw [blockQ_r] | rw [roundE_r])))
    exact end_one rfl ⟨rfl, rfl⟩
  by_cases h13 : k = 13
  · subst h13
    repeat (first | refine sS ?_ | refine sE ?_ | refine w_mv rfl ?_ | refine w_pickF rfl ?_ | refine w_gT rfl rfl ?_ | (refine w_cmp (c2 := true) rfl ?_ ?_; focus (first | exact decide_eq_true (by omega) | (simp; done) | (simp; omega))) | (refine w_cmp (c2 := false) rfl ?_ ?_; focus (first | exact decide_eq_false (by omega) | (simp; done) | (simp; omega))) | refine ai_seq ?_ | refine ai_regW ?_ | (refine ai_ret ?_; repeat (first | rw [thenQ_r] | rw [blockQ_r] | rw [roundE_r])))
    exact end_one rfl ⟨rfl, rfl⟩
  have ht : thinK k = false := by
    unfold thinK
    simp
    omega
  rw [ht]
  repeat (first | refine sS ?_ | refine sE ?_ | refine w_mv rfl ?_ | refine w_pickF rfl ?_ | refine w_gT rfl rfl ?_ | (refine w_cmp (c2 := false) rfl ?_ ?_; focus (first | exact decide_eq_false (by omega) | (simp; done) | (simp; omega))) | refine ai_seq ?_ | refine ai_regW ?_ | (refine ai_ret ?_; repeat (first | rw [thenQ_r] | rw [blockQ_r] | rw [roundE_r])))
  exact end_one rfl ⟨rfl, rfl⟩
/-- The document's own order of the parts, and whether each may be. -/
def wrR (c : Cf20) (b1 b2 : Bool) : List (ByteArray × Bool) := (nmB.map fun l => (⟨l.toArray⟩ : ByteArray)).zip [inB c.target 10 1000000, inB c.util 100 1000, inB c.stable 6 600, inB c.panic 1 c.stable, inB c.grain 1 c.panic, inB c.threshold 1100 10000, inB c.up 1001 1000000, inB c.down 1001 1000000, inB c.min 0 100, (b1 || inB c.max (if 1 > c.min then 1 else c.min) 100), inB c.initial 0 (if 0 < c.max then c.max else 100), inB c.grace 0 600, inB c.delay 0 600, (b2 || inB c.burst 0 100000000), inB c.limit 1 1000, inB c.queue 0 200, inB c.timeout 1 10000, inB c.ready 0 100, inB c.subset 0 100, inB c.sample 0 100]
set_option maxHeartbeats 4000000 in
set_option maxRecDepth 10000 in
theorem rwrong_ok (h : Hp) (c : Cf20) : ACall PX 40 [.agg ⟨cs20 c⟩] h (fun v g => v = .string (wrongF (wrR c (c.max == 0) (c.burst == -1000))) ∧ Ext h g) := by
  refine acall Go.Proofs.Tryd.func40 c40 (by simp [ir40]) ?_
  unfold ir40
  dsimp only
  refine ai_seq (ai_regW (sS (w_box rfl fun g1 x1 k1 n1 => ?_)))
  repeat (first | refine sS ?_ | refine sE ?_ | refine w_mv rfl ?_ | (refine is_ldn ?_; refine w_ldn rfl (by first | exact rd_all ‹_› rfl | exact rd_newn rfl | assumption) ?_) | refine ai_seq ?_ | refine ai_regW ?_)
  refine w_call rfl ((values_ok _ c).mono ?_)
  rintro v g2 ⟨rfl, x2, k2, n2⟩
  have k3 := (x2.2 _ n1).trans k1
  repeat (first | refine sS ?_ | refine sE ?_ | refine w_mv rfl ?_)
  refine ai_seq ?_
  repeat (first | refine sS ?_ | refine sE ?_ | refine w_mv rfl ?_ | refine ai_regW ?_)
  refine ai_join (γ := Unit) (fun _ => [(3, .slice (some ⟨g1.nx + 1, 0, none⟩) 20 20), (4, nI (if 0 < c.max then c.max else 100))]) (fun _ g => g = g2) ?_ ?_
  · refine ai_seq ?_
    repeat (first | refine sS ?_ | (refine is_okk rfl ?_; refine w_op rfl ?_) | (refine is_ld ?_; refine w_ld rfl (by first | exact rd_g ‹_› rfl | exact rd_new rfl | assumption) ?_) | refine ai_regW ?_)
    by_cases h0 : 0 < c.max
    · rw [if_pos h0]
      repeat (first | refine sS ?_ | refine sE ?_ | refine w_mv rfl ?_ | (refine is_okk rfl ?_; refine w_op rfl ?_) | (refine is_ld ?_; refine w_ld rfl (by first | exact rd_g ‹_› rfl | exact rd_new rfl | assumption) ?_) | (refine w_cmp (c2 := true) rfl ?_ ?_; focus (first | exact decide_eq_true (by omega) | (simp; done) | (simp; omega))) | refine ai_regW ?_ | refine ai_condF (b := true) rfl (fun _ => ?_) (fun hb => by cases hb))
      exact ⟨rfl, (), (by repeat (first | exact le_nil | refine le_consF rfl ?_)), rfl⟩
    · rw [if_neg h0]
      repeat (first | refine sE ?_ | (refine w_cmp (c2 := false) rfl ?_ ?_; focus (first | exact decide_eq_false (by omega) | (simp; done) | (simp; omega))) | refine ai_condF (b := false) rfl (fun hb => by cases hb) (fun _ => ?_) | refine ai_skip ?_)
      exact ⟨rfl, (), (by repeat (first | exact le_nil | refine le_consF rfl ?_)), rfl⟩
  rintro _ _ rfl
  have x12 := x1.trans x2
  refine ai_join (γ := Nat) (fun j => [(5, .slice (some ⟨j, 0, none⟩) 20 20)]) (fun j g' => Ext h g' ∧ j < g'.nx ∧ g'.get j = some ⟨(wrR c (c.max == 0) (c.burst == -1000)).map (fun p => .bool p.2), true, 1⟩) ?_ ?_
  · refine ai_drwW (by kernel_rfl) ?_
    repeat (first | refine dS ?_ | refine w_mv rfl ?_ | (refine is_ld ?_; refine w_ld rfl (by first | exact rd_g ‹_› rfl | exact rd_new rfl | assumption) ?_) | (refine w_iad rfl ?_ ?_; focus (first | omega | (simp; done) | (simp; omega))))
    refine w_op rfl ?_
    generalize (c.max == 0) = b1
    repeat (first | refine dS ?_ | refine w_mv rfl ?_ | (refine is_ld ?_; refine w_ld rfl (by first | exact rd_g ‹_› rfl | exact rd_new rfl | assumption) ?_) | (refine w_iad rfl ?_ ?_; focus (first | omega | (simp; done) | (simp; omega))))
    refine w_op rfl ?_
    generalize (c.burst == -1000) = b2
    repeat (first | refine dS ?_ | refine dSR ?_ | (refine agS ?_ ?_; focus (repeat (first | exact ag_nil | refine ag_cons (by first | exact ag_gF rfl rfl | exact ag_l rfl rfl (by first | exact rd_g ‹_› rfl | exact rd_new rfl | assumption) | exact ag_gT rfl rfl (ag_l rfl rfl (by first | exact rd_g ‹_› rfl | exact rd_new rfl | assumption)) | exact ag_ln rfl rfl (by first | exact rd_all ‹_› rfl | exact rd_newn rfl | assumption) | exact ag_gT rfl rfl (ag_ln rfl rfl (by first | exact rd_all ‹_› rfl | exact rd_newn rfl | assumption))) ?_))) | refine w_mv rfl ?_ | (refine is_ld ?_; refine w_ld rfl (by first | exact rd_g ‹_› rfl | exact rd_new rfl | assumption) ?_) | (refine w_iad rfl ?_ ?_; focus (first | omega | (simp; done) | (simp; omega))) | (refine w_call rfl ((in_ok _ _ _ _).mono ?_); rintro _ _ ⟨rfl, rfl⟩))
    repeat (first | refine dS ?_ | refine dSR ?_ | refine w_gB rfl (by intro hc; simp at hc; subst hc; first | rfl | exact o_ldF rfl (rd_g ‹_› rfl)) ?_)
    refine w_gBc rfl (fun _ _ hr c => c.mono hr) (by intro hc; simp at hc; subst hc; rfl) (in_ok _ _ _ _) ?_
    refine agS (by repeat (first | exact ag_nil | refine ag_cons (by first | exact ag_gF rfl rfl | exact ag_l rfl rfl (by first | exact rd_g ‹_› rfl | exact rd_new rfl | assumption) | exact ag_gT rfl rfl (ag_l rfl rfl (by first | exact rd_g ‹_› rfl | exact rd_new rfl | assumption)) | exact ag_ln rfl rfl (by first | exact rd_all ‹_› rfl | exact rd_newn rfl | assumption) | exact ag_gT rfl rfl (ag_ln rfl rfl (by first | exact rd_all ‹_› rfl | exact rd_newn rfl | assumption))) ?_)) ?_
    refine dS (w_v rfl (v2 := .bool (b1 || inB c.max (if 1 > c.min then 1 else c.min) 100)) (by cases b1 <;> rfl) ?_)
    repeat (first | refine dS ?_ | refine dSR ?_ | (refine agS ?_ ?_; focus (repeat (first | exact ag_nil | refine ag_cons (by first | exact ag_gF rfl rfl | exact ag_l rfl rfl (by first | exact rd_g ‹_› rfl | exact rd_new rfl | assumption) | exact ag_gT rfl rfl (ag_l rfl rfl (by first | exact rd_g ‹_› rfl | exact rd_new rfl | assumption)) | exact ag_ln rfl rfl (by first | exact rd_all ‹_› rfl | exact rd_newn rfl | assumption) | exact ag_gT rfl rfl (ag_ln rfl rfl (by first | exact rd_all ‹_› rfl | exact rd_newn rfl | assumption))) ?_))) | refine w_mv rfl ?_ | (refine w_call rfl ((in_ok _ _ _ _).mono ?_); rintro _ _ ⟨rfl, rfl⟩))
    repeat (first | refine dS ?_ | refine dSR ?_ | refine w_gB rfl (by intro hc; simp at hc; subst hc; first | rfl | exact o_ldF rfl (rd_g ‹_› rfl)) ?_)
    refine w_gBc rfl (fun _ _ hr c => c.mono hr) (by intro hc; simp at hc; subst hc; rfl) (in_ok _ _ _ _) ?_
    refine agS (by repeat (first | exact ag_nil | refine ag_cons (by first | exact ag_gF rfl rfl | exact ag_l rfl rfl (by first | exact rd_g ‹_› rfl | exact rd_new rfl | assumption) | exact ag_gT rfl rfl (ag_l rfl rfl (by first | exact rd_g ‹_› rfl | exact rd_new rfl | assumption)) | exact ag_ln rfl rfl (by first | exact rd_all ‹_› rfl | exact rd_newn rfl | assumption) | exact ag_gT rfl rfl (ag_ln rfl rfl (by first | exact rd_all ‹_› rfl | exact rd_newn rfl | assumption))) ?_)) ?_
    refine dS (w_v rfl (v2 := .bool (b2 || inB c.burst 0 100000000)) (by cases b2 <;> rfl) ?_)
    repeat (first | refine dS ?_ | refine dSR ?_ | (refine agS ?_ ?_; focus (repeat (first | exact ag_nil | refine ag_cons (by first | exact ag_gF rfl rfl | exact ag_l rfl rfl (by first | exact rd_g ‹_› rfl | exact rd_new rfl | assumption) | exact ag_gT rfl rfl (ag_l rfl rfl (by first | exact rd_g ‹_› rfl | exact rd_new rfl | assumption)) | exact ag_ln rfl rfl (by first | exact rd_all ‹_› rfl | exact rd_newn rfl | assumption) | exact ag_gT rfl rfl (ag_ln rfl rfl (by first | exact rd_all ‹_› rfl | exact rd_newn rfl | assumption))) ?_))) | (refine w_call rfl ((in_ok _ _ _ _).mono ?_); rintro _ _ ⟨rfl, rfl⟩))
    refine w_bslF rfl rfl rfl rfl rfl ?_
    intro g3 x3 k4 n4
    repeat (first | refine dS ?_ | refine dE ?_ | refine w_mv rfl ?_)
    exact ⟨rfl, _, (by repeat (first | exact le_nil | refine le_consF rfl ?_)), x12.trans x3, n4, k4⟩
  rintro j g3 ⟨x3, nj, kj⟩
  have hn : ((wrR c (c.max == 0) (c.burst == -1000)).map fun p => p.1) = nmB.map fun l => (⟨l.toArray⟩ : ByteArray) := rfl
  have hl20 : (wrR c (c.max == 0) (c.burst == -1000)).length = 20 := rfl
  generalize wrR c (c.max == 0) (c.burst == -1000) = l at kj hl20 hn ⊢
  repeat (first | refine sS ?_ | refine sE ?_ | refine w_mv rfl ?_ | refine ai_seq ?_ | refine ai_regW ?_ | refine ai_block ?_)
  refine ai_loopE (γ := Nat) (fun i => [(5, .slice (some ⟨j, 0, none⟩) 20 20), (6, nI i)]) (fun i g' => Ext g3 g' ∧ i ≤ 20 ∧ wrongF (l.drop i) = wrongF l) (fun i => 20 - i) 0
    (by repeat (first | exact le_nil | refine le_consF rfl ?_)) ⟨Ext.refl _, Nat.zero_le _, rfl⟩ ?_
  rintro i g4 ⟨x4, hi, hwr⟩
  by_cases hi20 : i < 20
  · obtain ⟨p, hp⟩ : ∃ p, l[i]? = some p := ⟨_, List.getElem?_eq_getElem (by omega)⟩
    have hp2 : l.drop i = p :: l.drop (i + 1) := by
      obtain ⟨h1, rfl⟩ := List.getElem?_eq_some_iff.1 hp
      exact List.drop_eq_getElem_cons h1
    rw [hp2] at hwr
    have hrd := rd_row ((x4.2 j nj).trans kj) (x := i) (v := .bool p.2) (by rw [List.getElem?_map, hp]; rfl)
    obtain ⟨s, b⟩ := p
    dsimp only [wrongF] at hwr
    cases b
    · rw [if_neg (by decide)] at hwr
      repeat (first | refine sS ?_ | refine sE ?_ | refine w_mv rfl ?_ | (refine is_okk rfl ?_; refine w_op rfl ?_) | (refine is_ld ?_; refine w_ld rfl (by first | exact rd_g ‹_› rfl | exact rd_new rfl | assumption) ?_) | (refine w_cmp (c2 := true) rfl ?_ ?_; focus (first | exact decide_eq_true (by omega) | (simp; done) | (simp; omega))) | (refine w_iad rfl ?_ ?_; focus (first | omega | (simp; done) | (simp; omega))) | refine ai_seq ?_ | refine ai_regW ?_ | refine ai_condF (b := true) rfl (fun _ => ?_) (fun hb => by cases hb) | refine ai_skip ?_ | refine ai_block ?_)
      refine w_call rfl ((names_ok _).mono ?_)
      rintro v g5 ⟨rfl, x5, k5, n5⟩
      have hs : (nmB.map bsV)[i]? = some (.string s) := by
        have h1 : (l.map fun p => p.1)[i]? = some s := by rw [List.getElem?_map, hp]; rfl
        rw [hn, List.getElem?_map] at h1
        rw [List.getElem?_map]
        cases hq : nmB[i]? with
        | none => rw [hq] at h1; cases h1
        | some q => rw [hq] at h1; exact congrArg some (congrArg Value.string (Option.some.inj h1))
      have hrd2 := rd_row k5 hs
      repeat (first | refine sS ?_ | refine sE ?_ | refine w_mv rfl ?_ | (refine is_ld ?_; refine w_ld rfl (by first | exact rd_g ‹_› rfl | exact rd_new rfl | assumption) ?_) | (refine w_iad rfl ?_ ?_; focus (first | omega | (simp; done) | (simp; omega))) | (refine ai_ret ?_; repeat (first | rw [thenQ_r] | rw [blockQ_r] | rw [roundE_r])))
      exact end_one rfl ⟨by rw [hwr], (x3.trans x4).trans x5⟩
    · rw [if_pos rfl] at hwr
      repeat (first | refine sS ?_ | refine sE ?_ | refine w_mv rfl ?_ | (refine is_okk rfl ?_; refine w_op rfl ?_) | (refine is_ld ?_; refine w_ld rfl (by first | exact rd_g ‹_› rfl | exact rd_new rfl | assumption) ?_) | (refine w_add rfl ?_ ?_; (focus omega)) | (refine w_cmp (c2 := true) rfl ?_ ?_; focus (first | exact decide_eq_true (by omega) | (simp; done) | (simp; omega))) | (refine w_iad rfl ?_ ?_; focus (first | omega | (simp; done) | (simp; omega))) | refine ai_seq ?_ | refine ai_regW ?_ | refine ai_condF (b := true) rfl (fun _ => ?_) (fun hb => by cases hb) | refine ai_condF (b := false) rfl (fun hb => by cases hb) (fun _ => ?_) | refine ai_skip ?_ | refine ai_block ?_)
      exact ⟨i + 1, (by repeat (first | exact le_nil | refine le_consF rfl ?_)), ⟨x4, by omega, hwr⟩, by dsimp only; omega⟩
  · have e20 : i = l.length := by omega
    rw [e20, List.drop_length] at hwr
    repeat (first | refine sS ?_ | refine sE ?_ | refine w_mv rfl ?_ | (refine is_okk rfl ?_; refine w_op rfl ?_) | (refine w_cmp (c2 := false) rfl ?_ ?_; focus (first | exact decide_eq_false (by omega) | (simp; done) | (simp; omega))) | refine ai_seq ?_ | refine ai_regW ?_ | refine ai_condF (b := false) rfl (fun hb => by cases hb) (fun _ => ?_) | refine ai_exit ?_ | (refine ai_ret ?_; repeat (first | rw [thenQ_r] | rw [blockQ_r] | rw [roundE_r])))
    exact end_one rfl ⟨by rw [← hwr]; rfl, x3.trans x4⟩
theorem all_snd : ∀ (l : List (ByteArray × Bool)), (l.all fun p => p.2) = (l.map fun p => p.2).all id
  | [] => rfl
  | p :: l => by rw [List.all_cons, List.map_cons, List.all_cons, all_snd l]; rfl
theorem wrR_may (c : Cf20) : ((wrR c (c.max == 0) (c.burst == -1000)).all fun p => p.2) = mayB c := by
  unfold mayB
  rw [all_snd, all_snd]
  show List.all [inB c.target 10 1000000, inB c.util 100 1000, inB c.stable 6 600, inB c.panic 1 c.stable, inB c.grain 1 c.panic, inB c.threshold 1100 10000, inB c.up 1001 1000000, inB c.down 1001 1000000, inB c.min 0 100, (c.max == 0 || inB c.max (if 1 > c.min then 1 else c.min) 100), inB c.initial 0 (if 0 < c.max then c.max else 100), inB c.grace 0 600, inB c.delay 0 600, (c.burst == -1000 || inB c.burst 0 100000000), inB c.limit 1 1000, inB c.queue 0 200, inB c.timeout 1 10000, inB c.ready 0 100, inB c.subset 0 100, inB c.sample 0 100] id
    = List.all [inB c.target 10 1000000, inB c.util 100 1000, inB c.stable 6 600, inB c.panic 1 c.stable, inB c.grain 1 c.panic, inB c.threshold 1100 10000, inB c.up 1001 1000000, inB c.down 1001 1000000, inB c.min 0 100, (c.max == 0 || inB c.max (if 1 > c.min then 1 else c.min) 100), inB c.initial 0 (if c.max = 0 then 100 else c.max), inB c.grace 0 600, inB c.delay 0 600, (c.burst == -1000 || inB c.burst 0 100000000), inB c.limit 1 1000, inB c.queue 0 200, inB c.timeout 1 10000, inB c.ready 0 100, inB c.subset 0 100, inB c.sample 0 100] id
  by_cases hm : (c.max == 0 || inB c.max (if 1 > c.min then 1 else c.min) 100) = true
  · have he : (if 0 < c.max then c.max else 100) = (if c.max = 0 then 100 else c.max) := by
      simp only [inB, Bool.or_eq_true, beq_iff_eq, Bool.and_eq_true, decide_eq_true_eq] at hm
      split <;> split <;> (try split at hm) <;> omega
    rw [he]
  · have hm2 : (c.max == 0 || inB c.max (if 1 > c.min then 1 else c.min) 100) = false := by simpa using hm
    rw [hm2]
    simp
theorem rmay_ok (h : Hp) (c : Cf20) : ACall PX 19 [.agg ⟨cs20 c⟩] h (fun v g => v = .bool (mayB c) ∧ Ext h g) := by
  refine acall Go.Proofs.Tryd.func19 c19 (by simp [ir19]) ?_
  unfold ir19
  dsimp only
  refine ai_seq (ai_regW (sS (w_box rfl fun g1 x1 k1 n1 => ?_)))
  repeat (first | refine sS ?_ | refine sE ?_ | refine w_mv rfl ?_ | (refine is_ldn ?_; refine w_ldn rfl (by first | exact rd_all ‹_› rfl | exact rd_newn rfl | assumption) ?_) | refine ai_seq ?_ | refine ai_regW ?_)
  refine w_call rfl ((rwrong_ok _ c).mono ?_)
  rintro v g2 ⟨rfl, x2⟩
  repeat (first | refine sS ?_)
  refine w_cmp (c2 := mayB c) rfl ((wrong_empty _ (by kernel_rfl)).trans (wrR_may c)) ?_
  repeat (first | refine sS ?_ | refine sE ?_ | refine w_mv rfl ?_ | (refine ai_ret ?_; repeat (first | rw [thenQ_r] | rw [blockQ_r] | rw [roundE_r])))
  exact end_one rfl ⟨rfl, x1.trans x2⟩
theorem default_ok (h : Hp) : ACall PX 9 [] h (fun v g => v = .agg ⟨[nI 10000, nI 700, nI 60, nI 6, nI 1, nI 2000, nI 10000, nI 2000, nI 0, nI 0, nI 1, nI 30, nI 0, nI 20000, nI 10, nI 100, nI 60, nI 3, nI 0, nI 0]⟩ ∧ Ext h g) := by
  refine acall Go.Proofs.Tryd.func9 c9 (by simp [ir9]) ?_
  unfold ir9
  dsimp only
  refine ai_seq (ai_regW (sS (w_new fun g x k n => sE ?_)))
  refine ai_seq ?_
  repeat (first | refine sS ?_ | refine ai_regW ?_)
  refine w_op rfl ?_
  repeat (first | refine sSn ?_)
  refine w_stN rfl rfl k rfl rfl fun g3 m3 k3 n3 => ?_
  repeat (first | refine sE ?_ | (refine ai_ret ?_; repeat (first | rw [thenQ_r] | rw [blockQ_r] | rw [roundE_r])))
  exact end_cell1 rfl k3 Go.Proofs.Tryd.underlying24 rfl (by kernel_rfl) rfl ⟨rfl, x.own m3 n3⟩
end Go.Proofs.YtapbmmlgmcmpnaaDoorW.Am
/- Texts: the parts of settings, and setting one. -/
namespace Go.Proofs.YtapbmmlgmcmpnaaDoorW.Am
open Go Go.RowKit
def ptT : Bool → TypeId
  | true => 71
  | false => 74
/-- The cells of the row of parts of the settings in an object. -/
def ptC (i : Nat) : List Value := (nmB.zipIdx).flatMap fun p => [bsV p.1, .iface (ptT (thinK p.2)) (.pointer (some ⟨i, p.2, none⟩))]
theorem parts_ok (h : Hp) (i : Nat) : ACall PX 25 [.pointer (some ⟨i, 0, none⟩)] h (fun v g => v = .slice (some ⟨h.nx, 0, none⟩) 20 20 ∧ Ext h g ∧ g.get h.nx = some ⟨ptC i, true, 2⟩ ∧ h.nx < g.nx) := by
  refine acall Go.Proofs.Tryd.func25 c25 (by simp [ir25]) ?_
  unfold ir25
  dsimp only
  repeat (first | refine sS ?_ | refine dS ?_ | refine sE ?_ | refine w_mv rfl ?_ | refine w_bldF rfl rfl rfl rfl rfl ?_ | (refine is_okk rfl ?_; refine w_op rfl ?_) | refine ai_seq ?_ | refine ai_regW ?_ | refine ai_drwW (by kernel_rfl) ?_)
  refine w_bslF rfl rfl rfl rfl rfl ?_
  intro g xg hg hng
  repeat (first | refine dS ?_ | refine dE ?_ | refine w_mv rfl ?_ | (refine ai_ret ?_; repeat (first | rw [thenQ_r] | rw [blockQ_r] | rw [roundE_r])))
  exact end_one rfl ⟨rfl, xg, hg, hng⟩
def setF (k : Nat) (l : List UInt8) : Option Int := if thinK k = true then numF l else (digF l 6).map fun n => (n : Int)
/-- Only one object turns. -/
def Md (i : Nat) (h g : Hp) : Prop := h.nx ≤ g.nx ∧ ∀ j, j < h.nx → j ≠ i → g.get j = h.get j
theorem Md.refl (i : Nat) (h : Hp) : Md i h h := ⟨Nat.le_refl _, fun _ _ _ => rfl⟩
theorem Md.trans {i : Nat} {a b c : Hp} (x : Md i a b) (y : Md i b c) : Md i a c := ⟨Nat.le_trans x.1 y.1, fun j hj hi => (y.2 j (Nat.lt_of_lt_of_le hj x.1) hi).trans (x.2 j hj hi)⟩
theorem Ext.md {i : Nat} {a b : Hp} (x : Ext a b) : Md i a b := ⟨x.1, fun j hj _ => x.2 j hj⟩
theorem Md.put {i : Nat} {a b c : Hp} (x : Md i a b) (m : ∀ k, k ≠ i → c.get k = b.get k) (n : c.nx = b.nx) : Md i a c := ⟨by rw [n]; exact x.1, fun j hj hi => (m j hi).trans (x.2 j hj hi)⟩
set_option maxHeartbeats 1000000 in
theorem set_ok (h : Hp) (nm l : List UInt8) (hl : l.length ≤ 1000000) {i k e : Nat} {us : List Value} (hg : h.get i = some ⟨us, true, e⟩) (hi : i < h.nx) (hk : k < us.length) :
    ACall PX 26 [.agg ⟨[bsV nm, .iface (ptT (thinK k)) (.pointer (some ⟨i, k, none⟩))]⟩, bs l] h (fun v g => v = .bool (setF k l).isSome ∧ Md i h g ∧ g.get i = some ⟨(match setF k l with | some n => us.set k (nI n) | none => us), true, e⟩) := by
  unfold setF
  refine acall Go.Proofs.Tryd.func26 c26 (by simp [ir26]) ?_
  unfold ir26
  dsimp only
  refine ai_seq (ai_regW (sS (w_box rfl fun g1 x1 k1 n1 => ?_)))
  have k2 := (x1.2 i hi).trans hg
  cases ht : thinK k
  · rw [ht] at k1
    simp only [Bool.false_eq_true, if_false]
    repeat (first | refine sS ?_ | refine sE ?_ | refine w_mv rfl ?_ | (refine is_okn rfl ?_; refine w_op rfl ?_) | refine w_ext rfl rfl ?_ | (refine is_ld ?_; refine w_ld rfl (by first | exact rd_g ‹_› rfl | exact rd_new rfl | assumption) ?_) | (refine w_call rfl ((digits_ok l 6 (by decide) hl _).mono ?_); rintro _ _ ⟨rfl, rfl⟩) | refine ai_seq ?_ | refine ai_regW ?_ | refine ai_condF (b := false) rfl (fun hb => by cases hb) (fun _ => ?_) | refine ai_skip ?_)
    cases hd : digF l 6 with
    | none =>
      repeat (first | refine sS ?_ | refine sE ?_ | refine w_mv rfl ?_ | refine ai_seq ?_ | refine ai_regW ?_ | refine ai_condF (b := false) rfl (fun hb => by cases hb) (fun _ => ?_) | refine ai_skip ?_ | (refine ai_ret ?_; repeat (first | rw [thenQ_r] | rw [blockQ_r] | rw [roundE_r])))
      exact end_one rfl ⟨rfl, x1.md, k2⟩
    | some n =>
      repeat (first | refine sS ?_ | refine sSn ?_ | refine w_mv rfl ?_ | (refine is_okn rfl ?_; refine w_op rfl ?_) | (refine is_ld ?_; refine w_ld rfl (by first | exact rd_g ‹_› rfl | exact rd_new rfl | assumption) ?_) | refine ai_regW ?_ | refine ai_condF (b := true) rfl (fun _ => ?_) (fun hb => by cases hb))
      refine w_st1 rfl rfl k2 hk rfl fun g2 m2 k3 n3 => ?_
      repeat (first | refine sS ?_ | refine sE ?_ | refine w_mv rfl ?_ | refine ai_seq ?_ | refine ai_regW ?_ | (refine ai_ret ?_; repeat (first | rw [thenQ_r] | rw [blockQ_r] | rw [roundE_r])))
      exact end_one rfl ⟨rfl, x1.md.put m2 n3, k3⟩
  · rw [ht] at k1
    simp only [if_true]
    repeat (first | refine sS ?_ | refine sE ?_ | refine w_mv rfl ?_ | (refine is_okn rfl ?_; refine w_op rfl ?_) | refine w_ext rfl rfl ?_ | (refine is_ld ?_; refine w_ld rfl (by first | exact rd_g ‹_› rfl | exact rd_new rfl | assumption) ?_) | (refine w_call rfl ((number_ok l hl _).mono ?_); rintro _ _ ⟨rfl, rfl⟩) | refine ai_seq ?_ | refine ai_regW ?_ | refine ai_condF (b := true) rfl (fun _ => ?_) (fun hb => by cases hb))
    cases hd : numF l with
    | none =>
      repeat (first | refine sS ?_ | refine sE ?_ | refine w_mv rfl ?_ | refine ai_seq ?_ | refine ai_regW ?_ | refine ai_condF (b := false) rfl (fun hb => by cases hb) (fun _ => ?_) | refine ai_skip ?_ | (refine ai_ret ?_; repeat (first | rw [thenQ_r] | rw [blockQ_r] | rw [roundE_r])))
      exact end_one rfl ⟨rfl, x1.md, k2⟩
    | some n =>
      repeat (first | refine sS ?_ | refine sSn ?_ | refine w_mv rfl ?_ | (refine is_okn rfl ?_; refine w_op rfl ?_) | refine ai_regW ?_ | refine ai_condF (b := true) rfl (fun _ => ?_) (fun hb => by cases hb))
      refine w_st1 rfl rfl k2 hk rfl fun g2 m2 k3 n3 => ?_
      repeat (first | refine sS ?_ | refine sE ?_ | refine w_mv rfl ?_ | refine ai_seq ?_ | refine ai_regW ?_ | (refine ai_ret ?_; repeat (first | rw [thenQ_r] | rw [blockQ_r] | rw [roundE_r])))
      exact end_one rfl ⟨rfl, x1.md.put m2 n3, k3⟩
end Go.Proofs.YtapbmmlgmcmpnaaDoorW.Am
/- Texts cut into lines, in plain words; which lines are settings; what settings a text is. -/
namespace Go.Proofs.YtapbmmlgmcmpnaaDoorW.Am
open Go
def consH (b : UInt8) : List (List UInt8) → List (List UInt8)
  | [] => [[b]]
  | a :: t => (b :: a) :: t
def linesL : List UInt8 → List (List UInt8)
  | [] => [[]]
  | b :: l => if b = 10 then [] :: linesL l else consH b (linesL l)
theorem splitK_ne {b c : UInt8} (l : List UInt8) (h : b ≠ c) (k : Nat) : Go.Lib.splitK [c] 0 k (b :: l) = consH b (Go.Lib.splitK [c] 0 k l) := by
  cases k with
  | zero => rfl
  | succ k =>
    have hp : ([c] : List UInt8).isPrefixOf (b :: l) = false := by simp [List.isPrefixOf, Ne.symm h]
    have hix : Go.Lib.index (b :: l) [c] = if Go.Lib.index l [c] == -1 then -1 else Go.Lib.index l [c] + 1 := by rw [Go.Lib.index, hp]; simp
    simp only [Go.Lib.splitK]
    by_cases hm : Go.Lib.index l [c] = -1
    · rw [if_pos (by rw [hix, if_pos (beq_iff_eq.2 hm)]; rfl), if_pos (beq_iff_eq.2 hm)]
      rfl
    · have hge := Go.Lib.index_ge l [c]
      obtain ⟨j, hj⟩ : ∃ j : Nat, Go.Lib.index l [c] = j := ⟨(Go.Lib.index l [c]).toNat, by omega⟩
      have hb : ¬ (Go.Lib.index l [c] == -1) = true := fun e => hm (beq_iff_eq.1 e)
      have hix2 : Go.Lib.index (b :: l) [c] = ((j + 1 : Nat) : Int) := by rw [hix, if_neg hb, hj]; omega
      rw [if_neg (by rw [hix2]; intro e; have := beq_iff_eq.1 e; omega), if_neg hb, hix2, hj]
      simp [consH]
theorem splitK_eq (c : UInt8) (l : List UInt8) (k : Nat) : Go.Lib.splitK [c] 0 (k + 1) (c :: l) = [] :: Go.Lib.splitK [c] 0 k l := by
  have hix : Go.Lib.index (c :: l) [c] = ((0 : Nat) : Int) := by rw [Go.Lib.index]; simp [List.isPrefixOf]
  simp only [Go.Lib.splitK]
  rw [if_neg (by rw [hix]; decide), hix]
  simp
theorem lines_split : ∀ l : List UInt8, Go.Lib.splitK [10] 0 (l.count 10) l = linesL l
  | [] => rfl
  | b :: l => by
    by_cases h : b = 10
    · subst h
      rw [List.count_cons_self, splitK_eq, lines_split l]
      rfl
    · rw [List.count_cons_of_ne (by simpa using h), splitK_ne l h, lines_split l]
      simp [linesL, h]
theorem countB_10 (l : List UInt8) : Go.Lib.countB ⟨l.toArray⟩ ⟨#[10]⟩ = l.count 10 := Go.Lib.count_one 10 l
theorem splitB_lines (l : List UInt8) : (Go.Lib.splitB ⟨#[10]⟩ 0 (Go.Lib.countB ⟨l.toArray⟩ ⟨#[10]⟩) ⟨l.toArray⟩).map Value.string = (linesL l).map bsV := by
  have h1 := Go.Lib.splitB_data ⟨#[10]⟩ 0 (Go.Lib.countB ⟨l.toArray⟩ ⟨#[10]⟩) ⟨l.toArray⟩
  have h2 : ((Go.Lib.splitB ⟨#[10]⟩ 0 (Go.Lib.countB ⟨l.toArray⟩ ⟨#[10]⟩) ⟨l.toArray⟩).map (·.data.toList)).map bsV = (Go.Lib.splitB ⟨#[10]⟩ 0 (Go.Lib.countB ⟨l.toArray⟩ ⟨#[10]⟩) ⟨l.toArray⟩).map Value.string := by
    rw [List.map_map]
    rfl
  rw [← h2, h1, countB_10]
  exact congrArg (List.map bsV) (lines_split l)
theorem lines_len (l : List UInt8) : (linesL l).length = Go.Lib.countB ⟨l.toArray⟩ ⟨#[10]⟩ + 1 := by
  have := congrArg List.length (splitB_lines l)
  rw [List.length_map, List.length_map, Go.Lib.splitB_all ⟨#[10]⟩ (Nat.le_refl _) 0 _ _ rfl] at this
  exact this.symm
theorem consH_mem {b : UInt8} {L : List (List UInt8)} {n : Nat} (h : ∀ a ∈ L, a.length ≤ n) : ∀ a ∈ consH b L, a.length ≤ n + 1 := by
  intro a ha
  cases L with
  | nil => simp [consH] at ha; subst ha; simp
  | cons x t =>
    simp [consH] at ha
    rcases ha with rfl | ha
    · have := h x (by simp); simp; omega
    · have := h a (by simp [ha]); omega
theorem lines_short : ∀ (l : List UInt8), ∀ a ∈ linesL l, a.length ≤ l.length
  | [], a, h => by simp [linesL] at h; subst h; simp
  | b :: l, a, h => by
    by_cases hb : b = 10
    · simp [linesL, hb] at h
      rcases h with rfl | h
      · simp
      · have := lines_short l a h; simp; omega
    · simp only [linesL, if_neg hb] at h
      exact consH_mem (lines_short l) a h
def setF' (numF digF6 : List UInt8 → Option Int) (k : Nat) (l : List UInt8) : Option Int := if thinK k = true then numF l else digF6 l
/-- Which part has that name? -/
def findN (nm : List UInt8) : Option Nat := nmB.findIdx? (· == nm)
def blankB : List UInt8 → Bool
  | [] => true
  | b :: _ => b == 35
theorem findN_some {nm : List UInt8} {k : Nat} (h : findN nm = some k) : nmB[k]? = some nm := by
  unfold findN at h
  rw [List.findIdx?_eq_some_iff_getElem] at h
  obtain ⟨hk, h1, _⟩ := h
  rw [List.getElem?_eq_getElem hk]
  exact congrArg some (by simpa using h1)
theorem nm_inj {j k : Nat} {nm : List UInt8} (h1 : nmB[j]? = some nm) (h2 : nmB[k]? = some nm) : j = k := by
  have hj := (List.getElem?_eq_some_iff.1 h1).1
  have hk := (List.getElem?_eq_some_iff.1 h2).1
  have hn : nmB.Nodup := by decide
  have e1 := (List.getElem?_eq_some_iff.1 h1).2
  have e2 := (List.getElem?_eq_some_iff.1 h2).2
  exact (List.getElem_inj hn).1 (e1.trans e2.symm)
theorem findN_at {nm : List UInt8} {k : Nat} (h : nmB[k]? = some nm) : findN nm = some k := by
  cases hf : findN nm with
  | none =>
    unfold findN at hf
    rw [List.findIdx?_eq_none_iff] at hf
    have := hf nm (List.mem_of_getElem? h)
    simp at this
  | some j => rw [nm_inj (findN_some hf) h]
theorem findN_lt {nm : List UInt8} {k : Nat} (h : findN nm = some k) : k < 20 := (List.getElem?_eq_some_iff.1 (findN_some h)).1
section
variable (S : Nat → List UInt8 → Option Int)
/-- Which part a line sets, to what. -/
def lineF (l : List UInt8) : Option (Nat × Int) := (findN (Go.Lib.cut l [58, 32]).1).bind fun k => (S k (Go.Lib.cut l [58, 32]).2.1).map fun n => (k, n)
/-- Lines are read: the number of a wrong one, or the values. -/
def parseL : List (List UInt8) → Nat → List Int → List Nat → Except Nat (List Int)
  | [], _, v, _ => .ok v
  | l :: r, i, v, was => if blankB (Go.Lib.trimB l 32) = true then parseL r (i + 1) v was else match lineF S (Go.Lib.trimB l 32) with
    | none => .error (i + 1)
    | some (k, x) => if was.contains k = true then .error (i + 1) else parseL r (i + 1) (v.set k x) (was ++ [k])
end
def vl (c : Cf20) : List Int := [c.target, c.util, c.stable, c.panic, c.grain, c.threshold, c.up, c.down, c.min, c.max, c.initial, c.grace, c.delay, c.burst, c.limit, c.queue, c.timeout, c.ready, c.subset, c.sample]
theorem cs_vl (c : Cf20) : cs20 c = (vl c).map nI := rfl
theorem vl_of {l : List Int} (h : l.length = 20) : ∃ c, vl c = l := by
  match l, h with
  | [a0, a1, a2, a3, a4, a5, a6, a7, a8, a9, b0, b1, b2, b3, b4, b5, b6, b7, b8, b9], _ => exact ⟨⟨a0, a1, a2, a3, a4, a5, a6, a7, a8, a9, b0, b1, b2, b3, b4, b5, b6, b7, b8, b9⟩, rfl⟩
theorem vl_inj {c d : Cf20} (h : vl c = vl d) : c = d := by
  cases c; cases d
  simp only [vl, List.cons.injEq, and_true] at h
  obtain ⟨rfl, rfl, rfl, rfl, rfl, rfl, rfl, rfl, rfl, rfl, rfl, rfl, rfl, rfl, rfl, rfl, rfl, rfl, rfl, rfl⟩ := h
  rfl
def ofL : List Int → Cf20
  | [a0, a1, a2, a3, a4, a5, a6, a7, a8, a9, b0, b1, b2, b3, b4, b5, b6, b7, b8, b9] => ⟨a0, a1, a2, a3, a4, a5, a6, a7, a8, a9, b0, b1, b2, b3, b4, b5, b6, b7, b8, b9⟩
  | _ => ⟨0, 0, 0, 0, 0, 0, 0, 0, 0, 0, 0, 0, 0, 0, 0, 0, 0, 0, 0, 0⟩
theorem ofL_vl (c : Cf20) : ofL (vl c) = c := rfl
/-- Settings with what a text says: the settings, a code, and the line. -/
def parseF (S : Nat → List UInt8 → Option Int) (c : Cf20) (s : List UInt8) : Cf20 × Int × Int :=
  match parseL S (linesL s) 0 (vl c) [] with
  | .error n => (c, 4, n)
  | .ok v => if mayB (ofL v) = true then (ofL v, 0, 0) else (c, 5, 0)
end Go.Proofs.YtapbmmlgmcmpnaaDoorW.Am
/- Texts: what Parse calls; the map of what was seen. -/
namespace Go.Proofs.YtapbmmlgmcmpnaaDoorW.Am
open Go Go.RowKit
theorem trim_br (l : List UInt8) (hl : l.length ≤ 1000000) (h : Hp) : ACall PX 23 [bs l, .string ⟨#[32]⟩] h (fun v g => v = bs (Go.Lib.trimB l 32) ∧ h = g) :=
  bridge (enters_comp Go.Proofs.Tryd.func23 c23) rfl rfl (fun w _ => (Go.Proofs.Tryd.strings_Trim_one ⟨l.toArray⟩ 32 (by decide) w (by show l.toArray.size ≤ _; rw [List.size_toArray]; omega)).mono (by
    rintro e w' ⟨rfl, hw⟩
    refine ⟨rfl, ?_, fun d => (dr_no d).elim⟩
    rcases hw with rfl | rfl
    · exact Below.refl _ _
    · exact below_drewN w 1)) h
theorem split_br (l : List UInt8) (hl : l.length ≤ 1000000) (h : Hp) : ACall PX 22 [bs l, .string ⟨#[10]⟩] h (fun v g => v = .slice (some ⟨h.nx, 0, none⟩) (linesL l).length (linesL l).length ∧ Ext h g ∧ g.get h.nx = some ⟨(linesL l).map bsV, true, 1⟩ ∧ h.nx < g.nx) := by
  refine ⟨enters_comp Go.Proofs.Tryd.func22 c22, fun base w0 m w args' ra s => ?_⟩
  obtain rfl := ra.flat_eq rfl
  obtain ⟨mm, hm⟩ := (s.below.tb w s.below.bl).2
  refine (Go.Proofs.Tryd.strings_Split ⟨l.toArray⟩ ⟨#[10]⟩ mm w (by show l.toArray.size < _; rw [List.size_toArray]; omega) hm (Nat.le_refl _)).mono ?_
  rintro e w' ⟨rfl, rfl⟩
  rw [splitB_lines, ← lines_len]
  have hr : RVs m ((linesL l).map bsV) ((linesL l).map bsV) := RVs.of_flat (List.all_eq_true.2 (by intro x hx; obtain ⟨b, _, rfl⟩ := List.mem_map.1 hx; rfl))
  obtain ⟨h1, h2⟩ := new_obj s 9 1 hr (fun q => absurd q (by decide))
  refine ⟨_, .slice (some ⟨h.nx, 0, none⟩) (linesL l).length (linesL l).length, _, h.new ⟨(linesL l).map bsV, true, 1⟩, rfl, h1, ?_, h2, rfl, Ext.new _ _, new_get _ _, by simp [Hp.new]⟩
  have := RV.slice (m := m.add h.nx ⟨w.heap.size, 0, 0⟩) (i := h.nx) (o := 0) (n := (linesL l).length) (c := (linesL l).length) (Mu.add_same m h.nx ⟨w.heap.size, 0, 0⟩)
  simpa using this
/-- The cells of the map of the parts that were seen. -/
def mpC (ws : List Nat) : List Value := ws.flatMap fun k => [bsV (nmB.getD k []), .bool true]
def seenB (nm : List UInt8) (ws : List Nat) : Bool := ws.any fun k => nm == nmB.getD k []
theorem baeq (l m : List UInt8) : ((⟨l.toArray⟩ : ByteArray) == ⟨m.toArray⟩) = (l == m) := by
  rw [beq_toListBytes, ByteArray.toList_eq, ByteArray.toList_eq]
theorem seen_cons (nm : List UInt8) (k : Nat) (ws : List Nat) : seenB nm (k :: ws) = (nm == nmB.getD k [] || seenB nm ws) := rfl
theorem mp_cons (k : Nat) (ws : List Nat) : mpC (k :: ws) = .string ⟨(nmB.getD k []).toArray⟩ :: .bool true :: mpC ws := rfl
theorem mfind_mp (nm : List UInt8) : ∀ ws, mfind ⟨nm.toArray⟩ (mpC ws) = some (if seenB nm ws = true then some (.bool true) else none)
  | [] => rfl
  | k :: ws => by
    have ih := mfind_mp nm ws
    rw [mp_cons, seen_cons]
    simp only [mfind, baeq]
    by_cases he : (nm == nmB.getD k []) = true
    · rw [he]; rfl
    · have he2 : (nm == nmB.getD k []) = false := by simpa using he
      rw [he2, if_neg (by simp), Bool.false_or]
      exact ih
theorem mput_new (nm : List UInt8) (x : Value) : ∀ ws, seenB nm ws = false → mput ⟨nm.toArray⟩ x (mpC ws) = some (mpC ws ++ [bsV nm, x])
  | [], _ => rfl
  | k :: ws, h => by
    rw [seen_cons, Bool.or_eq_false_iff] at h
    have ih := mput_new nm x ws h.2
    rw [mp_cons]
    simp only [mput, baeq]
    rw [h.1, ih, if_neg (by simp)]
    rfl
theorem mput_any (nm : List UInt8) (x : Value) : ∀ ws, ∃ c, mput ⟨nm.toArray⟩ x (mpC ws) = some c
  | [] => ⟨_, rfl⟩
  | k :: ws => by
    obtain ⟨c, ih⟩ := mput_any nm x ws
    rw [mp_cons]
    simp only [mput, baeq]
    by_cases he : (nm == nmB.getD k []) = true
    · rw [if_pos he]; exact ⟨_, rfl⟩
    · rw [if_neg he, ih]; exact ⟨_, rfl⟩
theorem seen_mem {nm : List UInt8} {k : Nat} {ws : List Nat} (h : findN nm = some k) (hw : ∀ j ∈ ws, j < 20) : seenB nm ws = ws.contains k := by
  rw [Bool.eq_iff_iff]
  simp only [seenB, List.any_eq_true, List.contains_iff_mem, beq_iff_eq]
  have hk := findN_some h
  constructor
  · rintro ⟨j, hj, e⟩
    have hj2 : nmB[j]? = some nm := by
      rw [e, List.getD_eq_getElem?_getD, List.getElem?_eq_getElem (show j < nmB.length from hw j hj)]
      rfl
    rwa [nm_inj hk hj2]
  · intro hm
    refine ⟨k, hm, ?_⟩
    rw [List.getD_eq_getElem?_getD, hk]
    rfl
section
variable {P : Program} {CT : FuncId → List Value → Hp → (Value → Hp → Prop) → Prop} {d : Option Nat} {xs : List Operand} {env : Env} {h : Hp} {R : Value → Hp → Prop}
theorem w_mlk {i e : Nat} {nm : List UInt8} {ws : List Nat} {b : Bool} (ex : mapF env xs = some [.map (some i), bs nm]) (hg : h.get i = some ⟨mpC ws, b, e⟩) (n : R (.bool (seenB nm ws)) h) : WI P CT ⟨d, none, .op (.mlk (.bool false) false) xs⟩ env h R := by
  refine w_op (v := .bool (seenB nm ws)) (h' := h) ?_ n
  unfold opF
  rw [ex]
  simp only [bs, stepK, hg, mfind_mp]
  cases seenB nm ws <;> rfl
theorem w_mup {i e : Nat} {nm : List UInt8} {x : Value} {us c : List Value} {b : Bool} (ex : mapF env xs = some [.map (some i), bs nm, x]) (hg : h.get i = some ⟨us, b, e⟩) (hf : flat x = true) (hc : mput ⟨nm.toArray⟩ x us = some c)
    (n : ∀ g, (∀ k, k ≠ i → g.get k = h.get k) → g.get i = some ⟨c, b, e⟩ → g.nx = h.nx → R undef g) : WI P CT ⟨d, none, .op .mup xs⟩ env h R := by
  refine w_op (v := undef) (h' := h.put i ⟨c, b, e⟩) ?_ (n _ (fun _ hk => hput_ne _ _ hk) (hput_same _ _ _) rfl)
  unfold opF
  rw [ex]
  simp only [bs, stepK, hg, hf, if_true, hc]
theorem w_mkm (n : ∀ g, Ext h g → g.get h.nx = some ⟨[], false, 0⟩ → h.nx < g.nx → R (.map (some h.nx)) g) : WI P CT ⟨d, none, .op .mkm []⟩ env h R :=
  w_op (v := .map (some h.nx)) (h' := h.new ⟨[], false, 0⟩) rfl (n _ (Ext.new _ _) (new_get _ _) (by simp [Hp.new]))
end
theorem end_cell3 {P : Program} {R : Value → Hp → Prop} {env : Env} {h : Hp} {a x y i n m : Nat} {t : TypeId} {dd : TypeDesc} {us : List Value} {b : Bool} {u v : Value} (e : getF env a = some (.pointer (some ⟨i, 0, none⟩))) (e2 : getF env x = some u) (e3 : getF env y = some v) (hg : h.get i = some ⟨us, b, m⟩) (hu : P.underlying t = some dd) (hd : isAggD dd = true) (hi : (P.info? t).map (·.size) = some n) (hl : us.length = n) (r : R (.tuple #[.agg ⟨us⟩, u, v]) h) : endQ P [.cell a t, .tmp x, .tmp y] R .ret env h := by
  refine ⟨[.agg ⟨us⟩, u, v], ?_, r⟩
  rw [getF_eq] at e e2 e3
  cases hti : P.info? t with
  | none => rw [hti] at hi; cases hi
  | some ti =>
  rw [hti] at hi
  have hn : ti.size = n := Option.some.inj hi
  have : h.rd i 0 ti.size = some us := rd_all hg (by rw [hl, hn])
  simp [resAll, resOne, e, e2, e3, hu, hd, hti, this]
theorem ptC_at (i : Nat) {j : Nat} (hj : j < 20) : ((ptC i).drop (j * 2)).take 2 = [bsV (nmB.getD j []), .iface (ptT (thinK j)) (.pointer (some ⟨i, j, none⟩))] := by
  have : j = 0 ∨ j = 1 ∨ j = 2 ∨ j = 3 ∨ j = 4 ∨ j = 5 ∨ j = 6 ∨ j = 7 ∨ j = 8 ∨ j = 9 ∨ j = 10 ∨ j = 11 ∨ j = 12 ∨ j = 13 ∨ j = 14 ∨ j = 15 ∨ j = 16 ∨ j = 17 ∨ j = 18 ∨ j = 19 := by omega
  rcases this with rfl | rfl | rfl | rfl | rfl | rfl | rfl | rfl | rfl | rfl | rfl | rfl | rfl | rfl | rfl | rfl | rfl | rfl | rfl | rfl <;> rfl
theorem ptC_rd {h : Hp} {q i e : Nat} {b : Bool} (hg : h.get q = some ⟨ptC i, b, e⟩) {j : Nat} (hj : j < 20) : h.rd q (0 + j * 2) 2 = some [bsV (nmB.getD j []), .iface (ptT (thinK j)) (.pointer (some ⟨i, j, none⟩))] := by
  have hl : (ptC i).length = 40 := rfl
  unfold Hp.rd
  simp only [hg, Nat.zero_add]
  rw [if_pos (by omega), ptC_at i hj]
end Go.Proofs.YtapbmmlgmcmpnaaDoorW.Am
/- Texts: Parse walked. -/
namespace Go.Proofs.YtapbmmlgmcmpnaaDoorW.Am
open Go Go.RowKit
theorem trimB_len (l : List UInt8) (c : UInt8) : (Go.Lib.trimB l c).length ≤ l.length := by
  unfold Go.Lib.trimB Go.Lib.trimLeftB
  exact Nat.le_trans (dw_len _ _) (trimR_len l c)
/-- Which part is set by a line, if it was not seen. -/
def hitB (nm : List UInt8) (was : List Nat) : Option Nat := match findN nm with
  | some k => if was.contains k = true then none else some k
  | none => none
def stp (nm val : List UInt8) (v : List Int) (was : List Nat) (j : Nat) : Bool × List Int := match hitB nm was with
  | some k => if k < j then ((setF k val).isSome, match setF k val with | some n => v.set k n | none => v) else (false, v)
  | none => (false, v)
theorem stp_zero (nm val : List UInt8) (v : List Int) (was : List Nat) : stp nm val v was 0 = (false, v) := by
  unfold stp
  split
  · rw [if_neg (Nat.not_lt_zero _)]
  · rfl
theorem stp_miss {nm val : List UInt8} {v : List Int} {was : List Nat} {j : Nat} (h : hitB nm was ≠ some j) : stp nm val v was (j + 1) = stp nm val v was j := by
  unfold stp
  split
  · next k hk =>
    have : k ≠ j := fun e => h (by rw [hk, e])
    by_cases hj : k < j
    · rw [if_pos hj, if_pos (by omega)]
    · rw [if_neg hj, if_neg (by omega)]
  · rfl
theorem stp_at {nm val : List UInt8} {v : List Int} {was : List Nat} {j : Nat} (h : hitB nm was = some j) : stp nm val v was j = (false, v) ∧ stp nm val v was (j + 1) = ((setF j val).isSome, match setF j val with | some n => v.set j n | none => v) := by
  unfold stp
  rw [h]
  simp
theorem stp_no {nm val : List UInt8} {v : List Int} {was : List Nat} (h : (stp nm val v was 20).1 = false) : ∀ k n, findN nm = some k → setF k val = some n → was.contains k = true := by
  intro k n hk hn
  cases hc : was.contains k
  · exfalso
    have hh : hitB nm was = some k := by
      unfold hitB
      rw [hk]
      simp only [hc]
      rfl
    unfold stp at h
    rw [hh] at h
    simp only [if_pos (findN_lt hk), hn] at h
    cases h
  · rfl
theorem stp_yes {nm val : List UInt8} {v us : List Int} {was : List Nat} (h : stp nm val v was 20 = (true, us)) : ∃ k n, findN nm = some k ∧ setF k val = some n ∧ was.contains k = false ∧ us = v.set k n := by
  unfold stp at h
  split at h
  · next k hk =>
    unfold hitB at hk
    split at hk
    · next k2 hf =>
      split at hk
      · cases hk
      · next hc =>
        cases hk
        rw [if_pos (findN_lt hf)] at h
        cases hn : setF k val with
        | none => rw [hn] at h; cases h
        | some n => rw [hn] at h; cases h; exact ⟨k, n, hf, hn, by simpa using hc, rfl⟩
    · cases hk
  · cases h
/-- Two objects turn, no other one. -/
def Md2 (x m : Nat) (h g : Hp) : Prop := h.nx ≤ g.nx ∧ ∀ j, j < h.nx → j ≠ x → j ≠ m → g.get j = h.get j
theorem Md2.refl (x m : Nat) (h : Hp) : Md2 x m h h := ⟨Nat.le_refl _, fun _ _ _ _ => rfl⟩
theorem Md2.trans {x m : Nat} {a b c : Hp} (p : Md2 x m a b) (q : Md2 x m b c) : Md2 x m a c := ⟨Nat.le_trans p.1 q.1, fun j hj h1 h2 => (q.2 j (Nat.lt_of_lt_of_le hj p.1) h1 h2).trans (p.2 j hj h1 h2)⟩
theorem Md.two {x m : Nat} {a b : Hp} (p : Md x a b) : Md2 x m a b := ⟨p.1, fun j hj h1 _ => p.2 j hj h1⟩
theorem Md.two' {x m : Nat} {a b : Hp} (p : Md m a b) : Md2 x m a b := ⟨p.1, fun j hj _ h2 => p.2 j hj h2⟩
theorem u8_eq (b c : UInt8) : ((b.toNat : Int) == (c.toNat : Int)) = (b == c) := by
  by_cases h : b = c
  · subst h; simp
  · have h2 : b.toNat ≠ c.toNat := fun q => h (UInt8.toNat_inj.1 q)
    rw [show (b == c) = false by simpa using h]
    simp
    omega
theorem map_set (v : List Int) (k : Nat) (n : Int) : (v.map nI).set k (nI n) = (v.set k n).map nI := by rw [List.map_set]
theorem Md.trans' {i k : Nat} {a b c : Hp} (p : Md i a b) (m : ∀ j, j ≠ k → c.get j = b.get j) (n : c.nx = b.nx) (hk : a.nx ≤ k) : Md i a c := ⟨by rw [n]; exact p.1, fun j hj hi => (m j (by omega)).trans (p.2 j hj hi)⟩
theorem Ext.own' {h a b : Hp} {i : Nat} (x : Ext h a) (m : ∀ k, k ≠ i → b.get k = a.get k) (n : b.nx = a.nx) (hi : h.nx ≤ i) : Ext h b := ⟨by rw [n]; exact x.1, fun k hk => (m k (by omega)).trans (x.2 k hk)⟩
set_option maxRecDepth 10000 in
set_option maxHeartbeats 8000000 in
theorem tparse_ok (c : Cf20) (s : List UInt8) (hs : s.length ≤ 1000000) (h : Hp) : ACall PX 10 [.agg ⟨cs20 c⟩, bs s] h (fun v g => v = .tuple #[.agg ⟨cs20 (parseF setF c s).1⟩, nI (parseF setF c s).2.1, nI (parseF setF c s).2.2] ∧ Ext h g) := by
  obtain ⟨R0, hR0⟩ : ∃ r, parseF setF c s = r := ⟨_, rfl⟩
  rw [hR0]
  unfold parseF at hR0
  obtain ⟨P0, hP0⟩ : ∃ p, parseL setF (linesL s) 0 (vl c) [] = p := ⟨_, rfl⟩
  rw [hP0] at hR0
  have hshort := lines_short s
  have hln := lines_len s
  have hc10 := Go.Lib.countB_le ⟨#[10]⟩ (Nat.le_refl _) _ ⟨s.toArray⟩ (Nat.le_refl _)
  have hsz := sz_mk s
  refine acall Go.Proofs.Tryd.func10 c10 (by simp [ir10]) ?_
  unfold ir10
  dsimp only
  refine ai_seq (ai_regW (sS (w_box rfl fun g1 x1 k1 n1 => sS (w_new fun g2 x2 k2 n2 => ?_))))
  have q1 := (x2.2 _ n1).trans k1
  repeat (first | refine sS ?_ | refine sE ?_ | refine w_mv rfl ?_ | (refine is_okn rfl ?_; refine w_op rfl ?_) | (refine is_ldn ?_; refine w_ldn rfl (by first | exact rd_all ‹_› rfl | exact rd_newn rfl | assumption) ?_) | refine ai_seq ?_ | refine ai_regW ?_)
  have x3 : Ext g2 (g2.new ⟨[], false, 0⟩) := Ext.new _ _
  have k3 : (g2.new ⟨[], false, 0⟩).get g2.nx = some ⟨[], false, 0⟩ := new_get _ _
  have n3 : g2.nx < (g2.new ⟨[], false, 0⟩).nx := by simp [Hp.new]
  generalize g2.new ⟨[], false, 0⟩ = g3 at x3 k3 n3 ⊢
  have q13 := (x3.2 _ (Nat.lt_of_lt_of_le n1 x2.1)).trans q1
  have q23 := (x3.2 _ n2).trans k2
  refine w_new fun g4 x4 k4 n4 => ?_
  repeat (first | refine sSn ?_)
  refine w_stN rfl rfl k4 rfl rfl fun g5 m5 k5 n5 => ?_
  have l1 := Nat.lt_of_lt_of_le n1 x2.1
  have l13 := Nat.lt_of_lt_of_le l1 x3.1
  have l23 := Nat.lt_of_lt_of_le n2 x3.1
  have q15 := (m5 _ (Nat.ne_of_lt l13)).trans ((x4.2 _ l13).trans q13)
  have q25 := (m5 _ (Nat.ne_of_lt l23)).trans ((x4.2 _ l23).trans q23)
  have q35 := (m5 _ (Nat.ne_of_lt n3)).trans ((x4.2 _ n3).trans k3)
  have x05 : Ext h g5 := ((x1.trans x2).trans (x3.trans x4)).own' m5 n5 (by have := x1.1; have := x2.1; have := x3.1; omega)
  repeat (first | refine sS ?_ | refine sE ?_ | refine w_mv rfl ?_ | refine ai_seq ?_ | refine ai_regW ?_)
  refine w_call rfl ((split_br s hs _).mono ?_)
  rintro _ g6 ⟨rfl, x6, k6, n6⟩
  have p1 : h.nx < g5.nx := by rw [n5]; exact Nat.lt_of_lt_of_le l13 x4.1
  have p2 : g1.nx < g5.nx := by rw [n5]; exact Nat.lt_of_lt_of_le l23 x4.1
  have p3 : g2.nx < g5.nx := by rw [n5]; exact Nat.lt_of_lt_of_le n3 x4.1
  have p4 : g3.nx < g5.nx := by rw [n5]; exact n4
  have q16 := (x6.2 _ p1).trans q15
  have q26 := (x6.2 _ p2).trans q25
  have q36 := (x6.2 _ p3).trans q35
  have q46 := (x6.2 _ p4).trans k5
  have x06 := x05.trans x6
  have l6 := x6.1
  have o1 : h.nx < g1.nx := n1
  have o2 : g1.nx < g2.nx := n2
  have o3 : g2.nx < g3.nx := n3
  clear k1 k2 k3 k4 k5 q1 q13 q23 q15 q25 q35 m5 x1 x2 x3 x4 x05 x6
  obtain ⟨L, hL⟩ : ∃ L, linesL s = L := ⟨_, rfl⟩
  rw [hL] at hP0 hshort hln k6 ⊢
  repeat (first | refine sS ?_ | refine sE ?_ | refine w_mv rfl ?_ | (refine is_okn rfl ?_; refine w_op rfl ?_) | refine ai_block ?_)
  refine ai_loopE (γ := Nat × List Int × List Nat) (fun e => [(2, .pointer (some ⟨h.nx, 0, none⟩)), (4, .pointer (some ⟨g1.nx, 0, none⟩)), (7, .pointer (some ⟨g3.nx, 0, none⟩)), (8, .map (some g2.nx)), (20, .slice (some ⟨g5.nx, 0, none⟩) L.length L.length), (21, nI L.length), (22, nI e.1)])
    (fun e g => Md2 g3.nx g2.nx g6 g ∧ g.get g3.nx = some ⟨e.2.1.map nI, true, 0⟩ ∧ g.get g2.nx = some ⟨mpC e.2.2, false, 0⟩ ∧ e.1 ≤ L.length ∧ e.2.1.length = 20 ∧ (∀ j ∈ e.2.2, j < 20) ∧ parseL setF (L.drop e.1) e.1 e.2.1 e.2.2 = P0) (fun e => L.length - e.1) (0, vl c, [])
    (by repeat (first | exact le_nil | refine le_consF rfl ?_)) ⟨Md2.refl _ _ _, q46, q36, Nat.zero_le _, rfl, by simp, hP0⟩ ?_
  clear q46 q36 hP0
  rintro ⟨i, v, was⟩ g ⟨md, kx, km, hi, hv, hw, hp⟩
  dsimp only at kx km hi hv hw hp ⊢
  have hmn := md.1
  have r1 := (md.2 h.nx (by omega) (by omega) (by omega)).trans q16
  have r2 := (md.2 g1.nx (by omega) (by omega) (by omega)).trans q26
  have r6 := (md.2 g5.nx n6 (by omega) (by omega)).trans k6
  by_cases hil : i < L.length
  · obtain ⟨ln, hlni⟩ : ∃ ln, L[i]? = some ln := ⟨_, List.getElem?_eq_getElem hil⟩
    have hdr : L.drop i = ln :: L.drop (i + 1) := by
      obtain ⟨h1, rfl⟩ := List.getElem?_eq_some_iff.1 hlni
      exact List.drop_eq_getElem_cons h1
    rw [hdr] at hp
    simp only [parseL] at hp
    have hlnl := hshort ln (List.mem_of_getElem? hlni)
    have htl := trimB_len ln 32
    have hrd := rd_row r6 (x := i) (v := bsV ln) (by rw [List.getElem?_map, hlni]; rfl)
    repeat (first | refine sS ?_ | refine sE ?_ | refine w_mv rfl ?_ | (refine is_ld ?_; refine w_ld rfl (by first | exact rd_g ‹_› rfl | exact rd_new rfl | assumption) ?_) | (refine w_cmp (c2 := true) rfl ?_ ?_; focus (first | exact decide_eq_true (by omega) | (simp; done) | (simp; omega))) | (refine w_iad rfl ?_ ?_; focus (first | omega | (simp; done) | (simp; omega))) | refine ai_seq ?_ | refine ai_regW ?_ | refine ai_condF (b := true) rfl (fun _ => ?_) (fun hb => by cases hb) | refine ai_skip ?_ | refine ai_block ?_)
    refine w_call rfl ((trim_br ln (by omega) _).mono ?_)
    rintro _ _ ⟨rfl, rfl⟩
    repeat (first | refine sS ?_ | refine sE ?_ | refine w_mv rfl ?_ | refine ai_seq ?_ | refine ai_regW ?_)
    refine w_eqB (a := Go.Lib.trimB ln 32) (b := []) rfl ?_
    generalize Go.Lib.trimB ln 32 = t at hp htl ⊢
    cases t with
    | nil =>
      rw [if_pos (c := blankB [] = true) rfl] at hp
      repeat (first | refine sS ?_ | refine sE ?_ | refine w_mv rfl ?_ | refine w_pickT rfl ?_ | refine w_gF rfl rfl ?_ | (refine w_add rfl ?_ ?_; (focus omega)) | refine ai_regW ?_ | refine ai_condF (b := true) rfl (fun _ => ?_) (fun hb => by cases hb) | refine ai_exit ?_)
      exact ⟨(i + 1, v, was), (by repeat (first | exact le_nil | refine le_consF rfl ?_)), ⟨md, kx, km, by dsimp only; omega, hv, hw, hp⟩, by dsimp only; omega⟩
    | cons b r =>
      repeat (first | refine sS ?_ | refine w_mv rfl ?_ | (refine is_okn rfl ?_; refine w_op rfl ?_) | refine w_gT rfl rfl ?_)
      refine w_cmp (c2 := (b == 35)) rfl (u8_eq b 35) ?_
      by_cases hb : b = 35
      · subst hb
        rw [if_pos (c := blankB (35 :: r) = true) rfl] at hp
        repeat (first | refine sS ?_ | refine sE ?_ | refine w_mv rfl ?_ | refine w_pickF rfl ?_ | (refine w_add rfl ?_ ?_; (focus omega)) | refine ai_regW ?_ | refine ai_condF (b := true) rfl (fun _ => ?_) (fun hb => by cases hb) | refine ai_exit ?_)
        exact ⟨(i + 1, v, was), (by repeat (first | exact le_nil | refine le_consF rfl ?_)), ⟨md, kx, km, by dsimp only; omega, hv, hw, hp⟩, by dsimp only; omega⟩
      · have hb2 : (b == 35) = false := by simpa using hb
        rw [hb2]
        rw [if_neg (by simpa [blankB] using hb)] at hp
        repeat (first | refine sS ?_ | refine sE ?_ | refine w_mv rfl ?_ | refine w_pickF rfl ?_ | refine ai_seq ?_ | refine ai_regW ?_ | refine ai_condF (b := false) rfl (fun hb => by cases hb) (fun _ => ?_) | refine ai_skip ?_)
        have htl2 : (b :: r).length ≤ 1000000 := by omega
        have hcl := cut_len (b :: r) [58, 32]
        unfold lineF at hp
        obtain ⟨⟨nm, val, pt⟩, hc⟩ : ∃ c, Go.Lib.cut (b :: r) [58, 32] = c := ⟨_, rfl⟩
        rw [hc] at hp hcl
        dsimp only at hp hcl
        have cb := fun g => cut_br (b :: r) [58, 32] htl2 g
        simp only [hc] at cb
        repeat (first | refine sS ?_ | refine sE ?_ | refine w_mv rfl ?_ | refine w_ext rfl rfl ?_ | (refine w_call rfl ((cb _).mono ?_); rintro _ _ ⟨rfl, rfl⟩) | refine ai_seq ?_ | refine ai_regW ?_)
        refine w_call rfl ((parts_ok _ g3.nx).mono ?_)
        rintro _ g7 ⟨rfl, x7, k7, n7⟩
        have hvl : val.length ≤ 1000000 := by omega
        have kx7 := (x7.2 _ (by omega)).trans kx
        have hx7 := x7.1
        repeat (first | refine sS ?_ | refine sE ?_ | refine w_mv rfl ?_ | (refine is_okn rfl ?_; refine w_op rfl ?_) | refine ai_block ?_)
        refine ai_loopE (γ := Nat × Bool × List Int) (fun e => [(2, .pointer (some ⟨h.nx, 0, none⟩)), (4, .pointer (some ⟨g1.nx, 0, none⟩)), (7, .pointer (some ⟨g3.nx, 0, none⟩)), (8, .map (some g2.nx)), (9, nI i), (11, bs nm), (12, bs val), (14, .bool e.2.1), (20, .slice (some ⟨g5.nx, 0, none⟩) L.length L.length), (21, nI L.length), (22, nI i), (42, .slice (some ⟨g.nx, 0, none⟩) 20 20), (43, nI 20), (44, nI e.1)])
          (fun e g' => Md g3.nx g7 g' ∧ g'.get g3.nx = some ⟨e.2.2.map nI, true, 0⟩ ∧ e.1 ≤ 20 ∧ e.2.2.length = 20 ∧ (e.2.1, e.2.2) = stp nm val v was e.1) (fun e => 20 - e.1) (0, false, v)
          (by repeat (first | exact le_nil | refine le_consF rfl ?_)) ⟨Md.refl _ _, kx7, Nat.zero_le _, hv, (stp_zero _ _ _ _).symm⟩ ?_
        rintro ⟨j, good, us⟩ g8 ⟨md8, kx8, hj, hul, hst⟩
        dsimp only at kx8 hj hul hst ⊢
        have hx8 := md8.1
        have km8 := (md8.2 g2.nx (by omega) (by omega)).trans ((x7.2 _ (by omega)).trans km)
        have kp8 := (md8.2 g.nx (by omega) (by omega)).trans k7
        by_cases hj20 : j < 20
        · have hrd2 := ptC_rd kp8 hj20
          repeat (first | refine sS ?_ | refine sE ?_ | (refine is_ldn ?_; refine w_ldn rfl (by first | exact rd_all ‹_› rfl | exact rd_newn rfl | assumption) ?_) | (refine w_cmp (c2 := true) rfl ?_ ?_; focus (first | exact decide_eq_true (by omega) | (simp; done) | (simp; omega))) | (refine w_iad rfl ?_ ?_; focus (first | omega | (simp; done) | (simp; omega))) | refine ai_seq ?_ | refine ai_regW ?_ | refine ai_condF (b := true) rfl (fun _ => ?_) (fun hb => by cases hb) | refine ai_skip ?_ | refine ai_block ?_)
          refine w_new fun g9 x9 k9 n9 => ?_
          repeat (first | refine sSn ?_)
          refine w_stN rfl rfl k9 rfl rfl fun ga ma ka na => ?_
          have kxa := (ma _ (by have := x9.1; omega)).trans ((x9.2 _ (by omega)).trans kx8)
          have kma := (ma _ (by have := x9.1; omega)).trans ((x9.2 _ (by omega)).trans km8)
          have mda : Md g3.nx g7 ga := (md8.trans x9.md).trans' ma na (by omega)
          repeat (first | refine sS ?_ | refine sE ?_ | refine w_mv rfl ?_ | (refine is_okn rfl ?_; refine w_op rfl ?_) | (refine is_ld ?_; refine w_ld rfl (by first | exact rd_g ‹_› rfl | exact rd_new rfl | assumption) ?_) | refine ai_seq ?_ | refine ai_regW ?_)
          refine w_eqB (a := nmB.getD j []) (b := nm) rfl ?_
          have hjn : nmB[j]? = some (nmB.getD j []) := by
            rw [List.getD_eq_getElem?_getD, List.getElem?_eq_getElem (show j < nmB.length from hj20)]
            rfl
          have hnga : g8.nx ≤ ga.nx := by rw [na]; exact x9.1
          by_cases hnm : nmB.getD j [] = nm
          · have hnb : (nmB.getD j [] == nm) = true := by simpa using hnm
            have hjm := hjn
            rw [hnm] at hjm
            have hfn := findN_at hjm
            rw [hnb]
            repeat (first | refine sS ?_ | refine w_mv rfl ?_ | refine w_gT rfl rfl ?_)
            refine w_mlk rfl kma ?_
            rw [seen_mem hfn hw]
            cases hwas : was.contains j
            · have hit : hitB nm was = some j := by
                unfold hitB
                rw [hfn]
                simp only [hwas]
                rfl
              obtain ⟨st1, st2⟩ := stp_at (val := val) (v := v) hit
              rw [st1] at hst
              cases hst
              repeat (first | refine sS ?_ | refine sE ?_ | refine w_mv rfl ?_ | refine w_pickT rfl ?_ | (refine is_okn rfl ?_; refine w_op rfl ?_) | refine w_gT rfl rfl ?_ | (refine is_ldn ?_; refine w_ldn rfl (by first | exact rd_all ‹_› rfl | exact rd_newn rfl | assumption) ?_) | refine ai_regW ?_ | refine ai_condF (b := true) rfl (fun _ => ?_) (fun hb => by cases hb))
              refine w_call rfl ((set_ok _ (nmB.getD j []) val hvl (i := g3.nx) (k := j) kxa (by omega) (by rw [List.length_map]; omega)).mono ?_)
              rintro _ gb ⟨rfl, mdb, kxb⟩
              repeat (first | refine sS ?_ | refine sE ?_ | refine w_mv rfl ?_ | (refine w_add rfl ?_ ?_; (focus omega)) | refine ai_regW ?_)
              refine ⟨(j + 1, (setF j val).isSome, (match setF j val with | some n => v.set j n | none => v)), (by repeat (first | exact le_nil | refine le_consF rfl ?_)), ⟨mda.trans mdb, ?_, by dsimp only; omega, ?_, st2.symm⟩, by dsimp only; omega⟩
              · rw [kxb]
                cases setF j val with
                | none => rfl
                | some n =>
                  show some (Ob.mk ((v.map nI).set j (nI n)) true 0) = _
                  rw [map_set]
              · cases setF j val with
                | none => exact hv
                | some n => show (v.set j n).length = 20; rw [List.length_set]; exact hv
            · have hit : hitB nm was ≠ some j := by
                unfold hitB
                rw [hfn]
                simp only [hwas]
                simp
              repeat (first | refine sS ?_ | refine sE ?_ | refine w_mv rfl ?_ | refine w_pickT rfl ?_ | (refine is_okn rfl ?_; refine w_op rfl ?_) | refine w_gT rfl rfl ?_ | (refine w_add rfl ?_ ?_; (focus omega)) | refine ai_regW ?_ | refine ai_condF (b := false) rfl (fun hb => by cases hb) (fun _ => ?_) | refine ai_skip ?_)
              exact ⟨(j + 1, good, us), (by repeat (first | exact le_nil | refine le_consF rfl ?_)), ⟨mda, kxa, by dsimp only; omega, hul, by rw [stp_miss hit]; exact hst⟩, by dsimp only; omega⟩
          · have hnb : (nmB.getD j [] == nm) = false := by simpa using hnm
            have hit : hitB nm was ≠ some j := by
              intro e
              unfold hitB at e
              split at e
              · next k hk =>
                split at e
                · cases e
                · cases e
                  have := findN_some hk
                  rw [hjn] at this
                  exact hnm (Option.some.inj this)
              · cases e
            rw [hnb]
            repeat (first | refine sS ?_ | refine sE ?_ | refine w_mv rfl ?_ | refine w_pickF rfl ?_ | refine w_gF rfl rfl ?_ | (refine w_add rfl ?_ ?_; (focus omega)) | refine ai_regW ?_ | refine ai_condF (b := false) rfl (fun hb => by cases hb) (fun _ => ?_) | refine ai_skip ?_)
            exact ⟨(j + 1, good, us), (by repeat (first | exact le_nil | refine le_consF rfl ?_)), ⟨mda, kxa, by dsimp only; omega, hul, by rw [stp_miss hit]; exact hst⟩, by dsimp only; omega⟩
        · obtain rfl : j = 20 := by omega
          repeat (first | refine sS ?_ | refine sSn ?_ | refine sE ?_ | refine w_mv rfl ?_ | (refine w_cmp (c2 := false) rfl ?_ ?_; focus (first | exact decide_eq_false (by omega) | (simp; done) | (simp; omega))) | refine ai_seq ?_ | refine ai_regW ?_ | refine ai_condF (b := false) rfl (fun hb => by cases hb) (fun _ => ?_) | refine ai_exit ?_)
          obtain ⟨cm, hcm⟩ := mput_any nm (.bool true) was
          refine w_mup rfl km8 rfl hcm fun ga ma ka na => ?_
          have kxa := (ma _ (by omega)).trans kx8
          have mga : Md2 g3.nx g2.nx g8 ga := ⟨Nat.le_of_eq na.symm, fun j _ _ hm => ma j hm⟩
          have md6 : Md2 g3.nx g2.nx g6 ga := ((md.trans x7.md.two).trans md8.two).trans mga
          have hnga := md6.1
          cases good
          · have hpe := stp_no (nm := nm) (val := val) (v := v) (was := was) (by rw [← hst])
            have hpe2 : P0 = .error (i + 1) := by
              rw [← hp]
              cases hk : findN nm with
              | none => rfl
              | some k =>
                cases hn : setF k val with
                | none => simp [hn]
                | some n =>
                  have h1 := hpe k n hk hn
                  simp only [Option.bind_some, hn, Option.map_some, h1, if_true]
            have ra := (md6.2 h.nx (by omega) (by omega) (by omega)).trans q16
            have rb := (md6.2 g1.nx (by omega) (by omega) (by omega)).trans q26
            repeat (first | refine sS ?_ | refine sSn ?_ | refine sE ?_ | refine w_mv rfl ?_ | (refine is_okn rfl ?_; refine w_op rfl ?_) | (refine is_ldn ?_; refine w_ldn rfl (by first | exact rd_all ‹_› rfl | exact rd_newn rfl | assumption) ?_) | (refine w_add rfl ?_ ?_; (focus omega)) | refine ai_seq ?_ | refine ai_regW ?_ | refine ai_condF (b := true) rfl (fun _ => ?_) (fun hb => by cases hb))
            refine w_stN rfl rfl rb rfl rfl fun gb mb kb nb => ?_
            repeat (first | refine sS ?_ | refine sE ?_ | refine w_mv rfl ?_ | (refine ai_ret ?_; repeat (first | rw [thenQ_r] | rw [blockQ_r] | rw [roundE_r])))
            refine end_cell3 rfl rfl rfl kb Go.Proofs.Tryd.underlying24 rfl (by kernel_rfl) rfl ⟨?_, ?_⟩
            · rw [hpe2] at hR0
              rw [← hR0]
              rfl
            · exact ⟨by rw [nb]; have := x06.1; omega, fun q hq => (mb q (by omega)).trans ((md6.2 q (by omega) (by omega) (by omega)).trans (x06.2 q hq))⟩
          · obtain ⟨k, n, e1, e2, e3, rfl⟩ := stp_yes hst.symm
            rw [e1] at hp
            simp only [Option.bind_some, e2, Option.map_some, e3, Bool.false_eq_true, if_false] at hp
            have hsn : seenB nm was = false := by rw [seen_mem e1 hw]; exact e3
            have hcm2 := mput_new nm (.bool true) was hsn
            rw [hcm] at hcm2
            cases hcm2
            have hnk : nmB.getD k [] = nm := by rw [List.getD_eq_getElem?_getD, findN_some e1]; rfl
            have hmp : mpC was ++ [bsV nm, .bool true] = mpC (was ++ [k]) := by
              unfold mpC
              rw [List.flatMap_append]
              show _ = _ ++ [bsV (nmB.getD k []), .bool true]
              rw [hnk]
            rw [hmp] at ka
            repeat (first | refine sS ?_ | refine sE ?_ | refine w_mv rfl ?_ | (refine is_okn rfl ?_; refine w_op rfl ?_) | (refine w_add rfl ?_ ?_; (focus omega)) | refine ai_seq ?_ | refine ai_regW ?_ | refine ai_condF (b := false) rfl (fun hb => by cases hb) (fun _ => ?_) | refine ai_skip ?_)
            refine ⟨(i + 1, v.set k n, was ++ [k]), (by repeat (first | exact le_nil | refine le_consF rfl ?_)), ⟨md6, kxa, ka, by dsimp only; omega, by dsimp only; rw [List.length_set]; exact hv, ?_, hp⟩, by dsimp only; omega⟩
            intro q hq
            rcases List.mem_append.1 hq with hq | hq
            · exact hw q hq
            · rw [List.mem_singleton.1 hq]; exact findN_lt e1
  · obtain rfl : i = L.length := by omega
    rw [List.drop_length] at hp
    obtain ⟨d, rfl⟩ := vl_of hv
    have hp2 : P0 = .ok (vl d) := hp.symm
    rw [hp2] at hR0
    replace hR0 : (if mayB d = true then (d, (0 : Int), (0 : Int)) else (c, 5, 0)) = R0 := hR0
    repeat (first | refine sS ?_ | refine sE ?_ | (refine is_ldn ?_; refine w_ldn rfl (by first | exact rd_all ‹_› rfl | exact rd_newn rfl | assumption) ?_) | (refine w_cmp (c2 := false) rfl ?_ ?_; focus (first | exact decide_eq_false (by omega) | (simp; done) | (simp; omega))) | refine ai_seq ?_ | refine ai_regW ?_ | refine ai_condF (b := false) rfl (fun hb => by cases hb) (fun _ => ?_) | refine ai_exit ?_)
    refine w_call rfl ((may_ok _ d).mono ?_)
    rintro _ g7 ⟨rfl, x7⟩
    have hn7 := x7.1
    have ra := (x7.2 h.nx (by omega)).trans r1
    have rb := (x7.2 g1.nx (by omega)).trans r2
    have rx := (x7.2 g3.nx (by omega)).trans kx
    have xf : ∀ gb, (∀ k, k ≠ g1.nx → gb.get k = g7.get k) → gb.nx = g7.nx → Ext h gb := fun gb mb nb => ⟨by rw [nb]; have := x06.1; omega, fun q hq => (mb q (by omega)).trans ((x7.2 q (by omega)).trans ((md.2 q (by omega) (by omega) (by omega)).trans (x06.2 q hq)))⟩
    obtain ⟨mb, hm⟩ : ∃ b, mayB d = b := ⟨_, rfl⟩
    rw [hm] at hR0 ⊢
    cases mb
    · rw [← hR0]
      repeat (first | refine sS ?_ | refine sSn ?_ | refine sE ?_ | (refine is_okn rfl ?_; refine w_op rfl ?_) | (refine is_ldn ?_; refine w_ldn rfl (by first | exact rd_all ‹_› rfl | exact rd_newn rfl | assumption) ?_) | refine ai_seq ?_ | refine ai_regW ?_ | refine ai_condF (b := true) rfl (fun _ => ?_) (fun hb => by cases hb))
      refine w_stN rfl rfl rb rfl rfl fun gb mb kb nb => ?_
      repeat (first | refine sS ?_ | refine sE ?_ | refine w_mv rfl ?_ | (refine ai_ret ?_; repeat (first | rw [thenQ_r] | rw [blockQ_r] | rw [roundE_r])))
      exact end_cell3 rfl rfl rfl kb Go.Proofs.Tryd.underlying24 rfl (by kernel_rfl) rfl ⟨rfl, xf gb mb nb⟩
    · rw [← hR0]
      repeat (first | refine sS ?_ | refine sSn ?_ | refine sE ?_ | (refine is_okn rfl ?_; refine w_op rfl ?_) | (refine is_ldn ?_; refine w_ldn rfl (by first | exact rd_all ‹_› rfl | exact rd_newn rfl | assumption) ?_) | refine ai_seq ?_ | refine ai_regW ?_ | refine ai_condF (b := false) rfl (fun hb => by cases hb) (fun _ => ?_) | refine ai_skip ?_)
      refine w_stN rfl rfl rb rfl rfl fun gb mb kb nb => ?_
      repeat (first | refine sS ?_ | refine sE ?_ | refine w_mv rfl ?_ | (refine ai_ret ?_; repeat (first | rw [thenQ_r] | rw [blockQ_r] | rw [roundE_r])))
      exact end_cell3 rfl rfl rfl kb Go.Proofs.Tryd.underlying24 rfl (by kernel_rfl) rfl ⟨rfl, xf gb mb nb⟩
end Go.Proofs.YtapbmmlgmcmpnaaDoorW.Am
/- Texts: the document's own lines. -/
namespace Go.Proofs.YtapbmmlgmcmpnaaDoorW.Am
open Go Go.RowKit
theorem index_app : ∀ (nm r : List UInt8), (∀ b ∈ nm, b ≠ 58) → Go.Lib.index (nm ++ 58 :: 32 :: r) [58, 32] = (nm.length : Int)
  | [], r, _ => by rw [List.nil_append, Go.Lib.index]; simp [List.isPrefixOf]
  | a :: nm, r, h => by
    have ih := index_app nm r (fun b hb => h b (by simp [hb]))
    have ha := h a (by simp)
    have hp : ([58, 32] : List UInt8).isPrefixOf (a :: (nm ++ 58 :: 32 :: r)) = false := by simp [List.isPrefixOf, Ne.symm ha]
    rw [List.cons_append, Go.Lib.index, hp, ih]
    have : ¬ ((nm.length : Int) == -1) = true := fun e => by have := beq_iff_eq.1 e; omega
    simp only [Bool.false_eq_true, if_false]
    rw [if_neg this]
    simp
theorem cut_app {nm r : List UInt8} (h : ∀ b ∈ nm, b ≠ 58) : Go.Lib.cut (nm ++ 58 :: 32 :: r) [58, 32] = (nm, r, true) := by
  unfold Go.Lib.cut
  rw [index_app nm r h, if_pos (by omega), Int.toNat_natCast]
  simp
theorem index_pre : ∀ (l : List UInt8) (i : Nat), Go.Lib.index l [58, 32] = (i : Int) → l = l.take i ++ 58 :: 32 :: l.drop (i + 2)
  | [], i, h => by
    rw [Go.Lib.index] at h
    simp at h
  | a :: l, i, h => by
    rw [Go.Lib.index] at h
    cases hp : ([58, 32] : List UInt8).isPrefixOf (a :: l)
    · rw [hp] at h
      simp only [Bool.false_eq_true, if_false] at h
      by_cases hm : (Go.Lib.index l [58, 32] == -1) = true
      · rw [if_pos hm] at h; omega
      · rw [if_neg hm] at h
        cases i with
        | zero => have := Go.Lib.index_ge l [58, 32]; have : ¬ Go.Lib.index l [58, 32] = -1 := fun e => hm (beq_iff_eq.2 e); omega
        | succ i =>
          have ih := index_pre l i (by omega)
          simp only [List.take_succ_cons, List.cons_append]
          have e2 : (a :: l).drop (i + 1 + 2) = l.drop (i + 2) := rfl
          rw [e2, ← ih]
    · rw [hp] at h
      simp at h
      have : i = 0 := by omega
      subst this
      cases l with
      | nil => simp [List.isPrefixOf] at hp
      | cons b l =>
        simp [List.isPrefixOf] at hp
        obtain ⟨h1, h2⟩ := hp
        subst h1 h2
        rfl
theorem nm_58 : ∀ nm ∈ nmB, ∀ b ∈ nm, b ≠ 58 := by decide
theorem setF_nil (k : Nat) : setF k [] = none := by
  unfold setF
  split
  · rfl
  · rfl
/-- The part whose name a line begins with. -/
def hitR (l : List UInt8) : Option Nat := if (Go.Lib.cut l [58, 32]).2.2 = true then findN (Go.Lib.cut l [58, 32]).1 else none
theorem hitR_pre {l : List UInt8} {k : Nat} {nm : List UInt8} (hk : nmB[k]? = some nm) : hitR l = some k ↔ l.take (nm.length + 2) = nm ++ [58, 32] := by
  have h58 := nm_58 nm (List.mem_of_getElem? hk)
  constructor
  · intro h
    unfold hitR at h
    split at h
    · next hf =>
      have hn := findN_some h
      rw [hk] at hn
      have hnm := Option.some.inj hn
      unfold Go.Lib.cut at hf hnm
      split at hf
      · next h0 =>
        rw [if_pos h0] at hnm
        obtain ⟨i, hi⟩ : ∃ i : Nat, Go.Lib.index l [58, 32] = i := ⟨(Go.Lib.index l [58, 32]).toNat, by omega⟩
        rw [hi, Int.toNat_natCast] at hnm
        have hl := index_pre l i hi
        have hle : i ≤ l.length := by
          have := congrArg List.length hl
          simp at this
          omega
        have hnl : nm.length = i := by rw [hnm]; simp [hle]
        dsimp only at hnm
        rw [← hnm] at hl
        rw [hl, hnl]
        have : i + 2 = (nm ++ [58, 32]).length := by simp [hnl]
        rw [show nm ++ 58 :: 32 :: List.drop (i + 2) l = (nm ++ [58, 32]) ++ List.drop (i + 2) l by simp, this, List.take_left']
        rfl
      · cases hf
    · cases h
  · intro h
    have hl : l = nm ++ 58 :: 32 :: l.drop (nm.length + 2) := by
      have := List.take_append_drop (nm.length + 2) l
      rw [h] at this
      rw [← this]
      simp
    unfold hitR
    rw [hl, cut_app h58]
    exact findN_at hk
theorem lineF_hit {S : Nat → List UInt8 → Option Int} (h0 : ∀ k, S k [] = none) {l : List UInt8} : lineF S l = (hitR l).bind fun k => (S k (Go.Lib.cut l [58, 32]).2.1).map fun n => (k, n) := by
  unfold lineF hitR
  split
  · rfl
  · next hf =>
    have : (Go.Lib.cut l [58, 32]).2.1 = [] := by
      unfold Go.Lib.cut at hf ⊢
      split
      · next h0 => rw [if_pos h0] at hf; exact absurd rfl hf
      · rfl
    rw [this]
    cases findN (Go.Lib.cut l [58, 32]).1 with
    | none => rfl
    | some k => simp [h0]
theorem hitR_rest {l : List UInt8} {k : Nat} {nm : List UInt8} (hk : nmB[k]? = some nm) (h : hitR l = some k) : (Go.Lib.cut l [58, 32]).2.1 = l.drop (nm.length + 2) := by
  have h58 := nm_58 nm (List.mem_of_getElem? hk)
  have ht := (hitR_pre hk).1 h
  have hl : l = nm ++ 58 :: 32 :: l.drop (nm.length + 2) := by
    have := List.take_append_drop (nm.length + 2) l
    rw [ht] at this
    rw [← this]
    simp
  rw [hl, cut_app h58]
  dsimp only
  rw [← hl]
theorem nm_len : ∀ nm ∈ nmB, nm.length ≤ 20 := by decide
def rlineF (l : List UInt8) : Int × Int := match lineF setF l with
  | some (k, n) => ((k : Int), n)
  | none => (-1, 0)
set_option maxHeartbeats 4000000 in
theorem rline_ok (l : List UInt8) (hl : l.length ≤ 1000000) (h : Hp) : ACall PX 32 [bs l] h (fun v g => v = .tuple #[nI (rlineF l).1, nI (rlineF l).2] ∧ Ext h g) := by
  have hz := sz_mk l
  refine acall Go.Proofs.Tryd.func32 c32 (by simp [ir32]) ?_
  unfold ir32
  dsimp only
  repeat (first | refine sS ?_ | refine sE ?_ | refine w_mv rfl ?_ | refine ai_seq ?_ | refine ai_regW ?_ | refine ai_block ?_)
  refine ai_loopE (γ := Nat) (fun k => [(0, bs l), (4, nI k)]) (fun k g => Ext h g ∧ k ≤ 20 ∧ ∀ j, j < k → hitR l = some j → setF j (Go.Lib.cut l [58, 32]).2.1 = none) (fun k => 20 - k) 0
    (by repeat (first | exact le_nil | refine le_consF rfl ?_)) ⟨Ext.refl _, Nat.zero_le _, fun j hj => absurd hj (Nat.not_lt_zero _)⟩ ?_
  rintro k g ⟨x, hk, hno⟩
  repeat (first | refine sS ?_ | refine w_mv rfl ?_ | refine ai_seq ?_ | refine ai_regW ?_)
  refine w_call rfl ((names_ok _).mono ?_)
  rintro _ g1 ⟨rfl, x1, k1, n1⟩
  by_cases hk20 : k < 20
  · obtain ⟨nm, hnm⟩ : ∃ nm, nmB[k]? = some nm := ⟨_, List.getElem?_eq_getElem (show k < nmB.length from hk20)⟩
    have hnl := nm_len nm (List.mem_of_getElem? hnm)
    repeat (first | refine sS ?_ | refine sE ?_ | (refine is_okn rfl ?_; refine w_op rfl ?_) | (refine w_cmp (c2 := true) rfl ?_ ?_; focus (first | exact decide_eq_true (by omega) | (simp; done) | (simp; omega))) | refine ai_seq ?_ | refine ai_regW ?_ | refine ai_condF (b := true) rfl (fun _ => ?_) (fun hb => by cases hb) | refine ai_skip ?_ | refine ai_block ?_)
    refine w_call rfl ((names_ok _).mono ?_)
    rintro _ g2 ⟨rfl, x2, k2, n2⟩
    have hrd := rd_row k2 (x := k) (v := bsV nm) (by rw [List.getElem?_map, hnm]; rfl)
    repeat (first | refine sS ?_ | refine w_mv rfl ?_ | (refine is_ld ?_; refine w_ld rfl (by first | exact rd_g ‹_› rfl | exact rd_new rfl | assumption) ?_) | (refine w_iad rfl ?_ ?_; focus (first | omega | (simp; done) | (simp; omega))))
    refine w_catB (a := nm) (b := [58, 32]) rfl (by simp; omega) ?_
    have hz2 := sz_mk (nm ++ [58, 32])
    rw [List.length_append] at hz2
    have hz3 : ((ByteArray.mk (nm ++ [58, 32]).toArray).size : Int) = ((nm.length + 2 : Nat) : Int) := by rw [hz2]; rfl
    have hx := (x.trans x1).trans x2
    by_cases hlt : l.length < nm.length + 2
    · have hne : hitR l ≠ some k := fun e => by
        have := congrArg List.length ((hitR_pre hnm).1 e)
        simp at this
        omega
      repeat (first | refine sS ?_ | refine sE ?_ | refine w_mv rfl ?_ | refine w_pickT rfl ?_ | (refine is_okn rfl ?_; refine w_op rfl ?_) | refine w_gF rfl rfl ?_ | (refine w_add rfl ?_ ?_; (focus omega)) | (refine w_cmp (c2 := true) rfl ?_ ?_; focus (first | exact decide_eq_true (by omega) | (simp; done) | (simp; omega))) | refine ai_seq ?_ | refine ai_regW ?_ | refine ai_condF (b := true) rfl (fun _ => ?_) (fun hb => by cases hb) | refine ai_exit ?_)
      exact ⟨k + 1, (by repeat (first | exact le_nil | refine le_consF rfl ?_)), ⟨hx, by omega, fun j hj hh => by
        by_cases hjk : j < k
        · exact hno j hjk hh
        · obtain rfl : j = k := by omega
          exact absurd hh hne⟩, by dsimp only; omega⟩
    · repeat (first | refine sS ?_ | refine sE ?_ | refine w_mv rfl ?_ | (refine is_okn rfl ?_; refine w_op rfl ?_) | refine w_gT rfl rfl ?_ | (refine w_cmp (c2 := false) rfl ?_ ?_; focus (first | exact decide_eq_false (by omega) | (simp; done) | (simp; omega))) | refine ai_seq ?_ | refine ai_regW ?_)
      rw [hz3]
      refine w_slsP rfl (by omega) ?_
      repeat (first | refine sS ?_ | refine w_mv rfl ?_ | refine w_gT rfl rfl ?_)
      refine w_neB (a := l.take (nm.length + 2)) (b := nm ++ [58, 32]) rfl ?_
      by_cases heq : l.take (nm.length + 2) = nm ++ [58, 32]
      · have hit := (hitR_pre hnm).2 heq
        have hrest := hitR_rest hnm hit
        rw [show (!(l.take (nm.length + 2) == nm ++ [58, 32])) = false by simpa using heq]
        have hdl : (l.drop (nm.length + 2)).length ≤ 1000000 := by rw [List.length_drop]; omega
        have hval : ∀ q, setF k (l.drop (nm.length + 2)) = q → rlineF l = match q with | some n => ((k : Int), n) | none => (-1, 0) := by
          rintro q rfl
          unfold rlineF
          rw [lineF_hit setF_nil, hit]
          simp only [Option.bind_some, hrest]
          cases setF k (l.drop (nm.length + 2)) <;> rfl
        repeat (first | refine sS ?_ | refine sE ?_ | refine w_mv rfl ?_ | refine w_pickF rfl ?_ | (refine w_call rfl ((thin_ok _ k).mono ?_); rintro _ _ ⟨rfl, rfl⟩) | refine ai_seq ?_ | refine ai_regW ?_ | refine ai_condF (b := false) rfl (fun hb => by cases hb) (fun _ => ?_) | refine ai_skip ?_)
        unfold setF at hval
        cases ht : thinK k
        · rw [ht] at hval
          repeat (first | refine sS ?_ | refine w_mv rfl ?_ | (refine is_okn rfl ?_; refine w_op rfl ?_) | refine ai_seq ?_ | refine ai_regW ?_ | refine ai_condF (b := false) rfl (fun hb => by cases hb) (fun _ => ?_) | refine ai_skip ?_)
          rw [hz3]
          refine w_slsS rfl (by omega) ?_
          generalize hrr : l.drop (nm.length + 2) = rr at hval hdl hrest ⊢
          repeat (first | refine sS ?_ | refine sE ?_ | refine w_mv rfl ?_ | (refine w_call rfl ((rdigits_ok rr 6 (by decide) hdl _).mono ?_); rintro _ _ ⟨rfl, rfl⟩) | refine ai_seq ?_ | refine ai_regW ?_)
          cases hd : digF rr 6 with
          | none =>
            repeat (first | refine sS ?_ | refine sE ?_ | refine w_mv rfl ?_ | (refine w_add rfl ?_ ?_; (focus omega)) | (refine w_cmp (c2 := false) rfl ?_ ?_; focus (first | exact decide_eq_false (by omega) | (simp; done) | (simp; omega))) | refine ai_regW ?_ | refine ai_condF (b := false) rfl (fun hb => by cases hb) (fun _ => ?_) | refine ai_skip ?_)
            exact ⟨k + 1, (by repeat (first | exact le_nil | refine le_consF rfl ?_)), ⟨hx, by omega, fun j hj hh => by
              by_cases hjk : j < k
              · exact hno j hjk hh
              · obtain rfl : j = k := by omega
                rw [hrest]
                unfold setF
                rw [ht, hd]
                rfl⟩, by dsimp only; omega⟩
          | some n =>
            have hv := hval (some (n : Int)) (by rw [hd]; rfl)
            dsimp only at hv
            repeat (first | refine sS ?_ | refine sE ?_ | refine w_mv rfl ?_ | (refine w_cmp (c2 := true) rfl ?_ ?_; focus (first | exact decide_eq_true (by omega) | (simp; done) | (simp; omega))) | refine ai_seq ?_ | refine ai_regW ?_ | refine ai_condF (b := true) rfl (fun _ => ?_) (fun hb => by cases hb) | (refine ai_ret ?_; repeat (first | rw [thenQ_r] | rw [blockQ_r] | rw [roundE_r])))
            exact ⟨_, rfl, by rw [hv]; rfl, hx⟩
        · rw [ht] at hval
          repeat (first | refine sS ?_ | refine w_mv rfl ?_ | (refine is_okn rfl ?_; refine w_op rfl ?_) | refine ai_seq ?_ | refine ai_regW ?_ | refine ai_condF (b := true) rfl (fun _ => ?_) (fun hb => by cases hb))
          rw [hz3]
          refine w_slsS rfl (by omega) ?_
          generalize hrr : l.drop (nm.length + 2) = rr at hval hdl hrest ⊢
          repeat (first | refine sS ?_ | refine sE ?_ | refine w_mv rfl ?_ | refine w_ext rfl rfl ?_ | (refine w_call rfl ((rnumber_ok rr hdl _).mono ?_); rintro _ _ ⟨rfl, rfl⟩) | refine ai_seq ?_ | refine ai_regW ?_)
          cases hd : numF rr with
          | none =>
            have hv := hval none (by rw [hd]; rfl)
            dsimp only at hv
            repeat (first | refine sS ?_ | refine sE ?_ | refine w_mv rfl ?_ | refine ai_seq ?_ | refine ai_regW ?_ | refine ai_condF (b := false) rfl (fun hb => by cases hb) (fun _ => ?_) | refine ai_skip ?_ | (refine ai_ret ?_; repeat (first | rw [thenQ_r] | rw [blockQ_r] | rw [roundE_r])))
            exact ⟨_, rfl, by rw [hv]; rfl, hx⟩
          | some n =>
            have hv := hval (some n) (by rw [hd]; rfl)
            dsimp only at hv
            repeat (first | refine sS ?_ | refine sE ?_ | refine w_mv rfl ?_ | refine ai_seq ?_ | refine ai_regW ?_ | refine ai_condF (b := true) rfl (fun _ => ?_) (fun hb => by cases hb) | (refine ai_ret ?_; repeat (first | rw [thenQ_r] | rw [blockQ_r] | rw [roundE_r])))
            exact ⟨_, rfl, by rw [hv]; rfl, hx⟩
      · have hne : hitR l ≠ some k := fun e => heq ((hitR_pre hnm).1 e)
        rw [show (!(l.take (nm.length + 2) == nm ++ [58, 32])) = true by simpa using heq]
        repeat (first | refine sS ?_ | refine sE ?_ | refine w_mv rfl ?_ | refine w_pickF rfl ?_ | (refine w_add rfl ?_ ?_; (focus omega)) | refine ai_regW ?_ | refine ai_condF (b := true) rfl (fun _ => ?_) (fun hb => by cases hb) | refine ai_exit ?_)
        exact ⟨k + 1, (by repeat (first | exact le_nil | refine le_consF rfl ?_)), ⟨hx, by omega, fun j hj hh => by
          by_cases hjk : j < k
          · exact hno j hjk hh
          · obtain rfl : j = k := by omega
            exact absurd hh hne⟩, by dsimp only; omega⟩
  · obtain rfl : k = 20 := by omega
    have hv : rlineF l = (-1, 0) := by
      unfold rlineF
      rw [lineF_hit setF_nil]
      cases hh : hitR l with
      | none => rfl
      | some j =>
        have hj : j < 20 := by
          unfold hitR at hh
          split at hh
          · exact findN_lt hh
          · cases hh
        simp only [Option.bind_some, hno j hj hh, Option.map_none]
    repeat (first | refine sS ?_ | refine sE ?_ | refine w_mv rfl ?_ | (refine is_okn rfl ?_; refine w_op rfl ?_) | (refine w_cmp (c2 := false) rfl ?_ ?_; focus (first | exact decide_eq_false (by omega) | (simp; done) | (simp; omega))) | refine ai_seq ?_ | refine ai_regW ?_ | refine ai_condF (b := false) rfl (fun hb => by cases hb) (fun _ => ?_) | refine ai_exit ?_ | (refine ai_ret ?_; repeat (first | rw [thenQ_r] | rw [blockQ_r] | rw [roundE_r])))
    exact ⟨_, rfl, by rw [hv]; rfl, x.trans x1⟩
end Go.Proofs.YtapbmmlgmcmpnaaDoorW.Am
/- Texts: the document's own Parse. -/
namespace Go.Proofs.YtapbmmlgmcmpnaaDoorW.Am
open Go Go.RowKit
theorem lines_no : ∀ (l : List UInt8), (∀ q : Nat, l[q]? ≠ some 10) → linesL l = [l]
  | [], _ => rfl
  | b :: l, h => by
    have hb : b ≠ 10 := fun e => h 0 (by simp [e])
    have ih := lines_no l (fun q => by have := h (q + 1); simpa using this)
    simp [linesL, hb, ih, consH]
theorem lines_at : ∀ (l : List UInt8) (p : Nat), l[p]? = some 10 → (∀ q, q < p → l[q]? ≠ some 10) → linesL l = l.take p :: linesL (l.drop (p + 1))
  | [], p, h, _ => by simp at h
  | b :: l, 0, h, _ => by
    have hb : b = 10 := by simpa using h
    simp [linesL, hb]
  | b :: l, p + 1, h, hn => by
    have hb : b ≠ 10 := fun e => hn 0 (by omega) (by simp [e])
    have ih := lines_at l p (by simpa using h) (fun q hq => by have := hn (q + 1) (by omega); simpa using this)
    simp [linesL, hb, ih, consH]
theorem trimR_rep (l : List UInt8) (c : UInt8) : ∀ n, Go.Lib.trimRightB (l ++ List.replicate n c) c = Go.Lib.trimRightB l c
  | 0 => by simp
  | n + 1 => by rw [List.replicate_succ', ← List.append_assoc, trimR_zero, trimR_rep l c n]
theorem dw_rep (c : UInt8) (l : List UInt8) : ∀ n, (List.replicate n c ++ l).dropWhile (· == c) = l.dropWhile (· == c)
  | 0 => by simp
  | n + 1 => by rw [List.replicate_succ, List.cons_append, List.dropWhile_cons]; simp [dw_rep c l n]
theorem all_rep {s : List UInt8} {c : UInt8} {a b : Nat} (hab : a ≤ b) (_ : b ≤ s.length) (h : ∀ q, a ≤ q → q < b → s[q]? = some c) : (s.take b).drop a = List.replicate (b - a) c := by
  refine List.ext_getElem? fun i => ?_
  rw [List.getElem?_drop, List.getElem?_take, List.getElem?_replicate]
  by_cases hi : a + i < b
  · rw [if_pos hi, if_pos (by omega), h _ (by omega) hi]
  · rw [if_neg hi, if_neg (by omega)]
theorem cut3 (s : List UInt8) {f a b i : Nat} (h1 : f ≤ a) (h2 : a ≤ b) (h3 : b ≤ i) (h4 : i ≤ s.length) : (s.take i).drop f = (s.take a).drop f ++ ((s.take b).drop a ++ (s.take i).drop b) := by
  refine List.ext_getElem? fun j => ?_
  have l1 : ((s.take a).drop f).length = a - f := by simp; omega
  have l2 : ((s.take b).drop a).length = b - a := by simp; omega
  rw [List.getElem?_append, List.getElem?_append]
  simp only [l1, l2, List.getElem?_drop, List.getElem?_take]
  by_cases c1 : j < a - f
  · rw [if_pos c1, if_pos (by omega), if_pos (by omega)]
  · rw [if_neg c1]
    by_cases c2 : j - (a - f) < b - a
    · rw [if_pos c2, if_pos (by omega), if_pos (by omega)]
      congr 1; omega
    · rw [if_neg c2]
      by_cases c3 : f + j < i
      · rw [if_pos c3, if_pos (by omega)]
        congr 1; omega
      · rw [if_neg c3, if_neg (by omega)]
theorem trim_abs {s : List UInt8} {f a b i : Nat} (h1 : f ≤ a) (h2 : a ≤ b) (h3 : b ≤ i) (h4 : i ≤ s.length) (hA : ∀ q, f ≤ q → q < a → s[q]? = some 32) (hB : ∀ q, b ≤ q → q < i → s[q]? = some 32)
    (hC : a < b → s[a]? ≠ some 32 ∧ s[b - 1]? ≠ some 32) : Go.Lib.trimB ((s.take i).drop f) 32 = (s.take b).drop a := by
  rw [cut3 s h1 h2 h3 h4, all_rep h1 (by omega) hA, all_rep h3 h4 hB]
  unfold Go.Lib.trimB Go.Lib.trimLeftB
  rw [← List.append_assoc, trimR_rep]
  by_cases hab : a < b
  · obtain ⟨c1, c2⟩ := hC hab
    have hl : (s.take b).drop a = (s.take (b - 1)).drop a ++ [s[b - 1]'(by omega)] := by
      refine List.ext_getElem? fun j => ?_
      have l1 : ((s.take (b - 1)).drop a).length = b - 1 - a := by simp; omega
      rw [List.getElem?_append]
      simp only [l1, List.getElem?_drop, List.getElem?_take]
      by_cases c1 : j < b - 1 - a
      · rw [if_pos c1, if_pos (by omega), if_pos (by omega)]
      · rw [if_neg c1]
        by_cases c2 : a + j < b
        · obtain rfl : j = b - 1 - a := by omega
          rw [if_pos c2, Nat.sub_self, show a + (b - 1 - a) = b - 1 by omega, List.getElem?_eq_getElem (show b - 1 < s.length by omega)]
          rfl
        · rw [if_neg c2, List.getElem?_eq_none_iff.2 (by simp; omega)]
    have hne : s[b - 1]'(by omega) ≠ 32 := fun e => c2 (by rw [List.getElem?_eq_getElem (show b - 1 < s.length by omega), e])
    rw [hl, ← List.append_assoc, trimR_other _ hne, List.append_assoc, ← hl, dw_rep]
    have hh : (s.take b).drop a = s[a]'(by omega) :: (s.take b).drop (a + 1) := by
      have : a < (s.take b).length := by simp; omega
      rw [List.drop_eq_getElem_cons this]
      simp
    have hne2 : s[a]'(by omega) ≠ 32 := fun e => c1 (by rw [List.getElem?_eq_getElem (show a < s.length by omega), e])
    rw [hh, List.dropWhile_cons]
    simp [hne2]
  · obtain rfl : a = b := by omega
    have he : (s.take a).drop a = [] := by simp
    rw [he, List.append_nil]
    have := trimR_rep [] 32 (a - f)
    rw [List.nil_append] at this
    rw [this]
    rfl
def joinQ {γ : Type} (L : γ → Env) (H : γ → Hp → Prop) (Q : Exit → Env → Hp → Prop) : Exit → Env → Hp → Prop
  | .normal, env, h => ∃ g, EnvLe (L g) env ∧ H g h
  | e, env, h => Q e env h
theorem ai_joinE {P : Program} {env : Env} {h : Hp} {n : Nat} {x y : IC} {Q : Exit → Env → Hp → Prop} {γ : Type} (L : γ → Env) (H : γ → Hp → Prop) (h1 : AI P n x env h (joinQ L H Q)) (h2 : ∀ g h', H g h' → AI P n y (L g) h' Q) : AI P n (.seq x y) env h Q := by
  refine ai_seq (h1.mono ?_)
  intro e env' h' q
  cases e with
  | normal => obtain ⟨g, hl, hH⟩ := q; exact AI.weak hl (h2 g h' hH)
  | _ => exact q
/-- Which parts were set, as cells. -/
def wasC (ws : List Nat) : List Value := (List.range 20).map fun k => .bool (ws.contains k)
theorem wasC_set {ws : List Nat} {k : Nat} : (wasC ws).set k (.bool true) = wasC (ws ++ [k]) := by
  refine List.ext_getElem? fun j => ?_
  have hl : (wasC ws).length = 20 := by simp [wasC]
  rw [List.getElem?_set]
  by_cases hjk : k = j
  · subst hjk
    rw [if_pos rfl, hl]
    by_cases hk : k < 20
    · rw [if_pos hk]
      simp [wasC, hk]
    · rw [if_neg hk, List.getElem?_eq_none_iff.2 (by simp [wasC]; omega)]
  · rw [if_neg hjk]
    by_cases hj : j < 20
    · have hc : (ws ++ [k]).contains j = ws.contains j := by
        rw [Bool.eq_iff_iff]
        simp only [List.contains_iff_mem, List.mem_append, List.mem_singleton]
        constructor
        · rintro (h | h)
          · exact h
          · exact absurd h.symm hjk
        · exact .inl
      simp only [wasC, List.getElem?_map, List.getElem?_range hj, Option.map_some, hc]
    · rw [List.getElem?_eq_none_iff.2 (by simp [wasC]; omega), List.getElem?_eq_none_iff.2 (by simp [wasC]; omega)]
theorem wasC_at {ws : List Nat} {k : Nat} (hk : k < 20) : (wasC ws)[k]? = some (.bool (ws.contains k)) := by simp [wasC, hk]
section
variable {P : Program} {CT : FuncId → List Value → Hp → (Value → Hp → Prop) → Prop} {d : Option Nat} {xs : List Operand} {env : Env} {h : Hp} {R : Value → Hp → Prop}
theorem w_slsB {l : List UInt8} {a b : Nat} (e : mapF env xs = some [bs l, .int .i64 (a : Int), .int .i64 (b : Int)]) (hab : a ≤ b) (hb : b ≤ l.length) (n : R (bs ((l.take b).drop a)) h) : WI P CT ⟨d, none, .op (.sls true true) xs⟩ env h R := by
  refine w_op (v := bs ((l.take b).drop a)) (h' := h) ?_ n
  have hz := sz_mk l
  have hbd : bounds (ByteArray.mk l.toArray).size (ByteArray.mk l.toArray).size (some (.int .i64 (a : Int))) (some (.int .i64 (b : Int))) none = some (a, b, l.length) := by
    rw [hz]
    have h1 : (0 : Int) ≤ b ∧ (b : Int) ≤ l.length := by omega
    have h2 : (0 : Int) ≤ a ∧ (a : Int) ≤ b := by omega
    simp [bounds, bnd, h1, h2]
  unfold opF
  rw [e]
  show (bounds (ByteArray.mk l.toArray).size (ByteArray.mk l.toArray).size (some (.int .i64 (a : Int))) (some (.int .i64 (b : Int))) none).map (fun b => (Value.string ((ByteArray.mk l.toArray).extract b.1 b.2.1), h)) = _
  rw [hbd, Option.map_some, ex_mk]
  rfl
end
end Go.Proofs.YtapbmmlgmcmpnaaDoorW.Am
/- Texts: the document's own Parse walked. -/
namespace Go.Proofs.YtapbmmlgmcmpnaaDoorW.Am
open Go Go.RowKit
theorem lineF_lt {S : Nat → List UInt8 → Option Int} {l : List UInt8} {k : Nat} {n : Int} (h : lineF S l = some (k, n)) : k < 20 := by
  unfold lineF at h
  cases hf : findN (Go.Lib.cut l [58, 32]).1 with
  | none => rw [hf] at h; cases h
  | some j =>
    rw [hf] at h
    simp only [Option.bind_some, Option.map_eq_some_iff] at h
    obtain ⟨_, _, e⟩ := h
    cases e
    exact findN_lt hf
theorem made20 : (madeCells #[Value.bool false] (((20 : Nat) : Int).toNat * 1)).toList = wasC [] := by
  simp [madeCells, wasC, Nat.mod_one]
set_option maxRecDepth 10000 in
set_option maxHeartbeats 8000000 in
theorem rparse_ok (c : Cf20) (s : List UInt8) (hs : s.length ≤ 1000000) (h : Hp) : ACall PX 14 [.agg ⟨cs20 c⟩, bs s] h (fun v g => v = .tuple #[.agg ⟨cs20 (parseF setF c s).1⟩, nI (parseF setF c s).2.1, nI (parseF setF c s).2.2] ∧ Ext h g) := by
  obtain ⟨R0, hR0⟩ : ∃ r, parseF setF c s = r := ⟨_, rfl⟩
  rw [hR0]
  unfold parseF at hR0
  obtain ⟨P0, hP0⟩ : ∃ p, parseL setF (linesL s) 0 (vl c) [] = p := ⟨_, rfl⟩
  rw [hP0] at hR0
  have hz := sz_mk s
  refine acall Go.Proofs.Tryd.func14 c14 (by simp [ir14]) ?_
  unfold ir14
  dsimp only
  refine ai_seq (ai_regW (sS (w_box rfl fun g1 x1 k1 n1 => sS (w_new fun g2 x2 k2 n2 => ?_))))
  have q1 := (x2.2 _ n1).trans k1
  repeat (first | refine sS ?_ | refine sE ?_ | refine w_mv rfl ?_ | (refine is_ldn ?_; refine w_ldn rfl (by first | exact rd_all ‹_› rfl | exact rd_newn rfl | assumption) ?_) | refine ai_seq ?_ | refine ai_regW ?_)
  refine w_call rfl ((values_ok _ c).mono ?_)
  rintro _ g3 ⟨rfl, x3, k3, n3⟩
  have q13 := (x3.2 _ (Nat.lt_of_lt_of_le n1 x2.1)).trans q1
  have q23 := (x3.2 _ n2).trans k2
  repeat (first | refine sS ?_ | refine sE ?_ | refine w_mv rfl ?_ | (refine is_okn rfl ?_; refine w_op rfl ?_) | refine ai_seq ?_ | refine ai_regW ?_ | refine ai_block ?_)
  rw [made20]
  have x4 : Ext g3 (g3.new ⟨wasC [], true, 1⟩) := Ext.new _ _
  have k4 : (g3.new ⟨wasC [], true, 1⟩).get g3.nx = some ⟨wasC [], true, 1⟩ := new_get _ _
  have n4 : g3.nx < (g3.new ⟨wasC [], true, 1⟩).nx := by simp [Hp.new]
  generalize g3.new ⟨wasC [], true, 1⟩ = g4 at x4 k4 n4 ⊢
  have o1 : h.nx < g1.nx := n1
  have o2 : g1.nx < g2.nx := n2
  have o3 := x3.1
  have q14 := (x4.2 _ (by omega)).trans q13
  have q24 := (x4.2 _ (by omega)).trans q23
  have k34 := (x4.2 _ n3).trans k3
  have x04 : Ext h g4 := ((x1.trans x2).trans x3).trans x4
  clear k1 k2 k3 q1 q13 q23 x1 x2 x3 x4
  refine ai_loopE (γ := Nat × Nat × Nat × List (List UInt8) × List Int × List Nat) (fun e => [(1, bs s), (2, .pointer (some ⟨h.nx, 0, none⟩)), (4, .pointer (some ⟨g1.nx, 0, none⟩)), (7, .slice (some ⟨g2.nx + 1, 0, none⟩) 20 20), (8, .slice (some ⟨g3.nx, 0, none⟩) 20 20), (9, nI e.2.1), (10, nI e.2.2.1), (11, nI e.1)])
    (fun e g => Md2 (g2.nx + 1) g3.nx g4 g ∧ g.get (g2.nx + 1) = some ⟨e.2.2.2.2.1.map nI, true, 1⟩ ∧ g.get g3.nx = some ⟨wasC e.2.2.2.2.2, true, 1⟩ ∧ e.1 ≤ s.length + 1 ∧ e.2.2.1 ≤ e.1 ∧ (e.1 ≤ s.length → e.2.1 ≤ e.1 ∧ e.2.2.2.1 = linesL (s.drop e.2.1) ∧ ∀ q, e.2.1 ≤ q → q < e.1 → s[q]? ≠ some 10) ∧ (e.1 = s.length + 1 → e.2.2.2.1 = []) ∧ e.2.2.2.2.1.length = 20 ∧ parseL setF e.2.2.2.1 e.2.2.1 e.2.2.2.2.1 e.2.2.2.2.2 = P0) (fun e => s.length + 1 - e.1) (0, 0, 0, linesL s, vl c, [])
    (by repeat (first | exact le_nil | refine le_consF rfl ?_)) ⟨Md2.refl _ _ _, k34, k4, Nat.zero_le _, Nat.le_refl _, fun _ => ⟨Nat.le_refl _, rfl, fun q _ hq => absurd hq (Nat.not_lt_zero _)⟩, fun e => absurd e (by omega), rfl, hP0⟩ ?_
  clear k34 k4 hP0
  rintro ⟨i, f, n, R, v, was⟩ g ⟨md, kv, kw, hi, hni, hle, hend, hv, hp⟩
  dsimp only at kv kw hi hni hle hend hv hp ⊢
  have hmn := md.1
  have r1 := (md.2 h.nx (by omega) (by omega) (by omega)).trans q14
  have r2 := (md.2 g1.nx (by omega) (by omega) (by omega)).trans q24
  by_cases hil : i ≤ s.length
  · obtain ⟨hfi, rfl, hno⟩ := hle hil
    refine ai_seq ?_
    refine ai_seq ?_
    repeat (first | refine sS ?_ | refine sE ?_ | refine w_mv rfl ?_ | (refine is_okn rfl ?_; refine w_op rfl ?_) | (refine w_cmp (c2 := true) rfl ?_ ?_; focus (first | exact decide_eq_true (by omega) | (simp; done) | (simp; omega))) | refine ai_regW ?_ | refine ai_condF (b := true) rfl (fun _ => ?_) (fun hb => by cases hb) | refine ai_skip ?_)
    refine ai_seq ?_
    repeat (first | refine ai_block ?_)
    refine ai_joinE (γ := Unit) (fun _ => [(1, bs s), (2, .pointer (some ⟨h.nx, 0, none⟩)), (4, .pointer (some ⟨g1.nx, 0, none⟩)), (7, .slice (some ⟨g2.nx + 1, 0, none⟩) 20 20), (8, .slice (some ⟨g3.nx, 0, none⟩) 20 20), (9, nI f), (10, nI n), (11, nI i)]) (fun _ g' => g = g' ∧ (i < s.length → s[i]? = some 10)) ?_ ?_
    · by_cases hlt : i < s.length
      · obtain ⟨b, hb⟩ := getD_lt hlt
        repeat (first | refine sS ?_ | refine w_mv rfl ?_ | (refine is_okn rfl ?_; refine w_op rfl ?_) | refine w_gT rfl rfl ?_ | (refine w_cmp (c2 := true) rfl ?_ ?_; focus (first | exact decide_eq_true (by omega) | (simp; done) | (simp; omega))) | refine ai_seq ?_ | refine ai_regW ?_)
        refine w_ixs rfl hb ?_
        repeat (first | refine sS ?_ | refine w_gT rfl rfl ?_)
        refine w_cmp (c2 := !(b == 10)) rfl (by rw [← u8_eq b 10]; rfl) ?_
        by_cases hb10 : b = 10
        · subst hb10
          repeat (first | refine sS ?_ | refine sE ?_ | refine w_pickT rfl ?_ | refine ai_condF (b := false) rfl (fun hb => by cases hb) (fun _ => ?_) | refine ai_skip ?_)
          exact ⟨(), (by repeat (first | exact le_nil | refine le_consF rfl ?_)), rfl, fun _ => hb⟩
        · rw [show (!(b == 10)) = true by simpa using hb10]
          repeat (first | refine sS ?_ | refine sE ?_ | refine w_mv rfl ?_ | refine w_pickT rfl ?_ | (refine w_add rfl ?_ ?_; (focus omega)) | refine ai_regW ?_ | refine ai_condF (b := true) rfl (fun _ => ?_) (fun hb => by cases hb) | refine ai_exit ?_)
          refine ⟨(i + 1, f, n, _, v, was), (by repeat (first | exact le_nil | refine le_consF rfl ?_)), ⟨md, kv, kw, by dsimp only; omega, by dsimp only; omega, fun _ => ⟨by dsimp only; omega, rfl, fun q h1 h2 => ?_⟩, fun e => absurd e (by dsimp only; omega), hv, hp⟩, by dsimp only; omega⟩
          by_cases hqi : q < i
          · exact hno q h1 hqi
          · obtain rfl : q = i := by dsimp only at h2; omega
            rw [hb]
            exact fun e => hb10 (Option.some.inj e)
      · repeat (first | refine sS ?_ | refine sE ?_ | refine w_mv rfl ?_ | refine w_pickF rfl ?_ | (refine is_okn rfl ?_; refine w_op rfl ?_) | refine w_gF rfl rfl ?_ | (refine w_cmp (c2 := false) rfl ?_ ?_; focus (first | exact decide_eq_false (by omega) | (simp; done) | (simp; omega))) | refine ai_seq ?_ | refine ai_regW ?_ | refine ai_condF (b := false) rfl (fun hb => by cases hb) (fun _ => ?_) | refine ai_skip ?_)
        exact ⟨(), (by repeat (first | exact le_nil | refine le_consF rfl ?_)), rfl, fun e => absurd e hlt⟩
    rintro _ _ ⟨rfl, h10⟩
    obtain ⟨R', hR', hRi, hRe⟩ : ∃ R', linesL (s.drop f) = ((s.take i).drop f) :: R' ∧ (i < s.length → R' = linesL (s.drop (i + 1))) ∧ (i = s.length → R' = []) := by
      by_cases hlt : i < s.length
      · refine ⟨linesL (s.drop (i + 1)), ?_, fun _ => rfl, fun e => absurd e (by omega)⟩
        have := lines_at (s.drop f) (i - f) (by rw [List.getElem?_drop, show f + (i - f) = i by omega]; exact h10 hlt) (fun q hq => by rw [List.getElem?_drop]; exact hno _ (by omega) (by omega))
        rw [this, List.drop_take, List.drop_drop, show f + (i - f + 1) = i + 1 by omega]
      · obtain rfl : i = s.length := by omega
        refine ⟨[], ?_, fun e => absurd e hlt, fun _ => rfl⟩
        rw [lines_no (s.drop f) (fun q => by
          rw [List.getElem?_drop]
          intro e
          have hq := (List.getElem?_eq_some_iff.1 e).1
          exact hno _ (by omega) hq e), List.take_length]
    have fin : i + 1 ≤ s.length + 1 ∧ n + 1 ≤ i + 1 ∧ (i + 1 ≤ s.length → i + 1 ≤ i + 1 ∧ R' = linesL (s.drop (i + 1)) ∧ ∀ q, i + 1 ≤ q → q < i + 1 → s[q]? ≠ some 10) ∧ (i + 1 = s.length + 1 → R' = []) :=
      ⟨by omega, by omega, fun hh => ⟨Nat.le_refl _, hRi (by omega), fun q h1 h2 => absurd h1 (by omega)⟩, fun e => hRe (by omega)⟩
    rw [hR'] at hp
    simp only [parseL] at hp
    refine ai_seq ?_
    repeat (first | refine sS ?_ | refine sE ?_ | refine w_mv rfl ?_ | (refine w_add rfl ?_ ?_; (focus omega)) | refine ai_regW ?_)
    refine ai_seq ?_
    repeat (first | refine sS ?_ | refine sE ?_ | refine w_mv rfl ?_ | refine ai_regW ?_)
    refine ai_join (γ := Nat) (fun a => [(1, bs s), (2, .pointer (some ⟨h.nx, 0, none⟩)), (4, .pointer (some ⟨g1.nx, 0, none⟩)), (7, .slice (some ⟨g2.nx + 1, 0, none⟩) 20 20), (8, .slice (some ⟨g3.nx, 0, none⟩) 20 20), (9, nI f), (10, nI (n + 1 : Nat)), (11, nI i), (12, nI a), (13, nI i)]) (fun a g' => g = g' ∧ f ≤ a ∧ a ≤ i ∧ (∀ q, f ≤ q → q < a → s[q]? = some 32) ∧ (a < i → s[a]? ≠ some 32)) ?_ ?_
    · repeat (first | refine ai_block ?_)
      refine ai_loopE (γ := Nat) (fun a => [(1, bs s), (2, .pointer (some ⟨h.nx, 0, none⟩)), (4, .pointer (some ⟨g1.nx, 0, none⟩)), (7, .slice (some ⟨g2.nx + 1, 0, none⟩) 20 20), (8, .slice (some ⟨g3.nx, 0, none⟩) 20 20), (9, nI f), (10, nI (n + 1 : Nat)), (11, nI i), (12, nI a), (13, nI i)]) (fun a g' => g = g' ∧ f ≤ a ∧ a ≤ i ∧ (∀ q, f ≤ q → q < a → s[q]? = some 32)) (fun a => i - a) f
        (by repeat (first | exact le_nil | refine le_consF rfl ?_)) ⟨rfl, Nat.le_refl _, hfi, fun q h1 h2 => absurd h1 (by omega)⟩ ?_
      rintro a _ ⟨rfl, ha1, ha2, ha3⟩
      by_cases hai : a < i
      · obtain ⟨b, hb⟩ := getD_lt (show a < s.length by omega)
        repeat (first | refine sS ?_ | refine w_mv rfl ?_ | refine w_gT rfl rfl ?_ | (refine w_cmp (c2 := true) rfl ?_ ?_; focus (first | exact decide_eq_true (by omega) | (simp; done) | (simp; omega))) | refine ai_seq ?_ | refine ai_regW ?_)
        refine w_ixs rfl hb ?_
        repeat (first | refine sS ?_ | refine w_gT rfl rfl ?_)
        refine w_cmp (c2 := (b == 32)) rfl (u8_eq b 32) ?_
        by_cases hb32 : b = 32
        · subst hb32
          repeat (first | refine sS ?_ | refine sE ?_ | refine w_mv rfl ?_ | refine w_pickT rfl ?_ | (refine w_add rfl ?_ ?_; (focus omega)) | refine ai_regW ?_ | refine ai_condF (b := true) rfl (fun _ => ?_) (fun hb => by cases hb) | refine ai_skip ?_ | refine ai_block ?_)
          refine ⟨a + 1, (by repeat (first | exact le_nil | refine le_consF rfl ?_)), ⟨rfl, by omega, by omega, fun q h1 h2 => ?_⟩, by dsimp only; omega⟩
          by_cases hq : q < a
          · exact ha3 q h1 hq
          · obtain rfl : q = a := by omega
            exact hb
        · rw [show (b == 32) = false by simpa using hb32]
          repeat (first | refine sS ?_ | refine sE ?_ | refine w_pickT rfl ?_ | refine ai_condF (b := false) rfl (fun hb => by cases hb) (fun _ => ?_) | refine ai_exit ?_)
          exact ⟨rfl, a, (by repeat (first | exact le_nil | refine le_consF rfl ?_)), rfl, ha1, ha2, ha3, fun _ => by rw [hb]; exact fun e => hb32 (Option.some.inj e)⟩
      · repeat (first | refine sS ?_ | refine sE ?_ | refine w_mv rfl ?_ | refine w_pickF rfl ?_ | refine w_gF rfl rfl ?_ | (refine w_cmp (c2 := false) rfl ?_ ?_; focus (first | exact decide_eq_false (by omega) | (simp; done) | (simp; omega))) | refine ai_seq ?_ | refine ai_regW ?_ | refine ai_condF (b := false) rfl (fun hb => by cases hb) (fun _ => ?_) | refine ai_exit ?_)
        exact ⟨rfl, a, (by repeat (first | exact le_nil | refine le_consF rfl ?_)), rfl, ha1, ha2, ha3, fun e => absurd e hai⟩
    rintro a _ ⟨rfl, ha1, ha2, ha3, ha4⟩
    refine ai_join (γ := Nat) (fun b => [(1, bs s), (2, .pointer (some ⟨h.nx, 0, none⟩)), (4, .pointer (some ⟨g1.nx, 0, none⟩)), (7, .slice (some ⟨g2.nx + 1, 0, none⟩) 20 20), (8, .slice (some ⟨g3.nx, 0, none⟩) 20 20), (9, nI f), (10, nI (n + 1 : Nat)), (11, nI i), (12, nI a), (13, nI b)]) (fun b g' => g = g' ∧ a ≤ b ∧ b ≤ i ∧ (∀ q, b ≤ q → q < i → s[q]? = some 32) ∧ (a < b → s[b - 1]? ≠ some 32)) ?_ ?_
    · repeat (first | refine ai_block ?_)
      refine ai_loopE (γ := Nat) (fun b => [(1, bs s), (2, .pointer (some ⟨h.nx, 0, none⟩)), (4, .pointer (some ⟨g1.nx, 0, none⟩)), (7, .slice (some ⟨g2.nx + 1, 0, none⟩) 20 20), (8, .slice (some ⟨g3.nx, 0, none⟩) 20 20), (9, nI f), (10, nI (n + 1 : Nat)), (11, nI i), (12, nI a), (13, nI b)]) (fun b g' => g = g' ∧ a ≤ b ∧ b ≤ i ∧ (∀ q, b ≤ q → q < i → s[q]? = some 32)) (fun b => b) i
        (by repeat (first | exact le_nil | refine le_consF rfl ?_)) ⟨rfl, ha2, Nat.le_refl _, fun q h1 h2 => absurd h1 (by omega)⟩ ?_
      rintro b _ ⟨rfl, hb1, hb2, hb3⟩
      by_cases hab : a < b
      · obtain ⟨x, hx⟩ := getD_lt (show b - 1 < s.length by omega)
        repeat (first | refine sS ?_ | refine w_mv rfl ?_ | refine w_gT rfl rfl ?_ | (refine w_sub rfl ?_ ?_; (focus omega)) | (refine w_cmp (c2 := true) rfl ?_ ?_; focus (first | exact decide_eq_true (by omega) | (simp; done) | (simp; omega))) | refine ai_seq ?_ | refine ai_regW ?_)
        rw [show ((b : Int) - 1) = ((b - 1 : Nat) : Int) by omega]
        refine w_ixs rfl hx ?_
        repeat (first | refine sS ?_ | refine w_gT rfl rfl ?_)
        refine w_cmp (c2 := (x == 32)) rfl (u8_eq x 32) ?_
        by_cases hb32 : x = 32
        · subst hb32
          repeat (first | refine sS ?_ | refine sE ?_ | refine w_mv rfl ?_ | refine w_pickT rfl ?_ | (refine w_sub rfl ?_ ?_; (focus omega)) | refine ai_regW ?_ | refine ai_condF (b := true) rfl (fun _ => ?_) (fun hb => by cases hb) | refine ai_skip ?_ | refine ai_block ?_)
          rw [show ((b : Int) - 1) = ((b - 1 : Nat) : Int) by omega]
          refine ⟨b - 1, (by repeat (first | exact le_nil | refine le_consF rfl ?_)), ⟨rfl, by omega, by omega, fun q h1 h2 => ?_⟩, by dsimp only; omega⟩
          by_cases hq : b ≤ q
          · exact hb3 q hq h2
          · obtain rfl : q = b - 1 := by omega
            exact hx
        · rw [show (x == 32) = false by simpa using hb32]
          repeat (first | refine sS ?_ | refine sE ?_ | refine w_pickT rfl ?_ | refine ai_condF (b := false) rfl (fun hb => by cases hb) (fun _ => ?_) | refine ai_exit ?_)
          exact ⟨rfl, b, (by repeat (first | exact le_nil | refine le_consF rfl ?_)), rfl, hb1, hb2, hb3, fun _ => by rw [hx]; exact fun e => hb32 (Option.some.inj e)⟩
      · repeat (first | refine sS ?_ | refine sE ?_ | refine w_mv rfl ?_ | refine w_pickF rfl ?_ | refine w_gF rfl rfl ?_ | (refine w_cmp (c2 := false) rfl ?_ ?_; focus (first | exact decide_eq_false (by omega) | (simp; done) | (simp; omega))) | refine ai_seq ?_ | refine ai_regW ?_ | refine ai_condF (b := false) rfl (fun hb => by cases hb) (fun _ => ?_) | refine ai_exit ?_)
        exact ⟨rfl, b, (by repeat (first | exact le_nil | refine le_consF rfl ?_)), rfl, hb1, hb2, hb3, fun e => absurd e hab⟩
    rintro b _ ⟨rfl, hb1, hb2, hb3, hb4⟩
    rw [trim_abs ha1 hb1 hb2 hil ha3 hb3 (fun hab => ⟨ha4 (by omega), hb4 hab⟩)] at hp
    by_cases hab : a < b
    · obtain ⟨c0, hc0⟩ := getD_lt (show a < s.length by omega)
      have hh : (s.take b).drop a = c0 :: (s.take b).drop (a + 1) := by
        have hl : a < (s.take b).length := by simp; omega
        rw [List.drop_eq_getElem_cons hl]
        congr 1
        have := (List.getElem?_eq_some_iff.1 hc0).2
        simpa using this
      have hbl : blankB ((s.take b).drop a) = (c0 == 35) := by rw [hh]; rfl
      rw [hbl] at hp
      repeat (first | refine sS ?_ | refine w_mv rfl ?_ | refine w_gT rfl rfl ?_ | (refine w_cmp (c2 := true) rfl ?_ ?_; focus (first | exact decide_eq_true (by omega) | (simp; done) | (simp; omega))) | refine ai_seq ?_ | refine ai_regW ?_)
      refine w_ixs rfl hc0 ?_
      repeat (first | refine sS ?_ | refine w_gT rfl rfl ?_)
      refine w_cmp (c2 := !(c0 == 35)) rfl (by rw [← u8_eq c0 35]; rfl) ?_
      by_cases hc35 : c0 = 35
      · subst hc35
        rw [if_pos (c := (((35 : UInt8) == 35) = true)) rfl] at hp
        repeat (first | refine sS ?_ | refine sE ?_ | refine w_mv rfl ?_ | refine w_pickT rfl ?_ | (refine w_add rfl ?_ ?_; (focus omega)) | refine ai_regW ?_ | refine ai_condF (b := false) rfl (fun hb => by cases hb) (fun _ => ?_) | refine ai_skip ?_)
        exact ⟨(i + 1, i + 1, n + 1, R', v, was), (by repeat (first | exact le_nil | refine le_consF rfl ?_)), ⟨md, kv, kw, fin.1, fin.2.1, fin.2.2.1, fin.2.2.2, hv, hp⟩, by dsimp only; omega⟩
      · have hcb : (c0 == 35) = false := by simpa using hc35
        rw [hcb] at hp ⊢
        rw [if_neg (by simp)] at hp
        have htl : ((s.take b).drop a).length ≤ 1000000 := by rw [List.length_drop, List.length_take]; omega
        repeat (first | refine sS ?_ | refine sE ?_ | refine w_mv rfl ?_ | refine w_pickT rfl ?_ | refine ai_seq ?_ | refine ai_regW ?_ | refine ai_condF (b := true) rfl (fun _ => ?_) (fun hb => by cases hb))
        refine w_slsB rfl (by omega) (by omega) ?_
        generalize (s.take b).drop a = t at hp htl ⊢
        repeat (first | refine sS ?_)
        refine w_call rfl ((rline_ok t htl _).mono ?_)
        rintro _ g5 ⟨rfl, x5⟩
        have hn5 := x5.1
        have md5 : Md2 (g2.nx + 1) g3.nx g4 g5 := md.trans x5.md.two
        have kv5 := (x5.2 _ (by omega)).trans kv
        have kw5 := (x5.2 _ (by omega)).trans kw
        have r15 := (x5.2 _ (by omega)).trans r1
        have r25 := (x5.2 _ (by omega)).trans r2
        have xf : ∀ gb, (∀ k, k ≠ g1.nx → gb.get k = g5.get k) → gb.nx = g5.nx → Ext h gb := fun gb mb nb => ⟨by rw [nb]; have := x04.1; omega, fun q hq => (mb q (by omega)).trans ((md5.2 q (by have := x04.1; omega) (by omega) (by omega)).trans (x04.2 q hq))⟩
        unfold rlineF
        cases hlf : lineF setF t with
        | none =>
          rw [hlf] at hp
          dsimp only at hp
          rw [← hp] at hR0
          rw [← hR0]
          repeat (first | refine sS ?_ | refine sSn ?_ | refine sE ?_ | refine w_mv rfl ?_ | refine w_pickT rfl ?_ | refine w_ext rfl rfl ?_ | refine w_gF rfl rfl ?_ | (refine is_ldn ?_; refine w_ldn rfl (by first | exact rd_all ‹_› rfl | exact rd_newn rfl | assumption) ?_) | (refine w_cmp (c2 := true) rfl ?_ ?_; focus (first | exact decide_eq_true (by omega) | (simp; done) | (simp; omega))) | refine ai_seq ?_ | refine ai_regW ?_ | refine ai_condF (b := true) rfl (fun _ => ?_) (fun hb => by cases hb))
          refine w_stN rfl rfl r25 rfl rfl fun gb mb kb nb => ?_
          repeat (first | refine sS ?_ | refine sE ?_ | refine w_mv rfl ?_ | (refine ai_ret ?_; repeat (first | rw [thenQ_r] | rw [blockQ_r] | rw [roundE_r])))
          exact end_cell3 rfl rfl rfl kb Go.Proofs.Tryd.underlying24 rfl (by kernel_rfl) rfl ⟨rfl, xf gb mb nb⟩
        | some kx =>
          obtain ⟨k, x⟩ := kx
          have hk20 := lineF_lt hlf
          rw [hlf] at hp
          dsimp only at hp
          have hrw := rd_row kw5 (wasC_at (ws := was) hk20)
          repeat (first | refine sS ?_ | refine sE ?_ | refine w_mv rfl ?_ | refine w_pickF rfl ?_ | refine w_ext rfl rfl ?_ | refine w_gT rfl rfl ?_ | (refine is_ld ?_; refine w_ld rfl (by first | exact rd_g ‹_› rfl | exact rd_new rfl | assumption) ?_) | (refine w_cmp (c2 := false) rfl ?_ ?_; focus (first | exact decide_eq_false (by omega) | (simp; done) | (simp; omega))) | (refine w_iad rfl ?_ ?_; focus (first | omega | (simp; done) | (simp; omega))) | refine ai_seq ?_ | refine ai_regW ?_)
          obtain ⟨wb, hwb⟩ : ∃ b, was.contains k = b := ⟨_, rfl⟩
          rw [hwb] at hp ⊢
          cases wb
          · rw [if_neg (by simp)] at hp
            repeat (first | refine sS ?_ | refine sSn ?_ | refine w_mv rfl ?_ | (refine w_iad rfl ?_ ?_; focus (first | omega | (simp; done) | (simp; omega))) | refine ai_regW ?_ | refine ai_condF (b := false) rfl (fun hb => by cases hb) (fun _ => ?_) | refine ai_skip ?_)
            refine w_st1 rfl rfl kv5 (by rw [List.length_map]; simp; omega) rfl fun ga ma ka na => ?_
            rw [show 0 + ((k : Nat) : Int).toNat * 1 = k by simp, map_set] at ka
            have kwa := (ma _ (by omega)).trans kw5
            repeat (first | refine sS ?_ | refine sSn ?_ | (refine w_iad rfl ?_ ?_; focus (first | omega | (simp; done) | (simp; omega))))
            refine w_st1 rfl rfl kwa (by simp [wasC]; omega) rfl fun gb mb kb nb => ?_
            rw [show 0 + ((k : Nat) : Int).toNat * 1 = k by simp, wasC_set] at kb
            have kvb := (mb _ (by omega)).trans ka
            have mdb : Md2 (g2.nx + 1) g3.nx g4 gb := ⟨by rw [nb, na]; exact md5.1, fun q h1 h2 h3 => (mb q h3).trans ((ma q h2).trans (md5.2 q h1 h2 h3))⟩
            repeat (first | refine sS ?_ | refine sE ?_ | refine w_mv rfl ?_ | (refine w_add rfl ?_ ?_; (focus omega)) | refine ai_regW ?_)
            exact ⟨(i + 1, i + 1, n + 1, R', v.set k x, was ++ [k]), (by repeat (first | exact le_nil | refine le_consF rfl ?_)), ⟨mdb, kvb, kb, fin.1, fin.2.1, fin.2.2.1, fin.2.2.2, by dsimp only; rw [List.length_set]; exact hv, hp⟩, by dsimp only; omega⟩
          · rw [if_pos rfl] at hp
            rw [← hp] at hR0
            rw [← hR0]
            repeat (first | refine sS ?_ | refine sSn ?_ | refine w_mv rfl ?_ | (refine is_ldn ?_; refine w_ldn rfl (by first | exact rd_all ‹_› rfl | exact rd_newn rfl | assumption) ?_) | refine ai_seq ?_ | refine ai_regW ?_ | refine ai_condF (b := true) rfl (fun _ => ?_) (fun hb => by cases hb))
            refine w_stN rfl rfl r25 rfl rfl fun gb mb kb nb => ?_
            repeat (first | refine sS ?_ | refine sE ?_ | refine w_mv rfl ?_ | (refine ai_ret ?_; repeat (first | rw [thenQ_r] | rw [blockQ_r] | rw [roundE_r])))
            exact end_cell3 rfl rfl rfl kb Go.Proofs.Tryd.underlying24 rfl (by kernel_rfl) rfl ⟨rfl, xf gb mb nb⟩
    · obtain rfl : a = b := by omega
      have hte : (s.take a).drop a = [] := by simp
      rw [hte, if_pos (c := blankB [] = true) rfl] at hp
      repeat (first | refine sS ?_ | refine sE ?_ | refine w_mv rfl ?_ | refine w_pickF rfl ?_ | refine w_gF rfl rfl ?_ | (refine w_add rfl ?_ ?_; (focus omega)) | (refine w_cmp (c2 := false) rfl ?_ ?_; focus (first | exact decide_eq_false (by omega) | (simp; done) | (simp; omega))) | refine ai_seq ?_ | refine ai_regW ?_ | refine ai_condF (b := false) rfl (fun hb => by cases hb) (fun _ => ?_) | refine ai_skip ?_)
      exact ⟨(i + 1, i + 1, n + 1, R', v, was), (by repeat (first | exact le_nil | refine le_consF rfl ?_)), ⟨md, kv, kw, fin.1, fin.2.1, fin.2.2.1, fin.2.2.2, hv, hp⟩, by dsimp only; omega⟩
  · obtain rfl : i = s.length + 1 := by omega
    rw [hend rfl] at hp
    obtain ⟨d, rfl⟩ := vl_of hv
    have hp2 : P0 = .ok (vl d) := hp.symm
    rw [hp2] at hR0
    replace hR0 : (if mayB d = true then (d, (0 : Int), (0 : Int)) else (c, 5, 0)) = R0 := hR0
    repeat (first | refine sS ?_ | refine sE ?_ | refine w_mv rfl ?_ | (refine is_okn rfl ?_; refine w_op rfl ?_) | (refine w_cmp (c2 := false) rfl ?_ ?_; focus (first | exact decide_eq_false (by omega) | (simp; done) | (simp; omega))) | refine ai_seq ?_ | refine ai_regW ?_ | refine ai_condF (b := false) rfl (fun hb => by cases hb) (fun _ => ?_) | refine ai_exit ?_)
    refine w_call rfl ((made_ok _ d kv (by omega)).mono ?_)
    rintro _ g7 ⟨rfl, x7⟩
    have hn7 := x7.1
    repeat (first | refine sS ?_)
    refine w_new fun g8 x8 k8 n8 => ?_
    repeat (first | refine sSn ?_)
    refine w_stN rfl rfl k8 rfl rfl fun g9 m9 k9 n9 => ?_
    repeat (first | refine sS ?_ | refine sE ?_ | (refine is_ldn ?_; refine w_ldn rfl (by first | exact rd_all ‹_› rfl | exact rd_newn rfl | assumption) ?_) | refine ai_seq ?_ | refine ai_regW ?_)
    refine w_call rfl ((rmay_ok _ d).mono ?_)
    rintro _ gc ⟨rfl, xc⟩
    have hn8 := x8.1
    have hnc := xc.1
    have x79 : Ext g7 g9 := x8.own m9 n9
    have ra := (xc.2 h.nx (by omega)).trans ((x79.2 _ (by omega)).trans ((x7.2 h.nx (by omega)).trans r1))
    have rb := (xc.2 g1.nx (by omega)).trans ((x79.2 _ (by omega)).trans ((x7.2 g1.nx (by omega)).trans r2))
    have rx := (xc.2 g7.nx (by omega)).trans k9
    have xf : ∀ gb, (∀ k, k ≠ g1.nx → gb.get k = gc.get k) → gb.nx = gc.nx → Ext h gb := fun gb mb nb => ⟨by rw [nb]; have := x04.1; omega, fun q hq => (mb q (by omega)).trans ((xc.2 q (by omega)).trans ((x79.2 q (by omega)).trans ((x7.2 q (by omega)).trans ((md.2 q (by have := x04.1; omega) (by omega) (by omega)).trans (x04.2 q hq)))))⟩
    obtain ⟨mb, hm⟩ : ∃ b, mayB d = b := ⟨_, rfl⟩
    rw [hm] at hR0 ⊢
    cases mb
    · rw [← hR0]
      repeat (first | refine sS ?_ | refine sSn ?_ | refine sE ?_ | (refine is_okn rfl ?_; refine w_op rfl ?_) | (refine is_ldn ?_; refine w_ldn rfl (by first | exact rd_all ‹_› rfl | exact rd_newn rfl | assumption) ?_) | refine ai_seq ?_ | refine ai_regW ?_ | refine ai_condF (b := true) rfl (fun _ => ?_) (fun hb => by cases hb))
      refine w_stN rfl rfl rb rfl rfl fun gb mb kb nb => ?_
      repeat (first | refine sS ?_ | refine sE ?_ | refine w_mv rfl ?_ | (refine ai_ret ?_; repeat (first | rw [thenQ_r] | rw [blockQ_r] | rw [roundE_r])))
      exact end_cell3 rfl rfl rfl kb Go.Proofs.Tryd.underlying24 rfl (by kernel_rfl) rfl ⟨rfl, xf gb mb nb⟩
    · rw [← hR0]
      repeat (first | refine sS ?_ | refine sSn ?_ | refine sE ?_ | (refine is_okn rfl ?_; refine w_op rfl ?_) | (refine is_ldn ?_; refine w_ldn rfl (by first | exact rd_all ‹_› rfl | exact rd_newn rfl | assumption) ?_) | refine ai_seq ?_ | refine ai_regW ?_ | refine ai_condF (b := false) rfl (fun hb => by cases hb) (fun _ => ?_) | refine ai_skip ?_)
      refine w_stN rfl rfl rb rfl rfl fun gb mb kb nb => ?_
      repeat (first | refine sS ?_ | refine sE ?_ | refine w_mv rfl ?_ | (refine ai_ret ?_; repeat (first | rw [thenQ_r] | rw [blockQ_r] | rw [roundE_r])))
      exact end_cell3 rfl rfl rfl kb Go.Proofs.Tryd.underlying24 rfl (by kernel_rfl) rfl ⟨rfl, xf gb mb nb⟩
end Go.Proofs.YtapbmmlgmcmpnaaDoorW.Am
/- copyCheck, laid by hand (the shelf's tool stops at a number that the dump's body does not name). -/
namespace Go.Proofs
open Go.Shelf
def Tryd.lays240_ren : Go.Shelf.Ren := ⟨fun | 240 => 53 | 276 => 69 | n => n, fun | 70 => 63 | 0 => 0 | 4 => 4 | 9 => 9 | 20 => 20 | 72 => 66 | 37 => 64 | 164 => 103 | 5 => 5 | n => n, fun | n => n⟩
theorem Tryd.lays240 : Go.Proofs.Lays.n240 Go.Proofs.Tryd.prog Tryd.lays240_ren := {
  mixed := by kernel_rfl
  f240 := Go.Proofs.Tryd.func53.trans (congrArg some (by kernel_rfl))
  f276 := Go.Proofs.Tryd.func69.trans (congrArg some (by kernel_rfl))
  t0 := Go.Proofs.Tryd.underlying0
  a0 := Go.Proofs.Tryd.isAgg0
  z0 := Go.Proofs.Tryd.sizeOf0
  v0 := Go.Proofs.Tryd.zeroValue0
  t4 := Go.Proofs.Tryd.underlying4
  a4 := Go.Proofs.Tryd.isAgg4
  z4 := Go.Proofs.Tryd.sizeOf4
  v4 := Go.Proofs.Tryd.zeroValue4
  t9 := Go.Proofs.Tryd.underlying9
  a9 := Go.Proofs.Tryd.isAgg9
  z9 := Go.Proofs.Tryd.sizeOf9
  v9 := Go.Proofs.Tryd.zeroValue9
  t20 := Go.Proofs.Tryd.underlying20
  a20 := Go.Proofs.Tryd.isAgg20
  z20 := Go.Proofs.Tryd.sizeOf20
  v20 := Go.Proofs.Tryd.zeroValue20
  t70 := Go.Proofs.Tryd.underlying63
  a70 := Go.Proofs.Tryd.isAgg63
  z70 := Go.Proofs.Tryd.sizeOf63
  v70 := Go.Proofs.Tryd.zeroValue63
  t72 := Go.Proofs.Tryd.underlying66
  a72 := Go.Proofs.Tryd.isAgg66
  z72 := Go.Proofs.Tryd.sizeOf66
  v72 := Go.Proofs.Tryd.zeroValue66
  t164 := Go.Proofs.Tryd.underlying103
  a164 := Go.Proofs.Tryd.isAgg103
  z164 := Go.Proofs.Tryd.sizeOf103
  v164 := Go.Proofs.Tryd.zeroValue103 }
end Go.Proofs
/- strings.Builder over abstract heaps: copyCheck, WriteString, String. -/
namespace Go.Proofs.YtapbmmlgmcmpnaaDoorW.Am
open Go Go.RowKit
abbrev tBld : TypeId := 66
abbrev tU8 : TypeId := 5
def byV (b : UInt8) : Value := .int .u8 b.toNat
theorem copy_x : Go.Proofs.Builder.X72 PX Tryd.lays240_ren := ⟨by kernel_rfl, by kernel_rfl⟩
theorem copy_ok {h : Hp} {i : Nat} {p buf : Value} (hg : h.get i = some ⟨[p, buf], true, mkE * (tBld + 1)⟩) (hp : p = .pointer none ∨ p = .pointer (some ⟨i, 0, none⟩)) :
    ACall PX 53 [.pointer (some ⟨i, 0, none⟩)] h (fun _ g => g.nx = h.nx ∧ (∀ k, k ≠ i → g.get k = h.get k) ∧ g.get i = some ⟨[.pointer (some ⟨i, 0, none⟩), buf], true, mkE * (tBld + 1)⟩) := by
  refine ⟨⟨Go.Proofs.Tryd.f53, Go.Proofs.Tryd.func53, fun e => (by cases e), of_decide_eq_true (by kernel_rfl)⟩, fun base w0 m w args' ra s => ?_⟩
  obtain ⟨v', b', rfl, r1, r2⟩ := ra.cases_cons
  obtain rfl := r2.cases_nil
  cases r1 with
  | @ptr _ _ l hl =>
  obtain ⟨hlies, hwh⟩ := s.loc hg hl
  obtain ⟨hbase, c, e, f, hblk, hfr, hsz, hmk⟩ := hwh rfl
  obtain ⟨h0, he, hc⟩ := hmk (by show mkE ≤ mkE * (tBld + 1); decide)
  have he2 : e = tBld := by
    have he3 : mkE * (tBld + 1) / mkE = e + 1 := he
    rw [Nat.mul_div_cancel_left _ (by decide : 0 < mkE)] at he3
    exact (Nat.succ.inj he3).symm
  subst he2
  have hc2 : c.size = 2 := hc (by show mkE * (tBld + 1) % mkE = 0; decide)
  obtain ⟨boff, hbo⟩ : ∃ q, l.off = q := ⟨_, rfl⟩
  obtain ⟨lb, lo, lsl⟩ := l
  dsimp only at h0
  subst h0
  have hsh : w.shape? lb = some (tBld, 2) := by simp [World.shape?, hblk, hc2]
  obtain ⟨p', hp', rp⟩ := hlies 0 p rfl
  have hfz : w.frozen? ⟨lb, 0, none⟩ = false := by
    have := s.thaw hg hl rfl (j := 0) (by simp)
    simpa using this
  rcases hp with rfl | rfl
  · have rp2 := rp.flat_eq rfl
    subst rp2
    refine (Go.Proofs.Any.Builder_copyCheck_fresh Tryd.lays240 copy_x lb w hp' hsh hfz).mono ?_
    rintro e w' ⟨rfl, rfl⟩
    have st := s.store (j := 0) (v := .pointer (some ⟨i, 0, none⟩)) (v' := .pointer (some ⟨lb, 0, none⟩)) hg hl rfl (by simp) (RV.ptr hl)
    exact ⟨m, _, .tuple #[], _, rfl, m.le_refl, RV.of_flat m _ rfl, st, rfl, fun k hk => hput_ne _ _ hk, hput_same _ _ _⟩
  · cases rp with
    | @ptr _ _ l2 hl2 =>
    rw [hl] at hl2
    cases hl2
    refine (Go.Proofs.Any.Builder_copyCheck_used Tryd.lays240 copy_x lb w hp').mono ?_
    rintro e w' ⟨rfl, rfl⟩
    exact ⟨m, _, .tuple #[], h, rfl, m.le_refl, RV.of_flat m _ rfl, s, rfl, fun _ _ => rfl, hg⟩
/-- A builder, and what was written to it. -/
def BLD (N : Nat) (h : Hp) (i : Nat) (acc : List UInt8) : Prop := i < N ∧ N ≤ h.nx ∧ ∃ p buf, h.get i = some ⟨[p, buf], true, mkE * (tBld + 1)⟩ ∧ (p = .pointer none ∨ p = .pointer (some ⟨i, 0, none⟩)) ∧
  ((acc = [] ∧ buf = .slice none 0 0) ∨ ∃ q, acc ≠ [] ∧ buf = .slice (some ⟨q, 0, some 0⟩) acc.length acc.length ∧ N ≤ q ∧ q < h.nx ∧ h.get q = some ⟨acc.map byV, true, aszB tU8⟩)
theorem BLD.ext {N : Nat} {h g : Hp} {i : Nat} {acc : List UInt8} (b : BLD N h i acc) (x : Ext h g) : BLD N g i acc := by
  obtain ⟨h1, h2, p, buf, h3, h4, h5⟩ := b
  have hn := x.1
  refine ⟨h1, by omega, p, buf, (x.2 _ (by omega)).trans h3, h4, ?_⟩
  rcases h5 with h5 | ⟨q, a1, a2, a3, a4, a5⟩
  · exact .inl h5
  · exact .inr ⟨q, a1, a2, a3, by omega, (x.2 _ a4).trans a5⟩
theorem byV_all (l : List UInt8) : (l.map byV).all one = true := List.all_eq_true.2 (by intro x hx; obtain ⟨b, _, rfl⟩ := List.mem_map.1 hx; rfl)
theorem byV_bytes : ∀ l : List UInt8, bytesV (l.map byV) = some l
  | [] => rfl
  | b :: l => by
    have hb := b.toNat_lt
    have h1 : (0 : Int) ≤ b.toNat ∧ (b.toNat : Int) < 256 := by omega
    show (if (0 : Int) ≤ (b.toNat : Int) ∧ (b.toNat : Int) < 256 then (bytesV (l.map byV)).map (UInt8.ofNat ((b.toNat : Int)).toNat :: ·) else none) = _
    rw [if_pos h1, byV_bytes l, Int.toNat_natCast, UInt8.ofNat_toNat]
    rfl
/-- The row that a builder's bytes lie in. -/
def bufN (h : Hp) (i : Nat) : Option Nat := match h.get i with
  | some ⟨[_, .slice (some ⟨q, _, _⟩) _ _], _, _⟩ => some q
  | _ => none
theorem BLD.buf {N : Nat} {h : Hp} {i q : Nat} {acc : List UInt8} (b : BLD N h i acc) (e : bufN h i = some q) : N ≤ q ∧ q < h.nx := by
  obtain ⟨_, _, p, buf, h3, _, h5⟩ := b
  unfold bufN at e
  rw [h3] at e
  rcases h5 with ⟨_, rfl⟩ | ⟨q2, _, rfl, a3, a4, _⟩
  · cases e
  · cases e; exact ⟨a3, a4⟩
theorem bufN_of {h g : Hp} {i : Nat} (e : g.get i = h.get i) : bufN g i = bufN h i := by unfold bufN; rw [e]
section
variable {P : Program} {CT : FuncId → List Value → Hp → (Value → Hp → Prop) → Prop} {d : Option Nat} {xs : List Operand} {env : Env} {h : Hp} {R : Value → Hp → Prop}
theorem w_newB {t : TypeId} {z : Value} (n : ∀ g, Ext h g → g.get h.nx = some ⟨z.cells.toList, true, mkE * (t + 1)⟩ → h.nx < g.nx → R (.pointer (some ⟨h.nx, 0, none⟩)) g) : WI P CT ⟨d, none, .op (.newB t z) []⟩ env h R := by
  refine w_op (v := .pointer (some ⟨h.nx, 0, none⟩)) (h' := h.new ⟨z.cells.toList, true, mkE * (t + 1)⟩) ?_ (n _ (Ext.new _ _) (new_get _ _) (by simp [Hp.new]))
  unfold opF
  simp only [mapF, stepK, putPtr]
theorem w_aps0 {e : TypeId} {s : List UInt8} (ex : mapF env xs = some [.slice none 0 0, .string ⟨s.toArray⟩]) (hs : s ≠ []) (hl : s.length ≤ 1000000000) (n : ∀ g, Ext h g → g.get h.nx = some ⟨s.map byV, true, aszB e⟩ → h.nx < g.nx → R (.slice (some ⟨h.nx, 0, some 0⟩) s.length s.length) g) : WI P CT ⟨d, none, .op (.aps e) xs⟩ env h R := by
  have hz : (ByteArray.mk s.toArray).size = s.length := by simp [ByteArray.size]
  have h0 : s.length ≠ 0 := by simpa using hs
  refine w_op (v := .slice (some ⟨h.nx, 0, some 0⟩) s.length s.length) (h' := h.new ⟨s.map byV, true, aszB e⟩) ?_ (n _ (Ext.new _ _) (new_get _ _) (by simp [Hp.new]))
  unfold opF
  rw [ex]
  show appG 1 1 (aszB e) h none 0 0 (s.map byV) (ByteArray.mk s.toArray).size = _
  rw [hz]
  unfold appG
  rw [if_pos ⟨by simp, byV_all s, by omega, by omega, by omega⟩]
  simp [h0]
theorem w_apsN {e : TypeId} {s acc : List UInt8} {q : Nat} (ex : mapF env xs = some [.slice (some ⟨q, 0, some 0⟩) acc.length acc.length, .string ⟨s.toArray⟩]) (hg : h.get q = some ⟨acc.map byV, true, aszB e⟩) (hs : s ≠ []) (ha : acc ≠ []) (hl : acc.length + s.length ≤ 1000000000)
    (n : ∀ g, g.nx = h.nx + 1 → (∀ j, j < h.nx → j ≠ q → g.get j = h.get j) → g.get h.nx = some ⟨(acc ++ s).map byV, true, aszB e⟩ → R (.slice (some ⟨h.nx, 0, some 0⟩) (acc ++ s).length (acc ++ s).length) g) : WI P CT ⟨d, none, .op (.aps e) xs⟩ env h R := by
  have hz : (ByteArray.mk s.toArray).size = s.length := by simp [ByteArray.size]
  have h0 : s.length ≠ 0 := by simpa using hs
  have h1 : acc.length ≠ 0 := by simpa using ha
  have hrd : h.rd q 0 (acc.length * 1) = some (acc.map byV) := by rw [Nat.mul_one]; exact rd_all hg (by simp)
  refine w_op (v := .slice (some ⟨h.nx, 0, some 0⟩) (acc ++ s).length (acc ++ s).length) (h' := (h.del q).new ⟨(acc ++ s).map byV, true, aszB e⟩) ?_ (n _ rfl (fun j hj hq => by show (if j = h.nx then _ else if j = q then none else h.get j) = _; rw [if_neg (by omega), if_neg hq]) (new_get _ _))
  unfold opF
  rw [ex]
  show appG 1 1 (aszB e) h (some ⟨q, 0, some 0⟩) acc.length acc.length (s.map byV) (ByteArray.mk s.toArray).size = _
  rw [hz]
  unfold appG
  rw [if_pos ⟨by simp, byV_all s, by omega, by omega, by omega⟩]
  simp only [if_neg h0, show ¬ (acc.length + s.length ≤ acc.length) by omega, if_false, if_neg h1, hrd, hg]
  rw [if_pos (by simp; intro x _; rfl)]
  simp
theorem w_sdt {q n c : Nat} (ex : mapF env xs = some [.slice (some ⟨q, 0, some 0⟩) n c]) (hc : c ≠ 0) (r : R (.pointer (some ⟨q, 0, none⟩)) h) : WI P CT ⟨d, none, .op .sdt xs⟩ env h R := by
  refine w_op (v := .pointer (some ⟨q, 0, none⟩)) (h' := h) ?_ r
  unfold opF
  rw [ex]
  simp only [stepK, if_neg hc]
theorem w_ust {e : TypeId} {acc : List UInt8} {q : Nat} (ex : mapF env xs = some [.pointer (some ⟨q, 0, none⟩), .int .i64 (acc.length : Int)]) (hg : h.get q = some ⟨acc.map byV, true, aszB e⟩) (ha : acc ≠ []) (hl : acc.length ≤ 1000000000)
    (n : R (.string ⟨acc.toArray⟩) (h.del q)) : WI P CT ⟨d, none, .op (.ust e) xs⟩ env h R := by
  have h1 : acc.length ≠ 0 := by simpa using ha
  refine w_op (v := .string ⟨acc.toArray⟩) (h' := h.del q) ?_ n
  have hrd : h.rd q 0 acc.length = some (acc.map byV) := rd_all hg (by simp)
  unfold opF
  rw [ex]
  simp only [stepK, hg]
  rw [if_neg (by omega), if_neg (by omega)]
  simp only [and_self, if_true, Int.toNat_natCast, hrd, byV_bytes, Option.map_some]
end
set_option maxHeartbeats 1000000 in
theorem wstr_ok {N : Nat} {h : Hp} {i : Nat} {acc s : List UInt8} (b : BLD N h i acc) (hs : s ≠ []) (hl : acc.length + s.length ≤ 1000000000) : ACall PX 34 [.pointer (some ⟨i, 0, none⟩), .string ⟨s.toArray⟩] h (fun _ g => BLD N g i (acc ++ s) ∧ h.nx ≤ g.nx ∧ ∀ j, j < h.nx → j ≠ i → bufN h i ≠ some j → g.get j = h.get j) := by
  obtain ⟨b1, b2, p, buf, b3, b4, b5⟩ := b
  have hne : acc ++ s ≠ [] := by simp [hs]
  refine acall Go.Proofs.Tryd.func34 c34 (by simp [ir34]) ?_
  unfold ir34
  dsimp only
  repeat (first | refine sS ?_ | refine sE ?_ | refine w_mv rfl ?_ | refine ai_seq ?_ | refine ai_regW ?_)
  refine w_call rfl ((copy_ok b3 b4).mono ?_)
  rintro _ g1 ⟨n1, k1, e1⟩
  rcases b5 with ⟨rfl, rfl⟩ | ⟨q, a1, rfl, a3, a4, a5⟩
  · repeat (first | refine sS ?_ | refine sE ?_ | refine w_mv rfl ?_ | (refine is_okn rfl ?_; refine w_op rfl ?_) | (refine is_ld ?_; refine w_ld rfl (by first | exact rd_g ‹_› rfl | exact rd_new rfl | assumption) ?_) | refine ai_seq ?_ | refine ai_regW ?_)
    refine w_aps0 rfl hs (by omega) fun g2 x2 k2 n2 => ?_
    have e2 := (x2.2 i (by omega)).trans e1
    repeat (first | refine sS ?_ | refine sSn ?_ | (refine is_okn rfl ?_; refine w_op rfl ?_))
    refine w_st1 rfl rfl e2 (by simp) rfl fun g3 m3 k3 n3 => ?_
    repeat (first | refine sS ?_ | refine sE ?_ | refine w_mv rfl ?_ | (refine is_okn rfl ?_; refine w_op rfl ?_) | refine ai_seq ?_ | refine ai_regW ?_ | (refine ai_ret ?_; repeat (first | rw [thenQ_r] | rw [blockQ_r] | rw [roundE_r])))
    refine ⟨_, rfl, ⟨b1, by rw [n3]; have := x2.1; omega, _, _, k3, .inr rfl, .inr ⟨g1.nx, hne, by simp, by omega, by omega, ?_⟩⟩, by rw [n3]; have := x2.1; omega, fun j hj hji _ => ?_⟩
    · exact (m3 _ (by omega)).trans k2
    · exact (m3 _ hji).trans ((x2.2 j (by omega)).trans (k1 j hji))
  · have a5' := (k1 q (by omega)).trans a5
    repeat (first | refine sS ?_ | refine sE ?_ | refine w_mv rfl ?_ | (refine is_okn rfl ?_; refine w_op rfl ?_) | (refine is_ld ?_; refine w_ld rfl (by first | exact rd_g ‹_› rfl | exact rd_new rfl | assumption) ?_) | refine ai_seq ?_ | refine ai_regW ?_)
    refine w_apsN rfl a5' hs a1 hl fun g2 n2 x2 k2 => ?_
    have e2 := (x2 i (by omega) (by omega)).trans e1
    repeat (first | refine sS ?_ | refine sSn ?_ | (refine is_okn rfl ?_; refine w_op rfl ?_))
    refine w_st1 rfl rfl e2 (by simp) rfl fun g3 m3 k3 n3 => ?_
    repeat (first | refine sS ?_ | refine sE ?_ | refine w_mv rfl ?_ | (refine is_okn rfl ?_; refine w_op rfl ?_) | refine ai_seq ?_ | refine ai_regW ?_ | (refine ai_ret ?_; repeat (first | rw [thenQ_r] | rw [blockQ_r] | rw [roundE_r])))
    refine ⟨_, rfl, ⟨b1, by omega, _, _, k3, .inr rfl, .inr ⟨g1.nx, hne, rfl, by omega, by omega, ?_⟩⟩, by omega, fun j hj hji hbf => ?_⟩
    · exact (m3 _ (by omega)).trans k2
    · have hjq : j ≠ q := fun e => hbf (by unfold bufN; rw [b3, e])
      exact (m3 _ hji).trans ((x2 j (by omega) hjq).trans (k1 j hji))
theorem str_ok {N : Nat} {h : Hp} {i : Nat} {acc : List UInt8} (b : BLD N h i acc) (hl : acc.length ≤ 1000000000) : ACall PX 36 [.pointer (some ⟨i, 0, none⟩)] h (fun v g => v = .string ⟨acc.toArray⟩ ∧ h.nx ≤ g.nx ∧ ∀ j, j < N → g.get j = h.get j) := by
  obtain ⟨b1, b2, p, buf, b3, b4, b5⟩ := b
  refine acall Go.Proofs.Tryd.func36 c36 (by simp [ir36]) ?_
  unfold ir36
  dsimp only
  rcases b5 with ⟨rfl, rfl⟩ | ⟨q, a1, rfl, a3, a4, a5⟩
  · repeat (first | refine sS ?_ | refine dS ?_ | refine dSR ?_ | refine sE ?_ | refine dE ?_ | (refine agS ?_ ?_; focus (repeat (first | exact ag_nil | refine ag_cons (by first | exact ag_gF rfl rfl | exact ag_l rfl rfl (by first | exact rd_g ‹_› rfl | exact rd_new rfl | assumption) | exact ag_gT rfl rfl (ag_l rfl rfl (by first | exact rd_g ‹_› rfl | exact rd_new rfl | assumption)) | exact ag_ln rfl rfl (by first | exact rd_all ‹_› rfl | exact rd_newn rfl | assumption) | exact ag_gT rfl rfl (ag_ln rfl rfl (by first | exact rd_all ‹_› rfl | exact rd_newn rfl | assumption))) ?_))) | refine w_mv rfl ?_ | (refine is_okn rfl ?_; refine w_op rfl ?_) | (refine is_ld ?_; refine w_ld rfl (by first | exact rd_g ‹_› rfl | exact rd_new rfl | assumption) ?_) | refine ai_seq ?_ | refine ai_regW ?_ | refine ai_drwW (by kernel_rfl) ?_ | (refine ai_ret ?_; repeat (first | rw [thenQ_r] | rw [blockQ_r] | rw [roundE_r])))
    exact ⟨_, rfl, rfl, Nat.le_refl _, fun _ _ => rfl⟩
  · have h1 : acc.length ≠ 0 := by simpa using a1
    repeat (first | refine sS ?_ | refine dS ?_ | refine dSR ?_ | refine sE ?_ | refine w_mv rfl ?_ | (refine is_okn rfl ?_; refine w_op rfl ?_) | (refine is_ld ?_; refine w_ld rfl (by first | exact rd_g ‹_› rfl | exact rd_new rfl | assumption) ?_) | refine ai_seq ?_ | refine ai_regW ?_ | refine ai_drwW (by kernel_rfl) ?_)
    refine w_sdt rfl h1 ?_
    repeat (first | refine dS ?_ | (refine agS ?_ ?_; focus (repeat (first | exact ag_nil | refine ag_cons (by first | exact ag_gF rfl rfl | exact ag_l rfl rfl (by first | exact rd_g ‹_› rfl | exact rd_new rfl | assumption) | exact ag_gT rfl rfl (ag_l rfl rfl (by first | exact rd_g ‹_› rfl | exact rd_new rfl | assumption)) | exact ag_ln rfl rfl (by first | exact rd_all ‹_› rfl | exact rd_newn rfl | assumption) | exact ag_gT rfl rfl (ag_ln rfl rfl (by first | exact rd_all ‹_› rfl | exact rd_newn rfl | assumption))) ?_))))
    refine w_ust rfl a5 a1 hl ?_
    repeat (first | refine dS ?_ | refine dE ?_ | refine w_mv rfl ?_ | (refine ai_ret ?_; repeat (first | rw [thenQ_r] | rw [blockQ_r] | rw [roundE_r])))
    exact ⟨_, rfl, rfl, Nat.le_refl _, fun j hj => by show (if j = q then none else h.get j) = _; rw [if_neg (by omega)]⟩
end Go.Proofs.YtapbmmlgmcmpnaaDoorW.Am
/- Texts: Print. -/
namespace Go.Proofs.YtapbmmlgmcmpnaaDoorW.Am
open Go Go.RowKit
def shownF (k : Nat) (n : Int) : List UInt8 := if thinK k = true then showF n else Go.Lib.itoa n
/-- The first lines of settings as a text. -/
def prU (l : List Int) : Nat → List UInt8
  | 0 => []
  | k + 1 => prU l k ++ ((nmB.getD k [] ++ [58, 32]) ++ (shownF k (l.getD k 0) ++ [10]))
def printF (c : Cf20) : List UInt8 × Int := if mayB c = true then (prU (vl c) 20, 0) else ([], 1)
theorem may_b {c : Cf20} (h : mayB c = true) : ∀ (k : Nat) x, (vl c)[k]? = some x → (-1000 ≤ x ∧ x ≤ 100000000) ∧ (thinK k = false → 0 ≤ x) := by
  unfold mayB wrL wrB inB at h
  simp only [List.all_cons, List.all_nil, Bool.and_eq_true, decide_eq_true_eq, Bool.or_eq_true, beq_iff_eq, and_true] at h
  obtain ⟨h0, h1, h2, h3, h4, h5, h6, h7, h8, h9, h10, h11, h12, h13, h14, h15, h16, h17, h18, h19⟩ := h
  have hm : (if c.max = 0 then 100 else c.max) ≤ 100 := by
    split
    · omega
    · rcases h9 with h9 | h9
      · omega
      · omega
  have h9b : 0 ≤ c.max ∧ c.max ≤ 100 := by
    rcases h9 with h9 | h9
    · omega
    · have := h9.1; split at this <;> omega
  intro k x hk
  match k with
  | 0 => cases hk; exact ⟨by omega, fun e => absurd e (by decide)⟩
  | 1 => cases hk; exact ⟨by omega, fun e => absurd e (by decide)⟩
  | 2 => cases hk; exact ⟨by omega, fun _ => by omega⟩
  | 3 => cases hk; exact ⟨by omega, fun _ => by omega⟩
  | 4 => cases hk; exact ⟨by omega, fun _ => by omega⟩
  | 5 => cases hk; exact ⟨by omega, fun e => absurd e (by decide)⟩
  | 6 => cases hk; exact ⟨by omega, fun e => absurd e (by decide)⟩
  | 7 => cases hk; exact ⟨by omega, fun e => absurd e (by decide)⟩
  | 8 => cases hk; exact ⟨by omega, fun _ => by omega⟩
  | 9 => cases hk; exact ⟨by omega, fun _ => by omega⟩
  | 10 => cases hk; exact ⟨by omega, fun _ => by omega⟩
  | 11 => cases hk; exact ⟨by omega, fun _ => by omega⟩
  | 12 => cases hk; exact ⟨by omega, fun _ => by omega⟩
  | 13 => cases hk; exact ⟨by omega, fun e => absurd e (by decide)⟩
  | 14 => cases hk; exact ⟨by omega, fun _ => by omega⟩
  | 15 => cases hk; exact ⟨by omega, fun _ => by omega⟩
  | 16 => cases hk; exact ⟨by omega, fun _ => by omega⟩
  | 17 => cases hk; exact ⟨by omega, fun _ => by omega⟩
  | 18 => cases hk; exact ⟨by omega, fun _ => by omega⟩
  | 19 => cases hk; exact ⟨by omega, fun _ => by omega⟩
  | k + 20 => simp [vl] at hk
theorem show_len {n : Int} (hn : -1000 ≤ n ∧ n ≤ 100000000) : (showF n).length ≤ 60 := by
  have ha : 0 ≤ absB n ∧ absB n ≤ 100000000 := by
    unfold absB
    split <;> omega
  have h1 := Go.Lib.itoa_length_le (absB n / 1000) (by omega) (by omega)
  have h2 := Go.Lib.itoa_length_le (1000 + absB n % 1000) (by omega) (by omega)
  have h3 := trimR_len ((Go.Lib.itoa (1000 + absB n % 1000)).drop 1) 48
  rw [List.length_drop] at h3
  unfold showF fracB
  rw [List.length_append, List.length_append]
  have h4 : (if n < 0 then [45] else [] : List UInt8).length ≤ 1 := by split <;> simp
  have h5 : (if absB n % 1000 = 0 then [] else 46 :: Go.Lib.trimRightB ((Go.Lib.itoa (1000 + absB n % 1000)).drop 1) 48 : List UInt8).length ≤ 30 := by
    split
    · exact Nat.zero_le _
    · rw [List.length_cons]; omega
  omega
theorem shown_len {k : Nat} {n : Int} (hn : -1000 ≤ n ∧ n ≤ 100000000) : (shownF k n).length ≤ 60 := by
  unfold shownF
  split
  · exact show_len hn
  · have := Go.Lib.itoa_length_le n (by omega) (by omega)
    omega
theorem vl_len (c : Cf20) : (vl c).length = 20 := rfl
theorem prU_len {c : Cf20} (h : mayB c = true) : ∀ k, k ≤ 20 → (prU (vl c) k).length ≤ k * 100
  | 0, _ => Nat.le_refl _
  | k + 1, hk => by
    have ih := prU_len h k (by omega)
    have hx : (vl c)[k]? = some ((vl c).getD k 0) := by
      rw [List.getD_eq_getElem?_getD, List.getElem?_eq_getElem (show k < (vl c).length by rw [vl_len]; omega)]
      rfl
    have h1 := shown_len (k := k) (may_b h k _ hx).1
    have h2 : (nmB.getD k []).length ≤ 20 := by
      rw [List.getD_eq_getElem?_getD, List.getElem?_eq_getElem (show k < nmB.length from by show k < 20; omega)]
      exact nm_len _ (List.getElem_mem _)
    simp only [prU, List.length_append, List.length_cons, List.length_nil]
    omega
theorem itoa_br {n : Int} (hn : I64 n) (h : Hp) : ACall PX 35 [nI n] h (fun v g => v = bs (Go.Lib.itoa n) ∧ h = g) :=
  bridge (enters_comp Go.Proofs.Tryd.func35 c35) rfl rfl (fun w tb => (Go.Proofs.Tryd.strconv_Itoa n hn.1 hn.2 w tb.1).mono (by
    rintro e w' ⟨rfl, k, os, rfl⟩
    refine ⟨rfl, ⟨rfl, rfl, rfl, ?_, fun b hb => ?_⟩, fun d => (dr_no d).elim⟩
    · show w.heap.size ≤ (w.heap ++ os).size
      rw [Array.size_append]
      exact Nat.le_add_right _ _
    · show (w.heap ++ os)[b]? = w.heap[b]?
      exact Array.getElem?_append_left hb)) h
set_option maxRecDepth 10000 in
set_option maxHeartbeats 4000000 in
theorem print_ok (c : Cf20) (h : Hp) : ACall PX 15 [.agg ⟨cs20 c⟩] h (fun v g => v = .tuple #[bs (printF c).1, nI (printF c).2] ∧ Ext h g) := by
  unfold printF
  refine acall Go.Proofs.Tryd.func15 c15 (by simp [ir15]) ?_
  unfold ir15
  dsimp only
  refine ai_seq (ai_regW (sS (w_box rfl fun g1 x1 k1 n1 => ?_)))
  repeat (first | refine sS ?_ | refine sE ?_ | refine w_mv rfl ?_ | (refine is_ldn ?_; refine w_ldn rfl (by first | exact rd_all ‹_› rfl | exact rd_newn rfl | assumption) ?_) | refine ai_seq ?_ | refine ai_regW ?_)
  refine w_call rfl ((may_ok _ c).mono ?_)
  rintro _ g2 ⟨rfl, x2⟩
  have hn2 := x2.1
  cases hm : mayB c
  · repeat (first | refine sS ?_ | refine sE ?_ | refine w_mv rfl ?_ | (refine is_okn rfl ?_; refine w_op rfl ?_) | refine ai_seq ?_ | refine ai_regW ?_ | refine ai_condF (b := true) rfl (fun _ => ?_) (fun hb => by cases hb) | (refine ai_ret ?_; repeat (first | rw [thenQ_r] | rw [blockQ_r] | rw [roundE_r])))
    exact ⟨_, rfl, rfl, x1.trans x2⟩
  have k2 := (x2.2 _ n1).trans k1
  repeat (first | refine sS ?_ | refine sE ?_ | (refine is_okn rfl ?_; refine w_op rfl ?_) | refine ai_seq ?_ | refine ai_regW ?_ | refine ai_condF (b := false) rfl (fun hb => by cases hb) (fun _ => ?_) | refine ai_skip ?_)
  have x3 : Ext g2 (g2.new ⟨[.pointer none, .slice none 0 0], true, mkE * (tBld + 1)⟩) := Ext.new _ _
  have k3 : (g2.new ⟨[.pointer none, .slice none 0 0], true, mkE * (tBld + 1)⟩).get g2.nx = some ⟨[.pointer none, .slice none 0 0], true, mkE * (tBld + 1)⟩ := new_get _ _
  have n3 : g2.nx < (g2.new ⟨[.pointer none, .slice none 0 0], true, mkE * (tBld + 1)⟩).nx := by simp [Hp.new]
  change WI _ _ _ _ (g2.new ⟨[.pointer none, .slice none 0 0], true, mkE * (tBld + 1)⟩) _
  generalize g2.new ⟨[.pointer none, .slice none 0 0], true, mkE * (tBld + 1)⟩ = g3 at x3 k3 n3 ⊢
  refine w_call rfl ((parts_ok _ h.nx).mono ?_)
  rintro _ g4 ⟨rfl, x4, k4, n4⟩
  have hn3 := x3.1
  have hn4 := x4.1
  have k24 := (x4.2 _ (by omega)).trans ((x3.2 _ (by omega)).trans k2)
  have x04 := ((x1.trans x2).trans x3).trans x4
  have b4 : BLD g4.nx g4 g2.nx [] := ⟨by omega, Nat.le_refl _, _, _, (x4.2 _ n3).trans k3, .inl rfl, .inl ⟨rfl, rfl⟩⟩
  repeat (first | refine sS ?_ | refine sE ?_ | refine w_mv rfl ?_ | (refine is_okn rfl ?_; refine w_op rfl ?_) | refine ai_block ?_)
  refine ai_loopE (γ := Nat) (fun j => [(1, .pointer (some ⟨h.nx, 0, none⟩)), (4, .pointer (some ⟨g2.nx, 0, none⟩)), (12, .slice (some ⟨g3.nx, 0, none⟩) 20 20), (13, nI 20), (14, nI j)])
    (fun j g => j ≤ 20 ∧ BLD g4.nx g g2.nx (prU (vl c) j) ∧ g4.nx ≤ g.nx ∧ ∀ q, q < g4.nx → q ≠ g2.nx → g.get q = g4.get q) (fun j => 20 - j) 0
    (by repeat (first | exact le_nil | refine le_consF rfl ?_)) ⟨Nat.zero_le _, b4, Nat.le_refl _, fun _ _ _ => rfl⟩ ?_
  rintro j g ⟨hj, b, hng, hfr⟩
  by_cases hj20 : j < 20
  · have kp := (hfr g3.nx (by omega) (by omega)).trans k4
    have kc := (hfr h.nx (by omega) (by omega)).trans k24
    have hrd := ptC_rd kp hj20
    have hpl := prU_len hm j hj
    obtain ⟨x, hx⟩ : ∃ x, (vl c)[j]? = some x := ⟨_, List.getElem?_eq_getElem (by rw [vl_len]; exact hj20)⟩
    have hxd : (vl c).getD j 0 = x := by rw [List.getD_eq_getElem?_getD, hx]; rfl
    obtain ⟨hb1, hb2⟩ := may_b hm j x hx
    have hsl := shown_len (k := j) hb1
    have hnml : (nmB.getD j []).length ≤ 20 := by
      rw [List.getD_eq_getElem?_getD, List.getElem?_eq_getElem (show j < nmB.length from hj20)]
      exact nm_len _ (List.getElem_mem _)
    repeat (first | refine sS ?_ | refine sE ?_ | (refine is_ldn ?_; refine w_ldn rfl (by first | exact rd_all ‹_› rfl | exact rd_newn rfl | assumption) ?_) | (refine w_cmp (c2 := true) rfl ?_ ?_; focus (first | exact decide_eq_true (by omega) | (simp; done) | (simp; omega))) | (refine w_iad rfl ?_ ?_; focus (first | omega | (simp; done) | (simp; omega))) | refine ai_seq ?_ | refine ai_regW ?_ | refine ai_condF (b := true) rfl (fun _ => ?_) (fun hb => by cases hb) | refine ai_skip ?_ | refine ai_block ?_)
    refine w_new fun g5 x5 k5 n5 => ?_
    repeat (first | refine sSn ?_)
    refine w_stN rfl rfl k5 rfl rfl fun g6 m6 k6 n6 => ?_
    have x56 : Ext g g6 := x5.own m6 n6
    have b6 := b.ext x56
    have hn5 := x5.1
    repeat (first | refine sS ?_ | refine sE ?_ | (refine is_okn rfl ?_; refine w_op rfl ?_) | (refine is_ld ?_; refine w_ld rfl (by first | exact rd_g ‹_› rfl | exact rd_new rfl | assumption) ?_) | refine ai_seq ?_ | refine ai_regW ?_)
    refine w_catB (a := nmB.getD j []) (b := [58, 32]) rfl (by simp only [List.length_cons, List.length_nil]; omega) ?_
    repeat (first | refine sS ?_)
    refine w_call rfl ((wstr_ok (s := nmB.getD j [] ++ [58, 32]) b6 (by simp) (by rw [List.length_append]; simp only [List.length_cons, List.length_nil]; omega)).mono ?_)
    rintro _ g7 ⟨b7, hn7, f7⟩
    have hbuf : ∀ q, q < g.nx → q < g4.nx → bufN g6 g2.nx ≠ some q := fun q h1 h2 e => by have := b6.buf e; omega
    have hbe : bufN g6 g2.nx = bufN g g2.nx := bufN_of (x56.2 _ (by omega))
    have hbp : bufN g6 g2.nx ≠ some g.nx := fun e => by rw [hbe] at e; have := b.buf e; omega
    have k7 := (f7 g.nx (by omega) (by omega) hbp).trans k6
    have kc7 := (f7 h.nx (by omega) (by omega) (hbuf _ (by omega) (by omega))).trans ((x56.2 _ (by omega)).trans kc)
    have hrx := rd_g (o := j) kc7 (v := nI x) (by show (cs20 c)[j]? = _; rw [cs_vl, List.getElem?_map, hx]; rfl)
    have fin : ∀ g8, BLD g4.nx g8 g2.nx ((prU (vl c) j ++ (nmB.getD j [] ++ [58, 32])) ++ (shownF j x ++ [10])) → g7.nx ≤ g8.nx → (∀ q, q < g7.nx → q ≠ g2.nx → bufN g7 g2.nx ≠ some q → g8.get q = g7.get q) →
        (j + 1 ≤ 20 ∧ BLD g4.nx g8 g2.nx (prU (vl c) (j + 1)) ∧ g4.nx ≤ g8.nx ∧ ∀ q, q < g4.nx → q ≠ g2.nx → g8.get q = g4.get q) := by
      intro g8 b8 hn8 f8
      refine ⟨by omega, ?_, by omega, fun q h1 h2 => ?_⟩
      · unfold prU
        rw [hxd, ← List.append_assoc]
        exact b8
      · refine (f8 q (by omega) h2 (fun e => by have := b7.buf e; omega)).trans ((f7 q (by omega) h2 (hbuf q (by omega) h1)).trans ((x56.2 q (by omega)).trans (hfr q h1 h2)))
    cases ht : thinK j
    · rw [ht] at k7
      have hsh : shownF j x = Go.Lib.itoa x := by unfold shownF; rw [ht]; rfl
      rw [hsh] at hsl fin
      repeat (first | refine sS ?_ | refine sE ?_ | refine w_mv rfl ?_ | (refine is_okn rfl ?_; refine w_op rfl ?_) | refine w_ext rfl rfl ?_ | (refine is_ld ?_; refine w_ld rfl (by first | exact rd_g ‹_› rfl | exact rd_new rfl | assumption) ?_) | refine ai_seq ?_ | refine ai_regW ?_ | refine ai_condF (b := false) rfl (fun hb => by cases hb) (fun _ => ?_) | refine ai_skip ?_)
      refine w_call rfl ((itoa_br ⟨by omega, by omega⟩ _).mono ?_)
      rintro _ _ ⟨rfl, rfl⟩
      repeat (first | refine sS ?_)
      refine w_catB (a := Go.Lib.itoa x) (b := [10]) rfl (by simp only [List.length_cons, List.length_nil]; omega) ?_
      repeat (first | refine sS ?_)
      refine w_call rfl ((wstr_ok (s := Go.Lib.itoa x ++ [10]) b7 (by simp) (by simp only [List.length_append, List.length_cons, List.length_nil]; omega)).mono ?_)
      rintro _ g8 ⟨b8, hn8, f8⟩
      repeat (first | refine sS ?_ | refine sE ?_ | refine w_mv rfl ?_ | (refine w_add rfl ?_ ?_; (focus omega)) | refine ai_regW ?_)
      exact ⟨j + 1, (by repeat (first | exact le_nil | refine le_consF rfl ?_)), fin g8 b8 hn8 f8, by dsimp only; omega⟩
    · rw [ht] at k7
      have hsh : shownF j x = showF x := by unfold shownF; rw [ht]; rfl
      rw [hsh] at hsl fin
      repeat (first | refine sS ?_ | refine sE ?_ | refine w_mv rfl ?_ | (refine is_okn rfl ?_; refine w_op rfl ?_) | refine w_ext rfl rfl ?_ | (refine is_ld ?_; refine w_ld rfl (by first | exact rd_g ‹_› rfl | exact rd_new rfl | assumption) ?_) | refine ai_seq ?_ | refine ai_regW ?_ | refine ai_condF (b := true) rfl (fun _ => ?_) (fun hb => by cases hb))
      refine w_call rfl ((show_ok ⟨by omega, by omega⟩ _).mono ?_)
      rintro _ _ ⟨rfl, rfl⟩
      repeat (first | refine sS ?_)
      refine w_catB (a := showF x) (b := [10]) rfl (by simp only [List.length_cons, List.length_nil]; omega) ?_
      repeat (first | refine sS ?_)
      refine w_call rfl ((wstr_ok (s := showF x ++ [10]) b7 (by simp) (by simp only [List.length_append, List.length_cons, List.length_nil]; omega)).mono ?_)
      rintro _ g8 ⟨b8, hn8, f8⟩
      repeat (first | refine sS ?_ | refine sE ?_ | refine w_mv rfl ?_ | (refine w_add rfl ?_ ?_; (focus omega)) | refine ai_regW ?_ | refine ai_exit ?_)
      exact ⟨j + 1, (by repeat (first | exact le_nil | refine le_consF rfl ?_)), fin g8 b8 hn8 f8, by dsimp only; omega⟩
  · obtain rfl : j = 20 := by omega
    have hpl := prU_len hm 20 (Nat.le_refl _)
    repeat (first | refine sS ?_ | refine sE ?_ | (refine w_cmp (c2 := false) rfl ?_ ?_; focus (first | exact decide_eq_false (by omega) | (simp; done) | (simp; omega))) | refine ai_seq ?_ | refine ai_regW ?_ | refine ai_condF (b := false) rfl (fun hb => by cases hb) (fun _ => ?_) | refine ai_exit ?_)
    refine w_call rfl ((str_ok b (by omega)).mono ?_)
    rintro _ g5 ⟨rfl, hn5, f5⟩
    repeat (first | refine sS ?_ | refine sE ?_ | refine w_mv rfl ?_ | (refine ai_ret ?_; repeat (first | rw [thenQ_r] | rw [blockQ_r] | rw [roundE_r])))
    exact ⟨_, rfl, rfl, by have := x04.1; omega, fun q hq => (f5 q (by have := x04.1; omega)).trans ((hfr q (by have := x04.1; omega) (by omega)).trans (x04.2 q hq))⟩
end Go.Proofs.YtapbmmlgmcmpnaaDoorW.Am
/- Texts: what the program tells of a few. -/
namespace Go.Proofs.YtapbmmlgmcmpnaaDoorW.Am
open Go Go.RowKit
/-- The digits of a number, by so many steps. -/
def decFu : Nat → Nat → List UInt8
  | 0, _ => []
  | k + 1, n => match Nat.ble n 9 with
    | true => [UInt8.ofNat (48 + n)]
    | false => decFu k (n / 10) ++ [UInt8.ofNat (48 + n % 10)]
theorem ble_t {n : Nat} (h : n ≤ 9) : Nat.ble n 9 = true := Nat.ble_eq_true_of_le h
theorem ble_f {n : Nat} (h : 9 < n) : Nat.ble n 9 = false := by
  cases hb : Nat.ble n 9
  · rfl
  · have := Nat.le_of_ble_eq_true hb; omega
theorem dec_fu : ∀ (k n : Nat), n < 10 ^ (k + 1) → Go.Lib.decDigits n = decFu (k + 1) n
  | 0, n, h => by
    rw [decd_small (by omega)]
    unfold decFu
    rw [ble_t (by omega)]
  | k + 1, n, h => by
    unfold decFu
    by_cases h9 : 9 < n
    · rw [decd_big h9, dec_fu k (n / 10) (by rw [Nat.pow_succ] at h; omega), ble_f h9]
    · rw [decd_small h9, ble_t (by omega)]
def itoaFu (n : Int) : List UInt8 := if n < 0 then 45 :: decFu 20 n.natAbs else decFu 20 n.toNat
theorem itoa_fu {n : Int} (h : I64 n) : Go.Lib.itoa n = itoaFu n := by
  unfold Go.Lib.itoa itoaFu
  obtain ⟨h1, h2⟩ := h
  split
  · rw [dec_fu 19 _ (by omega)]
  · rw [dec_fu 19 _ (by omega)]
def showFu (n : Int) : List UInt8 := ((if n < 0 then [45] else []) ++ itoaFu (absB n / 1000)) ++ (if absB n % 1000 = 0 then [] else 46 :: Go.Lib.trimRightB ((itoaFu (1000 + absB n % 1000)).drop 1) 48)
theorem show_fu {n : Int} (h : I64 n) : showF n = showFu n := by
  obtain ⟨h1, h2⟩ := h
  have ha : 0 ≤ absB n ∧ absB n ≤ 9223372036854775807 := by
    unfold absB
    split <;> omega
  unfold showF showFu fracB
  rw [itoa_fu (n := absB n / 1000) ⟨by omega, by omega⟩, itoa_fu (n := 1000 + absB n % 1000) ⟨by omega, by omega⟩]
def dflt : Cf20 := ⟨10000, 700, 60, 6, 1, 2000, 10000, 2000, 0, 0, 1, 30, 0, 20000, 10, 100, 60, 3, 0, 0⟩
def tc1 : Cf20 := ⟨5500, 700, 60, 6, 1, 2000, 10000, 2000, 2, 0, 1, 30, 0, 20000, 10, 100, 60, 3, 0, 0⟩
theorem t_n1 : numF [45, 49, 46, 48, 53] = some (-1050) := by kernel_rfl
theorem t_n2 : numF [49, 46] = none := by kernel_rfl
theorem t_n3 : numF [49, 50, 51, 52, 53, 54, 55, 56, 57, 48] = none := by kernel_rfl
theorem t_p1 : parseF setF dflt [35, 32, 120, 10, 32, 32, 116, 97, 114, 103, 101, 116, 58, 32, 53, 46, 53, 32, 10, 10, 109, 105, 110, 58, 32, 50] = (tc1, 0, 0) := by kernel_rfl
theorem t_p2 : parseF setF tc1 [109, 105, 110, 58, 32, 50, 10, 109, 105, 110, 58, 32, 51] = (tc1, 4, 2) := by kernel_rfl
theorem t_p3 : parseF setF tc1 [117, 112, 58, 32, 48, 46, 53] = (tc1, 5, 0) := by kernel_rfl
theorem t_p4 : parseF setF tc1 [103, 114, 97, 99, 101, 58, 32, 48, 48, 48, 48, 48, 48, 55] = (tc1, 4, 1) := by kernel_rfl
theorem t_p5 : parseF setF tc1 [9, 109, 105, 110, 58, 32, 50] = (tc1, 4, 1) := by kernel_rfl
theorem t_p6 : parseF setF tc1 [109, 105, 110, 58, 32, 50, 32, 35, 32, 120] = (tc1, 4, 1) := by kernel_rfl
theorem t_s1 : showF 1500 = [49, 46, 53] := (show_fu ⟨by decide, by decide⟩).trans (by kernel_rfl)
theorem t_s2 : showF (-50) = [45, 48, 46, 48, 53] := (show_fu ⟨by decide, by decide⟩).trans (by kernel_rfl)
theorem t_s3 : showF 0 = [48] := (show_fu ⟨by decide, by decide⟩).trans (by kernel_rfl)
theorem prU_pre (l : List Int) : ∀ k j, ∃ r, prU l (j + k) = prU l j ++ r
  | 0, j => ⟨[], by simp⟩
  | k + 1, j => by
    obtain ⟨r, hr⟩ := prU_pre l k j
    exact ⟨r ++ ((nmB.getD (j + k) [] ++ [58, 32]) ++ (shownF (j + k) (l.getD (j + k) 0) ++ [10])), by rw [← Nat.add_assoc, prU, hr, List.append_assoc]⟩
theorem t_pr : ∃ r, printF tc1 = ([116, 97, 114, 103, 101, 116, 58, 32, 53, 46, 53, 10] ++ (117 :: 116 :: r), 0) := by
  have hm : mayB tc1 = true := by kernel_rfl
  obtain ⟨r, hr⟩ := prU_pre (vl tc1) 18 2
  have h2 : prU (vl tc1) 2 = [116, 97, 114, 103, 101, 116, 58, 32, 53, 46, 53, 10] ++ (117 :: 116 :: ([105, 108, 58, 32] ++ (showF 700 ++ [10]))) := by
    have h1 : prU (vl tc1) 1 = [116, 97, 114, 103, 101, 116, 58, 32, 53, 46, 53, 10] := by
      show [] ++ ((nmB.getD 0 [] ++ [58, 32]) ++ (showF 5500 ++ [10])) = _
      rw [show_fu ⟨by decide, by decide⟩]
      kernel_rfl
    show prU (vl tc1) 1 ++ ((nmB.getD 1 [] ++ [58, 32]) ++ (showF 700 ++ [10])) = _
    rw [h1]
    rfl
  refine ⟨([105, 108, 58, 32] ++ (showF 700 ++ [10])) ++ r, ?_⟩
  unfold printF
  rw [hm, if_pos rfl]
  congr 1
  rw [show (20 : Nat) = 2 + 18 from rfl, hr, h2]
  simp
set_option maxRecDepth 10000 in
set_option maxHeartbeats 4000000 in
theorem told_ok (h : Hp) : ACall PX 11 [] h (fun v g => v = .bool true ∧ Ext h g) := by
  refine acall Go.Proofs.Tryd.func11 c11 (by simp [ir11]) ?_
  unfold ir11
  dsimp only
  have n1 := fun g => number_ok [45, 49, 46, 48, 53] (by decide) g
  have n2 := fun g => number_ok [49, 46] (by decide) g
  have n3 := fun g => number_ok [49, 50, 51, 52, 53, 54, 55, 56, 57, 48] (by decide) g
  simp only [t_n1, t_n2, t_n3] at n1 n2 n3
  repeat (first | refine sS ?_ | refine sE ?_ | refine w_mv rfl ?_ | refine w_ext rfl rfl ?_ | (refine w_call rfl ((n1 _).mono ?_); rintro _ _ ⟨rfl, rfl⟩) | (refine w_call rfl ((n2 _).mono ?_); rintro _ _ ⟨rfl, rfl⟩) | refine ai_seq ?_ | refine ai_regW ?_)
  have s1 := fun g => show_ok (n := 1500) ⟨by decide, by decide⟩ g
  have s2 := fun g => show_ok (n := -50) ⟨by decide, by decide⟩ g
  have s3 := fun g => show_ok (n := 0) ⟨by decide, by decide⟩ g
  simp only [t_s1, t_s2, t_s3] at s1 s2 s3
  refine w_call rfl ((default_ok _).mono ?_)
  rintro _ g1 ⟨rfl, x1⟩
  repeat (first | refine sS ?_)
  have p1 := fun g => tparse_ok dflt [35, 32, 120, 10, 32, 32, 116, 97, 114, 103, 101, 116, 58, 32, 53, 46, 53, 32, 10, 10, 109, 105, 110, 58, 32, 50] (by decide) g
  simp only [t_p1] at p1
  refine w_call rfl ((p1 _).mono ?_)
  rintro _ a1 ⟨rfl, ax1⟩
  repeat (first | refine sS ?_ | refine w_mv rfl ?_ | refine w_ext rfl rfl ?_)
  refine w_new fun b1 bx1 bk1 bm1 => ?_
  repeat (first | refine sSn ?_)
  refine w_stN rfl rfl bk1 rfl rfl fun c1 cq1 ck1 cm1 => ?_
  have y1 : Ext g1 c1 := (ax1.trans bx1).own' cq1 cm1 (by have := ax1.1; omega)
  have z1 : Ext h c1 := x1.trans y1
  have hc1 : a1.nx < c1.nx := by omega
  repeat (first | refine sS ?_ | refine sE ?_ | refine w_mv rfl ?_ | (refine is_ldn ?_; refine w_ldn rfl (by first | exact rd_all ‹_› rfl | exact rd_newn rfl | assumption) ?_) | refine ai_seq ?_ | refine ai_regW ?_)
  have p2 := fun g => tparse_ok tc1 [109, 105, 110, 58, 32, 50, 10, 109, 105, 110, 58, 32, 51] (by decide) g
  simp only [t_p2] at p2
  refine w_call rfl ((p2 _).mono ?_)
  rintro _ a2 ⟨rfl, ax2⟩
  repeat (first | refine sS ?_ | refine w_mv rfl ?_ | refine w_ext rfl rfl ?_)
  refine w_new fun b2 bx2 bk2 bm2 => ?_
  repeat (first | refine sSn ?_)
  refine w_stN rfl rfl bk2 rfl rfl fun c2 cq2 ck2 cm2 => ?_
  have y2 : Ext c1 c2 := (ax2.trans bx2).own' cq2 cm2 (by have := ax2.1; omega)
  have e2 := (y2.2 _ hc1).trans ck1
  have l2 : a1.nx < c2.nx := Nat.lt_of_lt_of_le hc1 y2.1
  repeat (first | refine sS ?_ | refine sE ?_ | refine w_mv rfl ?_ | (refine is_ldn ?_; refine w_ldn rfl (by first | exact rd_all ‹_› rfl | exact rd_newn rfl | assumption) ?_) | refine ai_seq ?_ | refine ai_regW ?_)
  have p3 := fun g => tparse_ok tc1 [117, 112, 58, 32, 48, 46, 53] (by decide) g
  simp only [t_p3] at p3
  refine w_call rfl ((p3 _).mono ?_)
  rintro _ a3 ⟨rfl, ax3⟩
  repeat (first | refine sS ?_ | refine w_mv rfl ?_ | refine w_ext rfl rfl ?_)
  refine w_new fun b3 bx3 bk3 bm3 => ?_
  repeat (first | refine sSn ?_)
  refine w_stN rfl rfl bk3 rfl rfl fun c3 cq3 ck3 cm3 => ?_
  have y3 : Ext c2 c3 := (ax3.trans bx3).own' cq3 cm3 (by have := ax3.1; omega)
  have e3 := (y3.2 _ l2).trans e2
  have l3 : a1.nx < c3.nx := Nat.lt_of_lt_of_le l2 y3.1
  have hc3 : a3.nx < c3.nx := by omega
  repeat (first | refine sS ?_ | refine sE ?_ | refine w_mv rfl ?_ | (refine is_ldn ?_; refine w_ldn rfl (by first | exact rd_all ‹_› rfl | exact rd_newn rfl | assumption) ?_) | refine ai_seq ?_ | refine ai_regW ?_)
  obtain ⟨pr, hpr⟩ := t_pr
  have pp := fun g => print_ok tc1 g
  simp only [hpr] at pp
  refine w_call rfl ((pp _).mono ?_)
  rintro _ g5 ⟨rfl, x5⟩
  have e5 := (x5.2 _ l3).trans e3
  have l5 : a1.nx < g5.nx := Nat.lt_of_lt_of_le l3 x5.1
  have d5 := (x5.2 _ hc3).trans ck3
  have m5 : a3.nx < g5.nx := Nat.lt_of_lt_of_le hc3 x5.1
  repeat (first | refine sS ?_ | refine sE ?_ | refine w_mv rfl ?_ | refine w_ext rfl rfl ?_ | (refine is_ldn ?_; refine w_ldn rfl (by first | exact rd_all ‹_› rfl | exact rd_newn rfl | assumption) ?_) | (refine w_call rfl ((n3 _).mono ?_); rintro _ _ ⟨rfl, rfl⟩) | refine ai_seq ?_ | refine ai_regW ?_)
  have p4 := fun g => tparse_ok tc1 [103, 114, 97, 99, 101, 58, 32, 48, 48, 48, 48, 48, 48, 55] (by decide) g
  simp only [t_p4] at p4
  refine w_call rfl ((p4 _).mono ?_)
  rintro _ a4 ⟨rfl, ax4⟩
  repeat (first | refine sS ?_ | refine w_mv rfl ?_ | refine w_ext rfl rfl ?_)
  refine w_new fun b4 bx4 bk4 bm4 => ?_
  repeat (first | refine sSn ?_)
  refine w_stN rfl rfl bk4 rfl rfl fun c4 cq4 ck4 cm4 => ?_
  have y4 : Ext g5 c4 := (ax4.trans bx4).own' cq4 cm4 (by have := ax4.1; omega)
  have e6 := (y4.2 _ l5).trans e5
  have l6 : a1.nx < c4.nx := Nat.lt_of_lt_of_le l5 y4.1
  have d6 := (y4.2 _ m5).trans d5
  have m6 : a3.nx < c4.nx := Nat.lt_of_lt_of_le m5 y4.1
  repeat (first | refine sS ?_ | refine sE ?_ | refine w_mv rfl ?_ | (refine is_ldn ?_; refine w_ldn rfl (by first | exact rd_all ‹_› rfl | exact rd_newn rfl | assumption) ?_) | refine ai_seq ?_ | refine ai_regW ?_)
  have p5 := fun g => tparse_ok tc1 [9, 109, 105, 110, 58, 32, 50] (by decide) g
  simp only [t_p5] at p5
  refine w_call rfl ((p5 _).mono ?_)
  rintro _ a5 ⟨rfl, ax5⟩
  repeat (first | refine sS ?_ | refine w_mv rfl ?_ | refine w_ext rfl rfl ?_)
  refine w_new fun b5 bx5 bk5 bm5 => ?_
  repeat (first | refine sSn ?_)
  refine w_stN rfl rfl bk5 rfl rfl fun c5 cq5 ck5 cm5 => ?_
  have y5 : Ext c4 c5 := (ax5.trans bx5).own' cq5 cm5 (by have := ax5.1; omega)
  have e7 := (y5.2 _ l6).trans e6
  have l7 : a1.nx < c5.nx := Nat.lt_of_lt_of_le l6 y5.1
  have d7 := (y5.2 _ m6).trans d6
  have m7 : a3.nx < c5.nx := Nat.lt_of_lt_of_le m6 y5.1
  repeat (first | refine sS ?_ | refine sE ?_ | refine w_mv rfl ?_ | (refine is_ldn ?_; refine w_ldn rfl (by first | exact rd_all ‹_› rfl | exact rd_newn rfl | assumption) ?_) | refine ai_seq ?_ | refine ai_regW ?_)
  have p6 := fun g => tparse_ok tc1 [109, 105, 110, 58, 32, 50, 32, 35, 32, 120] (by decide) g
  simp only [t_p6] at p6
  refine w_call rfl ((p6 _).mono ?_)
  rintro _ a6 ⟨rfl, ax6⟩
  repeat (first | refine sS ?_ | refine w_mv rfl ?_ | refine w_ext rfl rfl ?_)
  refine w_new fun b6 bx6 bk6 bm6 => ?_
  repeat (first | refine sSn ?_)
  refine w_stN rfl rfl bk6 rfl rfl fun c6 cq6 ck6 cm6 => ?_
  have y6 : Ext c5 c6 := (ax6.trans bx6).own' cq6 cm6 (by have := ax6.1; omega)
  have e8 := (y6.2 _ l7).trans e7
  have l8 : a1.nx < c6.nx := Nat.lt_of_lt_of_le l7 y6.1
  have d8 := (y6.2 _ m7).trans d7
  have m8 : a3.nx < c6.nx := Nat.lt_of_lt_of_le m7 y6.1
  repeat (first | refine sS ?_ | refine sE ?_ | refine w_mv rfl ?_ | refine w_pickT rfl ?_ | (refine is_okn rfl ?_; refine w_op rfl ?_) | refine w_gT rfl rfl ?_ | (refine is_ld ?_; refine w_ld rfl (by first | exact rd_g ‹_› rfl | exact rd_new rfl | assumption) ?_) | (refine w_cmp (c2 := true) rfl ?_ ?_; focus (first | exact decide_eq_true (by omega) | (simp; done) | (simp; omega))) | (refine w_call rfl ((s1 _).mono ?_); rintro _ _ ⟨rfl, rfl⟩) | (refine w_call rfl ((s2 _).mono ?_); rintro _ _ ⟨rfl, rfl⟩) | (refine w_call rfl ((s3 _).mono ?_); rintro _ _ ⟨rfl, rfl⟩) | refine ai_seq ?_ | refine ai_regW ?_)
  refine w_cmp (c2 := true) rfl rfl ?_
  repeat (first | refine sS ?_ | refine w_mv rfl ?_ | refine w_pickT rfl ?_ | (refine is_okn rfl ?_; refine w_op rfl ?_) | refine w_gT rfl rfl ?_ | (refine is_ld ?_; refine w_ld rfl (by first | exact rd_g ‹_› rfl | exact rd_new rfl | assumption) ?_))
  refine w_cmp (c2 := true) rfl rfl ?_
  repeat (first | refine sS ?_ | refine w_mv rfl ?_ | refine w_pickT rfl ?_ | refine w_gT rfl rfl ?_ | (refine is_ldn ?_; refine w_ldn rfl (by first | exact rd_all ‹_› rfl | exact rd_newn rfl | assumption) ?_) | (refine w_cmp (c2 := true) rfl ?_ ?_; focus (first | exact decide_eq_true (by omega) | (simp; done) | (simp; omega))))
  refine w_eqS rfl rfl (ks := List.replicate 20 (.int .i64)) (by kernel_rfl) rfl rfl ?_
  intro bb hbb
  obtain rfl : bb = true := hbb.2 rfl
  repeat (first | refine sS ?_ | refine w_mv rfl ?_ | refine w_pickT rfl ?_ | (refine is_okn rfl ?_; refine w_op rfl ?_) | refine w_gT rfl rfl ?_ | (refine w_cmp (c2 := true) rfl ?_ ?_; focus (first | exact decide_eq_true (by omega) | (simp; done) | (simp; omega))))
  have hzr := sz_mk ([116, 97, 114, 103, 101, 116, 58, 32, 53, 46, 53, 10] ++ (117 :: 116 :: pr))
  rw [List.length_append, List.length_cons, List.length_cons] at hzr
  refine w_cmp (c2 := true) rfl (by rw [hzr]; exact decide_eq_true (by simp; omega)) ?_
  repeat (first | refine sS ?_ | refine w_mv rfl ?_ | refine w_pickT rfl ?_ | refine w_gT rfl rfl ?_)
  refine w_slsP (l := [116, 97, 114, 103, 101, 116, 58, 32, 53, 46, 53, 10] ++ (117 :: 116 :: pr)) (i := 12) rfl (by simp) ?_
  repeat (first | refine sS ?_ | refine sE ?_ | refine w_mv rfl ?_ | refine w_pickT rfl ?_ | refine w_gT rfl rfl ?_ | (refine w_cmp (c2 := true) rfl ?_ ?_; focus (first | exact decide_eq_true (by omega) | (simp; done) | (simp; omega))) | (refine ai_ret ?_; repeat (first | rw [thenQ_r] | rw [blockQ_r] | rw [roundE_r])))
  exact end_one rfl ⟨rfl, (((((z1.trans y2).trans y3).trans x5).trans y4).trans y5).trans y6⟩
end Go.Proofs.YtapbmmlgmcmpnaaDoorW.Am
/- Texts: the law TextBlanks. -/
namespace Go.Proofs.YtapbmmlgmcmpnaaDoorW.Am
open Go Go.RowKit
theorem u64_r (x : Int) : 0 ≤ IntKind.u64.wrap x ∧ IntKind.u64.wrap x ≤ 18446744073709551615 := by
  have : IntKind.u64.wrap x = x % 18446744073709551616 := rfl
  omega
theorem lines_cons {ln : List UInt8} (t : List UInt8) (h : ∀ b ∈ ln, b ≠ 10) : linesL (ln ++ 10 :: t) = ln :: linesL t := by
  have h1 : (ln ++ 10 :: t)[ln.length]? = some 10 := by simp
  have h2 := lines_at (ln ++ 10 :: t) ln.length h1 (fun q hq => by
    rw [List.getElem?_append_left hq, List.getElem?_eq_getElem hq]
    exact fun e => h _ (List.getElem_mem hq) (Option.some.inj e))
  rw [h2]
  simp
theorem parse_skip (S : Nat → List UInt8 → Option Int) {ln : List UInt8} (hb : blankB (Go.Lib.trimB ln 32) = true) (R : List (List UInt8)) (v : List Int) (was : List Nat) : ∀ (n i : Nat), parseL S (List.replicate n ln ++ R) i v was = parseL S R (i + n) v was
  | 0, i => rfl
  | n + 1, i => by
    rw [List.replicate_succ, List.cons_append]
    show (if blankB (Go.Lib.trimB ln 32) = true then parseL S (List.replicate n ln ++ R) (i + 1) v was else _) = _
    rw [if_pos hb, parse_skip S hb R v was n (i + 1)]
    congr 1
    omega
def blk1 : List UInt8 := [32, 32, 32]
def blk2 : List UInt8 := [32, 35, 32, 109, 105, 110, 58, 32, 57]
def repS (n : Nat) (l : List UInt8) : List UInt8 := (List.replicate n (l ++ [10])).flatten
theorem repS_succ (n : Nat) (l : List UInt8) : repS (n + 1) l = repS n l ++ (l ++ [10]) := by
  unfold repS
  rw [List.replicate_succ', List.flatten_append]
  simp
theorem repS_len (n : Nat) (l : List UInt8) : (repS n l).length = n * (l.length + 1) := by
  unfold repS
  simp
theorem lines_rep {l : List UInt8} (h : ∀ b ∈ l, b ≠ 10) (t : List UInt8) : ∀ n, linesL (repS n l ++ t) = List.replicate n l ++ linesL t
  | 0 => rfl
  | n + 1 => by
    have e : repS (n + 1) l ++ t = l ++ 10 :: (repS n l ++ t) := by
      unfold repS
      rw [List.replicate_succ]
      simp
    rw [e, lines_cons _ h, lines_rep h t n, List.replicate_succ]
    rfl
theorem blk_lines (x y : Nat) (t : List UInt8) : linesL ((repS x blk1 ++ repS y blk2) ++ t) = List.replicate x blk1 ++ (List.replicate y blk2 ++ linesL t) := by
  rw [List.append_assoc, lines_rep (by decide), lines_rep (by decide)]
theorem blk_parse (x y : Nat) (t : List UInt8) (v : List Int) : parseL setF (linesL ((repS x blk1 ++ repS y blk2) ++ t)) 0 v [] = parseL setF (linesL t) (0 + x + y) v [] := by
  rw [blk_lines, parse_skip setF (by kernel_rfl), parse_skip setF (by kernel_rfl)]
def min3 : Cf20 := { dflt with min := 3 }
theorem blk_p1 (x y : Nat) : parseF setF dflt ((repS x blk1 ++ repS y blk2) ++ [32, 32, 109, 105, 110, 58, 32, 51, 32, 32, 32]) = (min3, 0, 0) := by
  unfold parseF
  rw [blk_parse]
  kernel_rfl
theorem blk_p2 (x y : Nat) : parseF setF dflt ((repS x blk1 ++ repS y blk2) ++ [109, 105, 110, 58, 32, 51, 10, 109, 105, 110, 32, 52]) = (dflt, 4, ((0 + x + y + 1 + 1 : Nat) : Int)) := by
  unfold parseF
  rw [blk_parse]
  kernel_rfl
set_option maxHeartbeats 2000000 in
theorem tblanks_ok (a b : Int) (h : Hp) : ACall PX 3 [nI a, nI b] h (fun v _ => v = .bool true) := by
  have ha := u64_r a
  have hb := u64_r b
  obtain ⟨X, hX⟩ : ∃ X : Nat, IntKind.u64.wrap a % 10 = (X : Int) := ⟨(IntKind.u64.wrap a % 10).toNat, by omega⟩
  obtain ⟨Y, hY⟩ : ∃ Y : Nat, IntKind.u64.wrap b % 10 = (Y : Int) := ⟨(IntKind.u64.wrap b % 10).toNat, by omega⟩
  have hX9 : X ≤ 9 := by omega
  have hY9 : Y ≤ 9 := by omega
  refine acall Go.Proofs.Tryd.func3 c3 (by simp [ir3]) ?_
  unfold ir3
  dsimp only
  refine ai_seq ?_
  repeat (first | refine sS ?_ | refine sE ?_ | refine w_mv rfl ?_ | refine ai_regW ?_)
  refine ai_seq ?_
  repeat (first | refine sS ?_ | refine sE ?_ | refine w_mv rfl ?_ | (refine w_ci rfl ?_ ?_; (focus omega)) | (refine w_rem rfl ?_ ?_ ?_; (focus omega); (focus omega)) | refine w_cuw rfl ?_ | refine ai_regW ?_)
  rw [hX, hY]
  refine ai_seq ?_
  repeat (first | refine sS ?_ | refine sE ?_ | refine w_mv rfl ?_ | refine ai_regW ?_)
  refine ai_join (γ := Unit) (fun _ => [(5, nI X), (6, nI Y), (7, bs (repS X blk1))]) (fun _ g => h = g) ?_ ?_
  · repeat (first | refine sS ?_ | refine sE ?_ | refine w_mv rfl ?_ | refine ai_seq ?_ | refine ai_regW ?_ | refine ai_block ?_)
    refine ai_loopE (γ := Nat) (fun i => [(5, nI X), (6, nI Y), (7, bs (repS i blk1)), (8, nI i)]) (fun i g => h = g ∧ i ≤ X) (fun i => X - i) 0
      (by repeat (first | exact le_nil | refine le_consF rfl ?_)) ⟨rfl, Nat.zero_le _⟩ ?_
    rintro i _ ⟨rfl, hi⟩
    have hl := repS_len i blk1
    have hbl : blk1.length = 3 := rfl
    rw [hbl] at hl
    by_cases hiX : i < X
    · repeat (first | refine sS ?_ | refine sE ?_ | refine w_mv rfl ?_ | (refine w_cmp (c2 := true) rfl ?_ ?_; focus (first | exact decide_eq_true (by omega) | (simp; done) | (simp; omega))) | refine ai_seq ?_ | refine ai_regW ?_ | refine ai_condF (b := true) rfl (fun _ => ?_) (fun hb => by cases hb) | refine ai_skip ?_ | refine ai_block ?_)
      refine w_catB (b := blk1 ++ [10]) rfl (by rw [hl]; simp [blk1]; omega) ?_
      rw [← repS_succ]
      repeat (first | refine sS ?_ | refine sE ?_ | refine w_mv rfl ?_ | (refine w_add rfl ?_ ?_; (focus omega)) | refine ai_regW ?_)
      exact ⟨i + 1, (by repeat (first | exact le_nil | refine le_consF rfl ?_)), ⟨rfl, by omega⟩, by dsimp only; omega⟩
    · obtain rfl : i = X := by omega
      repeat (first | refine sS ?_ | refine sE ?_ | refine w_mv rfl ?_ | (refine w_cmp (c2 := false) rfl ?_ ?_; focus (first | exact decide_eq_false (by omega) | (simp; done) | (simp; omega))) | refine ai_seq ?_ | refine ai_regW ?_ | refine ai_condF (b := false) rfl (fun hb => by cases hb) (fun _ => ?_) | refine ai_exit ?_)
      exact ⟨rfl, (), (by repeat (first | exact le_nil | refine le_consF rfl ?_)), rfl⟩
  rintro _ _ rfl
  refine ai_join (γ := Unit) (fun _ => [(5, nI X), (6, nI Y), (7, bs (repS X blk1 ++ repS Y blk2))]) (fun _ g => h = g) ?_ ?_
  · repeat (first | refine sS ?_ | refine sE ?_ | refine w_mv rfl ?_ | refine ai_seq ?_ | refine ai_regW ?_ | refine ai_block ?_)
    refine ai_loopE (γ := Nat) (fun i => [(5, nI X), (6, nI Y), (7, bs (repS X blk1 ++ repS i blk2)), (9, nI i)]) (fun i g => h = g ∧ i ≤ Y) (fun i => Y - i) 0
      (by rw [show repS X blk1 ++ repS 0 blk2 = repS X blk1 from List.append_nil _]; exact (by repeat (first | exact le_nil | refine le_consF rfl ?_))) ⟨rfl, Nat.zero_le _⟩ ?_
    rintro i _ ⟨rfl, hi⟩
    have hl := repS_len X blk1
    have hl2 := repS_len i blk2
    have hbl : blk1.length = 3 := rfl
    have hbl2 : blk2.length = 9 := rfl
    rw [hbl] at hl
    rw [hbl2] at hl2
    by_cases hiX : i < Y
    · repeat (first | refine sS ?_ | refine sE ?_ | refine w_mv rfl ?_ | (refine w_cmp (c2 := true) rfl ?_ ?_; focus (first | exact decide_eq_true (by omega) | (simp; done) | (simp; omega))) | refine ai_seq ?_ | refine ai_regW ?_ | refine ai_condF (b := true) rfl (fun _ => ?_) (fun hb => by cases hb) | refine ai_skip ?_ | refine ai_block ?_)
      refine w_catB (b := blk2 ++ [10]) rfl (by rw [List.length_append, hl, hl2]; simp [blk2]; omega) ?_
      rw [List.append_assoc, ← repS_succ]
      repeat (first | refine sS ?_ | refine sE ?_ | refine w_mv rfl ?_ | (refine w_add rfl ?_ ?_; (focus omega)) | refine ai_regW ?_)
      exact ⟨i + 1, (by repeat (first | exact le_nil | refine le_consF rfl ?_)), ⟨rfl, by omega⟩, by dsimp only; omega⟩
    · obtain rfl : i = Y := by omega
      repeat (first | refine sS ?_ | refine sE ?_ | refine w_mv rfl ?_ | (refine w_cmp (c2 := false) rfl ?_ ?_; focus (first | exact decide_eq_false (by omega) | (simp; done) | (simp; omega))) | refine ai_seq ?_ | refine ai_regW ?_ | refine ai_condF (b := false) rfl (fun hb => by cases hb) (fun _ => ?_) | refine ai_exit ?_)
      exact ⟨rfl, (), (by repeat (first | exact le_nil | refine le_consF rfl ?_)), rfl⟩
  rintro _ _ rfl
  have p1 := blk_p1 X Y
  have p2 := blk_p2 X Y
  have hl : (repS X blk1 ++ repS Y blk2).length ≤ 1000 := by
    have h1 := repS_len X blk1
    have h2 := repS_len Y blk2
    have hbl : blk1.length = 3 := rfl
    have hbl2 : blk2.length = 9 := rfl
    rw [List.length_append, h1, h2, hbl, hbl2]
    omega
  generalize repS X blk1 ++ repS Y blk2 = s at p1 p2 hl ⊢
  repeat (first | refine sS ?_ | refine ai_seq ?_ | refine ai_regW ?_)
  refine w_call rfl ((default_ok _).mono ?_)
  rintro _ g1 ⟨rfl, x1⟩
  repeat (first | refine sS ?_)
  refine w_new fun g2 x2 k2 m2 => ?_
  repeat (first | refine sSn ?_)
  refine w_stN rfl rfl k2 rfl rfl fun g3 q3 k3 m3 => ?_
  repeat (first | refine sS ?_ | refine sE ?_ | refine w_mv rfl ?_ | (refine is_ldn ?_; refine w_ldn rfl (by first | exact rd_all ‹_› rfl | exact rd_newn rfl | assumption) ?_) | refine ai_seq ?_ | refine ai_regW ?_)
  refine w_catB (a := s) (b := [32, 32, 109, 105, 110, 58, 32, 51, 32, 32, 32]) rfl (by simp only [List.length_cons, List.length_nil]; omega) ?_
  have c1 := fun g => tparse_ok dflt (s ++ [32, 32, 109, 105, 110, 58, 32, 51, 32, 32, 32]) (by rw [List.length_append]; simp only [List.length_cons, List.length_nil]; omega) g
  simp only [p1] at c1
  repeat (first | refine sS ?_)
  refine w_call rfl ((c1 _).mono ?_)
  rintro _ g4 ⟨rfl, x4⟩
  have k4 := (x4.2 _ (by omega)).trans k3
  repeat (first | refine sS ?_ | refine w_mv rfl ?_ | refine w_ext rfl rfl ?_)
  refine w_new fun g5 x5 k5 m5 => ?_
  have k45 := (x5.2 _ (by have := x4.1; omega)).trans k4
  repeat (first | refine sSn ?_)
  refine w_stN rfl rfl k5 rfl rfl fun g6 q6 k6 m6 => ?_
  have k46 := (q6 _ (by have := x4.1; omega)).trans k45
  repeat (first | refine sS ?_ | refine sE ?_ | refine w_mv rfl ?_ | (refine is_ldn ?_; refine w_ldn rfl (by first | exact rd_all ‹_› rfl | exact rd_newn rfl | assumption) ?_) | refine ai_seq ?_ | refine ai_regW ?_)
  refine w_catB (a := s) (b := [109, 105, 110, 58, 32, 51, 10, 109, 105, 110, 32, 52]) rfl (by simp only [List.length_cons, List.length_nil]; omega) ?_
  have c2 := fun g => tparse_ok dflt (s ++ [109, 105, 110, 58, 32, 51, 10, 109, 105, 110, 32, 52]) (by rw [List.length_append]; simp only [List.length_cons, List.length_nil]; omega) g
  simp only [p2] at c2
  repeat (first | refine sS ?_)
  refine w_call rfl ((c2 _).mono ?_)
  rintro _ g7 ⟨rfl, x7⟩
  have k7 := (x7.2 _ (by omega)).trans k6
  repeat (first | refine sS ?_ | refine w_mv rfl ?_ | refine w_ext rfl rfl ?_)
  refine w_new fun g8 x8 k8 m8 => ?_
  have k78 := (x8.2 _ (by have := x7.1; omega)).trans k7
  repeat (first | refine sSn ?_)
  refine w_stN rfl rfl k8 rfl rfl fun g9 q9 k9 m9 => ?_
  have k79 := (q9 _ (by have := x7.1; omega)).trans k78
  repeat (first | refine sS ?_ | refine sE ?_ | refine w_mv rfl ?_ | refine ai_seq ?_ | refine ai_regW ?_)
  refine w_call rfl ((told_ok _).mono ?_)
  rintro _ ga ⟨rfl, xa⟩
  have ka := (xa.2 _ (by have := x7.1; have := x8.1; omega)).trans k79
  repeat (first | refine sS ?_ | refine w_mv rfl ?_ | refine w_pickT rfl ?_ | (refine is_okn rfl ?_; refine w_op rfl ?_) | refine w_gT rfl rfl ?_ | (refine is_ld ?_; refine w_ld rfl (by first | exact rd_g ‹_› rfl | exact rd_new rfl | assumption) ?_) | (refine w_cmp (c2 := true) rfl ?_ ?_; focus (first | exact decide_eq_true (by omega) | (simp; done) | (simp; omega))))
  refine w_cmp (c2 := true) rfl rfl ?_
  repeat (first | refine sS ?_ | refine sE ?_ | refine w_mv rfl ?_ | refine w_pickT rfl ?_ | refine w_gT rfl rfl ?_ | (refine w_add rfl ?_ ?_; (focus omega)) | (refine w_cmp (c2 := true) rfl ?_ ?_; focus (first | exact decide_eq_true (by omega) | (simp; done) | (simp; omega))) | (refine ai_ret ?_; repeat (first | rw [thenQ_r] | rw [blockQ_r] | rw [roundE_r])))
  exact end_one rfl rfl
end Go.Proofs.YtapbmmlgmcmpnaaDoorW.Am
/- Texts: numerals are read as what they are; the law TextNumbers. -/
namespace Go.Proofs.YtapbmmlgmcmpnaaDoorW.Am
open Go Go.RowKit
theorem ofNat_dig {d : Nat} (h : d < 10) : (UInt8.ofNat (48 + d)).toNat = 48 + d := by
  rw [UInt8.toNat_ofNat']
  omega
theorem dec_facts (n : Nat) : (Go.Lib.decDigits n).all isDig = true ∧ valA 0 (Go.Lib.decDigits n) = n ∧ 1 ≤ (Go.Lib.decDigits n).length := by
  induction n using Nat.strongRecOn with
  | ind n ih =>
    by_cases h : 9 < n
    · obtain ⟨h1, h2, h3⟩ := ih (n / 10) (by omega)
      have hd := ofNat_dig (d := n % 10) (by omega)
      rw [decd_big h]
      generalize UInt8.ofNat (48 + n % 10) = b at hd ⊢
      refine ⟨?_, ?_, by simp⟩
      · rw [List.all_append, h1]
        simp only [List.all_cons, List.all_nil, Bool.and_true, Bool.true_and, isDig, hd]
        exact decide_eq_true (by omega)
      · rw [valA_snoc, h2, hd]
        omega
    · have hd := ofNat_dig (d := n) (by omega)
      rw [decd_small h]
      generalize UInt8.ofNat (48 + n) = b at hd ⊢
      refine ⟨?_, ?_, by simp⟩
      · simp only [List.all_cons, List.all_nil, Bool.and_true, isDig, hd]
        exact decide_eq_true (by omega)
      · show 0 * 10 + (b.toNat - 48) = n
        omega
theorem dec_short : ∀ (k n : Nat), n < 10 ^ (k + 1) → (Go.Lib.decDigits n).length ≤ k + 1
  | 0, n, h => by rw [decd_small (by omega)]; simp
  | k + 1, n, h => by
    by_cases h9 : 9 < n
    · rw [decd_big h9, List.length_append, List.length_singleton]
      have := dec_short k (n / 10) (by rw [Nat.pow_succ] at h; omega)
      omega
    · rw [decd_small h9]; simp
theorem digF_all {l : List UInt8} {k : Nat} (h1 : 1 ≤ l.length) (h2 : l.length ≤ k) (h3 : l.all isDig = true) : digF l k = some (valA 0 l) := if_pos ⟨h1, h2, h3⟩
theorem digF_dec {n k : Nat} (h : n < 10 ^ (k + 1)) : digF (Go.Lib.decDigits n) (k + 1) = some n := by
  obtain ⟨h1, h2, h3⟩ := dec_facts n
  rw [digF_all h3 (dec_short k n h) h1, h2]
theorem dig_ne {l : List UInt8} (h : l.all isDig = true) {c : UInt8} (hc : isDig c = false) : ∀ q : Nat, l[q]? ≠ some c := by
  intro q e
  have := List.all_eq_true.1 h c (List.mem_of_getElem? e)
  rw [hc] at this
  cases this
theorem cut_pt {D T : List UInt8} (hD : D.all isDig = true) : Go.Lib.cut (D ++ 46 :: T) [46] = (D, T, true) := by
  rw [cut_at (i := D.length) (by simp) (fun k hk => by rw [List.getElem?_append_left hk]; exact dig_ne hD rfl k)]
  simp
theorem numU_int {D : List UInt8} (hD : D.all isDig = true) (h1 : 1 ≤ D.length) (h9 : D.length ≤ 9) : numU D = some (valA 0 D * 1000) := by
  unfold numU
  rw [cut_no (dig_ne hD rfl), digF_all h1 h9 hD]
  rfl
theorem numU_pt {D T : List UInt8} (hD : D.all isDig = true) (h1 : 1 ≤ D.length) (h9 : D.length ≤ 9) (hT : T.all isDig = true) (t1 : 1 ≤ T.length) (t3 : T.length ≤ 3) : numU (D ++ 46 :: T) = some (valA 0 D * 1000 + valA 0 T * 10 ^ (3 - T.length)) := by
  unfold numU
  rw [cut_pt hD]
  dsimp only
  rw [digF_all h1 h9 hD]
  dsimp only
  rw [if_pos rfl, digF_all t1 t3 hT]
theorem numU_long {D T : List UInt8} (hD : D.all isDig = true) (t3 : 3 < T.length) : numU (D ++ 46 :: T) = none := by
  unfold numU
  rw [cut_pt hD]
  dsimp only
  have : digF T 3 = none := if_neg (by omega)
  rw [this]
  cases digF D 9 <;> rfl
def sgL (b : Bool) (l : List UInt8) : List UInt8 := if b = true then 45 :: l else l
theorem sgL_app (b : Bool) (l m : List UInt8) : sgL b l ++ m = sgL b (l ++ m) := by cases b <;> rfl
theorem numF_sg {b : Bool} {l : List UInt8} (h : ∀ c r, l = c :: r → c ≠ 45) : numF (sgL b l) = (numU l).map fun n => sgn b n := by
  cases b
  · show numF l = _
    unfold numF Go.Lib.trimPrefix
    have hp : Go.Lib.hasPrefix l [45] = false := by
      cases l with
      | nil => rfl
      | cons c r => rw [pre_cons]; simpa using fun e => h c r rfl e.symm
    rw [hp]
    rfl
  · show numF (45 :: l) = _
    unfold numF Go.Lib.trimPrefix
    rw [pre_cons]
    rfl
theorem dig_head {l : List UInt8} (h : l.all isDig = true) (m : List UInt8) (hl : l ≠ []) : ∀ c r, l ++ m = c :: r → c ≠ 45 := by
  intro c r e hc
  cases l with
  | nil => exact hl rfl
  | cons a l =>
    rw [List.cons_append] at e
    cases e
    subst hc
    rw [List.all_cons] at h
    exact absurd h (by simp [isDig])
theorem itoa_all {n : Int} (h : 0 ≤ n) : (Go.Lib.itoa n).all isDig = true := by
  obtain ⟨m, rfl⟩ : ∃ m : Nat, n = (m : Int) := ⟨n.toNat, by omega⟩
  rw [itoa_nn]
  exact (dec_facts m).1
theorem absB_r {n : Int} (h : I64 n) : 0 ≤ absB n := by
  unfold absB
  obtain ⟨h1, h2⟩ := h
  split <;> omega
theorem show_pt {n : Int} (h : absB n % 1000 ≠ 0) : (46 : UInt8) ∈ showF n := by
  unfold showF fracB
  rw [if_neg h]
  simp
theorem show_nopt {n : Int} (hn : I64 n) (h : absB n % 1000 = 0) : (46 : UInt8) ∉ showF n := by
  unfold showF fracB
  rw [if_pos h, List.append_nil]
  intro hm
  rcases List.mem_append.1 hm with hm | hm
  · split at hm
    · simp at hm
    · cases hm
  · have := List.all_eq_true.1 (itoa_all (n := absB n / 1000) (by have := absB_r hn; omega)) 46 hm
    cases this
set_option maxRecDepth 10000 in
set_option maxHeartbeats 4000000 in
theorem tnumbers_ok (a b : Int) (mi : Bool) (h : Hp) : ACall PX 7 [nI a, nI b, .bool mi] h (fun v _ => v = .bool true) := by
  have ha := u64_r a
  have hb := u64_r b
  obtain ⟨W, hW⟩ : ∃ X : Nat, IntKind.u64.wrap a % 1000000000 = (X : Int) := ⟨(IntKind.u64.wrap a % 1000000000).toNat, by omega⟩
  obtain ⟨p, hp⟩ : ∃ Y : Nat, IntKind.u64.wrap b % 1000 = (Y : Int) := ⟨(IntKind.u64.wrap b % 1000).toNat, by omega⟩
  have hW9 : W < 10 ^ 9 := by omega
  have hp3 : p < 1000 := by omega
  have hcp : (1000 : Int) + (p : Int) = ((1000 + p : Nat) : Int) := by omega
  obtain ⟨d1, d2, d3⟩ := dec_facts W
  have d4 := dec_short 8 W hW9
  have hT4 := dec4 hp3
  have hTa : ((Go.Lib.decDigits (1000 + p)).drop 1).all isDig = true ∧ valA 0 ((Go.Lib.decDigits (1000 + p)).drop 1) = p ∧ ((Go.Lib.decDigits (1000 + p)).drop 1).length = 3 := by
    have e1 := ofNat_dig (d := p / 100) (by omega)
    have e2 := ofNat_dig (d := p / 10 % 10) (by omega)
    have e3 := ofNat_dig (d := p % 10) (by omega)
    rw [hT4]
    generalize UInt8.ofNat (48 + p / 100) = b1 at e1 ⊢
    generalize UInt8.ofNat (48 + p / 10 % 10) = b2 at e2 ⊢
    generalize UInt8.ofNat (48 + p % 10) = b3 at e3 ⊢
    refine ⟨?_, ?_, rfl⟩
    · simp only [List.drop_succ_cons, List.drop_zero, List.all_cons, List.all_nil, isDig, e1, e2, e3, Bool.and_true, Bool.and_eq_true, decide_eq_true_eq]
      omega
    · show ((0 * 10 + (b1.toNat - 48)) * 10 + (b2.toNat - 48)) * 10 + (b3.toNat - 48) = p
      omega
  have hdl : 1 ≤ (Go.Lib.decDigits (1000 + p)).length := by rw [hT4]; simp
  obtain ⟨T, hT⟩ : ∃ T, (Go.Lib.decDigits (1000 + p)).drop 1 = T := ⟨_, rfl⟩
  rw [hT] at hTa
  obtain ⟨t1, t2, t3⟩ := hTa
  obtain ⟨D, hD⟩ : ∃ D, Go.Lib.decDigits W = D := ⟨_, rfl⟩
  rw [hD] at d1 d2 d3 d4
  have hDn : D ≠ [] := by intro e; rw [e] at d3; simp at d3
  have f1 : numF (sgL mi (D ++ 46 :: T)) = some (sgn mi (W * 1000 + p)) := by
    rw [numF_sg (dig_head d1 _ hDn), numU_pt d1 d3 d4 t1 (by omega) (by omega), t2, t3, d2]
    simp
  have f2 : numF (sgL mi (D ++ 46 :: (T ++ [48]))) = none := by
    rw [numF_sg (dig_head d1 _ hDn), numU_long d1 (by simp; omega)]
    rfl
  have f3 : numF (sgL mi D) = some (sgn mi (W * 1000)) := by
    have := dig_head d1 [] hDn
    rw [List.append_nil] at this
    rw [numF_sg this, numU_int d1 d3 d4, d2]
    simp
  have ls : ∀ m : List UInt8, (sgL mi m).length ≤ m.length + 1 := by intro m; cases mi <;> simp [sgL]
  have c1 := fun g => number_ok (sgL mi (D ++ 46 :: T)) (by have := ls (D ++ 46 :: T); rw [List.length_append, List.length_cons] at this; omega) g
  have c2 := fun g => number_ok (sgL mi (D ++ 46 :: (T ++ [48]))) (by have := ls (D ++ 46 :: (T ++ [48])); rw [List.length_append, List.length_cons, List.length_append] at this; simp at this; omega) g
  have c3 := fun g => number_ok (sgL mi D) (by have := ls D; omega) g
  simp only [f1, f2, f3] at c1 c2 c3
  have lsD := ls D
  refine acall Go.Proofs.Tryd.func7 c7 (by simp [ir7]) ?_
  unfold ir7
  dsimp only
  refine ai_seq ?_
  repeat (first | refine sS ?_ | refine sE ?_ | refine w_mv rfl ?_ | refine ai_regW ?_)
  refine ai_seq ?_
  repeat (first | refine sS ?_ | refine sE ?_ | refine w_mv rfl ?_ | (refine w_ci rfl ?_ ?_; (focus omega)) | (refine w_rem rfl ?_ ?_ ?_; (focus omega); (focus omega)) | refine w_cuw rfl ?_ | refine ai_regW ?_)
  rw [hW, hp]
  refine ai_seq ?_
  repeat (first | refine sS ?_ | refine w_mv rfl ?_ | (refine w_add rfl ?_ ?_; (focus omega)) | refine ai_regW ?_)
  rw [hcp]
  refine w_call rfl ((decimal_ok (1000 + p) (by omega) _).mono ?_)
  rintro _ _ ⟨rfl, rfl⟩
  repeat (first | refine sS ?_)
  refine w_slsS (l := Go.Lib.decDigits (1000 + p)) (i := 1) rfl hdl ?_
  rw [hT]
  repeat (first | refine sS ?_ | refine sE ?_ | refine w_mv rfl ?_)
  refine ai_seq ?_
  repeat (first | refine sS ?_ | refine w_mv rfl ?_ | refine ai_regW ?_)
  refine w_call rfl ((decimal_ok W (by omega) _).mono ?_)
  rintro _ _ ⟨rfl, rfl⟩
  rw [hD]
  repeat (first | refine sS ?_ | refine sE ?_ | refine w_mv rfl ?_)
  refine ai_seq ?_
  repeat (first | refine sS ?_ | refine sE ?_ | refine w_mv rfl ?_ | (refine w_add rfl ?_ ?_; (focus omega)) | (refine w_mul rfl ?_ ?_; (focus omega)) | refine ai_regW ?_)
  refine ai_join (γ := Unit) (fun _ => [(7, nI W), (8, nI p), (9, bs T), (10, bs (sgL mi D)), (11, nI (sgn mi (W * 1000 + p)))]) (fun _ g => h = g) ?_ ?_
  · cases mi
    · repeat (first | refine sS ?_ | refine sE ?_ | refine w_mv rfl ?_ | refine ai_seq ?_ | refine ai_regW ?_ | refine ai_condF (b := false) rfl (fun hb => by cases hb) (fun _ => ?_) | refine ai_skip ?_)
      exact ⟨rfl, (), by
        refine le_consF rfl (le_consF rfl (le_consF rfl (le_consF rfl (le_consF ?_ le_nil))))
        show some (Value.int .i64 (1000 * (W : Int) + (p : Int))) = _
        rw [show 1000 * (W : Int) + (p : Int) = sgn false (W * 1000 + p) by unfold sgn; simp; omega], rfl⟩
    · repeat (first | refine sS ?_ | refine sE ?_ | refine w_mv rfl ?_ | refine ai_seq ?_ | refine ai_regW ?_ | refine ai_condF (b := true) rfl (fun _ => ?_) (fun hb => by cases hb))
      refine w_catB (a := [45]) (b := D) rfl (by simp only [List.length_cons, List.length_nil]; omega) ?_
      repeat (first | refine sS ?_ | refine sE ?_ | refine w_mv rfl ?_ | (refine w_neg rfl ?_ ?_; (focus omega)))
      exact ⟨rfl, (), by
        refine le_consF rfl (le_consF rfl (le_consF rfl (le_consF rfl (le_consF ?_ le_nil))))
        show some (Value.int .i64 (-(1000 * (W : Int) + (p : Int)))) = _
        rw [show -(1000 * (W : Int) + (p : Int)) = sgn true (W * 1000 + p) by unfold sgn; simp; omega], rfl⟩
  rintro _ _ rfl
  have wr : I64 (sgn mi (W * 1000 + p)) ∧ I64 (sgn mi (W * 1000)) := by cases mi <;> exact ⟨⟨by simp [sgn]; omega, by simp [sgn]; omega⟩, ⟨by simp [sgn]; omega, by simp [sgn]; omega⟩⟩
  have e1 : (sgL mi D ++ [46]) ++ T = sgL mi (D ++ 46 :: T) := by rw [sgL_app, sgL_app]; simp
  have e2 : (sgL mi (D ++ 46 :: T)) ++ [48] = sgL mi (D ++ 46 :: (T ++ [48])) := by rw [sgL_app]; simp
  repeat (first | refine sS ?_ | refine w_mv rfl ?_ | refine ai_seq ?_ | refine ai_regW ?_)
  refine w_catB (a := sgL mi D) (b := [46]) rfl (by simp only [List.length_cons, List.length_nil]; omega) ?_
  repeat (first | refine sS ?_ | refine w_mv rfl ?_)
  refine w_catB (a := sgL mi D ++ [46]) (b := T) rfl (by rw [List.length_append]; simp only [List.length_cons, List.length_nil]; omega) ?_
  rw [e1]
  repeat (first | refine sS ?_ | refine sE ?_ | refine w_mv rfl ?_ | refine w_ext rfl rfl ?_ | (refine w_call rfl ((c1 _).mono ?_); rintro _ _ ⟨rfl, rfl⟩) | refine ai_seq ?_ | refine ai_regW ?_)
  refine w_catB (a := sgL mi D) (b := [46]) rfl (by simp only [List.length_cons, List.length_nil]; omega) ?_
  repeat (first | refine sS ?_ | refine w_mv rfl ?_)
  refine w_catB (a := sgL mi D ++ [46]) (b := T) rfl (by rw [List.length_append]; simp only [List.length_cons, List.length_nil]; omega) ?_
  rw [e1]
  repeat (first | refine sS ?_)
  refine w_catB (a := sgL mi (D ++ 46 :: T)) (b := [48]) rfl (by rw [← e1, List.length_append, List.length_append]; simp only [List.length_cons, List.length_nil]; omega) ?_
  rw [e2]
  repeat (first | refine sS ?_ | refine sE ?_ | refine w_mv rfl ?_ | refine w_ext rfl rfl ?_ | (refine w_call rfl ((c2 _).mono ?_); rintro _ _ ⟨rfl, rfl⟩) | refine ai_seq ?_ | refine ai_regW ?_)
  repeat (first | refine sS ?_ | refine sE ?_ | refine w_mv rfl ?_ | refine w_ext rfl rfl ?_ | (refine w_call rfl ((c3 _).mono ?_); rintro _ _ ⟨rfl, rfl⟩) | refine ai_seq ?_ | refine ai_regW ?_)
  refine w_call rfl ((told_ok _).mono ?_)
  rintro _ ga ⟨rfl, xa⟩
  repeat (first | refine sS ?_ | refine w_mv rfl ?_ | refine w_pickT rfl ?_ | (refine is_okn rfl ?_; refine w_op rfl ?_) | refine w_gT rfl rfl ?_ | (refine w_cmp (c2 := true) rfl ?_ ?_; focus (first | exact decide_eq_true (by omega) | (simp; done) | (simp; omega))))
  by_cases hp0 : p = 0
  · refine w_cmp (c2 := true) rfl (by show (sgn mi ((W : Int) * 1000) == sgn mi ((W : Int) * 1000 + (p : Int))) = true; rw [hp0]; simp) ?_
    repeat (first | refine sS ?_ | refine sE ?_ | refine w_mv rfl ?_ | refine w_pickT rfl ?_ | refine w_gT rfl rfl ?_ | refine w_gF rfl rfl ?_ | (refine w_cmp (c2 := true) rfl ?_ ?_; focus (first | exact decide_eq_true (by omega) | (simp; done) | (simp; omega))) | (refine ai_ret ?_; repeat (first | rw [thenQ_r] | rw [blockQ_r] | rw [roundE_r])))
    exact end_one rfl rfl
  · refine w_cmp (c2 := false) rfl (by
      show (sgn mi ((W : Int) * 1000) == sgn mi ((W : Int) * 1000 + (p : Int))) = false
      rw [beq_eq_false_iff_ne]
      cases mi <;> simp [sgn] <;> omega) ?_
    repeat (first | refine sS ?_ | refine w_mv rfl ?_ | refine w_pickT rfl ?_ | refine w_pickF rfl ?_ | refine w_gT rfl rfl ?_ | (refine w_cmp (c2 := true) rfl ?_ ?_; focus (first | exact decide_eq_true (by omega) | (simp; done) | (simp; omega))) | (refine w_cmp (c2 := false) rfl ?_ ?_; focus (first | exact decide_eq_false (by omega) | (simp; done) | (simp; omega))))
    refine w_call rfl ((show_ok wr.1 _).mono ?_)
    rintro _ _ ⟨rfl, rfl⟩
    repeat (first | refine sS ?_ | refine w_mv rfl ?_ | refine w_gT rfl rfl ?_)
    refine w_call rfl ((show_ok wr.2 _).mono ?_)
    rintro _ _ ⟨rfl, rfl⟩
    repeat (first | refine sS ?_ | refine w_gT rfl rfl ?_)
    refine w_neB (a := showF (sgn mi (W * 1000 + p))) (b := showF (sgn mi (W * 1000))) rfl ?_
    have hne : showF (sgn mi (W * 1000 + p)) ≠ showF (sgn mi (W * 1000)) := by
      intro e
      have h1 := show_pt (n := sgn mi (W * 1000 + p)) (by cases mi <;> simp [sgn, absB] <;> split <;> omega)
      rw [e] at h1
      exact show_nopt wr.2 (by cases mi <;> simp [sgn, absB] <;> split <;> omega) h1
    rw [show (!(showF (sgn mi (W * 1000 + p)) == showF (sgn mi (W * 1000)))) = true by simpa using hne]
    repeat (first | refine sS ?_ | refine sE ?_ | refine w_mv rfl ?_ | refine w_pickT rfl ?_ | refine w_pickF rfl ?_ | refine w_gT rfl rfl ?_ | (refine ai_ret ?_; repeat (first | rw [thenQ_r] | rw [blockQ_r] | rw [roundE_r])))
    exact end_one rfl rfl
end Go.Proofs.YtapbmmlgmcmpnaaDoorW.Am
