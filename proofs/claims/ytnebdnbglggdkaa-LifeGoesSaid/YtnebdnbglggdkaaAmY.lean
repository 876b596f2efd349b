/- Steps that are tried one after the other, without a look at the place: what one instruction comes to. -/
import Derived.Test.YtnebdnbglggdkaaAmX
namespace Go.Proofs.YtnebdnbglggdkaaW.Am
open Go Go.RowKit
/-- One instruction (as a structure of its own: the steps below are told apart by its look alone). -/
structure WI (P : Program) (CT : CTy) (i : In) (env : Env) (h : Hp) (R : Value → Hp → Prop) : Prop where
  out : wpIn P CT i env h R
section
variable {P : Program} {CT : CTy} {env : Env} {h h' : Hp} {d : Option Nat} {k : K} {xs : List Operand} {vs : List Value} {v : Value} {R : Value → Hp → Prop} {ik : IK} {a b : Int} {kk : IntKind}
theorem w_op0 (e : opS env k xs h = some (v, h')) (n : R v h') : wpIn P CT ⟨d, none, .op k xs⟩ env h R := by
  unfold opS at e
  unfold wpIn
  simp only [wanted]
  split at e
  · next vs hv => simp only [hv, e]; exact n
  · cases e
theorem w_op (e : opS env k xs h = some (v, h')) (n : R v h') : WI P CT ⟨d, none, .op k xs⟩ env h R := ⟨w_op0 e n⟩
theorem w_v {v2 : Value} (e : opS env k xs h = some (v, h')) (hv : v = v2) (n : R v2 h') : WI P CT ⟨d, none, .op k xs⟩ env h R := by subst hv; exact w_op e n
theorem w_gT {t : Nat} {b c : Bool} (g : env.get t = some (.bool c)) (hc : (c == b) = true) (n : WI P CT ⟨d, none, ik⟩ env h R) : WI P CT ⟨d, some (t, b), ik⟩ env h R := by
  refine ⟨?_⟩
  have n := n.out
  unfold wpIn at n ⊢
  simp only [wanted, g, hc] at n ⊢
  exact n
theorem w_gF {t : Nat} {b c : Bool} (g : env.get t = some (.bool c)) (hc : (c == b) = false) (n : R undef h) : WI P CT ⟨d, some (t, b), ik⟩ env h R := by
  refine ⟨?_⟩
  unfold wpIn
  simp only [wanted, g, hc]
  exact n
theorem w_gU {t : Nat} {b : Bool} (g : env.get t = some undef) (n : R undef h) : WI P CT ⟨d, some (t, b), ik⟩ env h R := by
  refine ⟨?_⟩
  unfold wpIn
  simp only [wanted, g, undef]
  exact n
theorem w_call {f : FuncId} (e : mapE env xs = some vs) (c : CT f vs h R) : WI P CT ⟨d, none, .call f xs⟩ env h R := by
  refine ⟨?_⟩
  unfold wpIn
  simp only [wanted, e]
  exact c
theorem w_callv {x : Operand} {f : FuncId} {a b : Array Value} (e : evA env x = some (.func (.func f) a b)) (e2 : mapE env xs = some vs) (c : CT f (a.toList ++ vs ++ b.toList) h R) : WI P CT ⟨d, none, .callv x xs⟩ env h R := by
  refine ⟨?_⟩
  unfold wpIn
  simp only [wanted, e, e2]
  exact c
/-- One instruction of a region; of a region whose order is open, with nothing to be made again, or with something. -/
theorem sS {g : Option (Nat × Bool)} {r : List In} {Q : Env → Hp → Prop} (n : WI P CT ⟨d, g, ik⟩ env h fun v h' => wpS P CT r (env.put d v) h' Q) : wpS P CT (⟨d, g, ik⟩ :: r) env h Q := n.out
theorem w_imp {i : In} {R' : Value → Hp → Prop} (n : wpIn P CT i env h R) (hm : ∀ (f : FuncId) (vs : List Value) (g : Hp) (S S' : Value → Hp → Prop), (∀ v h', S v h' → S' v h') → CT f vs g S → CT f vs g S') (hr : ∀ v h', R v h' → R' v h') : wpIn P CT i env h R' := by
  unfold wpIn at n ⊢
  split at n
  · exact n
  · next hw => exact hr _ _ n
  · split at n
    · split at n
      · exact n.elim
      · split at n
        · exact n.elim
        · exact hr _ _ n
    · split at n
      · exact n.elim
      · exact hr _ _ n
    · split at n
      · exact n.elim
      · exact hm _ _ _ _ _ hr n
    · split at n
      · exact hm _ _ _ _ _ hr n
      · exact n.elim
theorem dS {ix : Nat} {g : Option (Nat × Bool)} {eff : Bool} {L : List DE} {Q : Env → Hp → Prop} (n : WI P (ACall P) ⟨d, g, ik⟩ env h fun v h' => wpD P (ACall P) L (env.put d v) h' Q) : wpD P (ACall P) (⟨ix, ⟨d, g, ik⟩, eff, []⟩ :: L) env h Q :=
  w_imp (CT := ACall P) n.out (fun _ _ _ _ _ hr c => c.mono hr) fun _ _ n => ⟨trivial, n⟩
theorem dSR {ix : Nat} {g : Option (Nat × Bool)} {eff : Bool} {re : List In} {L : List DE} {Q : Env → Hp → Prop} (n : WI P CT ⟨d, g, ik⟩ env h fun v h' => allAgain re env h' ∧ wpD P CT L (env.put d v) h' Q) : wpD P CT (⟨ix, ⟨d, g, ik⟩, eff, re⟩ :: L) env h Q := n.out
theorem agS {re : List In} {L : List DE} {env' : Env} {Q : Env → Hp → Prop} (a : allAgain re env h) (n : wpD P CT L env' h Q) : allAgain re env h ∧ wpD P CT L env' h Q := ⟨a, n⟩
theorem ag_nil : allAgain [] env h := trivial
theorem ag_cons {i : In} {r : List In} (a : again i env h) (n : allAgain r env h) : allAgain (i :: r) env h := ⟨a, n⟩
theorem ag_l {d' t i o : Nat} (g1 : env.get t = some (.pointer (some ⟨i, o, none⟩))) (g2 : env.get d' = some v) (hr : h.rd i o 1 = some [v]) : again ⟨some d', none, .op .ld1 [.tmp t]⟩ env h := ag_ld g1 g2 hr
theorem ag_ln {d' t i o c : Nat} {us : List Value} (g1 : env.get t = some (.pointer (some ⟨i, o, none⟩))) (g2 : env.get d' = some (.agg ⟨us⟩)) (hr : h.rd i o c = some us) : again ⟨some d', none, .op (.ldn c) [.tmp t]⟩ env h := by
  unfold again
  simp only [wanted, mapE, evA, g1, g2, stepK, hr, Option.map_some]
theorem ag_gT {t : Nat} {b c : Bool} (g : env.get t = some (.bool c)) (hc : (c == b) = true) (n : again ⟨d, none, ik⟩ env h) : again ⟨d, some (t, b), ik⟩ env h := by
  unfold again at n ⊢
  simp only [wanted, g, hc] at n ⊢
  exact n
theorem ag_gF {t : Nat} {b c : Bool} (g : env.get t = some (.bool c)) (hc : (c == b) = false) : again ⟨d, some (t, b), ik⟩ env h := by
  unfold again
  simp only [wanted, g, hc]
/-- Operations that the steps below have no word for. -/
def okK : K → Bool
  | .bin _ | .cvt _ | .neg | .ld1 | .ldn _ | .st _ | .iad _ | .iaa _ _ | .mm _ => false
  | _ => true
theorem w_opk (_ : okK k = true) (e : opS env k xs h = some (v, h')) (n : R v h') : WI P CT ⟨d, none, .op k xs⟩ env h R := w_op e n
theorem w_mv {x : Operand} (e : evA env x = some v) (n : R v h) : WI P CT ⟨d, none, .op .mv [x]⟩ env h R :=
  w_op (v := v) (h' := h) (by unfold opS; simp only [mapE, e, stepK]) n
theorem w_add (e : mapE env xs = some [.int .i64 a, .int .i64 b]) (hx : -9223372036854775808 ≤ a + b ∧ a + b ≤ 9223372036854775807) (n : R (.int .i64 (a + b)) h) : WI P CT ⟨d, none, .op (.bin .add) xs⟩ env h R :=
  w_v (v := .int .i64 (IntKind.i64.wrap (a + b))) (by unfold opS; rw [e]; rfl) (by rw [wrap_i64' hx.1 hx.2]) n
theorem w_sub (e : mapE env xs = some [.int .i64 a, .int .i64 b]) (hx : -9223372036854775808 ≤ a - b ∧ a - b ≤ 9223372036854775807) (n : R (.int .i64 (a - b)) h) : WI P CT ⟨d, none, .op (.bin .sub) xs⟩ env h R :=
  w_v (v := .int .i64 (IntKind.i64.wrap (a - b))) (by unfold opS; rw [e]; rfl) (by rw [wrap_i64' hx.1 hx.2]) n
theorem w_mul (e : mapE env xs = some [.int .i64 a, .int .i64 b]) (hx : -9223372036854775808 ≤ a * b ∧ a * b ≤ 9223372036854775807) (n : R (.int .i64 (a * b)) h) : WI P CT ⟨d, none, .op (.bin .mul) xs⟩ env h R :=
  w_v (v := .int .i64 (IntKind.i64.wrap (a * b))) (by unfold opS; rw [e]; rfl) (by rw [wrap_i64' hx.1 hx.2]) n
theorem w_addu (e : mapE env xs = some [.int .u64 a, .int .u64 b]) (hx : 0 ≤ a + b ∧ a + b ≤ 18446744073709551615) (n : R (.int .u64 (a + b)) h) : WI P CT ⟨d, none, .op (.bin .add) xs⟩ env h R :=
  w_v (v := .int .u64 (IntKind.u64.wrap (a + b))) (by unfold opS; rw [e]; rfl) (by rw [wrap_u64' hx.1 hx.2]) n
theorem w_mulu (e : mapE env xs = some [.int .u64 a, .int .u64 b]) (hx : 0 ≤ a * b ∧ a * b ≤ 18446744073709551615) (n : R (.int .u64 (a * b)) h) : WI P CT ⟨d, none, .op (.bin .mul) xs⟩ env h R :=
  w_v (v := .int .u64 (IntKind.u64.wrap (a * b))) (by unfold opS; rw [e]; rfl) (by rw [wrap_u64' hx.1 hx.2]) n
theorem w_neg (e : mapE env xs = some [.int .i64 a]) (hx : -9223372036854775808 ≤ -a ∧ -a ≤ 9223372036854775807) (n : R (.int .i64 (-a)) h) : WI P CT ⟨d, none, .op .neg xs⟩ env h R :=
  w_v (v := .int .i64 (IntKind.i64.wrap (0 - a))) (by unfold opS; rw [e]; rfl) (by rw [show 0 - a = -a by omega, wrap_i64' hx.1 hx.2]) n
theorem w_ci (e : mapE env xs = some [.int kk a]) (hx : -9223372036854775808 ≤ a ∧ a ≤ 9223372036854775807) (n : R (.int .i64 a) h) : WI P CT ⟨d, none, .op (.cvt .i64) xs⟩ env h R :=
  w_v (v := .int .i64 (IntKind.i64.wrap a)) (by unfold opS; rw [e]; rfl) (by rw [wrap_i64' hx.1 hx.2]) n
theorem w_cu (e : mapE env xs = some [.int kk a]) (hx : 0 ≤ a ∧ a ≤ 18446744073709551615) (n : R (.int .u64 a) h) : WI P CT ⟨d, none, .op (.cvt .u64) xs⟩ env h R :=
  w_v (v := .int .u64 (IntKind.u64.wrap a)) (by unfold opS; rw [e]; rfl) (by rw [wrap_u64' hx.1 hx.2]) n
theorem w_adduw (e : mapE env xs = some [.int .u64 a, .int .u64 b]) (n : R (.int .u64 (IntKind.u64.wrap (a + b))) h) : WI P CT ⟨d, none, .op (.bin .add) xs⟩ env h R :=
  w_op (v := .int .u64 (IntKind.u64.wrap (a + b))) (h' := h) (by unfold opS; rw [e]; rfl) n
/-- A number of which nothing is told. -/
theorem w_and (e : mapE env xs = some [.int kk a, .int kk b]) (n : ∀ x : Int, R (.int kk x) h) : WI P CT ⟨d, none, .op (.bin .and) xs⟩ env h R := by
  refine w_op (v := .int kk (kk.wrap (BitVec.ofInt kk.bits a &&& BitVec.ofInt kk.bits b).toNat)) (h' := h) ?_ (n _)
  unfold opS
  rw [e]
  show (if kk = kk then some (Value.int kk (kk.wrap (BitVec.ofInt kk.bits a &&& BitVec.ofInt kk.bits b).toNat)) else none).map (·, h) = _
  rw [if_pos rfl]
  rfl
theorem w_max (e : mapE env xs = some [.int kk a, .int kk b]) (n : R (.int kk (max a b)) h) : WI P CT ⟨d, none, .op (.mm true) xs⟩ env h R := by
  refine w_op (v := .int kk (max a b)) (h' := h) ?_ n
  unfold opS
  rw [e]
  show (if kk = kk then some (Value.int kk (if b > a then b else a)) else none).map (·, h) = _
  rw [if_pos rfl, show (if b > a then b else a) = max a b by rw [Int.max_def]; split <;> split <;> omega]
  rfl
theorem w_min (e : mapE env xs = some [.int kk a, .int kk b]) (n : R (.int kk (min a b)) h) : WI P CT ⟨d, none, .op (.mm false) xs⟩ env h R := by
  refine w_op (v := .int kk (min a b)) (h' := h) ?_ n
  unfold opS
  rw [e]
  show (if kk = kk then some (Value.int kk (if b < a then b else a)) else none).map (·, h) = _
  rw [if_pos rfl, show (if b < a then b else a) = min a b by rw [Int.min_def]; split <;> split <;> omega]
  rfl
theorem w_cuw (e : mapE env xs = some [.int kk a]) (n : R (.int .u64 (IntKind.u64.wrap a)) h) : WI P CT ⟨d, none, .op (.cvt .u64) xs⟩ env h R :=
  w_op (v := .int .u64 (IntKind.u64.wrap a)) (h' := h) (by unfold opS; rw [e]; rfl) n
theorem w_rem (e : mapE env xs = some [.int kk a, .int kk b]) (ha : 0 ≤ a) (hb : 0 < b) (n : R (.int kk (a % b)) h) : WI P CT ⟨d, none, .op (.bin .rem) xs⟩ env h R := w_op (o_rem e ha hb) n
theorem w_quo (e : mapE env xs = some [.int .i64 a, .int .i64 b]) (ha : 0 ≤ a ∧ a ≤ 9223372036854775807) (hb : 0 < b) (n : R (.int .i64 (a / b)) h) : WI P CT ⟨d, none, .op (.bin .quo) xs⟩ env h R := by
  refine w_op (v := .int .i64 (a / b)) (h' := h) ?_ n
  unfold opS
  rw [e]
  have : IntKind.i64 = IntKind.i64 ∧ b ≠ 0 := ⟨rfl, by omega⟩
  have h1 : 0 ≤ a / b := Int.ediv_nonneg ha.1 (by omega)
  have h2 : a / b ≤ a := Int.ediv_le_self _ ha.1
  show (if IntKind.i64 = IntKind.i64 ∧ b ≠ 0 then some (Value.int .i64 (IntKind.i64.wrap (a.tdiv b))) else none).map (·, h) = _
  rw [if_pos this, Int.tdiv_eq_ediv_of_nonneg ha.1, wrap_i64' (by omega) (by omega)]
  rfl
theorem w_quou (e : mapE env xs = some [.int .u64 a, .int .u64 b]) (ha : 0 ≤ a ∧ a ≤ 18446744073709551615) (hb : 0 < b) (n : R (.int .u64 (a / b)) h) : WI P CT ⟨d, none, .op (.bin .quo) xs⟩ env h R := by
  refine w_op (v := .int .u64 (a / b)) (h' := h) ?_ n
  unfold opS
  rw [e]
  have : IntKind.u64 = IntKind.u64 ∧ b ≠ 0 := ⟨rfl, by omega⟩
  have h1 : 0 ≤ a / b := Int.ediv_nonneg ha.1 (by omega)
  have h2 : a / b ≤ a := Int.ediv_le_self _ ha.1
  show (if IntKind.u64 = IntKind.u64 ∧ b ≠ 0 then some (Value.int .u64 (IntKind.u64.wrap (a.tdiv b))) else none).map (·, h) = _
  rw [if_pos this, Int.tdiv_eq_ediv_of_nonneg ha.1, wrap_u64' (by omega) (by omega)]
  rfl
/-- A comparison whose answer is told. -/
theorem w_cmp {op : BinOp} {c c2 : Bool} (e : opS env (.bin op) xs h = some (.bool c, h')) (hc : c = c2) (n : R (.bool c2) h') : WI P CT ⟨d, none, .op (.bin op) xs⟩ env h R := by subst hc; exact w_op e n
theorem w_iad {i o len cap : Nat} {sp : Option Nat} {x : Int} {esz : Nat} (e : mapE env xs = some [.slice (some ⟨i, o, sp⟩) len cap, .int kk x]) (hx : 0 ≤ x ∧ x < len) (n : R (.pointer (some ⟨i, o + x.toNat * esz, none⟩)) h) :
    WI P CT ⟨d, none, .op (.iad esz) xs⟩ env h R := w_op (o_iad e hx) n
theorem w_iaa {i o len : Nat} {x : Int} {esz : Nat} (e : mapE env xs = some [.pointer (some ⟨i, o, none⟩), .int kk x]) (hx : 0 ≤ x ∧ x < len) (n : R (.pointer (some ⟨i, o + x.toNat * esz, none⟩)) h) :
    WI P CT ⟨d, none, .op (.iaa len esz) xs⟩ env h R := w_op (o_iaa e hx) n
theorem w_ld {i o : Nat} (e : mapE env xs = some [.pointer (some ⟨i, o, none⟩)]) (hr : h.rd i o 1 = some [v]) (n : R v h) : WI P CT ⟨d, none, .op .ld1 xs⟩ env h R := w_op (o_ld e hr) n
theorem w_ldn {i o c : Nat} {us : List Value} (e : mapE env xs = some [.pointer (some ⟨i, o, none⟩)]) (hr : h.rd i o c = some us) (n : R (.agg ⟨us⟩) h) : WI P CT ⟨d, none, .op (.ldn c) xs⟩ env h R := w_op (o_ldn e hr) n
theorem w_st {i o c : Nat} {u : Value} (e : mapE env xs = some [.pointer (some ⟨i, o, none⟩), u]) (hs : u.cells.size = c) (hw : h.wr i o u.cells.toList = some h') (n : R undef h') : WI P CT ⟨d, none, .op (.st c) xs⟩ env h R := w_op (o_st e hs hw) n
theorem roundE_r {γ : Type} {E : γ → Env} {H : γ → Hp → Prop} {mu : γ → Nat} {k : Nat} {Q : Exit → Env → Hp → Prop} : roundE E H mu k Q .ret env h = Q .ret env h := rfl
theorem rd_g {h : Hp} {i o : Nat} {v : Value} {us : List Value} {b : Bool} {e : Nat} (hg : h.get i = some ⟨us, b, e⟩) (hx : us[o]? = some v) : h.rd i o 1 = some [v] := by
  have := rd_f hg hx
  rwa [Nat.zero_add] at this
theorem rd_f0 {h : Hp} {i : Nat} {u : Value} {us : List Value} {b : Bool} {e : Nat} (hg : h.get i = some ⟨u :: us, b, e⟩) : h.rd i 0 1 = some [u] := rd_f (x := 0) hg rfl
theorem rd_row {h : Hp} {i : Nat} {us : List Value} {b : Bool} {e : Nat} (hg : h.get i = some ⟨us, b, e⟩) {x : Nat} {v : Value} (hx : us[x]? = some v) : h.rd i (0 + x * 1) 1 = some [v] := by
  rw [Nat.mul_one]; exact rd_f hg hx
theorem rd_all {h : Hp} {i n : Nat} {us : List Value} {b : Bool} {e : Nat} (hg : h.get i = some ⟨us, b, e⟩) (hn : us.length = n) : h.rd i 0 n = some us := by
  unfold Hp.rd
  simp only [hg]
  rw [if_pos (by omega)]
  simp [← hn]
end
end Go.Proofs.YtnebdnbglggdkaaW.Am
