/- Steps that are tried one after the other, without a look at the place: what one instruction comes to. -/
import Derived.Test.YtapbmmlgmcmpnaaDoorTextBlanksK2
import Derived.Laws.StructEq
import Derived.Shelf.Strings.Builder1
import Derived.Shelf.Strings.Trim
import Derived.Shelf.Small.Utf8
import Derived.Shelf.Small.Strs
import Derived.Shelf.Small.Wraps
import Derived.Shelf.Strconv.Itoa0
import Derived.Shelf.Strconv.Itoa1
import Derived.Shelf.LaysM
import Derived.Shelf.Strconv.Itoa2
import Derived.Shelf.Strconv.Itoa3
import Derived.Shelf.Strconv.Itoa4
import Derived.Shelf.Strconv.ParseIntEmpty
import Derived.Shelf.Strconv.Clone
import Derived.Shelf.Strconv.SyntaxError
import Derived.Shelf.LaysC
import Derived.Shelf.Strconv.ToError
import Derived.Shelf.Strconv.Lower
import Derived.Shelf.Strconv.ParseUint10
import Derived.Shelf.Strconv.ParseUint10Empty
import Derived.Shelf.Strconv.ParseUint10Any
import Derived.Shelf.Strconv.ParseInt10
import Derived.Shelf.Strconv.RangeError
import Derived.Shelf.Strconv.ToErrorRange
import Derived.Shelf.Strconv.ParseUintEmpty
import Derived.Shelf.Strconv.ParseUint10b64
import Derived.Shelf.Strconv.ParseUint10b32
import Derived.Shelf.Strconv.ParseUint10b16
import Derived.Shelf.Strconv.ParseUint10b8
import Derived.Shelf.Strconv.ParseUint10At
import Derived.Shelf.Strconv.ParseInt10At64
import Derived.Shelf.Strconv.ParseInt10At32
import Derived.Shelf.Strconv.ParseInt10At16
import Derived.Shelf.Strconv.ParseInt10At8
import Derived.Shelf.Strconv.ParseInt10All
import Derived.Shelf.Strconv.ParseIntPublic10
import Derived.Shelf.Strings.Search1
import Derived.Shelf.Strings.Search2
import Derived.Shelf.Strings.Search3
import Derived.Shelf.Strings.Cut
import Derived.Shelf.Strings.Count
import Derived.Shelf.Strings.Shaped
import Derived.Shelf.Strings.Prefix
import Derived.Shelf.Strings.Split
import Derived.Shelf.Strings.SplitShaped
import Derived.Shelf.Strings.Runes
import Derived.Shelf.Strings.AsciiSet
import Derived.Shelf.Unicode.DecodeSlow
import Derived.Test.YtapbmmlgmcmpnaaDoorProg
import Derived.Test.YtapbmmlgmcmpnaaDoorTextBlanksK1
import Derived.Lib.SlTrimSet
import Derived.Lib.ParseIntB
import Derived.Lib.IndexMore
import Derived.Sort.Grow
import Derived.Deep.Draws
import Derived.Shelf.Strings.SlTrimAscii
import Derived.Lib.SmallJoins
import Derived.Lib.IndexLaws
import Derived.Lib.IndexBytes
import Derived.Lib.ItoaLen
import Derived.Lib.SplitLaws
import Derived.Lib.TrimByte
namespace Go.Proofs.YtapbmmlgmcmpnaaDoorW.Am
open Go Go.RowKit
/-- One instruction (as a structure of its own: the steps below are told apart by its look alone). -/
structure WI (P : Program) (CT : CTy) (i : In) (env : Env) (h : Hp) (R : Value → Hp → Prop) : Prop where
  out : wpIn P CT i env h R
/-! Looking up in a frame, with less to reckon. -/
def getF : Env → Nat → Option Value
  | [], _ => none
  | (k, v) :: r, t => match Nat.beq k t with
    | true => some v
    | false => getF r t
theorem getF_eq : ∀ (env : Env) (t : Nat), getF env t = env.get t
  | [], _ => rfl
  | (k, v) :: r, t => by
    simp only [getF, Env.get]
    cases h : Nat.beq k t
    · rw [if_neg (Nat.ne_of_beq_eq_false h)]; exact getF_eq r t
    · rw [if_pos (Nat.eq_of_beq_eq_true h)]
def evF (env : Env) : Operand → Option Value
  | .tmp t => getF env t
  | .const v => if flat v then some v else none
  | .func f => some (.func (.func f) #[] #[])
  | .global _ => none
theorem evF_eq (env : Env) (x : Operand) : evF env x = evA env x := by cases x <;> first | exact getF_eq _ _ | rfl
def mapF (env : Env) : List Operand → Option (List Value)
  | [] => some []
  | x :: r => match evF env x with
    | some v => match mapF env r with
      | some vs => some (v :: vs)
      | none => none
    | none => none
theorem mapF_eq (env : Env) : ∀ xs, mapF env xs = mapE env xs
  | [] => rfl
  | x :: r => by simp only [mapF, mapE, evF_eq, mapF_eq env r]; rfl
def opF (env : Env) (k : K) (xs : List Operand) (h : Hp) : Option (Value × Hp) :=
  match mapF env xs with
  | some vs => stepK k vs h
  | none => none
theorem opF_eq (env : Env) (k : K) (xs : List Operand) (h : Hp) : opF env k xs h = opS env k xs h := by unfold opF opS; rw [mapF_eq]; rfl
theorem le_consF {env : Env} {t : Nat} {u : Value} {l : Env} (e : getF env t = some u) (hl : EnvLe l env) : EnvLe ((t, u) :: l) env := le_cons ((getF_eq _ _).symm.trans e) hl
theorem ai_condF {P : Program} {n : Nat} {env : Env} {h : Hp} {Q : Exit → Env → Hp → Prop} {c : Operand} {x y : IC} {b : Bool} (hc : evF env c = some (.bool b)) (hx : b = true → AI P n x env h Q) (hy : b = false → AI P n y env h Q) : AI P n (.cond c x y) env h Q := ai_cond ((evF_eq _ _).symm.trans hc) hx hy
/-- Operations that the steps below have no word for. -/
def okK : K → Bool
  | .bin _ | .cvt _ | .neg | .ld1 | .ldn _ | .st _ | .iad _ | .iaa _ _ | .mm _ | .ext _ => false
  | .bsl _ e n _ _ => Nat.ble (e * n) 4
  | .bld _ _ ix => Nat.ble ix.length 3
  | _ => true
section
variable {P : Program} {CT : CTy} {env : Env} {h h' : Hp} {d : Option Nat} {k : K} {xs : List Operand} {vs : List Value} {v : Value} {R : Value → Hp → Prop} {ik : IK} {a b : Int} {kk : IntKind}
/-- Regions, as structures of their own. -/
structure SR (P : Program) (CT : CTy) (ins : List In) (env : Env) (h : Hp) (Q : Env → Hp → Prop) : Prop where
  out : wpS P CT ins env h Q
structure SD (P : Program) (CT : CTy) (L : List DE) (env : Env) (h : Hp) (Q : Env → Hp → Prop) : Prop where
  out : wpD P CT L env h Q
theorem ai_regW {n : Nat} {ins : List In} {Q : Exit → Env → Hp → Prop} (a : SR P (ACall P) ins env h fun e g => Q .normal e g) : AI P n (.reg ins) env h Q := ai_reg a.out
theorem ai_drwW {n : Nat} {L : List DE} {Q : Exit → Env → Hp → Prop} (hm : P.follows .mixedOrders = true) (a : SD P (ACall P) L env h fun e g => Q .normal e g) : AI P n (.drw L) env h Q := ai_drw hm a.out
theorem sE {Q : Env → Hp → Prop} (n : Q env h) : SR P CT [] env h Q := ⟨n⟩
theorem dE {Q : Env → Hp → Prop} (n : Q env h) : SD P CT [] env h Q := ⟨n⟩
theorem w_op0 (e : opF env k xs h = some (v, h')) (n : R v h') : wpIn P CT ⟨d, none, .op k xs⟩ env h R := by
  rw [opF_eq] at e
  unfold opS at e
  unfold wpIn
  simp only [wanted]
  split at e
  · next vs hv => simp only [hv, e]; exact n
  · cases e
theorem w_op (e : opF env k xs h = some (v, h')) (n : R v h') : WI P CT ⟨d, none, .op k xs⟩ env h R := ⟨w_op0 e n⟩
theorem w_v {v2 : Value} (e : opF env k xs h = some (v, h')) (hv : v = v2) (n : R v2 h') : WI P CT ⟨d, none, .op k xs⟩ env h R := by subst hv; exact w_op e n
theorem w_gT {t : Nat} {b c : Bool} (g : getF env t = some (.bool c)) (hc : (c == b) = true) (n : WI P CT ⟨d, none, ik⟩ env h R) : WI P CT ⟨d, some (t, b), ik⟩ env h R := by
  rw [getF_eq] at g
  refine ⟨?_⟩
  have n := n.out
  unfold wpIn at n ⊢
  simp only [wanted, g, hc] at n ⊢
  exact n
theorem w_gF {t : Nat} {b c : Bool} (g : getF env t = some (.bool c)) (hc : (c == b) = false) (n : R undef h) : WI P CT ⟨d, some (t, b), ik⟩ env h R := by
  rw [getF_eq] at g
  refine ⟨?_⟩
  unfold wpIn
  simp only [wanted, g, hc]
  exact n
theorem w_gU {t : Nat} {b : Bool} (g : getF env t = some undef) (n : R undef h) : WI P CT ⟨d, some (t, b), ik⟩ env h R := by
  rw [getF_eq] at g
  refine ⟨?_⟩
  unfold wpIn
  simp only [wanted, g, undef]
  exact n
theorem w_call {f : FuncId} (e : mapF env xs = some vs) (c : CT f vs h R) : WI P CT ⟨d, none, .call f xs⟩ env h R := by
  rw [mapF_eq] at e
  refine ⟨?_⟩
  unfold wpIn
  simp only [wanted, e]
  exact c
theorem w_callv {x : Operand} {f : FuncId} {a b : Array Value} (e : evF env x = some (.func (.func f) a b)) (e2 : mapF env xs = some vs) (c : CT f (a.toList ++ vs ++ b.toList) h R) : WI P CT ⟨d, none, .callv x xs⟩ env h R := by
  rw [evF_eq] at e
  rw [mapF_eq] at e2
  refine ⟨?_⟩
  unfold wpIn
  simp only [wanted, e, e2]
  exact c
/-- One instruction of a region; of a region whose order is open, with nothing to be made again, or with something. -/
theorem w_imp {i : In} {R' : Value → Hp → Prop} (n : wpIn P CT i env h R) (hm : ∀ (f : FuncId) (vs : List Value) (g : Hp) (S S' : Value → Hp → Prop), (∀ v h', S v h' → S' v h') → CT f vs g S → CT f vs g S') (hr : ∀ v h', R v h' → R' v h') : wpIn P CT i env h R' := by
  unfold wpIn at n ⊢
  split at n
  · exact n
  · next hw => exact hr _ _ n
  · split at n
    · split at n
      · exact n.elim
      · split at n
        · exact n.elim
        · exact hr _ _ n
    · split at n
      · exact n.elim
      · exact hr _ _ n
    · split at n
      · exact n.elim
      · exact hm _ _ _ _ _ hr n
    · split at n
      · exact hm _ _ _ _ _ hr n
      · exact n.elim
theorem sS {s : Nat} {g : Option (Nat × Bool)} {r : List In} {Q : Env → Hp → Prop} (n : WI P (ACall P) ⟨some s, g, ik⟩ env h fun v h' => SR P (ACall P) r ((s, v) :: env) h' Q) : SR P (ACall P) (⟨some s, g, ik⟩ :: r) env h Q :=
  ⟨w_imp (CT := ACall P) n.out (fun _ _ _ _ _ hr c => c.mono hr) fun _ _ n => n.out⟩
theorem sSn {g : Option (Nat × Bool)} {r : List In} {Q : Env → Hp → Prop} (n : WI P (ACall P) ⟨none, g, ik⟩ env h fun _ h' => SR P (ACall P) r env h' Q) : SR P (ACall P) (⟨none, g, ik⟩ :: r) env h Q :=
  ⟨w_imp (CT := ACall P) n.out (fun _ _ _ _ _ hr c => c.mono hr) fun _ _ n => n.out⟩
theorem dS {ix s : Nat} {g : Option (Nat × Bool)} {eff : Bool} {L : List DE} {Q : Env → Hp → Prop} (n : WI P (ACall P) ⟨some s, g, ik⟩ env h fun v h' => SD P (ACall P) L ((s, v) :: env) h' Q) : SD P (ACall P) (⟨ix, ⟨some s, g, ik⟩, eff, []⟩ :: L) env h Q :=
  ⟨w_imp (CT := ACall P) n.out (fun _ _ _ _ _ hr c => c.mono hr) fun _ _ n => ⟨trivial, n.out⟩⟩
theorem dSn {ix : Nat} {g : Option (Nat × Bool)} {eff : Bool} {L : List DE} {Q : Env → Hp → Prop} (n : WI P (ACall P) ⟨none, g, ik⟩ env h fun _ h' => SD P (ACall P) L env h' Q) : SD P (ACall P) (⟨ix, ⟨none, g, ik⟩, eff, []⟩ :: L) env h Q :=
  ⟨w_imp (CT := ACall P) n.out (fun _ _ _ _ _ hr c => c.mono hr) fun _ _ n => ⟨trivial, n.out⟩⟩
theorem dSR {ix s : Nat} {g : Option (Nat × Bool)} {eff : Bool} {re : List In} {L : List DE} {Q : Env → Hp → Prop} (n : WI P (ACall P) ⟨some s, g, ik⟩ env h fun v h' => allAgain re env h' ∧ SD P (ACall P) L ((s, v) :: env) h' Q) : SD P (ACall P) (⟨ix, ⟨some s, g, ik⟩, eff, re⟩ :: L) env h Q :=
  ⟨w_imp (CT := ACall P) n.out (fun _ _ _ _ _ hr c => c.mono hr) fun _ _ n => ⟨n.1, n.2.out⟩⟩
theorem dSRn {ix : Nat} {g : Option (Nat × Bool)} {eff : Bool} {re : List In} {L : List DE} {Q : Env → Hp → Prop} (n : WI P (ACall P) ⟨none, g, ik⟩ env h fun _ h' => allAgain re env h' ∧ SD P (ACall P) L env h' Q) : SD P (ACall P) (⟨ix, ⟨none, g, ik⟩, eff, re⟩ :: L) env h Q :=
  ⟨w_imp (CT := ACall P) n.out (fun _ _ _ _ _ hr c => c.mono hr) fun _ _ n => ⟨n.1, n.2.out⟩⟩
theorem agS {re : List In} {L : List DE} {env' : Env} {Q : Env → Hp → Prop} (a : allAgain re env h) (n : SD P CT L env' h Q) : allAgain re env h ∧ SD P CT L env' h Q := ⟨a, n⟩
theorem ag_nil : allAgain [] env h := trivial
theorem ag_cons {i : In} {r : List In} (a : again i env h) (n : allAgain r env h) : allAgain (i :: r) env h := ⟨a, n⟩
theorem ag_l {d' t i o : Nat} (g1 : getF env t = some (.pointer (some ⟨i, o, none⟩))) (g2 : getF env d' = some v) (hr : h.rd i o 1 = some [v]) : again ⟨some d', none, .op .ld1 [.tmp t]⟩ env h := ag_ld ((getF_eq _ _).symm.trans g1) ((getF_eq _ _).symm.trans g2) hr
theorem ag_ln {d' t i o c : Nat} {us : List Value} (g1 : getF env t = some (.pointer (some ⟨i, o, none⟩))) (g2 : getF env d' = some (.agg ⟨us⟩)) (hr : h.rd i o c = some us) : again ⟨some d', none, .op (.ldn c) [.tmp t]⟩ env h := by
  rw [getF_eq] at g1 g2
  unfold again
  simp only [wanted, mapE, evA, g1, g2, stepK, hr, Option.map_some]
theorem ag_gT {t : Nat} {b c : Bool} (g : getF env t = some (.bool c)) (hc : (c == b) = true) (n : again ⟨d, none, ik⟩ env h) : again ⟨d, some (t, b), ik⟩ env h := by
  rw [getF_eq] at g
  unfold again at n ⊢
  simp only [wanted, g, hc] at n ⊢
  exact n
theorem ag_gF {t : Nat} {b c : Bool} (g : getF env t = some (.bool c)) (hc : (c == b) = false) : again ⟨d, some (t, b), ik⟩ env h := by
  rw [getF_eq] at g
  unfold again
  simp only [wanted, g, hc]
/-- Under a guard that is not told: the slot holds what it would, or nothing. -/
theorem w_gB {t : Nat} {b c : Bool} (g : getF env t = some (.bool c)) (e : (c == b) = true → opF env k xs h = some (v, h)) (n : R (if (c == b) = true then v else undef) h) : WI P CT ⟨d, some (t, b), .op k xs⟩ env h R := by
  cases hc : c == b
  · rw [hc] at n
    exact w_gF g hc n
  · rw [hc] at n
    exact w_gT g hc (w_op (e hc) n)
theorem w_gBc {f : FuncId} {t : Nat} {b c : Bool} (g : getF env t = some (.bool c)) (hm : ∀ (S S' : Value → Hp → Prop), (∀ v h', S v h' → S' v h') → CT f vs h S → CT f vs h S') (e : (c == b) = true → mapF env xs = some vs) (cl : CT f vs h fun u g => u = v ∧ h = g) (n : R (if (c == b) = true then v else undef) h) : WI P CT ⟨d, some (t, b), .call f xs⟩ env h R := by
  cases hc : c == b
  · rw [hc] at n
    exact w_gF g hc n
  · rw [hc] at n
    exact w_gT g hc (w_call (e hc) (hm _ _ (fun u g' hu => by rw [hu.1, ← hu.2]; exact n) cl))
def okN : K → Bool
  | .new _ _ | .box _ | .bsl _ _ _ _ _ | .bld _ _ _ => false
  | k => okK k
theorem w_opk (_ : okK k = true) (e : opF env k xs h = some (v, h')) (n : R v h') : WI P CT ⟨d, none, .op k xs⟩ env h R := w_op e n
theorem w_mv {x : Operand} (e : evF env x = some v) (n : R v h) : WI P CT ⟨d, none, .op .mv [x]⟩ env h R :=
  w_op (v := v) (h' := h) (by unfold opF; simp only [mapF, e, stepK]) n
theorem w_add (e : mapF env xs = some [.int .i64 a, .int .i64 b]) (hx : -9223372036854775808 ≤ a + b ∧ a + b ≤ 9223372036854775807) (n : R (.int .i64 (a + b)) h) : WI P CT ⟨d, none, .op (.bin .add) xs⟩ env h R :=
  w_v (v := .int .i64 (IntKind.i64.wrap (a + b))) (by unfold opF; rw [e]; rfl) (by rw [wrap_i64' hx.1 hx.2]) n
theorem w_sub (e : mapF env xs = some [.int .i64 a, .int .i64 b]) (hx : -9223372036854775808 ≤ a - b ∧ a - b ≤ 9223372036854775807) (n : R (.int .i64 (a - b)) h) : WI P CT ⟨d, none, .op (.bin .sub) xs⟩ env h R :=
  w_v (v := .int .i64 (IntKind.i64.wrap (a - b))) (by unfold opF; rw [e]; rfl) (by rw [wrap_i64' hx.1 hx.2]) n
theorem w_mul (e : mapF env xs = some [.int .i64 a, .int .i64 b]) (hx : -9223372036854775808 ≤ a * b ∧ a * b ≤ 9223372036854775807) (n : R (.int .i64 (a * b)) h) : WI P CT ⟨d, none, .op (.bin .mul) xs⟩ env h R :=
  w_v (v := .int .i64 (IntKind.i64.wrap (a * b))) (by unfold opF; rw [e]; rfl) (by rw [wrap_i64' hx.1 hx.2]) n
theorem w_addu (e : mapF env xs = some [.int .u64 a, .int .u64 b]) (hx : 0 ≤ a + b ∧ a + b ≤ 18446744073709551615) (n : R (.int .u64 (a + b)) h) : WI P CT ⟨d, none, .op (.bin .add) xs⟩ env h R :=
  w_v (v := .int .u64 (IntKind.u64.wrap (a + b))) (by unfold opF; rw [e]; rfl) (by rw [wrap_u64' hx.1 hx.2]) n
theorem w_mulu (e : mapF env xs = some [.int .u64 a, .int .u64 b]) (hx : 0 ≤ a * b ∧ a * b ≤ 18446744073709551615) (n : R (.int .u64 (a * b)) h) : WI P CT ⟨d, none, .op (.bin .mul) xs⟩ env h R :=
  w_v (v := .int .u64 (IntKind.u64.wrap (a * b))) (by unfold opF; rw [e]; rfl) (by rw [wrap_u64' hx.1 hx.2]) n
theorem w_neg (e : mapF env xs = some [.int .i64 a]) (hx : -9223372036854775808 ≤ -a ∧ -a ≤ 9223372036854775807) (n : R (.int .i64 (-a)) h) : WI P CT ⟨d, none, .op .neg xs⟩ env h R :=
  w_v (v := .int .i64 (IntKind.i64.wrap (0 - a))) (by unfold opF; rw [e]; rfl) (by rw [show 0 - a = -a by omega, wrap_i64' hx.1 hx.2]) n
theorem w_ci (e : mapF env xs = some [.int kk a]) (hx : -9223372036854775808 ≤ a ∧ a ≤ 9223372036854775807) (n : R (.int .i64 a) h) : WI P CT ⟨d, none, .op (.cvt .i64) xs⟩ env h R :=
  w_v (v := .int .i64 (IntKind.i64.wrap a)) (by unfold opF; rw [e]; rfl) (by rw [wrap_i64' hx.1 hx.2]) n
theorem w_cu (e : mapF env xs = some [.int kk a]) (hx : 0 ≤ a ∧ a ≤ 18446744073709551615) (n : R (.int .u64 a) h) : WI P CT ⟨d, none, .op (.cvt .u64) xs⟩ env h R :=
  w_v (v := .int .u64 (IntKind.u64.wrap a)) (by unfold opF; rw [e]; rfl) (by rw [wrap_u64' hx.1 hx.2]) n
theorem w_adduw (e : mapF env xs = some [.int .u64 a, .int .u64 b]) (n : R (.int .u64 (IntKind.u64.wrap (a + b))) h) : WI P CT ⟨d, none, .op (.bin .add) xs⟩ env h R :=
  w_op (v := .int .u64 (IntKind.u64.wrap (a + b))) (h' := h) (by unfold opF; rw [e]; rfl) n
/-- A number of which nothing is told. -/
theorem w_and (e : mapF env xs = some [.int kk a, .int kk b]) (n : ∀ x : Int, R (.int kk x) h) : WI P CT ⟨d, none, .op (.bin .and) xs⟩ env h R := by
  refine w_op (v := .int kk (kk.wrap (BitVec.ofInt kk.bits a &&& BitVec.ofInt kk.bits b).toNat)) (h' := h) ?_ (n _)
  unfold opF
  rw [e]
  show (if kk = kk then some (Value.int kk (kk.wrap (BitVec.ofInt kk.bits a &&& BitVec.ofInt kk.bits b).toNat)) else none).map (·, h) = _
  rw [if_pos rfl]
  rfl
theorem w_max (e : mapF env xs = some [.int kk a, .int kk b]) (n : R (.int kk (max a b)) h) : WI P CT ⟨d, none, .op (.mm true) xs⟩ env h R := by
  refine w_op (v := .int kk (max a b)) (h' := h) ?_ n
  unfold opF
  rw [e]
  show (if kk = kk then some (Value.int kk (if b > a then b else a)) else none).map (·, h) = _
  rw [if_pos rfl, show (if b > a then b else a) = max a b by rw [Int.max_def]; split <;> split <;> omega]
  rfl
theorem w_min (e : mapF env xs = some [.int kk a, .int kk b]) (n : R (.int kk (min a b)) h) : WI P CT ⟨d, none, .op (.mm false) xs⟩ env h R := by
  refine w_op (v := .int kk (min a b)) (h' := h) ?_ n
  unfold opF
  rw [e]
  show (if kk = kk then some (Value.int kk (if b < a then b else a)) else none).map (·, h) = _
  rw [if_pos rfl, show (if b < a then b else a) = min a b by rw [Int.min_def]; split <;> split <;> omega]
  rfl
theorem w_cuw (e : mapF env xs = some [.int kk a]) (n : R (.int .u64 (IntKind.u64.wrap a)) h) : WI P CT ⟨d, none, .op (.cvt .u64) xs⟩ env h R :=
  w_op (v := .int .u64 (IntKind.u64.wrap a)) (h' := h) (by unfold opF; rw [e]; rfl) n
theorem fill_all : ∀ (vs pre z : List Value) (pl : Nat → Option (Nat × Nat)), (∀ i, i < vs.length → pl (pre.length + i) = some (pre.length + i, 1)) → z.length = vs.length → vs.all one = true → Instr.fill pl ⟨pre ++ z⟩ ((List.range' pre.length vs.length).zip vs) = some ⟨pre ++ vs⟩
  | [], pre, z, pl, _, hz, _ => by
    have : z = [] := List.eq_nil_of_length_eq_zero hz
    subst this
    simp [Instr.fill]
  | v :: vs, pre, z, pl, hp, hz, ho => by
    cases z with
    | nil => simp at hz
    | cons a z =>
      simp only [List.all_cons, Bool.and_eq_true] at ho
      have hc : v.cells = #[v] := by cases v <;> first | rfl | exact absurd ho.1 Bool.false_ne_true
      simp only [List.length_cons, List.range'_succ, List.zip_cons_cons, Instr.fill]
      have h0 := hp 0 (by simp)
      rw [Nat.add_zero] at h0
      rw [h0]
      simp only [hc]
      have ih := fill_all vs (pre ++ [v]) z pl (fun i hi => by have := hp (i + 1) (by simp; omega); simpa [Nat.add_assoc, Nat.add_comm 1 i] using this) (by simpa using hz) ho.2
      simp only [List.length_append, List.length_cons, List.length_nil, Nat.zero_add, List.append_assoc, List.cons_append, List.nil_append] at ih
      rw [if_neg (by simp)]
      rw [← ih]
      congr 1
      simp
/-- A literal of a struct with all its parts. -/
theorem w_bldF {z : Array Value} {pl : List (Nat × Nat)} {ix : List Nat} (e : mapF env xs = some vs) (hx : ix = List.range' 0 vs.length) (hz : z.size = vs.length) (hp : pl = (List.range vs.length).map fun i => (i, 1)) (ho : vs.all one = true) (n : R (.agg ⟨vs⟩) h) : WI P CT ⟨d, none, .op (.bld z pl ix) xs⟩ env h R := by
  refine w_op (v := .agg ⟨vs⟩) (h' := h) ?_ n
  unfold opF
  rw [e]
  have hl : ix.length = vs.length := by rw [hx]; simp
  simp only [stepK, hl, if_true]
  have := fill_all vs [] z.toList (fun i => pl[i]?) (fun i hi => by rw [hp]; simp [hi]) (by simpa using hz) ho
  simp only [List.nil_append, List.length_nil] at this
  rw [hx, show (⟨z.toList⟩ : Array Value) = z from rfl] at *
  rw [this]
  rfl
theorem new_get (h : Hp) (o : Ob) : (h.new o).get h.nx = some o := by simp [Hp.new]
theorem fold_at (off : Nat) : ∀ (cs pre z : List Value) (j : Nat), pre.length = off + j → cs.length ≤ z.length → (cs.zipIdx j).foldl (fun (a : Array Value) (p : Value × Nat) => a.setIfInBounds (off + p.2) p.1) ⟨pre ++ z⟩ = ⟨pre ++ cs ++ z.drop cs.length⟩
  | [], pre, z, j, _, _ => by simp
  | c :: cs, pre, z, j, hj, hl => by
    cases z with
    | nil => simp at hl
    | cons a z =>
      simp only [List.zipIdx_cons, List.foldl_cons]
      have hs : (⟨pre ++ a :: z⟩ : Array Value).setIfInBounds (off + j) c = ⟨(pre ++ [c]) ++ z⟩ := by
        apply Array.ext'
        rw [Array.toList_setIfInBounds, ← hj]
        simp
      rw [hs, fold_at off cs (pre ++ [c]) z (j + 1) (by simp; omega) (by simpa using hl)]
      simp
theorem fill_rows (esz : Nat) : ∀ (vs : List Value) (k : Nat) (pre z : List Value), pre.length = k * esz → z.length = vs.length * esz → (vs.all fun v => decide (v.cells.size = esz)) = true →
    Instr.fill (fun i => some (i * esz, esz)) ⟨pre ++ z⟩ ((List.range' k vs.length).zip vs) = some ⟨pre ++ vs.flatMap fun v => v.cells.toList⟩
  | [], k, pre, z, _, hz, _ => by
    have : z = [] := List.eq_nil_of_length_eq_zero (by simpa using hz)
    subst this
    simp [Instr.fill]
  | v :: vs, k, pre, z, hp, hz, ho => by
    simp only [List.all_cons, Bool.and_eq_true, decide_eq_true_eq] at ho
    have hvl : v.cells.toList.length = esz := by simpa using ho.1
    have hz2 : z.length = esz + vs.length * esz := by rw [hz]; simp [Nat.add_mul]; omega
    simp only [List.length_cons, List.range'_succ, List.zip_cons_cons, Instr.fill]
    rw [if_neg (by simp [ho.1]; omega)]
    have hf := fold_at (k * esz) v.cells.toList pre z 0 (by omega) (by omega)
    have hf2 : v.cells.zipIdx.foldl (fun cs x => cs.setIfInBounds (k * esz + x.2) x.1) (⟨pre ++ z⟩ : Array Value) = ⟨(pre ++ v.cells.toList) ++ z.drop esz⟩ := by
      rw [hvl] at hf
      rw [← Array.foldl_toList, Array.toList_zipIdx]
      exact hf
    rw [hf2, fill_rows esz vs (k + 1) (pre ++ v.cells.toList) (z.drop esz) (by simp [hp, ho.1, Nat.add_mul]) (by simp; omega) ho.2]
    simp
/-- A literal of a slice with all its parts: a new row. -/
theorem w_bslF {t : TypeId} {esz len : Nat} {z : Array Value} {ix : List Nat} (e : mapF env xs = some vs) (hl : vs.length = len) (hx : ix = List.range' 0 len) (hz : z.size = len * esz) (ho : (vs.all fun v => decide (v.cells.size = esz)) = true)
    (n : ∀ g, Ext h g → g.get h.nx = some ⟨vs.flatMap fun v => v.cells.toList, true, esz⟩ → h.nx < g.nx → R (.slice (some ⟨h.nx, 0, none⟩) len len) g) : WI P CT ⟨d, none, .op (.bsl t esz len z ix) xs⟩ env h R := by
  refine w_op (v := .slice (some ⟨h.nx, 0, none⟩) len len) (h' := h.new ⟨vs.flatMap fun v => v.cells.toList, true, esz⟩) ?_ (n _ (Ext.new _ _) (new_get _ _) (by simp [Hp.new]))
  unfold opF
  rw [e]
  have hl2 : ix.length = vs.length := by rw [hx, hl]; simp
  simp only [stepK, hl2, if_true]
  have := fill_rows esz vs 0 [] z.toList (by simp) (by simpa [hl] using hz) ho
  simp only [List.nil_append] at this
  rw [hx, ← hl]
  rw [show (⟨z.toList⟩ : Array Value) = z from rfl] at this
  rw [this]
  rfl
theorem w_ext {i : Nat} {us : List Value} (e : mapF env xs = some [.tuple ⟨us⟩]) (hv : us[i]? = some v) (n : R v h) : WI P CT ⟨d, none, .op (.ext i) xs⟩ env h R := by
  refine w_op (v := v) (h' := h) ?_ n
  unfold opF
  rw [e]
  simp only [stepK]
  have : (⟨us⟩ : Array Value)[i]? = some v := by simpa using hv
  rw [this]
  rfl
theorem w_ixa {len esz m : Nat} {us : List Value} {x : Int} (e : mapF env xs = some [.agg ⟨us⟩, .int kk x]) (hx : 0 ≤ x ∧ x < len) (hv : us[x.toNat * esz]? = some v) (n : R v h) : WI P CT ⟨d, none, .op (.ixa len esz m false) xs⟩ env h R := by
  refine w_op (v := v) (h' := h) ?_ n
  unfold opF
  rw [e]
  simp only [stepK, if_pos hx]
  have : (⟨us⟩ : Array Value)[x.toNat * esz]? = some v := by simpa using hv
  rw [this]
  rfl
theorem w_pickT {x y : Value} (e : mapF env xs = some [.bool true, x, y]) (n : R x h) : WI P CT ⟨d, none, .op .pick xs⟩ env h R :=
  w_op (v := x) (h' := h) (by unfold opF; rw [e]; rfl) n
theorem w_pickF {x y : Value} (e : mapF env xs = some [.bool false, x, y]) (n : R y h) : WI P CT ⟨d, none, .op .pick xs⟩ env h R :=
  w_op (v := y) (h' := h) (by unfold opF; rw [e]; rfl) n
theorem w_rem (e : mapF env xs = some [.int kk a, .int kk b]) (ha : 0 ≤ a) (hb : 0 < b) (n : R (.int kk (a % b)) h) : WI P CT ⟨d, none, .op (.bin .rem) xs⟩ env h R := w_op ((opF_eq _ _ _ _).trans (o_rem ((mapF_eq _ _).symm.trans e) ha hb)) n
theorem w_quo (e : mapF env xs = some [.int .i64 a, .int .i64 b]) (ha : 0 ≤ a ∧ a ≤ 9223372036854775807) (hb : 0 < b) (n : R (.int .i64 (a / b)) h) : WI P CT ⟨d, none, .op (.bin .quo) xs⟩ env h R := by
  refine w_op (v := .int .i64 (a / b)) (h' := h) ?_ n
  unfold opF
  rw [e]
  have : IntKind.i64 = IntKind.i64 ∧ b ≠ 0 := ⟨rfl, by omega⟩
  have h1 : 0 ≤ a / b := Int.ediv_nonneg ha.1 (by omega)
  have h2 : a / b ≤ a := Int.ediv_le_self _ ha.1
  show (if IntKind.i64 = IntKind.i64 ∧ b ≠ 0 then some (Value.int .i64 (IntKind.i64.wrap (a.tdiv b))) else none).map (·, h) = _
  rw [if_pos this, Int.tdiv_eq_ediv_of_nonneg ha.1, wrap_i64' (by omega) (by omega)]
  rfl
theorem w_quou (e : mapF env xs = some [.int .u64 a, .int .u64 b]) (ha : 0 ≤ a ∧ a ≤ 18446744073709551615) (hb : 0 < b) (n : R (.int .u64 (a / b)) h) : WI P CT ⟨d, none, .op (.bin .quo) xs⟩ env h R := by
  refine w_op (v := .int .u64 (a / b)) (h' := h) ?_ n
  unfold opF
  rw [e]
  have : IntKind.u64 = IntKind.u64 ∧ b ≠ 0 := ⟨rfl, by omega⟩
  have h1 : 0 ≤ a / b := Int.ediv_nonneg ha.1 (by omega)
  have h2 : a / b ≤ a := Int.ediv_le_self _ ha.1
  show (if IntKind.u64 = IntKind.u64 ∧ b ≠ 0 then some (Value.int .u64 (IntKind.u64.wrap (a.tdiv b))) else none).map (·, h) = _
  rw [if_pos this, Int.tdiv_eq_ediv_of_nonneg ha.1, wrap_u64' (by omega) (by omega)]
  rfl
/-- A comparison whose answer is told. -/
theorem w_cmp {op : BinOp} {c c2 : Bool} (e : opF env (.bin op) xs h = some (.bool c, h')) (hc : c = c2) (n : R (.bool c2) h') : WI P CT ⟨d, none, .op (.bin op) xs⟩ env h R := by subst hc; exact w_op e n
theorem w_iad {i o len cap : Nat} {sp : Option Nat} {x : Int} {esz : Nat} (e : mapF env xs = some [.slice (some ⟨i, o, sp⟩) len cap, .int kk x]) (hx : 0 ≤ x ∧ x < len) (n : R (.pointer (some ⟨i, o + x.toNat * esz, none⟩)) h) :
    WI P CT ⟨d, none, .op (.iad esz) xs⟩ env h R := w_op ((opF_eq _ _ _ _).trans (o_iad ((mapF_eq _ _).symm.trans e) hx)) n
theorem w_iaa {i o len : Nat} {x : Int} {esz : Nat} (e : mapF env xs = some [.pointer (some ⟨i, o, none⟩), .int kk x]) (hx : 0 ≤ x ∧ x < len) (n : R (.pointer (some ⟨i, o + x.toNat * esz, none⟩)) h) :
    WI P CT ⟨d, none, .op (.iaa len esz) xs⟩ env h R := w_op ((opF_eq _ _ _ _).trans (o_iaa ((mapF_eq _ _).symm.trans e) hx)) n
theorem w_ld {i o : Nat} (e : mapF env xs = some [.pointer (some ⟨i, o, none⟩)]) (hr : h.rd i o 1 = some [v]) (n : R v h) : WI P CT ⟨d, none, .op .ld1 xs⟩ env h R := w_op ((opF_eq _ _ _ _).trans (o_ld ((mapF_eq _ _).symm.trans e) hr)) n
theorem w_ldn {i o c : Nat} {us : List Value} (e : mapF env xs = some [.pointer (some ⟨i, o, none⟩)]) (hr : h.rd i o c = some us) (n : R (.agg ⟨us⟩) h) : WI P CT ⟨d, none, .op (.ldn c) xs⟩ env h R := w_op ((opF_eq _ _ _ _).trans (o_ldn ((mapF_eq _ _).symm.trans e) hr)) n
theorem w_st {i o c : Nat} {u : Value} (e : mapF env xs = some [.pointer (some ⟨i, o, none⟩), u]) (hs : u.cells.size = c) (hw : h.wr i o u.cells.toList = some h') (n : R undef h') : WI P CT ⟨d, none, .op (.st c) xs⟩ env h R := w_op ((opF_eq _ _ _ _).trans (o_st ((mapF_eq _ _).symm.trans e) hs hw)) n
theorem roundE_r {γ : Type} {E : γ → Env} {H : γ → Hp → Prop} {mu : γ → Nat} {k : Nat} {Q : Exit → Env → Hp → Prop} : roundE E H mu k Q .ret env h = Q .ret env h := rfl
theorem rd_g {h : Hp} {i o : Nat} {v : Value} {us : List Value} {b : Bool} {e : Nat} (hg : h.get i = some ⟨us, b, e⟩) (hx : us[o]? = some v) : h.rd i o 1 = some [v] := by
  have := rd_f hg hx
  rwa [Nat.zero_add] at this
theorem rd_new {h : Hp} {o : Nat} {v : Value} {us : List Value} {b : Bool} {e : Nat} (hx : us[o]? = some v) : (h.new ⟨us, b, e⟩).rd h.nx o 1 = some [v] := rd_g (new_get h _) hx
theorem rd_newn {h : Hp} {n : Nat} {us : List Value} {b : Bool} {e : Nat} (hn : us.length = n) : (h.new ⟨us, b, e⟩).rd h.nx 0 n = some us := by
  unfold Hp.rd
  simp only [new_get]
  rw [if_pos (by omega)]
  simp [← hn]
/-- A new object: of what was there nothing turns. -/
theorem w_box {t : TypeId} {x : Operand} (e : evF env x = some v) (n : ∀ g, Ext h g → g.get h.nx = some ⟨v.cells.toList, true, 0⟩ → h.nx < g.nx → R (.pointer (some ⟨h.nx, 0, none⟩)) g) : WI P CT ⟨d, none, .op (.box t) [x]⟩ env h R := by
  refine w_op (v := .pointer (some ⟨h.nx, 0, none⟩)) (h' := h.new ⟨v.cells.toList, true, 0⟩) ?_ (n _ (Ext.new _ _) (new_get _ _) (by simp [Hp.new]))
  unfold opF
  simp only [mapF, e, stepK, putPtr]
theorem w_new {t : TypeId} {z : Value} (n : ∀ g, Ext h g → g.get h.nx = some ⟨z.cells.toList, true, 0⟩ → h.nx < g.nx → R (.pointer (some ⟨h.nx, 0, none⟩)) g) : WI P CT ⟨d, none, .op (.new t z) []⟩ env h R := by
  refine w_op (v := .pointer (some ⟨h.nx, 0, none⟩)) (h' := h.new ⟨z.cells.toList, true, 0⟩) ?_ (n _ (Ext.new _ _) (new_get _ _) (by simp [Hp.new]))
  unfold opF
  simp only [mapF, stepK, putPtr]
/-- A store into an object of one's own. -/
theorem w_stn {i c : Nat} {u : Value} {us : List Value} {m : Nat} (e : mapF env xs = some [.pointer (some ⟨i, 0, none⟩), u]) (hs : u.cells.size = c) (hg : h.get i = some ⟨us, true, m⟩) (hl : us.length = c) (ho : u.cells.toList.all one = true) (n : R undef (h.put i ⟨u.cells.toList, true, m⟩)) : WI P CT ⟨d, none, .op (.st c) xs⟩ env h R := by
  refine w_st (h' := h.put i ⟨u.cells.toList, true, m⟩) e hs ?_ n
  unfold Hp.wr
  simp only [hg]
  rw [if_pos ⟨trivial, by simp; omega, ho⟩]
  have hz : ∀ (vs cs : List Value), cs.length = vs.length → splice cs 0 vs = vs := by
    intro vs
    induction vs with
    | nil => intro cs hc; cases cs with
      | nil => rfl
      | cons a b => simp at hc
    | cons v vs ih =>
      intro cs hc
      cases cs with
      | nil => simp at hc
      | cons a b =>
        have hset : ∀ (vs : List Value) (cs : List Value) (k : Nat) (x : Value), splice (x :: cs) (k + 1) vs = x :: splice cs k vs := by
          intro vs
          induction vs with
          | nil => intro cs k x; rfl
          | cons v vs ih => intro cs k x; simp only [splice, List.set_cons_succ]; exact ih _ _ _
        simp only [splice, List.set_cons_zero, Nat.zero_add]
        rw [hset vs b 0 v, ih b (by simpa using hc)]
  congr 2
  exact congrArg (Ob.mk · true m) (hz _ _ (by simp; omega))
theorem o_ldF {i o : Nat} (e : mapF env xs = some [.pointer (some ⟨i, o, none⟩)]) (hr : h.rd i o 1 = some [v]) : opF env .ld1 xs h = some (v, h) := (opF_eq _ _ _ _).trans (o_ld ((mapF_eq _ _).symm.trans e) hr)
theorem Ext.own {h g g' : Hp} (x : Ext h g) (m : ∀ k, k ≠ h.nx → g'.get k = g.get k) (n : g'.nx = g.nx) : Ext h g' := ⟨by rw [n]; exact x.1, fun k hk => (m k (by omega)).trans (x.2 k hk)⟩
theorem w_stN {i c : Nat} {u : Value} {us : List Value} {m : Nat} (e : mapF env xs = some [.pointer (some ⟨i, 0, none⟩), u]) (hs : u.cells.size = c) (hg : h.get i = some ⟨us, true, m⟩) (hl : us.length = c) (ho : u.cells.toList.all one = true)
    (n : ∀ g, (∀ k, k ≠ i → g.get k = h.get k) → g.get i = some ⟨u.cells.toList, true, m⟩ → g.nx = h.nx → R undef g) : WI P CT ⟨d, none, .op (.st c) xs⟩ env h R :=
  w_stn e hs hg hl ho (n _ (fun _ hk => hput_ne _ _ hk) (hput_same _ _ _) rfl)
/-- A store into one cell of an object of one's own. -/
theorem w_st1 {i o : Nat} {u : Value} {us : List Value} {m : Nat} (e : mapF env xs = some [.pointer (some ⟨i, o, none⟩), u]) (hs : u.cells = #[u]) (hg : h.get i = some ⟨us, true, m⟩) (hl : o < us.length) (ho : one u = true)
    (n : ∀ g, (∀ k, k ≠ i → g.get k = h.get k) → g.get i = some ⟨us.set o u, true, m⟩ → g.nx = h.nx → R undef g) : WI P CT ⟨d, none, .op (.st 1) xs⟩ env h R := by
  have hw := wr_f hg hl ho
  rw [Nat.zero_add] at hw
  exact w_st e (by rw [hs]; rfl) (by rw [hs]; exact hw) (n _ (fun _ hk => hput_ne _ _ hk) (hput_same _ _ _) rfl)
theorem Ext.put_new {h g : Hp} (x : Ext h g) (o : Ob) : Ext h (g.put h.nx o) := ⟨x.1, fun k hk => (hput_ne _ _ (by omega)).trans (x.2 k hk)⟩
theorem is_okk (_ : okK k = true) (n : WI P CT ⟨d, none, .op k xs⟩ env h R) : WI P CT ⟨d, none, .op k xs⟩ env h R := n
theorem is_okn (_ : okN k = true) (n : WI P CT ⟨d, none, .op k xs⟩ env h R) : WI P CT ⟨d, none, .op k xs⟩ env h R := n
theorem is_ld (n : WI P CT ⟨d, none, .op .ld1 xs⟩ env h R) : WI P CT ⟨d, none, .op .ld1 xs⟩ env h R := n
theorem is_ldn {c : Nat} (n : WI P CT ⟨d, none, .op (.ldn c) xs⟩ env h R) : WI P CT ⟨d, none, .op (.ldn c) xs⟩ env h R := n
theorem rd_f0 {h : Hp} {i : Nat} {u : Value} {us : List Value} {b : Bool} {e : Nat} (hg : h.get i = some ⟨u :: us, b, e⟩) : h.rd i 0 1 = some [u] := rd_f (x := 0) hg rfl
theorem rd_row {h : Hp} {i : Nat} {us : List Value} {b : Bool} {e : Nat} (hg : h.get i = some ⟨us, b, e⟩) {x : Nat} {v : Value} (hx : us[x]? = some v) : h.rd i (0 + x * 1) 1 = some [v] := by
  rw [Nat.mul_one]; exact rd_f hg hx
theorem rd_all {h : Hp} {i n : Nat} {us : List Value} {b : Bool} {e : Nat} (hg : h.get i = some ⟨us, b, e⟩) (hn : us.length = n) : h.rd i 0 n = some us := by
  unfold Hp.rd
  simp only [hg]
  rw [if_pos (by omega)]
  simp [← hn]
/-- A result that stands in a cell of its own. -/
theorem end_cell1 {a i n m : Nat} {t : TypeId} {dd : TypeDesc} {us : List Value} {b : Bool} (e : getF env a = some (.pointer (some ⟨i, 0, none⟩))) (hg : h.get i = some ⟨us, b, m⟩) (hu : P.underlying t = some dd) (hd : isAggD dd = true) (hi : (P.info? t).map (·.size) = some n) (hl : us.length = n) (r : R (.agg ⟨us⟩) h) : endQ P [.cell a t] R .ret env h := by
  refine ⟨[.agg ⟨us⟩], ?_, r⟩
  rw [getF_eq] at e
  cases hti : P.info? t with
  | none => rw [hti] at hi; cases hi
  | some ti =>
  rw [hti] at hi
  have hn : ti.size = n := Option.some.inj hi
  have : h.rd i 0 ti.size = some us := rd_all hg (by rw [hl, hn])
  simp [resAll, resOne, e, hu, hd, hti, this]
end
end Go.Proofs.YtapbmmlgmcmpnaaDoorW.Am
/- Structs of plain fields, compared. -/
namespace Go.Proofs.YtapbmmlgmcmpnaaDoorW.Am
open Go Go.RowKit
section
variable {P : Program}
theorem ps_bind {α β : Type} (s : Sem α) (f : α → Sem β) : pureSem P (s >>= f) = (pureSem P s).bind fun a => pureSem P (f a) := by
  show pureSem P (Sem.bind s f) = _
  induction s with
  | pure a => rfl
  | program k ih => simp only [Sem.bind, pureSem]; exact ih P
  | _ => rfl
inductive SK
  | int (k : IntKind)
  | bool
  | str
def skOf (P : Program) (t : TypeId) : Option SK := match P.underlying t with
  | some (.int k) => some (.int k)
  | some .bool => some .bool
  | some .string => some .str
  | _ => none
def skOk : SK → Value → Bool
  | .int k, .int k' _ => decide (k = k')
  | .bool, .bool _ => true
  | .str, .string _ => true
  | _, _ => false
def skAll : List SK → List Value → Bool
  | [], [] => true
  | k :: ks, v :: vs => skOk k v && skAll ks vs
  | _, _ => false
def eqV : Value → Value → Bool
  | .int _ a, .int _ b => a == b
  | .bool a, .bool b => a == b
  | .string a, .string b => a == b
  | _, _ => false
def eqL : List Value → List Value → Bool
  | x :: xs, y :: ys => eqV x y && eqL xs ys
  | _, _ => true
theorem eqV_iff {k : SK} {x y : Value} (hx : skOk k x = true) (hy : skOk k y = true) : eqV x y = true ↔ x = y := by
  cases k <;> cases x <;> simp only [skOk, Bool.false_eq_true, decide_eq_true_eq] at hx <;> cases y <;> simp only [skOk, Bool.false_eq_true, decide_eq_true_eq] at hy
  · subst hx; subst hy; simp [eqV]
  · simp [eqV]
  · simp only [eqV, Value.string.injEq]
    rw [beq_toListBytes, beq_iff_eq, ByteArray.toList_eq, ByteArray.toList_eq]
    constructor
    · intro e; exact ByteArray.ext (Array.ext' e)
    · intro e; rw [e]
theorem eqL_iff : ∀ {ks : List SK} {xs ys : List Value}, skAll ks xs = true → skAll ks ys = true → (eqL xs ys = true ↔ xs = ys)
  | [], xs, ys, hx, hy => by cases xs <;> cases ys <;> simp_all [skAll, eqL]
  | k :: ks, xs, ys, hx, hy => by
    cases xs with
    | nil => cases hx
    | cons x xs =>
      cases ys with
      | nil => cases hy
      | cons y ys =>
        simp only [skAll, Bool.and_eq_true] at hx hy
        simp only [eqL, Bool.and_eq_true, List.cons.injEq]
        rw [eqV_iff hx.1 hy.1, eqL_iff hx.2 hy.2]
theorem ps_underlying {t : TypeId} {d : TypeDesc} (h : P.underlying t = some d) : pureSem P (underlying t) = some d := by
  simp [underlying, program, pureSem, h, ps_bind]; rfl
theorem ps_sc (d : Nat) {t : TypeId} {k : SK} {x y : Value} (hk : skOf P t = some k) (hx : skOk k x = true) (hy : skOk k y = true) : pureSem P (Op.equalIn (d + 1) t x y) = some (eqV x y) := by
  unfold skOf at hk
  split at hk <;> (try cases hk) <;> rename_i hu <;> cases x <;> simp only [skOk, Bool.false_eq_true, decide_eq_true_eq] at hx <;> cases y <;> simp only [skOk, Bool.false_eq_true, decide_eq_true_eq] at hy
  · subst hx; subst hy; simp only [Op.equalIn, ps_bind, ps_underlying hu, Option.bind_some]; simp [eqV]; rfl
  · simp only [Op.equalIn, ps_bind, ps_underlying hu, Option.bind_some]; rfl
  · simp only [Op.equalIn, ps_bind, ps_underlying hu, Option.bind_some]; rfl
theorem ps_part {t : TypeId} {k : SK} (hk : skOf P t = some k) {cs : Array Value} {off : Nat} {v : Value} (hv : cs[off]? = some v) : pureSem P (part t cs off) = some v := by
  have ha : pureSem P (isAgg t) = some false := by
    unfold skOf at hk
    unfold isAgg
    split at hk <;> (try cases hk) <;> rename_i hu <;> simp only [ps_bind, ps_underlying hu, Option.bind_some] <;> rfl
  unfold part
  simp only [ps_bind, ha, Option.bind_some, Bool.false_eq_true, if_false, hv]
  rfl
/-- The kinds of a struct's fields, one cell each, in their order. -/
def skFs (P : Program) : Nat → List Field → Option (List SK)
  | _, [] => some []
  | i, f :: fs => if f.offset = i ∧ f.name ≠ "_" then (match skOf P f.type, skFs P (i + 1) fs with
    | some k, some ks => some (k :: ks)
    | _, _ => none) else none
def skTab (P : Program) (t : TypeId) : Option (List SK) := match P.underlying t with
  | some (.struct fs) => if P.stoodInHeld t = false ∧ P.eqGuardType P.depth t = false then skFs P 0 fs.toList else none
  | _ => none
theorem ps_fields (d : Nat) : ∀ (fs : List Field) (i : Nat) (ks : List SK) (px py xs ys : List Value), px.length = i → py.length = i → skFs P i fs = some ks → skAll ks xs = true → skAll ks ys = true →
    pureSem P (Op.eqFields (d + 1) ⟨px ++ xs⟩ ⟨py ++ ys⟩ fs) = some (eqL xs ys) := by
  intro fs
  induction fs with
  | nil =>
    intro i ks px py xs ys _ _ hk hx hy
    cases hk
    cases xs <;> cases ys <;> simp_all [skAll, Op.eqFields, eqL] <;> rfl
  | cons f fs ih =>
    intro i ks px py xs ys hpx hpy hk hx hy
    simp only [skFs] at hk
    split at hk
    case isFalse => cases hk
    case isTrue hf =>
    split at hk
    case h_2 => cases hk
    case h_1 k ks' h1 h2 =>
    cases hk
    cases xs with
    | nil => cases hx
    | cons x xs =>
      cases ys with
      | nil => cases hy
      | cons y ys =>
        simp only [skAll, Bool.and_eq_true] at hx hy
        have gx : (⟨px ++ x :: xs⟩ : Array Value)[f.offset]? = some x := by simp [hf.1, ← hpx]
        have gy : (⟨py ++ y :: ys⟩ : Array Value)[f.offset]? = some y := by simp [hf.1, ← hpy]
        simp only [Op.eqFields, if_pos hf.2, ps_bind, ps_part h1 gx, ps_part h1 gy, Option.bind_some, ps_sc d h1 hx.1 hy.1]
        cases hb : eqV x y
        · simp [eqL, hb]; rfl
        · simp only [Bool.not_true, Bool.false_eq_true, if_false, eqL, hb, Bool.true_and]
          have := ih (i + 1) ks' (px ++ [x]) (py ++ [y]) xs ys (by simp [hpx]) (by simp [hpy]) h2 hx.2 hy.2
          simpa using this
theorem ps_pure {α : Type} (a : α) : pureSem P (pure a : Sem α) = some a := rfl
theorem ps_program : pureSem P program = some P := rfl
theorem ps_ite {α : Type} (c : Prop) [Decidable c] (a b : Sem α) : pureSem P (if c then a else b) = if c then pureSem P a else pureSem P b := by split <;> rfl
theorem ps_struct (d : Nat) {t : TypeId} {fs : Array Field} (xs ys : Array Value) (hu : P.underlying t = some (.struct fs)) (hp : P.stoodInHeld t = false) : pureSem P (Op.equalIn (d + 1) t (.agg xs) (.agg ys)) = pureSem P (Op.eqFields d xs ys fs.toList) := by
  simp only [Op.equalIn, ps_bind, ps_underlying hu, Option.bind_some, ps_program, hp, Bool.false_eq_true, if_false]
  rw [← Array.forIn_toList]
  generalize fs.toList = fs
  induction fs with
  | nil => rfl
  | cons f fs ih =>
    simp only [List.forIn_cons, Op.eqFields, ps_bind, ps_ite]
    split
    · generalize pureSem P (part f.type xs f.offset) = r1
      cases r1 with
      | none => rfl
      | some a =>
        simp only [Option.bind_some]
        generalize pureSem P (part f.type ys f.offset) = r2
        cases r2 with
        | none => rfl
        | some b =>
          simp only [Option.bind_some]
          generalize pureSem P (Op.equalIn d f.type a b) = r3
          cases r3 with
          | none => rfl
          | some r =>
            cases r
            · rfl
            · simp only [Option.bind_some, Bool.not_true, Bool.false_eq_true, if_false, ps_pure]
              exact ih
    · simp only [ps_pure, Option.bind_some]
      exact ih
theorem ps_eq {t : TypeId} {ks : List SK} {xs ys : List Value} (ht : skTab P t = some ks) (hx : skAll ks xs = true) (hy : skAll ks ys = true) (op : BinOp) (ho : op = .eql ∨ op = .neq) (x y : Operand) :
    pureSem P (do eqGuard op t x y (.agg ⟨xs⟩) (.agg ⟨ys⟩); binOp op t (.agg ⟨xs⟩) (.agg ⟨ys⟩)) = some (.bool (if op = .eql then eqL xs ys else !eqL xs ys)) := by
  unfold skTab at ht
  split at ht
  case h_2 => cases ht
  case h_1 fs hu =>
  split at ht
  case isFalse => cases ht
  case isTrue hp =>
  have he : pureSem P (Op.equal t (.agg ⟨xs⟩) (.agg ⟨ys⟩)) = some (eqL xs ys) := by
    show pureSem P (Op.equalIn (9999 + 1) t (.agg ⟨xs⟩) (.agg ⟨ys⟩)) = _
    rw [ps_struct 9999 _ _ hu hp.1]
    have := ps_fields 9998 fs.toList 0 ks [] [] xs ys rfl rfl ht hx hy
    simpa using this
  have hg : pureSem P (eqGuard op t x y (.agg ⟨xs⟩) (.agg ⟨ys⟩)) = some () := by
    rcases ho with rfl | rfl <;> simp [eqGuard, ps_bind, ps_program, hp.2, ps_pure]
  rw [ps_bind, hg, Option.bind_some]
  rcases ho with rfl | rfl
  · simp only [binOp, ps_bind, he, Option.bind_some, if_true]; rfl
  · simp only [binOp, ps_bind, he, Option.bind_some]; rfl
theorem sk_flatN {n : Nat} : ∀ {ks : List SK} {vs : List Value}, skAll ks vs = true → vs.all (flatN (n + 1)) = true
  | [], vs, h => by cases vs <;> simp_all [skAll]
  | k :: ks, vs, h => by
    cases vs with
    | nil => cases h
    | cons v vs =>
      simp only [skAll, Bool.and_eq_true] at h
      simp only [List.all_cons, Bool.and_eq_true]
      refine ⟨?_, sk_flatN h.2⟩
      cases k <;> cases v <;> first | rfl | exact absurd h.1 Bool.false_ne_true
theorem sk_flat {ks : List SK} {vs : List Value} (h : skAll ks vs = true) : flat (.agg ⟨vs⟩) = true := by
  show (⟨vs⟩ : Array Value).toList.all (flatN 7) = true
  exact sk_flatN (n := 6) h
theorem w_eqS {CT : CTy} {env : Env} {h : Hp} {d : Option Nat} {R : Value → Hp → Prop} {t u ty : TypeId} {x y : Operand} {ks : List SK} {xs ys : List Value} (ex : evA env x = some (.agg ⟨xs⟩)) (ey : evA env y = some (.agg ⟨ys⟩)) (ht : skTab P t = some ks) (hx : skAll ks xs = true) (hy : skAll ks ys = true)
    (n : ∀ b : Bool, (b = true ↔ xs = ys) → R (.bool b) h) : WI P CT ⟨d, none, .fl (.binOp .eql t x y u) ty⟩ env h R := by
  refine ⟨?_⟩
  unfold wpIn
  have hs : flatStep P env (.binOp .eql t x y u) ty = some (.bool (eqL xs ys)) := by
    have fx := sk_flat hx
    have fy := sk_flat hy
    unfold flatStep
    have ha : allFlat env (Op.binOp .eql t x y u).operands.toList = true := by
      simp [allFlat, Op.operands, ex, ey, fx, fy]
    rw [if_pos ha]
    have he : pureSem P (execOp (fun x => (evA env x).getD undef) ⟨none, .binOp .eql t x y u, ty, "", #[], none⟩) = some (.value (.bool (eqL xs ys))) := by
      simp only [execOp, ex, ey, Option.getD_some]
      rw [ps_bind, ps_eq ht hx hy .eql (.inl rfl) x y]
      rfl
    rw [he]
    rfl
  simp only [wanted, hs]
  exact n _ (eqL_iff hx hy)
theorem w_neS {CT : CTy} {env : Env} {h : Hp} {d : Option Nat} {R : Value → Hp → Prop} {t u ty : TypeId} {x y : Operand} {ks : List SK} {xs ys : List Value} (ex : evA env x = some (.agg ⟨xs⟩)) (ey : evA env y = some (.agg ⟨ys⟩)) (ht : skTab P t = some ks) (hx : skAll ks xs = true) (hy : skAll ks ys = true)
    (n : ∀ b : Bool, (b = true ↔ xs ≠ ys) → R (.bool b) h) : WI P CT ⟨d, none, .fl (.binOp .neq t x y u) ty⟩ env h R := by
  refine ⟨?_⟩
  unfold wpIn
  have hs : flatStep P env (.binOp .neq t x y u) ty = some (.bool (!eqL xs ys)) := by
    have fx := sk_flat hx
    have fy := sk_flat hy
    unfold flatStep
    have ha : allFlat env (Op.binOp .neq t x y u).operands.toList = true := by
      simp [allFlat, Op.operands, ex, ey, fx, fy]
    rw [if_pos ha]
    have he : pureSem P (execOp (fun x => (evA env x).getD undef) ⟨none, .binOp .neq t x y u, ty, "", #[], none⟩) = some (.value (.bool (!eqL xs ys))) := by
      simp only [execOp, ex, ey, Option.getD_some]
      rw [ps_bind, ps_eq ht hx hy .neq (.inr rfl) x y]
      rfl
    rw [he]
    rfl
  simp only [wanted, hs]
  refine n _ ?_
  rw [Bool.not_eq_true', ← Bool.not_eq_true, eqL_iff hx hy]
end
end Go.Proofs.YtapbmmlgmcmpnaaDoorW.Am
/- The program that is spoken of. -/
namespace Go.Proofs.YtapbmmlgmcmpnaaDoorW.Am
noncomputable abbrev PX := Go.Proofs.Tryd.prog
end Go.Proofs.YtapbmmlgmcmpnaaDoorW.Am
/-
  DERIVED: THE SHELF's CONTRACTS AT THIS DUMP, IN PLAIN WORDS (tools/lay-plain.mjs out of 'TrydShelf.lean', which tools/lay-shelf.mjs wrote): THE SAME DECLARATIONS UNDER THE SAME NAMES: 'import', 'namespace', 'open', 'def', 'theorem' AND NOTHING ELSE: no command of the shelf's: FOR A HAND-IN. Each laying: the table of numbers ('.._ren') and one theorem, a field a fact of the dump's own or the kernel's comparison; each contract: ONE APPLICATION.
-/
namespace Go.Proofs
open Go.Shelf
def Tryd.lays162_ren : Go.Shelf.Ren := ⟨fun | 162 => 39 | 232 => 43 | 227 => 44 | 234 => 46 | 236 => 48 | 228 => 60 | 271 => 63 | 151 => 62 | 120 => 78 | 197 => 61 | 152 => 77 | 260 => 76 | 137 => 93 | 119 => 94 | 224 => 81 | 225 => 80 | 217 => 79 | 266 => 95 | n => n, fun | 9 => 9 | 4 => 4 | 3 => 3 | 5 => 5 | 117 => 83 | 116 => 82 | 0 => 0 | 124 => 86 | 21 => 21 | 105 => 94 | 46 => 22 | 119 => 127 | 139 => 130 | 138 => 129 | n => n, fun | 3 => 2 | 4 => 3 | n => n⟩
theorem Tryd.lays162 : Go.Proofs.Lays.n162 Tryd.prog Tryd.lays162_ren := {
  mixed := by kernel_rfl
  f119 := Tryd.func94.trans (congrArg some (by kernel_rfl))
  f120 := Tryd.func78.trans (congrArg some (by kernel_rfl))
  f137 := Tryd.func93.trans (congrArg some (by kernel_rfl))
  f151 := Tryd.func62.trans (congrArg some (by kernel_rfl))
  f152 := Tryd.func77.trans (congrArg some (by kernel_rfl))
  f162 := Tryd.func39.trans (congrArg some (by kernel_rfl))
  f197 := Tryd.func61.trans (congrArg some (by kernel_rfl))
  f217 := Tryd.func79.trans (congrArg some (by kernel_rfl))
  f224 := Tryd.func81.trans (congrArg some (by kernel_rfl))
  f225 := Tryd.func80.trans (congrArg some (by kernel_rfl))
  f227 := Tryd.func44.trans (congrArg some (by kernel_rfl))
  f228 := Tryd.func60.trans (congrArg some (by kernel_rfl))
  f232 := Tryd.func43.trans (congrArg some (by kernel_rfl))
  f234 := Tryd.func46.trans (congrArg some (by kernel_rfl))
  f236 := Tryd.func48.trans (congrArg some (by kernel_rfl))
  f260 := Tryd.func76.trans (congrArg some (by kernel_rfl))
  f266 := Tryd.func95.trans (congrArg some (by kernel_rfl))
  f271 := Tryd.func63.trans (congrArg some (by kernel_rfl))
  t0 := Tryd.underlying0
  a0 := Tryd.isAgg0
  z0 := Tryd.sizeOf0
  v0 := Tryd.zeroValue0
  t3 := Tryd.underlying3
  a3 := Tryd.isAgg3
  z3 := Tryd.sizeOf3
  v3 := Tryd.zeroValue3
  t4 := Tryd.underlying4
  a4 := Tryd.isAgg4
  z4 := Tryd.sizeOf4
  v4 := Tryd.zeroValue4
  t5 := Tryd.underlying5
  a5 := Tryd.isAgg5
  z5 := Tryd.sizeOf5
  v5 := Tryd.zeroValue5
  t9 := Tryd.underlying9
  a9 := Tryd.isAgg9
  z9 := Tryd.sizeOf9
  v9 := Tryd.zeroValue9
  t21 := Tryd.underlying21
  a21 := Tryd.isAgg21
  z21 := Tryd.sizeOf21
  v21 := Tryd.zeroValue21
  t46 := Tryd.underlying22
  a46 := Tryd.isAgg22
  z46 := Tryd.sizeOf22
  v46 := Tryd.zeroValue22
  t105 := Tryd.underlying94
  a105 := Tryd.isAgg94
  z105 := Tryd.sizeOf94
  v105 := Tryd.zeroValue94
  t116 := Tryd.underlying82
  a116 := Tryd.isAgg82
  z116 := Tryd.sizeOf82
  t117 := Tryd.underlying83
  a117 := Tryd.isAgg83
  z117 := Tryd.sizeOf83
  v117 := Tryd.zeroValue83
  t119 := Tryd.underlying127
  a119 := Tryd.isAgg127
  z119 := Tryd.sizeOf127
  t124 := Tryd.underlying86
  a124 := Tryd.isAgg86
  z124 := Tryd.sizeOf86
  v124 := Tryd.zeroValue86
  t138 := Tryd.underlying129
  a138 := Tryd.isAgg129
  z138 := Tryd.sizeOf129
  v138 := Tryd.zeroValue129
  t139 := Tryd.underlying130
  a139 := Tryd.isAgg130
  z139 := Tryd.sizeOf130
  v139 := Tryd.zeroValue130
  g3 := by kernel_rfl
  g4 := by kernel_rfl }
open Go.RowKit in
/-- strings.TrimRight: "TrimRight returns a slice of the string s, with all trailing Unicode code points contained in cutset removed.": AT A cutset OF ONE ASCII BYTE. The world is as it was. (LAID: no walk: one application.) -/
theorem Tryd.strings_TrimRight_one (s : ByteArray) (c : UInt8) (hc : c.toNat < 128) (w : World) (hs : s.size ≤ 9223372036854775807) :
    Calls Tryd.prog 39 #[.string s, .string ⟨#[c]⟩] w fun e w' => e = .returned (.string ⟨(Lib.trimRightB s.data.toList c).toArray⟩) ∧ w' = w := Any.strings_TrimRight_one Tryd.lays162 s c hc w hs
def Tryd.lays160_ren : Go.Shelf.Ren := ⟨fun | 160 => 23 | 232 => 43 | 231 => 42 | 227 => 44 | 234 => 46 | 233 => 45 | 236 => 48 | 235 => 47 | 228 => 60 | 271 => 63 | 151 => 62 | 197 => 61 | 120 => 78 | 152 => 77 | 260 => 76 | 137 => 93 | 119 => 94 | 224 => 81 | 225 => 80 | 217 => 79 | 266 => 95 | n => n, fun | 9 => 9 | 4 => 4 | 3 => 3 | 5 => 5 | 117 => 83 | 116 => 82 | 0 => 0 | 124 => 86 | 21 => 21 | 105 => 94 | 46 => 22 | 119 => 127 | 139 => 130 | 138 => 129 | n => n, fun | 3 => 2 | 4 => 3 | n => n⟩
theorem Tryd.lays160 : Go.Proofs.Lays.n160 Tryd.prog Tryd.lays160_ren := {
  mixed := by kernel_rfl
  f119 := Tryd.func94.trans (congrArg some (by kernel_rfl))
  f120 := Tryd.func78.trans (congrArg some (by kernel_rfl))
  f137 := Tryd.func93.trans (congrArg some (by kernel_rfl))
  f151 := Tryd.func62.trans (congrArg some (by kernel_rfl))
  f152 := Tryd.func77.trans (congrArg some (by kernel_rfl))
  f160 := Tryd.func23.trans (congrArg some (by kernel_rfl))
  f197 := Tryd.func61.trans (congrArg some (by kernel_rfl))
  f217 := Tryd.func79.trans (congrArg some (by kernel_rfl))
  f224 := Tryd.func81.trans (congrArg some (by kernel_rfl))
  f225 := Tryd.func80.trans (congrArg some (by kernel_rfl))
  f227 := Tryd.func44.trans (congrArg some (by kernel_rfl))
  f228 := Tryd.func60.trans (congrArg some (by kernel_rfl))
  f231 := Tryd.func42.trans (congrArg some (by kernel_rfl))
  f232 := Tryd.func43.trans (congrArg some (by kernel_rfl))
  f233 := Tryd.func45.trans (congrArg some (by kernel_rfl))
  f234 := Tryd.func46.trans (congrArg some (by kernel_rfl))
  f235 := Tryd.func47.trans (congrArg some (by kernel_rfl))
  f236 := Tryd.func48.trans (congrArg some (by kernel_rfl))
  f260 := Tryd.func76.trans (congrArg some (by kernel_rfl))
  f266 := Tryd.func95.trans (congrArg some (by kernel_rfl))
  f271 := Tryd.func63.trans (congrArg some (by kernel_rfl))
  t0 := Tryd.underlying0
  a0 := Tryd.isAgg0
  z0 := Tryd.sizeOf0
  v0 := Tryd.zeroValue0
  t3 := Tryd.underlying3
  a3 := Tryd.isAgg3
  z3 := Tryd.sizeOf3
  v3 := Tryd.zeroValue3
  t4 := Tryd.underlying4
  a4 := Tryd.isAgg4
  z4 := Tryd.sizeOf4
  v4 := Tryd.zeroValue4
  t5 := Tryd.underlying5
  a5 := Tryd.isAgg5
  z5 := Tryd.sizeOf5
  v5 := Tryd.zeroValue5
  t9 := Tryd.underlying9
  a9 := Tryd.isAgg9
  z9 := Tryd.sizeOf9
  v9 := Tryd.zeroValue9
  t21 := Tryd.underlying21
  a21 := Tryd.isAgg21
  z21 := Tryd.sizeOf21
  v21 := Tryd.zeroValue21
  t46 := Tryd.underlying22
  a46 := Tryd.isAgg22
  z46 := Tryd.sizeOf22
  v46 := Tryd.zeroValue22
  t105 := Tryd.underlying94
  a105 := Tryd.isAgg94
  z105 := Tryd.sizeOf94
  v105 := Tryd.zeroValue94
  t116 := Tryd.underlying82
  a116 := Tryd.isAgg82
  z116 := Tryd.sizeOf82
  t117 := Tryd.underlying83
  a117 := Tryd.isAgg83
  z117 := Tryd.sizeOf83
  v117 := Tryd.zeroValue83
  t119 := Tryd.underlying127
  a119 := Tryd.isAgg127
  z119 := Tryd.sizeOf127
  t124 := Tryd.underlying86
  a124 := Tryd.isAgg86
  z124 := Tryd.sizeOf86
  v124 := Tryd.zeroValue86
  t138 := Tryd.underlying129
  a138 := Tryd.isAgg129
  z138 := Tryd.sizeOf129
  v138 := Tryd.zeroValue129
  t139 := Tryd.underlying130
  a139 := Tryd.isAgg130
  z139 := Tryd.sizeOf130
  v139 := Tryd.zeroValue130
  g3 := by kernel_rfl
  g4 := by kernel_rfl }
open Go.RowKit in
/-- strings.Trim: "Trim returns a slice of the string s with all leading and trailing Unicode code points contained in cutset removed.": AT A cutset OF ONE ASCII BYTE. THE WORLD BEHIND IT: as it was, or (where s is not empty) with ONE DRAW MORE off the tape: the statement 'return trimLeftByte(trimRightByte(s, c), c)' draws its order of evaluation. (LAID: no walk: one application.) -/
theorem Tryd.strings_Trim_one (s : ByteArray) (c : UInt8) (hc : c.toNat < 128) (w : World) (hs : s.size ≤ 9223372036854775807) :
    Calls Tryd.prog 23 #[.string s, .string ⟨#[c]⟩] w fun e w' => e = .returned (.string ⟨(Lib.trimB s.data.toList c).toArray⟩) ∧ (w' = w ∨ w' = w.drew) := Any.strings_Trim_one Tryd.lays160 s c hc w hs
def Tryd.lays103_ren : Go.Shelf.Ren := ⟨fun | 103 => 28 | 210 => 51 | 206 => 66 | n => n, fun | 9 => 9 | 4 => 4 | 24 => 53 | 3 => 3 | n => n, fun | n => n⟩
theorem Tryd.lays103 : Go.Proofs.Lays.n103 Tryd.prog Tryd.lays103_ren := {
  mixed := by kernel_rfl
  f103 := Tryd.func28.trans (congrArg some (by kernel_rfl))
  f206 := Tryd.func66.trans (congrArg some (by kernel_rfl))
  f210 := Tryd.func51.trans (congrArg some (by kernel_rfl))
  t3 := Tryd.underlying3
  a3 := Tryd.isAgg3
  z3 := Tryd.sizeOf3
  v3 := Tryd.zeroValue3
  t4 := Tryd.underlying4
  a4 := Tryd.isAgg4
  z4 := Tryd.sizeOf4
  v4 := Tryd.zeroValue4
  t9 := Tryd.underlying9
  a9 := Tryd.isAgg9
  z9 := Tryd.sizeOf9
  v9 := Tryd.zeroValue9
  t24 := Tryd.underlying53
  a24 := Tryd.isAgg53
  z24 := Tryd.sizeOf53
  v24 := Tryd.zeroValue53 }
open Go.RowKit in
/-- strings.CutPrefix: "CutPrefix returns s without the provided leading prefix string and reports whether it found the prefix. If s doesn't start with prefix, CutPrefix returns s, false. If prefix is the empty string, CutPrefix returns s, true.": IT RETURNS '(Lib.trimPrefix s p, Lib.hasPrefix s p)'; the world is as it was. (LAID: no walk: one application.) -/
theorem Tryd.strings_CutPrefix (s p : ByteArray) (w : World) :
    Calls Tryd.prog 28 #[.string s, .string p] w fun e w' => e = .returned (.tuple #[.string ⟨(Lib.trimPrefix s.data.toList p.data.toList).toArray⟩, .bool (Lib.hasPrefix s.data.toList p.data.toList)]) ∧ w' = w := Any.strings_CutPrefix Tryd.lays103 s p w
def Tryd.laysM171_ren : Go.Shelf.Ren := ⟨fun | 171 => 35 | 243 => 54 | 246 => 55 | 283 => 70 | 284 => 71 | 285 => 72 | 286 => 73 | 129 => 89 | 317 => 88 | 318 => 90 | 319 => 91 | 320 => 92 | 337 => 101 | 338 => 102 | n => n, fun | 3 => 3 | 9 => 9 | 2 => 2 | 4 => 4 | 171 => 105 | 0 => 0 | 53 => 106 | 37 => 64 | 5 => 5 | 173 => 109 | 212 => 123 | 51 => 124 | 20 => 20 | 213 => 125 | 46 => 22 | 232 => 143 | 233 => 144 | n => n, fun | 17 => 1 | 18 => 6 | 19 => 7 | n => n⟩
theorem Tryd.laysM171 : Go.Proofs.LaysM.n171 Tryd.prog Tryd.laysM171_ren := {
  mixed := by kernel_rfl
  f129 := Tryd.func89.trans (congrArg some (by kernel_rfl))
  f171 := Tryd.func35.trans (congrArg some (by kernel_rfl))
  f243 := Tryd.func54.trans (congrArg some (by kernel_rfl))
  f246 := Tryd.func55.trans (congrArg some (by kernel_rfl))
  f283 := Tryd.func70.trans (congrArg some (by kernel_rfl))
  f284 := Tryd.func71.trans (congrArg some (by kernel_rfl))
  f285 := Tryd.func72.trans (congrArg some (by kernel_rfl))
  f286 := Tryd.func73.trans (congrArg some (by kernel_rfl))
  f317 := Tryd.func88.trans (congrArg some (by kernel_rfl))
  f318 := Tryd.func90.trans (congrArg some (by kernel_rfl))
  f319 := Tryd.func91.trans (congrArg some (by kernel_rfl))
  f320 := Tryd.func92.trans (congrArg some (by kernel_rfl))
  f337 := Tryd.func101.trans (congrArg some (by kernel_rfl))
  f338 := Tryd.func102.trans (congrArg some (by kernel_rfl))
  t0 := Tryd.underlying0
  a0 := Tryd.isAgg0
  z0 := Tryd.sizeOf0
  v0 := Tryd.zeroValue0
  t2 := Tryd.underlying2
  a2 := Tryd.isAgg2
  z2 := Tryd.sizeOf2
  v2 := Tryd.zeroValue2
  t3 := Tryd.underlying3
  a3 := Tryd.isAgg3
  z3 := Tryd.sizeOf3
  v3 := Tryd.zeroValue3
  t4 := Tryd.underlying4
  a4 := Tryd.isAgg4
  z4 := Tryd.sizeOf4
  v4 := Tryd.zeroValue4
  t5 := Tryd.underlying5
  a5 := Tryd.isAgg5
  z5 := Tryd.sizeOf5
  v5 := Tryd.zeroValue5
  t9 := Tryd.underlying9
  a9 := Tryd.isAgg9
  z9 := Tryd.sizeOf9
  v9 := Tryd.zeroValue9
  t20 := Tryd.underlying20
  a20 := Tryd.isAgg20
  z20 := Tryd.sizeOf20
  v20 := Tryd.zeroValue20
  t37 := Tryd.underlying64
  a37 := Tryd.isAgg64
  z37 := Tryd.sizeOf64
  v37 := Tryd.zeroValue64
  t46 := Tryd.underlying22
  a46 := Tryd.isAgg22
  z46 := Tryd.sizeOf22
  v46 := Tryd.zeroValue22
  t51 := Tryd.underlying124
  a51 := Tryd.isAgg124
  z51 := Tryd.sizeOf124
  v51 := Tryd.zeroValue124
  t53 := Tryd.underlying106
  a53 := Tryd.isAgg106
  z53 := Tryd.sizeOf106
  v53 := Tryd.zeroValue106
  t171 := Tryd.underlying105
  a171 := Tryd.isAgg105
  z171 := Tryd.sizeOf105
  v171 := Tryd.zeroValue105
  t173 := Tryd.underlying109
  a173 := Tryd.isAgg109
  z173 := Tryd.sizeOf109
  v173 := Tryd.zeroValue109
  t212 := Tryd.underlying123
  a212 := Tryd.isAgg123
  z212 := Tryd.sizeOf123
  v212 := Tryd.zeroValue123
  t213 := Tryd.underlying125
  a213 := Tryd.isAgg125
  z213 := Tryd.sizeOf125
  t232 := Tryd.underlying143
  a232 := Tryd.isAgg143
  z232 := Tryd.sizeOf143
  v232 := Tryd.zeroValue143
  t233 := Tryd.underlying144
  a233 := Tryd.isAgg144
  z233 := Tryd.sizeOf144
  v233 := Tryd.zeroValue144
  g17 := by kernel_rfl
  g18 := by kernel_rfl
  g19 := by kernel_rfl
  i0 := by kernel_rfl
  i2 := by kernel_rfl
  i3 := by kernel_rfl
  i4 := by kernel_rfl
  i5 := by kernel_rfl
  i9 := by kernel_rfl
  i20 := by kernel_rfl
  i37 := by kernel_rfl
  i46 := by kernel_rfl
  i51 := by kernel_rfl
  i53 := by kernel_rfl
  i171 := by kernel_rfl
  i173 := by kernel_rfl
  i212 := by kernel_rfl
  i232 := by kernel_rfl
  i233 := by kernel_rfl
  m17 := by kernel_rfl
  m18 := by kernel_rfl
  m19 := by kernel_rfl }
open Go.RowKit Go.Sort Go.Lib in
/-- strconv.Itoa: "Itoa is equivalent to FormatInt(int64(i), 10).": i's DECIMAL NUMERAL ('Lib.itoa': a '-' where i is negative, then the digits), FOR EVERY int. The world behind the call: the world before it, new blocks behind the heap (the library's 'var a [24]byte'), draws. (LAID: no walk: one application.) -/
theorem Tryd.strconv_Itoa (n : Int) (h0 : -9223372036854775808 ≤ n) (h1 : n ≤ 9223372036854775807) (w : World) (htab : Lib.TabIs Tryd.prog w "internal/strconv.uint64pow10" .u64 Lib.pow10Tab) :
    Calls Tryd.prog 35 #[.int .i64 n] w fun e w' => e = .returned (.string ⟨(Lib.itoa n).toArray⟩) ∧ ∃ k os, w' = grow (w.drewN k) os := Any.strconv_Itoa Tryd.laysM171 n h0 h1 w htab
def Tryd.laysM173_ren : Go.Shelf.Ren := ⟨fun | 173 => 38 | 246 => 55 | 283 => 70 | 284 => 71 | 285 => 72 | 286 => 73 | 129 => 89 | 317 => 88 | 318 => 90 | 319 => 91 | 320 => 92 | 337 => 101 | 338 => 102 | n => n, fun | 2 => 2 | 3 => 3 | 9 => 9 | 4 => 4 | 171 => 105 | 0 => 0 | 53 => 106 | 37 => 64 | 5 => 5 | 173 => 109 | 212 => 123 | 51 => 124 | 20 => 20 | 213 => 125 | 46 => 22 | 232 => 143 | 233 => 144 | n => n, fun | 17 => 1 | 18 => 6 | 19 => 7 | n => n⟩
theorem Tryd.laysM173 : Go.Proofs.LaysM.n173 Tryd.prog Tryd.laysM173_ren := {
  mixed := by kernel_rfl
  f129 := Tryd.func89.trans (congrArg some (by kernel_rfl))
  f173 := Tryd.func38.trans (congrArg some (by kernel_rfl))
  f246 := Tryd.func55.trans (congrArg some (by kernel_rfl))
  f283 := Tryd.func70.trans (congrArg some (by kernel_rfl))
  f284 := Tryd.func71.trans (congrArg some (by kernel_rfl))
  f285 := Tryd.func72.trans (congrArg some (by kernel_rfl))
  f286 := Tryd.func73.trans (congrArg some (by kernel_rfl))
  f317 := Tryd.func88.trans (congrArg some (by kernel_rfl))
  f318 := Tryd.func90.trans (congrArg some (by kernel_rfl))
  f319 := Tryd.func91.trans (congrArg some (by kernel_rfl))
  f320 := Tryd.func92.trans (congrArg some (by kernel_rfl))
  f337 := Tryd.func101.trans (congrArg some (by kernel_rfl))
  f338 := Tryd.func102.trans (congrArg some (by kernel_rfl))
  t0 := Tryd.underlying0
  a0 := Tryd.isAgg0
  z0 := Tryd.sizeOf0
  v0 := Tryd.zeroValue0
  t2 := Tryd.underlying2
  a2 := Tryd.isAgg2
  z2 := Tryd.sizeOf2
  v2 := Tryd.zeroValue2
  t3 := Tryd.underlying3
  a3 := Tryd.isAgg3
  z3 := Tryd.sizeOf3
  v3 := Tryd.zeroValue3
  t4 := Tryd.underlying4
  a4 := Tryd.isAgg4
  z4 := Tryd.sizeOf4
  v4 := Tryd.zeroValue4
  t5 := Tryd.underlying5
  a5 := Tryd.isAgg5
  z5 := Tryd.sizeOf5
  v5 := Tryd.zeroValue5
  t9 := Tryd.underlying9
  a9 := Tryd.isAgg9
  z9 := Tryd.sizeOf9
  v9 := Tryd.zeroValue9
  t20 := Tryd.underlying20
  a20 := Tryd.isAgg20
  z20 := Tryd.sizeOf20
  v20 := Tryd.zeroValue20
  t37 := Tryd.underlying64
  a37 := Tryd.isAgg64
  z37 := Tryd.sizeOf64
  v37 := Tryd.zeroValue64
  t46 := Tryd.underlying22
  a46 := Tryd.isAgg22
  z46 := Tryd.sizeOf22
  v46 := Tryd.zeroValue22
  t51 := Tryd.underlying124
  a51 := Tryd.isAgg124
  z51 := Tryd.sizeOf124
  v51 := Tryd.zeroValue124
  t53 := Tryd.underlying106
  a53 := Tryd.isAgg106
  z53 := Tryd.sizeOf106
  v53 := Tryd.zeroValue106
  t171 := Tryd.underlying105
  a171 := Tryd.isAgg105
  z171 := Tryd.sizeOf105
  v171 := Tryd.zeroValue105
  t173 := Tryd.underlying109
  a173 := Tryd.isAgg109
  z173 := Tryd.sizeOf109
  v173 := Tryd.zeroValue109
  t212 := Tryd.underlying123
  a212 := Tryd.isAgg123
  z212 := Tryd.sizeOf123
  v212 := Tryd.zeroValue123
  t213 := Tryd.underlying125
  a213 := Tryd.isAgg125
  z213 := Tryd.sizeOf125
  t232 := Tryd.underlying143
  a232 := Tryd.isAgg143
  z232 := Tryd.sizeOf143
  v232 := Tryd.zeroValue143
  t233 := Tryd.underlying144
  a233 := Tryd.isAgg144
  z233 := Tryd.sizeOf144
  v233 := Tryd.zeroValue144
  g17 := by kernel_rfl
  g18 := by kernel_rfl
  g19 := by kernel_rfl
  i0 := by kernel_rfl
  i2 := by kernel_rfl
  i3 := by kernel_rfl
  i4 := by kernel_rfl
  i5 := by kernel_rfl
  i9 := by kernel_rfl
  i20 := by kernel_rfl
  i37 := by kernel_rfl
  i46 := by kernel_rfl
  i51 := by kernel_rfl
  i53 := by kernel_rfl
  i171 := by kernel_rfl
  i173 := by kernel_rfl
  i212 := by kernel_rfl
  i232 := by kernel_rfl
  i233 := by kernel_rfl
  m17 := by kernel_rfl
  m18 := by kernel_rfl
  m19 := by kernel_rfl }
open Go.RowKit Go.Sort Go.Lib in
/-- strconv.FormatInt: "FormatInt returns the string representation of i in the given base": AT BASE 10: i's decimal numeral, for every int64. (LAID: no walk: one application.) -/
theorem Tryd.strconv_FormatInt_10 (n : Int) (h0 : -9223372036854775808 ≤ n) (h1 : n ≤ 9223372036854775807) (w : World) (htab : Lib.TabIs Tryd.prog w "internal/strconv.uint64pow10" .u64 Lib.pow10Tab) :
    Calls Tryd.prog 38 #[.int .i64 n, .int .i64 10] w fun e w' => e = .returned (.string ⟨(Lib.itoa n).toArray⟩) ∧ ∃ k os, w' = grow (w.drewN k) os := Any.strconv_FormatInt_10 Tryd.laysM173 n h0 h1 w htab
def Tryd.laysC174_ren : Go.Shelf.Ren := ⟨fun | 174 => 52 | 247 => 67 | 245 => 68 | 287 => 83 | 279 => 84 | 280 => 85 | 281 => 86 | 282 => 87 | 321 => 97 | 322 => 98 | 316 => 99 | 171 => 35 | 205 => 100 | 243 => 54 | 246 => 55 | 283 => 70 | 284 => 71 | 285 => 72 | 286 => 73 | 129 => 89 | 317 => 88 | 318 => 90 | 319 => 91 | 320 => 92 | 337 => 101 | 338 => 102 | n => n, fun | 9 => 9 | 3 => 3 | 2 => 2 | 75 => 68 | 85 => 87 | 4 => 4 | 167 => 116 | 5 => 5 | 53 => 106 | 175 => 117 | 46 => 22 | 168 => 119 | 37 => 64 | 0 => 0 | 210 => 137 | 21 => 21 | 127 => 89 | 145 => 142 | 143 => 140 | 171 => 105 | 173 => 109 | 212 => 123 | 51 => 124 | 20 => 20 | 213 => 125 | 232 => 143 | 233 => 144 | 80 => 75 | n => n, fun | 15 => 4 | 16 => 5 | 17 => 1 | 18 => 6 | 19 => 7 | n => n⟩
theorem Tryd.laysC174 : Go.Proofs.LaysC.n174 Tryd.prog Tryd.laysC174_ren := {
  mixed := by kernel_rfl
  f129 := Tryd.func89.trans (congrArg some (by kernel_rfl))
  f171 := Tryd.func35.trans (congrArg some (by kernel_rfl))
  f174 := Tryd.func52.trans (congrArg some (by kernel_rfl))
  f205 := Tryd.func100.trans (congrArg some (by kernel_rfl))
  f243 := Tryd.func54.trans (congrArg some (by kernel_rfl))
  f245 := Tryd.func68.trans (congrArg some (by kernel_rfl))
  f246 := Tryd.func55.trans (congrArg some (by kernel_rfl))
  f247 := Tryd.func67.trans (congrArg some (by kernel_rfl))
  f279 := Tryd.func84.trans (congrArg some (by kernel_rfl))
  f280 := Tryd.func85.trans (congrArg some (by kernel_rfl))
  f281 := Tryd.func86.trans (congrArg some (by kernel_rfl))
  f282 := Tryd.func87.trans (congrArg some (by kernel_rfl))
  f283 := Tryd.func70.trans (congrArg some (by kernel_rfl))
  f284 := Tryd.func71.trans (congrArg some (by kernel_rfl))
  f285 := Tryd.func72.trans (congrArg some (by kernel_rfl))
  f286 := Tryd.func73.trans (congrArg some (by kernel_rfl))
  f287 := Tryd.func83.trans (congrArg some (by kernel_rfl))
  f316 := Tryd.func99.trans (congrArg some (by kernel_rfl))
  f317 := Tryd.func88.trans (congrArg some (by kernel_rfl))
  f318 := Tryd.func90.trans (congrArg some (by kernel_rfl))
  f319 := Tryd.func91.trans (congrArg some (by kernel_rfl))
  f320 := Tryd.func92.trans (congrArg some (by kernel_rfl))
  f321 := Tryd.func97.trans (congrArg some (by kernel_rfl))
  f322 := Tryd.func98.trans (congrArg some (by kernel_rfl))
  f337 := Tryd.func101.trans (congrArg some (by kernel_rfl))
  f338 := Tryd.func102.trans (congrArg some (by kernel_rfl))
  t0 := Tryd.underlying0
  a0 := Tryd.isAgg0
  z0 := Tryd.sizeOf0
  v0 := Tryd.zeroValue0
  t2 := Tryd.underlying2
  a2 := Tryd.isAgg2
  z2 := Tryd.sizeOf2
  v2 := Tryd.zeroValue2
  t3 := Tryd.underlying3
  a3 := Tryd.isAgg3
  z3 := Tryd.sizeOf3
  v3 := Tryd.zeroValue3
  t4 := Tryd.underlying4
  a4 := Tryd.isAgg4
  z4 := Tryd.sizeOf4
  v4 := Tryd.zeroValue4
  t5 := Tryd.underlying5
  a5 := Tryd.isAgg5
  z5 := Tryd.sizeOf5
  v5 := Tryd.zeroValue5
  t9 := Tryd.underlying9
  a9 := Tryd.isAgg9
  z9 := Tryd.sizeOf9
  v9 := Tryd.zeroValue9
  t20 := Tryd.underlying20
  a20 := Tryd.isAgg20
  z20 := Tryd.sizeOf20
  v20 := Tryd.zeroValue20
  t21 := Tryd.underlying21
  a21 := Tryd.isAgg21
  z21 := Tryd.sizeOf21
  v21 := Tryd.zeroValue21
  t37 := Tryd.underlying64
  a37 := Tryd.isAgg64
  z37 := Tryd.sizeOf64
  v37 := Tryd.zeroValue64
  t46 := Tryd.underlying22
  a46 := Tryd.isAgg22
  z46 := Tryd.sizeOf22
  v46 := Tryd.zeroValue22
  t51 := Tryd.underlying124
  a51 := Tryd.isAgg124
  z51 := Tryd.sizeOf124
  v51 := Tryd.zeroValue124
  t53 := Tryd.underlying106
  a53 := Tryd.isAgg106
  z53 := Tryd.sizeOf106
  v53 := Tryd.zeroValue106
  t75 := Tryd.underlying68
  a75 := Tryd.isAgg68
  z75 := Tryd.sizeOf68
  v75 := Tryd.zeroValue68
  t85 := Tryd.underlying87
  a85 := Tryd.isAgg87
  z85 := Tryd.sizeOf87
  v85 := Tryd.zeroValue87
  t127 := Tryd.underlying89
  a127 := Tryd.isAgg89
  z127 := Tryd.sizeOf89
  v127 := Tryd.zeroValue89
  t143 := Tryd.underlying140
  a143 := Tryd.isAgg140
  z143 := Tryd.sizeOf140
  v143 := Tryd.zeroValue140
  t145 := Tryd.underlying142
  a145 := Tryd.isAgg142
  z145 := Tryd.sizeOf142
  v145 := Tryd.zeroValue142
  t167 := Tryd.underlying116
  a167 := Tryd.isAgg116
  z167 := Tryd.sizeOf116
  v167 := Tryd.zeroValue116
  t168 := Tryd.underlying119
  a168 := Tryd.isAgg119
  z168 := Tryd.sizeOf119
  v168 := Tryd.zeroValue119
  t171 := Tryd.underlying105
  a171 := Tryd.isAgg105
  z171 := Tryd.sizeOf105
  v171 := Tryd.zeroValue105
  t173 := Tryd.underlying109
  a173 := Tryd.isAgg109
  z173 := Tryd.sizeOf109
  v173 := Tryd.zeroValue109
  t175 := Tryd.underlying117
  a175 := Tryd.isAgg117
  z175 := Tryd.sizeOf117
  v175 := Tryd.zeroValue117
  t210 := Tryd.underlying137
  a210 := Tryd.isAgg137
  z210 := Tryd.sizeOf137
  v210 := Tryd.zeroValue137
  t212 := Tryd.underlying123
  a212 := Tryd.isAgg123
  z212 := Tryd.sizeOf123
  v212 := Tryd.zeroValue123
  t213 := Tryd.underlying125
  a213 := Tryd.isAgg125
  z213 := Tryd.sizeOf125
  t232 := Tryd.underlying143
  a232 := Tryd.isAgg143
  z232 := Tryd.sizeOf143
  v232 := Tryd.zeroValue143
  t233 := Tryd.underlying144
  a233 := Tryd.isAgg144
  z233 := Tryd.sizeOf144
  v233 := Tryd.zeroValue144
  g15 := by kernel_rfl
  g16 := by kernel_rfl
  g17 := by kernel_rfl
  g18 := by kernel_rfl
  g19 := by kernel_rfl
  t80 := Tryd.underlying75
  a80 := Tryd.isAgg75
  z80 := Tryd.sizeOf75
  v80 := Tryd.zeroValue75
  i0 := by kernel_rfl
  i2 := by kernel_rfl
  i3 := by kernel_rfl
  i4 := by kernel_rfl
  i5 := by kernel_rfl
  i9 := by kernel_rfl
  i20 := by kernel_rfl
  i21 := by kernel_rfl
  i37 := by kernel_rfl
  i46 := by kernel_rfl
  i51 := by kernel_rfl
  i53 := by kernel_rfl
  i75 := by kernel_rfl
  i80 := by kernel_rfl
  i85 := by kernel_rfl
  i127 := by kernel_rfl
  i143 := by kernel_rfl
  i145 := by kernel_rfl
  i167 := by kernel_rfl
  i168 := by kernel_rfl
  i171 := by kernel_rfl
  i173 := by kernel_rfl
  i175 := by kernel_rfl
  i210 := by kernel_rfl
  i212 := by kernel_rfl
  i232 := by kernel_rfl
  i233 := by kernel_rfl
  m15 := by kernel_rfl
  m16 := by kernel_rfl
  m17 := by kernel_rfl
  m18 := by kernel_rfl
  m19 := by kernel_rfl
  c0 := by kernel_rfl
  c2 := by kernel_rfl
  c3 := by kernel_rfl
  c4 := by kernel_rfl
  c5 := by kernel_rfl
  c9 := by kernel_rfl
  c20 := by kernel_rfl
  c21 := by kernel_rfl
  c37 := by kernel_rfl
  c46 := by kernel_rfl
  c51 := by kernel_rfl
  c53 := by kernel_rfl
  c75 := by kernel_rfl
  c80 := by kernel_rfl
  c85 := by kernel_rfl
  c127 := by kernel_rfl
  c143 := by kernel_rfl
  c145 := by kernel_rfl
  c167 := by kernel_rfl
  c168 := by kernel_rfl
  c171 := by kernel_rfl
  c173 := by kernel_rfl
  c175 := by kernel_rfl
  c210 := by kernel_rfl
  c212 := by kernel_rfl
  c213 := by kernel_rfl
  c232 := by kernel_rfl
  c233 := by kernel_rfl }
open Go.RowKit in
/-- strconv.ParseInt(s, 10, 64), AT EVERY STRING THAT SPELLS AN int64 ('Lib.parseIntB 64 s.data.toList = .ok v'): v, AND NO ERROR. (LAID: no walk: one application.) -/
theorem Tryd.strconv_ParseInt_10_at64_ok (s : ByteArray) (hmax : s.size ≤ 9223372036854775806) (v : Int) (h : Lib.parseIntB 64 s.data.toList = .ok v) (w : World) :
    Calls Tryd.prog 52 #[.string s, .int .i64 10, .int .i64 64] w fun e w' => e = .returned (.tuple #[.int .i64 v, .nilIface]) ∧ (w' = w ∨ ∃ t, w' = Lib.bytesWorld w 5 t) := Any.strconv_ParseInt_10_at64_ok Tryd.laysC174 s hmax v h w
def Tryd.lays145_ren : Go.Shelf.Ren := ⟨fun | 145 => 24 | 220 => 49 | 219 => 64 | 217 => 79 | 225 => 80 | 224 => 81 | 267 => 82 | 266 => 95 | 314 => 96 | n => n, fun | 9 => 9 | 4 => 4 | 59 => 45 | 3 => 3 | 5 => 5 | 46 => 22 | 146 => 132 | 51 => 124 | n => n, fun | 1 => 0 | n => n⟩
theorem Tryd.lays145 : Go.Proofs.Lays.n145 Tryd.prog Tryd.lays145_ren := {
  mixed := by kernel_rfl
  f145 := Tryd.func24.trans (congrArg some (by kernel_rfl))
  f217 := Tryd.func79.trans (congrArg some (by kernel_rfl))
  f219 := Tryd.func64.trans (congrArg some (by kernel_rfl))
  f220 := Tryd.func49.trans (congrArg some (by kernel_rfl))
  f224 := Tryd.func81.trans (congrArg some (by kernel_rfl))
  f225 := Tryd.func80.trans (congrArg some (by kernel_rfl))
  f266 := Tryd.func95.trans (congrArg some (by kernel_rfl))
  f267 := Tryd.func82.trans (congrArg some (by kernel_rfl))
  f314 := Tryd.func96.trans (congrArg some (by kernel_rfl))
  t3 := Tryd.underlying3
  a3 := Tryd.isAgg3
  z3 := Tryd.sizeOf3
  v3 := Tryd.zeroValue3
  t4 := Tryd.underlying4
  a4 := Tryd.isAgg4
  z4 := Tryd.sizeOf4
  v4 := Tryd.zeroValue4
  t5 := Tryd.underlying5
  a5 := Tryd.isAgg5
  z5 := Tryd.sizeOf5
  v5 := Tryd.zeroValue5
  t9 := Tryd.underlying9
  a9 := Tryd.isAgg9
  z9 := Tryd.sizeOf9
  v9 := Tryd.zeroValue9
  t46 := Tryd.underlying22
  a46 := Tryd.isAgg22
  z46 := Tryd.sizeOf22
  v46 := Tryd.zeroValue22
  t51 := Tryd.underlying124
  a51 := Tryd.isAgg124
  z51 := Tryd.sizeOf124
  v51 := Tryd.zeroValue124
  t59 := Tryd.underlying45
  a59 := Tryd.isAgg45
  z59 := Tryd.sizeOf45
  v59 := Tryd.zeroValue45
  t146 := Tryd.underlying132
  a146 := Tryd.isAgg132
  z146 := Tryd.sizeOf132
  v146 := Tryd.zeroValue132
  g1 := by kernel_rfl }
open Go.RowKit Go.Lib in
/-- strings.Cut: "Cut slices s around the first instance of sep, returning the text before and after sep. The found result reports whether sep appears in s. If sep does not appear in s, cut returns s, "", false.": IT RETURNS 'Lib.cut s sep'; the world is as it was but for the count of draws. (LAID: no walk: one application.) -/
theorem Tryd.strings_Cut (s sep : ByteArray) (m : Int) (w : World) (hs : s.size < 4294967281) (hm : w.cell? ⟨0, 0, none⟩ = some (.int .i64 m)) :
    Calls Tryd.prog 24 #[.string s, .string sep] w fun e w' => e = .returned (.tuple #[.string ⟨(Lib.cut s.data.toList sep.data.toList).1.toArray⟩, .string ⟨(Lib.cut s.data.toList sep.data.toList).2.1.toArray⟩, .bool (Lib.cut s.data.toList sep.data.toList).2.2]) ∧ ∃ n, w' = w.drewN n := Any.strings_Cut Tryd.lays145 s sep m w hs hm
def Tryd.lays146_ren : Go.Shelf.Ren := ⟨fun | 146 => 22 | 221 => 41 | 268 => 57 | 138 => 58 | 143 => 59 | 195 => 74 | 197 => 61 | 218 => 75 | 219 => 64 | 260 => 76 | 217 => 79 | 225 => 80 | 224 => 81 | 267 => 82 | 266 => 95 | 314 => 96 | n => n, fun | 9 => 9 | 31 => 30 | 3 => 3 | 4 => 4 | 0 => 0 | 105 => 94 | 21 => 21 | 5 => 5 | 46 => 22 | 119 => 127 | 139 => 130 | 138 => 129 | 146 => 132 | 51 => 124 | n => n, fun | 1 => 0 | 3 => 2 | 4 => 3 | n => n⟩
theorem Tryd.lays146 : Go.Proofs.Lays.n146 Tryd.prog Tryd.lays146_ren := {
  mixed := by kernel_rfl
  f138 := Tryd.func58.trans (congrArg some (by kernel_rfl))
  f143 := Tryd.func59.trans (congrArg some (by kernel_rfl))
  f146 := Tryd.func22.trans (congrArg some (by kernel_rfl))
  f195 := Tryd.func74.trans (congrArg some (by kernel_rfl))
  f197 := Tryd.func61.trans (congrArg some (by kernel_rfl))
  f217 := Tryd.func79.trans (congrArg some (by kernel_rfl))
  f218 := Tryd.func75.trans (congrArg some (by kernel_rfl))
  f219 := Tryd.func64.trans (congrArg some (by kernel_rfl))
  f221 := Tryd.func41.trans (congrArg some (by kernel_rfl))
  f224 := Tryd.func81.trans (congrArg some (by kernel_rfl))
  f225 := Tryd.func80.trans (congrArg some (by kernel_rfl))
  f260 := Tryd.func76.trans (congrArg some (by kernel_rfl))
  f266 := Tryd.func95.trans (congrArg some (by kernel_rfl))
  f267 := Tryd.func82.trans (congrArg some (by kernel_rfl))
  f268 := Tryd.func57.trans (congrArg some (by kernel_rfl))
  f314 := Tryd.func96.trans (congrArg some (by kernel_rfl))
  t0 := Tryd.underlying0
  a0 := Tryd.isAgg0
  z0 := Tryd.sizeOf0
  v0 := Tryd.zeroValue0
  t3 := Tryd.underlying3
  a3 := Tryd.isAgg3
  z3 := Tryd.sizeOf3
  v3 := Tryd.zeroValue3
  t4 := Tryd.underlying4
  a4 := Tryd.isAgg4
  z4 := Tryd.sizeOf4
  v4 := Tryd.zeroValue4
  t5 := Tryd.underlying5
  a5 := Tryd.isAgg5
  z5 := Tryd.sizeOf5
  v5 := Tryd.zeroValue5
  t9 := Tryd.underlying9
  a9 := Tryd.isAgg9
  z9 := Tryd.sizeOf9
  v9 := Tryd.zeroValue9
  t21 := Tryd.underlying21
  a21 := Tryd.isAgg21
  z21 := Tryd.sizeOf21
  v21 := Tryd.zeroValue21
  t31 := Tryd.underlying30
  a31 := Tryd.isAgg30
  z31 := Tryd.sizeOf30
  v31 := Tryd.zeroValue30
  t46 := Tryd.underlying22
  a46 := Tryd.isAgg22
  z46 := Tryd.sizeOf22
  v46 := Tryd.zeroValue22
  t51 := Tryd.underlying124
  a51 := Tryd.isAgg124
  z51 := Tryd.sizeOf124
  v51 := Tryd.zeroValue124
  t105 := Tryd.underlying94
  a105 := Tryd.isAgg94
  z105 := Tryd.sizeOf94
  v105 := Tryd.zeroValue94
  t119 := Tryd.underlying127
  a119 := Tryd.isAgg127
  z119 := Tryd.sizeOf127
  t138 := Tryd.underlying129
  a138 := Tryd.isAgg129
  z138 := Tryd.sizeOf129
  v138 := Tryd.zeroValue129
  t139 := Tryd.underlying130
  a139 := Tryd.isAgg130
  z139 := Tryd.sizeOf130
  v139 := Tryd.zeroValue130
  t146 := Tryd.underlying132
  a146 := Tryd.isAgg132
  z146 := Tryd.sizeOf132
  v146 := Tryd.zeroValue132
  g1 := by kernel_rfl
  g3 := by kernel_rfl
  g4 := by kernel_rfl }
open Go.RowKit Go.Lib in
/-- strings.Split. (LAID: no walk: one application.) -/
theorem Tryd.strings_Split (s sep : ByteArray) (m : Int) (w : World) (hs : s.size < 4294967281) (hm : w.cell? ⟨0, 0, none⟩ = some (.int .i64 m)) (h1 : 1 ≤ sep.size) :
    Calls Tryd.prog 22 #[.string s, .string sep] w fun e w' =>
      e = .returned (.slice (some ⟨w.heap.size, 0, none⟩) (Lib.countB s sep + 1) (Lib.countB s sep + 1)) ∧ w' = w.alloc (.cells ((Lib.splitB sep 0 (Lib.countB s sep) s).map Value.string).toArray 9) := Any.strings_Split Tryd.lays146 (by kernel_rfl) s sep m w hs hm h1
def Tryd.laysM146_ren : Go.Shelf.Ren := ⟨fun | 146 => 22 | 221 => 41 | 268 => 57 | 138 => 58 | 143 => 59 | 195 => 74 | 197 => 61 | 218 => 75 | 219 => 64 | 260 => 76 | 217 => 79 | 225 => 80 | 224 => 81 | 267 => 82 | 266 => 95 | 314 => 96 | n => n, fun | 9 => 9 | 31 => 30 | 3 => 3 | 4 => 4 | 0 => 0 | 105 => 94 | 21 => 21 | 5 => 5 | 46 => 22 | 119 => 127 | 139 => 130 | 138 => 129 | 146 => 132 | 51 => 124 | n => n, fun | 1 => 0 | 3 => 2 | 4 => 3 | n => n⟩
theorem Tryd.laysM146 : Go.Proofs.LaysM.n146 Tryd.prog Tryd.laysM146_ren := {
  mixed := by kernel_rfl
  f138 := Tryd.func58.trans (congrArg some (by kernel_rfl))
  f143 := Tryd.func59.trans (congrArg some (by kernel_rfl))
  f146 := Tryd.func22.trans (congrArg some (by kernel_rfl))
  f195 := Tryd.func74.trans (congrArg some (by kernel_rfl))
  f197 := Tryd.func61.trans (congrArg some (by kernel_rfl))
  f217 := Tryd.func79.trans (congrArg some (by kernel_rfl))
  f218 := Tryd.func75.trans (congrArg some (by kernel_rfl))
  f219 := Tryd.func64.trans (congrArg some (by kernel_rfl))
  f221 := Tryd.func41.trans (congrArg some (by kernel_rfl))
  f224 := Tryd.func81.trans (congrArg some (by kernel_rfl))
  f225 := Tryd.func80.trans (congrArg some (by kernel_rfl))
  f260 := Tryd.func76.trans (congrArg some (by kernel_rfl))
  f266 := Tryd.func95.trans (congrArg some (by kernel_rfl))
  f267 := Tryd.func82.trans (congrArg some (by kernel_rfl))
  f268 := Tryd.func57.trans (congrArg some (by kernel_rfl))
  f314 := Tryd.func96.trans (congrArg some (by kernel_rfl))
  t0 := Tryd.underlying0
  a0 := Tryd.isAgg0
  z0 := Tryd.sizeOf0
  v0 := Tryd.zeroValue0
  t3 := Tryd.underlying3
  a3 := Tryd.isAgg3
  z3 := Tryd.sizeOf3
  v3 := Tryd.zeroValue3
  t4 := Tryd.underlying4
  a4 := Tryd.isAgg4
  z4 := Tryd.sizeOf4
  v4 := Tryd.zeroValue4
  t5 := Tryd.underlying5
  a5 := Tryd.isAgg5
  z5 := Tryd.sizeOf5
  v5 := Tryd.zeroValue5
  t9 := Tryd.underlying9
  a9 := Tryd.isAgg9
  z9 := Tryd.sizeOf9
  v9 := Tryd.zeroValue9
  t21 := Tryd.underlying21
  a21 := Tryd.isAgg21
  z21 := Tryd.sizeOf21
  v21 := Tryd.zeroValue21
  t31 := Tryd.underlying30
  a31 := Tryd.isAgg30
  z31 := Tryd.sizeOf30
  v31 := Tryd.zeroValue30
  t46 := Tryd.underlying22
  a46 := Tryd.isAgg22
  z46 := Tryd.sizeOf22
  v46 := Tryd.zeroValue22
  t51 := Tryd.underlying124
  a51 := Tryd.isAgg124
  z51 := Tryd.sizeOf124
  v51 := Tryd.zeroValue124
  t105 := Tryd.underlying94
  a105 := Tryd.isAgg94
  z105 := Tryd.sizeOf94
  v105 := Tryd.zeroValue94
  t119 := Tryd.underlying127
  a119 := Tryd.isAgg127
  z119 := Tryd.sizeOf127
  t138 := Tryd.underlying129
  a138 := Tryd.isAgg129
  z138 := Tryd.sizeOf129
  v138 := Tryd.zeroValue129
  t139 := Tryd.underlying130
  a139 := Tryd.isAgg130
  z139 := Tryd.sizeOf130
  v139 := Tryd.zeroValue130
  t146 := Tryd.underlying132
  a146 := Tryd.isAgg132
  z146 := Tryd.sizeOf132
  v146 := Tryd.zeroValue132
  g1 := by kernel_rfl
  g3 := by kernel_rfl
  g4 := by kernel_rfl
  i0 := by kernel_rfl
  i3 := by kernel_rfl
  i4 := by kernel_rfl
  i5 := by kernel_rfl
  i9 := by kernel_rfl
  i21 := by kernel_rfl
  i31 := by kernel_rfl
  i46 := by kernel_rfl
  i51 := by kernel_rfl
  i105 := by kernel_rfl
  i138 := by kernel_rfl
  i139 := by kernel_rfl
  i146 := by kernel_rfl
  m1 := by kernel_rfl
  s1_3 := fun w h => Go.Proofs.cell_of_shapedOpen_int (zero := #[.int .i64 0]) (t := 3) h (of_decide_eq_true (by kernel_rfl)) (by kernel_rfl) rfl (by kernel_rfl) (by kernel_rfl) Tryd.underlying3
  m3 := by kernel_rfl
  m4 := by kernel_rfl }
end Go.Proofs
/- Settings as texts: what numbers are, in plain words (no program in sight). -/
namespace Go.Proofs.YtapbmmlgmcmpnaaDoorW.Am
open Go
def isDig (b : UInt8) : Bool := decide (48 ≤ b.toNat ∧ b.toNat ≤ 57)
/-- What a row of digits is worth, behind what was read. -/
def valA (a : Nat) : List UInt8 → Nat
  | [] => a
  | b :: r => valA (a * 10 + (b.toNat - 48)) r
/-- A number of so many digits at most. -/
def digF (l : List UInt8) (most : Nat) : Option Nat := if 1 ≤ l.length ∧ l.length ≤ most ∧ l.all isDig = true then some (valA 0 l) else none
def digB : List UInt8 := [48, 49, 50, 51, 52, 53, 54, 55, 56, 57]
theorem dig_mem (b : UInt8) : digB.contains b = isDig b := by
  have h : ∀ n, n < 256 → digB.contains (UInt8.ofNat n) = isDig (UInt8.ofNat n) := by decide +kernel
  have := h b.toNat b.toNat_lt
  rwa [UInt8.ofNat_toNat] at this
theorem dropWhile_nil {α : Type} {p : α → Bool} : ∀ {l : List α}, l.dropWhile p = [] ↔ l.all p = true
  | [] => by simp
  | a :: l => by
    rw [List.dropWhile_cons]
    cases h : p a
    · simp [h]
    · simp only [if_true, List.all_cons, h, Bool.true_and]
      exact dropWhile_nil
theorem trim_nil (l : List UInt8) : Go.Lib.trimS l digB = [] ↔ l.all isDig = true := by
  have e : (fun b => digB.contains b) = isDig := funext dig_mem
  unfold Go.Lib.trimS Go.Lib.trimLeftS Go.Lib.trimRightS
  rw [e, dropWhile_nil, List.all_reverse]
  constructor
  · intro h
    by_cases hn : l.reverse.dropWhile isDig = []
    · have := dropWhile_nil.1 hn
      rwa [List.all_reverse] at this
    · exfalso
      obtain ⟨a, r, hr⟩ := List.exists_cons_of_ne_nil hn
      have h1 : isDig a = true := by rw [hr] at h; simp at h; exact h.1
      have h2 : ∀ (m : List UInt8) a r, m.dropWhile isDig = a :: r → isDig a = false := by
        intro m
        induction m with
        | nil => intro a r e; simp at e
        | cons x m ih =>
          intro a r e
          rw [List.dropWhile_cons] at e
          cases hx : isDig x
          · rw [hx] at e; simp at e; rw [← e.1]; exact hx
          · rw [hx] at e; exact ih _ _ (by simpa using e)
      rw [h2 _ _ _ hr] at h1
      cases h1
  · intro h
    have : l.reverse.dropWhile isDig = [] := dropWhile_nil.2 (by rw [List.all_reverse]; exact h)
    rw [this]
    rfl
theorem valA_lt : ∀ (l : List UInt8) (a k : Nat), l.all isDig = true → a < 10 ^ k → valA a l < 10 ^ (k + l.length)
  | [], a, k, _, h => by rw [List.length_nil, Nat.add_zero]; exact h
  | b :: r, a, k, hd, h => by
    simp only [List.all_cons, Bool.and_eq_true, isDig, decide_eq_true_eq] at hd
    have := valA_lt r (a * 10 + (b.toNat - 48)) (k + 1) hd.2 (by rw [Nat.pow_succ]; omega)
    rw [List.length_cons, show k + (r.length + 1) = k + 1 + r.length by omega]
    exact this
theorem valA_le : ∀ (l : List UInt8) (a : Nat), a ≤ valA a l
  | [], a => Nat.le_refl _
  | b :: r, a => Nat.le_trans (by omega) (valA_le r (a * 10 + (b.toNat - 48)))
theorem parseM_ok (M : Nat) (hM : M ≤ 18446744073709551615) : ∀ (l : List UInt8) (a : Nat), l.all isDig = true → valA a l ≤ M → Go.Lib.parseUintM M a l = .ok (valA a l)
  | [], a, _, _ => rfl
  | b :: r, a, hd, h => by
    have hd' := hd
    simp only [List.all_cons, Bool.and_eq_true, isDig, decide_eq_true_eq] at hd'
    have hv : a * 10 + (b.toNat - 48) ≤ M := Nat.le_trans (valA_le r _) h
    have ih := parseM_ok M hM r (a * 10 + (b.toNat - 48)) hd'.2 h
    unfold Go.Lib.parseUintM
    simp only [hd'.1, and_self, if_true]
    rw [if_neg (by omega), if_neg (by omega)]
    exact ih
theorem parse_ok {l : List UInt8} (h0 : 1 ≤ l.length) (h9 : l.length ≤ 9) (hd : l.all isDig = true) : Go.Lib.parseIntB 64 l = .ok (valA 0 l : Int) := by
  have hlt := valA_lt l 0 0 hd (by decide)
  have hb : valA 0 l < 10 ^ 9 := Nat.lt_of_lt_of_le hlt (Nat.pow_le_pow_right (by decide) (by omega))
  cases l with
  | nil => simp at h0
  | cons c r =>
    have hc : 48 ≤ c.toNat ∧ c.toNat ≤ 57 := by
      simp only [List.all_cons, Bool.and_eq_true, isDig, decide_eq_true_eq] at hd
      exact hd.1
    unfold Go.Lib.parseIntB Go.Lib.parseUintB
    simp only
    rw [if_neg (by omega : ¬ (c.toNat = 43 ∨ c.toNat = 45)), if_neg (by simp : ¬ (c :: r = [])), parseM_ok _ (by decide) _ _ hd (by
      have : (10 : Nat) ^ 9 ≤ 2 ^ 64 - 1 := by decide
      omega)]
    have e63 : (10 : Nat) ^ 9 ≤ 2 ^ (64 - 1) := by decide
    simp only
    rw [if_neg (by omega), if_neg (by omega), if_neg (by omega)]
end Go.Proofs.YtapbmmlgmcmpnaaDoorW.Am
/- Rows of elements of some cells each: rows that grow, rows that are read; append as one step. -/
namespace Go.Proofs.YtapbmmlgmcmpnaaDoorW.Am
open Go Go.RowKit
theorem one_cells {v : Value} (h : one v = true) : v.cells = #[v] := by cases v <;> first | rfl | (simp [one] at h)
/-- Elements of k plain cells each. -/
def Els (k : Nat) (us : List (List Value)) : Prop := ∀ u ∈ us, u.length = k ∧ u.all one = true
theorem Els.nil (k : Nat) : Els k [] := fun _ h => by cases h
theorem Els.app {k : Nat} {us vs : List (List Value)} (a : Els k us) (b : Els k vs) : Els k (us ++ vs) := fun u hu => (List.mem_append.1 hu).elim (a u) (b u)
theorem Els.one {k : Nat} {u : List Value} (a : u.length = k) (b : u.all one = true) : Els k [u] := fun x hx => by rw [List.mem_singleton.1 hx]; exact ⟨a, b⟩
theorem Els.len {k : Nat} : ∀ {us : List (List Value)}, Els k us → us.flatten.length = us.length * k
  | [], _ => by simp
  | u :: us, h => by
    rw [List.flatten_cons, List.length_append, Els.len (us := us) (fun x hx => h x (List.mem_cons_of_mem _ hx)), (h u (List.mem_cons_self ..)).1, List.length_cons, Nat.add_mul, Nat.one_mul, Nat.add_comm]
theorem Els.all {k : Nat} : ∀ {us : List (List Value)}, Els k us → us.flatten.all Am.one = true
  | [], _ => rfl
  | u :: us, h => by
    rw [List.flatten_cons, List.all_append, (h u (List.mem_cons_self ..)).2, Els.all (us := us) (fun x hx => h x (List.mem_cons_of_mem _ hx))]; rfl
theorem Els.drop {k : Nat} : ∀ {us : List (List Value)}, Els k us → ∀ i, us.flatten.drop (i * k) = (us.drop i).flatten
  | us, _, 0 => by simp
  | [], _, i + 1 => by simp
  | u :: us, h, i + 1 => by
    have hu := (h u (List.mem_cons_self ..)).1
    rw [List.flatten_cons, List.drop_succ_cons, ← Els.drop (us := us) (fun x hx => h x (List.mem_cons_of_mem _ hx)) i]
    rw [show (i + 1) * k = u.length + i * k by rw [hu, Nat.add_mul, Nat.one_mul, Nat.add_comm], List.drop_append, List.drop_of_length_le (by omega), Nat.add_sub_cancel_left, List.nil_append]
theorem rd_row2 {h : Hp} {i k : Nat} {us : List (List Value)} {tl : List Value} {b : Bool} {e : Nat} (hg : h.get i = some ⟨us.flatten ++ tl, b, e⟩) (he : Els k us) {x : Nat} {u : List Value} (hx : us[x]? = some u) : h.rd i (0 + x * k) k = some u := by
  obtain ⟨hl, rfl⟩ := List.getElem?_eq_some_iff.1 hx
  have hn := he.len
  have hm := (he _ (List.getElem_mem hl)).1
  have hmul : x * k + k ≤ us.length * k := by rw [← Nat.succ_mul]; exact Nat.mul_le_mul_right _ hl
  unfold Hp.rd
  simp only [hg, Nat.zero_add]
  rw [if_pos (by rw [List.length_append]; omega)]
  rw [List.drop_append_of_le_length (by omega), he.drop, List.drop_eq_getElem_cons hl, List.flatten_cons, List.append_assoc]
  rw [List.take_left' hm]
/-- One cell of one element is written. -/
theorem Els.set {k : Nat} : ∀ {us : List (List Value)}, Els k us → ∀ {w : Nat} {u : List Value}, us[w]? = some u → ∀ {f : Nat}, f < k → ∀ v, us.flatten.set (w * k + f) v = (us.set w (u.set f v)).flatten
  | [], _, _, _, hw, _, _, _ => by cases hw
  | x :: us, h, 0, u, hw, f, hf, v => by
    cases hw
    have hx := (h x (List.mem_cons_self ..)).1
    rw [List.flatten_cons, List.set_cons_zero, List.flatten_cons, Nat.zero_mul, Nat.zero_add, List.set_append_left _ _ (by omega)]
  | x :: us, h, w + 1, u, hw, f, hf, v => by
    have hx := (h x (List.mem_cons_self ..)).1
    rw [List.flatten_cons, List.set_cons_succ, List.flatten_cons, List.set_append_right _ _ (by rw [Nat.add_mul, Nat.one_mul]; omega)]
    rw [show (w + 1) * k + f - x.length = w * k + f by rw [Nat.add_mul, Nat.one_mul]; omega]
    rw [Els.set (us := us) (fun x hx => h x (List.mem_cons_of_mem _ hx)) (by simpa using hw) hf v]
theorem Els.put {k : Nat} {us : List (List Value)} (h : Els k us) {w : Nat} {u : List Value} (hu : u.length = k) (ho : u.all Am.one = true) : Els k (us.set w u) := fun x hx => by
  rcases List.mem_or_eq_of_mem_set hx with hx | rfl
  · exact h x hx
  · exact ⟨hu, ho⟩
/-- A row that has grown (elements of k cells): its object's number is from N on. -/
def GR (k N : Nat) (h : Hp) (s : Value) (us : List (List Value)) : Prop :=
  (s = .slice none 0 0 ∧ us = []) ∨ ∃ i, N ≤ i ∧ i < h.nx ∧ s = .slice (some ⟨i, 0, some 0⟩) us.length us.length ∧ h.get i = some ⟨us.flatten, true, k⟩ ∧ us ≠ [] ∧ Els k us
/-- A row that is read. -/
def RR (k : Nat) (h : Hp) (s : Value) (us : List (List Value)) : Prop :=
  (s = .slice none 0 0 ∧ us = []) ∨ ∃ i o sp c, s = .slice (some ⟨i, o, sp⟩) us.length c ∧ i < h.nx ∧ (us ≠ [] → sp.getD 0 = 0) ∧ ∀ (x : Nat) u, us[x]? = some u → h.rd i (o + x * k) k = some u
/-- All stays but a row's own object. -/
def Xo (s : Value) (h g : Hp) : Prop := ∀ j, j < h.nx → (∀ a n c, s = .slice (some a) n c → j ≠ a.block) → g.get j = h.get j
theorem GR.blk {k N : Nat} {h : Hp} {s : Value} {us : List (List Value)} (r : GR k N h s us) {a : Addr} {n c : Nat} (e : s = .slice (some a) n c) : N ≤ a.block ∧ a.block < h.nx := by
  rcases r with ⟨rfl, _⟩ | ⟨i, h1, h2, rfl, _⟩
  · cases e
  · cases e; exact ⟨h1, h2⟩
theorem Xo.get {k N : Nat} {g0 h g : Hp} {s : Value} {us : List (List Value)} (x : Xo s h g) (r : GR k N g0 s us) {j : Nat} (hj : j < h.nx) (h0 : j < N ∨ g0.nx ≤ j) : g.get j = h.get j :=
  x j hj fun a n c e => by have := r.blk e; omega
/-- What is below N stays. -/
def Xt (N : Nat) (h g : Hp) : Prop := h.nx ≤ g.nx ∧ ∀ j, j < N → g.get j = h.get j
theorem Xt.refl (N : Nat) (h : Hp) : Xt N h h := ⟨Nat.le_refl _, fun _ _ => rfl⟩
theorem Xt.trans {N : Nat} {a b c : Hp} (x : Xt N a b) (y : Xt N b c) : Xt N a c := ⟨Nat.le_trans x.1 y.1, fun j hj => (y.2 j hj).trans (x.2 j hj)⟩
theorem Ext.xt {N : Nat} {a b : Hp} (x : Ext a b) (hN : N ≤ a.nx) : Xt N a b := ⟨x.1, fun j hj => x.2 j (Nat.lt_of_lt_of_le hj hN)⟩
theorem Xt.mono {N M : Nat} {a b : Hp} (x : Xt N a b) (h : M ≤ N) : Xt M a b := ⟨x.1, fun j hj => x.2 j (Nat.lt_of_lt_of_le hj h)⟩
theorem Xt.ext {a b : Hp} (x : Xt a.nx a b) : Ext a b := ⟨x.1, x.2⟩
theorem Ext.xtr {N : Nat} {a b c : Hp} (x : Ext a b) (y : Xt N b c) (hN : a.nx ≤ N) : Ext a c := ⟨Nat.le_trans x.1 y.1, fun j hj => (y.2 j (Nat.lt_of_lt_of_le hj hN)).trans (x.2 j hj)⟩
/-- A store into an object from N on. -/
theorem Xt.own {N i : Nat} {a b c : Hp} (x : Xt N a b) (hi : N ≤ i) (m : ∀ k, k ≠ i → c.get k = b.get k) (n : c.nx = b.nx) : Xt N a c := ⟨by rw [n]; exact x.1, fun j hj => (m j (by omega)).trans (x.2 j hj)⟩
theorem GR.nil (k N : Nat) (h : Hp) : GR k N h (.slice none 0 0) [] := .inl ⟨rfl, rfl⟩
theorem GR.rr {k N : Nat} {h : Hp} {s : Value} {us : List (List Value)} (a : GR k N h s us) : RR k h s us := by
  rcases a with a | ⟨i, _, h2, rfl, hg, _, he⟩
  · exact .inl a
  · exact .inr ⟨i, 0, some 0, _, rfl, h2, fun _ => rfl, fun x u hx => rd_row2 (tl := []) (by rw [List.append_nil]; exact hg) he hx⟩
theorem GR.len {k N : Nat} {h : Hp} {s : Value} {us : List (List Value)} (a : GR k N h s us) : ∃ x c, s = .slice x us.length c := by
  rcases a with ⟨rfl, rfl⟩ | ⟨i, _, _, rfl, _⟩ <;> exact ⟨_, _, rfl⟩
theorem RR.len {k : Nat} {h : Hp} {s : Value} {us : List (List Value)} (a : RR k h s us) : ∃ x c, s = .slice x us.length c := by
  rcases a with ⟨rfl, rfl⟩ | ⟨i, o, sp, c, rfl, _⟩ <;> exact ⟨_, _, rfl⟩
theorem RR.one {k : Nat} {h : Hp} {s : Value} {us : List (List Value)} (a : RR k h s us) : Am.one s = true := by
  rcases a with ⟨rfl, rfl⟩ | ⟨i, o, sp, c, rfl, _⟩ <;> rfl
theorem GR.keep {k N : Nat} {h g : Hp} {s : Value} {us : List (List Value)} (a : GR k N h s us) (hn : h.nx ≤ g.nx) (hk : ∀ i, N ≤ i → i < h.nx → g.get i = h.get i) : GR k N g s us := by
  rcases a with a | ⟨i, h1, h2, h3, h4, h5⟩
  · exact .inl a
  · exact .inr ⟨i, h1, by omega, h3, (hk i h1 h2).trans h4, h5⟩
theorem GR.ext {k N : Nat} {h g : Hp} {s : Value} {us : List (List Value)} (a : GR k N h s us) (x : Ext h g) : GR k N g s us := a.keep x.1 fun i _ hi => x.2 i hi
theorem GR.mono {k N M : Nat} {h : Hp} {s : Value} {us : List (List Value)} (a : GR k N h s us) (hm : M ≤ N) : GR k M h s us := by
  rcases a with a | ⟨i, h1, h2⟩
  · exact .inl a
  · exact .inr ⟨i, Nat.le_trans hm h1, h2⟩
theorem RR.ext {k : Nat} {h g : Hp} {s : Value} {us : List (List Value)} (a : RR k h s us) (x : Ext h g) : RR k g s us := by
  rcases a with a | ⟨i, o, sp, c, h1, h2, h3⟩
  · exact .inl a
  · exact .inr ⟨i, o, sp, c, h1, Nat.lt_of_lt_of_le h2 x.1, h3.1, fun j u hu => by rw [x.rd h2]; exact h3.2 j u hu⟩
theorem RR.keep {k : Nat} {h g : Hp} {s : Value} {us : List (List Value)} (a : RR k h s us) (hn : h.nx ≤ g.nx) (hk : ∀ a n c, s = .slice (some a) n c → g.get a.block = h.get a.block) : RR k g s us := by
  rcases a with a | ⟨i, o, sp, c, rfl, h2, h3⟩
  · exact .inl a
  · exact .inr ⟨i, o, sp, c, rfl, Nat.lt_of_lt_of_le h2 hn, h3.1, fun j u hu => by
      have := h3.2 j u hu
      unfold Hp.rd at this ⊢
      rw [hk _ _ _ rfl]
      exact this⟩
/-- An element of a row that is read. -/
theorem RR.at {k : Nat} {h : Hp} {x : Option Addr} {n c : Nat} {us : List (List Value)} (a : RR k h (.slice x n c) us) {j : Nat} {u : List Value} (hj : us[j]? = some u) :
    ∃ i o sp, x = some ⟨i, o, sp⟩ ∧ i < h.nx ∧ h.rd i (o + ((j : Nat) : Int).toNat * k) k = some u := by
  rcases a with ⟨_, rfl⟩ | ⟨i, o, sp, c, e, hi, _, hr⟩
  · cases hj
  · cases e
    exact ⟨i, o, sp, rfl, hi, by rw [Int.toNat_natCast]; exact hr j u hj⟩
/-- One cell of an element. -/
theorem rd_part {h : Hp} {i o k : Nat} {u : List Value} (e : h.rd i o k = some u) {f : Nat} {v : Value} (hf : u[f]? = some v) : h.rd i (o + f) 1 = some [v] := by
  have hl := rd_len e
  obtain ⟨h1, rfl⟩ := List.getElem?_eq_some_iff.1 hf
  obtain ⟨h2, h3⟩ := rd_at e (x := f) (by omega)
  exact h3
theorem rd_join {h : Hp} {i o k m : Nat} {a b : List Value} (e1 : h.rd i o k = some a) (e2 : h.rd i (o + k) m = some b) : h.rd i o (k + m) = some (a ++ b) := by
  obtain ⟨ob, hob, hn, rfl⟩ := Hp.rd_some e1
  obtain ⟨ob2, hob2, hn2, rfl⟩ := Hp.rd_some e2
  rw [hob] at hob2; cases hob2
  unfold Hp.rd
  simp only [hob]
  rw [if_pos (by omega), List.take_add, List.drop_drop]
theorem rd_zero {h : Hp} {i o : Nat} {ob : Ob} (hg : h.get i = some ob) (ho : o ≤ ob.cells.length) : h.rd i o 0 = some [] := by
  unfold Hp.rd
  simp only [hg]
  rw [if_pos (by omega)]
  rfl
theorem rd_els {h : Hp} {i k : Nat} : ∀ {us : List (List Value)} {o : Nat}, us ≠ [] → (∀ (x : Nat) u, us[x]? = some u → h.rd i (o + x * k) k = some u) → h.rd i o (us.length * k) = some us.flatten
  | [], _, h0, _ => absurd rfl h0
  | [u], o, _, hr => by
    have := hr 0 u rfl
    simpa using this
  | u :: v :: us, o, _, hr => by
    have h1 := hr 0 u rfl
    rw [Nat.zero_mul, Nat.add_zero] at h1
    have h2 := rd_els (us := v :: us) (o := o + k) (by simp) fun x w hw => by
      have := hr (x + 1) w (by simpa using hw)
      rw [Nat.add_mul, Nat.one_mul] at this
      rw [show o + k + x * k = o + (x * k + k) by omega]
      exact this
    have := rd_join h1 h2
    rw [show (u :: v :: us).length * k = k + (v :: us).length * k by rw [List.length_cons, Nat.add_mul, Nat.one_mul, Nat.add_comm]]
    exact this
/-- The whole of a row that is read. -/
theorem RR.all {k : Nat} {h : Hp} {x : Option Addr} {n c : Nat} {us : List (List Value)} (a : RR k h (.slice x n c) us) (h0 : us ≠ []) : ∃ i o sp, x = some ⟨i, o, sp⟩ ∧ n = us.length ∧ sp.getD 0 = 0 ∧ h.rd i o (us.length * k) = some us.flatten := by
  rcases a with ⟨_, rfl⟩ | ⟨i, o, sp, c, e, hi, hs, hr⟩
  · exact absurd rfl h0
  · cases e
    exact ⟨i, o, sp, rfl, rfl, hs h0, rd_els h0 hr⟩
/-- A row of whole numbers. -/
def rI (l : List Int) : List (List Value) := l.map fun a => [nI a]
theorem rI_els (l : List Int) : Els 1 (rI l) := fun u hu => by
  obtain ⟨a, _, rfl⟩ := List.mem_map.1 hu
  exact ⟨rfl, rfl⟩
theorem rI_len (l : List Int) : (rI l).length = l.length := by simp [rI]
theorem rI_get {l : List Int} {i : Nat} {a : Int} (h : l[i]? = some a) : (rI l)[i]? = some [nI a] := by simp [rI, h]
theorem rI_app (l m : List Int) : rI (l ++ m) = rI l ++ rI m := by simp [rI]
/-- The row is none of those that were. -/
def New (N : Nat) (s : Value) : Prop := ∀ a n c, s = .slice (some a) n c → N ≤ a.block
theorem GR.new {k N : Nat} {h : Hp} {s : Value} {us : List (List Value)} (r : GR k N h s us) : New N s := fun _ _ _ e => (r.blk e).1
theorem get_eq_of {l m : List Int} (hl : l.length = m.length) (h : ∀ (i : Nat) a b, l[i]? = some a → m[i]? = some b → a = b) : l = m := by
  refine List.ext_getElem hl fun i h1 h2 => ?_
  exact h i _ _ (List.getElem?_eq_getElem h1) (List.getElem?_eq_getElem h2)
theorem Rd.rr {h : Hp} {s : Value} {l : List Int} (r : Rd h s (l.map nI)) (hi : ∀ i o sp n c, s = .slice (some ⟨i, o, sp⟩) n c → i < h.nx ∧ sp.getD 0 = 0) : RR 1 h s (rI l) := by
  rcases r with ⟨rfl, e⟩ | ⟨i, o, sp, c, rfl, hr⟩
  · rw [List.map_eq_nil_iff] at e
    exact .inl ⟨rfl, by rw [e]; rfl⟩
  · refine .inr ⟨i, o, sp, c, by rw [rI_len, List.length_map], (hi _ _ _ _ _ rfl).1, fun _ => (hi _ _ _ _ _ rfl).2, fun x u hu => ?_⟩
    simp only [rI, List.getElem?_map, Option.map_eq_some_iff] at hu
    obtain ⟨a, ha, rfl⟩ := hu
    exact hr x _ (by rw [List.getElem?_map, ha]; rfl)
section
variable {P : Program} {CT : CTy} {env : Env} {h : Hp} {d : Option Nat} {xs : List Operand} {R : Value → Hp → Prop}
theorem getne {h : Hp} {i j : Nat} {o : Ob} (e : ¬ j = i) : (if j = i then some o else h.get j) = h.get j := if_neg e
/-- append(l, v): v in a row of its own (one element, as the program makes it). -/
theorem w_app1 {N k bytes : Nat} {t : TypeId} {s : Value} {us : List (List Value)} {u : List Value} {q m : Nat} {b : Bool} (e : mapF env xs = some [s, .slice (some ⟨q, 0, none⟩) 1 1]) (r : GR k N h s us) (hq : h.get q = some ⟨u, b, m⟩) (hu : u.length = k) (ho : u.all one = true) (hk : 0 < k)
    (hb : (us.length + 1) * bytes ≤ 140737488355328) (hl : us.length + 1 ≤ 140737488355328) (hN : N ≤ h.nx)
    (n : ∀ s' g, GR k N g s' (us ++ [u]) → Xt N h g → Xo s h g → R s' g) : WI P CT ⟨d, none, .op (.app t k bytes) xs⟩ env h R := by
  have hrd : rdS h (some ⟨q, 0, none⟩) (1 * k) = some u := by
    simp only [rdS, Nat.one_mul]
    rw [if_neg (by omega)]
    simp only [Option.getD_none, if_true]
    exact rd_all hq hu
  have key : ∃ s' g, stepK (.app t k bytes) [s, .slice (some ⟨q, 0, none⟩) 1 1] h = some (s', g) ∧ GR k N g s' (us ++ [u]) ∧ Xt N h g ∧ Xo s h g := by
    rcases r with ⟨rfl, rfl⟩ | ⟨i, h1, h2, rfl, h4, h5, h6⟩
    · refine ⟨.slice (some ⟨h.nx, 0, some 0⟩) 1 1, h.new ⟨u, true, k⟩, ?_, .inr ⟨h.nx, hN, by simp [Hp.new], rfl, by simp [Hp.new], by simp, Els.one hu ho⟩, (Ext.new _ _).xt hN, fun j hj _ => (Ext.new h _).2 j hj⟩
      simp only [stepK, hrd, appA]
      simp only [List.length_nil, Nat.zero_add] at hb hl
      rw [if_pos ⟨by omega, ho, hk, by simpa using hb, by omega⟩]
      simp
    · have hn0 : us.length ≠ 0 := fun hz => h5 (List.eq_nil_of_length_eq_zero hz)
      have hold : h.rd i 0 (us.length * k) = some us.flatten := rd_all h4 h6.len
      refine ⟨.slice (some ⟨h.nx, 0, some 0⟩) (us.length + 1) (us.length + 1), (h.del i).new ⟨us.flatten ++ u, true, k⟩, ?_, .inr ⟨h.nx, hN, by simp [Hp.new, Hp.del], by simp, by simp [Hp.new, Hp.del], by simp, h6.app (Els.one hu ho)⟩, ⟨by simp [Hp.new, Hp.del], fun j hj => ?_⟩, fun j hj hne => ?_⟩
      · simp only [stepK, hrd, appA]
        rw [if_pos ⟨by omega, ho, hk, hb, hl⟩]
        simp only [Nat.one_ne_zero, if_false, show ¬ (us.length + 1 ≤ us.length) by omega, if_neg hn0, hold, h4]
        rw [if_pos ⟨trivial, trivial, by rw [h6.len]; omega, Nat.le_refl _, h6.all⟩]
      · have e1 : ¬ j = h.nx := by omega
        have e2 : ¬ j = i := by omega
        simp [Hp.new, Hp.del, e1, e2]
      · have e1 : ¬ j = h.nx := by omega
        have e2 : ¬ j = i := hne _ _ _ rfl
        simp [Hp.new, Hp.del, e1, e2]
  obtain ⟨s', g, hs, h1, h2, h3⟩ := key
  exact w_op (v := s') (h' := g) (by unfold opF; rw [e]; exact hs) (n s' g h1 h2 h3)
/-- append(literal, one): a literal that is not empty has no room. -/
theorem w_app0 {k bytes n0 i : Nat} {t : TypeId} {us : List (List Value)} {u : List Value} {q m m' : Nat} {b b' : Bool} (e : mapF env xs = some [.slice (some ⟨i, 0, none⟩) n0 n0, .slice (some ⟨q, 0, none⟩) 1 1]) (hn : n0 = us.length) (hi : h.get i = some ⟨us.flatten, b', m'⟩) (he : Els k us) (h0 : us ≠ []) (hq : h.get q = some ⟨u, b, m⟩) (hu : u.length = k) (ho : u.all one = true) (hk : 0 < k)
    (hb : (us.length + 1) * bytes ≤ 140737488355328) (hl : us.length + 1 ≤ 140737488355328)
    (n : ∀ s' g, GR k h.nx g s' (us ++ [u]) → Ext h g → R s' g) : WI P CT ⟨d, none, .op (.app t k bytes) xs⟩ env h R := by
  subst hn
  have hrd : rdS h (some ⟨q, 0, none⟩) (1 * k) = some u := by
    simp only [rdS, Nat.one_mul]
    rw [if_neg (by omega)]
    simp only [Option.getD_none, if_true]
    exact rd_all hq hu
  have hn0 : us.length ≠ 0 := fun hz => h0 (List.eq_nil_of_length_eq_zero hz)
  have hold : h.rd i 0 (us.length * k) = some us.flatten := rd_all hi he.len
  refine w_op (v := .slice (some ⟨h.nx, 0, some 0⟩) (us.length + 1) (us.length + 1)) (h' := h.new ⟨us.flatten ++ u, true, k⟩) ?_ (n _ _ (.inr ⟨h.nx, Nat.le_refl _, by simp [Hp.new], by simp, by simp [Hp.new], by simp, he.app (Els.one hu ho)⟩) (Ext.new _ _))
  unfold opF
  rw [e]
  simp only [stepK, hrd, appA]
  rw [if_pos ⟨by omega, ho, hk, hb, hl⟩]
  simp only [Nat.one_ne_zero, if_false, show ¬ (us.length + 1 ≤ us.length) by omega, if_neg hn0, hold]
/-- append([]T{}, l...): a copy of a row that is not empty. -/
theorem w_appc {k bytes c o : Nat} {t : TypeId} {us : List (List Value)} {q i : Nat} {sp : Option Nat} (e : mapF env xs = some [.slice (some ⟨q, 0, none⟩) 0 0, .slice (some ⟨i, o, sp⟩) us.length c]) (hr : rdS h (some ⟨i, o, sp⟩) (us.length * k) = some us.flatten) (he : Els k us) (h0 : us ≠ []) (hk : 0 < k)
    (hb : us.length * bytes ≤ 140737488355328) (hl : us.length ≤ 140737488355328)
    (n : ∀ g, g.get h.nx = some ⟨us.flatten, true, k⟩ → Ext h g → h.nx < g.nx → R (.slice (some ⟨h.nx, 0, some 0⟩) us.length us.length) g) : WI P CT ⟨d, none, .op (.app t k bytes) xs⟩ env h R := by
  have hn0 : us.length ≠ 0 := fun hz => h0 (List.eq_nil_of_length_eq_zero hz)
  refine w_op (v := .slice (some ⟨h.nx, 0, some 0⟩) us.length us.length) (h' := h.new ⟨us.flatten, true, k⟩) ?_ (n _ (by simp [Hp.new]) (Ext.new _ _) (by simp [Hp.new]))
  unfold opF
  rw [e]
  simp only [stepK, hr, appA, Nat.zero_add]
  rw [if_pos ⟨he.len, he.all, hk, hb, hl⟩]
  simp only [if_neg hn0, show ¬ us.length ≤ 0 by omega, if_true, if_false, List.nil_append]
/-- append([]T{}, l...), of whatever row. -/
theorem w_clone {k bytes : Nat} {t : TypeId} {us : List (List Value)} {q : Nat} {x : Option Addr} {n0 c : Nat} (e : mapF env xs = some [.slice (some ⟨q, 0, none⟩) 0 0, .slice x n0 c]) (r : RR k h (.slice x n0 c) us) (he : Els k us) (hq : q < h.nx) (hk : 0 < k)
    (hb : us.length * bytes ≤ 140737488355328) (hl : us.length ≤ 140737488355328)
    (n : ∀ v g, RR k g v us → Ext h g → (∀ a m c, v = .slice (some a) m c → q ≤ a.block) → R v g) : WI P CT ⟨d, none, .op (.app t k bytes) xs⟩ env h R := by
  by_cases h0 : us = []
  · subst h0
    obtain ⟨x', c', e'⟩ := r.len
    cases e'
    refine w_op (v := .slice (some ⟨q, 0, none⟩) 0 0) (h' := h) ?_ (n _ _ (.inr ⟨q, 0, none, 0, rfl, hq, fun hc => absurd rfl hc, fun x u hu => by cases hu⟩) (Ext.refl _) fun a m c e => by cases e; exact Nat.le_refl _)
    unfold opF
    rw [e]
    have hrd : rdS h x (([] : List (List Value)).length * k) = some [] := by
      simp only [List.length_nil, Nat.zero_mul]
      unfold rdS
      cases x <;> simp
    simp only [stepK, hrd, appA]
    simp [hk]
  · obtain ⟨i, o, sp, rfl, rfl, hsp, hr⟩ := r.all h0
    have hlen : us.length ≠ 0 := fun hz => h0 (List.eq_nil_of_length_eq_zero hz)
    have hmul : us.length * k ≠ 0 := Nat.mul_ne_zero hlen (by omega)
    refine w_appc e (by simp only [rdS, if_neg hmul, hsp, if_true]; exact hr) he h0 hk hb hl fun g hg x hn => ?_
    exact n _ g (GR.rr (N := h.nx) (.inr ⟨h.nx, Nat.le_refl _, hn, rfl, hg, h0, he⟩)) x fun a m c e => by cases e; exact Nat.le_of_lt hq
/-- l[:m]. -/
theorem w_pre {i n c m esz : Nat} (e : mapF env xs = some [.slice (some ⟨i, 0, some 0⟩) n c, .int .i64 (m : Int)]) (hm : m ≤ c) (h0 : 0 < c) (r : R (.slice (some ⟨i, 0, some 0⟩) m c) h) : WI P CT ⟨d, none, .op (.slc esz false true false) xs⟩ env h R := by
  refine w_op (v := .slice (some ⟨i, 0, some 0⟩) m c) (h' := h) ?_ r
  unfold opF
  rw [e]
  have hm2 : (0 : Int) ≤ (m : Int) ∧ (m : Int) ≤ c := by omega
  simp only [stepK, get3, takeB, sliceA, bounds, bnd, if_pos hm2]
  have h1 : (0 : Nat) ≤ m := Nat.zero_le _
  have h2 : ¬ c = 0 := by omega
  simp [h2]
/-- A row that may be appended to: a grown one, or an empty literal. -/
def G0 (k N : Nat) (h : Hp) (s : Value) (us : List (List Value)) : Prop := GR k N h s us ∨ ∃ q, s = .slice (some ⟨q, 0, none⟩) 0 0 ∧ us = [] ∧ N ≤ q ∧ q < h.nx
theorem G0.rr {k N : Nat} {h : Hp} {s : Value} {us : List (List Value)} (a : G0 k N h s us) : RR k h s us := by
  rcases a with a | ⟨q, rfl, rfl, _, hq⟩
  · exact a.rr
  · exact .inr ⟨q, 0, none, 0, rfl, hq, fun hc => absurd rfl hc, fun x u hu => by cases hu⟩
theorem G0.new {k N : Nat} {h : Hp} {s : Value} {us : List (List Value)} (a : G0 k N h s us) : New N s := by
  rcases a with a | ⟨q, rfl, rfl, hN, _⟩
  · exact a.new
  · intro a n c e; cases e; exact hN
theorem G0.ext {k N : Nat} {h g : Hp} {s : Value} {us : List (List Value)} (a : G0 k N h s us) (x : Ext h g) : G0 k N g s us := by
  rcases a with a | ⟨q, rfl, rfl, hN, hq⟩
  · exact .inl (a.ext x)
  · exact .inr ⟨q, rfl, rfl, hN, Nat.lt_of_lt_of_le hq x.1⟩
/-- append(l, m...). -/
theorem w_appR {N k bytes : Nat} {t : TypeId} {s : Value} {us vs : List (List Value)} {x : Option Addr} {n0 c : Nat} (e : mapF env xs = some [s, .slice x n0 c]) (r : G0 k N h s us) (r2 : RR k h (.slice x n0 c) vs) (he : Els k vs) (hk : 0 < k)
    (hb : (us.length + vs.length) * bytes ≤ 140737488355328) (hl : us.length + vs.length ≤ 140737488355328) (hN : N ≤ h.nx)
    (n : ∀ s' g, G0 k N g s' (us ++ vs) → Xt N h g → R s' g) : WI P CT ⟨d, none, .op (.app t k bytes) xs⟩ env h R := by
  obtain ⟨_, c', e'⟩ := r2.len
  cases e'
  have key : ∃ s' g, stepK (.app t k bytes) [s, .slice x vs.length c] h = some (s', g) ∧ G0 k N g s' (us ++ vs) ∧ Xt N h g := by
    by_cases h0 : vs = []
    · subst h0
      have hrd : rdS h x 0 = some [] := by
        unfold rdS
        cases x <;> simp
      rw [List.append_nil]
      simp only [stepK, appA]
      simp only [List.length_nil, Nat.add_zero] at hb hl ⊢
      rcases r with r | ⟨q, rfl, rfl, h1, h2⟩
      · rcases r with ⟨rfl, rfl⟩ | ⟨i, h1, h2, rfl, h4⟩
        · refine ⟨.slice none 0 0, h, ?_, .inl (.nil _ _ _), Xt.refl _ _⟩
          simp [hk, hrd]
        · refine ⟨.slice (some ⟨i, 0, some 0⟩) us.length us.length, h, ?_, .inl (.inr ⟨i, h1, h2, rfl, h4⟩), Xt.refl _ _⟩
          simp [hk, hb, hl, hrd]
      · refine ⟨.slice (some ⟨q, 0, none⟩) 0 0, h, ?_, .inr ⟨q, rfl, rfl, h1, h2⟩, Xt.refl _ _⟩
        simp [hk, hrd]
    · obtain ⟨i2, o2, sp2, rfl, _, hsp, hr⟩ := r2.all h0
      have hlen : vs.length ≠ 0 := fun hz => h0 (List.eq_nil_of_length_eq_zero hz)
      have hmul : vs.length * k ≠ 0 := Nat.mul_ne_zero hlen (by omega)
      have hrd : rdS h (some ⟨i2, o2, sp2⟩) (vs.length * k) = some vs.flatten := by simp only [rdS, if_neg hmul, hsp, if_true]; exact hr
      have hc1 : vs.flatten.length = vs.length * k ∧ vs.flatten.all Am.one = true ∧ 0 < k ∧ (us.length + vs.length) * bytes ≤ 140737488355328 ∧ us.length + vs.length ≤ 140737488355328 := ⟨he.len, he.all, hk, hb, hl⟩
      have fresh : ∀ n1, n1 = vs.length → us = [] → GR k N (h.new ⟨vs.flatten, true, k⟩) (.slice (some ⟨h.nx, 0, some 0⟩) n1 n1) (us ++ vs) := by
        rintro _ rfl rfl
        exact .inr ⟨h.nx, hN, by simp [Hp.new], rfl, by simp [Hp.new], h0, he⟩
      rcases r with r | ⟨q, rfl, rfl, h1, h2⟩
      · rcases r with ⟨rfl, rfl⟩ | ⟨i, h1, h2, rfl, h4, h5, h6⟩
        · refine ⟨.slice (some ⟨h.nx, 0, some 0⟩) vs.length vs.length, h.new ⟨vs.flatten, true, k⟩, ?_, .inl (fresh _ rfl rfl), (Ext.new _ _).xt hN⟩
          simp only [List.length_nil, Nat.zero_add] at hc1
          simp only [stepK, hrd, appA, Nat.zero_add, if_pos hc1]
          simp [hlen]
        · have hn0 : us.length ≠ 0 := fun hz => h5 (List.eq_nil_of_length_eq_zero hz)
          have hold : h.rd i 0 (us.length * k) = some us.flatten := rd_all h4 h6.len
          refine ⟨.slice (some ⟨h.nx, 0, some 0⟩) (us.length + vs.length) (us.length + vs.length), (h.del i).new ⟨us.flatten ++ vs.flatten, true, k⟩, ?_, .inl (.inr ⟨h.nx, hN, by simp [Hp.new, Hp.del], by simp, by simp [Hp.new, Hp.del], by simp [h0], h6.app he⟩), ⟨by simp [Hp.new, Hp.del], fun j hj => ?_⟩⟩
          · simp only [stepK, hrd, appA, if_pos hc1, if_neg hlen, show ¬ (us.length + vs.length ≤ us.length) by omega, if_false, if_neg hn0, hold, h4]
            rw [if_pos ⟨trivial, trivial, by rw [h6.len]; omega, Nat.le_refl _, h6.all⟩]
          · have e1 : ¬ j = h.nx := by omega
            have e2 : ¬ j = i := by omega
            simp [Hp.new, Hp.del, e1, e2]
      · refine ⟨.slice (some ⟨h.nx, 0, some 0⟩) vs.length vs.length, h.new ⟨vs.flatten, true, k⟩, ?_, .inl (fresh _ rfl rfl), (Ext.new _ _).xt hN⟩
        simp only [List.length_nil, Nat.zero_add] at hc1
        simp only [stepK, hrd, appA, Nat.zero_add, if_pos hc1, if_neg hlen, show ¬ (vs.length ≤ 0) by omega, if_false, if_true, List.nil_append]
  obtain ⟨s', g, hs, h1, h2⟩ := key
  exact w_op (v := s') (h' := g) (by unfold opF; rw [e]; exact hs) (n s' g h1 h2)
/-- l[m:]. -/
theorem w_suf {N k l : Nat} {s : Value} {us : List (List Value)} (e : mapF env xs = some [s, .int .i64 (l : Int)]) (r : GR k N h s us) (h0 : us ≠ []) (hl : l ≤ us.length) (n : ∀ s', RR k h s' (us.drop l) → R s' h) : WI P CT ⟨d, none, .op (.slc k true false false) xs⟩ env h R := by
  rcases r with ⟨_, e0⟩ | ⟨i, h1, h2, rfl, h4, h5, h6⟩
  · exact absurd e0 h0
  refine w_op (v := .slice (some ⟨i, 0 + l * k, some (if us.length = l then 1 else 0)⟩) (us.length - l) (us.length - l)) (h' := h) ?_ (n _ (.inr ⟨i, 0 + l * k, _, _, by rw [List.length_drop], h2, fun hc => ?_, fun x u hx => ?_⟩))
  · unfold opF
    rw [e]
    have hm2 : (0 : Int) ≤ (l : Int) ∧ (l : Int) ≤ us.length := by omega
    simp only [stepK, get3, takeB, sliceA, bounds, bnd]
    simp [hm2]
  · rw [if_neg (fun he => hc (by rw [← he]; exact List.drop_length))]
    rfl
  · have := rd_row2 (tl := []) (by rw [List.append_nil]; exact h4) h6 (x := l + x) (u := u) (by rw [List.getElem?_drop] at hx; exact hx)
    rw [Nat.add_mul] at this
    rw [show 0 + l * k + x * k = 0 + (l * k + x * k) by omega]
    exact this
/-- l[:m], read. -/
theorem w_prR {N k m : Nat} {s : Value} {us : List (List Value)} (e : mapF env xs = some [s, .int .i64 (m : Int)]) (r : GR k N h s us) (h0 : us ≠ []) (hm : m ≤ us.length) (n : ∀ s', RR k h s' (us.take m) → R s' h) : WI P CT ⟨d, none, .op (.slc k false true false) xs⟩ env h R := by
  rcases r with ⟨_, e0⟩ | ⟨i, h1, h2, rfl, h4, h5, h6⟩
  · exact absurd e0 h0
  have hpos : 0 < us.length := List.length_pos_iff.2 h0
  refine w_pre e hm hpos (n _ (.inr ⟨i, 0, some 0, _, by rw [List.length_take, Nat.min_eq_left hm], h2, fun _ => rfl, fun x u hx => ?_⟩))
  rw [List.getElem?_take] at hx
  split at hx
  · exact rd_row2 (tl := []) (by rw [List.append_nil]; exact h4) h6 hx
  · cases hx
end
end Go.Proofs.YtapbmmlgmcmpnaaDoorW.Am
/- From the kit's contracts of the library to contracts over abstract heaps, and back. -/
namespace Go.Proofs.YtapbmmlgmcmpnaaDoorW.Am
open Go Go.RowKit Go.Sort
theorem enters_comp {P : Program} {f : FuncId} {fn : Func} {fi : FI} (hf : P.funcs[f]? = some fn) (hc : compF P fn = some fi) : Enters P f := by
  unfold compF at hc
  split at hc
  case h_2 => cases hc
  case h_1 c hbody =>
  split at hc
  case h_2 => cases hc
  case h_1 ic hic =>
  split at hc
  · cases hc
  next hname =>
  exact ⟨fn, hf, by simp [hbody], hname⟩
/-- A contract of plain values that leaves what was there. -/
theorem bridge {P : Program} {f : FuncId} {args : List Value} {x : Value} (he : Enters P f) (fa : flatL args = true) (fx : flat x = true)
    (c : ∀ w, TbP w → Calls P f args.toArray w fun e w' => e = .returned x ∧ Below w.heap.size w w' ∧ (DrOn → w.drawn ≤ w'.drawn)) (h : Hp) : ACall P f args h (fun v g => v = x ∧ h = g) := by
  refine ⟨he, fun base w0 m w args' ra s => ?_⟩
  have ea : args' = args := ra.flat_eq fa
  subst ea
  refine (c w (s.below.tb w s.below.bl)).mono ?_
  rintro e w' ⟨rfl, hb, hd⟩
  exact ⟨m, x, x, h, rfl, m.le_refl, RV.of_flat m x fx, s.world (hb.mono s.big) hd hb.size (fun b es ck hm => hb.block _ (Array.getElem?_eq_some_iff.1 hm).1) fun i l ob _ hm => hb.block _ (s.lt i l hm), rfl, rfl⟩
/-- Back: a contract over the empty heap, of plain values, in any world. -/
theorem unbridge {P : Program} {f : FuncId} {args : List Value} {x : Value} (fa : flatL args = true) (fx : flat x = true) (c : ACall P f args Hp.empty (fun v _ => v = x)) (hd : DrOn) (W : World) (t : TbP W → Tb W.heap.size W) (t2 : TbP W) :
    Calls P f args.toArray W fun e W' => e = .returned x ∧ ∃ q os', W' = grow (W.drewN q) os' := by
  refine (c.2 W.heap.size W ⟨fun _ => none, fun _ => none⟩ W args (RVs.of_flat fa) (Sim.empty W (t t2))).mono ?_
  rintro e W' ⟨m', v, v', h', rfl, _, rv, s, rfl⟩
  obtain rfl := rv.flat_eq fx
  refine ⟨rfl, W'.drawn - W.drawn, W'.heap.extract W.heap.size W'.heap.size, ?_⟩
  have b := s.below.bl
  have d := s.below.dr hd
  obtain ⟨h1, t1, d1, o1, u1⟩ := W'
  obtain ⟨h2, t2, d2, o2, u2⟩ := W
  obtain ⟨b1, b2, b3, b4, b5⟩ := b
  dsimp only at b1 b2 b3 b4 b5 d
  subst b1 b2 b3
  unfold grow World.drewN
  have hh : h1 = h2 ++ h1.extract h2.size h1.size := by
    refine Array.ext' ?_
    rw [Array.toList_append, Array.toList_extract, List.extract_eq_take_drop]
    refine List.ext_getElem? fun i => ?_
    rcases Nat.lt_or_ge i h2.size with hi | hi
    · rw [List.getElem?_append_left (by simpa using hi)]
      have := b5 i hi
      simpa using this
    · rw [List.getElem?_append_right (by simpa using hi), List.getElem?_take, List.getElem?_drop]
      have e : h2.size + (i - h2.toList.length) = i := by simp; omega
      rw [e]
      split
      · rfl
      · next hc =>
        rw [List.getElem?_eq_none_iff]
        simp at hc ⊢
        omega
  have e : d1 = d2 + (d1 - d2) := by omega
  show (⟨h1, t1, d1, o1, u1⟩ : World) = ⟨h2 ++ h1.extract h2.size h1.size, t1, d2 + (d1 - d2), o1, u1⟩
  rw [← e, ← hh]
end Go.Proofs.YtapbmmlgmcmpnaaDoorW.Am
/- Texts: the library's calls, and digits. -/
namespace Go.Proofs.YtapbmmlgmcmpnaaDoorW.Am
open Go Go.RowKit
theorem below_drewN (w : World) (k : Nat) : Below w.heap.size w (w.drewN k) := ⟨rfl, rfl, rfl, Nat.le_refl _, fun _ _ => rfl⟩
theorem dr_no : DrOn → False := id
def bs (l : List UInt8) : Value := .string ⟨l.toArray⟩
theorem ba_eta (s : ByteArray) : Value.string s = bs s.data.toList := rfl
theorem hv116 (w : World) : (zeroValue (Go.Proofs.Tryd.lays160_ren.t 116)).run PX w = .ok (.agg (Array.replicate 256 (.bool false))) w := (Go.Proofs.Tryd.zeroValue82 w).trans (by kernel_rfl)
theorem trimD_br (l : List UInt8) (hl : l.length ≤ 1000000) (h : Hp) : ACall PX 23 [bs l, .string ⟨#[48, 49, 50, 51, 52, 53, 54, 55, 56, 57]⟩] h (fun v g => v = bs (Go.Lib.trimS l digB) ∧ h = g) :=
  bridge (enters_comp Go.Proofs.Tryd.func23 c23) rfl rfl (fun w _ => (Any.strings_Trim_ascii Go.Proofs.Tryd.lays160 hv116 (by kernel_rfl) ⟨l.toArray⟩ ⟨#[48, 49, 50, 51, 52, 53, 54, 55, 56, 57]⟩ w (by show l.toArray.size ≤ _; rw [List.size_toArray]; omega) (by decide) (by
    intro j b hb
    have := List.mem_of_getElem? hb
    have h2 : ∀ b ∈ digB, b.toNat < 128 := by decide
    exact h2 b this)).mono (by
    rintro e w' ⟨rfl, hb⟩
    exact ⟨rfl, hb, fun d => (dr_no d).elim⟩)) h
theorem parse_br {l : List UInt8} (h0 : 1 ≤ l.length) (h9 : l.length ≤ 9) (hd : l.all isDig = true) (h : Hp) : ACall PX 52 [bs l, nI 10, nI 64] h (fun v g => v = .tuple #[nI (valA 0 l), .nilIface] ∧ h = g) := by
  have hp : Go.Lib.parseIntB 64 (ByteArray.mk l.toArray).data.toList = .ok ((valA 0 l : Nat) : Int) := by
    rw [show (ByteArray.mk l.toArray).data.toList = l by simp]
    exact parse_ok h0 h9 hd
  exact bridge (enters_comp Go.Proofs.Tryd.func52 c52) rfl rfl (fun w _ => (Go.Proofs.Tryd.strconv_ParseInt_10_at64_ok ⟨l.toArray⟩ (by show l.toArray.size ≤ _; rw [List.size_toArray]; omega) ((valA 0 l : Nat) : Int) hp w).mono (by
    rintro e w' ⟨rfl, hw⟩
    refine ⟨rfl, ?_, fun d => (dr_no d).elim⟩
    rcases hw with rfl | ⟨t, rfl⟩
    · exact Below.refl _ _
    · exact Go.Joins.below_bytesWorld _ _ _ _ (Nat.le_refl _))) h
theorem cutp_br (l : List UInt8) (h : Hp) : ACall PX 28 [bs l, .string ⟨#[45]⟩] h (fun v g => v = .tuple #[bs (Go.Lib.trimPrefix l [45]), .bool (Go.Lib.hasPrefix l [45])] ∧ h = g) :=
  bridge (enters_comp Go.Proofs.Tryd.func28 c28) rfl rfl (fun w _ => (Go.Proofs.Tryd.strings_CutPrefix ⟨l.toArray⟩ ⟨#[45]⟩ w).mono (by
    rintro e w' ⟨rfl, rfl⟩
    exact ⟨rfl, Below.refl _ _, fun d => (dr_no d).elim⟩)) h
theorem cut_br (l p : List UInt8) (hl : l.length ≤ 1000000) (h : Hp) : ACall PX 24 [bs l, bs p] h (fun v g => v = .tuple #[bs (Go.Lib.cut l p).1, bs (Go.Lib.cut l p).2.1, .bool (Go.Lib.cut l p).2.2] ∧ h = g) :=
  bridge (enters_comp Go.Proofs.Tryd.func24 c24) rfl rfl (fun w tb => by
    obtain ⟨m, hm⟩ := tb.2
    refine (Go.Proofs.Tryd.strings_Cut ⟨l.toArray⟩ ⟨p.toArray⟩ m w (by show l.toArray.size < _; rw [List.size_toArray]; omega) hm).mono ?_
    rintro e w' ⟨rfl, n, rfl⟩
    exact ⟨rfl, below_drewN _ _, fun d => (dr_no d).elim⟩) h
section
variable {P : Program} {CT : FuncId → List Value → Hp → (Value → Hp → Prop) → Prop} {d : Option Nat} {xs : List Operand} {env : Env} {h : Hp} {R : Value → Hp → Prop}
theorem w_neB {a b : List UInt8} (e : mapF env xs = some [bs a, bs b]) (n : R (.bool (!(a == b))) h) : WI P CT ⟨d, none, .op (.bin .neq) xs⟩ env h R :=
  w_v (v := .bool !((ByteArray.mk a.toArray).toList == (ByteArray.mk b.toArray).toList)) (by unfold opF; rw [e]; rfl) (by rw [ByteArray.toList_eq, ByteArray.toList_eq]) n
theorem w_eqB {a b : List UInt8} (e : mapF env xs = some [bs a, bs b]) (n : R (.bool (a == b)) h) : WI P CT ⟨d, none, .op (.bin .eql) xs⟩ env h R :=
  w_v (v := .bool ((ByteArray.mk a.toArray).toList == (ByteArray.mk b.toArray).toList)) (by unfold opF; rw [e]; rfl) (by rw [ByteArray.toList_eq, ByteArray.toList_eq]) n
end
theorem sz_mk (l : List UInt8) : (ByteArray.mk l.toArray).size = l.length := by simp [ByteArray.size]
theorem digits_ok (l : List UInt8) (most : Nat) (hm : most ≤ 9) (hl : l.length ≤ 1000000) (h : Hp) : ACall PX 29 [bs l, nI most] h (fun v g => v = .tuple #[nI (((digF l most).getD 0 : Nat) : Int), .bool (digF l most).isSome] ∧ h = g) := by
  have hz := sz_mk l
  unfold digF
  refine acall Go.Proofs.Tryd.func29 c29 (by simp [ir29]) ?_
  unfold ir29
  dsimp only
  by_cases h1 : 1 ≤ l.length
  case neg =>
    rw [if_neg (fun q => h1 q.1)]
    repeat (first | refine sS ?_ | refine sE ?_ | refine w_mv rfl ?_ | refine w_pickT rfl ?_ | (refine is_okn rfl ?_; refine w_op rfl ?_) | refine w_gF rfl rfl ?_ | (refine w_cmp (c2 := true) rfl ?_ ?_; focus (first | exact decide_eq_true (by omega) | (simp; done) | (simp; omega))) | refine ai_seq ?_ | refine ai_regW ?_ | refine ai_condF (b := true) rfl (fun _ => ?_) (fun hb => by cases hb) | (refine ai_ret ?_; repeat (first | rw [thenQ_r] | rw [blockQ_r] | rw [roundE_r])))
    exact ⟨_, rfl, rfl, rfl⟩
  by_cases h2 : l.length ≤ most
  case neg =>
    rw [if_neg (fun q => h2 q.2.1)]
    repeat (first | refine sS ?_ | refine sE ?_ | refine w_mv rfl ?_ | refine w_pickT rfl ?_ | refine w_pickF rfl ?_ | (refine is_okn rfl ?_; refine w_op rfl ?_) | refine w_gT rfl rfl ?_ | refine w_gF rfl rfl ?_ | (refine w_cmp (c2 := true) rfl ?_ ?_; focus (first | exact decide_eq_true (by omega) | (simp; done) | (simp; omega))) | (refine w_cmp (c2 := false) rfl ?_ ?_; focus (first | exact decide_eq_false (by omega) | (simp; done) | (simp; omega))) | refine ai_seq ?_ | refine ai_regW ?_ | refine ai_condF (b := true) rfl (fun _ => ?_) (fun hb => by cases hb) | (refine ai_ret ?_; repeat (first | rw [thenQ_r] | rw [blockQ_r] | rw [roundE_r])))
    exact ⟨_, rfl, rfl, rfl⟩
  repeat (first | refine sS ?_ | refine sE ?_ | refine w_mv rfl ?_ | refine w_pickF rfl ?_ | (refine is_okn rfl ?_; refine w_op rfl ?_) | refine w_gT rfl rfl ?_ | (refine w_cmp (c2 := false) rfl ?_ ?_; focus (first | exact decide_eq_false (by omega) | (simp; done) | (simp; omega))) | (refine w_call rfl ((trimD_br l hl _).mono ?_); rintro _ _ ⟨rfl, rfl⟩) | refine ai_seq ?_ | refine ai_regW ?_)
  refine w_neB (b := []) rfl ?_
  by_cases h3 : l.all isDig = true
  · rw [if_pos ⟨h1, h2, h3⟩, trim_nil l |>.2 h3]
    repeat (first | refine sS ?_ | refine sE ?_ | refine w_mv rfl ?_ | refine w_pickF rfl ?_ | refine ai_seq ?_ | refine ai_regW ?_ | refine ai_condF (b := false) rfl (fun hb => by cases hb) (fun _ => ?_) | refine ai_skip ?_)
    refine w_call rfl ((parse_br h1 (by omega) h3 _).mono ?_)
    rintro _ _ ⟨rfl, rfl⟩
    repeat (first | refine sS ?_ | refine sE ?_ | refine w_mv rfl ?_ | refine w_ext rfl rfl ?_ | refine ai_seq ?_ | refine ai_regW ?_ | (refine ai_ret ?_; repeat (first | rw [thenQ_r] | rw [blockQ_r] | rw [roundE_r])))
    exact ⟨_, rfl, rfl, rfl⟩
  · have hne : (!(Go.Lib.trimS l digB == [])) = true := by
      have : ¬ Go.Lib.trimS l digB = [] := fun q => h3 ((trim_nil l).1 q)
      simpa using this
    rw [if_neg (fun q => h3 q.2.2), hne]
    repeat (first | refine sS ?_ | refine sE ?_ | refine w_mv rfl ?_ | refine w_pickF rfl ?_ | refine ai_seq ?_ | refine ai_regW ?_ | refine ai_condF (b := true) rfl (fun _ => ?_) (fun hb => by cases hb) | (refine ai_ret ?_; repeat (first | rw [thenQ_r] | rw [blockQ_r] | rw [roundE_r])))
    exact ⟨_, rfl, rfl, rfl⟩
end Go.Proofs.YtapbmmlgmcmpnaaDoorW.Am
/- Texts: Number. -/
namespace Go.Proofs.YtapbmmlgmcmpnaaDoorW.Am
open Go Go.RowKit
def sgn (neg : Bool) (n : Int) : Int := if neg = true then -n else n
def numU (t : List UInt8) : Option Nat :=
  match digF (Go.Lib.cut t [46]).1 9 with
  | none => none
  | some n => if (Go.Lib.cut t [46]).2.2 = true then (match digF (Go.Lib.cut t [46]).2.1 3 with
    | none => none
    | some k => some (n * 1000 + k * 10 ^ (3 - (Go.Lib.cut t [46]).2.1.length))) else some (n * 1000)
def numF (l : List UInt8) : Option Int := (numU (Go.Lib.trimPrefix l [45])).map fun n => sgn (Go.Lib.hasPrefix l [45]) n
theorem trimP_len (l p : List UInt8) : (Go.Lib.trimPrefix l p).length ≤ l.length := by
  unfold Go.Lib.trimPrefix
  split
  · rw [List.length_drop]; omega
  · exact Nat.le_refl _
theorem cut_len (l p : List UInt8) : (Go.Lib.cut l p).1.length ≤ l.length ∧ (Go.Lib.cut l p).2.1.length ≤ l.length := by
  unfold Go.Lib.cut
  split
  · exact ⟨by rw [List.length_take]; omega, by rw [List.length_drop]; omega⟩
  · exact ⟨Nat.le_refl _, Nat.zero_le _⟩
theorem digF_some {l : List UInt8} {most n : Nat} (h : digF l most = some n) : 1 ≤ l.length ∧ l.length ≤ most ∧ n < 10 ^ l.length := by
  unfold digF at h
  split at h
  · next hc =>
    cases h
    have := valA_lt l 0 0 hc.2.2 (by decide)
    rw [Nat.zero_add] at this
    exact ⟨hc.1, hc.2.1, this⟩
  · cases h
set_option maxRecDepth 10000 in
set_option maxHeartbeats 1000000 in
theorem number_ok (l : List UInt8) (hl : l.length ≤ 1000000) (h : Hp) : ACall PX 12 [bs l] h (fun v g => v = .tuple #[nI ((numF l).getD 0), .bool (numF l).isSome] ∧ h = g) := by
  have ht := trimP_len l [45]
  have hcl := cut_len (Go.Lib.trimPrefix l [45]) [46]
  obtain ⟨neg, hneg⟩ : ∃ b, Go.Lib.hasPrefix l [45] = b := ⟨_, rfl⟩
  obtain ⟨t, het⟩ : ∃ t, Go.Lib.trimPrefix l [45] = t := ⟨_, rfl⟩
  obtain ⟨⟨a, b, pt⟩, hc⟩ : ∃ c, Go.Lib.cut t [46] = c := ⟨_, rfl⟩
  unfold numF numU
  rw [het] at ht hcl ⊢
  rw [hc] at hcl ⊢
  rw [hneg]
  dsimp only at hcl ⊢
  have hzb := sz_mk b
  have c1 := fun g => cutp_br l g
  simp only [het, hneg] at c1
  have c2 := fun g => cut_br t [46] (by omega) g
  simp only [hc] at c2
  refine acall Go.Proofs.Tryd.func12 c12 (by simp [ir12]) ?_
  unfold ir12
  dsimp only
  repeat (first | refine sS ?_ | refine sE ?_ | refine w_mv rfl ?_ | (refine is_okn rfl ?_; refine w_op rfl ?_) | refine w_ext rfl rfl ?_ | (refine w_call rfl ((c1 _).mono ?_); rintro _ _ ⟨rfl, rfl⟩) | (refine w_call rfl ((c2 _).mono ?_); rintro _ _ ⟨rfl, rfl⟩) | (refine w_call rfl ((digits_ok a 9 (by decide) (by omega) _).mono ?_); rintro _ _ ⟨rfl, rfl⟩) | refine ai_seq ?_ | refine ai_regW ?_)
  cases hA : digF a 9 with
  | none =>
    repeat (first | refine sS ?_ | refine sE ?_ | refine w_mv rfl ?_ | refine ai_seq ?_ | refine ai_regW ?_ | refine ai_condF (b := true) rfl (fun _ => ?_) (fun hb => by cases hb) | (refine ai_ret ?_; repeat (first | rw [thenQ_r] | rw [blockQ_r] | rw [roundE_r])))
    exact ⟨_, rfl, rfl, rfl⟩
  | some n =>
    obtain ⟨a1, a2, a3⟩ := digF_some hA
    have hn9 : n < 10 ^ 9 := Nat.lt_of_lt_of_le a3 (Nat.pow_le_pow_right (by decide) a2)
    simp only [Option.getD_some, Option.isSome_some]
    cases pt
    · repeat (first | refine sS ?_ | refine sE ?_ | refine w_mv rfl ?_ | (refine w_mul rfl ?_ ?_; (focus omega)) | refine ai_seq ?_ | refine ai_regW ?_ | refine ai_condF (b := false) rfl (fun hb => by cases hb) (fun _ => ?_) | refine ai_skip ?_)
      cases neg
      · repeat (first | refine sS ?_ | refine sE ?_ | refine w_mv rfl ?_ | refine ai_seq ?_ | refine ai_regW ?_ | refine ai_condF (b := false) rfl (fun hb => by cases hb) (fun _ => ?_) | refine ai_skip ?_ | (refine ai_ret ?_; repeat (first | rw [thenQ_r] | rw [blockQ_r] | rw [roundE_r])))
        exact ⟨_, rfl, rfl, rfl⟩
      · repeat (first | refine sS ?_ | refine sE ?_ | refine w_mv rfl ?_ | (refine w_neg rfl ?_ ?_; (focus omega)) | refine ai_seq ?_ | refine ai_regW ?_ | refine ai_condF (b := true) rfl (fun _ => ?_) (fun hb => by cases hb) | (refine ai_ret ?_; repeat (first | rw [thenQ_r] | rw [blockQ_r] | rw [roundE_r])))
        exact ⟨_, rfl, rfl, rfl⟩
    · repeat (first | refine sS ?_ | refine sE ?_ | refine w_mv rfl ?_ | (refine is_okn rfl ?_; refine w_op rfl ?_) | refine w_ext rfl rfl ?_ | (refine w_mul rfl ?_ ?_; (focus omega)) | (refine w_call rfl ((digits_ok b 3 (by decide) (by omega) _).mono ?_); rintro _ _ ⟨rfl, rfl⟩) | refine ai_seq ?_ | refine ai_regW ?_ | refine ai_condF (b := true) rfl (fun _ => ?_) (fun hb => by cases hb) | refine ai_condF (b := false) rfl (fun hb => by cases hb) (fun _ => ?_) | refine ai_skip ?_)
      cases hB : digF b 3 with
      | none =>
        repeat (first | refine sS ?_ | refine sE ?_ | refine w_mv rfl ?_ | refine ai_seq ?_ | refine ai_regW ?_ | refine ai_condF (b := true) rfl (fun _ => ?_) (fun hb => by cases hb) | (refine ai_ret ?_; repeat (first | rw [thenQ_r] | rw [blockQ_r] | rw [roundE_r])))
        exact ⟨_, rfl, rfl, rfl⟩
      | some k =>
        obtain ⟨b1, b2, b3⟩ := digF_some hB
        have hk3 : k < 10 ^ 3 := Nat.lt_of_lt_of_le b3 (Nat.pow_le_pow_right (by decide) b2)
        simp only [Option.getD_some, Option.isSome_some]
        repeat (first | refine sS ?_ | refine sE ?_ | refine w_mv rfl ?_ | (refine is_okn rfl ?_; refine w_op rfl ?_) | (refine w_sub rfl ?_ ?_; (focus omega)) | refine ai_seq ?_ | refine ai_regW ?_ | refine ai_condF (b := false) rfl (fun hb => by cases hb) (fun _ => ?_) | refine ai_skip ?_ | refine ai_block ?_)
        refine ai_loopE (γ := Nat × Nat) (fun e => [(4, .bool neg), (8, .int .i64 ((n : Int) * 1000)), (10, nI (e.2 : Nat)), (42, .int .i64 (3 - ((ByteArray.mk b.toArray).size : Int))), (43, nI e.1)])
          (fun e g => h = g ∧ e.1 ≤ 3 - b.length ∧ e.2 = k * 10 ^ e.1) (fun e => 3 - e.1) (0, k)
          (by repeat (first | exact le_nil | refine le_consF rfl ?_)) ⟨rfl, Nat.zero_le _, by simp⟩ ?_
        rintro ⟨j, x⟩ g1 ⟨rfl, hj, hx⟩
        dsimp only at hj hx ⊢
        have hxb : x ≤ 99900 := by
          rcases (show j = 0 ∨ j = 1 ∨ j = 2 by omega) with rfl | rfl | rfl
          · simp at hx; omega
          · simp at hx; omega
          · simp at hx; omega
        by_cases hj2 : j < 3 - b.length
        · repeat (first | refine sS ?_ | refine sE ?_ | refine w_mv rfl ?_ | (refine w_add rfl ?_ ?_; (focus omega)) | (refine w_cmp (c2 := true) rfl ?_ ?_; focus (first | exact decide_eq_true (by omega) | (simp; done) | (simp; omega))) | (refine w_mul rfl ?_ ?_; (focus omega)) | refine ai_seq ?_ | refine ai_regW ?_ | refine ai_condF (b := true) rfl (fun _ => ?_) (fun hb => by cases hb) | refine ai_skip ?_ | refine ai_block ?_)
          exact ⟨(j + 1, x * 10), (by repeat (first | exact le_nil | refine le_consF rfl ?_)), ⟨rfl, by dsimp only; omega, by dsimp only; rw [hx, Nat.pow_succ, Nat.mul_assoc]⟩, by dsimp only; omega⟩
        · obtain rfl : j = 3 - b.length := by omega
          rw [← hx]
          cases neg
          · repeat (first | refine sS ?_ | refine sE ?_ | refine w_mv rfl ?_ | (refine w_add rfl ?_ ?_; (focus omega)) | (refine w_cmp (c2 := false) rfl ?_ ?_; focus (first | exact decide_eq_false (by omega) | (simp; done) | (simp; omega))) | refine ai_seq ?_ | refine ai_regW ?_ | refine ai_condF (b := false) rfl (fun hb => by cases hb) (fun _ => ?_) | refine ai_skip ?_ | refine ai_exit ?_ | (refine ai_ret ?_; repeat (first | rw [thenQ_r] | rw [blockQ_r] | rw [roundE_r])))
            refine ⟨_, rfl, ?_, rfl⟩
            simp [pack, sgn, nI]
          · repeat (first | refine sS ?_ | refine sE ?_ | refine w_mv rfl ?_ | (refine w_add rfl ?_ ?_; (focus omega)) | (refine w_cmp (c2 := false) rfl ?_ ?_; focus (first | exact decide_eq_false (by omega) | (simp; done) | (simp; omega))) | (refine w_neg rfl ?_ ?_; (focus omega)) | refine ai_seq ?_ | refine ai_regW ?_ | refine ai_condF (b := true) rfl (fun _ => ?_) (fun hb => by cases hb) | refine ai_condF (b := false) rfl (fun hb => by cases hb) (fun _ => ?_) | refine ai_exit ?_ | (refine ai_ret ?_; repeat (first | rw [thenQ_r] | rw [blockQ_r] | rw [roundE_r])))
            refine ⟨_, rfl, ?_, rfl⟩
            simp [pack, sgn, nI]
end Go.Proofs.YtapbmmlgmcmpnaaDoorW.Am
/- The program's plain types, as cells: pods, requests, what is seen. -/
namespace Go.Proofs.YtapbmmlgmcmpnaaDoorW.Am
open Go Go.RowKit
/-- A pod: number, state, how many in flight, since when. -/
abbrev Pd := Int × Int × Int × Int
def p4 (v : Pd) : List Value := [nI v.1, nI v.2.1, nI v.2.2.1, nI v.2.2.2]
theorem els4 (l : List Pd) : Els 4 (l.map p4) := fun u hu => by
  obtain ⟨p, _, rfl⟩ := List.mem_map.1 hu
  exact ⟨rfl, rfl⟩
/-- Something that is seen: time, wanted, panic, proxy, pods, waiting, busy, the seven ends, over. -/
structure Vw where
  (t want : Int) (panic proxy : Bool) (pods : Value) (waiting busy e0 e1 e2 e3 e4 e5 e6 : Int) (over : Bool)
def vs15 (v : Vw) : List Value := [nI v.t, nI v.want, .bool v.panic, .bool v.proxy, v.pods, nI v.waiting, nI v.busy, nI v.e0, nI v.e1, nI v.e2, nI v.e3, nI v.e4, nI v.e5, nI v.e6, .bool v.over]
theorem vs15_one {v : Vw} (ho : one v.pods = true) : (vs15 v).all one = true := by simp only [vs15, List.all_cons, List.all_nil, ho]; rfl
/-- A row of what is seen, each with its pods. -/
abbrev VP := Vw × List Pd
structure RV15 (h : Hp) (s : Value) (l : List VP) : Prop where
  row : RR 15 h s (l.map fun p => vs15 p.1)
  pods : ∀ p ∈ l, RR 4 h p.1.pods (p.2.map p4)
theorem RV15.ext {h g : Hp} {s : Value} {l : List VP} (a : RV15 h s l) (x : Ext h g) : RV15 g s l := ⟨a.row.ext x, fun p hp => (a.pods p hp).ext x⟩
theorem take_snoc {α : Type} {l : List α} {i : Nat} {a : α} (h : l[i]? = some a) : l.take (i + 1) = l.take i ++ [a] := by
  obtain ⟨h1, rfl⟩ := List.getElem?_eq_some_iff.1 h
  exact List.take_succ_eq_append_getElem h1
theorem getD_lt {α : Type} {l : List α} {i : Nat} (h : i < l.length) : ∃ a, l[i]? = some a := ⟨_, List.getElem?_eq_getElem h⟩
end Go.Proofs.YtapbmmlgmcmpnaaDoorW.Am
/- Texts: the document's own digits. -/
namespace Go.Proofs.YtapbmmlgmcmpnaaDoorW.Am
open Go Go.RowKit
section
variable {P : Program} {CT : FuncId → List Value → Hp → (Value → Hp → Prop) → Prop} {d : Option Nat} {xs : List Operand} {env : Env} {h : Hp} {R : Value → Hp → Prop}
theorem w_ixs {l : List UInt8} {i : Nat} {k : IntKind} {b : UInt8} (e : mapF env xs = some [bs l, .int k (i : Int)]) (hb : l[i]? = some b) (n : R (.int .u8 b.toNat) h) : WI P CT ⟨d, none, .op .ixs xs⟩ env h R := by
  refine w_op (v := .int .u8 b.toNat) (h' := h) ?_ n
  unfold opF
  rw [e]
  show (if (0 : Int) ≤ (i : Int) then ((ByteArray.mk l.toArray)[((i : Int)).toNat]?).map (fun b => (Value.int .u8 b.toNat, h)) else none) = _
  have hi := (List.getElem?_eq_some_iff.1 hb).1
  have hg : (ByteArray.mk l.toArray)[i]? = some b := by
    rw [getElem?_pos (ByteArray.mk l.toArray) i (by simpa [ByteArray.size] using hi)]
    have : l[i] = b := (List.getElem?_eq_some_iff.1 hb).2
    exact congrArg some this
  rw [if_pos (by omega), Int.toNat_natCast, hg]
  rfl
theorem w_sub8 {a b : Int} (e : mapF env xs = some [.int .u8 a, .int .u8 b]) (hx : 0 ≤ a - b ∧ a - b ≤ 255) (n : R (.int .u8 (a - b)) h) : WI P CT ⟨d, none, .op (.bin .sub) xs⟩ env h R :=
  w_v (v := .int .u8 (IntKind.u8.wrap (a - b))) (by unfold opF; rw [e]; rfl) (by
    have : IntKind.u8.wrap (a - b) = a - b := by
      have e1 : IntKind.u8.wrap (a - b) = (a - b) % 256 := rfl
      rw [e1]; omega
    rw [this]) n
end
theorem valA_snoc : ∀ (l : List UInt8) (a : Nat) (b : UInt8), valA a (l ++ [b]) = valA a l * 10 + (b.toNat - 48)
  | [], _, _ => rfl
  | c :: l, a, b => valA_snoc l (a * 10 + (c.toNat - 48)) b
set_option maxRecDepth 10000 in
set_option maxHeartbeats 1000000 in
theorem rdigits_ok (l : List UInt8) (most : Nat) (hm : most ≤ 9) (hl : l.length ≤ 1000000) (h : Hp) : ACall PX 30 [bs l, nI most] h (fun v g => v = nI (match digF l most with | some n => (n : Int) | none => -1) ∧ h = g) := by
  have hz := sz_mk l
  unfold digF
  refine acall Go.Proofs.Tryd.func30 c30 (by simp [ir30]) ?_
  unfold ir30
  dsimp only
  by_cases h1 : 1 ≤ l.length
  case neg =>
    rw [if_neg (fun q => h1 q.1)]
    repeat (first | refine sS ?_ | refine sE ?_ | refine w_mv rfl ?_ | refine w_pickT rfl ?_ | (refine is_okn rfl ?_; refine w_op rfl ?_) | refine w_gF rfl rfl ?_ | (refine w_cmp (c2 := true) rfl ?_ ?_; focus (first | exact decide_eq_true (by omega) | (simp; done) | (simp; omega))) | refine ai_seq ?_ | refine ai_regW ?_ | refine ai_condF (b := true) rfl (fun _ => ?_) (fun hb => by cases hb) | (refine ai_ret ?_; repeat (first | rw [thenQ_r] | rw [blockQ_r] | rw [roundE_r])))
    exact ⟨_, rfl, rfl, rfl⟩
  by_cases h2 : l.length ≤ most
  case neg =>
    rw [if_neg (fun q => h2 q.2.1)]
    repeat (first | refine sS ?_ | refine sE ?_ | refine w_mv rfl ?_ | refine w_pickF rfl ?_ | (refine is_okn rfl ?_; refine w_op rfl ?_) | refine w_gT rfl rfl ?_ | (refine w_cmp (c2 := true) rfl ?_ ?_; focus (first | exact decide_eq_true (by omega) | (simp; done) | (simp; omega))) | (refine w_cmp (c2 := false) rfl ?_ ?_; focus (first | exact decide_eq_false (by omega) | (simp; done) | (simp; omega))) | refine ai_seq ?_ | refine ai_regW ?_ | refine ai_condF (b := true) rfl (fun _ => ?_) (fun hb => by cases hb) | (refine ai_ret ?_; repeat (first | rw [thenQ_r] | rw [blockQ_r] | rw [roundE_r])))
    exact ⟨_, rfl, rfl, rfl⟩
  repeat (first | refine sS ?_ | refine sE ?_ | refine w_mv rfl ?_ | refine w_pickF rfl ?_ | (refine is_okn rfl ?_; refine w_op rfl ?_) | refine w_gT rfl rfl ?_ | (refine w_cmp (c2 := false) rfl ?_ ?_; focus (first | exact decide_eq_false (by omega) | (simp; done) | (simp; omega))) | refine ai_seq ?_ | refine ai_regW ?_ | refine ai_condF (b := false) rfl (fun hb => by cases hb) (fun _ => ?_) | refine ai_skip ?_ | refine ai_block ?_)
  refine ai_loopE (γ := Nat × Nat) (fun e => [(0, bs l), (5, nI (e.2 : Nat)), (6, nI e.1)])
    (fun e g => h = g ∧ e.1 ≤ l.length ∧ (l.take e.1).all isDig = true ∧ e.2 = valA 0 (l.take e.1)) (fun e => l.length - e.1) (0, 0)
    (by repeat (first | exact le_nil | refine le_consF rfl ?_)) ⟨rfl, Nat.zero_le _, rfl, rfl⟩ ?_
  rintro ⟨i, x⟩ g1 ⟨rfl, hi, hd, hx⟩
  dsimp only at hi hd hx ⊢
  have hb9 : x < 10 ^ 9 := by
    have := valA_lt (l.take i) 0 0 hd (by decide)
    rw [Nat.zero_add, List.length_take] at this
    rw [hx]
    exact Nat.lt_of_lt_of_le this (Nat.pow_le_pow_right (by decide) (by omega))
  by_cases hil : i < l.length
  · obtain ⟨b, hb⟩ := getD_lt hil
    have hv := valA_snoc (l.take i) 0 b
    rw [← take_snoc hb, ← hx] at hv
    have ha : (l.take (i + 1)).all isDig = isDig b := by rw [take_snoc hb, List.all_append, hd]; simp
    have hbt : b.toNat < 256 := b.toNat_lt
    repeat (first | refine sS ?_ | refine sE ?_ | refine w_mv rfl ?_ | (refine is_okn rfl ?_; refine w_op rfl ?_) | (refine w_cmp (c2 := true) rfl ?_ ?_; focus (first | exact decide_eq_true (by omega) | (simp; done) | (simp; omega))) | refine ai_seq ?_ | refine ai_regW ?_ | refine ai_condF (b := true) rfl (fun _ => ?_) (fun hb => by cases hb) | refine ai_skip ?_ | refine ai_block ?_)
    refine w_ixs rfl hb ?_
    by_cases c1 : b.toNat < 48
    · have hnd : ¬ (1 ≤ l.length ∧ l.length ≤ most ∧ l.all isDig = true) := by
        rintro ⟨_, _, q⟩
        have := List.all_eq_true.1 q b (List.mem_of_getElem? hb)
        simp [isDig] at this
        omega
      rw [if_neg hnd]
      repeat (first | refine sS ?_ | refine sE ?_ | refine w_mv rfl ?_ | refine w_pickT rfl ?_ | refine w_gF rfl rfl ?_ | (refine w_cmp (c2 := true) rfl ?_ ?_; focus (first | exact decide_eq_true (by omega) | (simp; done) | (simp; omega))) | refine ai_seq ?_ | refine ai_regW ?_ | refine ai_condF (b := true) rfl (fun _ => ?_) (fun hb => by cases hb) | (refine ai_ret ?_; repeat (first | rw [thenQ_r] | rw [blockQ_r] | rw [roundE_r])))
      exact ⟨_, rfl, rfl, rfl⟩
    · repeat (first | refine sS ?_ | refine w_mv rfl ?_ | refine w_gT rfl rfl ?_ | (refine w_cmp (c2 := false) rfl ?_ ?_; focus (first | exact decide_eq_false (by omega) | (simp; done) | (simp; omega))))
      refine w_ixs rfl hb ?_
      by_cases c2 : 57 < b.toNat
      · have hnd : ¬ (1 ≤ l.length ∧ l.length ≤ most ∧ l.all isDig = true) := by
          rintro ⟨_, _, q⟩
          have := List.all_eq_true.1 q b (List.mem_of_getElem? hb)
          simp [isDig] at this
          omega
        rw [if_neg hnd]
        repeat (first | refine sS ?_ | refine sE ?_ | refine w_mv rfl ?_ | refine w_pickF rfl ?_ | refine w_gT rfl rfl ?_ | (refine w_cmp (c2 := true) rfl ?_ ?_; focus (first | exact decide_eq_true (by omega) | (simp; done) | (simp; omega))) | refine ai_seq ?_ | refine ai_regW ?_ | refine ai_condF (b := true) rfl (fun _ => ?_) (fun hb => by cases hb) | (refine ai_ret ?_; repeat (first | rw [thenQ_r] | rw [blockQ_r] | rw [roundE_r])))
        exact ⟨_, rfl, rfl, rfl⟩
      · repeat (first | refine sS ?_ | refine sE ?_ | refine w_mv rfl ?_ | refine w_pickF rfl ?_ | refine w_gT rfl rfl ?_ | (refine w_cmp (c2 := false) rfl ?_ ?_; focus (first | exact decide_eq_false (by omega) | (simp; done) | (simp; omega))) | (refine w_mul rfl ?_ ?_; (focus omega)) | refine ai_regW ?_ | refine ai_condF (b := false) rfl (fun hb => by cases hb) (fun _ => ?_) | refine ai_skip ?_)
        refine w_ixs rfl hb ?_
        repeat (first | refine sS ?_)
        refine w_sub8 rfl (by omega) ?_
        repeat (first | refine sS ?_ | refine sE ?_ | refine w_mv rfl ?_ | (refine w_add rfl ?_ ?_; (focus omega)) | (refine w_ci rfl ?_ ?_; (focus omega)) | refine ai_regW ?_)
        have hcast : (x : Int) * 10 + ((b.toNat : Int) - 48) = ((x * 10 + (b.toNat - 48) : Nat) : Int) := by omega
        exact ⟨(i + 1, x * 10 + (b.toNat - 48)), (by repeat (first | exact le_nil | refine le_consF (by first | rfl | rw [← hcast]; rfl) ?_)), ⟨rfl, by dsimp only; omega, by dsimp only; rw [ha]; simp [isDig]; omega, by dsimp only; rw [hv]⟩, by dsimp only; omega⟩
  · obtain rfl : i = l.length := by omega
    rw [List.take_length] at hd hx
    rw [if_pos ⟨h1, h2, hd⟩, ← hx]
    repeat (first | refine sS ?_ | refine sE ?_ | refine w_mv rfl ?_ | (refine is_okn rfl ?_; refine w_op rfl ?_) | (refine w_cmp (c2 := false) rfl ?_ ?_; focus (first | exact decide_eq_false (by omega) | (simp; done) | (simp; omega))) | refine ai_seq ?_ | refine ai_regW ?_ | refine ai_condF (b := false) rfl (fun hb => by cases hb) (fun _ => ?_) | refine ai_exit ?_ | (refine ai_ret ?_; repeat (first | rw [thenQ_r] | rw [blockQ_r] | rw [roundE_r])))
    exact ⟨_, rfl, rfl, rfl⟩
end Go.Proofs.YtapbmmlgmcmpnaaDoorW.Am
/- Texts: parts of strings; where a point stands. -/
namespace Go.Proofs.YtapbmmlgmcmpnaaDoorW.Am
open Go Go.RowKit
theorem ex_mk (l : List UInt8) (a b : Nat) : (ByteArray.mk l.toArray).extract a b = ⟨((l.take b).drop a).toArray⟩ := by
  refine ByteArray.ext ?_
  rw [ByteArray.data_extract]
  refine Array.ext' ?_
  rw [Array.toList_extract]
  simp [List.drop_take]
section
variable {P : Program} {CT : FuncId → List Value → Hp → (Value → Hp → Prop) → Prop} {d : Option Nat} {xs : List Operand} {env : Env} {h : Hp} {R : Value → Hp → Prop}
theorem w_slsS {l : List UInt8} {i : Nat} (e : mapF env xs = some [bs l, .int .i64 (i : Int)]) (hi : i ≤ l.length) (n : R (bs (l.drop i)) h) : WI P CT ⟨d, none, .op (.sls true false) xs⟩ env h R := by
  refine w_op (v := bs (l.drop i)) (h' := h) ?_ n
  have hz := sz_mk l
  have hbd : bounds (ByteArray.mk l.toArray).size (ByteArray.mk l.toArray).size (some (.int .i64 (i : Int))) none none = some (i, l.length, l.length) := by
    rw [hz]
    have : (0 : Int) ≤ i ∧ (i : Int) ≤ l.length := by omega
    simp [bounds, bnd, this]
  unfold opF
  rw [e]
  show (bounds (ByteArray.mk l.toArray).size (ByteArray.mk l.toArray).size (some (.int .i64 (i : Int))) none none).map (fun b => (Value.string ((ByteArray.mk l.toArray).extract b.1 b.2.1), h)) = _
  rw [hbd, Option.map_some, ex_mk, List.take_length]
  rfl
theorem w_slsP {l : List UInt8} {i : Nat} (e : mapF env xs = some [bs l, .int .i64 (i : Int)]) (hi : i ≤ l.length) (n : R (bs (l.take i)) h) : WI P CT ⟨d, none, .op (.sls false true) xs⟩ env h R := by
  refine w_op (v := bs (l.take i)) (h' := h) ?_ n
  have hz := sz_mk l
  have hbd : bounds (ByteArray.mk l.toArray).size (ByteArray.mk l.toArray).size none (some (.int .i64 (i : Int))) none = some (0, i, l.length) := by
    rw [hz]
    have : (0 : Int) ≤ i ∧ (i : Int) ≤ l.length := by omega
    simp [bounds, bnd, this]
  unfold opF
  rw [e]
  show (bounds (ByteArray.mk l.toArray).size (ByteArray.mk l.toArray).size none (some (.int .i64 (i : Int))) none).map (fun b => (Value.string ((ByteArray.mk l.toArray).extract b.1 b.2.1), h)) = _
  rw [hbd, Option.map_some, ex_mk, List.drop_zero]
  rfl
end
theorem cut_at {l : List UInt8} {c : UInt8} {i : Nat} (hi : l[i]? = some c) (hn : ∀ k, k < i → l[k]? ≠ some c) : Go.Lib.cut l [c] = (l.take i, l.drop (i + 1), true) := by
  have he : Go.Lib.index l [c] = (i : Int) := by
    rw [Go.Lib.index_one]
    have hge := Go.Lib.indexByte_ge l c
    rcases Int.lt_or_le (Go.Lib.indexByte l c) 0 with h0 | h0
    · exact absurd hi (Go.Lib.indexByte_none (by omega) i)
    · obtain ⟨o, ho⟩ : ∃ o : Nat, Go.Lib.indexByte l c = o := ⟨(Go.Lib.indexByte l c).toNat, by omega⟩
      obtain ⟨h1, h2⟩ := Go.Lib.indexByte_some ho
      rw [ho]
      have a1 : ¬ o < i := fun q => hn o q h1
      have a2 : ¬ i < o := fun q => h2 i q hi
      omega
  unfold Go.Lib.cut
  rw [he, if_pos (by omega), Int.toNat_natCast]
  rfl
theorem cut_no {l : List UInt8} {c : UInt8} (hn : ∀ k : Nat, l[k]? ≠ some c) : Go.Lib.cut l [c] = (l, [], false) := by
  have he : Go.Lib.index l [c] < 0 := by
    rw [Go.Lib.index_one]
    have hge := Go.Lib.indexByte_ge l c
    rcases Int.lt_or_le (Go.Lib.indexByte l c) 0 with h0 | h0
    · exact h0
    · obtain ⟨o, ho⟩ : ∃ o : Nat, Go.Lib.indexByte l c = o := ⟨(Go.Lib.indexByte l c).toNat, by omega⟩
      exact absurd (Go.Lib.indexByte_some ho).1 (hn o)
  unfold Go.Lib.cut
  rw [if_neg (by omega)]
end Go.Proofs.YtapbmmlgmcmpnaaDoorW.Am
/- Texts: the document's own Number. -/
namespace Go.Proofs.YtapbmmlgmcmpnaaDoorW.Am
open Go Go.RowKit
theorem digF_zero {b : List UInt8} {k : Nat} (h : digF b 3 = some k) : ∀ j, b.length + j ≤ 3 → digF (b ++ List.replicate j 48) 3 = some (k * 10 ^ j) := by
  intro j hj
  unfold digF at h ⊢
  split at h
  case isFalse => cases h
  next hc =>
  cases h
  have hall : ∀ j, (b ++ List.replicate j (48 : UInt8)).all isDig = true ∧ valA 0 (b ++ List.replicate j (48 : UInt8)) = valA 0 b * 10 ^ j := by
    intro j
    induction j with
    | zero => simpa using hc.2.2
    | succ j ih =>
      rw [List.replicate_succ', ← List.append_assoc, valA_snoc, ih.2, List.all_append, ih.1]
      refine ⟨by decide, ?_⟩
      rw [Nat.pow_succ, ← Nat.mul_assoc]
      rfl
  rw [if_pos ⟨by rw [List.length_append]; omega, by rw [List.length_append, List.length_replicate]; omega, (hall j).1⟩, (hall j).2]
theorem pre_cons (c : UInt8) (r : List UInt8) : Go.Lib.hasPrefix (c :: r) [45] = (45 == c) := by
  show ([45] : List UInt8).isPrefixOf (c :: r) = _
  simp [List.isPrefixOf]
section
variable {P : Program} {CT : FuncId → List Value → Hp → (Value → Hp → Prop) → Prop} {d : Option Nat} {xs : List Operand} {env : Env} {h : Hp} {R : Value → Hp → Prop}
theorem w_catB {a b : List UInt8} (e : mapF env xs = some [bs a, bs b]) (hl : a.length + b.length ≤ 9223372036854775807) (n : R (bs (a ++ b)) h) : WI P CT ⟨d, none, .op (.bin .add) xs⟩ env h R := by
  refine w_op (v := bs (a ++ b)) (h' := h) ?_ n
  have za := sz_mk a
  have zb := sz_mk b
  unfold opF
  rw [e]
  show Option.map (·, h) (if (ByteArray.mk a.toArray).size + (ByteArray.mk b.toArray).size ≤ 9223372036854775807 then some (Value.string ((ByteArray.mk a.toArray) ++ (ByteArray.mk b.toArray))) else none) = _
  rw [if_pos (by omega)]
  have : ((ByteArray.mk a.toArray) ++ (ByteArray.mk b.toArray)) = ⟨(a ++ b).toArray⟩ := ByteArray.ext (by simp)
  rw [this]
  rfl
end
theorem pre_nil : Go.Lib.hasPrefix [] [45] = false := rfl
set_option maxRecDepth 10000 in
set_option maxHeartbeats 2000000 in
theorem rnumber_ok (l : List UInt8) (hl : l.length ≤ 1000000) (h : Hp) : ACall PX 13 [bs l] h (fun v g => v = .tuple #[nI ((numF l).getD 0), .bool (numF l).isSome] ∧ h = g) := by
  have hz := sz_mk l
  refine acall Go.Proofs.Tryd.func13 c13 (by simp [ir13]) ?_
  unfold ir13
  dsimp only
  repeat (first | rw [thenQ_r] | rw [blockQ_r] | rw [roundE_r])
  refine ai_seq ?_
  repeat (first | refine sS ?_ | refine sE ?_ | refine w_mv rfl ?_ | refine ai_regW ?_)
  repeat (first | rw [thenQ_r] | rw [blockQ_r] | rw [roundE_r])
  refine ai_join (γ := Unit) (fun _ => [(0, bs l), (4, .bool (Go.Lib.hasPrefix l [45]))]) (fun _ g => h = g) ?_ ?_
  · cases l with
    | nil =>
      rw [pre_nil]
      repeat (first | refine sS ?_ | refine w_mv rfl ?_ | (refine is_okn rfl ?_; refine w_op rfl ?_) | refine ai_regW ?_)
      exact ⟨rfl, (), (by repeat (first | exact le_nil | refine le_consF rfl ?_)), rfl⟩
    | cons c r =>
      have h0 : 0 < (c :: r).length := by simp
      rw [pre_cons]
      repeat (first | refine sS ?_ | refine w_mv rfl ?_ | (refine is_okn rfl ?_; refine w_op rfl ?_) | refine w_gT rfl rfl ?_ | (refine w_cmp (c2 := true) rfl ?_ ?_; focus (first | exact decide_eq_true (by omega) | (simp; done) | (simp; omega))) | refine ai_regW ?_)
      refine ⟨rfl, (), le_consF rfl (le_consF ?_ le_nil), rfl⟩
      show some (Value.bool ((c.toNat : Int) == 45)) = _
      have hb : ((c.toNat : Int) == 45) = (45 == c) := by
        by_cases hc : c = 45
        · subst hc; rfl
        · have hc2 : c.toNat ≠ 45 := fun q => hc (UInt8.toNat_inj.1 q)
          rw [show ((45 : UInt8) == c) = false by simpa using fun q => hc q.symm]
          simp
          omega
      rw [hb]
  rintro _ _ rfl
  obtain ⟨neg, hneg⟩ : ∃ b, Go.Lib.hasPrefix l [45] = b := ⟨_, rfl⟩
  obtain ⟨t, het⟩ : ∃ t, Go.Lib.trimPrefix l [45] = t := ⟨_, rfl⟩
  have ht := trimP_len l [45]
  rw [het] at ht
  rw [hneg]
  refine ai_join (γ := Unit) (fun _ => [(0, bs t), (4, .bool neg)]) (fun _ g => h = g) ?_ ?_
  · rw [← het]
    unfold Go.Lib.trimPrefix
    rw [hneg]
    cases neg
    · repeat (first | refine sS ?_ | refine sE ?_ | refine w_mv rfl ?_ | refine ai_seq ?_ | refine ai_regW ?_ | refine ai_condF (b := false) rfl (fun hb => by cases hb) (fun _ => ?_) | refine ai_skip ?_)
      exact ⟨rfl, (), (by repeat (first | exact le_nil | refine le_consF rfl ?_)), rfl⟩
    · have h1 : 1 ≤ l.length := by
        cases l with
        | nil => cases hneg
        | cons c r => simp
      repeat (first | refine sS ?_ | refine sE ?_ | refine w_mv rfl ?_ | refine ai_seq ?_ | refine ai_regW ?_ | refine ai_condF (b := true) rfl (fun _ => ?_) (fun hb => by cases hb))
      refine w_slsS (i := 1) rfl h1 ?_
      repeat (first | refine sS ?_ | refine sE ?_ | refine w_mv rfl ?_)
      exact ⟨rfl, (), (by repeat (first | exact le_nil | refine le_consF rfl ?_)), rfl⟩
  rintro _ _ rfl
  clear hz
  have hz := sz_mk t
  repeat (first | rw [thenQ_r] | rw [blockQ_r] | rw [roundE_r])
  refine ai_seq ?_
  repeat (first | refine sS ?_ | refine sE ?_ | refine w_mv rfl ?_ | (refine is_okn rfl ?_; refine w_op rfl ?_) | refine ai_regW ?_)
  repeat (first | rw [thenQ_r] | rw [blockQ_r] | rw [roundE_r])
  refine ai_join (γ := Nat) (fun p => [(0, bs t), (4, .bool neg), (5, nI p)]) (fun p g => h = g ∧ ((p = t.length ∧ ∀ k : Nat, t[k]? ≠ some 46) ∨ (p < t.length ∧ t[p]? = some 46 ∧ ∀ k, k < p → t[k]? ≠ some 46))) ?_ ?_
  · repeat (first | refine sS ?_ | refine sE ?_ | refine w_mv rfl ?_ | refine ai_seq ?_ | refine ai_regW ?_ | refine ai_block ?_)
    refine ai_loopE (γ := Nat × Nat) (fun e => [(0, bs t), (4, .bool neg), (5, nI e.2), (6, nI e.1)])
      (fun e g => h = g ∧ e.1 ≤ t.length ∧ ((e.2 = t.length ∧ ∀ k, k < e.1 → t[k]? ≠ some 46) ∨ (e.2 < t.length ∧ t[e.2]? = some 46 ∧ ∀ k, k < e.2 → t[k]? ≠ some 46))) (fun e => t.length - e.1) (0, t.length)
      (by repeat (first | exact le_nil | refine le_consF rfl ?_)) ⟨rfl, Nat.zero_le _, .inl ⟨rfl, fun k hk => by omega⟩⟩ ?_
    rintro ⟨i, p⟩ g1 ⟨rfl, hi, hp⟩
    dsimp only at hi hp ⊢
    by_cases hil : i < t.length
    · rcases hp with ⟨rfl, hno⟩ | ⟨hpl, hpa, hpn⟩
      · obtain ⟨b, hb⟩ := getD_lt hil
        repeat (first | refine sS ?_ | refine sE ?_ | refine w_mv rfl ?_ | refine w_pickT rfl ?_ | (refine is_okn rfl ?_; refine w_op rfl ?_) | refine w_gT rfl rfl ?_ | (refine w_cmp (c2 := true) rfl ?_ ?_; focus (first | exact decide_eq_true (by omega) | (simp; done) | (simp; omega))) | refine ai_seq ?_ | refine ai_regW ?_ | refine ai_condF (b := true) rfl (fun _ => ?_) (fun hb => by cases hb) | refine ai_skip ?_ | refine ai_block ?_)
        refine w_ixs rfl hb ?_
        by_cases hc : b = 46
        · subst hc
          repeat (first | refine sS ?_ | refine sE ?_ | refine w_mv rfl ?_ | (refine w_add rfl ?_ ?_; (focus omega)) | (refine w_cmp (c2 := true) rfl ?_ ?_; focus (first | exact decide_eq_true (by omega) | (simp; done) | (simp; omega))) | refine ai_regW ?_ | refine ai_condF (b := true) rfl (fun _ => ?_) (fun hb => by cases hb))
          exact ⟨(i + 1, i), (by repeat (first | exact le_nil | refine le_consF rfl ?_)), ⟨rfl, by dsimp only; omega, .inr ⟨hil, hb, hno⟩⟩, by dsimp only; omega⟩
        · have hc2 : b.toNat ≠ 46 := fun q => hc (UInt8.toNat_inj.1 q)
          repeat (first | refine sS ?_ | refine sE ?_ | refine w_mv rfl ?_ | (refine w_add rfl ?_ ?_; (focus omega)) | (refine w_cmp (c2 := false) rfl ?_ ?_; focus (first | exact decide_eq_false (by omega) | (simp; done) | (simp; omega))) | refine ai_regW ?_ | refine ai_condF (b := false) rfl (fun hb => by cases hb) (fun _ => ?_) | refine ai_skip ?_)
          refine ⟨(i + 1, t.length), (by repeat (first | exact le_nil | refine le_consF rfl ?_)), ⟨rfl, by dsimp only; omega, .inl ⟨rfl, fun k hk => ?_⟩⟩, by dsimp only; omega⟩
          by_cases hk2 : k < i
          · exact hno k hk2
          · obtain rfl : k = i := by dsimp only at hk; omega
            rw [hb]
            exact fun q => hc (Option.some.inj q)
      · repeat (first | refine sS ?_ | refine sE ?_ | refine w_mv rfl ?_ | refine w_pickT rfl ?_ | (refine is_okn rfl ?_; refine w_op rfl ?_) | refine w_gT rfl rfl ?_ | (refine w_cmp (c2 := true) rfl ?_ ?_; focus (first | exact decide_eq_true (by omega) | (simp; done) | (simp; omega))) | (refine w_cmp (c2 := false) rfl ?_ ?_; focus (first | exact decide_eq_false (by omega) | (simp; done) | (simp; omega))) | refine ai_seq ?_ | refine ai_regW ?_ | refine ai_condF (b := false) rfl (fun hb => by cases hb) (fun _ => ?_) | refine ai_exit ?_)
        exact ⟨rfl, p, (by repeat (first | exact le_nil | refine le_consF rfl ?_)), rfl, .inr ⟨hpl, hpa, hpn⟩⟩
    · repeat (first | refine sS ?_ | refine sE ?_ | refine w_mv rfl ?_ | refine w_pickF rfl ?_ | (refine is_okn rfl ?_; refine w_op rfl ?_) | refine w_gF rfl rfl ?_ | (refine w_cmp (c2 := false) rfl ?_ ?_; focus (first | exact decide_eq_false (by omega) | (simp; done) | (simp; omega))) | refine ai_seq ?_ | refine ai_regW ?_ | refine ai_condF (b := false) rfl (fun hb => by cases hb) (fun _ => ?_) | refine ai_exit ?_)
      refine ⟨rfl, p, (by repeat (first | exact le_nil | refine le_consF rfl ?_)), rfl, ?_⟩
      rcases hp with ⟨rfl, hno⟩ | hp
      · refine .inl ⟨rfl, fun k q => ?_⟩
        have := (List.getElem?_eq_some_iff.1 q).1
        exact hno k (by omega) q
      · exact .inr hp
  rintro p _ ⟨rfl, hp⟩
  unfold numF numU
  rw [het, hneg]
  rcases hp with ⟨rfl, hno⟩ | ⟨hpl, hpa, hpn⟩
  · rw [cut_no hno]
    dsimp only
    repeat (first | refine sS ?_ | refine w_mv rfl ?_ | refine ai_seq ?_ | refine ai_regW ?_)
    refine w_slsP rfl (Nat.le_refl _) ?_
    rw [List.take_length]
    repeat (first | refine sS ?_ | refine sE ?_ | refine w_mv rfl ?_ | (refine is_okn rfl ?_; refine w_op rfl ?_) | (refine w_cmp (c2 := false) rfl ?_ ?_; focus (first | exact decide_eq_false (by omega) | (simp; done) | (simp; omega))) | (refine w_call rfl ((rdigits_ok t 9 (by decide) (by omega) _).mono ?_); rintro _ _ ⟨rfl, rfl⟩) | refine ai_seq ?_ | refine ai_regW ?_ | refine ai_condF (b := false) rfl (fun hb => by cases hb) (fun _ => ?_) | refine ai_skip ?_)
    cases hA : digF t 9 with
    | none =>
      repeat (first | refine sS ?_ | refine sE ?_ | refine w_mv rfl ?_ | (refine w_cmp (c2 := true) rfl ?_ ?_; focus (first | exact decide_eq_true (by omega) | (simp; done) | (simp; omega))) | refine ai_seq ?_ | refine ai_regW ?_ | refine ai_condF (b := true) rfl (fun _ => ?_) (fun hb => by cases hb) | (refine ai_ret ?_; repeat (first | rw [thenQ_r] | rw [blockQ_r] | rw [roundE_r])))
      exact ⟨_, rfl, rfl, rfl⟩
    | some n =>
      obtain ⟨a1, a2, a3⟩ := digF_some hA
      have hn9 : n < 10 ^ 9 := Nat.lt_of_lt_of_le a3 (Nat.pow_le_pow_right (by decide) a2)
      dsimp only
      repeat (first | refine sS ?_ | refine sE ?_ | refine w_mv rfl ?_ | (refine w_add rfl ?_ ?_; (focus omega)) | (refine w_cmp (c2 := false) rfl ?_ ?_; focus (first | exact decide_eq_false (by omega) | (simp; done) | (simp; omega))) | (refine w_mul rfl ?_ ?_; (focus omega)) | refine ai_seq ?_ | refine ai_regW ?_ | refine ai_condF (b := false) rfl (fun hb => by cases hb) (fun _ => ?_) | refine ai_skip ?_)
      cases neg
      · repeat (first | refine sS ?_ | refine sE ?_ | refine w_mv rfl ?_ | refine ai_seq ?_ | refine ai_regW ?_ | refine ai_condF (b := false) rfl (fun hb => by cases hb) (fun _ => ?_) | refine ai_skip ?_ | (refine ai_ret ?_; repeat (first | rw [thenQ_r] | rw [blockQ_r] | rw [roundE_r])))
        exact ⟨_, rfl, by simp [pack, sgn, nI], rfl⟩
      · repeat (first | refine sS ?_ | refine sE ?_ | refine w_mv rfl ?_ | (refine w_neg rfl ?_ ?_; (focus omega)) | refine ai_seq ?_ | refine ai_regW ?_ | refine ai_condF (b := true) rfl (fun _ => ?_) (fun hb => by cases hb) | (refine ai_ret ?_; repeat (first | rw [thenQ_r] | rw [blockQ_r] | rw [roundE_r])))
        exact ⟨_, rfl, by simp [pack, sgn, nI], rfl⟩
  · rw [cut_at hpa hpn]
    dsimp only
    repeat (first | refine sS ?_ | refine w_mv rfl ?_ | refine ai_seq ?_ | refine ai_regW ?_)
    refine w_slsP rfl (by omega) ?_
    have htp : (t.take p).length ≤ 1000000 := by rw [List.length_take]; omega
    repeat (first | refine sS ?_ | refine sE ?_ | refine w_mv rfl ?_ | (refine is_okn rfl ?_; refine w_op rfl ?_) | (refine w_add rfl ?_ ?_; (focus omega)) | (refine w_cmp (c2 := true) rfl ?_ ?_; focus (first | exact decide_eq_true (by omega) | (simp; done) | (simp; omega))) | (refine w_call rfl ((rdigits_ok (t.take p) 9 (by decide) htp _).mono ?_); rintro _ _ ⟨rfl, rfl⟩) | refine ai_seq ?_ | refine ai_regW ?_ | refine ai_condF (b := true) rfl (fun _ => ?_) (fun hb => by cases hb))
    refine w_slsS (i := p + 1) rfl (by omega) ?_
    have hbl : (t.drop (p + 1)).length ≤ 1000000 := by rw [List.length_drop]; omega
    generalize t.drop (p + 1) = b at *
    repeat (first | refine sS ?_ | refine sE ?_ | refine w_mv rfl ?_ | (refine w_call rfl ((rdigits_ok b 3 (by decide) hbl _).mono ?_); rintro _ _ ⟨rfl, rfl⟩) | refine ai_seq ?_ | refine ai_regW ?_)
    cases hB : digF b 3 with
    | none =>
      repeat (first | refine sS ?_ | refine sE ?_ | refine w_mv rfl ?_ | (refine w_cmp (c2 := true) rfl ?_ ?_; focus (first | exact decide_eq_true (by omega) | (simp; done) | (simp; omega))) | refine ai_seq ?_ | refine ai_regW ?_ | refine ai_condF (b := true) rfl (fun _ => ?_) (fun hb => by cases hb) | (refine ai_ret ?_; repeat (first | rw [thenQ_r] | rw [blockQ_r] | rw [roundE_r])))
      exact ⟨_, rfl, by cases digF (t.take p) 9 <;> rfl, rfl⟩
    | some k =>
      obtain ⟨b1, b2, b3⟩ := digF_some hB
      dsimp only
      cases hA : digF (t.take p) 9 with
      | none =>
        dsimp only
        repeat (first | refine sE ?_ | (refine w_cmp (c2 := false) rfl ?_ ?_; focus (first | exact decide_eq_false (by omega) | (simp; done) | (simp; omega))) | refine ai_seq ?_ | refine ai_condF (b := false) rfl (fun hb => by cases hb) (fun _ => ?_) | refine ai_skip ?_ | refine ai_block ?_)
        refine ai_loopE (γ := Nat) (fun e => [(4, .bool neg), (7, nI (-1)), (9, bs (b ++ List.replicate e 48))])
          (fun e g => h = g ∧ b.length + e ≤ 3) (fun e => 3 - e) 0
          (by rw [List.replicate_zero, List.append_nil]; exact (by repeat (first | exact le_nil | refine le_consF rfl ?_))) ⟨rfl, by omega⟩ ?_
        rintro e g1 ⟨rfl, he⟩
        have hze := sz_mk (b ++ List.replicate e 48)
        rw [List.length_append, List.length_replicate] at hze
        by_cases h3 : b.length + e < 3
        · repeat (first | refine sS ?_ | refine sE ?_ | refine w_mv rfl ?_ | (refine is_okn rfl ?_; refine w_op rfl ?_) | (refine w_cmp (c2 := true) rfl ?_ ?_; focus (first | exact decide_eq_true (by omega) | (simp; done) | (simp; omega))) | refine ai_seq ?_ | refine ai_regW ?_ | refine ai_condF (b := true) rfl (fun _ => ?_) (fun hb => by cases hb) | refine ai_skip ?_ | refine ai_block ?_)
          refine w_catB (b := [48]) rfl (by rw [List.length_append, List.length_replicate]; simp; omega) ?_
          rw [List.append_assoc, ← List.replicate_succ']
          repeat (first | refine sS ?_ | refine sE ?_ | refine w_mv rfl ?_)
          exact ⟨e + 1, (by repeat (first | exact le_nil | refine le_consF rfl ?_)), ⟨rfl, by omega⟩, by dsimp only; omega⟩
        · obtain rfl : e = 3 - b.length := by omega
          have hbr : (b ++ List.replicate (3 - b.length) (48 : UInt8)).length ≤ 1000000 := by rw [List.length_append, List.length_replicate]; omega
          repeat (first | refine sS ?_ | refine sE ?_ | refine w_mv rfl ?_ | (refine is_okn rfl ?_; refine w_op rfl ?_) | (refine w_cmp (c2 := true) rfl ?_ ?_; focus (first | exact decide_eq_true (by omega) | (simp; done) | (simp; omega))) | (refine w_cmp (c2 := false) rfl ?_ ?_; focus (first | exact decide_eq_false (by omega) | (simp; done) | (simp; omega))) | (refine w_call rfl ((rdigits_ok (b ++ List.replicate (3 - b.length) 48) 3 (by decide) hbr _).mono ?_); rintro _ _ ⟨rfl, rfl⟩) | refine ai_seq ?_ | refine ai_regW ?_ | refine ai_condF (b := true) rfl (fun _ => ?_) (fun hb => by cases hb) | refine ai_condF (b := false) rfl (fun hb => by cases hb) (fun _ => ?_) | refine ai_exit ?_ | (refine ai_ret ?_; repeat (first | rw [thenQ_r] | rw [blockQ_r] | rw [roundE_r])))
          rw [digF_zero hB _ (by omega)]
          dsimp only
          skip
          exact ⟨_, rfl, rfl, rfl⟩
      | some n =>
        obtain ⟨a1, a2, a3⟩ := digF_some hA
        have hn9 : n < 10 ^ 9 := Nat.lt_of_lt_of_le a3 (Nat.pow_le_pow_right (by decide) a2)
        dsimp only
        repeat (first | refine sE ?_ | (refine w_cmp (c2 := false) rfl ?_ ?_; focus (first | exact decide_eq_false (by omega) | (simp; done) | (simp; omega))) | refine ai_seq ?_ | refine ai_condF (b := false) rfl (fun hb => by cases hb) (fun _ => ?_) | refine ai_skip ?_ | refine ai_block ?_)
        refine ai_loopE (γ := Nat) (fun e => [(4, .bool neg), (7, nI n), (9, bs (b ++ List.replicate e 48))])
          (fun e g => h = g ∧ b.length + e ≤ 3) (fun e => 3 - e) 0
          (by rw [List.replicate_zero, List.append_nil]; exact (by repeat (first | exact le_nil | refine le_consF rfl ?_))) ⟨rfl, by omega⟩ ?_
        rintro e g1 ⟨rfl, he⟩
        have hze := sz_mk (b ++ List.replicate e 48)
        rw [List.length_append, List.length_replicate] at hze
        by_cases h3 : b.length + e < 3
        · repeat (first | refine sS ?_ | refine sE ?_ | refine w_mv rfl ?_ | (refine is_okn rfl ?_; refine w_op rfl ?_) | (refine w_cmp (c2 := true) rfl ?_ ?_; focus (first | exact decide_eq_true (by omega) | (simp; done) | (simp; omega))) | refine ai_seq ?_ | refine ai_regW ?_ | refine ai_condF (b := true) rfl (fun _ => ?_) (fun hb => by cases hb) | refine ai_skip ?_ | refine ai_block ?_)
          refine w_catB (b := [48]) rfl (by rw [List.length_append, List.length_replicate]; simp; omega) ?_
          rw [List.append_assoc, ← List.replicate_succ']
          repeat (first | refine sS ?_ | refine sE ?_ | refine w_mv rfl ?_)
          exact ⟨e + 1, (by repeat (first | exact le_nil | refine le_consF rfl ?_)), ⟨rfl, by omega⟩, by dsimp only; omega⟩
        · obtain rfl : e = 3 - b.length := by omega
          have hbr : (b ++ List.replicate (3 - b.length) (48 : UInt8)).length ≤ 1000000 := by rw [List.length_append, List.length_replicate]; omega
          repeat (first | refine sS ?_ | refine sE ?_ | refine w_mv rfl ?_ | (refine is_okn rfl ?_; refine w_op rfl ?_) | (refine w_cmp (c2 := false) rfl ?_ ?_; focus (first | exact decide_eq_false (by omega) | (simp; done) | (simp; omega))) | (refine w_mul rfl ?_ ?_; (focus omega)) | (refine w_call rfl ((rdigits_ok (b ++ List.replicate (3 - b.length) 48) 3 (by decide) hbr _).mono ?_); rintro _ _ ⟨rfl, rfl⟩) | refine ai_seq ?_ | refine ai_regW ?_ | refine ai_condF (b := false) rfl (fun hb => by cases hb) (fun _ => ?_) | refine ai_skip ?_ | refine ai_exit ?_)
          rw [digF_zero hB _ (by omega)]
          dsimp only
          have hx1 : k * 10 ^ (3 - b.length) ≤ 99900 := by
            have hk3 : k < 1000 := Nat.lt_of_lt_of_le b3 (Nat.pow_le_pow_right (by decide) b2)
            rcases (show b.length = 1 ∨ b.length = 2 ∨ b.length = 3 by omega) with q | q | q <;> rw [q] at b3 ⊢ <;> simp at b3 ⊢ <;> omega
          generalize k * 10 ^ (3 - b.length) = x at *
          cases neg
          · repeat (first | refine sS ?_ | refine sE ?_ | refine w_mv rfl ?_ | (refine w_add rfl ?_ ?_; (focus omega)) | refine ai_seq ?_ | refine ai_regW ?_ | refine ai_condF (b := false) rfl (fun hb => by cases hb) (fun _ => ?_) | refine ai_skip ?_ | (refine ai_ret ?_; repeat (first | rw [thenQ_r] | rw [blockQ_r] | rw [roundE_r])))
            exact ⟨_, rfl, by simp [pack, sgn, nI], rfl⟩
          · repeat (first | refine sS ?_ | refine sE ?_ | refine w_mv rfl ?_ | (refine w_add rfl ?_ ?_; (focus omega)) | (refine w_neg rfl ?_ ?_; (focus omega)) | refine ai_seq ?_ | refine ai_regW ?_ | refine ai_condF (b := true) rfl (fun _ => ?_) (fun hb => by cases hb) | (refine ai_ret ?_; repeat (first | rw [thenQ_r] | rw [blockQ_r] | rw [roundE_r])))
            exact ⟨_, rfl, by simp [pack, sgn, nI], rfl⟩
end Go.Proofs.YtapbmmlgmcmpnaaDoorW.Am
/- Texts: Show. -/
namespace Go.Proofs.YtapbmmlgmcmpnaaDoorW.Am
open Go Go.RowKit
def absB (n : Int) : Int := if n < 0 then -(max n (-9223372036854775807)) else n
def fracB (m : Int) : List UInt8 := if m % 1000 = 0 then [] else 46 :: Go.Lib.trimRightB ((Go.Lib.itoa (1000 + m % 1000)).drop 1) 48
def showF (n : Int) : List UInt8 := ((if n < 0 then [45] else []) ++ Go.Lib.itoa (absB n / 1000)) ++ fracB (absB n)
def I64 (n : Int) : Prop := -9223372036854775808 ≤ n ∧ n ≤ 9223372036854775807
theorem fint_br {n : Int} (hn : I64 n) (h : Hp) : ACall PX 38 [nI n, nI 10] h (fun v g => v = bs (Go.Lib.itoa n) ∧ h = g) :=
  bridge (enters_comp Go.Proofs.Tryd.func38 c38) rfl rfl (fun w tb => (Go.Proofs.Tryd.strconv_FormatInt_10 n hn.1 hn.2 w tb.1).mono (by
    rintro e w' ⟨rfl, k, os, rfl⟩
    refine ⟨rfl, ⟨rfl, rfl, rfl, ?_, fun b hb => ?_⟩, fun d => (dr_no d).elim⟩
    · show w.heap.size ≤ (w.heap ++ os).size
      rw [Array.size_append]
      exact Nat.le_add_right _ _
    · show (w.heap ++ os)[b]? = w.heap[b]?
      exact Array.getElem?_append_left hb)) h
theorem trimR_br (l : List UInt8) (hl : l.length ≤ 1000000) (h : Hp) : ACall PX 39 [bs l, .string ⟨#[48]⟩] h (fun v g => v = bs (Go.Lib.trimRightB l 48) ∧ h = g) :=
  bridge (enters_comp Go.Proofs.Tryd.func39 c39) rfl rfl (fun w _ => (Go.Proofs.Tryd.strings_TrimRight_one ⟨l.toArray⟩ 48 (by decide) w (by show l.toArray.size ≤ _; rw [List.size_toArray]; omega)).mono (by
    rintro e w' ⟨rfl, rfl⟩
    exact ⟨rfl, Below.refl _ _, fun d => (dr_no d).elim⟩)) h
theorem dw_len {α : Type} (p : α → Bool) : ∀ l : List α, (l.dropWhile p).length ≤ l.length
  | [] => Nat.le_refl _
  | a :: l => by
    rw [List.dropWhile_cons]
    split
    · exact Nat.le_trans (dw_len p l) (by simp)
    · exact Nat.le_refl _
theorem trimR_len (l : List UInt8) (c : UInt8) : (Go.Lib.trimRightB l c).length ≤ l.length := by
  unfold Go.Lib.trimRightB
  rw [List.length_reverse]
  have := dw_len (fun x => x == c) l.reverse
  rwa [List.length_reverse] at this
theorem itoa_1000 {f : Int} (h : 0 ≤ f ∧ f < 1000) : 1 ≤ (Go.Lib.itoa (1000 + f)).length := by
  unfold Go.Lib.itoa
  rw [if_neg (by omega), Go.Lib.decDigits_length]
  exact Go.Lib.nDigits_pos _
set_option maxHeartbeats 1000000 in
theorem show_ok {n : Int} (hn : I64 n) (h : Hp) : ACall PX 17 [nI n] h (fun v g => v = bs (showF n) ∧ h = g) := by
  obtain ⟨n1, n2⟩ := hn
  have hmr : 0 ≤ absB n ∧ absB n ≤ 9223372036854775807 := by
    unfold absB
    split <;> omega
  obtain ⟨m, hm⟩ : ∃ m, absB n = m := ⟨_, rfl⟩
  rw [hm] at hmr
  have hq : I64 (m / 1000) := ⟨by omega, by omega⟩
  have hl1 := Go.Lib.itoa_length_le (m / 1000) hq.1 hq.2
  have hf : 0 ≤ m % 1000 ∧ m % 1000 < 1000 := by omega
  have hfi : I64 (1000 + m % 1000) := ⟨by omega, by omega⟩
  have hl2 := Go.Lib.itoa_length_le (1000 + m % 1000) hfi.1 hfi.2
  have hl3 := itoa_1000 hf
  have hl4 := trimR_len ((Go.Lib.itoa (1000 + m % 1000)).drop 1) 48
  rw [List.length_drop] at hl4
  have htr : ((Go.Lib.itoa (1000 + m % 1000)).drop 1).length ≤ 1000000 := by rw [List.length_drop]; omega
  unfold showF
  rw [hm]
  refine acall Go.Proofs.Tryd.func17 c17 (by simp [ir17]) ?_
  unfold ir17
  dsimp only
  repeat (first | rw [thenQ_r] | rw [blockQ_r] | rw [roundE_r])
  refine ai_seq ?_
  repeat (first | refine sS ?_ | refine sE ?_ | refine w_mv rfl ?_ | refine ai_regW ?_)
  repeat (first | rw [thenQ_r] | rw [blockQ_r] | rw [roundE_r])
  repeat (first | rw [thenQ_r] | rw [blockQ_r] | rw [roundE_r])
  refine ai_seq ?_
  repeat (first | refine sS ?_ | refine sE ?_ | refine w_mv rfl ?_ | refine ai_regW ?_)
  repeat (first | rw [thenQ_r] | rw [blockQ_r] | rw [roundE_r])
  refine ai_join (γ := Unit) (fun _ => [(0, nI m), (3, bs (if n < 0 then [45] else []))]) (fun _ g => h = g) ?_ ?_
  · by_cases h0 : n < 0
    · rw [if_pos h0]
      have he : -(max n (-9223372036854775807)) = m := by rw [← hm]; unfold absB; rw [if_pos h0]
      repeat (first | refine sS ?_ | refine sE ?_ | refine w_mv rfl ?_ | (refine w_cmp (c2 := true) rfl ?_ ?_; focus (first | exact decide_eq_true (by omega) | (simp; done) | (simp; omega))) | (refine w_neg rfl ?_ ?_; (focus omega)) | refine w_max rfl ?_ | refine ai_seq ?_ | refine ai_regW ?_ | refine ai_condF (b := true) rfl (fun _ => ?_) (fun hb => by cases hb))
      rw [he]
      skip
      exact ⟨rfl, (), (by repeat (first | exact le_nil | refine le_consF rfl ?_)), rfl⟩
    · rw [if_neg h0]
      have he : n = m := by rw [← hm]; unfold absB; rw [if_neg h0]
      subst he
      repeat (first | refine sS ?_ | refine sE ?_ | refine w_mv rfl ?_ | (refine w_cmp (c2 := false) rfl ?_ ?_; focus (first | exact decide_eq_false (by omega) | (simp; done) | (simp; omega))) | refine ai_seq ?_ | refine ai_regW ?_ | refine ai_condF (b := false) rfl (fun hb => by cases hb) (fun _ => ?_) | refine ai_skip ?_)
      exact ⟨rfl, (), (by repeat (first | exact le_nil | refine le_consF rfl ?_)), rfl⟩
  rintro _ _ rfl
  have hsl : (if n < 0 then [45] else [] : List UInt8).length ≤ 1 := by split <;> simp
  generalize (if n < 0 then [45] else [] : List UInt8) = sg at *
  repeat (first | refine sS ?_ | refine w_mv rfl ?_ | (refine w_quo rfl ?_ ?_ ?_; (focus omega); (focus omega)) | (refine w_call rfl ((fint_br hq _).mono ?_); rintro _ _ ⟨rfl, rfl⟩) | refine ai_seq ?_ | refine ai_regW ?_)
  refine w_catB rfl (by omega) ?_
  unfold fracB
  by_cases hz : m % 1000 = 0
  · rw [if_pos hz, List.append_nil]
    repeat (first | refine sS ?_ | refine sE ?_ | refine w_mv rfl ?_ | (refine w_cmp (c2 := true) rfl ?_ ?_; focus (first | exact decide_eq_true (by omega) | (simp; done) | (simp; omega))) | (refine w_rem rfl ?_ ?_ ?_; (focus omega); (focus omega)) | refine ai_seq ?_ | refine ai_regW ?_ | refine ai_condF (b := true) rfl (fun _ => ?_) (fun hb => by cases hb) | (refine ai_ret ?_; repeat (first | rw [thenQ_r] | rw [blockQ_r] | rw [roundE_r])))
    exact ⟨_, rfl, rfl, rfl⟩
  · rw [if_neg hz]
    repeat (first | refine sS ?_ | refine sE ?_ | refine w_mv rfl ?_ | (refine w_cmp (c2 := false) rfl ?_ ?_; focus (first | exact decide_eq_false (by omega) | (simp; done) | (simp; omega))) | (refine w_rem rfl ?_ ?_ ?_; (focus omega); (focus omega)) | refine ai_seq ?_ | refine ai_regW ?_ | refine ai_condF (b := false) rfl (fun hb => by cases hb) (fun _ => ?_) | refine ai_skip ?_)
    refine w_catB (b := [46]) rfl (by rw [List.length_append]; simp; omega) ?_
    repeat (first | refine sS ?_ | refine w_mv rfl ?_ | (refine w_add rfl ?_ ?_; (focus omega)) | (refine w_rem rfl ?_ ?_ ?_; (focus omega); (focus omega)) | (refine w_call rfl ((fint_br hfi _).mono ?_); rintro _ _ ⟨rfl, rfl⟩))
    refine w_slsS (i := 1) rfl hl3 ?_
    repeat (first | refine sS ?_ | (refine w_call rfl ((trimR_br _ htr _).mono ?_); rintro _ _ ⟨rfl, rfl⟩))
    refine w_catB rfl (by rw [List.length_append, List.length_append]; simp only [List.length_cons, List.length_nil]; omega) ?_
    repeat (first | refine sS ?_ | refine sE ?_ | refine w_mv rfl ?_ | (refine ai_ret ?_; repeat (first | rw [thenQ_r] | rw [blockQ_r] | rw [roundE_r])))
    exact ⟨_, rfl, by simp [pack], rfl⟩
end Go.Proofs.YtapbmmlgmcmpnaaDoorW.Am
/- Texts: the document's own numerals. -/
namespace Go.Proofs.YtapbmmlgmcmpnaaDoorW.Am
open Go Go.RowKit
section
variable {P : Program} {CT : FuncId → List Value → Hp → (Value → Hp → Prop) → Prop} {d : Option Nat} {xs : List Operand} {env : Env} {h : Hp} {R : Value → Hp → Prop}
theorem w_cat {a b : ByteArray} (e : mapF env xs = some [.string a, .string b]) (hl : a.size + b.size ≤ 9223372036854775807) (n : R (.string (a ++ b)) h) : WI P CT ⟨d, none, .op (.bin .add) xs⟩ env h R := by
  refine w_op (v := .string (a ++ b)) (h' := h) ?_ n
  unfold opF
  rw [e]
  show Option.map (·, h) (if a.size + b.size ≤ 9223372036854775807 then some (Value.string (a ++ b)) else none) = _
  rw [if_pos hl]
  rfl
end
theorem ba_app (a b : List UInt8) : ((⟨a.toArray⟩ : ByteArray) ++ (⟨b.toArray⟩ : ByteArray)) = ⟨(a ++ b).toArray⟩ := ByteArray.ext (by simp)
def digS : ByteArray := ⟨#[48, 49, 50, 51, 52, 53, 54, 55, 56, 57]⟩
theorem dig_sls (h : Hp) : ∀ d : Nat, d < 10 → stepK (.sls true true) [.string digS, nI d, nI ((d : Int) + 1)] h = some (.string ⟨[UInt8.ofNat (48 + d)].toArray⟩, h) := by
  intro d hd
  have : d = 0 ∨ d = 1 ∨ d = 2 ∨ d = 3 ∨ d = 4 ∨ d = 5 ∨ d = 6 ∨ d = 7 ∨ d = 8 ∨ d = 9 := by omega
  rcases this with rfl | rfl | rfl | rfl | rfl | rfl | rfl | rfl | rfl | rfl <;> rfl
theorem dec_len {N : Nat} (hN : N ≤ 9223372036854775807) : (Go.Lib.decDigits N).length ≤ 21 := by
  have := Go.Lib.itoa_length_le (N : Int) (by omega) (by omega)
  unfold Go.Lib.itoa at this
  rw [if_neg (by omega), Int.toNat_natCast] at this
  exact this
theorem decd_big {n : Nat} (h : 9 < n) : Go.Lib.decDigits n = Go.Lib.decDigits (n / 10) ++ [UInt8.ofNat (48 + n % 10)] := by rw [Go.Lib.decDigits, dif_neg (by omega)]
theorem decd_small {n : Nat} (h : ¬ 9 < n) : Go.Lib.decDigits n = [UInt8.ofNat (48 + n)] := by rw [Go.Lib.decDigits, dif_pos (by omega)]
set_option maxHeartbeats 1000000 in
theorem decimal_ok (N : Nat) (hN : N ≤ 9223372036854775807) (h : Hp) : ACall PX 20 [nI N] h (fun v g => v = .string ⟨(Go.Lib.decDigits N).toArray⟩ ∧ h = g) := by
  have hlen := dec_len hN
  refine acall Go.Proofs.Tryd.func20 c20 (by simp [ir20]) ?_
  unfold ir20
  dsimp only
  repeat (first | refine sS ?_ | refine sE ?_ | refine w_mv rfl ?_ | refine ai_seq ?_ | refine ai_regW ?_ | refine ai_block ?_)
  refine ai_loopE (γ := Nat × List UInt8) (fun e => [(0, nI e.1), (3, .string ⟨e.2.toArray⟩)])
    (fun e g => h = g ∧ e.1 ≤ N ∧ Go.Lib.decDigits N = Go.Lib.decDigits e.1 ++ e.2) (fun e => e.1) (N, [])
    (by repeat (first | exact le_nil | refine le_consF rfl ?_)) ⟨rfl, Nat.le_refl _, by simp⟩ ?_
  rintro ⟨n, s⟩ g1 ⟨rfl, hn, hs⟩
  dsimp only at hn hs ⊢
  have hsl : s.length ≤ 21 := by
    rw [hs, List.length_append] at hlen
    omega
  have hsz : (ByteArray.mk s.toArray).size = s.length := by simp [ByteArray.size]
  by_cases h9 : 9 < n
  · rw [decd_big h9, List.append_assoc] at hs
    obtain ⟨q, hq⟩ : ∃ q, n % 10 = q := ⟨_, rfl⟩
    have hq9 : q < 10 := by omega
    have hqi : (n : Int) % 10 = (q : Int) := by omega
    rw [hq] at hs
    repeat (first | refine sS ?_ | refine sE ?_ | refine w_mv rfl ?_ | (refine w_add rfl ?_ ?_; (focus omega)) | (refine w_cmp (c2 := true) rfl ?_ ?_; focus (first | exact decide_eq_true (by omega) | (simp; done) | (simp; omega))) | (refine w_rem rfl ?_ ?_ ?_; (focus omega); (focus omega)) | refine ai_seq ?_ | refine ai_regW ?_ | refine ai_condF (b := true) rfl (fun _ => ?_) (fun hb => by cases hb) | refine ai_skip ?_ | refine ai_block ?_)
    rw [hqi]
    refine w_op (dig_sls h q hq9) ?_
    repeat (first | refine sS ?_ | refine w_mv rfl ?_)
    refine w_cat rfl (by rw [hsz]; show 1 + s.length ≤ _; omega) ?_
    rw [ba_app]
    repeat (first | refine sS ?_ | refine sE ?_ | refine w_mv rfl ?_ | (refine w_quo rfl ?_ ?_ ?_; (focus omega); (focus omega)) | refine ai_regW ?_)
    exact ⟨(n / 10, UInt8.ofNat (48 + q) :: s), (by repeat (first | exact le_nil | refine le_consF rfl ?_)), ⟨rfl, by dsimp only; omega, hs⟩, by dsimp only; omega⟩
  · rw [decd_small h9] at hs
    repeat (first | refine sS ?_ | refine sE ?_ | refine w_mv rfl ?_ | (refine w_add rfl ?_ ?_; (focus omega)) | (refine w_cmp (c2 := false) rfl ?_ ?_; focus (first | exact decide_eq_false (by omega) | (simp; done) | (simp; omega))) | refine ai_seq ?_ | refine ai_regW ?_ | refine ai_condF (b := false) rfl (fun hb => by cases hb) (fun _ => ?_) | refine ai_exit ?_)
    refine w_op (dig_sls h n (by omega)) ?_
    repeat (first | refine sS ?_ | refine w_mv rfl ?_)
    refine w_cat rfl (by rw [hsz]; show 1 + s.length ≤ _; omega) ?_
    rw [ba_app]
    repeat (first | refine sS ?_ | refine sE ?_ | refine w_mv rfl ?_ | (refine ai_ret ?_; repeat (first | rw [thenQ_r] | rw [blockQ_r] | rw [roundE_r])))
    exact ⟨_, rfl, by rw [hs]; rfl, rfl⟩
end Go.Proofs.YtapbmmlgmcmpnaaDoorW.Am
/- Texts: the document's own Show. -/
namespace Go.Proofs.YtapbmmlgmcmpnaaDoorW.Am
open Go Go.RowKit
theorem trimR_zero (l : List UInt8) (c : UInt8) : Go.Lib.trimRightB (l ++ [c]) c = Go.Lib.trimRightB l c := by
  unfold Go.Lib.trimRightB
  simp
theorem trimR_other (l : List UInt8) {b c : UInt8} (h : b ≠ c) : Go.Lib.trimRightB (l ++ [b]) c = l ++ [b] := by
  unfold Go.Lib.trimRightB
  simp [h]
theorem dec4 {f : Nat} (h : f < 1000) : Go.Lib.decDigits (1000 + f) = [49, UInt8.ofNat (48 + f / 100), UInt8.ofNat (48 + f / 10 % 10), UInt8.ofNat (48 + f % 10)] := by
  rw [decd_big (by omega), decd_big (by omega), decd_big (by omega), decd_small (by omega)]
  rw [show (1000 + f) % 10 = f % 10 by omega, show (1000 + f) / 10 % 10 = f / 10 % 10 by omega, show (1000 + f) / 10 / 10 % 10 = f / 100 by omega, show (1000 + f) / 10 / 10 / 10 = 1 by omega]
  rfl
theorem itoa_nn (n : Nat) : Go.Lib.itoa (n : Int) = Go.Lib.decDigits n := by
  unfold Go.Lib.itoa
  rw [if_neg (by omega), Int.toNat_natCast]
theorem dig_eq {d : Nat} (h : d < 10) (e : UInt8.ofNat (48 + d) = 48) : d = 0 := by
  have := congrArg UInt8.toNat e
  rw [UInt8.toNat_ofNat'] at this
  have h48 : (48 : UInt8).toNat = 48 := rfl
  omega
theorem frac_ne {f : Nat} (h : f < 1000) (h0 : f ≠ 0) : Go.Lib.trimRightB ((Go.Lib.decDigits (1000 + f)).drop 1) 48 ≠ [] := by
  rw [dec4 h]
  show Go.Lib.trimRightB ([UInt8.ofNat (48 + f / 100), UInt8.ofNat (48 + f / 10 % 10)] ++ [UInt8.ofNat (48 + f % 10)]) 48 ≠ []
  by_cases h3 : UInt8.ofNat (48 + f % 10) = 48
  · rw [h3, trimR_zero]
    show Go.Lib.trimRightB ([UInt8.ofNat (48 + f / 100)] ++ [UInt8.ofNat (48 + f / 10 % 10)]) 48 ≠ []
    by_cases h2 : UInt8.ofNat (48 + f / 10 % 10) = 48
    · rw [h2, trimR_zero]
      show Go.Lib.trimRightB ([] ++ [UInt8.ofNat (48 + f / 100)]) 48 ≠ []
      by_cases h1 : UInt8.ofNat (48 + f / 100) = 48
      · have e1 := dig_eq (by omega) h1
        have e2 := dig_eq (by omega) h2
        have e3 := dig_eq (by omega) h3
        omega
      · rw [trimR_other _ h1]; simp
    · rw [trimR_other _ h2]; simp
  · rw [trimR_other _ h3]; simp
set_option maxRecDepth 10000 in
set_option maxHeartbeats 2000000 in
theorem rshow_ok {n : Int} (hn : I64 n) (h : Hp) : ACall PX 18 [nI n] h (fun v g => v = bs (showF n) ∧ h = g) := by
  obtain ⟨n1, n2⟩ := hn
  have hmr : 0 ≤ absB n ∧ absB n ≤ 9223372036854775807 := by
    unfold absB
    split <;> omega
  obtain ⟨M, hm⟩ : ∃ M : Nat, absB n = (M : Int) := ⟨(absB n).toNat, by omega⟩
  rw [hm] at hmr
  have hq : (M : Int) / 1000 = ((M / 1000 : Nat) : Int) := by omega
  have hf : (1000 : Int) + (M : Int) % 1000 = ((1000 + M % 1000 : Nat) : Int) := by omega
  have hl1 := dec_len (N := M / 1000) (by omega)
  have hl2 := dec_len (N := 1000 + M % 1000) (by omega)
  have hd4 := dec4 (f := M % 1000) (by omega)
  have hd5 : 1 ≤ (Go.Lib.decDigits (1000 + M % 1000)).length := by rw [hd4]; simp
  unfold showF fracB
  rw [hm, hf, hq, itoa_nn, itoa_nn]
  refine acall Go.Proofs.Tryd.func18 c18 (by simp [ir18]) ?_
  unfold ir18
  dsimp only
  repeat (first | rw [thenQ_r] | rw [blockQ_r] | rw [roundE_r])
  refine ai_seq ?_
  repeat (first | refine sS ?_ | refine sE ?_ | refine w_mv rfl ?_ | refine ai_regW ?_)
  repeat (first | rw [thenQ_r] | rw [blockQ_r] | rw [roundE_r])
  repeat (first | rw [thenQ_r] | rw [blockQ_r] | rw [roundE_r])
  refine ai_seq ?_
  repeat (first | refine sS ?_ | refine sE ?_ | refine w_mv rfl ?_ | refine ai_regW ?_)
  repeat (first | rw [thenQ_r] | rw [blockQ_r] | rw [roundE_r])
  refine ai_join (γ := Unit) (fun _ => [(0, nI M), (3, bs (if n < 0 then [45] else []))]) (fun _ g => h = g) ?_ ?_
  · by_cases h0 : n < 0
    · rw [if_pos h0]
      have he : -(max n (-9223372036854775807)) = (M : Int) := by rw [← hm]; unfold absB; rw [if_pos h0]
      repeat (first | refine sS ?_ | refine sE ?_ | refine w_mv rfl ?_ | (refine w_cmp (c2 := true) rfl ?_ ?_; focus (first | exact decide_eq_true (by omega) | (simp; done) | (simp; omega))) | (refine w_neg rfl ?_ ?_; (focus omega)) | refine w_max rfl ?_ | refine ai_seq ?_ | refine ai_regW ?_ | refine ai_condF (b := true) rfl (fun _ => ?_) (fun hb => by cases hb))
      rw [he]
      skip
      exact ⟨rfl, (), (by repeat (first | exact le_nil | refine le_consF rfl ?_)), rfl⟩
    · rw [if_neg h0]
      have he : n = (M : Int) := by rw [← hm]; unfold absB; rw [if_neg h0]
      subst he
      repeat (first | refine sS ?_ | refine sE ?_ | refine w_mv rfl ?_ | (refine w_cmp (c2 := false) rfl ?_ ?_; focus (first | exact decide_eq_false (by omega) | (simp; done) | (simp; omega))) | refine ai_seq ?_ | refine ai_regW ?_ | refine ai_condF (b := false) rfl (fun hb => by cases hb) (fun _ => ?_) | refine ai_skip ?_)
      exact ⟨rfl, (), (by repeat (first | exact le_nil | refine le_consF rfl ?_)), rfl⟩
  rintro _ _ rfl
  have hsl : (if n < 0 then [45] else [] : List UInt8).length ≤ 1 := by split <;> simp
  generalize (if n < 0 then [45] else [] : List UInt8) = sg at *
  repeat (first | refine sS ?_ | refine w_mv rfl ?_ | (refine w_quo rfl ?_ ?_ ?_; (focus omega); (focus omega)) | refine ai_seq ?_ | refine ai_regW ?_)
  rw [hq]
  repeat (first | refine sS ?_ | (refine w_call rfl ((decimal_ok (M / 1000) (by omega) _).mono ?_); rintro _ _ ⟨rfl, rfl⟩))
  refine w_catB (a := sg) (b := Go.Lib.decDigits (M / 1000)) rfl (by omega) ?_
  by_cases hz : (M : Int) % 1000 = 0
  · rw [if_pos hz, List.append_nil]
    repeat (first | refine sS ?_ | refine sE ?_ | refine w_mv rfl ?_ | (refine w_cmp (c2 := true) rfl ?_ ?_; focus (first | exact decide_eq_true (by omega) | (simp; done) | (simp; omega))) | (refine w_rem rfl ?_ ?_ ?_; (focus omega); (focus omega)) | refine ai_seq ?_ | refine ai_regW ?_ | refine ai_condF (b := true) rfl (fun _ => ?_) (fun hb => by cases hb) | (refine ai_ret ?_; repeat (first | rw [thenQ_r] | rw [blockQ_r] | rw [roundE_r])))
    exact ⟨_, rfl, rfl, rfl⟩
  · rw [if_neg hz]
    repeat (first | refine sS ?_ | refine sE ?_ | refine w_mv rfl ?_ | (refine w_add rfl ?_ ?_; (focus omega)) | (refine w_cmp (c2 := false) rfl ?_ ?_; focus (first | exact decide_eq_false (by omega) | (simp; done) | (simp; omega))) | (refine w_rem rfl ?_ ?_ ?_; (focus omega); (focus omega)) | refine ai_seq ?_ | refine ai_regW ?_ | refine ai_condF (b := false) rfl (fun hb => by cases hb) (fun _ => ?_) | refine ai_skip ?_)
    rw [hf]
    repeat (first | refine sS ?_ | (refine w_call rfl ((decimal_ok (1000 + M % 1000) (by omega) _).mono ?_); rintro _ _ ⟨rfl, rfl⟩))
    refine w_slsS (l := Go.Lib.decDigits (1000 + M % 1000)) (i := 1) rfl hd5 ?_
    repeat (first | refine sS ?_ | refine sE ?_ | refine w_mv rfl ?_ | refine ai_seq ?_ | refine ai_block ?_)
    have hne := frac_ne (f := M % 1000) (by omega) (by omega)
    have hl3 := trimR_len ((Go.Lib.decDigits (1000 + M % 1000)).drop 1) 48
    rw [List.length_drop] at hl3
    have hl4 : ((Go.Lib.decDigits (1000 + M % 1000)).drop 1).length ≤ 20 := by rw [List.length_drop]; omega
    obtain ⟨T, hT⟩ : ∃ T, (Go.Lib.decDigits (1000 + M % 1000)).drop 1 = T := ⟨_, rfl⟩
    rw [hT] at hne hl3 hl4 ⊢
    obtain ⟨R, hR⟩ : ∃ R, Go.Lib.trimRightB T 48 = R := ⟨_, rfl⟩
    rw [hR] at hne hl3 ⊢
    refine ai_loopE (γ := List UInt8) (fun t => [(3, bs (sg ++ Go.Lib.decDigits (M / 1000))), (4, bs t)])
      (fun t g => h = g ∧ t.length ≤ 20 ∧ Go.Lib.trimRightB t 48 = R) (fun t => t.length) T
      (by repeat (first | exact le_nil | refine le_consF rfl ?_)) ⟨rfl, hl4, hR⟩ ?_
    rintro t g1 ⟨rfl, ht, htr⟩
    have htn : t ≠ [] := by
      rintro rfl
      exact hne htr.symm
    obtain ⟨s, b, rfl⟩ : ∃ s b, t = s ++ [b] := ⟨t.dropLast, t.getLast htn, (List.dropLast_concat_getLast htn).symm⟩
    have hz2 := sz_mk (s ++ [b])
    rw [List.length_append, List.length_singleton] at hz2 ht
    have hi : ((ByteArray.mk (s ++ [b]).toArray).size : Int) - 1 = (s.length : Int) := by omega
    repeat (first | refine sS ?_ | refine w_mv rfl ?_ | (refine is_okn rfl ?_; refine w_op rfl ?_) | (refine w_sub rfl ?_ ?_; (focus omega)) | refine ai_seq ?_ | refine ai_regW ?_)
    rw [hi]
    refine w_ixs (b := b) rfl (by simp) ?_
    by_cases hb : b = 48
    · subst hb
      rw [trimR_zero] at htr
      repeat (first | refine sS ?_ | refine sE ?_ | refine w_mv rfl ?_ | (refine is_okn rfl ?_; refine w_op rfl ?_) | (refine w_sub rfl ?_ ?_; (focus omega)) | (refine w_cmp (c2 := true) rfl ?_ ?_; focus (first | exact decide_eq_true (by omega) | (simp; done) | (simp; omega))) | refine ai_regW ?_ | refine ai_condF (b := true) rfl (fun _ => ?_) (fun hb => by cases hb) | refine ai_skip ?_ | refine ai_block ?_)
      rw [hi]
      refine w_slsP rfl (by simp) ?_
      rw [List.take_left']
      repeat (first | refine sS ?_ | refine sE ?_ | refine w_mv rfl ?_)
      exact ⟨s, (by repeat (first | exact le_nil | refine le_consF rfl ?_)), ⟨rfl, by omega, htr⟩, by simp⟩
      rfl
    · have hb2 : b.toNat ≠ 48 := fun q => hb (UInt8.toNat_inj.1 q)
      rw [trimR_other _ hb] at htr
      repeat (first | refine sS ?_ | refine sE ?_ | refine w_mv rfl ?_ | (refine w_cmp (c2 := false) rfl ?_ ?_; focus (first | exact decide_eq_false (by omega) | (simp; done) | (simp; omega))) | refine ai_seq ?_ | refine ai_regW ?_ | refine ai_condF (b := false) rfl (fun hb => by cases hb) (fun _ => ?_) | refine ai_exit ?_)
      refine w_catB (b := [46]) rfl (by rw [List.length_append]; simp; omega) ?_
      repeat (first | refine sS ?_ | refine w_mv rfl ?_)
      rw [htr]
      refine w_catB rfl (by rw [List.length_append, List.length_append]; simp only [List.length_cons, List.length_nil]; omega) ?_
      repeat (first | refine sS ?_ | refine sE ?_ | refine w_mv rfl ?_ | (refine ai_ret ?_; repeat (first | rw [thenQ_r] | rw [blockQ_r] | rw [roundE_r])))
      exact ⟨_, rfl, by simp [pack], rfl⟩
end Go.Proofs.YtapbmmlgmcmpnaaDoorW.Am
/- Settings over abstract heaps: within, Wrong, May. -/
namespace Go.Proofs.YtapbmmlgmcmpnaaDoorW.Am
open Go Go.RowKit
theorem within_l (h : Hp) (n lo hi : Int) : ACall PX 65 [.iface 2 (nI n), nI lo, nI hi] h (fun v g => v = .bool (decide (lo ≤ n) && decide (n ≤ hi)) ∧ h = g) := by
  refine acall Go.Proofs.Tryd.func65 c65 (by simp [ir65]) ?_
  unfold ir65
  dsimp only
  repeat (first | refine sS ?_ | refine sE ?_ | refine w_mv rfl ?_ | (refine is_okk rfl ?_; refine w_op rfl ?_) | refine w_ext rfl rfl ?_ | refine ai_seq ?_ | refine ai_regW ?_ | refine ai_condF (b := true) rfl (fun _ => ?_) (fun hb => by cases hb))
  by_cases h1 : lo ≤ n
  · rw [decide_eq_true h1, Bool.true_and]
    by_cases h2 : n ≤ hi
    · rw [decide_eq_true h2]
      repeat (first | refine sS ?_ | refine sE ?_ | refine w_mv rfl ?_ | refine w_pickT rfl ?_ | refine w_gT rfl rfl ?_ | (refine w_cmp (c2 := true) rfl ?_ ?_; focus (first | exact decide_eq_true (by omega) | (simp; done) | (simp; omega))) | (refine ai_ret ?_; repeat (first | rw [thenQ_r] | rw [blockQ_r] | rw [roundE_r])))
      exact end_one rfl ⟨rfl, rfl⟩
    · rw [decide_eq_false h2]
      repeat (first | refine sS ?_ | refine sE ?_ | refine w_mv rfl ?_ | refine w_pickT rfl ?_ | refine w_gT rfl rfl ?_ | (refine w_cmp (c2 := true) rfl ?_ ?_; focus (first | exact decide_eq_true (by omega) | (simp; done) | (simp; omega))) | (refine w_cmp (c2 := false) rfl ?_ ?_; focus (first | exact decide_eq_false (by omega) | (simp; done) | (simp; omega))) | (refine ai_ret ?_; repeat (first | rw [thenQ_r] | rw [blockQ_r] | rw [roundE_r])))
      exact end_one rfl ⟨rfl, rfl⟩
  · rw [decide_eq_false h1, Bool.false_and]
    repeat (first | refine sS ?_ | refine sE ?_ | refine w_mv rfl ?_ | refine w_pickF rfl ?_ | refine w_gF rfl rfl ?_ | (refine w_cmp (c2 := false) rfl ?_ ?_; focus (first | exact decide_eq_false (by omega) | (simp; done) | (simp; omega))) | (refine ai_ret ?_; repeat (first | rw [thenQ_r] | rw [blockQ_r] | rw [roundE_r])))
    exact end_one rfl ⟨rfl, rfl⟩
theorem within_i (h : Hp) (n lo hi : Int) : ACall PX 65 [.iface 3 (nI n), nI lo, nI hi] h (fun v g => v = .bool (decide (lo ≤ n) && decide (n ≤ hi)) ∧ h = g) := by
  refine acall Go.Proofs.Tryd.func65 c65 (by simp [ir65]) ?_
  unfold ir65
  dsimp only
  repeat (first | refine sS ?_ | refine sE ?_ | refine w_mv rfl ?_ | (refine is_okk rfl ?_; refine w_op rfl ?_) | refine w_ext rfl rfl ?_ | refine w_gT rfl rfl ?_ | refine ai_seq ?_ | refine ai_regW ?_ | refine ai_condF (b := false) rfl (fun hb => by cases hb) (fun _ => ?_) | refine ai_skip ?_)
  by_cases h1 : lo ≤ n
  · rw [decide_eq_true h1, Bool.true_and]
    by_cases h2 : n ≤ hi
    · rw [decide_eq_true h2]
      repeat (first | refine sS ?_ | refine sE ?_ | refine w_mv rfl ?_ | refine w_pickT rfl ?_ | refine w_gT rfl rfl ?_ | (refine w_cmp (c2 := true) rfl ?_ ?_; focus (first | exact decide_eq_true (by omega) | (simp; done) | (simp; omega))) | (refine ai_ret ?_; repeat (first | rw [thenQ_r] | rw [blockQ_r] | rw [roundE_r])))
      exact end_one rfl ⟨rfl, rfl⟩
    · rw [decide_eq_false h2]
      repeat (first | refine sS ?_ | refine sE ?_ | refine w_mv rfl ?_ | refine w_pickT rfl ?_ | refine w_gT rfl rfl ?_ | (refine w_cmp (c2 := true) rfl ?_ ?_; focus (first | exact decide_eq_true (by omega) | (simp; done) | (simp; omega))) | (refine w_cmp (c2 := false) rfl ?_ ?_; focus (first | exact decide_eq_false (by omega) | (simp; done) | (simp; omega))) | (refine ai_ret ?_; repeat (first | rw [thenQ_r] | rw [blockQ_r] | rw [roundE_r])))
      exact end_one rfl ⟨rfl, rfl⟩
  · rw [decide_eq_false h1, Bool.false_and]
    repeat (first | refine sS ?_ | refine sE ?_ | refine w_mv rfl ?_ | refine w_pickT rfl ?_ | refine w_pickF rfl ?_ | refine w_gF rfl rfl ?_ | (refine w_cmp (c2 := false) rfl ?_ ?_; focus (first | exact decide_eq_false (by omega) | (simp; done) | (simp; omega))) | (refine ai_ret ?_; repeat (first | rw [thenQ_r] | rw [blockQ_r] | rw [roundE_r])))
    exact end_one rfl ⟨rfl, rfl⟩
/-- Settings: twenty numbers. -/
structure Cf20 where
  (target util stable panic grain threshold up down min max initial grace delay burst limit queue timeout ready subset sample : Int)
def cs20 (c : Cf20) : List Value := [nI c.target, nI c.util, nI c.stable, nI c.panic, nI c.grain, nI c.threshold, nI c.up, nI c.down, nI c.min, nI c.max, nI c.initial, nI c.grace, nI c.delay, nI c.burst, nI c.limit, nI c.queue, nI c.timeout, nI c.ready, nI c.subset, nI c.sample]
def inB (n lo hi : Int) : Bool := decide (lo ≤ n) && decide (n ≤ hi)
/-- The parts' names, and whether each may be. -/
def wrB (c : Cf20) (b1 b2 : Bool) : List (ByteArray × Bool) := [(⟨#[116, 97, 114, 103, 101, 116]⟩, inB c.target 10 1000000), (⟨#[117, 116, 105, 108]⟩, inB c.util 100 1000), (⟨#[115, 116, 97, 98, 108, 101]⟩, inB c.stable 6 600), (⟨#[112, 97, 110, 105, 99]⟩, inB c.panic 1 c.stable), (⟨#[103, 114, 97, 105, 110]⟩, inB c.grain 1 c.panic), (⟨#[116, 104, 114, 101, 115, 104, 111, 108, 100]⟩, inB c.threshold 1100 10000), (⟨#[117, 112]⟩, inB c.up 1001 1000000), (⟨#[100, 111, 119, 110]⟩, inB c.down 1001 1000000), (⟨#[109, 105, 110]⟩, inB c.min 0 100), (⟨#[109, 97, 120]⟩, (b1 || inB c.max (if 1 > c.min then 1 else c.min) 100)), (⟨#[105, 110, 105, 116, 105, 97, 108]⟩, inB c.initial 0 (if c.max = 0 then 100 else c.max)), (⟨#[103, 114, 97, 99, 101]⟩, inB c.grace 0 600), (⟨#[100, 101, 108, 97, 121]⟩, inB c.delay 0 600), (⟨#[98, 117, 114, 115, 116]⟩, (b2 || inB c.burst 0 100000000)), (⟨#[108, 105, 109, 105, 116]⟩, inB c.limit 1 1000), (⟨#[113, 117, 101, 117, 101]⟩, inB c.queue 0 200), (⟨#[116, 105, 109, 101, 111, 117, 116]⟩, inB c.timeout 1 10000), (⟨#[114, 101, 97, 100, 121]⟩, inB c.ready 0 100), (⟨#[115, 117, 98, 115, 101, 116]⟩, inB c.subset 0 100), (⟨#[115, 97, 109, 112, 108, 101]⟩, inB c.sample 0 100)]
def wrL (c : Cf20) : List (ByteArray × Bool) := wrB c (c.max == 0) (c.burst == -1000)
def wrongF : List (ByteArray × Bool) → ByteArray
  | [] => ⟨#[]⟩
  | (s, b) :: r => if b = true then wrongF r else s
def rowW (l : List (ByteArray × Bool)) : List Value := l.flatMap fun p => [.string p.1, .bool p.2]
theorem rowW_drop : ∀ (l : List (ByteArray × Bool)) (i : Nat), (rowW l).drop (i * 2) = rowW (l.drop i)
  | l, 0 => by simp
  | [], i + 1 => by simp [rowW]
  | p :: l, i + 1 => by rw [show (i + 1) * 2 = i * 2 + 1 + 1 by omega]; simp only [rowW, List.flatMap_cons, List.cons_append, List.nil_append, List.drop_succ_cons]; exact rowW_drop l i
theorem rowW_len : ∀ l, (rowW l).length = l.length * 2
  | [] => rfl
  | p :: l => by have := rowW_len l; simp only [rowW, List.flatMap_cons, List.length_append, List.length_cons, List.length_nil] at this ⊢; omega
theorem rowW_rd {h : Hp} {j : Nat} {l : List (ByteArray × Bool)} {b : Bool} {e : Nat} (hg : h.get j = some ⟨rowW l, b, e⟩) {i : Nat} {p : ByteArray × Bool} (hi : l[i]? = some p) : h.rd j (0 + ((i : Nat) : Int).toNat * 2) 2 = some [.string p.1, .bool p.2] := by
  obtain ⟨hl, rfl⟩ := List.getElem?_eq_some_iff.1 hi
  have hn := rowW_len l
  unfold Hp.rd
  simp only [hg, Nat.zero_add, Int.toNat_natCast]
  rw [if_pos (by omega), rowW_drop, List.drop_eq_getElem_cons hl]
  rfl
set_option maxHeartbeats 4000000 in
set_option maxRecDepth 10000 in
theorem wrong_ok (h : Hp) (c : Cf20) : ACall PX 50 [.agg ⟨cs20 c⟩] h (fun v g => v = .string (wrongF (wrL c)) ∧ Ext h g) := by
  refine acall Go.Proofs.Tryd.func50 c50 (by simp [ir50]) ?_
  unfold ir50
  dsimp only
  refine ai_seq ?_
  repeat (first | refine sS ?_ | refine sE ?_ | refine w_mv rfl ?_ | (refine is_okk rfl ?_; refine w_op rfl ?_) | refine ai_regW ?_)
  refine ai_seq ?_
  repeat (first | refine sS ?_ | refine sE ?_ | refine w_mv rfl ?_ | refine ai_regW ?_)
  refine ai_join (γ := Unit) (fun _ => [(1, ptr h.nx), (3, nI (if c.max = 0 then 100 else c.max))]) (fun _ g => g = h.new ⟨cs20 c, true, 0⟩) ?_ ?_
  · refine ai_seq ?_
    repeat (first | refine sS ?_ | (refine is_okk rfl ?_; refine w_op rfl ?_) | (refine is_ld ?_; refine w_ld rfl (by first | exact rd_g ‹_› rfl | exact rd_new rfl | assumption) ?_) | refine ai_regW ?_)
    by_cases h0 : c.max = 0
    · rw [if_pos h0]
      repeat (first | refine sE ?_ | (refine w_cmp (c2 := false) rfl ?_ ?_; focus (first | exact decide_eq_false (by omega) | (simp; done) | (simp; omega))) | refine ai_condF (b := false) rfl (fun hb => by cases hb) (fun _ => ?_) | refine ai_skip ?_)
      exact ⟨rfl, (), (by repeat (first | exact le_nil | refine le_consF rfl ?_)), rfl⟩
    · rw [if_neg h0]
      repeat (first | refine sS ?_ | refine sE ?_ | refine w_mv rfl ?_ | (refine is_okk rfl ?_; refine w_op rfl ?_) | (refine is_ld ?_; refine w_ld rfl (by first | exact rd_g ‹_› rfl | exact rd_new rfl | assumption) ?_) | (refine w_cmp (c2 := true) rfl ?_ ?_; focus (first | exact decide_eq_true (by omega) | (simp; done) | (simp; omega))) | refine ai_regW ?_ | refine ai_condF (b := true) rfl (fun _ => ?_) (fun hb => by cases hb))
      exact ⟨rfl, (), (by repeat (first | exact le_nil | refine le_consF rfl ?_)), rfl⟩
  rintro _ _ rfl
  refine ai_seq (ai_seq (ai_drwW (by kernel_rfl) ?_))
  repeat (first | refine dS ?_ | (refine is_okk rfl ?_; refine w_op rfl ?_) | (refine is_ld ?_; refine w_ld rfl (by first | exact rd_g ‹_› rfl | exact rd_new rfl | assumption) ?_))
  refine w_op rfl ?_
  generalize hb1 : (c.max == 0) = b1
  repeat (first | refine dS ?_ | refine w_mv rfl ?_ | (refine is_okk rfl ?_; refine w_op rfl ?_) | (refine is_ld ?_; refine w_ld rfl (by first | exact rd_g ‹_› rfl | exact rd_new rfl | assumption) ?_))
  refine w_op rfl ?_
  generalize hb2 : (c.burst == -1000) = b2
  repeat (first | refine dS ?_ | refine dSR ?_ | (refine agS ?_ ?_; focus (repeat (first | exact ag_nil | refine ag_cons (by first | exact ag_gF rfl rfl | exact ag_l rfl rfl (by first | exact rd_g ‹_› rfl | exact rd_new rfl | assumption) | exact ag_gT rfl rfl (ag_l rfl rfl (by first | exact rd_g ‹_› rfl | exact rd_new rfl | assumption)) | exact ag_ln rfl rfl (by first | exact rd_all ‹_› rfl | exact rd_newn rfl | assumption) | exact ag_gT rfl rfl (ag_ln rfl rfl (by first | exact rd_all ‹_› rfl | exact rd_newn rfl | assumption))) ?_))) | refine w_mv rfl ?_ | refine w_bldF rfl rfl rfl rfl rfl ?_ | (refine is_okk rfl ?_; refine w_op rfl ?_) | (refine is_ld ?_; refine w_ld rfl (by first | exact rd_g ‹_› rfl | exact rd_new rfl | assumption) ?_) | (refine w_call rfl ((within_l _ _ _ _).mono ?_); rintro _ _ ⟨rfl, rfl⟩) | (refine w_call rfl ((within_i _ _ _ _).mono ?_); rintro _ _ ⟨rfl, rfl⟩))
  repeat (first | refine dS ?_ | refine dSR ?_ | refine w_gB rfl (by intro hc; simp at hc; subst hc; first | rfl | exact o_ldF rfl (rd_new rfl)) ?_)
  refine w_gBc rfl (fun _ _ hr c => c.mono hr) (by intro hc; simp at hc; subst hc; rfl) (within_i _ _ _ _) ?_
  refine agS (by repeat (first | exact ag_nil | refine ag_cons (by first | exact ag_gF rfl rfl | exact ag_l rfl rfl (by first | exact rd_g ‹_› rfl | exact rd_new rfl | assumption) | exact ag_gT rfl rfl (ag_l rfl rfl (by first | exact rd_g ‹_› rfl | exact rd_new rfl | assumption)) | exact ag_ln rfl rfl (by first | exact rd_all ‹_› rfl | exact rd_newn rfl | assumption) | exact ag_gT rfl rfl (ag_ln rfl rfl (by first | exact rd_all ‹_› rfl | exact rd_newn rfl | assumption))) ?_)) ?_
  refine dS (w_v rfl (v2 := .bool (b1 || inB c.max (if 1 > c.min then 1 else c.min) 100)) (by cases b1 <;> rfl) ?_)
  repeat (first | refine dS ?_ | refine dSR ?_ | (refine agS ?_ ?_; focus (repeat (first | exact ag_nil | refine ag_cons (by first | exact ag_gF rfl rfl | exact ag_l rfl rfl (by first | exact rd_g ‹_› rfl | exact rd_new rfl | assumption) | exact ag_gT rfl rfl (ag_l rfl rfl (by first | exact rd_g ‹_› rfl | exact rd_new rfl | assumption)) | exact ag_ln rfl rfl (by first | exact rd_all ‹_› rfl | exact rd_newn rfl | assumption) | exact ag_gT rfl rfl (ag_ln rfl rfl (by first | exact rd_all ‹_› rfl | exact rd_newn rfl | assumption))) ?_))) | refine w_mv rfl ?_ | refine w_bldF rfl rfl rfl rfl rfl ?_ | (refine w_call rfl ((within_i _ _ _ _).mono ?_); rintro _ _ ⟨rfl, rfl⟩))
  repeat (first | refine dS ?_ | refine dSR ?_ | refine w_gB rfl (by intro hc; simp at hc; subst hc; first | rfl | exact o_ldF rfl (rd_new rfl)) ?_)
  refine w_gBc rfl (fun _ _ hr c => c.mono hr) (by intro hc; simp at hc; subst hc; rfl) (within_l _ _ _ _) ?_
  refine agS (by repeat (first | exact ag_nil | refine ag_cons (by first | exact ag_gF rfl rfl | exact ag_l rfl rfl (by first | exact rd_g ‹_› rfl | exact rd_new rfl | assumption) | exact ag_gT rfl rfl (ag_l rfl rfl (by first | exact rd_g ‹_› rfl | exact rd_new rfl | assumption)) | exact ag_ln rfl rfl (by first | exact rd_all ‹_› rfl | exact rd_newn rfl | assumption) | exact ag_gT rfl rfl (ag_ln rfl rfl (by first | exact rd_all ‹_› rfl | exact rd_newn rfl | assumption))) ?_)) ?_
  refine dS (w_v rfl (v2 := .bool (b2 || inB c.burst 0 100000000)) (by cases b2 <;> rfl) ?_)
  repeat (first | refine dS ?_ | refine dSR ?_ | (refine agS ?_ ?_; focus (repeat (first | exact ag_nil | refine ag_cons (by first | exact ag_gF rfl rfl | exact ag_l rfl rfl (by first | exact rd_g ‹_› rfl | exact rd_new rfl | assumption) | exact ag_gT rfl rfl (ag_l rfl rfl (by first | exact rd_g ‹_› rfl | exact rd_new rfl | assumption)) | exact ag_ln rfl rfl (by first | exact rd_all ‹_› rfl | exact rd_newn rfl | assumption) | exact ag_gT rfl rfl (ag_ln rfl rfl (by first | exact rd_all ‹_› rfl | exact rd_newn rfl | assumption))) ?_))) | refine w_bldF rfl rfl rfl rfl rfl ?_ | (refine w_call rfl ((within_i _ _ _ _).mono ?_); rintro _ _ ⟨rfl, rfl⟩))
  refine w_bslF rfl rfl rfl rfl rfl ?_
  intro g xg hg hng
  have hg2 : g.get (h.nx + 1) = some ⟨rowW (wrB c b1 b2), true, 2⟩ := hg
  have hw : wrB c b1 b2 = wrL c := by subst hb1 hb2; rfl
  rw [hw] at hg2
  have hng2 : h.nx + 1 < g.nx := hng
  have hl20 : (wrL c).length = 20 := rfl
  have x0 : Ext h g := (Ext.new _ _).trans xg
  clear hg xg hw
  generalize wrL c = l at hg2 hl20 ⊢
  repeat (first | refine dS ?_ | refine dE ?_ | (refine is_okk rfl ?_; refine w_op rfl ?_) | refine ai_block ?_)
  refine ai_loopE (γ := Nat) (fun i => [(129, .slice (some ⟨h.nx + 1, 0, none⟩) 20 20), (130, nI 20), (131, nI i)]) (fun i g' => Ext g g' ∧ i ≤ 20 ∧ wrongF (l.drop i) = wrongF l) (fun i => 20 - i) 0
    (by repeat (first | exact le_nil | refine le_consF rfl ?_)) ⟨Ext.refl _, Nat.zero_le _, rfl⟩ ?_
  rintro i g1 ⟨x1, hi, hwr⟩
  by_cases hi20 : i < 20
  · obtain ⟨p, hp⟩ : ∃ p, l[i]? = some p := ⟨_, List.getElem?_eq_getElem (by omega)⟩
    have hp2 : l.drop i = p :: l.drop (i + 1) := by
      obtain ⟨h1, rfl⟩ := List.getElem?_eq_some_iff.1 hp
      exact List.drop_eq_getElem_cons h1
    rw [hp2] at hwr
    have hrd := rowW_rd ((x1.2 (h.nx + 1) hng2).trans hg2) hp
    refine ai_seq ?_
    repeat (first | refine sS ?_ | refine sE ?_ | (refine w_cmp (c2 := true) rfl ?_ ?_; focus (first | exact decide_eq_true (by omega) | (simp; done) | (simp; omega))) | refine ai_regW ?_)
    refine ai_seq ?_
    repeat (first | refine ai_condF (b := true) rfl (fun _ => ?_) (fun hb => by cases hb) | refine ai_skip ?_)
    refine ai_seq ?_
    repeat (first | refine ai_block ?_)
    refine ai_seq ?_
    refine ai_regW (sS (w_iad rfl (by omega) (sS (w_ldn rfl hrd (sS (w_new ?_))))))
    intro g2 x2 k2 n2
    refine sSn (w_stN rfl rfl k2 rfl rfl fun g3 m3 k3 n3 => sE ?_)
    have x3 := x1.trans (x2.own m3 n3)
    obtain ⟨s, b⟩ := p
    dsimp only [wrongF] at hwr k3
    cases b
    · rw [if_neg (by decide)] at hwr
      repeat (first | refine sS ?_ | refine sE ?_ | refine w_mv rfl ?_ | (refine is_okk rfl ?_; refine w_op rfl ?_) | (refine is_ld ?_; refine w_ld rfl (by first | exact rd_g ‹_› rfl | exact rd_new rfl | assumption) ?_) | refine ai_seq ?_ | refine ai_regW ?_ | refine ai_condF (b := true) rfl (fun _ => ?_) (fun hb => by cases hb) | (refine ai_ret ?_; repeat (first | rw [thenQ_r] | rw [blockQ_r] | rw [roundE_r])))
      exact end_one rfl ⟨by rw [hwr], x0.trans x3⟩
    · rw [if_pos rfl] at hwr
      repeat (first | refine sS ?_ | refine sE ?_ | refine w_mv rfl ?_ | (refine is_okk rfl ?_; refine w_op rfl ?_) | (refine is_ld ?_; refine w_ld rfl (by first | exact rd_g ‹_› rfl | exact rd_new rfl | assumption) ?_) | (refine w_add rfl ?_ ?_; (focus omega)) | refine ai_seq ?_ | refine ai_regW ?_ | refine ai_condF (b := false) rfl (fun hb => by cases hb) (fun _ => ?_) | refine ai_skip ?_)
      exact ⟨i + 1, (by repeat (first | exact le_nil | refine le_consF rfl ?_)), ⟨x3, by omega, hwr⟩, by dsimp only; omega⟩
  · have e20 : i = l.length := by omega
    rw [e20, List.drop_length] at hwr
    repeat (first | refine sS ?_ | refine sE ?_ | refine w_mv rfl ?_ | (refine w_cmp (c2 := false) rfl ?_ ?_; focus (first | exact decide_eq_false (by omega) | (simp; done) | (simp; omega))) | refine ai_seq ?_ | refine ai_regW ?_ | refine ai_condF (b := false) rfl (fun hb => by cases hb) (fun _ => ?_) | refine ai_exit ?_ | (refine ai_ret ?_; repeat (first | rw [thenQ_r] | rw [blockQ_r] | rw [roundE_r])))
    exact end_one rfl ⟨by rw [← hwr]; rfl, x0.trans x1⟩
/-- May the settings be? -/
def mayB (c : Cf20) : Bool := (wrL c).all fun p => p.2
theorem wrong_empty : ∀ (l : List (ByteArray × Bool)), (l.all fun p => decide (p.1.size ≠ 0)) = true → ((wrongF l).toList == (⟨#[]⟩ : ByteArray).toList) = l.all fun p => p.2
  | [], _ => by simp [wrongF]
  | (s, b) :: l, h => by
    simp only [List.all_cons, Bool.and_eq_true, decide_eq_true_eq] at h
    cases b
    · simp only [wrongF, Bool.false_eq_true, if_false, List.all_cons, Bool.false_and]
      rw [beq_eq_false_iff_ne, ByteArray.toList_eq, ByteArray.toList_eq]
      intro e
      have e2 : s.data.toList.length = 0 := by rw [e]; rfl
      exact h.1 (by show s.data.size = 0; simpa using e2)
    · simp only [wrongF, if_true, List.all_cons, Bool.true_and]
      exact wrong_empty l h.2
theorem wrL_names (c : Cf20) : ((wrL c).all fun p => decide (p.1.size ≠ 0)) = true := by kernel_rfl
theorem may_ok (h : Hp) (c : Cf20) : ACall PX 27 [.agg ⟨cs20 c⟩] h (fun v g => v = .bool (mayB c) ∧ Ext h g) := by
  refine acall Go.Proofs.Tryd.func27 c27 (by simp [ir27]) ?_
  unfold ir27
  dsimp only
  refine ai_seq (ai_regW (sS (w_box rfl fun g1 x1 k1 n1 => ?_)))
  repeat (first | refine sS ?_ | refine sE ?_ | refine w_mv rfl ?_ | (refine is_ldn ?_; refine w_ldn rfl (by first | exact rd_all ‹_› rfl | exact rd_newn rfl | assumption) ?_) | refine ai_seq ?_ | refine ai_regW ?_)
  refine w_call rfl ((wrong_ok _ c).mono ?_)
  rintro v g2 ⟨rfl, x2⟩
  repeat (first | refine sS ?_)
  refine w_cmp (c2 := mayB c) rfl (wrong_empty _ (wrL_names c)) ?_
  repeat (first | refine sS ?_ | refine sE ?_ | refine w_mv rfl ?_ | (refine ai_ret ?_; repeat (first | rw [thenQ_r] | rw [blockQ_r] | rw [roundE_r])))
  exact end_one rfl ⟨rfl, x1.trans x2⟩
end Go.Proofs.YtapbmmlgmcmpnaaDoorW.Am
/- The document's own settings: names, values, which are in thousandths, which may be. -/
namespace Go.Proofs.YtapbmmlgmcmpnaaDoorW.Am
open Go Go.RowKit
theorem in_ok (h : Hp) (n lo hi : Int) : ACall PX 56 [nI n, nI lo, nI hi] h (fun v g => v = .bool (inB n lo hi) ∧ h = g) := by
  unfold inB
  refine acall Go.Proofs.Tryd.func56 c56 (by simp [ir56]) ?_
  unfold ir56
  dsimp only
  by_cases h1 : lo ≤ n
  · rw [decide_eq_true h1, Bool.true_and]
    by_cases h2 : n ≤ hi
    · rw [decide_eq_true h2]
      repeat (first | refine sS ?_ | refine sE ?_ | refine w_mv rfl ?_ | refine w_pickT rfl ?_ | refine w_gT rfl rfl ?_ | (refine w_cmp (c2 := true) rfl ?_ ?_; focus (first | exact decide_eq_true (by omega) | (simp; done) | (simp; omega))) | refine ai_seq ?_ | refine ai_regW ?_ | (refine ai_ret ?_; repeat (first | rw [thenQ_r] | rw [blockQ_r] | rw [roundE_r])))
      exact end_one rfl ⟨rfl, rfl⟩
    · rw [decide_eq_false h2]
      repeat (first | refine sS ?_ | refine sE ?_ | refine w_mv rfl ?_ | refine w_pickT rfl ?_ | refine w_gT rfl rfl ?_ | (refine w_cmp (c2 := true) rfl ?_ ?_; focus (first | exact decide_eq_true (by omega) | (simp; done) | (simp; omega))) | (refine w_cmp (c2 := false) rfl ?_ ?_; focus (first | exact decide_eq_false (by omega) | (simp; done) | (simp; omega))) | refine ai_seq ?_ | refine ai_regW ?_ | (refine ai_ret ?_; repeat (first | rw [thenQ_r] | rw [blockQ_r] | rw [roundE_r])))
      exact end_one rfl ⟨rfl, rfl⟩
  · rw [decide_eq_false h1, Bool.false_and]
    repeat (first | refine sS ?_ | refine sE ?_ | refine w_mv rfl ?_ | refine w_pickF rfl ?_ | refine w_gF rfl rfl ?_ | (refine w_cmp (c2 := false) rfl ?_ ?_; focus (first | exact decide_eq_false (by omega) | (simp; done) | (simp; omega))) | refine ai_seq ?_ | refine ai_regW ?_ | (refine ai_ret ?_; repeat (first | rw [thenQ_r] | rw [blockQ_r] | rw [roundE_r])))
    exact end_one rfl ⟨rfl, rfl⟩
/-- The names of the parts. -/
def nmB : List (List UInt8) := [[116, 97, 114, 103, 101, 116], [117, 116, 105, 108], [115, 116, 97, 98, 108, 101], [112, 97, 110, 105, 99], [103, 114, 97, 105, 110], [116, 104, 114, 101, 115, 104, 111, 108, 100], [117, 112], [100, 111, 119, 110], [109, 105, 110], [109, 97, 120], [105, 110, 105, 116, 105, 97, 108], [103, 114, 97, 99, 101], [100, 101, 108, 97, 121], [98, 117, 114, 115, 116], [108, 105, 109, 105, 116], [113, 117, 101, 117, 101], [116, 105, 109, 101, 111, 117, 116], [114, 101, 97, 100, 121], [115, 117, 98, 115, 101, 116], [115, 97, 109, 112, 108, 101]]
def bsV (l : List UInt8) : Value := .string ⟨l.toArray⟩
theorem names_ok (h : Hp) : ACall PX 21 [] h (fun v g => v = .slice (some ⟨h.nx, 0, none⟩) 20 20 ∧ Ext h g ∧ g.get h.nx = some ⟨nmB.map bsV, true, 1⟩ ∧ h.nx < g.nx) := by
  refine acall Go.Proofs.Tryd.func21 c21 (by simp [ir21]) ?_
  unfold ir21
  dsimp only
  repeat (first | refine sS ?_ | refine sE ?_ | refine w_mv rfl ?_ | refine ai_seq ?_ | refine ai_regW ?_)
  refine w_bslF rfl rfl rfl rfl rfl ?_
  intro g xg hg hng
  repeat (first | refine sS ?_ | refine sE ?_ | refine w_mv rfl ?_ | (refine ai_ret ?_; repeat (first | rw [thenQ_r] | rw [blockQ_r] | rw [roundE_r])))
  exact end_one rfl ⟨rfl, xg, hg, hng⟩
theorem values_ok (h : Hp) (c : Cf20) : ACall PX 31 [.agg ⟨cs20 c⟩] h (fun v g => v = .slice (some ⟨h.nx + 1, 0, none⟩) 20 20 ∧ Ext h g ∧ g.get (h.nx + 1) = some ⟨cs20 c, true, 1⟩ ∧ h.nx + 1 < g.nx) := by
  refine acall Go.Proofs.Tryd.func31 c31 (by simp [ir31]) ?_
  unfold ir31
  dsimp only
  repeat (first | refine sS ?_ | refine sE ?_ | refine w_mv rfl ?_ | (refine is_okk rfl ?_; refine w_op rfl ?_) | (refine is_ld ?_; refine w_ld rfl (by first | exact rd_g ‹_› rfl | exact rd_new rfl | assumption) ?_) | refine ai_seq ?_ | refine ai_regW ?_)
  refine w_bslF rfl rfl rfl rfl rfl ?_
  intro g xg hg hng
  repeat (first | refine sS ?_ | refine sE ?_ | refine w_mv rfl ?_ | (refine ai_ret ?_; repeat (first | rw [thenQ_r] | rw [blockQ_r] | rw [roundE_r])))
  exact end_one rfl ⟨rfl, (Ext.new _ _).trans xg, hg, hng⟩
set_option maxRecDepth 10000 in
theorem made_ok (h : Hp) (c : Cf20) {i n e : Nat} {b : Bool} (hg : h.get i = some ⟨cs20 c, b, e⟩) (hi : i < h.nx) : ACall PX 33 [.slice (some ⟨i, 0, none⟩) 20 n] h (fun v g => v = .agg ⟨cs20 c⟩ ∧ Ext h g) := by
  refine acall Go.Proofs.Tryd.func33 c33 (by simp [ir33]) ?_
  unfold ir33
  dsimp only
  refine ai_seq (ai_regW (sS (w_new fun g x k n => sE ?_)))
  have k2 := (x.2 i hi).trans hg
  refine ai_seq ?_
  repeat (first | refine dS ?_ | refine dSn ?_ | refine w_mv rfl ?_ | refine w_bldF rfl rfl rfl rfl rfl ?_ | (refine is_ld ?_; refine w_ld rfl (by first | exact rd_g ‹_› rfl | exact rd_new rfl | assumption) ?_) | (refine w_iad rfl ?_ ?_; focus (first | omega | (simp; done) | (simp; omega))) | refine ai_drwW (by kernel_rfl) ?_)
  refine w_stN rfl rfl k rfl rfl fun g3 m3 k3 n3 => ?_
  repeat (first | refine dE ?_ | (refine ai_ret ?_; repeat (first | rw [thenQ_r] | rw [blockQ_r] | rw [roundE_r])))
  exact end_cell1 rfl k3 Go.Proofs.Tryd.underlying24 rfl (by kernel_rfl) rfl ⟨rfl, x.own m3 n3⟩
/-- Which parts are told in thousandths. -/
def thinK (k : Nat) : Bool := [0, 1, 5, 6, 7, 13].contains k
theorem thin_ok (h : Hp) (k : Nat) : ACall PX 37 [nI k] h (fun v g => v = .bool (thinK k) ∧ h = g) := by
  refine acall Go.Proofs.Tryd.func37 c37 (by simp [ir37]) ?_
  unfold ir37
  dsimp only
  by_cases h0 : k = 0
  · subst h0
    repeat (first | refine sS ?_ | refine sE ?_ | refine w_mv rfl ?_ | refine w_pickT rfl ?_ | refine w_gF rfl rfl ?_ | (refine w_cmp (c2 := true) rfl ?_ ?_; focus (first | exact decide_eq_true (by omega) | (simp; done) | (simp; omega))) | refine ai_seq ?_ | refine ai_regW ?_ | (refine ai_ret ?_; repeat (first | rw [thenQ_r] | rw [blockQ_r] | rw [roundE_r])))
    exact end_one rfl ⟨rfl, rfl⟩
  by_cases h1 : k = 1
  · subst h1
    repeat (first | refine sS ?_ | refine sE ?_ | refine w_mv rfl ?_ | refine w_pickT rfl ?_ | refine w_pickF rfl ?_ | refine w_gT rfl rfl ?_ | refine w_gF rfl rfl ?_ | (refine w_cmp (c2 := true) rfl ?_ ?_; focus (first | exact decide_eq_true (by omega) | (simp; done) | (simp; omega))) | (refine w_cmp (c2 := false) rfl ?_ ?_; focus (first | exact decide_eq_false (by omega) | (simp; done) | (simp; omega))) | refine ai_seq ?_ | refine ai_regW ?_ | (refine ai_ret ?_; repeat (first | rw [thenQ_r] | rw [blockQ_r] | rw [roundE_r])))
    exact end_one rfl ⟨rfl, rfl⟩
  by_cases h5 : k = 5
  · subst h5
    repeat (first | refine sS ?_ | refine sE ?_ | refine w_mv rfl ?_ | refine w_pickT rfl ?_ | refine w_pickF rfl ?_ | refine w_gT rfl rfl ?_ | refine w_gF rfl rfl ?_ | (refine w_cmp (c2 := true) rfl ?_ ?_; focus (first | exact decide_eq_true (by omega) | (simp; done) | (simp; omega))) | (refine w_cmp (c2 := false) rfl ?_ ?_; focus (first | exact decide_eq_false (by omega) | (simp; done) | (simp; omega))) | refine ai_seq ?_ | refine ai_regW ?_ | (refine ai_ret ?_; repeat (first | rw [thenQ_r] | rw [blockQ_r] | rw [roundE_r])))
    exact end_one rfl ⟨rfl, rfl⟩
  by_cases h6 : k = 6
  · subst h6
    repeat (first | refine sS ?_ | refine sE ?_ | refine w_mv rfl ?_ | refine w_pickT rfl ?_ | refine w_pickF rfl ?_ | refine w_gT rfl rfl ?_ | refine w_gF rfl rfl ?_ | (refine w_cmp (c2 := true) rfl ?_ ?_; focus (first | exact decide_eq_true (by omega) | (simp; done) | (simp; omega))) | (refine w_cmp (c2 := false) rfl ?_ ?_; focus (first | exact decide_eq_false (by omega) | (simp; done) | (simp; omega))) | refine ai_seq ?_ | refine ai_regW ?_ | (refine ai_ret ?_; repeat (first | rw [thenQ_r] | rw [blockQ_r] | rw [roundE_r])))
    exact end_one rfl ⟨rfl, rfl⟩
  by_cases h7 : k = 7
  · subst h7
    repeat (first | refine sS ?_ | refine sE ?_ | refine w_mv rfl ?_ | refine w_pickT rfl ?_ | refine w_pickF rfl ?_ | refine w_gT rfl rfl ?_ | refine w_gF rfl rfl ?_ | (refine w_cmp (c2 := true) rfl ?_ ?_; focus (first | exact decide_eq_true (by omega) | (simp; done) | (simp; omega))) | (refine w_cmp (c2 := false) rfl ?_ ?_; focus (first | exact decide_eq_false (by omega) | (simp; done) | (simp; omega))) | refine ai_seq ?_ | refine ai_regW ?_ | (refine ai_ret ?_; repeat (first | rw [thenQ_r] | rw [blockQ_r] | rw [roundE_r])))
    exact end_one rfl ⟨rfl, rfl⟩
  by_cases h13 : k = 13
  · subst h13
    repeat (first | refine sS ?_ | refine sE ?_ | refine w_mv rfl ?_ | refine w_pickF rfl ?_ | refine w_gT rfl rfl ?_ | (refine w_cmp (c2 := true) rfl ?_ ?_; focus (first | exact decide_eq_true (by omega) | (simp; done) | (simp; omega))) | (refine w_cmp (c2 := false) rfl ?_ ?_; focus (first | exact decide_eq_false (by omega) | (simp; done) | (simp; omega))) | refine ai_seq ?_ | refine ai_regW ?_ | (refine ai_ret ?_; repeat (first | rw [thenQ_r] | rw [blockQ_r] | rw [roundE_r])))
    exact end_one rfl ⟨rfl, rfl⟩
  have ht : thinK k = false := by
    unfold thinK
    simp
    omega
  rw [ht]
  repeat (first | refine sS ?_ | refine sE ?_ | refine w_mv rfl ?_ | refine w_pickF rfl ?_ | refine w_gT rfl rfl ?_ | (refine w_cmp (c2 := false) rfl ?_ ?_; focus (first | exact decide_eq_false (by omega) | (simp; done) | (simp; omega))) | refine ai_seq ?_ | refine ai_regW ?_ | (refine ai_ret ?_; repeat (first | rw [thenQ_r] | rw [blockQ_r] | rw [roundE_r])))
  exact end_one rfl ⟨rfl, rfl⟩
/-- The document's own order of the parts, and whether each may be. -/
def wrR (c : Cf20) (b1 b2 : Bool) : List (ByteArray × Bool) := (nmB.map fun l => (⟨l.toArray⟩ : ByteArray)).zip [inB c.target 10 1000000, inB c.util 100 1000, inB c.stable 6 600, inB c.panic 1 c.stable, inB c.grain 1 c.panic, inB c.threshold 1100 10000, inB c.up 1001 1000000, inB c.down 1001 1000000, inB c.min 0 100, (b1 || inB c.max (if 1 > c.min then 1 else c.min) 100), inB c.initial 0 (if 0 < c.max then c.max else 100), inB c.grace 0 600, inB c.delay 0 600, (b2 || inB c.burst 0 100000000), inB c.limit 1 1000, inB c.queue 0 200, inB c.timeout 1 10000, inB c.ready 0 100, inB c.subset 0 100, inB c.sample 0 100]
set_option maxHeartbeats 4000000 in
set_option maxRecDepth 10000 in
theorem rwrong_ok (h : Hp) (c : Cf20) : ACall PX 40 [.agg ⟨cs20 c⟩] h (fun v g => v = .string (wrongF (wrR c (c.max == 0) (c.burst == -1000))) ∧ Ext h g) := by
  refine acall Go.Proofs.Tryd.func40 c40 (by simp [ir40]) ?_
  unfold ir40
  dsimp only
  refine ai_seq (ai_regW (sS (w_box rfl fun g1 x1 k1 n1 => ?_)))
  repeat (first | refine sS ?_ | refine sE ?_ | refine w_mv rfl ?_ | (refine is_ldn ?_; refine w_ldn rfl (by first | exact rd_all ‹_› rfl | exact rd_newn rfl | assumption) ?_) | refine ai_seq ?_ | refine ai_regW ?_)
  refine w_call rfl ((values_ok _ c).mono ?_)
  rintro v g2 ⟨rfl, x2, k2, n2⟩
  have k3 := (x2.2 _ n1).trans k1
  repeat (first | refine sS ?_ | refine sE ?_ | refine w_mv rfl ?_)
  refine ai_seq ?_
  repeat (first | refine sS ?_ | refine sE ?_ | refine w_mv rfl ?_ | refine ai_regW ?_)
  refine ai_join (γ := Unit) (fun _ => [(3, .slice (some ⟨g1.nx + 1, 0, none⟩) 20 20), (4, nI (if 0 < c.max then c.max else 100))]) (fun _ g => g = g2) ?_ ?_
  · refine ai_seq ?_
    repeat (first | refine sS ?_ | (refine is_okk rfl ?_; refine w_op rfl ?_) | (refine is_ld ?_; refine w_ld rfl (by first | exact rd_g ‹_› rfl | exact rd_new rfl | assumption) ?_) | refine ai_regW ?_)
    by_cases h0 : 0 < c.max
    · rw [if_pos h0]
      repeat (first | refine sS ?_ | refine sE ?_ | refine w_mv rfl ?_ | (refine is_okk rfl ?_; refine w_op rfl ?_) | (refine is_ld ?_; refine w_ld rfl (by first | exact rd_g ‹_› rfl | exact rd_new rfl | assumption) ?_) | (refine w_cmp (c2 := true) rfl ?_ ?_; focus (first | exact decide_eq_true (by omega) | (simp; done) | (simp; omega))) | refine ai_regW ?_ | refine ai_condF (b := true) rfl (fun _ => ?_) (fun hb => by cases hb))
      exact ⟨rfl, (), (by repeat (first | exact le_nil | refine le_consF rfl ?_)), rfl⟩
    · rw [if_neg h0]
      repeat (first | refine sE ?_ | (refine w_cmp (c2 := false) rfl ?_ ?_; focus (first | exact decide_eq_false (by omega) | (simp; done) | (simp; omega))) | refine ai_condF (b := false) rfl (fun hb => by cases hb) (fun _ => ?_) | refine ai_skip ?_)
      exact ⟨rfl, (), (by repeat (first | exact le_nil | refine le_consF rfl ?_)), rfl⟩
  rintro _ _ rfl
  have x12 := x1.trans x2
  refine ai_join (γ := Nat) (fun j => [(5, .slice (some ⟨j, 0, none⟩) 20 20)]) (fun j g' => Ext h g' ∧ j < g'.nx ∧ g'.get j = some ⟨(wrR c (c.max == 0) (c.burst == -1000)).map (fun p => .bool p.2), true, 1⟩) ?_ ?_
  · refine ai_drwW (by kernel_rfl) ?_
    repeat (first | refine dS ?_ | refine w_mv rfl ?_ | (refine is_ld ?_; refine w_ld rfl (by first | exact rd_g ‹_› rfl | exact rd_new rfl | assumption) ?_) | (refine w_iad rfl ?_ ?_; focus (first | omega | (simp; done) | (simp; omega))))
    refine w_op rfl ?_
    generalize (c.max == 0) = b1
    repeat (first | refine dS ?_ | refine w_mv rfl ?_ | (refine is_ld ?_; refine w_ld rfl (by first | exact rd_g ‹_› rfl | exact rd_new rfl | assumption) ?_) | (refine w_iad rfl ?_ ?_; focus (first | omega | (simp; done) | (simp; omega))))
    refine w_op rfl ?_
    generalize (c.burst == -1000) = b2
    repeat (first | refine dS ?_ | refine dSR ?_ | (refine agS ?_ ?_; focus (repeat (first | exact ag_nil | refine ag_cons (by first | exact ag_gF rfl rfl | exact ag_l rfl rfl (by first | exact rd_g ‹_› rfl | exact rd_new rfl | assumption) | exact ag_gT rfl rfl (ag_l rfl rfl (by first | exact rd_g ‹_› rfl | exact rd_new rfl | assumption)) | exact ag_ln rfl rfl (by first | exact rd_all ‹_› rfl | exact rd_newn rfl | assumption) | exact ag_gT rfl rfl (ag_ln rfl rfl (by first | exact rd_all ‹_› rfl | exact rd_newn rfl | assumption))) ?_))) | refine w_mv rfl ?_ | (refine is_ld ?_; refine w_ld rfl (by first | exact rd_g ‹_› rfl | exact rd_new rfl | assumption) ?_) | (refine w_iad rfl ?_ ?_; focus (first | omega | (simp; done) | (simp; omega))) | (refine w_call rfl ((in_ok _ _ _ _).mono ?_); rintro _ _ ⟨rfl, rfl⟩))
    repeat (first | refine dS ?_ | refine dSR ?_ | refine w_gB rfl (by intro hc; simp at hc; subst hc; first | rfl | exact o_ldF rfl (rd_g ‹_› rfl)) ?_)
    refine w_gBc rfl (fun _ _ hr c => c.mono hr) (by intro hc; simp at hc; subst hc; rfl) (in_ok _ _ _ _) ?_
    refine agS (by repeat (first | exact ag_nil | refine ag_cons (by first | exact ag_gF rfl rfl | exact ag_l rfl rfl (by first | exact rd_g ‹_› rfl | exact rd_new rfl | assumption) | exact ag_gT rfl rfl (ag_l rfl rfl (by first | exact rd_g ‹_› rfl | exact rd_new rfl | assumption)) | exact ag_ln rfl rfl (by first | exact rd_all ‹_› rfl | exact rd_newn rfl | assumption) | exact ag_gT rfl rfl (ag_ln rfl rfl (by first | exact rd_all ‹_› rfl | exact rd_newn rfl | assumption))) ?_)) ?_
    refine dS (w_v rfl (v2 := .bool (b1 || inB c.max (if 1 > c.min then 1 else c.min) 100)) (by cases b1 <;> rfl) ?_)
    repeat (first | refine dS ?_ | refine dSR ?_ | (refine agS ?_ ?_; focus (repeat (first | exact ag_nil | refine ag_cons (by first | exact ag_gF rfl rfl | exact ag_l rfl rfl (by first | exact rd_g ‹_› rfl | exact rd_new rfl | assumption) | exact ag_gT rfl rfl (ag_l rfl rfl (by first | exact rd_g ‹_› rfl | exact rd_new rfl | assumption)) | exact ag_ln rfl rfl (by first | exact rd_all ‹_› rfl | exact rd_newn rfl | assumption) | exact ag_gT rfl rfl (ag_ln rfl rfl (by first | exact rd_all ‹_› rfl | exact rd_newn rfl | assumption))) ?_))) | refine w_mv rfl ?_ | (refine w_call rfl ((in_ok _ _ _ _).mono ?_); rintro _ _ ⟨rfl, rfl⟩))
    repeat (first | refine dS ?_ | refine dSR ?_ | refine w_gB rfl (by intro hc; simp at hc; subst hc; first | rfl | exact o_ldF rfl (rd_g ‹_› rfl)) ?_)
    refine w_gBc rfl (fun _ _ hr c => c.mono hr) (by intro hc; simp at hc; subst hc; rfl) (in_ok _ _ _ _) ?_
    refine agS (by repeat (first | exact ag_nil | refine ag_cons (by first | exact ag_gF rfl rfl | exact ag_l rfl rfl (by first | exact rd_g ‹_› rfl | exact rd_new rfl | assumption) | exact ag_gT rfl rfl (ag_l rfl rfl (by first | exact rd_g ‹_› rfl | exact rd_new rfl | assumption)) | exact ag_ln rfl rfl (by first | exact rd_all ‹_› rfl | exact rd_newn rfl | assumption) | exact ag_gT rfl rfl (ag_ln rfl rfl (by first | exact rd_all ‹_› rfl | exact rd_newn rfl | assumption))) ?_)) ?_
    refine dS (w_v rfl (v2 := .bool (b2 || inB c.burst 0 100000000)) (by cases b2 <;> rfl) ?_)
    repeat (first | refine dS ?_ | refine dSR ?_ | (refine agS ?_ ?_; focus (repeat (first | exact ag_nil | refine ag_cons (by first | exact ag_gF rfl rfl | exact ag_l rfl rfl (by first | exact rd_g ‹_› rfl | exact rd_new rfl | assumption) | exact ag_gT rfl rfl (ag_l rfl rfl (by first | exact rd_g ‹_› rfl | exact rd_new rfl | assumption)) | exact ag_ln rfl rfl (by first | exact rd_all ‹_› rfl | exact rd_newn rfl | assumption) | exact ag_gT rfl rfl (ag_ln rfl rfl (by first | exact rd_all ‹_› rfl | exact rd_newn rfl | assumption))) ?_))) | (refine w_call rfl ((in_ok _ _ _ _).mono ?_); rintro _ _ ⟨rfl, rfl⟩))
    refine w_bslF rfl rfl rfl rfl rfl ?_
    intro g3 x3 k4 n4
    repeat (first | refine dS ?_ | refine dE ?_ | refine w_mv rfl ?_)
    exact ⟨rfl, _, (by repeat (first | exact le_nil | refine le_consF rfl ?_)), x12.trans x3, n4, k4⟩
  rintro j g3 ⟨x3, nj, kj⟩
  have hn : ((wrR c (c.max == 0) (c.burst == -1000)).map fun p => p.1) = nmB.map fun l => (⟨l.toArray⟩ : ByteArray) := rfl
  have hl20 : (wrR c (c.max == 0) (c.burst == -1000)).length = 20 := rfl
  generalize wrR c (c.max == 0) (c.burst == -1000) = l at kj hl20 hn ⊢
  repeat (first | refine sS ?_ | refine sE ?_ | refine w_mv rfl ?_ | refine ai_seq ?_ | refine ai_regW ?_ | refine ai_block ?_)
  refine ai_loopE (γ := Nat) (fun i => [(5, .slice (some ⟨j, 0, none⟩) 20 20), (6, nI i)]) (fun i g' => Ext g3 g' ∧ i ≤ 20 ∧ wrongF (l.drop i) = wrongF l) (fun i => 20 - i) 0
    (by repeat (first | exact le_nil | refine le_consF rfl ?_)) ⟨Ext.refl _, Nat.zero_le _, rfl⟩ ?_
  rintro i g4 ⟨x4, hi, hwr⟩
  by_cases hi20 : i < 20
  · obtain ⟨p, hp⟩ : ∃ p, l[i]? = some p := ⟨_, List.getElem?_eq_getElem (by omega)⟩
    have hp2 : l.drop i = p :: l.drop (i + 1) := by
      obtain ⟨h1, rfl⟩ := List.getElem?_eq_some_iff.1 hp
      exact List.drop_eq_getElem_cons h1
    rw [hp2] at hwr
    have hrd := rd_row ((x4.2 j nj).trans kj) (x := i) (v := .bool p.2) (by rw [List.getElem?_map, hp]; rfl)
    obtain ⟨s, b⟩ := p
    dsimp only [wrongF] at hwr
    cases b
    · rw [if_neg (by decide)] at hwr
      repeat (first | refine sS ?_ | refine sE ?_ | refine w_mv rfl ?_ | (refine is_okk rfl ?_; refine w_op rfl ?_) | (refine is_ld ?_; refine w_ld rfl (by first | exact rd_g ‹_› rfl | exact rd_new rfl | assumption) ?_) | (refine w_cmp (c2 := true) rfl ?_ ?_; focus (first | exact decide_eq_true (by omega) | (simp; done) | (simp; omega))) | (refine w_iad rfl ?_ ?_; focus (first | omega | (simp; done) | (simp; omega))) | refine ai_seq ?_ | refine ai_regW ?_ | refine ai_condF (b := true) rfl (fun _ => ?_) (fun hb => by cases hb) | refine ai_skip ?_ | refine ai_block ?_)
      refine w_call rfl ((names_ok _).mono ?_)
      rintro v g5 ⟨rfl, x5, k5, n5⟩
      have hs : (nmB.map bsV)[i]? = some (.string s) := by
        have h1 : (l.map fun p => p.1)[i]? = some s := by rw [List.getElem?_map, hp]; rfl
        rw [hn, List.getElem?_map] at h1
        rw [List.getElem?_map]
        cases hq : nmB[i]? with
        | none => rw [hq] at h1; cases h1
        | some q => rw [hq] at h1; exact congrArg some (congrArg Value.string (Option.some.inj h1))
      have hrd2 := rd_row k5 hs
      repeat (first | refine sS ?_ | refine sE ?_ | refine w_mv rfl ?_ | (refine is_ld ?_; refine w_ld rfl (by first | exact rd_g ‹_› rfl | exact rd_new rfl | assumption) ?_) | (refine w_iad rfl ?_ ?_; focus (first | omega | (simp; done) | (simp; omega))) | (refine ai_ret ?_; repeat (first | rw [thenQ_r] | rw [blockQ_r] | rw [roundE_r])))
      exact end_one rfl ⟨by rw [hwr], (x3.trans x4).trans x5⟩
    · rw [if_pos rfl] at hwr
      repeat (first | refine sS ?_ | refine sE ?_ | refine w_mv rfl ?_ | (refine is_okk rfl ?_; refine w_op rfl ?_) | (refine is_ld ?_; refine w_ld rfl (by first | exact rd_g ‹_› rfl | exact rd_new rfl | assumption) ?_) | (refine w_add rfl ?_ ?_; (focus omega)) | (refine w_cmp (c2 := true) rfl ?_ ?_; focus (first | exact decide_eq_true (by omega) | (simp; done) | (simp; omega))) | (refine w_iad rfl ?_ ?_; focus (first | omega | (simp; done) | (simp; omega))) | refine ai_seq ?_ | refine ai_regW ?_ | refine ai_condF (b := true) rfl (fun _ => ?_) (fun hb => by cases hb) | refine ai_condF (b := false) rfl (fun hb => by cases hb) (fun _ => ?_) | refine ai_skip ?_ | refine ai_block ?_)
      exact ⟨i + 1, (by repeat (first | exact le_nil | refine le_consF rfl ?_)), ⟨x4, by omega, hwr⟩, by dsimp only; omega⟩
  · have e20 : i = l.length := by omega
    rw [e20, List.drop_length] at hwr
    repeat (first | refine sS ?_ | refine sE ?_ | refine w_mv rfl ?_ | (refine is_okk rfl ?_; refine w_op rfl ?_) | (refine w_cmp (c2 := false) rfl ?_ ?_; focus (first | exact decide_eq_false (by omega) | (simp; done) | (simp; omega))) | refine ai_seq ?_ | refine ai_regW ?_ | refine ai_condF (b := false) rfl (fun hb => by cases hb) (fun _ => ?_) | refine ai_exit ?_ | (refine ai_ret ?_; repeat (first | rw [thenQ_r] | rw [blockQ_r] | rw [roundE_r])))
    exact end_one rfl ⟨by rw [← hwr]; rfl, x3.trans x4⟩
theorem all_snd : ∀ (l : List (ByteArray × Bool)), (l.all fun p => p.2) = (l.map fun p => p.2).all id
  | [] => rfl
  | p :: l => by rw [List.all_cons, List.map_cons, List.all_cons, all_snd l]; rfl
theorem wrR_may (c : Cf20) : ((wrR c (c.max == 0) (c.burst == -1000)).all fun p => p.2) = mayB c := by
  unfold mayB
  rw [all_snd, all_snd]
  show List.all [inB c.target 10 1000000, inB c.util 100 1000, inB c.stable 6 600, inB c.panic 1 c.stable, inB c.grain 1 c.panic, inB c.threshold 1100 10000, inB c.up 1001 1000000, inB c.down 1001 1000000, inB c.min 0 100, (c.max == 0 || inB c.max (if 1 > c.min then 1 else c.min) 100), inB c.initial 0 (if 0 < c.max then c.max else 100), inB c.grace 0 600, inB c.delay 0 600, (c.burst == -1000 || inB c.burst 0 100000000), inB c.limit 1 1000, inB c.queue 0 200, inB c.timeout 1 10000, inB c.ready 0 100, inB c.subset 0 100, inB c.sample 0 100] id
    = List.all [inB c.target 10 1000000, inB c.util 100 1000, inB c.stable 6 600, inB c.panic 1 c.stable, inB c.grain 1 c.panic, inB c.threshold 1100 10000, inB c.up 1001 1000000, inB c.down 1001 1000000, inB c.min 0 100, (c.max == 0 || inB c.max (if 1 > c.min then 1 else c.min) 100), inB c.initial 0 (if c.max = 0 then 100 else c.max), inB c.grace 0 600, inB c.delay 0 600, (c.burst == -1000 || inB c.burst 0 100000000), inB c.limit 1 1000, inB c.queue 0 200, inB c.timeout 1 10000, inB c.ready 0 100, inB c.subset 0 100, inB c.sample 0 100] id
  by_cases hm : (c.max == 0 || inB c.max (if 1 > c.min then 1 else c.min) 100) = true
  · have he : (if 0 < c.max then c.max else 100) = (if c.max = 0 then 100 else c.max) := by
      simp only [inB, Bool.or_eq_true, beq_iff_eq, Bool.and_eq_true, decide_eq_true_eq] at hm
      split <;> split <;> (try split at hm) <;> omega
    rw [he]
  · have hm2 : (c.max == 0 || inB c.max (if 1 > c.min then 1 else c.min) 100) = false := by simpa using hm
    rw [hm2]
    simp
theorem rmay_ok (h : Hp) (c : Cf20) : ACall PX 19 [.agg ⟨cs20 c⟩] h (fun v g => v = .bool (mayB c) ∧ Ext h g) := by
  refine acall Go.Proofs.Tryd.func19 c19 (by simp [ir19]) ?_
  unfold ir19
  dsimp only
  refine ai_seq (ai_regW (sS (w_box rfl fun g1 x1 k1 n1 => ?_)))
  repeat (first | refine sS ?_ | refine sE ?_ | refine w_mv rfl ?_ | (refine is_ldn ?_; refine w_ldn rfl (by first | exact rd_all ‹_› rfl | exact rd_newn rfl | assumption) ?_) | refine ai_seq ?_ | refine ai_regW ?_)
  refine w_call rfl ((rwrong_ok _ c).mono ?_)
  rintro v g2 ⟨rfl, x2⟩
  repeat (first | refine sS ?_)
  refine w_cmp (c2 := mayB c) rfl ((wrong_empty _ (by kernel_rfl)).trans (wrR_may c)) ?_
  repeat (first | refine sS ?_ | refine sE ?_ | refine w_mv rfl ?_ | (refine ai_ret ?_; repeat (first | rw [thenQ_r] | rw [blockQ_r] | rw [roundE_r])))
  exact end_one rfl ⟨rfl, x1.trans x2⟩
theorem default_ok (h : Hp) : ACall PX 9 [] h (fun v g => v = .agg ⟨[nI 10000, nI 700, nI 60, nI 6, nI 1, nI 2000, nI 10000, nI 2000, nI 0, nI 0, nI 1, nI 30, nI 0, nI 20000, nI 10, nI 100, nI 60, nI 3, nI 0, nI 0]⟩ ∧ Ext h g) := by
  refine acall Go.Proofs.Tryd.func9 c9 (by simp [ir9]) ?_
  unfold ir9
  dsimp only
  refine ai_seq (ai_regW (sS (w_new fun g x k n => sE ?_)))
  refine ai_seq ?_
  repeat (first | refine sS ?_ | refine ai_regW ?_)
  refine w_op rfl ?_
  repeat (first | refine sSn ?_)
  refine w_stN rfl rfl k rfl rfl fun g3 m3 k3 n3 => ?_
  repeat (first | refine sE ?_ | (refine ai_ret ?_; repeat (first | rw [thenQ_r] | rw [blockQ_r] | rw [roundE_r])))
  exact end_cell1 rfl k3 Go.Proofs.Tryd.underlying24 rfl (by kernel_rfl) rfl ⟨rfl, x.own m3 n3⟩
end Go.Proofs.YtapbmmlgmcmpnaaDoorW.Am
/- Texts: the parts of settings, and setting one. -/
namespace Go.Proofs.YtapbmmlgmcmpnaaDoorW.Am
open Go Go.RowKit
def ptT : Bool → TypeId
  | true => 71
  | false => 74
/-- The cells of the row of parts of the settings in an object. -/
def ptC (i : Nat) : List Value := (nmB.zipIdx).flatMap fun p => [bsV p.1, .iface (ptT (thinK p.2)) (.pointer (some ⟨i, p.2, none⟩))]
theorem parts_ok (h : Hp) (i : Nat) : ACall PX 25 [.pointer (some ⟨i, 0, none⟩)] h (fun v g => v = .slice (some ⟨h.nx, 0, none⟩) 20 20 ∧ Ext h g ∧ g.get h.nx = some ⟨ptC i, true, 2⟩ ∧ h.nx < g.nx) := by
  refine acall Go.Proofs.Tryd.func25 c25 (by simp [ir25]) ?_
  unfold ir25
  dsimp only
  repeat (first | refine sS ?_ | refine dS ?_ | refine sE ?_ | refine w_mv rfl ?_ | refine w_bldF rfl rfl rfl rfl rfl ?_ | (refine is_okk rfl ?_; refine w_op rfl ?_) | refine ai_seq ?_ | refine ai_regW ?_ | refine ai_drwW (by kernel_rfl) ?_)
  refine w_bslF rfl rfl rfl rfl rfl ?_
  intro g xg hg hng
  repeat (first | refine dS ?_ | refine dE ?_ | refine w_mv rfl ?_ | (refine ai_ret ?_; repeat (first | rw [thenQ_r] | rw [blockQ_r] | rw [roundE_r])))
  exact end_one rfl ⟨rfl, xg, hg, hng⟩
def setF (k : Nat) (l : List UInt8) : Option Int := if thinK k = true then numF l else (digF l 6).map fun n => (n : Int)
/-- Only one object turns. -/
def Md (i : Nat) (h g : Hp) : Prop := h.nx ≤ g.nx ∧ ∀ j, j < h.nx → j ≠ i → g.get j = h.get j
theorem Md.refl (i : Nat) (h : Hp) : Md i h h := ⟨Nat.le_refl _, fun _ _ _ => rfl⟩
theorem Md.trans {i : Nat} {a b c : Hp} (x : Md i a b) (y : Md i b c) : Md i a c := ⟨Nat.le_trans x.1 y.1, fun j hj hi => (y.2 j (Nat.lt_of_lt_of_le hj x.1) hi).trans (x.2 j hj hi)⟩
theorem Ext.md {i : Nat} {a b : Hp} (x : Ext a b) : Md i a b := ⟨x.1, fun j hj _ => x.2 j hj⟩
theorem Md.put {i : Nat} {a b c : Hp} (x : Md i a b) (m : ∀ k, k ≠ i → c.get k = b.get k) (n : c.nx = b.nx) : Md i a c := ⟨by rw [n]; exact x.1, fun j hj hi => (m j hi).trans (x.2 j hj hi)⟩
set_option maxHeartbeats 1000000 in
theorem set_ok (h : Hp) (nm l : List UInt8) (hl : l.length ≤ 1000000) {i k e : Nat} {us : List Value} (hg : h.get i = some ⟨us, true, e⟩) (hi : i < h.nx) (hk : k < us.length) :
    ACall PX 26 [.agg ⟨[bsV nm, .iface (ptT (thinK k)) (.pointer (some ⟨i, k, none⟩))]⟩, bs l] h (fun v g => v = .bool (setF k l).isSome ∧ Md i h g ∧ g.get i = some ⟨(match setF k l with | some n => us.set k (nI n) | none => us), true, e⟩) := by
  unfold setF
  refine acall Go.Proofs.Tryd.func26 c26 (by simp [ir26]) ?_
  unfold ir26
  dsimp only
  refine ai_seq (ai_regW (sS (w_box rfl fun g1 x1 k1 n1 => ?_)))
  have k2 := (x1.2 i hi).trans hg
  cases ht : thinK k
  · rw [ht] at k1
    simp only [Bool.false_eq_true, if_false]
    repeat (first | refine sS ?_ | refine sE ?_ | refine w_mv rfl ?_ | (refine is_okn rfl ?_; refine w_op rfl ?_) | refine w_ext rfl rfl ?_ | (refine is_ld ?_; refine w_ld rfl (by first | exact rd_g ‹_› rfl | exact rd_new rfl | assumption) ?_) | (refine w_call rfl ((digits_ok l 6 (by decide) hl _).mono ?_); rintro _ _ ⟨rfl, rfl⟩) | refine ai_seq ?_ | refine ai_regW ?_ | refine ai_condF (b := false) rfl (fun hb => by cases hb) (fun _ => ?_) | refine ai_skip ?_)
    cases hd : digF l 6 with
    | none =>
      repeat (first | refine sS ?_ | refine sE ?_ | refine w_mv rfl ?_ | refine ai_seq ?_ | refine ai_regW ?_ | refine ai_condF (b := false) rfl (fun hb => by cases hb) (fun _ => ?_) | refine ai_skip ?_ | (refine ai_ret ?_; repeat (first | rw [thenQ_r] | rw [blockQ_r] | rw [roundE_r])))
      exact end_one rfl ⟨rfl, x1.md, k2⟩
    | some n =>
      repeat (first | refine sS ?_ | refine sSn ?_ | refine w_mv rfl ?_ | (refine is_okn rfl ?_; refine w_op rfl ?_) | (refine is_ld ?_; refine w_ld rfl (by first | exact rd_g ‹_› rfl | exact rd_new rfl | assumption) ?_) | refine ai_regW ?_ | refine ai_condF (b := true) rfl (fun _ => ?_) (fun hb => by cases hb))
      refine w_st1 rfl rfl k2 hk rfl fun g2 m2 k3 n3 => ?_
      repeat (first | refine sS ?_ | refine sE ?_ | refine w_mv rfl ?_ | refine ai_seq ?_ | refine ai_regW ?_ | (refine ai_ret ?_; repeat (first | rw [thenQ_r] | rw [blockQ_r] | rw [roundE_r])))
      exact end_one rfl ⟨rfl, x1.md.put m2 n3, k3⟩
  · rw [ht] at k1
    simp only [if_true]
    repeat (first | refine sS ?_ | refine sE ?_ | refine w_mv rfl ?_ | (refine is_okn rfl ?_; refine w_op rfl ?_) | refine w_ext rfl rfl ?_ | (refine is_ld ?_; refine w_ld rfl (by first | exact rd_g ‹_› rfl | exact rd_new rfl | assumption) ?_) | (refine w_call rfl ((number_ok l hl _).mono ?_); rintro _ _ ⟨rfl, rfl⟩) | refine ai_seq ?_ | refine ai_regW ?_ | refine ai_condF (b := true) rfl (fun _ => ?_) (fun hb => by cases hb))
    cases hd : numF l with
    | none =>
      repeat (first | refine sS ?_ | refine sE ?_ | refine w_mv rfl ?_ | refine ai_seq ?_ | refine ai_regW ?_ | refine ai_condF (b := false) rfl (fun hb => by cases hb) (fun _ => ?_) | refine ai_skip ?_ | (refine ai_ret ?_; repeat (first | rw [thenQ_r] | rw [blockQ_r] | rw [roundE_r])))
      exact end_one rfl ⟨rfl, x1.md, k2⟩
    | some n =>
      repeat (first | refine sS ?_ | refine sSn ?_ | refine w_mv rfl ?_ | (refine is_okn rfl ?_; refine w_op rfl ?_) | refine ai_regW ?_ | refine ai_condF (b := true) rfl (fun _ => ?_) (fun hb => by cases hb))
      refine w_st1 rfl rfl k2 hk rfl fun g2 m2 k3 n3 => ?_
      repeat (first | refine sS ?_ | refine sE ?_ | refine w_mv rfl ?_ | refine ai_seq ?_ | refine ai_regW ?_ | (refine ai_ret ?_; repeat (first | rw [thenQ_r] | rw [blockQ_r] | rw [roundE_r])))
      exact end_one rfl ⟨rfl, x1.md.put m2 n3, k3⟩
end Go.Proofs.YtapbmmlgmcmpnaaDoorW.Am
/- Texts cut into lines, in plain words; which lines are settings; what settings a text is. -/
namespace Go.Proofs.YtapbmmlgmcmpnaaDoorW.Am
open Go
def consH (b : UInt8) : List (List UInt8) → List (List UInt8)
  | [] => [[b]]
  | a :: t => (b :: a) :: t
def linesL : List UInt8 → List (List UInt8)
  | [] => [[]]
  | b :: l => if b = 10 then [] :: linesL l else consH b (linesL l)
theorem splitK_ne {b c : UInt8} (l : List UInt8) (h : b ≠ c) (k : Nat) : Go.Lib.splitK [c] 0 k (b :: l) = consH b (Go.Lib.splitK [c] 0 k l) := by
  cases k with
  | zero => rfl
  | succ k =>
    have hp : ([c] : List UInt8).isPrefixOf (b :: l) = false := by simp [List.isPrefixOf, Ne.symm h]
    have hix : Go.Lib.index (b :: l) [c] = if Go.Lib.index l [c] == -1 then -1 else Go.Lib.index l [c] + 1 := by rw [Go.Lib.index, hp]; simp
    simp only [Go.Lib.splitK]
    by_cases hm : Go.Lib.index l [c] = -1
    · rw [if_pos (by rw [hix, if_pos (beq_iff_eq.2 hm)]; rfl), if_pos (beq_iff_eq.2 hm)]
      rfl
    · have hge := Go.Lib.index_ge l [c]
      obtain ⟨j, hj⟩ : ∃ j : Nat, Go.Lib.index l [c] = j := ⟨(Go.Lib.index l [c]).toNat, by omega⟩
      have hb : ¬ (Go.Lib.index l [c] == -1) = true := fun e => hm (beq_iff_eq.1 e)
      have hix2 : Go.Lib.index (b :: l) [c] = ((j + 1 : Nat) : Int) := by rw [hix, if_neg hb, hj]; omega
      rw [if_neg (by rw [hix2]; intro e; have := beq_iff_eq.1 e; omega), if_neg hb, hix2, hj]
      simp [consH]
theorem splitK_eq (c : UInt8) (l : List UInt8) (k : Nat) : Go.Lib.splitK [c] 0 (k + 1) (c :: l) = [] :: Go.Lib.splitK [c] 0 k l := by
  have hix : Go.Lib.index (c :: l) [c] = ((0 : Nat) : Int) := by rw [Go.Lib.index]; simp [List.isPrefixOf]
  simp only [Go.Lib.splitK]
  rw [if_neg (by rw [hix]; decide), hix]
  simp
theorem lines_split : ∀ l : List UInt8, Go.Lib.splitK [10] 0 (l.count 10) l = linesL l
  | [] => rfl
  | b :: l => by
    by_cases h : b = 10
    · subst h
      rw [List.count_cons_self, splitK_eq, lines_split l]
      rfl
    · rw [List.count_cons_of_ne (by simpa using h), splitK_ne l h, lines_split l]
      simp [linesL, h]
theorem countB_10 (l : List UInt8) : Go.Lib.countB ⟨l.toArray⟩ ⟨#[10]⟩ = l.count 10 := Go.Lib.count_one 10 l
theorem splitB_lines (l : List UInt8) : (Go.Lib.splitB ⟨#[10]⟩ 0 (Go.Lib.countB ⟨l.toArray⟩ ⟨#[10]⟩) ⟨l.toArray⟩).map Value.string = (linesL l).map bsV := by
  have h1 := Go.Lib.splitB_data ⟨#[10]⟩ 0 (Go.Lib.countB ⟨l.toArray⟩ ⟨#[10]⟩) ⟨l.toArray⟩
  have h2 : ((Go.Lib.splitB ⟨#[10]⟩ 0 (Go.Lib.countB ⟨l.toArray⟩ ⟨#[10]⟩) ⟨l.toArray⟩).map (·.data.toList)).map bsV = (Go.Lib.splitB ⟨#[10]⟩ 0 (Go.Lib.countB ⟨l.toArray⟩ ⟨#[10]⟩) ⟨l.toArray⟩).map Value.string := by
    rw [List.map_map]
    rfl
  rw [← h2, h1, countB_10]
  exact congrArg (List.map bsV) (lines_split l)
theorem lines_len (l : List UInt8) : (linesL l).length = Go.Lib.countB ⟨l.toArray⟩ ⟨#[10]⟩ + 1 := by
  have := congrArg List.length (splitB_lines l)
  rw [List.length_map, List.length_map, Go.Lib.splitB_all ⟨#[10]⟩ (Nat.le_refl _) 0 _ _ rfl] at this
  exact this.symm
theorem consH_mem {b : UInt8} {L : List (List UInt8)} {n : Nat} (h : ∀ a ∈ L, a.length ≤ n) : ∀ a ∈ consH b L, a.length ≤ n + 1 := by
  intro a ha
  cases L with
  | nil => simp [consH] at ha; subst ha; simp
  | cons x t =>
    simp [consH] at ha
    rcases ha with rfl | ha
    · have := h x (by simp); simp; omega
    · have := h a (by simp [ha]); omega
theorem lines_short : ∀ (l : List UInt8), ∀ a ∈ linesL l, a.length ≤ l.length
  | [], a, h => by simp [linesL] at h; subst h; simp
  | b :: l, a, h => by
    by_cases hb : b = 10
    · simp [linesL, hb] at h
      rcases h with rfl | h
      · simp
      · have := lines_short l a h; simp; omega
    · simp only [linesL, if_neg hb] at h
      exact consH_mem (lines_short l) a h
def setF' (numF digF6 : List UInt8 → Option Int) (k : Nat) (l : List UInt8) : Option Int := if thinK k = true then numF l else digF6 l
/-- Which part has that name? -/
def findN (nm : List UInt8) : Option Nat := nmB.findIdx? (· == nm)
def blankB : List UInt8 → Bool
  | [] => true
  | b :: _ => b == 35
theorem findN_some {nm : List UInt8} {k : Nat} (h : findN nm = some k) : nmB[k]? = some nm := by
  unfold findN at h
  rw [List.findIdx?_eq_some_iff_getElem] at h
  obtain ⟨hk, h1, _⟩ := h
  rw [List.getElem?_eq_getElem hk]
  exact congrArg some (by simpa using h1)
theorem nm_inj {j k : Nat} {nm : List UInt8} (h1 : nmB[j]? = some nm) (h2 : nmB[k]? = some nm) : j = k := by
  have hj := (List.getElem?_eq_some_iff.1 h1).1
  have hk := (List.getElem?_eq_some_iff.1 h2).1
  have hn : nmB.Nodup := by decide
  have e1 := (List.getElem?_eq_some_iff.1 h1).2
  have e2 := (List.getElem?_eq_some_iff.1 h2).2
  exact (List.getElem_inj hn).1 (e1.trans e2.symm)
theorem findN_at {nm : List UInt8} {k : Nat} (h : nmB[k]? = some nm) : findN nm = some k := by
  cases hf : findN nm with
  | none =>
    unfold findN at hf
    rw [List.findIdx?_eq_none_iff] at hf
    have := hf nm (List.mem_of_getElem? h)
    simp at this
  | some j => rw [nm_inj (findN_some hf) h]
theorem findN_lt {nm : List UInt8} {k : Nat} (h : findN nm = some k) : k < 20 := (List.getElem?_eq_some_iff.1 (findN_some h)).1
section
variable (S : Nat → List UInt8 → Option Int)
/-- Which part a line sets, to what. -/
def lineF (l : List UInt8) : Option (Nat × Int) := (findN (Go.Lib.cut l [58, 32]).1).bind fun k => (S k (Go.Lib.cut l [58, 32]).2.1).map fun n => (k, n)
/-- Lines are read: the number of a wrong one, or the values. -/
def parseL : List (List UInt8) → Nat → List Int → List Nat → Except Nat (List Int)
  | [], _, v, _ => .ok v
  | l :: r, i, v, was => if blankB (Go.Lib.trimB l 32) = true then parseL r (i + 1) v was else match lineF S (Go.Lib.trimB l 32) with
    | none => .error (i + 1)
    | some (k, x) => if was.contains k = true then .error (i + 1) else parseL r (i + 1) (v.set k x) (was ++ [k])
end
def vl (c : Cf20) : List Int := [c.target, c.util, c.stable, c.panic, c.grain, c.threshold, c.up, c.down, c.min, c.max, c.initial, c.grace, c.delay, c.burst, c.limit, c.queue, c.timeout, c.ready, c.subset, c.sample]
theorem cs_vl (c : Cf20) : cs20 c = (vl c).map nI := rfl
theorem vl_of {l : List Int} (h : l.length = 20) : ∃ c, vl c = l := by
  match l, h with
  | [a0, a1, a2, a3, a4, a5, a6, a7, a8, a9, b0, b1, b2, b3, b4, b5, b6, b7, b8, b9], _ => exact ⟨⟨a0, a1, a2, a3, a4, a5, a6, a7, a8, a9, b0, b1, b2, b3, b4, b5, b6, b7, b8, b9⟩, rfl⟩
theorem vl_inj {c d : Cf20} (h : vl c = vl d) : c = d := by
  cases c; cases d
  simp only [vl, List.cons.injEq, and_true] at h
  obtain ⟨rfl, rfl, rfl, rfl, rfl, rfl, rfl, rfl, rfl, rfl, rfl, rfl, rfl, rfl, rfl, rfl, rfl, rfl, rfl, rfl⟩ := h
  rfl
def ofL : List Int → Cf20
  | [a0, a1, a2, a3, a4, a5, a6, a7, a8, a9, b0, b1, b2, b3, b4, b5, b6, b7, b8, b9] => ⟨a0, a1, a2, a3, a4, a5, a6, a7, a8, a9, b0, b1, b2, b3, b4, b5, b6, b7, b8, b9⟩
  | _ => ⟨0, 0, 0, 0, 0, 0, 0, 0, 0, 0, 0, 0, 0, 0, 0, 0, 0, 0, 0, 0⟩
theorem ofL_vl (c : Cf20) : ofL (vl c) = c := rfl
/-- Settings with what a text says: the settings, a code, and the line. -/
def parseF (S : Nat → List UInt8 → Option Int) (c : Cf20) (s : List UInt8) : Cf20 × Int × Int :=
  match parseL S (linesL s) 0 (vl c) [] with
  | .error n => (c, 4, n)
  | .ok v => if mayB (ofL v) = true then (ofL v, 0, 0) else (c, 5, 0)
end Go.Proofs.YtapbmmlgmcmpnaaDoorW.Am
/- Texts: what Parse calls; the map of what was seen. -/
namespace Go.Proofs.YtapbmmlgmcmpnaaDoorW.Am
open Go Go.RowKit
theorem trim_br (l : List UInt8) (hl : l.length ≤ 1000000) (h : Hp) : ACall PX 23 [bs l, .string ⟨#[32]⟩] h (fun v g => v = bs (Go.Lib.trimB l 32) ∧ h = g) :=
  bridge (enters_comp Go.Proofs.Tryd.func23 c23) rfl rfl (fun w _ => (Go.Proofs.Tryd.strings_Trim_one ⟨l.toArray⟩ 32 (by decide) w (by show l.toArray.size ≤ _; rw [List.size_toArray]; omega)).mono (by
    rintro e w' ⟨rfl, hw⟩
    refine ⟨rfl, ?_, fun d => (dr_no d).elim⟩
    rcases hw with rfl | rfl
    · exact Below.refl _ _
    · exact below_drewN w 1)) h
theorem split_br (l : List UInt8) (hl : l.length ≤ 1000000) (h : Hp) : ACall PX 22 [bs l, .string ⟨#[10]⟩] h (fun v g => v = .slice (some ⟨h.nx, 0, none⟩) (linesL l).length (linesL l).length ∧ Ext h g ∧ g.get h.nx = some ⟨(linesL l).map bsV, true, 1⟩ ∧ h.nx < g.nx) := by
  refine ⟨enters_comp Go.Proofs.Tryd.func22 c22, fun base w0 m w args' ra s => ?_⟩
  obtain rfl := ra.flat_eq rfl
  obtain ⟨mm, hm⟩ := (s.below.tb w s.below.bl).2
  refine (Go.Proofs.Tryd.strings_Split ⟨l.toArray⟩ ⟨#[10]⟩ mm w (by show l.toArray.size < _; rw [List.size_toArray]; omega) hm (Nat.le_refl _)).mono ?_
  rintro e w' ⟨rfl, rfl⟩
  rw [splitB_lines, ← lines_len]
  have hr : RVs m ((linesL l).map bsV) ((linesL l).map bsV) := RVs.of_flat (List.all_eq_true.2 (by intro x hx; obtain ⟨b, _, rfl⟩ := List.mem_map.1 hx; rfl))
  obtain ⟨h1, h2⟩ := new_obj s 9 1 hr (fun q => absurd q (by decide))
  refine ⟨_, .slice (some ⟨h.nx, 0, none⟩) (linesL l).length (linesL l).length, _, h.new ⟨(linesL l).map bsV, true, 1⟩, rfl, h1, ?_, h2, rfl, Ext.new _ _, new_get _ _, by simp [Hp.new]⟩
  have := RV.slice (m := m.add h.nx ⟨w.heap.size, 0, 0⟩) (i := h.nx) (o := 0) (n := (linesL l).length) (c := (linesL l).length) (Mu.add_same m h.nx ⟨w.heap.size, 0, 0⟩)
  simpa using this
/-- The cells of the map of the parts that were seen. -/
def mpC (ws : List Nat) : List Value := ws.flatMap fun k => [bsV (nmB.getD k []), .bool true]
def seenB (nm : List UInt8) (ws : List Nat) : Bool := ws.any fun k => nm == nmB.getD k []
theorem baeq (l m : List UInt8) : ((⟨l.toArray⟩ : ByteArray) == ⟨m.toArray⟩) = (l == m) := by
  rw [beq_toListBytes, ByteArray.toList_eq, ByteArray.toList_eq]
theorem seen_cons (nm : List UInt8) (k : Nat) (ws : List Nat) : seenB nm (k :: ws) = (nm == nmB.getD k [] || seenB nm ws) := rfl
theorem mp_cons (k : Nat) (ws : List Nat) : mpC (k :: ws) = .string ⟨(nmB.getD k []).toArray⟩ :: .bool true :: mpC ws := rfl
theorem mfind_mp (nm : List UInt8) : ∀ ws, mfind ⟨nm.toArray⟩ (mpC ws) = some (if seenB nm ws = true then some (.bool true) else none)
  | [] => rfl
  | k :: ws => by
    have ih := mfind_mp nm ws
    rw [mp_cons, seen_cons]
    simp only [mfind, baeq]
    by_cases he : (nm == nmB.getD k []) = true
    · rw [he]; rfl
    · have he2 : (nm == nmB.getD k []) = false := by simpa using he
      rw [he2, if_neg (by simp), Bool.false_or]
      exact ih
theorem mput_new (nm : List UInt8) (x : Value) : ∀ ws, seenB nm ws = false → mput ⟨nm.toArray⟩ x (mpC ws) = some (mpC ws ++ [bsV nm, x])
  | [], _ => rfl
  | k :: ws, h => by
    rw [seen_cons, Bool.or_eq_false_iff] at h
    have ih := mput_new nm x ws h.2
    rw [mp_cons]
    simp only [mput, baeq]
    rw [h.1, ih, if_neg (by simp)]
    rfl
theorem mput_any (nm : List UInt8) (x : Value) : ∀ ws, ∃ c, mput ⟨nm.toArray⟩ x (mpC ws) = some c
  | [] => ⟨_, rfl⟩
  | k :: ws => by
    obtain ⟨c, ih⟩ := mput_any nm x ws
    rw [mp_cons]
    simp only [mput, baeq]
    by_cases he : (nm == nmB.getD k []) = true
    · rw [if_pos he]; exact ⟨_, rfl⟩
    · rw [if_neg he, ih]; exact ⟨_, rfl⟩
theorem seen_mem {nm : List UInt8} {k : Nat} {ws : List Nat} (h : findN nm = some k) (hw : ∀ j ∈ ws, j < 20) : seenB nm ws = ws.contains k := by
  rw [Bool.eq_iff_iff]
  simp only [seenB, List.any_eq_true, List.contains_iff_mem, beq_iff_eq]
  have hk := findN_some h
  constructor
  · rintro ⟨j, hj, e⟩
    have hj2 : nmB[j]? = some nm := by
      rw [e, List.getD_eq_getElem?_getD, List.getElem?_eq_getElem (show j < nmB.length from hw j hj)]
      rfl
    rwa [nm_inj hk hj2]
  · intro hm
    refine ⟨k, hm, ?_⟩
    rw [List.getD_eq_getElem?_getD, hk]
    rfl
section
variable {P : Program} {CT : FuncId → List Value → Hp → (Value → Hp → Prop) → Prop} {d : Option Nat} {xs : List Operand} {env : Env} {h : Hp} {R : Value → Hp → Prop}
theorem w_mlk {i e : Nat} {nm : List UInt8} {ws : List Nat} {b : Bool} (ex : mapF env xs = some [.map (some i), bs nm]) (hg : h.get i = some ⟨mpC ws, b, e⟩) (n : R (.bool (seenB nm ws)) h) : WI P CT ⟨d, none, .op (.mlk (.bool false) false) xs⟩ env h R := by
  refine w_op (v := .bool (seenB nm ws)) (h' := h) ?_ n
  unfold opF
  rw [ex]
  simp only [bs, stepK, hg, mfind_mp]
  cases seenB nm ws <;> rfl
theorem w_mup {i e : Nat} {nm : List UInt8} {x : Value} {us c : List Value} {b : Bool} (ex : mapF env xs = some [.map (some i), bs nm, x]) (hg : h.get i = some ⟨us, b, e⟩) (hf : flat x = true) (hc : mput ⟨nm.toArray⟩ x us = some c)
    (n : ∀ g, (∀ k, k ≠ i → g.get k = h.get k) → g.get i = some ⟨c, b, e⟩ → g.nx = h.nx → R undef g) : WI P CT ⟨d, none, .op .mup xs⟩ env h R := by
  refine w_op (v := undef) (h' := h.put i ⟨c, b, e⟩) ?_ (n _ (fun _ hk => hput_ne _ _ hk) (hput_same _ _ _) rfl)
  unfold opF
  rw [ex]
  simp only [bs, stepK, hg, hf, if_true, hc]
theorem w_mkm (n : ∀ g, Ext h g → g.get h.nx = some ⟨[], false, 0⟩ → h.nx < g.nx → R (.map (some h.nx)) g) : WI P CT ⟨d, none, .op .mkm []⟩ env h R :=
  w_op (v := .map (some h.nx)) (h' := h.new ⟨[], false, 0⟩) rfl (n _ (Ext.new _ _) (new_get _ _) (by simp [Hp.new]))
end
theorem end_cell3 {P : Program} {R : Value → Hp → Prop} {env : Env} {h : Hp} {a x y i n m : Nat} {t : TypeId} {dd : TypeDesc} {us : List Value} {b : Bool} {u v : Value} (e : getF env a = some (.pointer (some ⟨i, 0, none⟩))) (e2 : getF env x = some u) (e3 : getF env y = some v) (hg : h.get i = some ⟨us, b, m⟩) (hu : P.underlying t = some dd) (hd : isAggD dd = true) (hi : (P.info? t).map (·.size) = some n) (hl : us.length = n) (r : R (.tuple #[.agg ⟨us⟩, u, v]) h) : endQ P [.cell a t, .tmp x, .tmp y] R .ret env h := by
  refine ⟨[.agg ⟨us⟩, u, v], ?_, r⟩
  rw [getF_eq] at e e2 e3
  cases hti : P.info? t with
  | none => rw [hti] at hi; cases hi
  | some ti =>
  rw [hti] at hi
  have hn : ti.size = n := Option.some.inj hi
  have : h.rd i 0 ti.size = some us := rd_all hg (by rw [hl, hn])
  simp [resAll, resOne, e, e2, e3, hu, hd, hti, this]
theorem ptC_at (i : Nat) {j : Nat} (hj : j < 20) : ((ptC i).drop (j * 2)).take 2 = [bsV (nmB.getD j []), .iface (ptT (thinK j)) (.pointer (some ⟨i, j, none⟩))] := by
  have : j = 0 ∨ j = 1 ∨ j = 2 ∨ j = 3 ∨ j = 4 ∨ j = 5 ∨ j = 6 ∨ j = 7 ∨ j = 8 ∨ j = 9 ∨ j = 10 ∨ j = 11 ∨ j = 12 ∨ j = 13 ∨ j = 14 ∨ j = 15 ∨ j = 16 ∨ j = 17 ∨ j = 18 ∨ j = 19 := by omega
  rcases this with rfl | rfl | rfl | rfl | rfl | rfl | rfl | rfl | rfl | rfl | rfl | rfl | rfl | rfl | rfl | rfl | rfl | rfl | rfl | rfl <;> rfl
theorem ptC_rd {h : Hp} {q i e : Nat} {b : Bool} (hg : h.get q = some ⟨ptC i, b, e⟩) {j : Nat} (hj : j < 20) : h.rd q (0 + j * 2) 2 = some [bsV (nmB.getD j []), .iface (ptT (thinK j)) (.pointer (some ⟨i, j, none⟩))] := by
  have hl : (ptC i).length = 40 := rfl
  unfold Hp.rd
  simp only [hg, Nat.zero_add]
  rw [if_pos (by omega), ptC_at i hj]
end Go.Proofs.YtapbmmlgmcmpnaaDoorW.Am
