/- Steps that are tried one after the other, without a look at the place: what one instruction comes to. -/
import Derived.Test.YtnebdnbglggdkaaDoorAmX
namespace Go.Proofs.YtnebdnbglggdkaaDoorW.Am
open Go Go.RowKit
/-- One instruction (as a structure of its own: the steps below are told apart by its look alone). -/
structure WI (P : Program) (CT : CTy) (i : In) (env : Env) (h : Hp) (R : Value → Hp → Prop) : Prop where
  out : wpIn P CT i env h R
/-! Looking up in a frame, with less to reckon. -/
def getF : Env → Nat → Option Value
  | [], _ => none
  | (k, v) :: r, t => match Nat.beq k t with
    | true => some v
    | false => getF r t
theorem getF_eq : ∀ (env : Env) (t : Nat), getF env t = env.get t
  | [], _ => rfl
  | (k, v) :: r, t => by
    simp only [getF, Env.get]
    cases h : Nat.beq k t
    · rw [if_neg (Nat.ne_of_beq_eq_false h)]; exact getF_eq r t
    · rw [if_pos (Nat.eq_of_beq_eq_true h)]
def evF (env : Env) : Operand → Option Value
  | .tmp t => getF env t
  | .const v => if flat v then some v else none
  | .func f => some (.func (.func f) #[] #[])
  | .global _ => none
theorem evF_eq (env : Env) (x : Operand) : evF env x = evA env x := by cases x <;> first | exact getF_eq _ _ | rfl
def mapF (env : Env) : List Operand → Option (List Value)
  | [] => some []
  | x :: r => match evF env x with
    | some v => match mapF env r with
      | some vs => some (v :: vs)
      | none => none
    | none => none
theorem mapF_eq (env : Env) : ∀ xs, mapF env xs = mapE env xs
  | [] => rfl
  | x :: r => by simp only [mapF, mapE, evF_eq, mapF_eq env r]; rfl
def opF (env : Env) (k : K) (xs : List Operand) (h : Hp) : Option (Value × Hp) :=
  match mapF env xs with
  | some vs => stepK k vs h
  | none => none
theorem opF_eq (env : Env) (k : K) (xs : List Operand) (h : Hp) : opF env k xs h = opS env k xs h := by unfold opF opS; rw [mapF_eq]; rfl
theorem le_consF {env : Env} {t : Nat} {u : Value} {l : Env} (e : getF env t = some u) (hl : EnvLe l env) : EnvLe ((t, u) :: l) env := le_cons ((getF_eq _ _).symm.trans e) hl
theorem ai_condF {P : Program} {n : Nat} {env : Env} {h : Hp} {Q : Exit → Env → Hp → Prop} {c : Operand} {x y : IC} {b : Bool} (hc : evF env c = some (.bool b)) (hx : b = true → AI P n x env h Q) (hy : b = false → AI P n y env h Q) : AI P n (.cond c x y) env h Q := ai_cond ((evF_eq _ _).symm.trans hc) hx hy
/-- Operations that the steps below have no word for. -/
def okK : K → Bool
  | .bin _ | .cvt _ | .neg | .ld1 | .ldn _ | .st _ | .iad _ | .iaa _ _ | .mm _ | .ext _ => false
  | .bsl _ e n _ _ => Nat.ble (e * n) 4
  | .bld _ _ ix => Nat.ble ix.length 3
  | _ => true
section
variable {P : Program} {CT : CTy} {env : Env} {h h' : Hp} {d : Option Nat} {k : K} {xs : List Operand} {vs : List Value} {v : Value} {R : Value → Hp → Prop} {ik : IK} {a b : Int} {kk : IntKind}
/-- Regions, as structures of their own. -/
structure SR (P : Program) (CT : CTy) (ins : List In) (env : Env) (h : Hp) (Q : Env → Hp → Prop) : Prop where
  out : wpS P CT ins env h Q
structure SD (P : Program) (CT : CTy) (L : List DE) (env : Env) (h : Hp) (Q : Env → Hp → Prop) : Prop where
  out : wpD P CT L env h Q
theorem ai_regW {n : Nat} {ins : List In} {Q : Exit → Env → Hp → Prop} (a : SR P (ACall P) ins env h fun e g => Q .normal e g) : AI P n (.reg ins) env h Q := ai_reg a.out
theorem ai_drwW {n : Nat} {L : List DE} {Q : Exit → Env → Hp → Prop} (hm : P.follows .mixedOrders = true) (a : SD P (ACall P) L env h fun e g => Q .normal e g) : AI P n (.drw L) env h Q := ai_drw hm a.out
theorem sE {Q : Env → Hp → Prop} (n : Q env h) : SR P CT [] env h Q := ⟨n⟩
theorem dE {Q : Env → Hp → Prop} (n : Q env h) : SD P CT [] env h Q := ⟨n⟩
theorem w_op0 (e : opF env k xs h = some (v, h')) (n : R v h') : wpIn P CT ⟨d, none, .op k xs⟩ env h R := by
  rw [opF_eq] at e
  unfold opS at e
  unfold wpIn
  simp only [wanted]
  split at e
  · next vs hv => simp only [hv, e]; exact n
  · cases e
theorem w_op (e : opF env k xs h = some (v, h')) (n : R v h') : WI P CT ⟨d, none, .op k xs⟩ env h R := ⟨w_op0 e n⟩
theorem w_v {v2 : Value} (e : opF env k xs h = some (v, h')) (hv : v = v2) (n : R v2 h') : WI P CT ⟨d, none, .op k xs⟩ env h R := by subst hv; exact w_op e n
theorem w_gT {t : Nat} {b c : Bool} (g : getF env t = some (.bool c)) (hc : (c == b) = true) (n : WI P CT ⟨d, none, ik⟩ env h R) : WI P CT ⟨d, some (t, b), ik⟩ env h R := by
  rw [getF_eq] at g
  refine ⟨?_⟩
  have n := n.out
  unfold wpIn at n ⊢
  simp only [wanted, g, hc] at n ⊢
  exact n
theorem w_gF {t : Nat} {b c : Bool} (g : getF env t = some (.bool c)) (hc : (c == b) = false) (n : R undef h) : WI P CT ⟨d, some (t, b), ik⟩ env h R := by
  rw [getF_eq] at g
  refine ⟨?_⟩
  unfold wpIn
  simp only [wanted, g, hc]
  exact n
theorem w_gU {t : Nat} {b : Bool} (g : getF env t = some undef) (n : R undef h) : WI P CT ⟨d, some (t, b), ik⟩ env h R := by
  rw [getF_eq] at g
  refine ⟨?_⟩
  unfold wpIn
  simp only [wanted, g, undef]
  exact n
theorem w_call {f : FuncId} (e : mapF env xs = some vs) (c : CT f vs h R) : WI P CT ⟨d, none, .call f xs⟩ env h R := by
  rw [mapF_eq] at e
  refine ⟨?_⟩
  unfold wpIn
  simp only [wanted, e]
  exact c
theorem w_callv {x : Operand} {f : FuncId} {a b : Array Value} (e : evF env x = some (.func (.func f) a b)) (e2 : mapF env xs = some vs) (c : CT f (a.toList ++ vs ++ b.toList) h R) : WI P CT ⟨d, none, .callv x xs⟩ env h R := by
  rw [evF_eq] at e
  rw [mapF_eq] at e2
  refine ⟨?_⟩
  unfold wpIn
  simp only [wanted, e, e2]
  exact c
/-- One instruction of a region; of a region whose order is open, with nothing to be made again, or with something. -/
theorem w_imp {i : In} {R' : Value → Hp → Prop} (n : wpIn P CT i env h R) (hm : ∀ (f : FuncId) (vs : List Value) (g : Hp) (S S' : Value → Hp → Prop), (∀ v h', S v h' → S' v h') → CT f vs g S → CT f vs g S') (hr : ∀ v h', R v h' → R' v h') : wpIn P CT i env h R' := by
  unfold wpIn at n ⊢
  split at n
  · exact n
  · next hw => exact hr _ _ n
  · split at n
    · split at n
      · exact n.elim
      · split at n
        · exact n.elim
        · exact hr _ _ n
    · split at n
      · exact n.elim
      · exact hr _ _ n
    · split at n
      · exact n.elim
      · exact hm _ _ _ _ _ hr n
    · split at n
      · exact hm _ _ _ _ _ hr n
      · exact n.elim
theorem sS {s : Nat} {g : Option (Nat × Bool)} {r : List In} {Q : Env → Hp → Prop} (n : WI P (ACall P) ⟨some s, g, ik⟩ env h fun v h' => SR P (ACall P) r ((s, v) :: env) h' Q) : SR P (ACall P) (⟨some s, g, ik⟩ :: r) env h Q :=
  ⟨w_imp (CT := ACall P) n.out (fun _ _ _ _ _ hr c => c.mono hr) fun _ _ n => n.out⟩
theorem sSn {g : Option (Nat × Bool)} {r : List In} {Q : Env → Hp → Prop} (n : WI P (ACall P) ⟨none, g, ik⟩ env h fun _ h' => SR P (ACall P) r env h' Q) : SR P (ACall P) (⟨none, g, ik⟩ :: r) env h Q :=
  ⟨w_imp (CT := ACall P) n.out (fun _ _ _ _ _ hr c => c.mono hr) fun _ _ n => n.out⟩
theorem dS {ix s : Nat} {g : Option (Nat × Bool)} {eff : Bool} {L : List DE} {Q : Env → Hp → Prop} (n : WI P (ACall P) ⟨some s, g, ik⟩ env h fun v h' => SD P (ACall P) L ((s, v) :: env) h' Q) : SD P (ACall P) (⟨ix, ⟨some s, g, ik⟩, eff, []⟩ :: L) env h Q :=
  ⟨w_imp (CT := ACall P) n.out (fun _ _ _ _ _ hr c => c.mono hr) fun _ _ n => ⟨trivial, n.out⟩⟩
theorem dSn {ix : Nat} {g : Option (Nat × Bool)} {eff : Bool} {L : List DE} {Q : Env → Hp → Prop} (n : WI P (ACall P) ⟨none, g, ik⟩ env h fun _ h' => SD P (ACall P) L env h' Q) : SD P (ACall P) (⟨ix, ⟨none, g, ik⟩, eff, []⟩ :: L) env h Q :=
  ⟨w_imp (CT := ACall P) n.out (fun _ _ _ _ _ hr c => c.mono hr) fun _ _ n => ⟨trivial, n.out⟩⟩
theorem dSR {ix s : Nat} {g : Option (Nat × Bool)} {eff : Bool} {re : List In} {L : List DE} {Q : Env → Hp → Prop} (n : WI P (ACall P) ⟨some s, g, ik⟩ env h fun v h' => allAgain re env h' ∧ SD P (ACall P) L ((s, v) :: env) h' Q) : SD P (ACall P) (⟨ix, ⟨some s, g, ik⟩, eff, re⟩ :: L) env h Q :=
  ⟨w_imp (CT := ACall P) n.out (fun _ _ _ _ _ hr c => c.mono hr) fun _ _ n => ⟨n.1, n.2.out⟩⟩
theorem dSRn {ix : Nat} {g : Option (Nat × Bool)} {eff : Bool} {re : List In} {L : List DE} {Q : Env → Hp → Prop} (n : WI P (ACall P) ⟨none, g, ik⟩ env h fun _ h' => allAgain re env h' ∧ SD P (ACall P) L env h' Q) : SD P (ACall P) (⟨ix, ⟨none, g, ik⟩, eff, re⟩ :: L) env h Q :=
  ⟨w_imp (CT := ACall P) n.out (fun _ _ _ _ _ hr c => c.mono hr) fun _ _ n => ⟨n.1, n.2.out⟩⟩
theorem agS {re : List In} {L : List DE} {env' : Env} {Q : Env → Hp → Prop} (a : allAgain re env h) (n : SD P CT L env' h Q) : allAgain re env h ∧ SD P CT L env' h Q := ⟨a, n⟩
theorem ag_nil : allAgain [] env h := trivial
theorem ag_cons {i : In} {r : List In} (a : again i env h) (n : allAgain r env h) : allAgain (i :: r) env h := ⟨a, n⟩
theorem ag_l {d' t i o : Nat} (g1 : getF env t = some (.pointer (some ⟨i, o, none⟩))) (g2 : getF env d' = some v) (hr : h.rd i o 1 = some [v]) : again ⟨some d', none, .op .ld1 [.tmp t]⟩ env h := ag_ld ((getF_eq _ _).symm.trans g1) ((getF_eq _ _).symm.trans g2) hr
theorem ag_ln {d' t i o c : Nat} {us : List Value} (g1 : getF env t = some (.pointer (some ⟨i, o, none⟩))) (g2 : getF env d' = some (.agg ⟨us⟩)) (hr : h.rd i o c = some us) : again ⟨some d', none, .op (.ldn c) [.tmp t]⟩ env h := by
  rw [getF_eq] at g1 g2
  unfold again
  simp only [wanted, mapE, evA, g1, g2, stepK, hr, Option.map_some]
theorem ag_gT {t : Nat} {b c : Bool} (g : getF env t = some (.bool c)) (hc : (c == b) = true) (n : again ⟨d, none, ik⟩ env h) : again ⟨d, some (t, b), ik⟩ env h := by
  rw [getF_eq] at g
  unfold again at n ⊢
  simp only [wanted, g, hc] at n ⊢
  exact n
theorem ag_gF {t : Nat} {b c : Bool} (g : getF env t = some (.bool c)) (hc : (c == b) = false) : again ⟨d, some (t, b), ik⟩ env h := by
  rw [getF_eq] at g
  unfold again
  simp only [wanted, g, hc]
/-- Under a guard that is not told: the slot holds what it would, or nothing. -/
theorem w_gB {t : Nat} {b c : Bool} (g : getF env t = some (.bool c)) (e : (c == b) = true → opF env k xs h = some (v, h)) (n : R (if (c == b) = true then v else undef) h) : WI P CT ⟨d, some (t, b), .op k xs⟩ env h R := by
  cases hc : c == b
  · rw [hc] at n
    exact w_gF g hc n
  · rw [hc] at n
    exact w_gT g hc (w_op (e hc) n)
theorem w_gBc {f : FuncId} {t : Nat} {b c : Bool} (g : getF env t = some (.bool c)) (hm : ∀ (S S' : Value → Hp → Prop), (∀ v h', S v h' → S' v h') → CT f vs h S → CT f vs h S') (e : (c == b) = true → mapF env xs = some vs) (cl : CT f vs h fun u g => u = v ∧ h = g) (n : R (if (c == b) = true then v else undef) h) : WI P CT ⟨d, some (t, b), .call f xs⟩ env h R := by
  cases hc : c == b
  · rw [hc] at n
    exact w_gF g hc n
  · rw [hc] at n
    exact w_gT g hc (w_call (e hc) (hm _ _ (fun u g' hu => by rw [hu.1, ← hu.2]; exact n) cl))
def okN : K → Bool
  | .new _ _ | .box _ | .bsl _ _ _ _ _ | .bld _ _ _ => false
  | k => okK k
theorem w_opk (_ : okK k = true) (e : opF env k xs h = some (v, h')) (n : R v h') : WI P CT ⟨d, none, .op k xs⟩ env h R := w_op e n
theorem w_mv {x : Operand} (e : evF env x = some v) (n : R v h) : WI P CT ⟨d, none, .op .mv [x]⟩ env h R :=
  w_op (v := v) (h' := h) (by unfold opF; simp only [mapF, e, stepK]) n
theorem w_add (e : mapF env xs = some [.int .i64 a, .int .i64 b]) (hx : -9223372036854775808 ≤ a + b ∧ a + b ≤ 9223372036854775807) (n : R (.int .i64 (a + b)) h) : WI P CT ⟨d, none, .op (.bin .add) xs⟩ env h R :=
  w_v (v := .int .i64 (IntKind.i64.wrap (a + b))) (by unfold opF; rw [e]; rfl) (by rw [wrap_i64' hx.1 hx.2]) n
theorem w_sub (e : mapF env xs = some [.int .i64 a, .int .i64 b]) (hx : -9223372036854775808 ≤ a - b ∧ a - b ≤ 9223372036854775807) (n : R (.int .i64 (a - b)) h) : WI P CT ⟨d, none, .op (.bin .sub) xs⟩ env h R :=
  w_v (v := .int .i64 (IntKind.i64.wrap (a - b))) (by unfold opF; rw [e]; rfl) (by rw [wrap_i64' hx.1 hx.2]) n
theorem w_mul (e : mapF env xs = some [.int .i64 a, .int .i64 b]) (hx : -9223372036854775808 ≤ a * b ∧ a * b ≤ 9223372036854775807) (n : R (.int .i64 (a * b)) h) : WI P CT ⟨d, none, .op (.bin .mul) xs⟩ env h R :=
  w_v (v := .int .i64 (IntKind.i64.wrap (a * b))) (by unfold opF; rw [e]; rfl) (by rw [wrap_i64' hx.1 hx.2]) n
theorem w_addu (e : mapF env xs = some [.int .u64 a, .int .u64 b]) (hx : 0 ≤ a + b ∧ a + b ≤ 18446744073709551615) (n : R (.int .u64 (a + b)) h) : WI P CT ⟨d, none, .op (.bin .add) xs⟩ env h R :=
  w_v (v := .int .u64 (IntKind.u64.wrap (a + b))) (by unfold opF; rw [e]; rfl) (by rw [wrap_u64' hx.1 hx.2]) n
theorem w_mulu (e : mapF env xs = some [.int .u64 a, .int .u64 b]) (hx : 0 ≤ a * b ∧ a * b ≤ 18446744073709551615) (n : R (.int .u64 (a * b)) h) : WI P CT ⟨d, none, .op (.bin .mul) xs⟩ env h R :=
  w_v (v := .int .u64 (IntKind.u64.wrap (a * b))) (by unfold opF; rw [e]; rfl) (by rw [wrap_u64' hx.1 hx.2]) n
theorem w_neg (e : mapF env xs = some [.int .i64 a]) (hx : -9223372036854775808 ≤ -a ∧ -a ≤ 9223372036854775807) (n : R (.int .i64 (-a)) h) : WI P CT ⟨d, none, .op .neg xs⟩ env h R :=
  w_v (v := .int .i64 (IntKind.i64.wrap (0 - a))) (by unfold opF; rw [e]; rfl) (by rw [show 0 - a = -a by omega, wrap_i64' hx.1 hx.2]) n
theorem w_ci (e : mapF env xs = some [.int kk a]) (hx : -9223372036854775808 ≤ a ∧ a ≤ 9223372036854775807) (n : R (.int .i64 a) h) : WI P CT ⟨d, none, .op (.cvt .i64) xs⟩ env h R :=
  w_v (v := .int .i64 (IntKind.i64.wrap a)) (by unfold opF; rw [e]; rfl) (by rw [wrap_i64' hx.1 hx.2]) n
theorem w_cu (e : mapF env xs = some [.int kk a]) (hx : 0 ≤ a ∧ a ≤ 18446744073709551615) (n : R (.int .u64 a) h) : WI P CT ⟨d, none, .op (.cvt .u64) xs⟩ env h R :=
  w_v (v := .int .u64 (IntKind.u64.wrap a)) (by unfold opF; rw [e]; rfl) (by rw [wrap_u64' hx.1 hx.2]) n
theorem w_adduw (e : mapF env xs = some [.int .u64 a, .int .u64 b]) (n : R (.int .u64 (IntKind.u64.wrap (a + b))) h) : WI P CT ⟨d, none, .op (.bin .add) xs⟩ env h R :=
  w_op (v := .int .u64 (IntKind.u64.wrap (a + b))) (h' := h) (by unfold opF; rw [e]; rfl) n
/-- A number of which nothing is told. -/
theorem w_and (e : mapF env xs = some [.int kk a, .int kk b]) (n : ∀ x : Int, R (.int kk x) h) : WI P CT ⟨d, none, .op (.bin .and) xs⟩ env h R := by
  refine w_op (v := .int kk (kk.wrap (BitVec.ofInt kk.bits a &&& BitVec.ofInt kk.bits b).toNat)) (h' := h) ?_ (n _)
  unfold opF
  rw [e]
  show (if kk = kk then some (Value.int kk (kk.wrap (BitVec.ofInt kk.bits a &&& BitVec.ofInt kk.bits b).toNat)) else none).map (·, h) = _
  rw [if_pos rfl]
  rfl
theorem w_max (e : mapF env xs = some [.int kk a, .int kk b]) (n : R (.int kk (max a b)) h) : WI P CT ⟨d, none, .op (.mm true) xs⟩ env h R := by
  refine w_op (v := .int kk (max a b)) (h' := h) ?_ n
  unfold opF
  rw [e]
  show (if kk = kk then some (Value.int kk (if b > a then b else a)) else none).map (·, h) = _
  rw [if_pos rfl, show (if b > a then b else a) = max a b by rw [Int.max_def]; split <;> split <;> omega]
  rfl
theorem w_min (e : mapF env xs = some [.int kk a, .int kk b]) (n : R (.int kk (min a b)) h) : WI P CT ⟨d, none, .op (.mm false) xs⟩ env h R := by
  refine w_op (v := .int kk (min a b)) (h' := h) ?_ n
  unfold opF
  rw [e]
  show (if kk = kk then some (Value.int kk (if b < a then b else a)) else none).map (·, h) = _
  rw [if_pos rfl, show (if b < a then b else a) = min a b by rw [Int.min_def]; split <;> split <;> omega]
  rfl
theorem w_cuw (e : mapF env xs = some [.int kk a]) (n : R (.int .u64 (IntKind.u64.wrap a)) h) : WI P CT ⟨d, none, .op (.cvt .u64) xs⟩ env h R :=
  w_op (v := .int .u64 (IntKind.u64.wrap a)) (h' := h) (by unfold opF; rw [e]; rfl) n
theorem fill_all : ∀ (vs pre z : List Value) (pl : Nat → Option (Nat × Nat)), (∀ i, i < vs.length → pl (pre.length + i) = some (pre.length + i, 1)) → z.length = vs.length → vs.all one = true → Instr.fill pl ⟨pre ++ z⟩ ((List.range' pre.length vs.length).zip vs) = some ⟨pre ++ vs⟩
  | [], pre, z, pl, _, hz, _ => by
    have : z = [] := List.eq_nil_of_length_eq_zero hz
    subst this
    simp [Instr.fill]
  | v :: vs, pre, z, pl, hp, hz, ho => by
    cases z with
    | nil => simp at hz
    | cons a z =>
      simp only [List.all_cons, Bool.and_eq_true] at ho
      have hc : v.cells = #[v] := by cases v <;> first | rfl | exact absurd ho.1 Bool.false_ne_true
      simp only [List.length_cons, List.range'_succ, List.zip_cons_cons, Instr.fill]
      have h0 := hp 0 (by simp)
      rw [Nat.add_zero] at h0
      rw [h0]
      simp only [hc]
      have ih := fill_all vs (pre ++ [v]) z pl (fun i hi => by have := hp (i + 1) (by simp; omega); simpa [Nat.add_assoc, Nat.add_comm 1 i] using this) (by simpa using hz) ho.2
      simp only [List.length_append, List.length_cons, List.length_nil, Nat.zero_add, List.append_assoc, List.cons_append, List.nil_append] at ih
      rw [if_neg (by simp)]
      rw [← ih]
      congr 1
      simp
/-- A literal of a struct with all its parts. -/
theorem w_bldF {z : Array Value} {pl : List (Nat × Nat)} {ix : List Nat} (e : mapF env xs = some vs) (hx : ix = List.range' 0 vs.length) (hz : z.size = vs.length) (hp : pl = (List.range vs.length).map fun i => (i, 1)) (ho : vs.all one = true) (n : R (.agg ⟨vs⟩) h) : WI P CT ⟨d, none, .op (.bld z pl ix) xs⟩ env h R := by
  refine w_op (v := .agg ⟨vs⟩) (h' := h) ?_ n
  unfold opF
  rw [e]
  have hl : ix.length = vs.length := by rw [hx]; simp
  simp only [stepK, hl, if_true]
  have := fill_all vs [] z.toList (fun i => pl[i]?) (fun i hi => by rw [hp]; simp [hi]) (by simpa using hz) ho
  simp only [List.nil_append, List.length_nil] at this
  rw [hx, show (⟨z.toList⟩ : Array Value) = z from rfl] at *
  rw [this]
  rfl
theorem new_get (h : Hp) (o : Ob) : (h.new o).get h.nx = some o := by simp [Hp.new]
theorem fold_at (off : Nat) : ∀ (cs pre z : List Value) (j : Nat), pre.length = off + j → cs.length ≤ z.length → (cs.zipIdx j).foldl (fun (a : Array Value) (p : Value × Nat) => a.setIfInBounds (off + p.2) p.1) ⟨pre ++ z⟩ = ⟨pre ++ cs ++ z.drop cs.length⟩
  | [], pre, z, j, _, _ => by simp
  | c :: cs, pre, z, j, hj, hl => by
    cases z with
    | nil => simp at hl
    | cons a z =>
      simp only [List.zipIdx_cons, List.foldl_cons]
      have hs : (⟨pre ++ a :: z⟩ : Array Value).setIfInBounds (off + j) c = ⟨(pre ++ [c]) ++ z⟩ := by
        apply Array.ext'
        rw [Array.toList_setIfInBounds, ← hj]
        simp
      rw [hs, fold_at off cs (pre ++ [c]) z (j + 1) (by simp; omega) (by simpa using hl)]
      simp
theorem fill_rows (esz : Nat) : ∀ (vs : List Value) (k : Nat) (pre z : List Value), pre.length = k * esz → z.length = vs.length * esz → (vs.all fun v => decide (v.cells.size = esz)) = true →
    Instr.fill (fun i => some (i * esz, esz)) ⟨pre ++ z⟩ ((List.range' k vs.length).zip vs) = some ⟨pre ++ vs.flatMap fun v => v.cells.toList⟩
  | [], k, pre, z, _, hz, _ => by
    have : z = [] := List.eq_nil_of_length_eq_zero (by simpa using hz)
    subst this
    simp [Instr.fill]
  | v :: vs, k, pre, z, hp, hz, ho => by
    simp only [List.all_cons, Bool.and_eq_true, decide_eq_true_eq] at ho
    have hvl : v.cells.toList.length = esz := by simpa using ho.1
    have hz2 : z.length = esz + vs.length * esz := by rw [hz]; simp [Nat.add_mul]; omega
    simp only [List.length_cons, List.range'_succ, List.zip_cons_cons, Instr.fill]
    rw [if_neg (by simp [ho.1]; omega)]
    have hf := fold_at (k * esz) v.cells.toList pre z 0 (by omega) (by omega)
    have hf2 : v.cells.zipIdx.foldl (fun cs x => cs.setIfInBounds (k * esz + x.2) x.1) (⟨pre ++ z⟩ : Array Value) = ⟨(pre ++ v.cells.toList) ++ z.drop esz⟩ := by
      rw [hvl] at hf
      rw [← Array.foldl_toList, Array.toList_zipIdx]
      exact hf
    rw [hf2, fill_rows esz vs (k + 1) (pre ++ v.cells.toList) (z.drop esz) (by simp [hp, ho.1, Nat.add_mul]) (by simp; omega) ho.2]
    simp
/-- A literal of a slice with all its parts: a new row. -/
theorem w_bslF {t : TypeId} {esz len : Nat} {z : Array Value} {ix : List Nat} (e : mapF env xs = some vs) (hl : vs.length = len) (hx : ix = List.range' 0 len) (hz : z.size = len * esz) (ho : (vs.all fun v => decide (v.cells.size = esz)) = true)
    (n : ∀ g, Ext h g → g.get h.nx = some ⟨vs.flatMap fun v => v.cells.toList, true, esz⟩ → h.nx < g.nx → R (.slice (some ⟨h.nx, 0, none⟩) len len) g) : WI P CT ⟨d, none, .op (.bsl t esz len z ix) xs⟩ env h R := by
  refine w_op (v := .slice (some ⟨h.nx, 0, none⟩) len len) (h' := h.new ⟨vs.flatMap fun v => v.cells.toList, true, esz⟩) ?_ (n _ (Ext.new _ _) (new_get _ _) (by simp [Hp.new]))
  unfold opF
  rw [e]
  have hl2 : ix.length = vs.length := by rw [hx, hl]; simp
  simp only [stepK, hl2, if_true]
  have := fill_rows esz vs 0 [] z.toList (by simp) (by simpa [hl] using hz) ho
  simp only [List.nil_append] at this
  rw [hx, ← hl]
  rw [show (⟨z.toList⟩ : Array Value) = z from rfl] at this
  rw [this]
  rfl
theorem w_ext {i : Nat} {us : List Value} (e : mapF env xs = some [.tuple ⟨us⟩]) (hv : us[i]? = some v) (n : R v h) : WI P CT ⟨d, none, .op (.ext i) xs⟩ env h R := by
  refine w_op (v := v) (h' := h) ?_ n
  unfold opF
  rw [e]
  simp only [stepK]
  have : (⟨us⟩ : Array Value)[i]? = some v := by simpa using hv
  rw [this]
  rfl
theorem w_ixa {len esz m : Nat} {us : List Value} {x : Int} (e : mapF env xs = some [.agg ⟨us⟩, .int kk x]) (hx : 0 ≤ x ∧ x < len) (hv : us[x.toNat * esz]? = some v) (n : R v h) : WI P CT ⟨d, none, .op (.ixa len esz m false) xs⟩ env h R := by
  refine w_op (v := v) (h' := h) ?_ n
  unfold opF
  rw [e]
  simp only [stepK, if_pos hx]
  have : (⟨us⟩ : Array Value)[x.toNat * esz]? = some v := by simpa using hv
  rw [this]
  rfl
theorem w_pickT {x y : Value} (e : mapF env xs = some [.bool true, x, y]) (n : R x h) : WI P CT ⟨d, none, .op .pick xs⟩ env h R :=
  w_op (v := x) (h' := h) (by unfold opF; rw [e]; rfl) n
theorem w_pickF {x y : Value} (e : mapF env xs = some [.bool false, x, y]) (n : R y h) : WI P CT ⟨d, none, .op .pick xs⟩ env h R :=
  w_op (v := y) (h' := h) (by unfold opF; rw [e]; rfl) n
theorem w_rem (e : mapF env xs = some [.int kk a, .int kk b]) (ha : 0 ≤ a) (hb : 0 < b) (n : R (.int kk (a % b)) h) : WI P CT ⟨d, none, .op (.bin .rem) xs⟩ env h R := w_op ((opF_eq _ _ _ _).trans (o_rem ((mapF_eq _ _).symm.trans e) ha hb)) n
theorem w_quo (e : mapF env xs = some [.int .i64 a, .int .i64 b]) (ha : 0 ≤ a ∧ a ≤ 9223372036854775807) (hb : 0 < b) (n : R (.int .i64 (a / b)) h) : WI P CT ⟨d, none, .op (.bin .quo) xs⟩ env h R := by
  refine w_op (v := .int .i64 (a / b)) (h' := h) ?_ n
  unfold opF
  rw [e]
  have : IntKind.i64 = IntKind.i64 ∧ b ≠ 0 := ⟨rfl, by omega⟩
  have h1 : 0 ≤ a / b := Int.ediv_nonneg ha.1 (by omega)
  have h2 : a / b ≤ a := Int.ediv_le_self _ ha.1
  show (if IntKind.i64 = IntKind.i64 ∧ b ≠ 0 then some (Value.int .i64 (IntKind.i64.wrap (a.tdiv b))) else none).map (·, h) = _
  rw [if_pos this, Int.tdiv_eq_ediv_of_nonneg ha.1, wrap_i64' (by omega) (by omega)]
  rfl
theorem w_quou (e : mapF env xs = some [.int .u64 a, .int .u64 b]) (ha : 0 ≤ a ∧ a ≤ 18446744073709551615) (hb : 0 < b) (n : R (.int .u64 (a / b)) h) : WI P CT ⟨d, none, .op (.bin .quo) xs⟩ env h R := by
  refine w_op (v := .int .u64 (a / b)) (h' := h) ?_ n
  unfold opF
  rw [e]
  have : IntKind.u64 = IntKind.u64 ∧ b ≠ 0 := ⟨rfl, by omega⟩
  have h1 : 0 ≤ a / b := Int.ediv_nonneg ha.1 (by omega)
  have h2 : a / b ≤ a := Int.ediv_le_self _ ha.1
  show (if IntKind.u64 = IntKind.u64 ∧ b ≠ 0 then some (Value.int .u64 (IntKind.u64.wrap (a.tdiv b))) else none).map (·, h) = _
  rw [if_pos this, Int.tdiv_eq_ediv_of_nonneg ha.1, wrap_u64' (by omega) (by omega)]
  rfl
/-- A comparison whose answer is told. -/
theorem w_cmp {op : BinOp} {c c2 : Bool} (e : opF env (.bin op) xs h = some (.bool c, h')) (hc : c = c2) (n : R (.bool c2) h') : WI P CT ⟨d, none, .op (.bin op) xs⟩ env h R := by subst hc; exact w_op e n
theorem w_iad {i o len cap : Nat} {sp : Option Nat} {x : Int} {esz : Nat} (e : mapF env xs = some [.slice (some ⟨i, o, sp⟩) len cap, .int kk x]) (hx : 0 ≤ x ∧ x < len) (n : R (.pointer (some ⟨i, o + x.toNat * esz, none⟩)) h) :
    WI P CT ⟨d, none, .op (.iad esz) xs⟩ env h R := w_op ((opF_eq _ _ _ _).trans (o_iad ((mapF_eq _ _).symm.trans e) hx)) n
theorem w_iaa {i o len : Nat} {x : Int} {esz : Nat} (e : mapF env xs = some [.pointer (some ⟨i, o, none⟩), .int kk x]) (hx : 0 ≤ x ∧ x < len) (n : R (.pointer (some ⟨i, o + x.toNat * esz, none⟩)) h) :
    WI P CT ⟨d, none, .op (.iaa len esz) xs⟩ env h R := w_op ((opF_eq _ _ _ _).trans (o_iaa ((mapF_eq _ _).symm.trans e) hx)) n
theorem w_ld {i o : Nat} (e : mapF env xs = some [.pointer (some ⟨i, o, none⟩)]) (hr : h.rd i o 1 = some [v]) (n : R v h) : WI P CT ⟨d, none, .op .ld1 xs⟩ env h R := w_op ((opF_eq _ _ _ _).trans (o_ld ((mapF_eq _ _).symm.trans e) hr)) n
theorem w_ldn {i o c : Nat} {us : List Value} (e : mapF env xs = some [.pointer (some ⟨i, o, none⟩)]) (hr : h.rd i o c = some us) (n : R (.agg ⟨us⟩) h) : WI P CT ⟨d, none, .op (.ldn c) xs⟩ env h R := w_op ((opF_eq _ _ _ _).trans (o_ldn ((mapF_eq _ _).symm.trans e) hr)) n
theorem w_st {i o c : Nat} {u : Value} (e : mapF env xs = some [.pointer (some ⟨i, o, none⟩), u]) (hs : u.cells.size = c) (hw : h.wr i o u.cells.toList = some h') (n : R undef h') : WI P CT ⟨d, none, .op (.st c) xs⟩ env h R := w_op ((opF_eq _ _ _ _).trans (o_st ((mapF_eq _ _).symm.trans e) hs hw)) n
theorem roundE_r {γ : Type} {E : γ → Env} {H : γ → Hp → Prop} {mu : γ → Nat} {k : Nat} {Q : Exit → Env → Hp → Prop} : roundE E H mu k Q .ret env h = Q .ret env h := rfl
theorem rd_g {h : Hp} {i o : Nat} {v : Value} {us : List Value} {b : Bool} {e : Nat} (hg : h.get i = some ⟨us, b, e⟩) (hx : us[o]? = some v) : h.rd i o 1 = some [v] := by
  have := rd_f hg hx
  rwa [Nat.zero_add] at this
theorem rd_new {h : Hp} {o : Nat} {v : Value} {us : List Value} {b : Bool} {e : Nat} (hx : us[o]? = some v) : (h.new ⟨us, b, e⟩).rd h.nx o 1 = some [v] := rd_g (new_get h _) hx
theorem rd_newn {h : Hp} {n : Nat} {us : List Value} {b : Bool} {e : Nat} (hn : us.length = n) : (h.new ⟨us, b, e⟩).rd h.nx 0 n = some us := by
  unfold Hp.rd
  simp only [new_get]
  rw [if_pos (by omega)]
  simp [← hn]
/-- A new object: of what was there nothing turns. -/
theorem w_box {t : TypeId} {x : Operand} (e : evF env x = some v) (n : ∀ g, Ext h g → g.get h.nx = some ⟨v.cells.toList, true, 0⟩ → h.nx < g.nx → R (.pointer (some ⟨h.nx, 0, none⟩)) g) : WI P CT ⟨d, none, .op (.box t) [x]⟩ env h R := by
  refine w_op (v := .pointer (some ⟨h.nx, 0, none⟩)) (h' := h.new ⟨v.cells.toList, true, 0⟩) ?_ (n _ (Ext.new _ _) (new_get _ _) (by simp [Hp.new]))
  unfold opF
  simp only [mapF, e, stepK, putPtr]
theorem w_new {t : TypeId} {z : Value} (n : ∀ g, Ext h g → g.get h.nx = some ⟨z.cells.toList, true, 0⟩ → h.nx < g.nx → R (.pointer (some ⟨h.nx, 0, none⟩)) g) : WI P CT ⟨d, none, .op (.new t z) []⟩ env h R := by
  refine w_op (v := .pointer (some ⟨h.nx, 0, none⟩)) (h' := h.new ⟨z.cells.toList, true, 0⟩) ?_ (n _ (Ext.new _ _) (new_get _ _) (by simp [Hp.new]))
  unfold opF
  simp only [mapF, stepK, putPtr]
/-- A store into an object of one's own. -/
theorem w_stn {i c : Nat} {u : Value} {us : List Value} {m : Nat} (e : mapF env xs = some [.pointer (some ⟨i, 0, none⟩), u]) (hs : u.cells.size = c) (hg : h.get i = some ⟨us, true, m⟩) (hl : us.length = c) (ho : u.cells.toList.all one = true) (n : R undef (h.put i ⟨u.cells.toList, true, m⟩)) : WI P CT ⟨d, none, .op (.st c) xs⟩ env h R := by
  refine w_st (h' := h.put i ⟨u.cells.toList, true, m⟩) e hs ?_ n
  unfold Hp.wr
  simp only [hg]
  rw [if_pos ⟨trivial, by simp; omega, ho⟩]
  have hz : ∀ (vs cs : List Value), cs.length = vs.length → splice cs 0 vs = vs := by
    intro vs
    induction vs with
    | nil => intro cs hc; cases cs with
      | nil => rfl
      | cons a b => simp at hc
    | cons v vs ih =>
      intro cs hc
      cases cs with
      | nil => simp at hc
      | cons a b =>
        have hset : ∀ (vs : List Value) (cs : List Value) (k : Nat) (x : Value), splice (x :: cs) (k + 1) vs = x :: splice cs k vs := by
          intro vs
          induction vs with
          | nil => intro cs k x; rfl
          | cons v vs ih => intro cs k x; simp only [splice, List.set_cons_succ]; exact ih _ _ _
        simp only [splice, List.set_cons_zero, Nat.zero_add]
        rw [hset vs b 0 v, ih b (by simpa using hc)]
  congr 2
  exact congrArg (Ob.mk · true m) (hz _ _ (by simp; omega))
theorem o_ldF {i o : Nat} (e : mapF env xs = some [.pointer (some ⟨i, o, none⟩)]) (hr : h.rd i o 1 = some [v]) : opF env .ld1 xs h = some (v, h) := (opF_eq _ _ _ _).trans (o_ld ((mapF_eq _ _).symm.trans e) hr)
theorem Ext.own {h g g' : Hp} (x : Ext h g) (m : ∀ k, k ≠ h.nx → g'.get k = g.get k) (n : g'.nx = g.nx) : Ext h g' := ⟨by rw [n]; exact x.1, fun k hk => (m k (by omega)).trans (x.2 k hk)⟩
theorem w_stN {i c : Nat} {u : Value} {us : List Value} {m : Nat} (e : mapF env xs = some [.pointer (some ⟨i, 0, none⟩), u]) (hs : u.cells.size = c) (hg : h.get i = some ⟨us, true, m⟩) (hl : us.length = c) (ho : u.cells.toList.all one = true)
    (n : ∀ g, (∀ k, k ≠ i → g.get k = h.get k) → g.get i = some ⟨u.cells.toList, true, m⟩ → g.nx = h.nx → R undef g) : WI P CT ⟨d, none, .op (.st c) xs⟩ env h R :=
  w_stn e hs hg hl ho (n _ (fun _ hk => hput_ne _ _ hk) (hput_same _ _ _) rfl)
/-- A store into one cell of an object of one's own. -/
theorem w_st1 {i o : Nat} {u : Value} {us : List Value} {m : Nat} (e : mapF env xs = some [.pointer (some ⟨i, o, none⟩), u]) (hs : u.cells = #[u]) (hg : h.get i = some ⟨us, true, m⟩) (hl : o < us.length) (ho : one u = true)
    (n : ∀ g, (∀ k, k ≠ i → g.get k = h.get k) → g.get i = some ⟨us.set o u, true, m⟩ → g.nx = h.nx → R undef g) : WI P CT ⟨d, none, .op (.st 1) xs⟩ env h R := by
  have hw := wr_f hg hl ho
  rw [Nat.zero_add] at hw
  exact w_st e (by rw [hs]; rfl) (by rw [hs]; exact hw) (n _ (fun _ hk => hput_ne _ _ hk) (hput_same _ _ _) rfl)
theorem Ext.put_new {h g : Hp} (x : Ext h g) (o : Ob) : Ext h (g.put h.nx o) := ⟨x.1, fun k hk => (hput_ne _ _ (by omega)).trans (x.2 k hk)⟩
theorem is_okk (_ : okK k = true) (n : WI P CT ⟨d, none, .op k xs⟩ env h R) : WI P CT ⟨d, none, .op k xs⟩ env h R := n
theorem is_okn (_ : okN k = true) (n : WI P CT ⟨d, none, .op k xs⟩ env h R) : WI P CT ⟨d, none, .op k xs⟩ env h R := n
theorem is_ld (n : WI P CT ⟨d, none, .op .ld1 xs⟩ env h R) : WI P CT ⟨d, none, .op .ld1 xs⟩ env h R := n
theorem is_ldn {c : Nat} (n : WI P CT ⟨d, none, .op (.ldn c) xs⟩ env h R) : WI P CT ⟨d, none, .op (.ldn c) xs⟩ env h R := n
theorem rd_f0 {h : Hp} {i : Nat} {u : Value} {us : List Value} {b : Bool} {e : Nat} (hg : h.get i = some ⟨u :: us, b, e⟩) : h.rd i 0 1 = some [u] := rd_f (x := 0) hg rfl
theorem rd_row {h : Hp} {i : Nat} {us : List Value} {b : Bool} {e : Nat} (hg : h.get i = some ⟨us, b, e⟩) {x : Nat} {v : Value} (hx : us[x]? = some v) : h.rd i (0 + x * 1) 1 = some [v] := by
  rw [Nat.mul_one]; exact rd_f hg hx
theorem rd_all {h : Hp} {i n : Nat} {us : List Value} {b : Bool} {e : Nat} (hg : h.get i = some ⟨us, b, e⟩) (hn : us.length = n) : h.rd i 0 n = some us := by
  unfold Hp.rd
  simp only [hg]
  rw [if_pos (by omega)]
  simp [← hn]
/-- A result that stands in a cell of its own. -/
theorem end_cell1 {a i n m : Nat} {t : TypeId} {dd : TypeDesc} {us : List Value} {b : Bool} (e : getF env a = some (.pointer (some ⟨i, 0, none⟩))) (hg : h.get i = some ⟨us, b, m⟩) (hu : P.underlying t = some dd) (hd : isAggD dd = true) (hi : (P.info? t).map (·.size) = some n) (hl : us.length = n) (r : R (.agg ⟨us⟩) h) : endQ P [.cell a t] R .ret env h := by
  refine ⟨[.agg ⟨us⟩], ?_, r⟩
  rw [getF_eq] at e
  cases hti : P.info? t with
  | none => rw [hti] at hi; cases hi
  | some ti =>
  rw [hti] at hi
  have hn : ti.size = n := Option.some.inj hi
  have : h.rd i 0 ti.size = some us := rd_all hg (by rw [hl, hn])
  simp [resAll, resOne, e, hu, hd, hti, this]
end
end Go.Proofs.YtnebdnbglggdkaaDoorW.Am
