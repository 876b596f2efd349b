/- Regions in the order of the text: instructions, what they do to what is known of the frame and to the abstract heap. -/
import Derived.Test.YtnebdnbglggdkaaDoorAmN
import Derived.Orders
namespace Go.Proofs.YtnebdnbglggdkaaDoorW.Am
open Go Go.RowKit

/-- What is known of a frame: slots and abstract values (the first entry counts). -/
abbrev Env := List (Nat × Value)
def Env.get : Env → Nat → Option Value
  | [], _ => none
  | (k, v) :: r, t => if k = t then some v else Env.get r t
def Env.put (env : Env) (d : Option Nat) (v : Value) : Env :=
  match d with
  | some d => (d, v) :: env
  | none => env
def evA (env : Env) : Operand → Option Value
  | .tmp t => env.get t
  | .const v => if flat v then some v else none
  | .func f => some (.func (.func f) #[] #[])
  | .global _ => none
def mapE (env : Env) : List Operand → Option (List Value)
  | [] => some []
  | x :: r => match evA env x with
    | some v => match mapE env r with
      | some vs => some (v :: vs)
      | none => none
    | none => none
def allFlat (env : Env) (xs : List Operand) : Bool := xs.all fun x => match evA env x with | some v => flat v | none => false
/-- An operation on values without addresses, by the model's own run. -/
def flatStep (P : Program) (env : Env) (op : Op) (ty : TypeId) : Option Value :=
  if allFlat env op.operands.toList = true then
    match pureSem P (execOp (fun x => (evA env x).getD undef) ⟨none, op, ty, "", #[], none⟩) with
    | some (.value v) => if flat v then some v else none
    | _ => none
  else none

inductive IK
  | op (k : K) (xs : List Operand)
  | fl (op : Op) (ty : TypeId)
  | call (f : FuncId) (xs : List Operand)
  | callv (x : Operand) (xs : List Operand)
/-- An instruction: where it puts its value, under what guard, what it does. -/
structure In where
  d : Option Nat
  g : Option (Nat × Bool)
  k : IK

def wanted (g : Option (Nat × Bool)) (env : Env) : Option Bool :=
  match g with
  | none => some true
  | some (t, b) => match env.get t with
    | some (.bool c) => some (c == b)
    | some (.tuple ⟨[]⟩) => some false
    | _ => none

abbrev CTy := FuncId → List Value → Hp → (Value → Hp → Prop) → Prop

/-- One instruction. -/
def wpIn (P : Program) (CT : CTy) (i : In) (env : Env) (h : Hp) (R : Value → Hp → Prop) : Prop :=
  match wanted i.g env with
  | none => False
  | some false => R undef h
  | some true => match i.k with
    | .op k xs => match mapE env xs with
      | none => False
      | some vs => match stepK k vs h with
        | none => False
        | some (v, h') => R v h'
    | .fl op ty => match flatStep P env op ty with
      | none => False
      | some v => R v h
    | .call f xs => match mapE env xs with
      | none => False
      | some vs => CT f vs h R
    | .callv x xs => match evA env x, mapE env xs with
      | some (.func (.func f) a b), some vs => CT f (a.toList ++ vs ++ b.toList) h R
      | _, _ => False
/-- A region's instructions one behind the other. -/
def wpS (P : Program) (CT : CTy) : List In → Env → Hp → (Env → Hp → Prop) → Prop
  | [], env, h, Q => Q env h
  | i :: r, env, h, Q => wpIn P CT i env h fun v h' => wpS P CT r (env.put i.d v) h' Q

def REnv (m : Mu) (n : Nat) (env : Env) (tmps : Array Value) : Prop := tmps.size = n ∧ ∀ t v, env.get t = some v → ∃ v', tmps[t]? = some v' ∧ RV m v v'

/-- The function has a body of its own. -/
def Enters (P : Program) (f : FuncId) : Prop := ∃ fn, P.funcs[f]? = some fn ∧ fn.body ≠ none ∧ fn.name ≠ "runtime.NumGoroutine"
/-- A call, over abstract heaps. -/
def ACall (P : Program) (f : FuncId) (args : List Value) (h : Hp) (R : Value → Hp → Prop) : Prop :=
  Enters P f ∧ ∀ base w0 m w args', RVs m args args' → Sim base w0 m h w →
    Calls P f args'.toArray w fun e w' => ∃ m' v v' h', e = .returned v' ∧ m.le m' ∧ RV m' v v' ∧ Sim base w0 m' h' w' ∧ R v h'

theorem ACall.mono {P : Program} {f : FuncId} {args : List Value} {h : Hp} {R R' : Value → Hp → Prop} (c : ACall P f args h R) (hr : ∀ v h', R v h' → R' v h') : ACall P f args h R' :=
  ⟨c.1, fun base w0 m w args' ra s => (c.2 base w0 m w args' ra s).mono fun _ _ ⟨m', v, v', h', h1, h2, h3, h4, h5⟩ => ⟨m', v, v', h', h1, h2, h3, h4, hr _ _ h5⟩⟩

section
variable {P : Program} {base : Nat} {w0 w : World} {m : Mu} {h : Hp} {n : Nat} {env : Env}

theorem REnv.mono {m m' : Mu} (hm : m.le m') {tmps : Array Value} (r : REnv m n env tmps) : REnv m' n env tmps :=
  ⟨r.1, fun t v e => let ⟨v', a, b⟩ := r.2 t v e; ⟨v', a, b.mono hm⟩⟩

theorem REnv.eval {a : Act} (r : REnv m n env a.tmps) {x : Operand} {v : Value} (e : evA env x = some v) : RV m v (a.eval x) := by
  cases x with
  | tmp t =>
    obtain ⟨v', h1, h2⟩ := r.2 t v e
    simp only [Act.eval, Array.getD_eq_getD_getElem?, h1, Option.getD_some]
    exact h2
  | const c =>
    simp only [evA] at e
    split at e
    · next hf => cases e; exact RV.of_flat m _ hf
    · cases e
  | func f =>
    simp only [evA, Option.some.injEq] at e
    subst e
    exact .func rfl rfl (by simp) (by simp)
  | global g => cases e

theorem REnv.mapE {a : Act} (r : REnv m n env a.tmps) : ∀ {xs : List Operand} {vs : List Value}, mapE env xs = some vs → RVs m vs (xs.map a.eval) := by
  intro xs
  induction xs with
  | nil => intro vs e; cases e; exact RVs.nil m
  | cons x xs ih =>
    intro vs e
    simp only [Am.mapE] at e
    split at e
    · next v hv =>
      split at e
      · next us hus => cases e; exact RVs.cons (r.eval hv) (ih hus)
      · cases e
    · cases e

theorem REnv.put {a : Act} (r : REnv m n env a.tmps) {d : Option Nat} {v v' : Value} (hd : ∀ x, d = some x → x < n) (rv : RV m v v') : REnv m n (env.put d v) (a.put d v').tmps := by
  cases d with
  | none => exact r
  | some d =>
    refine ⟨by simp [Act.put, r.1], fun t u e => ?_⟩
    simp only [Env.put, Env.get] at e
    split at e
    · next ht =>
      subst ht; cases e
      have := hd d rfl
      exact ⟨v', by simp [Act.put, r.1, this], rv⟩
    · next ht =>
      obtain ⟨u', h1, h2⟩ := r.2 t u e
      exact ⟨u', by simp only [Act.put]; rw [Array.getElem?_setIfInBounds, if_neg ht]; exact h1, h2⟩

theorem flatStep_sound {a : Act} (r : REnv m n env a.tmps) {o : Oper} {v : Value} (hs : ∀ cs b, o.op ≠ .select cs b) (e : flatStep P env o.op o.type = some v) : (execOp a.eval o).run P w = .ok (.value v) w ∧ RV m v v := by
  unfold flatStep at e
  split at e
  case isFalse => cases e
  case isTrue hf =>
  split at e
  case h_2 => cases e
  case h_1 u hu =>
  split at e
  case isFalse => cases e
  case isTrue hv =>
  cases e
  refine ⟨?_, RV.of_flat m _ hv⟩
  have hc : execOp a.eval o = execOp (fun x => (evA env x).getD undef) ⟨none, o.op, o.type, "", #[], none⟩ := by
    have h1 : execOp (fun x => (evA env x).getD undef) ⟨none, o.op, o.type, "", #[], none⟩ = execOp (fun x => (evA env x).getD undef) o := by
      obtain ⟨dst, op, ty, pos, af, g⟩ := o
      rfl
    rw [h1]
    refine execOp_congr o hs ?_
    intro x hx
    unfold allFlat at hf
    rw [List.all_eq_true] at hf
    have := hf x (by simpa using hx)
    split at this
    · next q hq => rw [hq]; exact (r.eval hq).flat_eq this
    · cases this
  rw [hc]
  exact pureSem_run hu w
end
end Go.Proofs.YtnebdnbglggdkaaDoorW.Am
