/- For use: what the steps come to, in small lemmas. -/
import Derived.Test.YtnebdnbglggdkaaDoorAmQ
namespace Go.Proofs.YtnebdnbglggdkaaDoorW.Am
open Go Go.RowKit
section
variable {P : Program} {CT : CTy} {r : List In} {env : Env} {h h' : Hp} {Q : Env → Hp → Prop} {d : Option Nat} {k : K} {xs : List Operand} {vs : List Value} {v : Value}

theorem flat_int (k : IntKind) (n : Int) : flat (.int k n) = true := rfl
theorem flat_bool (b : Bool) : flat (.bool b) = true := rfl
theorem flat_string (s : ByteArray) : flat (.string s) = true := rfl
theorem flat_nils (n c : Nat) : flat (.slice none n c) = true := rfl
theorem flat_nilp : flat (.pointer none) = true := rfl
theorem flat_nili : flat .nilIface = true := rfl
theorem flat_nilf : flat .nilFunc = true := rfl
theorem flat_nilm : flat (.map none) = true := rfl

/-- One operation. -/
def opS (env : Env) (k : K) (xs : List Operand) (h : Hp) : Option (Value × Hp) :=
  match mapE env xs with
  | some vs => stepK k vs h
  | none => none
theorem st (e : opS env k xs h = some (v, h')) (n : wpS P CT r (env.put d v) h' Q) : wpS P CT (⟨d, none, .op k xs⟩ :: r) env h Q := by
  unfold opS at e
  unfold wpS wpIn
  simp only [wanted]
  split at e
  · next vs hv => simp only [hv, e]; exact n
  · cases e
theorem stT {t : Nat} {b c : Bool} (g : env.get t = some (.bool c)) (hc : (c == b) = true) (e : opS env k xs h = some (v, h')) (n : wpS P CT r (env.put d v) h' Q) : wpS P CT (⟨d, some (t, b), .op k xs⟩ :: r) env h Q := by
  unfold opS at e
  unfold wpS wpIn
  simp only [wanted, g, hc]
  split at e
  · next vs hv => simp only [hv, e]; exact n
  · cases e
theorem stF {t : Nat} {b c : Bool} {ik : IK} (g : env.get t = some (.bool c)) (hc : (c == b) = false) (n : wpS P CT r (env.put d undef) h Q) : wpS P CT (⟨d, some (t, b), ik⟩ :: r) env h Q := by
  unfold wpS wpIn
  simp only [wanted, g, hc]
  exact n
theorem stU {t : Nat} {b : Bool} {ik : IK} (g : env.get t = some undef) (n : wpS P CT r (env.put d undef) h Q) : wpS P CT (⟨d, some (t, b), ik⟩ :: r) env h Q := by
  unfold wpS wpIn
  simp only [wanted, g, undef]
  exact n
theorem stC {f : FuncId} (e : mapE env xs = some vs) (c : CT f vs h fun v h' => wpS P CT r (env.put d v) h' Q) : wpS P CT (⟨d, none, .call f xs⟩ :: r) env h Q := by
  unfold wpS wpIn
  simp only [wanted, e]
  exact c
theorem stCT {f : FuncId} {t : Nat} {b c : Bool} (g : env.get t = some (.bool c)) (hc : (c == b) = true) (e : mapE env xs = some vs) (c : CT f vs h fun v h' => wpS P CT r (env.put d v) h' Q) : wpS P CT (⟨d, some (t, b), .call f xs⟩ :: r) env h Q := by
  unfold wpS wpIn
  simp only [wanted, g, hc, e]
  exact c

theorem thenQ_n {P : Program} {n : Nat} {b : IC} {Q : Exit → Env → Hp → Prop} {env : Env} {h : Hp} : thenQ P n b Q .normal env h = AI P n b env h Q := rfl
theorem thenQ_x {P : Program} {n : Nat} {b : IC} {Q : Exit → Env → Hp → Prop} {env : Env} {h : Hp} {i : Nat} : thenQ P n b Q (.exit i) env h = Q (.exit i) env h := rfl
theorem thenQ_r {P : Program} {n : Nat} {b : IC} {Q : Exit → Env → Hp → Prop} {env : Env} {h : Hp} : thenQ P n b Q .ret env h = Q .ret env h := rfl
theorem blockQ_n {j : Nat} {Q : Exit → Env → Hp → Prop} {env : Env} {h : Hp} : blockQ j Q .normal env h = Q .normal env h := rfl
theorem blockQ_x {j i : Nat} {Q : Exit → Env → Hp → Prop} {env : Env} {h : Hp} : blockQ j Q (.exit i) env h = if i = j then Q .normal env h else Q (.exit i) env h := rfl
theorem blockQ_r {j : Nat} {Q : Exit → Env → Hp → Prop} {env : Env} {h : Hp} : blockQ j Q .ret env h = Q .ret env h := rfl
theorem roundQ_n {I : Env → Hp → Nat → Prop} {k : Nat} {Q : Exit → Env → Hp → Prop} {env : Env} {h : Hp} : roundQ I k Q .normal env h = ∃ j, j < k ∧ I env h j := rfl
theorem roundQ_x {I : Env → Hp → Nat → Prop} {k i : Nat} {Q : Exit → Env → Hp → Prop} {env : Env} {h : Hp} : roundQ I k Q (.exit i) env h = Q (.exit i) env h := rfl
theorem roundQ_r {I : Env → Hp → Nat → Prop} {k : Nat} {Q : Exit → Env → Hp → Prop} {env : Env} {h : Hp} : roundQ I k Q .ret env h = Q .ret env h := rfl
theorem end_one {P : Program} {t : Nat} {R : Value → Hp → Prop} {env : Env} {h : Hp} {v : Value} (e : env.get t = some v) (r : R v h) : endQ P [.tmp t] R .ret env h := ⟨[v], by simp [resAll, resOne, e], r⟩
theorem end_two {P : Program} {t u : Nat} {R : Value → Hp → Prop} {env : Env} {h : Hp} {v w : Value} (e : env.get t = some v) (e2 : env.get u = some w) (r : R (.tuple #[v, w]) h) : endQ P [.tmp t, .tmp u] R .ret env h := ⟨[v, w], by simp [resAll, resOne, e, e2], r⟩
theorem end_oneN {P : Program} {t : Nat} {R : Value → Hp → Prop} {env : Env} {h : Hp} {v : Value} (e : env.get t = some v) (r : R v h) : endQ P [.tmp t] R .normal env h := ⟨[v], by simp [resAll, resOne, e], r⟩
end
end Go.Proofs.YtnebdnbglggdkaaDoorW.Am
