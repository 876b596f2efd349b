/- Regions whose order is open: one order (reads as early as they may be) stands for all. -/
import Derived.Test.YtnebdnbglggdkaaDoorAmP
namespace Go.Proofs.YtnebdnbglggdkaaDoorW.Am
open Go Go.RowKit

/-- Does the kind leave the heap, and look at nothing in it? -/
def pureK : K → Bool
  | .mv | .pick | .bin _ | .bbin _ | .isn _ | .not | .neg | .cvt _ | .bld _ _ _ | .nck | .ifc _ | .tas _ _ _ | .clo _ _ | .slc _ _ _ _ | .sla _ _ _ _ _ | .sls _ _ | .fad _ | .fld _ _ _ | .iad _ | .iaa _ _ | .ixa _ _ _ _ | .ixs | .ext _ | .len | .lens | .lenc _ | .mm _ => true
  | _ => false
def readK : K → Bool
  | .ld1 | .ldn _ => true
  | _ => false
def pureIn (i : In) : Bool := match i.k with
  | .op k _ => pureK k
  | .fl _ _ => true
  | _ => false
def readIn (i : In) : Bool := match i.k with
  | .op k _ => readK k
  | _ => false
def effIn (i : In) : Bool := !(pureIn i || readIn i)
def tmpsOf : List Operand → List Nat
  | [] => []
  | .tmp t :: r => t :: tmpsOf r
  | _ :: r => tmpsOf r
def looksK : IK → List Nat
  | .op _ xs => tmpsOf xs
  | .fl op _ => tmpsOf op.operands.toList
  | .call _ xs => tmpsOf xs
  | .callv x xs => tmpsOf (x :: xs)
def looks (i : In) : List Nat := (match i.g with | some (t, _) => [t] | none => []) ++ looksK i.k

structure DE where
  ix : Nat
  i : In
  eff : Bool
  re : List In

/-- A read that is made again behind an effect finds what it found. -/
def again (i : In) (env : Env) (h : Hp) : Prop :=
  match wanted i.g env, i.k, i.d with
  | some false, _, _ => True
  | some true, .op k xs, some d => match mapE env xs with
    | some vs => match env.get d with
      | some v => stepK k vs h = some (v, h)
      | none => False
    | none => False
  | _, _, _ => False
def allAgain (l : List In) (env : Env) (h : Hp) : Prop :=
  match l with
  | [] => True
  | i :: r => again i env h ∧ allAgain r env h
def wpD (P : Program) (CT : CTy) : List DE → Env → Hp → (Env → Hp → Prop) → Prop
  | [], env, h, Q => Q env h
  | x :: r, env, h, Q => wpIn P CT x.i env h fun v h' => allAgain x.re env h' ∧ wpD P CT r (env.put x.i.d v) h' Q

def eagerOk (mk : Nat → Nat) : Option Nat → List DE → Bool
  | _, [] => true
  | last, x :: r => (match last with | some e => (mk x.ix).testBit e | none => true) && eagerOk mk (if x.eff then some x.ix else last) r

section
variable {P : Program} {base : Nat} {w0 w : World} {m : Mu} {h : Hp} {n : Nat} {env : Env}

theorem pureK_step {k : K} (hk : pureK k = true) {vs : List Value} {v : Value} {h h' h2 : Hp} (e : stepK k vs h = some (v, h')) : h' = h ∧ stepK k vs h2 = some (v, h2) := by
  revert e
  fun_cases stepK k vs h <;> first | (exact absurd hk Bool.false_ne_true) | (intro e; simp_all [stepK]; done) | (intro e; simp_all [stepK]; obtain ⟨_, h1, rfl, rfl⟩ := e; simp_all; done) | (intro e; simp_all [stepK]; obtain ⟨h1, rfl, rfl⟩ | ⟨h1, rfl, rfl⟩ := e <;> (simp_all; done)) | (intro e; simp_all [stepK]; obtain ⟨a, b, h1, rfl, rfl⟩ := e; exact ⟨rfl, a, b, h1, rfl⟩)
theorem readK_step {k : K} (hk : readK k = true) {vs : List Value} {v : Value} {h h' : Hp} (e : stepK k vs h = some (v, h')) : h' = h := by
  revert e
  fun_cases stepK k vs h <;> first | (exact absurd hk Bool.false_ne_true) | (intro e; simp_all; done) | (intro e; simp at e; obtain ⟨_, _, _, rfl⟩ := e; rfl)

theorem mem_tmpsOf {xs : List Operand} {t : Nat} (hx : Operand.tmp t ∈ xs) : t ∈ tmpsOf xs := by
  induction xs with
  | nil => cases hx
  | cons x xs ih =>
    cases x with
    | tmp u =>
      rcases List.mem_cons.1 hx with h | h
      · cases h; simp [tmpsOf]
      · simp [tmpsOf, ih h]
    | const c => rcases List.mem_cons.1 hx with h | h; cases h; exact ih h
    | global g => rcases List.mem_cons.1 hx with h | h; cases h; exact ih h
    | func f => rcases List.mem_cons.1 hx with h | h; cases h; exact ih h

theorem evA_congr {env' : Env} {x : Operand} (hx : ∀ t, x = .tmp t → env.get t = env'.get t) : evA env x = evA env' x := by
  cases x <;> simp only [evA]
  exact hx _ rfl
theorem mapE_congr {env' : Env} {xs : List Operand} (hx : ∀ t, t ∈ tmpsOf xs → env.get t = env'.get t) : mapE env xs = mapE env' xs := by
  induction xs with
  | nil => rfl
  | cons x xs ih =>
    have h1 : evA env x = evA env' x := evA_congr fun t ht => hx t (mem_tmpsOf (by rw [ht]; simp))
    have h2 : mapE env xs = mapE env' xs := ih fun t ht => hx t (by cases x <;> simp [tmpsOf, ht])
    simp only [mapE, h1, h2]
theorem flatStep_congr {env' : Env} {op : Op} {ty : TypeId} (hs : ∀ cs b, op ≠ .select cs b) (hx : ∀ t, t ∈ tmpsOf op.operands.toList → env.get t = env'.get t) : flatStep P env op ty = flatStep P env' op ty := by
  have h1 : ∀ x ∈ op.operands.toList, evA env x = evA env' x := fun x hxm => evA_congr fun t ht => hx t (mem_tmpsOf (by rw [← ht]; exact hxm))
  unfold flatStep
  have h2 : allFlat env op.operands.toList = allFlat env' op.operands.toList := by
    unfold allFlat
    rw [Bool.eq_iff_iff, List.all_eq_true, List.all_eq_true]
    constructor
    · intro h x hxm; rw [← h1 x hxm]; exact h x hxm
    · intro h x hxm; rw [h1 x hxm]; exact h x hxm
  have h3 : execOp (fun x => (evA env x).getD undef) ⟨none, op, ty, "", #[], none⟩ = execOp (fun x => (evA env' x).getD undef) ⟨none, op, ty, "", #[], none⟩ := execOp_congr _ hs fun x hxm => by rw [h1 x (by simpa using hxm)]
  rw [h2, h3]
theorem wanted_congr {env' : Env} {g : Option (Nat × Bool)} (hx : ∀ t b, g = some (t, b) → env.get t = env'.get t) : wanted g env = wanted g env' := by
  cases g with
  | none => rfl
  | some p => obtain ⟨t, b⟩ := p; simp only [wanted, hx t b rfl]

/-- An instruction that is no select (none is). -/
def noSel (i : In) : Prop := ∀ op ty, i.k = .fl op ty → ∀ cs b, op ≠ .select cs b
theorem wpIn_congr {CT : CTy} {env' : Env} {i : In} {R : Value → Hp → Prop} (hs : noSel i) (hx : ∀ t, t ∈ looks i → env.get t = env'.get t) (e : wpIn P CT i env h R) : wpIn P CT i env' h R := by
  have hg : wanted i.g env' = wanted i.g env := (wanted_congr fun t b hb => (hx t (by simp [looks, hb]))).symm
  have hk : ∀ t, t ∈ looksK i.k → env.get t = env'.get t := fun t ht => hx t (by simp [looks, ht])
  unfold wpIn at e ⊢
  rw [hg]
  split at e
  · exact e
  · exact e
  · split at e
    · next k xs hik =>
      rw [← mapE_congr (env := env) (env' := env') fun t ht => hk t (by rw [hik]; exact ht)]
      exact e
    · next op ty hik =>
      rw [← flatStep_congr (env := env) (env' := env') (hs _ _ hik) fun t ht => hk t (by rw [hik]; exact ht)]
      exact e
    · next f xs hik =>
      rw [← mapE_congr (env := env) (env' := env') fun t ht => hk t (by rw [hik]; exact ht)]
      exact e
    · next x xs hik =>
      have h1 : evA env' x = evA env x := (evA_congr fun t ht => hk t (by rw [hik]; subst ht; simp [looksK, tmpsOf])).symm
      have h2 : mapE env' xs = mapE env xs := (mapE_congr fun t ht => hk t (by rw [hik]; cases x <;> simp [looksK, tmpsOf, ht])).symm
      rw [h1, h2]
      exact e
theorem noSel_of {ops : Array Oper} {o : Oper} {i : In} (hi : compIn P n ops o = some i) : noSel i := by
  intro op ty hk cs b hop
  unfold compIn at hi
  split at hi
  · split at hi
    · next g k hg hkk =>
      cases hi
      simp only at hk
      subst hk
      have h1 : op = o.op := by
        unfold compK at hkk
        split at hkk <;> try (cases hkk; done)
        split at hkk <;> cases hkk
        rfl
      have h2 : compK P o = none := by
        unfold compK
        rw [← h1, hop]
      rw [h2] at hkk
      cases hkk
    · cases hi
  · cases hi

/-- What a quiet instruction yields. -/
theorem quiet_in {CT : CTy} {i : In} {R : Value → Hp → Prop} (hq : pureIn i = true ∨ readIn i = true) (e : wpIn P CT i env h R) : ∃ v, R v h ∧ wpIn P CT i env h (fun u h' => u = v ∧ h' = h) := by
  unfold wpIn at e ⊢
  split at e
  · exact e.elim
  · exact ⟨_, e, rfl, rfl⟩
  · split at e
    · next k xs hik =>
      split at e
      · exact e.elim
      · split at e
        · exact e.elim
        · next v h' hst =>
          have : h' = h := by
            rcases hq with hq | hq
            · exact (pureK_step (h2 := h) (by simpa [pureIn, hik] using hq) hst).1
            · exact readK_step (by simpa [readIn, hik] using hq) hst
          subst this
          exact ⟨v, e, rfl, rfl⟩
    · split at e
      · exact e.elim
      · exact ⟨_, e, rfl, rfl⟩
    · next hik => simp [pureIn, readIn, hik] at hq
    · next hik => simp [pureIn, readIn, hik] at hq
theorem pure_in {CT : CTy} {i : In} {v : Value} {h2 : Hp} (hq : pureIn i = true) (e : wpIn P CT i env h (fun u h' => u = v ∧ h' = h)) : wpIn P CT i env h2 (fun u h' => u = v ∧ h' = h2) := by
  unfold wpIn at e ⊢
  split at e
  · exact e.elim
  · exact ⟨e.1, rfl⟩
  · split at e
    · next k xs hik =>
      split at e
      · exact e.elim
      · split at e
        · exact e.elim
        · next u h' hst =>
          rw [(pureK_step (h2 := h2) (by simpa [pureIn, hik] using hq) hst).2]
          exact ⟨e.1, rfl⟩
    · split at e
      · exact e.elim
      · exact ⟨e.1, rfl⟩
    · next hik => simp [pureIn, hik] at hq
    · next hik => simp [pureIn, hik] at hq
theorem again_in {CT : CTy} {i : In} (_ : readIn i = true) (e : again i env h) : wpIn P CT i env h (fun u h' => h' = h ∧ ∀ d, i.d = some d → wanted i.g env = some true → env.get d = some u) := by
  unfold again at e
  unfold wpIn
  split at e
  · next hw => rw [hw]; exact ⟨rfl, fun d _ h => by cases h⟩
  · next k xs d hw hk hd =>
    rw [hw, hk]
    simp only
    split at e
    · next vs hvs =>
      split at e
      · next v hg =>
        simp only [hvs, e]
        exact ⟨trivial, fun d' hd' _ => by rw [hd] at hd'; cases hd'; exact hg⟩
      · exact e.elim
    · exact e.elim
  · exact e.elim
end
end Go.Proofs.YtnebdnbglggdkaaDoorW.Am
