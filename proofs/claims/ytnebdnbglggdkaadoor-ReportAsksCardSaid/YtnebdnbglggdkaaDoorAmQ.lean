/- Code: what is to be shown of it over abstract heaps, and the rules. -/
import Derived.Test.YtnebdnbglggdkaaDoorAmT
namespace Go.Proofs.YtnebdnbglggdkaaDoorW.Am
open Go Go.RowKit

inductive IC
  | skip
  | reg (ins : List In)
  | drw (L : List DE)
  | seq (a b : IC)
  | cond (c : Operand) (a b : IC)
  | block (id : Nat) (a : IC)
  | loop (a : IC)
  | exit (id : Nat)
  | ret

/-- Code as instructions. A region whose order is open stays as it is. -/
def compC (P : Program) (n : Nat) : Code → Option IC
  | .skip => some .skip
  | .region _ ops draw => if draw then (drawL P n ops).map .drw else (compIns P n ops ops.toList).map .reg
  | .seq a b => match compC P n a, compC P n b with
    | some x, some y => some (.seq x y)
    | _, _ => none
  | .cond c a b => match compC P n a, compC P n b with
    | some x, some y => some (.cond c x y)
    | _, _ => none
  | .block id a => (compC P n a).map (.block id)
  | .loop a => (compC P n a).map .loop
  | .exit id => some (.exit id)
  | .ret => some .ret
  | _ => none

/-- What is to be shown of code. -/
def AW (P : Program) (n : Nat) (c : Code) (env : Env) (h : Hp) (Q : Exit → Env → Hp → Prop) : Prop :=
  ∀ base w0 m a w, REnv m n env a.tmps → a.defers = [] → Sim base w0 m h w →
    c.wp P (fun ex a' w' => ∃ m' env' h', m.le m' ∧ REnv m' n env' a'.tmps ∧ a'.defers = [] ∧ Sim base w0 m' h' w' ∧ Q ex env' h') a w
def AI (P : Program) (n : Nat) (c : IC) (env : Env) (h : Hp) (Q : Exit → Env → Hp → Prop) : Prop :=
  ∀ d, compC P n d = some c → AW P n d env h Q

def thenQ (P : Program) (n : Nat) (b : IC) (Q : Exit → Env → Hp → Prop) : Exit → Env → Hp → Prop
  | .normal, env, h => AI P n b env h Q
  | e, env, h => Q e env h
def blockQ (id : Nat) (Q : Exit → Env → Hp → Prop) : Exit → Env → Hp → Prop
  | .exit j, env, h => if j = id then Q .normal env h else Q (.exit j) env h
  | e, env, h => Q e env h

theorem exists_least {p : Nat → Prop} : ∀ k, p k → ∃ n, p n ∧ ∀ j, p j → n ≤ j := by
  intro k
  induction k using Nat.strongRecOn with
  | _ k ih =>
    intro hk
    by_cases h : ∃ j, j < k ∧ p j
    · obtain ⟨j, hj, pj⟩ := h
      exact ih j hj pj
    · exact ⟨k, hk, fun j pj => Nat.le_of_not_lt fun hlt => h ⟨j, hlt, pj⟩⟩
noncomputable def least (p : Nat → Prop) : Nat := open Classical in if h : ∃ n, p n ∧ ∀ j, p j → n ≤ j then Classical.choose h else 0
theorem least_spec {p : Nat → Prop} {k : Nat} (hk : p k) : p (least p) ∧ ∀ j, p j → least p ≤ j := by
  have h := exists_least k hk
  unfold least
  rw [dif_pos h]
  exact Classical.choose_spec h

section
variable {P : Program} {n : Nat} {env : Env} {h : Hp} {Q : Exit → Env → Hp → Prop}

theorem AW.mono {c : Code} {Q' : Exit → Env → Hp → Prop} (a : AW P n c env h Q) (hq : ∀ e env h, Q e env h → Q' e env h) : AW P n c env h Q' :=
  fun base w0 m ac w r hd s => wp_mono (a base w0 m ac w r hd s) fun _ _ _ ⟨m', env', h', h1, h2, h3, h4, h5⟩ => ⟨m', env', h', h1, h2, h3, h4, hq _ _ _ h5⟩
theorem AI.mono {c : IC} {Q' : Exit → Env → Hp → Prop} (a : AI P n c env h Q) (hq : ∀ e env h, Q e env h → Q' e env h) : AI P n c env h Q' :=
  fun d hd => (a d hd).mono hq

def EnvLe (a b : Env) : Prop := ∀ t v, a.get t = some v → b.get t = some v
/-- Less may be known of the frame. -/
theorem AI.weak {c : IC} {env' : Env} (hl : EnvLe env' env) (a : AI P n c env' h Q) : AI P n c env h Q :=
  fun d hd base w0 m ac w r hdf s => a d hd base w0 m ac w ⟨r.1, fun t v e => r.2 t v (hl t v e)⟩ hdf s

theorem ai_skip (hq : Q .normal env h) : AI P n .skip env h Q := by
  intro d hd base w0 m a w r hdf s
  cases d <;> simp only [compC, reduceCtorEq] at hd
  · exact wp_skip ⟨m, env, h, m.le_refl, r, hdf, s, hq⟩
  all_goals (first | (split at hd <;> simp at hd; done) | simp at hd)

theorem ai_ret (hq : Q .ret env h) : AI P n .ret env h Q := by
  intro d hd base w0 m a w r hdf s
  cases d <;> simp only [compC, reduceCtorEq] at hd
  case ret => exact wp_ret ⟨m, env, h, m.le_refl, r, hdf, s, hq⟩
  all_goals (first | (split at hd <;> simp at hd; done) | simp at hd)

theorem ai_exit {id : Nat} (hq : Q (.exit id) env h) : AI P n (.exit id) env h Q := by
  intro d hd base w0 m a w r hdf s
  cases d <;> simp only [compC, reduceCtorEq, Option.some.injEq, IC.exit.injEq] at hd
  case exit j => subst hd; exact wp_exit ⟨m, env, h, m.le_refl, r, hdf, s, hq⟩
  all_goals (first | (split at hd <;> simp at hd; done) | simp at hd)

theorem ai_seq {x y : IC} (hx : AI P n x env h (thenQ P n y Q)) : AI P n (.seq x y) env h Q := by
  intro d hd base w0 m a w r hdf s
  cases d <;> simp only [compC, reduceCtorEq] at hd
  case seq c1 c2 =>
    split at hd
    case h_2 => cases hd
    case h_1 x' y' h1 h2 =>
    cases hd
    refine wp_seq (wp_mono (hx c1 h1 base w0 m a w r hdf s) ?_)
    rintro ex a' w' ⟨m', env', h', g1, g2, g3, g4, g5⟩
    cases ex with
    | normal =>
      refine wp_mono (g5 c2 h2 base w0 m' a' w' g2 g3 g4) ?_
      rintro ex a2 w2 ⟨m2, env2, h2, k1, k2⟩
      exact ⟨m2, env2, h2, Mu.le_trans g1 k1, k2⟩
    | exit j => exact ⟨m', env', h', g1, g2, g3, g4, g5⟩
    | goto l => exact ⟨m', env', h', g1, g2, g3, g4, g5⟩
    | ret => exact ⟨m', env', h', g1, g2, g3, g4, g5⟩
    | panic ch => exact ⟨m', env', h', g1, g2, g3, g4, g5⟩
    | outgrown => exact ⟨m', env', h', g1, g2, g3, g4, g5⟩
  all_goals (first | (split at hd <;> simp at hd; done) | simp at hd)

theorem ai_block {id : Nat} {x : IC} (hx : AI P n x env h (blockQ id Q)) : AI P n (.block id x) env h Q := by
  intro d hd base w0 m a w r hdf s
  cases d <;> simp only [compC, reduceCtorEq] at hd
  case block j c =>
    simp only [Option.map_eq_some_iff, IC.block.injEq] at hd
    obtain ⟨x', h1, rfl, rfl⟩ := hd
    refine wp_block (wp_mono (hx c h1 base w0 m a w r hdf s) ?_)
    rintro ex a' w' ⟨m', env', h', g1, g2, g3, g4, g5⟩
    cases ex with
    | exit i =>
      simp only [blockQ] at g5
      simp only [Exit.inBlock]
      split
      · next hi => rw [if_pos hi] at g5; exact ⟨m', env', h', g1, g2, g3, g4, g5⟩
      · next hi => rw [if_neg hi] at g5; exact ⟨m', env', h', g1, g2, g3, g4, g5⟩
    | normal => exact ⟨m', env', h', g1, g2, g3, g4, g5⟩
    | goto l => exact ⟨m', env', h', g1, g2, g3, g4, g5⟩
    | ret => exact ⟨m', env', h', g1, g2, g3, g4, g5⟩
    | panic ch => exact ⟨m', env', h', g1, g2, g3, g4, g5⟩
    | outgrown => exact ⟨m', env', h', g1, g2, g3, g4, g5⟩
  all_goals (first | (split at hd <;> simp at hd; done) | simp at hd)

theorem ai_cond {c : Operand} {x y : IC} {b : Bool} (hc : evA env c = some (.bool b)) (hx : b = true → AI P n x env h Q) (hy : b = false → AI P n y env h Q) : AI P n (.cond c x y) env h Q := by
  intro d hd base w0 m a w r hdf s
  cases d <;> simp only [compC, reduceCtorEq] at hd
  case cond c' c1 c2 =>
    split at hd
    case h_2 => cases hd
    case h_1 x' y' h1 h2 =>
    cases hd
    have hv := (r.eval hc).scalar_bool
    exact wp_cond_split hv (fun hb => hx hb c1 h1 base w0 m a w r hdf s) (fun hb => hy hb c2 h2 base w0 m a w r hdf s)
  all_goals (first | (split at hd <;> simp at hd; done) | simp at hd)

theorem ai_reg {ins : List In} (hx : wpS P (ACall P) ins env h (fun env' h' => Q .normal env' h')) : AI P n (.reg ins) env h Q := by
  intro d hd base w0 m a w r hdf s
  cases d <;> simp only [compC, reduceCtorEq] at hd
  case region id ops draw =>
    split at hd
    · simp at hd
    · next hdr =>
      simp only [Option.map_eq_some_iff, IC.reg.injEq] at hd
      obtain ⟨is, h1, rfl⟩ := hd
      have hdr : draw = false := by simpa using hdr
      subst hdr
      refine wp_region ?_
      have := wpS_sound (P := P) (Q := fun env' h' => Q .normal env' h') (Q' := fun ex a' w' => ∃ m' env' h', m.le m' ∧ REnv m' n env' a'.tmps ∧ a'.defers = [] ∧ Sim base w0 m' h' w' ∧ Q ex env' h') ops.toList [] is m env h a w (by simp) h1 r hdf s hx
        (fun m' env' h' a' w' g1 g2 g3 g4 g5 => ⟨m', env', h', g1, g2, g3, g4, g5⟩)
      simpa [List.range_eq_range'] using this
  all_goals (first | (split at hd <;> simp at hd; done) | simp at hd)

theorem ai_drw {L : List DE} (hm : P.follows .mixedOrders = true) (hx : wpD P (ACall P) L env h (fun env' h' => Q .normal env' h')) : AI P n (.drw L) env h Q := by
  intro d hd base w0 m a w r hdf s
  cases d <;> simp only [compC, reduceCtorEq] at hd
  case region id ops draw =>
    split at hd
    · next hdr =>
      simp only [Option.map_eq_some_iff, IC.drw.injEq] at hd
      obtain ⟨L', h1, rfl⟩ := hd
      subst hdr
      refine wp_region_any hm ?_
      exact draw_sound h1 r hdf (s.drawn _ (by omega)) hx (fun m' env' h' a' w' g1 g2 g3 g4 g5 => ⟨m', env', h', g1, g2, g3, g4, g5⟩)
    · simp at hd
  all_goals (first | (split at hd <;> simp at hd; done) | simp at hd)

/-- What a round of a loop leaves. -/
def roundQ (I : Env → Hp → Nat → Prop) (k : Nat) (Q : Exit → Env → Hp → Prop) : Exit → Env → Hp → Prop
  | .normal, env, h => ∃ j, j < k ∧ I env h j
  | e, env, h => Q e env h
/-- A loop: what holds at each round's head (with a number that falls). -/
theorem ai_loop {x : IC} (I : Env → Hp → Nat → Prop) {k0 : Nat} (h0 : I env h k0) (round : ∀ env h k, I env h k → AI P n x env h (roundQ I k Q)) : AI P n (.loop x) env h Q := by
  intro d hd base w0 m a w r hdf s
  cases d <;> simp only [compC, reduceCtorEq] at hd
  case loop c =>
    simp only [Option.map_eq_some_iff, IC.loop.injEq] at hd
    obtain ⟨x', h1, rfl⟩ := hd
    let J : Act → World → Nat → Prop := fun a w k => ∃ m' env' h', m.le m' ∧ REnv m' n env' a.tmps ∧ a.defers = [] ∧ Sim base w0 m' h' w ∧ I env' h' k
    refine wp_loop (fun a w => ∃ k, J a w k) (fun a w => least (J a w)) ⟨k0, m, env, h, m.le_refl, r, hdf, s, h0⟩ ?_
    rintro a1 w1 ⟨k, hk⟩
    obtain ⟨⟨m1, env1, hp1, g1, g2, g3, g4, g5⟩, _⟩ := least_spec hk
    refine wp_mono (round env1 hp1 _ g5 c h1 base w0 m1 a1 w1 g2 g3 g4) ?_
    rintro ex a2 w2 ⟨m2, env2, hp2, k1, k2, k3, k4, k5⟩
    cases ex with
    | normal =>
      obtain ⟨j, hj, hI⟩ := k5
      have hJ : J a2 w2 j := ⟨m2, env2, hp2, Mu.le_trans g1 k1, k2, k3, k4, hI⟩
      exact ⟨⟨j, hJ⟩, Nat.lt_of_le_of_lt ((least_spec hJ).2 j hJ) hj⟩
    | exit i => exact ⟨m2, env2, hp2, Mu.le_trans g1 k1, k2, k3, k4, k5⟩
    | goto l => exact ⟨m2, env2, hp2, Mu.le_trans g1 k1, k2, k3, k4, k5⟩
    | ret => exact ⟨m2, env2, hp2, Mu.le_trans g1 k1, k2, k3, k4, k5⟩
    | panic ch => exact ⟨m2, env2, hp2, Mu.le_trans g1 k1, k2, k3, k4, k5⟩
    | outgrown => exact ⟨m2, env2, hp2, Mu.le_trans g1 k1, k2, k3, k4, k5⟩
  all_goals (first | (split at hd <;> simp at hd; done) | simp at hd)

/-- A function's results, out of its frame (slots alone) and memory. -/
def resOne (P : Program) (env : Env) (h : Hp) : ResultVar → Option Value
  | .tmp t => env.get t
  | .cell a t => match env.get a with
    | some (.pointer (some ⟨i, o, none⟩)) => match P.underlying t, P.info? t with
      | some d, some ti => if isAggD d then (h.rd i o ti.size).map fun vs => .agg ⟨vs⟩ else match h.rd i o 1 with
        | some [v] => some v
        | _ => none
      | _, _ => none
    | _ => none
def resAll (P : Program) (env : Env) (h : Hp) : List ResultVar → Option (List Value)
  | [] => some []
  | x :: r => match resOne P env h x, resAll P env h r with
    | some v, some vs => some (v :: vs)
    | _, _ => none
def pack : List Value → Value
  | [v] => v
  | vs => .tuple ⟨vs⟩

def resSem (tmps : Array Value) : ResultVar → Sem Value
  | .tmp t => pure (tmps.getD t undef)
  | .cell b t => do loadVar t (← asAddr (tmps.getD b undef))

theorem resOne_sound {base : Nat} {w0 w : World} {m : Mu} {a : Act} (r : REnv m n env a.tmps) (s : Sim base w0 m h w) {x : ResultVar} {v : Value} (e : resOne P env h x = some v) :
    ∃ v', (resSem a.tmps x).run P w = .ok v' w ∧ RV m v v' := by
  cases x with
  | tmp t =>
    obtain ⟨v', h1, h2⟩ := r.2 t v e
    refine ⟨v', ?_, h2⟩
    simp [resSem, Array.getD_eq_getD_getElem?, h1]
  | cell b t =>
    simp only [resOne] at e
    split at e
    case h_2 => cases e
    case h_1 i o hb =>
    split at e
    case h_2 => cases e
    case h_1 d ti hu hi =>
    obtain ⟨v', h1, h2⟩ := r.2 b _ hb
    have hg : a.tmps.getD b undef = v' := by simp [Array.getD_eq_getD_getElem?, h1]
    have hla : ∀ v2, (Instr.loadAt t v').run P w = .ok v2 w → (do loadVar t (← asAddr (a.tmps.getD b undef)) : Sem Value).run P w = .ok v2 w := by
      intro v2 hl
      rw [hg]
      cases h2 with
      | ptr hl2 => exact hl
    split at e
    · next hd =>
      simp only [Option.map_eq_some_iff] at e
      obtain ⟨vs, hrd, he⟩ := e
      subst he
      obtain ⟨v2, k1, k2⟩ := run_loadn (P := P) s hu hd hi rfl h2 hrd
      exact ⟨v2, hla v2 k1, k2⟩
    · next hd =>
      split at e
      · next v0 hrd =>
        cases e
        obtain ⟨v2, k1, k2⟩ := run_load1 (P := P) s hu (by simpa using hd) h2 hrd
        exact ⟨v2, hla v2 k1, k2⟩
      · cases e

theorem resAll_sound {base : Nat} {w0 w : World} {m : Mu} {a : Act} (r : REnv m n env a.tmps) (s : Sim base w0 m h w) : ∀ {xs : List ResultVar} {vs : List Value}, resAll P env h xs = some vs →
    ∃ vs', (xs.mapM (resSem a.tmps)).run P w = .ok vs' w ∧ RVs m vs vs' := by
  intro xs
  induction xs with
  | nil => intro vs e; cases e; exact ⟨[], rfl, RVs.nil m⟩
  | cons x xs ih =>
    intro vs e
    simp only [resAll] at e
    split at e
    case h_2 => cases e
    case h_1 v us hv hus =>
    cases e
    obtain ⟨v', h1, h2⟩ := resOne_sound r s hv
    obtain ⟨vs', h3, h4⟩ := ih hus
    refine ⟨v' :: vs', ?_, RVs.cons h2 h4⟩
    simp only [List.mapM_cons, Sem.run_bind, h1, Result.andThen_ok, h3]
    rfl

theorem results_sound {base : Nat} {w0 w : World} {m : Mu} {a : Act} {fn : Func} (r : REnv m n env a.tmps) (s : Sim base w0 m h w) {vs : List Value} (e : resAll P env h fn.results.toList = some vs) :
    ∃ v', (results fn a.tmps).run P w = .ok v' w ∧ RV m (pack vs) v' := by
  obtain ⟨vs', h1, h2⟩ := resAll_sound r s e
  have hrun : (results fn a.tmps).run P w = .ok (if h : (vs'.toArray).size = 1 then (vs'.toArray)[0] else .tuple vs'.toArray) w := by
    unfold results
    rw [Array.mapM_eq_mapM_toList]
    simp only [Sem.run_bind, Sem.run_map]
    erw [h1]
    rfl
  refine ⟨_, hrun, ?_⟩
  cases vs with
  | nil =>
    obtain rfl := h2.cases_nil
    simp [pack]
    exact .tuple rfl (by simp)
  | cons v vs =>
    obtain ⟨v', us, rfl, r1, r2⟩ := h2.cases_cons
    cases vs with
    | nil =>
      obtain rfl := r2.cases_nil
      simpa [pack] using r1
    | cons u vs =>
      obtain ⟨u', us, rfl, r3, r4⟩ := r2.cases_cons
      simp [pack]
      exact .tuple h2.1 h2.2

/-- The frame at a call's begin. -/
def envOf : Nat → List Value → Env
  | _, [] => []
  | k, v :: r => (k, v) :: envOf (k + 1) r
theorem envOf_get : ∀ (l : List Value) (k t : Nat) (v : Value), (envOf k l).get t = some v → k ≤ t ∧ l[t - k]? = some v := by
  intro l
  induction l with
  | nil => intro k t v e; cases e
  | cons x l ih =>
    intro k t v e
    simp only [envOf, Env.get] at e
    split at e
    · next hk => subst hk; cases e; exact ⟨Nat.le_refl _, by simp⟩
    · next hk =>
      obtain ⟨h1, h2⟩ := ih (k + 1) t v e
      refine ⟨by omega, ?_⟩
      rw [show t - k = (t - (k + 1)) + 1 by omega]
      simpa using h2

structure FI where
  n : Nat
  res : List ResultVar
  body : IC
def compF (P : Program) (fn : Func) : Option FI :=
  match fn.body with
  | some c => match compC P fn.ntmps c with
    | some ic => if fn.name = "runtime.NumGoroutine" then none else some ⟨fn.ntmps, fn.results.toList, ic⟩
    | none => none
  | none => none

/-- What a function's body leaves. -/
def endQ (P : Program) (res : List ResultVar) (R : Value → Hp → Prop) : Exit → Env → Hp → Prop
  | .normal, env, h | .ret, env, h => ∃ vs, resAll P env h res = some vs ∧ R (pack vs) h
  | _, _, _ => False

/-- A function is what its body is. -/
theorem acall {f : FuncId} {fn : Func} {fi : FI} {args : List Value} {R : Value → Hp → Prop} (hf : P.funcs[f]? = some fn) (hc : compF P fn = some fi) (hn : args.length ≤ fi.n) (hb : AI P fi.n fi.body (envOf 0 args) h (endQ P fi.res R)) : ACall P f args h R := by
  unfold compF at hc
  split at hc
  case h_2 => cases hc
  case h_1 c hbody =>
  split at hc
  case h_2 => cases hc
  case h_1 ic hic =>
  split at hc
  · cases hc
  next hname =>
  cases hc
  refine ⟨⟨fn, hf, by simp [hbody], hname⟩, ?_⟩
  intro base w0 m w args' ra s
  refine calls_of_wp hf hbody (wp_mono (hb c hic base w0 m _ w ⟨?_, ?_⟩ rfl s) ?_)
  · have := ra.1
    simp at hn ⊢
    omega
  · intro t v e
    obtain ⟨_, h1⟩ := envOf_get args 0 t v e
    obtain ⟨v', h2, h3⟩ := ra.get h1
    refine ⟨v', ?_, h3⟩
    have hlt := (List.getElem?_eq_some_iff.1 h2).1
    simp only [Nat.sub_zero] at h2 hlt
    rw [Array.getElem?_append_left (by simpa using hlt)]
    simpa using h2
  · rintro ex a' w' ⟨m', env', h', g1, g2, g3, g4, g5⟩
    cases ex with
    | normal =>
      obtain ⟨vs, e1, e2⟩ := g5
      obtain ⟨v', e3, e4⟩ := results_sound g2 g4 e1
      exact ⟨g3, v', e3, m', _, v', h', rfl, g1, e4, g4, e2⟩
    | ret =>
      obtain ⟨vs, e1, e2⟩ := g5
      obtain ⟨v', e3, e4⟩ := results_sound g2 g4 e1
      exact ⟨g3, v', e3, m', _, v', h', rfl, g1, e4, g4, e2⟩
    | exit i => exact g5.elim
    | goto l => exact g5.elim
    | panic ch => exact g5.elim
    | outgrown => exact g5.elim
end
end Go.Proofs.YtnebdnbglggdkaaDoorW.Am
