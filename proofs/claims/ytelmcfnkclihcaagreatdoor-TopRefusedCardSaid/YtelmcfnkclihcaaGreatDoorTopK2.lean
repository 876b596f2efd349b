/- Code: what is to be shown of it over abstract heaps, and the rules. -/
import Derived.Test.YtelmcfnkclihcaaGreatDoorTopK1
import Derived.Test.YtelmcfnkclihcaaGreatDoorProg
import Derived.KernelRfl
namespace Go.Proofs.YtelmcfnkclihcaaGreatDoorW.Am
open Go Go.RowKit
section
inductive IC
 | skip
 | reg (ins : List In)
 | drw (L : List DE)
 | drt (T : DT)
 | seq (a b : IC)
 | cond (c : Operand) (a b : IC)
 | block (id : Nat) (a : IC)
 | loop (a : IC)
 | exit (id : Nat)
 | ret
 | no
def compC (P : Program) (n : Nat) : Code → Option IC
 | .skip => some .skip
 | .region _ ops draw => if draw then (match drawL P n ops with
   | some L => some (.drw L)
   | none => (match drawT P n ops with
    | some T => some (.drt T)
    | none => some .no))
  else (match compIns P n ops ops.toList with
   | some is => some (.reg is)
   | none => some .no)
 | .seq a b => match compC P n a,compC P n b with
  | some x,some y => some (.seq x y)
  | _,_ => none
 | .cond c a b => match compC P n a,compC P n b with
  | some x,some y => some (.cond c x y)
  | _,_ => none
 | .block id a => (compC P n a).map (.block id)
 | .loop a => (compC P n a).map .loop
 | .exit id => some (.exit id)
 | .ret => some .ret
 | _ => none
def AW [Fl] (P : Program) (n : Nat) (c : Code) (env : Env) (h : Hp) (Q : Exit → Env → Hp → Prop) : Prop :=
 ∀ base w0 m a w,REnv m n env a.tmps → a.defers = [] → Sim base w0 m h w →
  c.wp P (fun ex a' w' => ∃ m' env' h',m.le m' ∧ REnv m' n env' a'.tmps ∧ a'.defers = [] ∧ Sim base w0 m' h' w' ∧ Q ex env' h') a w
def AI [Fl] (P : Program) (n : Nat) (c : IC) (env : Env) (h : Hp) (Q : Exit → Env → Hp → Prop) : Prop :=
 ∀ d,compC P n d = some c → AW P n d env h Q
def thenQ [Fl] (P : Program) (n : Nat) (b : IC) (Q : Exit → Env → Hp → Prop) : Exit → Env → Hp → Prop
 | .normal,env,h => AI P n b env h Q
 | e,env,h => Q e env h
def blockQ (id : Nat) (Q : Exit → Env → Hp → Prop) : Exit → Env → Hp → Prop
 | .exit j,env,h => if j = id then Q .normal env h else Q (.exit j) env h
 | e,env,h => Q e env h
theorem exists_least [Fl] {p : Nat → Prop} : ∀ k,p k → ∃ n,p n ∧ ∀ j,p j → n ≤ j := by
 intro k
 induction k using Nat.strongRecOn with
 | _ k ih =>
  intro hk
  by_cases h : ∃ j,j < k ∧ p j
  ·obtain ⟨j,hj,pj⟩ := h
   exact ih j hj pj
  ·exact ⟨k,hk,fun j pj => Nat.le_of_not_lt fun hlt => h ⟨j,hlt,pj⟩⟩
noncomputable def least (p : Nat → Prop) : Nat := open Classical in if h : ∃ n,p n ∧ ∀ j,p j → n ≤ j then Classical.choose h else 0
theorem least_spec [Fl] {p : Nat → Prop} {k : Nat} (hk : p k) : p (least p) ∧ ∀ j,p j → least p ≤ j := by
 have h := exists_least k hk
 unfold least
 rw [dif_pos h]
 exact Classical.choose_spec h
section
variable {P : Program} {n : Nat} {env : Env} {h : Hp} {Q : Exit → Env → Hp → Prop}
theorem AW.mono [Fl] {c : Code} {Q' : Exit → Env → Hp → Prop} (a : AW P n c env h Q) (hq : ∀ e env h,Q e env h → Q' e env h) : AW P n c env h Q' :=
 fun base w0 m ac w r hd s => wp_mono (a base w0 m ac w r hd s) fun _ _ _ ⟨m',env',h',h1,h2,h3,h4,h5⟩ => ⟨m',env',h',h1,h2,h3,h4,hq _ _ _ h5⟩
theorem AI.mono [Fl] {c : IC} {Q' : Exit → Env → Hp → Prop} (a : AI P n c env h Q) (hq : ∀ e env h,Q e env h → Q' e env h) : AI P n c env h Q' :=
 fun d hd => (a d hd).mono hq
def EnvLe (a b : Env) : Prop := ∀ t v,a.get t = some v → b.get t = some v
theorem AI.weak [Fl] {c : IC} {env' : Env} (hl : EnvLe env' env) (a : AI P n c env' h Q) : AI P n c env h Q :=
 fun d hd base w0 m ac w r hdf s => a d hd base w0 m ac w ⟨r.1,fun t v e => r.2 t v (hl t v e)⟩ hdf s
theorem ai_skip [Fl] (hq : Q .normal env h) : AI P n .skip env h Q := by
 intro d hd base w0 m a w r hdf s
 cases d <;> simp only [compC,reduceCtorEq] at hd
 ·exact wp_skip ⟨m,env,h,m.le_refl,r,hdf,s,hq⟩
 all_goals (first | (split at hd <;> (try split at hd) <;> (try split at hd) <;> simp at hd; done) | simp at hd)
theorem ai_ret [Fl] (hq : Q .ret env h) : AI P n .ret env h Q := by
 intro d hd base w0 m a w r hdf s
 cases d <;> simp only [compC,reduceCtorEq] at hd
 case ret => exact wp_ret ⟨m,env,h,m.le_refl,r,hdf,s,hq⟩
 all_goals (first | (split at hd <;> (try split at hd) <;> (try split at hd) <;> simp at hd; done) | simp at hd)
theorem ai_exit [Fl] {id : Nat} (hq : Q (.exit id) env h) : AI P n (.exit id) env h Q := by
 intro d hd base w0 m a w r hdf s
 cases d <;> simp only [compC,reduceCtorEq,Option.some.injEq,IC.exit.injEq] at hd
 case exit j => subst hd; exact wp_exit ⟨m,env,h,m.le_refl,r,hdf,s,hq⟩
 all_goals (first | (split at hd <;> (try split at hd) <;> (try split at hd) <;> simp at hd; done) | simp at hd)
theorem ai_seq [Fl] {x y : IC} (hx : AI P n x env h (thenQ P n y Q)) : AI P n (.seq x y) env h Q := by
 intro d hd base w0 m a w r hdf s
 cases d <;> simp only [compC,reduceCtorEq] at hd
 case seq c1 c2 =>
  split at hd
  case h_2 => cases hd
  case h_1 x' y' h1 h2 =>
  cases hd
  refine wp_seq (wp_mono (hx c1 h1 base w0 m a w r hdf s) ?_)
  rintro ex a' w' ⟨m',env',h',g1,g2,g3,g4,g5⟩
  cases ex with
  | normal =>
   refine wp_mono (g5 c2 h2 base w0 m' a' w' g2 g3 g4) ?_
   rintro ex a2 w2 ⟨m2,env2,h2,k1,k2⟩
   exact ⟨m2,env2,h2,Mu.le_trans g1 k1,k2⟩
  | exit j => exact ⟨m',env',h',g1,g2,g3,g4,g5⟩
  | goto l => exact ⟨m',env',h',g1,g2,g3,g4,g5⟩
  | ret => exact ⟨m',env',h',g1,g2,g3,g4,g5⟩
  | panic ch => exact ⟨m',env',h',g1,g2,g3,g4,g5⟩
  | outgrown => exact ⟨m',env',h',g1,g2,g3,g4,g5⟩
 all_goals (first | (split at hd <;> (try split at hd) <;> (try split at hd) <;> simp at hd; done) | simp at hd)
theorem ai_block [Fl] {id : Nat} {x : IC} (hx : AI P n x env h (blockQ id Q)) : AI P n (.block id x) env h Q := by
 intro d hd base w0 m a w r hdf s
 cases d <;> simp only [compC,reduceCtorEq] at hd
 case block j c =>
  simp only [Option.map_eq_some_iff,IC.block.injEq] at hd
  obtain ⟨x',h1,rfl,rfl⟩ := hd
  refine wp_block (wp_mono (hx c h1 base w0 m a w r hdf s) ?_)
  rintro ex a' w' ⟨m',env',h',g1,g2,g3,g4,g5⟩
  cases ex with
  | exit i =>
   simp only [blockQ] at g5
   simp only [Exit.inBlock]
   split
   ·next hi => rw [if_pos hi] at g5; exact ⟨m',env',h',g1,g2,g3,g4,g5⟩
   ·next hi => rw [if_neg hi] at g5; exact ⟨m',env',h',g1,g2,g3,g4,g5⟩
  | normal => exact ⟨m',env',h',g1,g2,g3,g4,g5⟩
  | goto l => exact ⟨m',env',h',g1,g2,g3,g4,g5⟩
  | ret => exact ⟨m',env',h',g1,g2,g3,g4,g5⟩
  | panic ch => exact ⟨m',env',h',g1,g2,g3,g4,g5⟩
  | outgrown => exact ⟨m',env',h',g1,g2,g3,g4,g5⟩
 all_goals (first | (split at hd <;> (try split at hd) <;> (try split at hd) <;> simp at hd; done) | simp at hd)
theorem ai_cond [Fl] {c : Operand} {x y : IC} {b : Bool} (hc : evA env c = some (.bool b)) (hx : b = true → AI P n x env h Q) (hy : b = false → AI P n y env h Q) : AI P n (.cond c x y) env h Q := by
 intro d hd base w0 m a w r hdf s
 cases d <;> simp only [compC,reduceCtorEq] at hd
 case cond c' c1 c2 =>
  split at hd
  case h_2 => cases hd
  case h_1 x' y' h1 h2 =>
  cases hd
  have hv := (r.eval hc).scalar_bool
  exact wp_cond_split hv (fun hb => hx hb c1 h1 base w0 m a w r hdf s) (fun hb => hy hb c2 h2 base w0 m a w r hdf s)
 all_goals (first | (split at hd <;> (try split at hd) <;> (try split at hd) <;> simp at hd; done) | simp at hd)
theorem ai_reg [Fl] {ins : List In} (hx : wpS P (ACall P) ins env h (fun env' h' => Q .normal env' h')) : AI P n (.reg ins) env h Q := by
 intro d hd base w0 m a w r hdf s
 cases d <;> simp only [compC,reduceCtorEq] at hd
 case region id ops draw =>
  split at hd
  ·split at hd <;> (try split at hd) <;> simp at hd
  ·next hdr =>
   split at hd
   case h_2 => simp at hd
   case h_1 is h1 =>
   simp only [Option.some.injEq,IC.reg.injEq] at hd
   subst hd
   have hdr : draw = false := by simpa using hdr
   subst hdr
   refine wp_region ?_
   have := wpS_sound (P := P) (Q := fun env' h' => Q .normal env' h') (Q' := fun ex a' w' => ∃ m' env' h',m.le m' ∧ REnv m' n env' a'.tmps ∧ a'.defers = [] ∧ Sim base w0 m' h' w' ∧ Q ex env' h') ops.toList [] is m env h a w (by simp) h1 r hdf s hx
    (fun m' env' h' a' w' g1 g2 g3 g4 g5 => ⟨m',env',h',g1,g2,g3,g4,g5⟩)
   simpa [List.range_eq_range'] using this
 all_goals (first | (split at hd <;> (try split at hd) <;> (try split at hd) <;> simp at hd; done) | simp at hd)
theorem ai_drw [Fl] {L : List DE} (hm : P.follows .mixedOrders = true) (hx : wpD P (ACall P) L env h (fun env' h' => Q .normal env' h')) : AI P n (.drw L) env h Q := by
 intro d hd base w0 m a w r hdf s
 cases d <;> simp only [compC,reduceCtorEq] at hd
 case region id ops draw =>
  split at hd
  ·next hdr =>
   split at hd
   ·next L' h1 =>
    simp only [Option.some.injEq,IC.drw.injEq] at hd
    subst hd
    subst hdr
    refine wp_region_any hm ?_
    exact draw_sound h1 r hdf (s.drawn _ (by omega)) hx (fun m' env' h' a' w' g1 g2 g3 g4 g5 => ⟨m',env',h',g1,g2,g3,g4,g5⟩)
   ·split at hd <;> simp at hd
  ·split at hd <;> simp at hd
 all_goals (first | (split at hd <;> (try split at hd) <;> (try split at hd) <;> simp at hd; done) | simp at hd)
theorem ai_drt [Fl] {T : DT} (hm : P.follows .mixedOrders = true) (hx : wpT P (ACall P) T env h (fun env' h' => Q .normal env' h')) : AI P n (.drt T) env h Q := by
 intro d hd base w0 m a w r hdf s
 cases d <;> simp only [compC,reduceCtorEq] at hd
 case region id ops draw =>
  split at hd
  ·next hdr =>
   split at hd
   ·simp at hd
   ·split at hd
    ·next T' h1 =>
     simp only [Option.some.injEq,IC.drt.injEq] at hd
     subst hd
     subst hdr
     refine wp_region_any hm ?_
     exact drawT_sound h1 r hdf (s.drawn _ (by omega)) hx (fun m' env' h' a' w' g1 g2 g3 g4 g5 => ⟨m',env',h',g1,g2,g3,g4,g5⟩)
    ·simp at hd
  ·split at hd <;> simp at hd
 all_goals (first | (split at hd <;> (try split at hd) <;> (try split at hd) <;> simp at hd; done) | simp at hd)
def roundQ (I : Env → Hp → Nat → Prop) (k : Nat) (Q : Exit → Env → Hp → Prop) : Exit → Env → Hp → Prop
 | .normal,env,h => ∃ j,j < k ∧ I env h j
 | e,env,h => Q e env h
theorem ai_loop [Fl] {x : IC} (I : Env → Hp → Nat → Prop) {k0 : Nat} (h0 : I env h k0) (round : ∀ env h k,I env h k → AI P n x env h (roundQ I k Q)) : AI P n (.loop x) env h Q := by
 intro d hd base w0 m a w r hdf s
 cases d <;> simp only [compC,reduceCtorEq] at hd
 case loop c =>
  simp only [Option.map_eq_some_iff,IC.loop.injEq] at hd
  obtain ⟨x',h1,rfl⟩ := hd
  let J : Act → World → Nat → Prop := fun a w k => ∃ m' env' h',m.le m' ∧ REnv m' n env' a.tmps ∧ a.defers = [] ∧ Sim base w0 m' h' w ∧ I env' h' k
  refine wp_loop (fun a w => ∃ k,J a w k) (fun a w => least (J a w)) ⟨k0,m,env,h,m.le_refl,r,hdf,s,h0⟩ ?_
  rintro a1 w1 ⟨k,hk⟩
  obtain ⟨⟨m1,env1,hp1,g1,g2,g3,g4,g5⟩,_⟩ := least_spec hk
  refine wp_mono (round env1 hp1 _ g5 c h1 base w0 m1 a1 w1 g2 g3 g4) ?_
  rintro ex a2 w2 ⟨m2,env2,hp2,k1,k2,k3,k4,k5⟩
  cases ex with
  | normal =>
   obtain ⟨j,hj,hI⟩ := k5
   have hJ : J a2 w2 j := ⟨m2,env2,hp2,Mu.le_trans g1 k1,k2,k3,k4,hI⟩
   exact ⟨⟨j,hJ⟩,Nat.lt_of_le_of_lt ((least_spec hJ).2 j hJ) hj⟩
  | exit i => exact ⟨m2,env2,hp2,Mu.le_trans g1 k1,k2,k3,k4,k5⟩
  | goto l => exact ⟨m2,env2,hp2,Mu.le_trans g1 k1,k2,k3,k4,k5⟩
  | ret => exact ⟨m2,env2,hp2,Mu.le_trans g1 k1,k2,k3,k4,k5⟩
  | panic ch => exact ⟨m2,env2,hp2,Mu.le_trans g1 k1,k2,k3,k4,k5⟩
  | outgrown => exact ⟨m2,env2,hp2,Mu.le_trans g1 k1,k2,k3,k4,k5⟩
 all_goals (first | (split at hd <;> (try split at hd) <;> (try split at hd) <;> simp at hd; done) | simp at hd)
def resOne (P : Program) (env : Env) (h : Hp) : ResultVar → Option Value
 | .tmp t => env.get t
 | .cell a t => match env.get a with
  | some (.pointer (some ⟨i,o,none⟩)) => match P.underlying t,P.info? t with
   | some d,some ti => if isAggD d then (h.rd i o ti.size).map fun vs => .agg ⟨vs⟩ else match h.rd i o 1 with
    | some [v] => some v
    | _ => none
   | _,_ => none
  | _ => none
def resAll (P : Program) (env : Env) (h : Hp) : List ResultVar → Option (List Value)
 | [] => some []
 | x :: r => match resOne P env h x,resAll P env h r with
  | some v,some vs => some (v :: vs)
  | _,_ => none
def pack : List Value → Value
 | [v] => v
 | vs => .tuple ⟨vs⟩
def resSem (tmps : Array Value) : ResultVar → Sem Value
 | .tmp t => pure (tmps.getD t undef)
 | .cell b t => do loadVar t (← asAddr (tmps.getD b undef))
theorem resOne_sound [Fl] {base : Nat} {w0 w : World} {m : Mu} {a : Act} (r : REnv m n env a.tmps) (s : Sim base w0 m h w) {x : ResultVar} {v : Value} (e : resOne P env h x = some v) :
  ∃ v',(resSem a.tmps x).run P w = .ok v' w ∧ RV m v v' := by
 cases x with
 | tmp t =>
  obtain ⟨v',h1,h2⟩ := r.2 t v e
  refine ⟨v',?_,h2⟩
  simp [resSem,Array.getD_eq_getD_getElem?,h1]
 | cell b t =>
  simp only [resOne] at e
  split at e
  case h_2 => cases e
  case h_1 i o hb =>
  split at e
  case h_2 => cases e
  case h_1 d ti hu hi =>
  obtain ⟨v',h1,h2⟩ := r.2 b _ hb
  have hg : a.tmps.getD b undef = v' := by simp [Array.getD_eq_getD_getElem?,h1]
  have hla : ∀ v2,(Instr.loadAt t v').run P w = .ok v2 w → (do loadVar t (← asAddr (a.tmps.getD b undef)) : Sem Value).run P w = .ok v2 w := by
   intro v2 hl
   rw [hg]
   cases h2 with
   | ptr hl2 => exact hl
  split at e
  ·next hd =>
   simp only [Option.map_eq_some_iff] at e
   obtain ⟨vs,hrd,he⟩ := e
   subst he
   obtain ⟨v2,k1,k2⟩ := run_loadn (P := P) s hu hd hi rfl h2 hrd
   exact ⟨v2,hla v2 k1,k2⟩
  ·next hd =>
   split at e
   ·next v0 hrd =>
    cases e
    obtain ⟨v2,k1,k2⟩ := run_load1 (P := P) s hu (by simpa using hd) h2 hrd
    exact ⟨v2,hla v2 k1,k2⟩
   ·cases e
theorem resAll_sound [Fl] {base : Nat} {w0 w : World} {m : Mu} {a : Act} (r : REnv m n env a.tmps) (s : Sim base w0 m h w) : ∀ {xs : List ResultVar} {vs : List Value},resAll P env h xs = some vs →
  ∃ vs',(xs.mapM (resSem a.tmps)).run P w = .ok vs' w ∧ RVs m vs vs' := by
 intro xs
 induction xs with
 | nil => intro vs e; cases e; exact ⟨[],rfl,RVs.nil m⟩
 | cons x xs ih =>
  intro vs e
  simp only [resAll] at e
  split at e
  case h_2 => cases e
  case h_1 v us hv hus =>
  cases e
  obtain ⟨v',h1,h2⟩ := resOne_sound r s hv
  obtain ⟨vs',h3,h4⟩ := ih hus
  refine ⟨v' :: vs',?_,RVs.cons h2 h4⟩
  simp only [List.mapM_cons,Sem.run_bind,h1,Result.andThen_ok,h3]
  rfl
theorem results_sound [Fl] {base : Nat} {w0 w : World} {m : Mu} {a : Act} {fn : Func} (r : REnv m n env a.tmps) (s : Sim base w0 m h w) {vs : List Value} (e : resAll P env h fn.results.toList = some vs) :
  ∃ v',(results fn a.tmps).run P w = .ok v' w ∧ RV m (pack vs) v' := by
 obtain ⟨vs',h1,h2⟩ := resAll_sound r s e
 have hrun : (results fn a.tmps).run P w = .ok (if h : (vs'.toArray).size = 1 then (vs'.toArray)[0] else .tuple vs'.toArray) w := by
  unfold results
  rw [Array.mapM_eq_mapM_toList]
  simp only [Sem.run_bind,Sem.run_map]
  erw [h1]
  rfl
 refine ⟨_,hrun,?_⟩
 cases vs with
 | nil =>
  obtain rfl := h2.cases_nil
  simp [pack]
  exact .tuple rfl (by simp)
 | cons v vs =>
  obtain ⟨v',us,rfl,r1,r2⟩ := h2.cases_cons
  cases vs with
  | nil =>
   obtain rfl := r2.cases_nil
   simpa [pack] using r1
  | cons u vs =>
   obtain ⟨u',us,rfl,r3,r4⟩ := r2.cases_cons
   simp [pack]
   exact .tuple h2.1 h2.2
def envOf : Nat → List Value → Env
 | _,[] => []
 | k,v :: r => (k,v) :: envOf (k + 1) r
theorem envOf_get [Fl] : ∀ (l : List Value) (k t : Nat) (v : Value),(envOf k l).get t = some v → k ≤ t ∧ l[t - k]? = some v := by
 intro l
 induction l with
 | nil => intro k t v e; cases e
 | cons x l ih =>
  intro k t v e
  simp only [envOf,Env.get] at e
  split at e
  ·next hk => subst hk; cases e; exact ⟨Nat.le_refl _,by simp⟩
  ·next hk =>
   obtain ⟨h1,h2⟩ := ih (k + 1) t v e
   refine ⟨by omega,?_⟩
   rw [show t - k = (t - (k + 1)) + 1 by omega]
   simpa using h2
structure FI where
 n : Nat
 res : List ResultVar
 body : IC
def compF (P : Program) (fn : Func) : Option FI :=
 match fn.body with
 | some c => match compC P fn.ntmps c with
  | some ic => if fn.name = "runtime.NumGoroutine" then none else some ⟨fn.ntmps, fn.results.toList, ic⟩
  | none => none
 | none => none
def endQ (P : Program) (res : List ResultVar) (R : Value → Hp → Prop) : Exit → Env → Hp → Prop
 | .normal,env,h | .ret,env,h => ∃ vs,resAll P env h res = some vs ∧ R (pack vs) h
 | _,_,_ => False
theorem acall [Fl] {f : FuncId} {fn : Func} {fi : FI} {args : List Value} {R : Value → Hp → Prop} (hf : P.funcs[f]? = some fn) (hc : compF P fn = some fi) (hn : args.length ≤ fi.n) (hb : AI P fi.n fi.body (envOf 0 args) h (endQ P fi.res R)) : ACall P f args h R := by
 unfold compF at hc
 split at hc
 case h_2 => cases hc
 case h_1 c hbody =>
 split at hc
 case h_2 => cases hc
 case h_1 ic hic =>
 split at hc
 ·cases hc
 next hname =>
 cases hc
 refine ⟨⟨fn,hf,by simp [hbody],hname⟩,?_⟩
 intro base w0 m w args' ra s
 refine calls_of_wp hf hbody (wp_mono (hb c hic base w0 m _ w ⟨?_,?_⟩ rfl s) ?_)
 ·have := ra.1
  simp at hn ⊢
  omega
 ·intro t v e
  obtain ⟨_,h1⟩ := envOf_get args 0 t v e
  obtain ⟨v',h2,h3⟩ := ra.get h1
  refine ⟨v',?_,h3⟩
  have hlt := (List.getElem?_eq_some_iff.1 h2).1
  simp only [Nat.sub_zero] at h2 hlt
  rw [Array.getElem?_append_left (by simpa using hlt)]
  simpa using h2
 ·rintro ex a' w' ⟨m',env',h',g1,g2,g3,g4,g5⟩
  cases ex with
  | normal =>
   obtain ⟨vs,e1,e2⟩ := g5
   obtain ⟨v',e3,e4⟩ := results_sound g2 g4 e1
   exact ⟨g3,v',e3,m',_,v',h',rfl,g1,e4,g4,e2⟩
  | ret =>
   obtain ⟨vs,e1,e2⟩ := g5
   obtain ⟨v',e3,e4⟩ := results_sound g2 g4 e1
   exact ⟨g3,v',e3,m',_,v',h',rfl,g1,e4,g4,e2⟩
  | exit i => exact g5.elim
  | goto l => exact g5.elim
  | panic ch => exact g5.elim
  | outgrown => exact g5.elim
end
end
section
section
variable {P : Program} {CT : CTy} {r : List In} {env : Env} {h h' : Hp} {Q : Env → Hp → Prop} {d : Option Nat} {k : K} {xs : List Operand} {vs : List Value} {v : Value}
def opS (env : Env) (k : K) (xs : List Operand) (h : Hp) : Option (Value × Hp) :=
 match mapE env xs with
 | some vs => stepK k vs h
 | none => none
theorem st [Fl] (e : opS env k xs h = some (v,h')) (n : wpS P CT r (env.put d v) h' Q) : wpS P CT (⟨d,none,.op k xs⟩ :: r) env h Q := by
 unfold opS at e
 unfold wpS wpIn
 simp only [wanted]
 split at e
 ·next vs hv => simp only [hv,e]; exact n
 ·cases e
theorem stT [Fl] {t : Nat} {b c : Bool} (g : env.get t = some (.bool c)) (hc : (c == b) = true) (e : opS env k xs h = some (v,h')) (n : wpS P CT r (env.put d v) h' Q) : wpS P CT (⟨d,some (t,b),.op k xs⟩ :: r) env h Q := by
 unfold opS at e
 unfold wpS wpIn
 simp only [wanted,g,hc]
 split at e
 ·next vs hv => simp only [hv,e]; exact n
 ·cases e
theorem stF [Fl] {t : Nat} {b c : Bool} {ik : IK} (g : env.get t = some (.bool c)) (hc : (c == b) = false) (n : wpS P CT r (env.put d undef) h Q) : wpS P CT (⟨d,some (t,b),ik⟩ :: r) env h Q := by
 unfold wpS wpIn
 simp only [wanted,g,hc]
 exact n
theorem stC [Fl] {f : FuncId} (e : mapE env xs = some vs) (c : CT f vs h fun v h' => wpS P CT r (env.put d v) h' Q) : wpS P CT (⟨d,none,.call f xs⟩ :: r) env h Q := by
 unfold wpS wpIn
 simp only [wanted,e]
 exact c
theorem stCT [Fl] {f : FuncId} {t : Nat} {b c : Bool} (g : env.get t = some (.bool c)) (hc : (c == b) = true) (e : mapE env xs = some vs) (c : CT f vs h fun v h' => wpS P CT r (env.put d v) h' Q) : wpS P CT (⟨d,some (t,b),.call f xs⟩ :: r) env h Q := by
 unfold wpS wpIn
 simp only [wanted,g,hc,e]
 exact c
theorem thenQ_r [Fl] {P : Program} {n : Nat} {b : IC} {Q : Exit → Env → Hp → Prop} {env : Env} {h : Hp} : thenQ P n b Q .ret env h = Q .ret env h := rfl
theorem blockQ_r [Fl] {j : Nat} {Q : Exit → Env → Hp → Prop} {env : Env} {h : Hp} : blockQ j Q .ret env h = Q .ret env h := rfl
theorem end_one [Fl] {P : Program} {t : Nat} {R : Value → Hp → Prop} {env : Env} {h : Hp} {v : Value} (e : env.get t = some v) (r : R v h) : endQ P [.tmp t] R .ret env h := ⟨[v],by simp [resAll,resOne,e],r⟩
theorem end_two [Fl] {P : Program} {t u : Nat} {R : Value → Hp → Prop} {env : Env} {h : Hp} {v w : Value} (e : env.get t = some v) (e2 : env.get u = some w) (r : R (.tuple #[v,w]) h) : endQ P [.tmp t,.tmp u] R .ret env h := ⟨[v,w],by simp [resAll,resOne,e,e2],r⟩
end
end
section
section
variable {P : Program} {CT : CTy} {r : List In} {env : Env} {h h' : Hp} {Q : Env → Hp → Prop} {d : Option Nat} {k : K} {xs : List Operand} {vs : List Value} {v : Value}
theorem st_v [Fl] {v2 : Value} (e : opS env k xs h = some (v,h')) (hv : v = v2) (n : wpS P CT r (env.put d v2) h' Q) : wpS P CT (⟨d,none,.op k xs⟩ :: r) env h Q := by subst hv; exact st e n
theorem wrap_i64' [Fl] {x : Int} (h1 : -9223372036854775808 ≤ x) (h2 : x ≤ 9223372036854775807) : IntKind.i64.wrap x = x := by rw [IntKind.wrap_i64]; omega
theorem wrap_u64' [Fl] {x : Int} (h1 : 0 ≤ x) (h2 : x ≤ 18446744073709551615) : IntKind.u64.wrap x = x := by
 unfold IntKind.wrap
 simp only [IntKind.bits,IntKind.signed]
 simp
 omega
theorem st_w [Fl] {x : Int} (e : opS env k xs h = some (.int .i64 (IntKind.i64.wrap x),h')) (hx : -9223372036854775808 ≤ x ∧ x ≤ 9223372036854775807) (n : wpS P CT r (env.put d (.int .i64 x)) h' Q) : wpS P CT (⟨d,none,.op k xs⟩ :: r) env h Q :=
 st_v e (by rw [wrap_i64' hx.1 hx.2]) n
theorem st_rem [Fl] {kk : IntKind} {a b : Int} (e : mapE env xs = some [.int kk a,.int kk b]) (ha : 0 ≤ a) (hb : 0 < b) (n : wpS P CT r (env.put d (.int kk (a % b))) h Q) : wpS P CT (⟨d,none,.op (.bin .rem) xs⟩ :: r) env h Q := by
 refine st (v := .int kk (a % b)) (h' := h) ?_ n
 unfold opS
 rw [e]
 have : kk = kk ∧ b ≠ 0 := ⟨rfl,by omega⟩
 show (if kk = kk ∧ b ≠ 0 then some (Value.int kk (a.tmod b)) else none).map (·,h) = _
 rw [if_pos this,Int.tmod_eq_emod_of_nonneg ha]
 rfl
theorem st_quo [Fl] {a b : Int} (e : mapE env xs = some [.int .i64 a,.int .i64 b]) (ha : 0 ≤ a) (ha2 : a ≤ 9223372036854775807) (hb : 0 < b) (n : wpS P CT r (env.put d (.int .i64 (a / b))) h Q) : wpS P CT (⟨d,none,.op (.bin .quo) xs⟩ :: r) env h Q := by
 refine st (v := .int .i64 (a / b)) (h' := h) ?_ n
 unfold opS
 rw [e]
 have : IntKind.i64 = IntKind.i64 ∧ b ≠ 0 := ⟨rfl,by omega⟩
 have h1 : 0 ≤ a / b := Int.ediv_nonneg ha (by omega)
 have h2 : a / b ≤ a := Int.ediv_le_self _ ha
 show (if IntKind.i64 = IntKind.i64 ∧ b ≠ 0 then some (Value.int .i64 (IntKind.i64.wrap (a.tdiv b))) else none).map (·,h) = _
 rw [if_pos this,Int.tdiv_eq_ediv_of_nonneg ha,wrap_i64' (by omega) (by omega)]
 rfl
theorem st_iad [Fl] {i o len cap : Nat} {sp : Option Nat} {kk : IntKind} {x : Int} {esz : Nat} (e : mapE env xs = some [.slice (some ⟨i,o,sp⟩) len cap,.int kk x]) (hx : 0 ≤ x ∧ x < len) (n : wpS P CT r (env.put d (.pointer (some ⟨i,o + x.toNat * esz,none⟩))) h Q) :
  wpS P CT (⟨d,none,.op (.iad esz) xs⟩ :: r) env h Q := by
 refine st (v := .pointer (some ⟨i,o + x.toNat * esz,none⟩)) (h' := h) ?_ n
 unfold opS
 rw [e]
 simp only [stepK,if_pos hx]
theorem st_ld [Fl] {i o : Nat} (e : mapE env xs = some [.pointer (some ⟨i,o,none⟩)]) (hr : h.rd i o 1 = some [v]) (n : wpS P CT r (env.put d v) h Q) : wpS P CT (⟨d,none,.op .ld1 xs⟩ :: r) env h Q := by
 refine st (v := v) (h' := h) ?_ n
 unfold opS
 rw [e]
 simp only [stepK,hr]
theorem st_ldn [Fl] {i o c : Nat} {us : List Value} (e : mapE env xs = some [.pointer (some ⟨i,o,none⟩)]) (hr : h.rd i o c = some us) (n : wpS P CT r (env.put d (.agg ⟨us⟩)) h Q) : wpS P CT (⟨d,none,.op (.ldn c) xs⟩ :: r) env h Q := by
 refine st (v := .agg ⟨us⟩) (h' := h) ?_ n
 unfold opS
 rw [e]
 simp only [stepK,hr,Option.map_some]
theorem st_st [Fl] {i o c : Nat} {u : Value} (e : mapE env xs = some [.pointer (some ⟨i,o,none⟩),u]) (hs : u.cells.size = c) (hw : h.wr i o u.cells.toList = some h') (n : wpS P CT r (env.put d undef) h' Q) : wpS P CT (⟨d,none,.op (.st c) xs⟩ :: r) env h Q := by
 refine st (v := undef) (h' := h') ?_ n
 unfold opS
 rw [e]
 simp only [stepK,hs,if_true,hw,Option.map_some]
theorem le_nil [Fl] : EnvLe [] env := fun t v e => by cases e
theorem le_cons [Fl] {t : Nat} {u : Value} {l : Env} (e : env.get t = some u) (hl : EnvLe l env) : EnvLe ((t,u) :: l) env := by
 intro s v hs
 simp only [Env.get] at hs
 split at hs
 ·next hts => subst hts; cases hs; exact e
 ·exact hl s v hs
theorem rd_at [Fl] {i o n x : Nat} {us : List Value} (e : h.rd i o n = some us) (hx : x < n) : ∃ (hl : x < us.length),h.rd i (o + x) 1 = some [us[x]] := by
 obtain ⟨ob,hob,hn,rfl⟩ := Hp.rd_some e
 have hl : x < ((ob.cells.drop o).take n).length := by simp; omega
 refine ⟨hl,?_⟩
 unfold Hp.rd
 simp only [hob]
 rw [if_pos (by omega)]
 have hlt : o + x < ob.cells.length := by omega
 have e3 : (ob.cells.drop (o + x)).take 1 = [ob.cells[o + x]] := by rw [List.drop_eq_getElem_cons hlt]; rfl
 rw [e3,List.getElem_take,List.getElem_drop]
theorem rd_len [Fl] {i o n : Nat} {us : List Value} (e : h.rd i o n = some us) : us.length = n := by
 obtain ⟨ob,hob,hn,rfl⟩ := Hp.rd_some e
 simp; omega
def Ext (h0 h : Hp) : Prop := h0.nx ≤ h.nx ∧ ∀ k,k < h0.nx → h.get k = h0.get k
theorem Ext.refl [Fl] (h : Hp) : Ext h h := ⟨Nat.le_refl _,fun _ _ => rfl⟩
theorem Ext.trans [Fl] {a b c : Hp} (x : Ext a b) (y : Ext b c) : Ext a c := ⟨Nat.le_trans x.1 y.1,fun k hk => (y.2 k (Nat.lt_of_lt_of_le hk x.1)).trans (x.2 k hk)⟩
theorem Ext.rd [Fl] {h0 h : Hp} (x : Ext h0 h) {i o n : Nat} (hi : i < h0.nx) : h.rd i o n = h0.rd i o n := by unfold Hp.rd; rw [x.2 i hi]
theorem Ext.new [Fl] (h : Hp) (o : Ob) : Ext h (h.new o) := ⟨by simp [Hp.new],fun k hk => by simp only [Hp.new]; rw [if_neg (by omega)]⟩
def Ow (N : Nat) (h : Hp) (s : Value) (us : List Value) : Prop :=
 (s = .slice none 0 0 ∧ us = []) ∨ ∃ i,N ≤ i ∧ i < h.nx ∧ s = .slice (some ⟨i,0,some 0⟩) us.length us.length ∧ h.get i = some ⟨us,true,1⟩ ∧ us ≠ [] ∧ us.all one = true
theorem Ow.nil [Fl] (N : Nat) (h : Hp) : Ow N h (.slice none 0 0) [] := .inl ⟨rfl,rfl⟩
theorem Ow.mono [Fl] {N M : Nat} {s : Value} {us : List Value} (o : Ow N h s us) (hm : M ≤ N) : Ow M h s us := by
 rcases o with o | ⟨i,h1,h2⟩
 ·exact .inl o
 ·exact .inr ⟨i,Nat.le_trans hm h1,h2⟩
theorem Ow.move [Fl] {N : Nat} {s : Value} {us : List Value} {h2 : Hp} (o : Ow N h s us) (x : Ext h h2) : Ow N h2 s us := by
 rcases o with o | ⟨i,h1,h2',h3,h4,h5⟩
 ·exact .inl o
 ·exact .inr ⟨i,h1,Nat.lt_of_lt_of_le h2' x.1,h3,(x.2 i h2').trans h4,h5⟩
theorem Ow.push [Fl] {N e e2 bytes : Nat} {h0 : Hp} {s : Value} {us : List Value} (o : Ow N h s us) (hN : h0.nx = N) (x : Ext h0 h) {u : Value} (hu : one u = true) (hb : (us.length + 1) * bytes ≤ 140737488355328) (hl : us.length + 1 ≤ 140737488355328) :
  ∃ s' h2,stepK (.app e 1 bytes) [s,.slice (some ⟨h.nx,0,none⟩) 1 1] (h.new ⟨[u],true,e2⟩) = some (s',h2) ∧ Ow N h2 s' (us ++ [u]) ∧ Ext h0 h2 := by
 have hrd : rdS (h.new ⟨[u],true,e2⟩) (some ⟨h.nx,0,none⟩) (1 * 1) = some [u] := by
  simp [rdS,Hp.rd,Hp.new]
 have hall : [u].all one = true := by simp [hu]
 rcases o with ⟨rfl,rfl⟩ | ⟨i,h1,h2,rfl,h4,h5,h6⟩
 ·refine ⟨.slice (some ⟨h.nx + 1,0,some 0⟩) 1 1,(h.new ⟨[u],true,e2⟩).new ⟨[u],true,1⟩,?_,.inr ⟨h.nx + 1,?_,?_,rfl,?_,by simp,hall⟩,?_⟩
  ·simp only [stepK,hrd]
   simp only [List.length_nil,Nat.zero_add] at hb hl
   have hb2 : bytes ≤ 140737488355328 := by simpa using hb
   simp [appA,hu,hb2,Hp.new]
  ·have := x.1; omega
  ·simp [Hp.new]
  ·simp [Hp.new]
  ·exact x.trans ((Ext.new _ _).trans (Ext.new _ _))
 ·have hne : i ≠ h.nx := by omega
  have hlen : us.length ≠ 0 := fun hz => h5 (List.eq_nil_of_length_eq_zero hz)
  have hold : (h.new ⟨[u],true,e2⟩).rd i 0 (us.length * 1) = some us := by
   simp [Hp.rd,Hp.new,hne,h4]
  refine ⟨.slice (some ⟨h.nx + 1,0,some 0⟩) (us.length + 1) (us.length + 1),(((h.new ⟨[u],true,e2⟩)).del i).new ⟨us ++ [u],true,1⟩,?_,.inr ⟨h.nx + 1,?_,?_,?_,?_,by simp,by simp [hu,h6]⟩,?_⟩
  ·simp only [stepK,hrd]
   have hg : (h.new ⟨[u],true,e2⟩).get i = some ⟨us,true,1⟩ := by simp [Hp.new,hne,h4]
   simp only [appA]
   rw [if_pos ⟨by simp,hall,by omega,hb,hl⟩]
   simp only [Nat.one_ne_zero,if_false,show ¬ (us.length + 1 ≤ us.length) by omega,if_neg hlen,hold,hg]
   simp [h6,Hp.del,Hp.new]
  ·have := x.1; omega
  ·simp [Hp.new,Hp.del]
  ·simp
  ·simp [Hp.new,Hp.del]
  ·refine ⟨by have := x.1; simp [Hp.new,Hp.del]; omega,fun k hk => ?_⟩
   have := x.1
   have e1 : ¬ k = h.nx + 1 := by omega
   have e2 : ¬ k = i := by omega
   have e3 : ¬ k = h.nx := by omega
   simp only [Hp.new,Hp.del,e1,e2,e3,if_false]
   exact x.2 k hk
def roundE {γ : Type} (E : γ → Env) (H : γ → Hp → Prop) (mu : γ → Nat) (k : Nat) (Q : Exit → Env → Hp → Prop) : Exit → Env → Hp → Prop
 | .normal,env,h => ∃ g,EnvLe (E g) env ∧ H g h ∧ mu g < k
 | e,env,h => Q e env h
theorem ai_loopE [Fl] {n : Nat} {x : IC} {Q : Exit → Env → Hp → Prop} {γ : Type} (E : γ → Env) (H : γ → Hp → Prop) (mu : γ → Nat) (g0 : γ) (hE : EnvLe (E g0) env) (hH : H g0 h) (round : ∀ g h,H g h → AI P n x (E g) h (roundE E H mu (mu g) Q)) : AI P n (.loop x) env h Q := by
 refine ai_loop (fun env h k => ∃ g,EnvLe (E g) env ∧ H g h ∧ mu g = k) (k0 := mu g0) ⟨g0,hE,hH,rfl⟩ ?_
 rintro env h k ⟨g,h1,h2,rfl⟩
 refine (AI.weak h1 (round g h h2)).mono ?_
 intro e env' h' q
 cases e with
 | normal => obtain ⟨g',k1,k2,k3⟩ := q; exact ⟨mu g',k3,g',k1,k2,rfl⟩
 | exit i => exact q
 | goto i => exact q
 | ret => exact q
 | panic c => exact q
 | outgrown => exact q
theorem ai_join [Fl] {n : Nat} {x y : IC} {Q : Exit → Env → Hp → Prop} {γ : Type} (L : γ → Env) (H : γ → Hp → Prop) (h1 : AI P n x env h (fun e env' h' => e = .normal ∧ ∃ g,EnvLe (L g) env' ∧ H g h')) (h2 : ∀ g h',H g h' → AI P n y (L g) h' Q) : AI P n (.seq x y) env h Q := by
 refine ai_seq (h1.mono ?_)
 rintro e env' h' ⟨rfl,g,hl,hH⟩
 exact AI.weak hl (h2 g h' hH)
theorem o_v [Fl] {v2 : Value} (e : opS env k xs h = some (v,h')) (hv : v = v2) : opS env k xs h = some (v2,h') := by subst hv; exact e
theorem o_w [Fl] {x : Int} (e : opS env k xs h = some (.int .i64 (IntKind.i64.wrap x),h')) (hx : -9223372036854775808 ≤ x ∧ x ≤ 9223372036854775807) : opS env k xs h = some (.int .i64 x,h') := o_v e (by rw [wrap_i64' hx.1 hx.2])
theorem o_iad [Fl] {i o len cap : Nat} {sp : Option Nat} {kk : IntKind} {x : Int} {esz : Nat} (e : mapE env xs = some [.slice (some ⟨i,o,sp⟩) len cap,.int kk x]) (hx : 0 ≤ x ∧ x < len) :
  opS env (.iad esz) xs h = some (.pointer (some ⟨i,o + x.toNat * esz,none⟩),h) := by
 unfold opS
 rw [e]
 simp only [stepK,if_pos hx]
theorem o_iaa [Fl] {i o len : Nat} {kk : IntKind} {x : Int} {esz : Nat} (e : mapE env xs = some [.pointer (some ⟨i,o,none⟩),.int kk x]) (hx : 0 ≤ x ∧ x < len) :
  opS env (.iaa len esz) xs h = some (.pointer (some ⟨i,o + x.toNat * esz,none⟩),h) := by
 unfold opS
 rw [e]
 simp only [stepK,if_pos hx]
theorem o_ld [Fl] {i o : Nat} (e : mapE env xs = some [.pointer (some ⟨i,o,none⟩)]) (hr : h.rd i o 1 = some [v]) : opS env .ld1 xs h = some (v,h) := by
 unfold opS
 rw [e]
 simp only [stepK,hr]
theorem o_ldn [Fl] {i o c : Nat} {us : List Value} (e : mapE env xs = some [.pointer (some ⟨i,o,none⟩)]) (hr : h.rd i o c = some us) : opS env (.ldn c) xs h = some (.agg ⟨us⟩,h) := by
 unfold opS
 rw [e]
 simp only [stepK,hr,Option.map_some]
theorem o_st [Fl] {i o c : Nat} {u : Value} (e : mapE env xs = some [.pointer (some ⟨i,o,none⟩),u]) (hs : u.cells.size = c) (hw : h.wr i o u.cells.toList = some h') : opS env (.st c) xs h = some (undef,h') := by
 unfold opS
 rw [e]
 simp only [stepK,hs,if_true,hw,Option.map_some]
theorem o_rem [Fl] {kk : IntKind} {a b : Int} (e : mapE env xs = some [.int kk a,.int kk b]) (ha : 0 ≤ a) (hb : 0 < b) : opS env (.bin .rem) xs h = some (.int kk (a % b),h) := by
 unfold opS
 rw [e]
 have : kk = kk ∧ b ≠ 0 := ⟨rfl,by omega⟩
 show (if kk = kk ∧ b ≠ 0 then some (Value.int kk (a.tmod b)) else none).map (·,h) = _
 rw [if_pos this,Int.tmod_eq_emod_of_nonneg ha]
 rfl
theorem dr [Fl] {ix : Nat} {eff : Bool} {L : List DE} (e : opS env k xs h = some (v,h')) (n : wpD P CT L (env.put d v) h' Q) : wpD P CT (⟨ix,⟨d,none,.op k xs⟩,eff,[]⟩ :: L) env h Q := by
 unfold opS at e
 unfold wpD wpIn
 simp only [wanted]
 split at e
 ·next vs hv => simp only [hv,e]; exact ⟨trivial,n⟩
 ·cases e
theorem drT [Fl] {ix t : Nat} {b c : Bool} {eff : Bool} {L : List DE} (g : env.get t = some (.bool c)) (hc : (c == b) = true) (e : opS env k xs h = some (v,h')) (n : wpD P CT L (env.put d v) h' Q) : wpD P CT (⟨ix,⟨d,some (t,b),.op k xs⟩,eff,[]⟩ :: L) env h Q := by
 unfold opS at e
 unfold wpD wpIn
 simp only [wanted,g,hc]
 split at e
 ·next vs hv => simp only [hv,e]; exact ⟨trivial,n⟩
 ·cases e
theorem drF [Fl] {ix t : Nat} {b c : Bool} {eff : Bool} {ik : IK} {L : List DE} (g : env.get t = some (.bool c)) (hc : (c == b) = false) (n : wpD P CT L (env.put d undef) h Q) : wpD P CT (⟨ix,⟨d,some (t,b),ik⟩,eff,[]⟩ :: L) env h Q := by
 unfold wpD wpIn
 simp only [wanted,g,hc]
 exact ⟨trivial,n⟩
def Hp.empty : Hp := ⟨fun _ => none,0⟩
theorem Sim.empty [Fl] (W : World) (t : Tb W.heap.size W) : Sim W.heap.size W ⟨fun _ => none,fun _ => none⟩ Hp.empty W :=
 ⟨Bel.refl t,Nat.le_refl _,fun _ _ => rfl,fun _ _ e => (by cases e),MS.empty _ _ _ _,fun _ _ e _ => (by cases e),fun _ _ _ _ _ _ e => (by cases e)⟩
end
end
section
abbrev nI : Int → Value := Value.int .i64
abbrev ptr (q : Nat) : Value := .pointer (some ⟨q,0,none⟩)
theorem rd_f [Fl] {h : Hp} {i : Nat} {us : List Value} {b : Bool} {e : Nat} (hg : h.get i = some ⟨us,b,e⟩) {x : Nat} {v : Value} (hx : us[x]? = some v) : h.rd i (0 + x) 1 = some [v] := by
 have hl := (List.getElem?_eq_some_iff.1 hx).1
 unfold Hp.rd
 simp only [hg,Nat.zero_add]
 rw [if_pos (by omega),List.drop_eq_getElem_cons hl]
 rw [List.getElem?_eq_getElem hl] at hx
 cases hx
 rfl
theorem wr_f [Fl] {h : Hp} {i : Nat} {us : List Value} {e : Nat} (hg : h.get i = some ⟨us,true,e⟩) {x : Nat} (hx : x < us.length) {v : Value} (hv : one v = true) : h.wr i (0 + x) [v] = some (h.put i ⟨us.set x v,true,e⟩) := by
 unfold Hp.wr
 simp only [hg,Nat.zero_add]
 rw [if_pos ⟨trivial,by simp; omega,by simp [hv]⟩]
 rfl
theorem hput_same [Fl] (h : Hp) (i : Nat) (o : Ob) : (h.put i o).get i = some o := by simp [Hp.put]
theorem hput_ne [Fl] (h : Hp) {i j : Nat} (o : Ob) (hij : j ≠ i) : (h.put i o).get j = h.get j := by simp [Hp.put,hij]
theorem hput_nx [Fl] (h : Hp) (i : Nat) (o : Ob) : (h.put i o).nx = h.nx := rfl
def Mod (q j : Nat) (h h' : Hp) : Prop := h.nx ≤ h'.nx ∧ ∀ k,k < h.nx → k ≠ q → k ≠ j → h'.get k = h.get k
theorem rd_app [Fl] {h : Hp} {j : Nat} {xs us : List Value} {b : Bool} {e : Nat} (hg : h.get j = some ⟨xs ++ us,b,e⟩) {x : Nat} {v : Value} (hx : us[x]? = some v) : h.rd j (xs.length + x * 1) 1 = some [v] := by
 have hl := (List.getElem?_eq_some_iff.1 hx).1
 have hx2 : (xs ++ us)[xs.length + x]? = some v := by rw [List.getElem?_append_right (by omega)]; simpa using hx
 have := rd_f hg (x := xs.length + x) hx2
 simpa using this
def Rd (h : Hp) (s : Value) (us : List Value) : Prop :=
 (s = .slice none 0 0 ∧ us = []) ∨ ∃ i o sp c,s = .slice (some ⟨i,o,sp⟩) us.length c ∧ ∀ x v,us[x]? = some v → h.rd i (o + x * 1) 1 = some [v]
theorem Rd.len [Fl] {h : Hp} {s : Value} {us : List Value} (a : Rd h s us) : ∃ x c,s = .slice x us.length c := by
 rcases a with ⟨rfl,rfl⟩ | ⟨i,o,sp,c,rfl,_⟩ <;> exact ⟨_,_,rfl⟩
theorem Rd.ext [Fl] {h h' : Hp} {s : Value} {us : List Value} (a : Rd h s us) (e : ∀ i o sp n c,s = .slice (some ⟨i,o,sp⟩) n c → h'.get i = h.get i) : Rd h' s us := by
 rcases a with a | ⟨i,o,sp,c,rfl,hr⟩
 ·exact .inl a
 ·refine .inr ⟨i,o,sp,c,rfl,fun x v hx => ?_⟩
  have := hr x v hx
  unfold Hp.rd at this ⊢
  rw [e i o sp _ _ rfl]
  exact this
theorem Ow.put [Fl] {N : Nat} {h : Hp} {s : Value} {us : List Value} (a : Ow N h s us) {q : Nat} (hq : q < N) (o : Ob) : Ow N (h.put q o) s us := by
 rcases a with a | ⟨i,h1,h2,h3,h4,h5⟩
 ·exact .inl a
 ·exact .inr ⟨i,h1,h2,h3,(hput_ne _ _ (by omega)).trans h4,h5⟩
theorem u64_rng [Fl] (n : Int) : 0 ≤ IntKind.u64.wrap n ∧ IntKind.u64.wrap n ≤ 18446744073709551615 := by
 unfold IntKind.wrap
 simp only [IntKind.bits,IntKind.signed]
 simp
 omega
section
variable {P : Program} {CT : CTy} {env : Env} {h : Hp} {Q : Env → Hp → Prop} {d : Option Nat} {xs : List Operand} {vs : List Value}
theorem ag_ld [Fl] {d t i o : Nat} {v : Value} (g1 : env.get t = some (.pointer (some ⟨i,o,none⟩))) (g2 : env.get d = some v) (hr : h.rd i o 1 = some [v]) : again ⟨some d,none,.op .ld1 [.tmp t]⟩ env h := by
 unfold again
 simp only [wanted,mapE,evA,g1,g2,stepK,hr]
end
end
section
abbrev Cf := FuncId → List Value → Hp → Option (Value × Hp)
section
variable {P : Program} {cf : Cf} {env env' : Env} {h h' : Hp}
end
end
section
structure WI (P : Program) (CT : CTy) (i : In) (env : Env) (h : Hp) (R : Value → Hp → Prop) : Prop where
 out : wpIn P CT i env h R
def getF : Env → Nat → Option Value
 | [],_ => none
 | (k,v) :: r,t => match Nat.beq k t with
  | true => some v
  | false => getF r t
theorem getF_eq [Fl] : ∀ (env : Env) (t : Nat),getF env t = env.get t
 | [],_ => rfl
 | (k,v) :: r,t => by
  simp only [getF,Env.get]
  cases h : Nat.beq k t
  ·rw [if_neg (Nat.ne_of_beq_eq_false h)]; exact getF_eq r t
  ·rw [if_pos (Nat.eq_of_beq_eq_true h)]
def evF (env : Env) : Operand → Option Value
 | .tmp t => getF env t
 | .const v => if flat v then some v else none
 | .func f => some (.func (.func f) #[] #[])
 | .global _ => none
theorem evF_eq [Fl] (env : Env) (x : Operand) : evF env x = evA env x := by cases x <;> first | exact getF_eq _ _ | rfl
def mapF (env : Env) : List Operand → Option (List Value)
 | [] => some []
 | x :: r => match evF env x with
  | some v => match mapF env r with
   | some vs => some (v :: vs)
   | none => none
  | none => none
theorem mapF_eq [Fl] (env : Env) : ∀ xs,mapF env xs = mapE env xs
 | [] => rfl
 | x :: r => by simp only [mapF,mapE,evF_eq,mapF_eq env r]; rfl
def opF (env : Env) (k : K) (xs : List Operand) (h : Hp) : Option (Value × Hp) :=
 match mapF env xs with
 | some vs => stepK k vs h
 | none => none
theorem opF_eq [Fl] (env : Env) (k : K) (xs : List Operand) (h : Hp) : opF env k xs h = opS env k xs h := by unfold opF opS; rw [mapF_eq]; first | done | rfl
theorem le_consF [Fl] {env : Env} {t : Nat} {u : Value} {l : Env} (e : getF env t = some u) (hl : EnvLe l env) : EnvLe ((t,u) :: l) env := le_cons ((getF_eq _ _).symm.trans e) hl
theorem ai_condF [Fl] {P : Program} {n : Nat} {env : Env} {h : Hp} {Q : Exit → Env → Hp → Prop} {c : Operand} {x y : IC} {b : Bool} (hc : evF env c = some (.bool b)) (hx : b = true → AI P n x env h Q) (hy : b = false → AI P n y env h Q) : AI P n (.cond c x y) env h Q := ai_cond ((evF_eq _ _).symm.trans hc) hx hy
def okK : K → Bool
 | .bin _ | .cvt _ | .neg | .ld1 | .ldn _ | .st _ | .iad _ | .iaa _ _ | .mm _ | .ext _ => false
 | .bsl _ e n _ _ => Nat.ble (e * n) 4
 | .bld _ _ ix => Nat.ble ix.length 3
 | _ => true
section
variable {P : Program} {CT : CTy} {env : Env} {h h' : Hp} {d : Option Nat} {k : K} {xs : List Operand} {vs : List Value} {v : Value} {R : Value → Hp → Prop} {ik : IK} {a b : Int} {kk : IntKind}
structure SR (P : Program) (CT : CTy) (ins : List In) (env : Env) (h : Hp) (Q : Env → Hp → Prop) : Prop where
 out : wpS P CT ins env h Q
structure SD (P : Program) (CT : CTy) (L : List DE) (env : Env) (h : Hp) (Q : Env → Hp → Prop) : Prop where
 out : wpD P CT L env h Q
structure ST (P : Program) (CT : CTy) (T : DT) (env : Env) (h : Hp) (Q : Env → Hp → Prop) : Prop where
 out : wpT P CT T env h Q
theorem ai_regW [Fl] {n : Nat} {ins : List In} {Q : Exit → Env → Hp → Prop} (a : SR P (ACall P) ins env h fun e g => Q .normal e g) : AI P n (.reg ins) env h Q := ai_reg a.out
theorem ai_drwW [Fl] {n : Nat} {L : List DE} {Q : Exit → Env → Hp → Prop} (hm : P.follows .mixedOrders = true) (a : SD P (ACall P) L env h fun e g => Q .normal e g) : AI P n (.drw L) env h Q := ai_drw hm a.out
theorem ai_drtW [Fl] {n : Nat} {T : DT} {Q : Exit → Env → Hp → Prop} (hm : P.follows .mixedOrders = true) (a : ST P (ACall P) T env h fun e g => Q .normal e g) : AI P n (.drt T) env h Q := ai_drt hm a.out
theorem tE [Fl] {Q : Env → Hp → Prop} (n : Q env h) : ST P CT .nil env h Q := ⟨n⟩
theorem tA [Fl] {x y : DT} {Q : Env → Hp → Prop} (n : ST P CT x env h Q) (n2 : ST P CT y env h Q) : ST P CT (.alt x y) env h Q := ⟨⟨n.out,n2.out⟩⟩
theorem sE [Fl] {Q : Env → Hp → Prop} (n : Q env h) : SR P CT [] env h Q := ⟨n⟩
theorem dE [Fl] {Q : Env → Hp → Prop} (n : Q env h) : SD P CT [] env h Q := ⟨n⟩
theorem w_op0 [Fl] (e : opF env k xs h = some (v,h')) (n : R v h') : wpIn P CT ⟨d,none,.op k xs⟩ env h R := by
 rw [opF_eq] at e
 unfold opS at e
 unfold wpIn
 simp only [wanted]
 split at e
 ·next vs hv => simp only [hv,e]; exact n
 ·cases e
theorem w_op [Fl] (e : opF env k xs h = some (v,h')) (n : R v h') : WI P CT ⟨d,none,.op k xs⟩ env h R := ⟨w_op0 e n⟩
theorem w_v [Fl] {v2 : Value} (e : opF env k xs h = some (v,h')) (hv : v = v2) (n : R v2 h') : WI P CT ⟨d,none,.op k xs⟩ env h R := by subst hv; exact w_op e n
theorem w_gT [Fl] {t : Nat} {b c : Bool} (g : getF env t = some (.bool c)) (hc : (c == b) = true) (n : WI P CT ⟨d,none,ik⟩ env h R) : WI P CT ⟨d,some (t,b),ik⟩ env h R := by
 rw [getF_eq] at g
 refine ⟨?_⟩
 have n := n.out
 unfold wpIn at n ⊢
 simp only [wanted,g,hc] at n ⊢
 exact n
theorem w_gF [Fl] {t : Nat} {b c : Bool} (g : getF env t = some (.bool c)) (hc : (c == b) = false) (n : R undef h) : WI P CT ⟨d,some (t,b),ik⟩ env h R := by
 rw [getF_eq] at g
 refine ⟨?_⟩
 unfold wpIn
 simp only [wanted,g,hc]
 exact n
theorem w_gU [Fl] {t : Nat} {b : Bool} (g : getF env t = some undef) (n : R undef h) : WI P CT ⟨d,some (t,b),ik⟩ env h R := by
 rw [getF_eq] at g
 refine ⟨?_⟩
 unfold wpIn
 simp only [wanted,g,undef]
 exact n
theorem w_call [Fl] {f : FuncId} (e : mapF env xs = some vs) (c : CT f vs h R) : WI P CT ⟨d,none,.call f xs⟩ env h R := by
 rw [mapF_eq] at e
 refine ⟨?_⟩
 unfold wpIn
 simp only [wanted,e]
 exact c
theorem w_callE [Fl] {f g : FuncId} (c : CT g vs h R) (hf : Nat.beq f g = true) (e : mapF env xs = some vs) : WI P CT ⟨d,none,.call f xs⟩ env h R := by
 rw [Nat.eq_of_beq_eq_true hf]
 exact w_call e c
theorem w_callv [Fl] {x : Operand} {f : FuncId} {a b : Array Value} (e : evF env x = some (.func (.func f) a b)) (e2 : mapF env xs = some vs) (c : CT f (a.toList ++ vs ++ b.toList) h R) : WI P CT ⟨d,none,.callv x xs⟩ env h R := by
 rw [evF_eq] at e
 rw [mapF_eq] at e2
 refine ⟨?_⟩
 unfold wpIn
 simp only [wanted,e,e2]
 exact c
theorem w_imp [Fl] {i : In} {R' : Value → Hp → Prop} (n : wpIn P CT i env h R) (hm : ∀ (f : FuncId) (vs : List Value) (g : Hp) (S S' : Value → Hp → Prop),(∀ v h',S v h' → S' v h') → CT f vs g S → CT f vs g S') (hr : ∀ v h',R v h' → R' v h') : wpIn P CT i env h R' := by
 unfold wpIn at n ⊢
 split at n
 ·exact n
 ·next hw => exact hr _ _ n
 ·split at n
  ·split at n
   ·exact n.elim
   ·split at n
    ·exact n.elim
    ·exact hr _ _ n
  ·split at n
   ·exact n.elim
   ·exact hr _ _ n
  ·split at n
   ·exact n.elim
   ·exact hm _ _ _ _ _ hr n
  ·split at n
   ·exact hm _ _ _ _ _ hr n
   ·exact n.elim
theorem sS [Fl] {s : Nat} {g : Option (Nat × Bool)} {r : List In} {Q : Env → Hp → Prop} (n : WI P (ACall P) ⟨some s,g,ik⟩ env h fun v h' => SR P (ACall P) r ((s,v) :: env) h' Q) : SR P (ACall P) (⟨some s,g,ik⟩ :: r) env h Q :=
 ⟨w_imp (CT := ACall P) n.out (fun _ _ _ _ _ hr c => c.mono hr) fun _ _ n => n.out⟩
theorem sSn [Fl] {g : Option (Nat × Bool)} {r : List In} {Q : Env → Hp → Prop} (n : WI P (ACall P) ⟨none,g,ik⟩ env h fun _ h' => SR P (ACall P) r env h' Q) : SR P (ACall P) (⟨none,g,ik⟩ :: r) env h Q :=
 ⟨w_imp (CT := ACall P) n.out (fun _ _ _ _ _ hr c => c.mono hr) fun _ _ n => n.out⟩
theorem dS [Fl] {ix s : Nat} {g : Option (Nat × Bool)} {eff : Bool} {L : List DE} {Q : Env → Hp → Prop} (n : WI P (ACall P) ⟨some s,g,ik⟩ env h fun v h' => SD P (ACall P) L ((s,v) :: env) h' Q) : SD P (ACall P) (⟨ix,⟨some s,g,ik⟩,eff,[]⟩ :: L) env h Q :=
 ⟨w_imp (CT := ACall P) n.out (fun _ _ _ _ _ hr c => c.mono hr) fun _ _ n => ⟨trivial,n.out⟩⟩
theorem dSn [Fl] {ix : Nat} {g : Option (Nat × Bool)} {eff : Bool} {L : List DE} {Q : Env → Hp → Prop} (n : WI P (ACall P) ⟨none,g,ik⟩ env h fun _ h' => SD P (ACall P) L env h' Q) : SD P (ACall P) (⟨ix,⟨none,g,ik⟩,eff,[]⟩ :: L) env h Q :=
 ⟨w_imp (CT := ACall P) n.out (fun _ _ _ _ _ hr c => c.mono hr) fun _ _ n => ⟨trivial,n.out⟩⟩
theorem dSR [Fl] {ix s : Nat} {g : Option (Nat × Bool)} {eff : Bool} {re : List In} {L : List DE} {Q : Env → Hp → Prop} (n : WI P (ACall P) ⟨some s,g,ik⟩ env h fun v h' => allAgain re env h' ∧ SD P (ACall P) L ((s,v) :: env) h' Q) : SD P (ACall P) (⟨ix,⟨some s,g,ik⟩,eff,re⟩ :: L) env h Q :=
 ⟨w_imp (CT := ACall P) n.out (fun _ _ _ _ _ hr c => c.mono hr) fun _ _ n => ⟨n.1,n.2.out⟩⟩
theorem dSRn [Fl] {ix : Nat} {g : Option (Nat × Bool)} {eff : Bool} {re : List In} {L : List DE} {Q : Env → Hp → Prop} (n : WI P (ACall P) ⟨none,g,ik⟩ env h fun _ h' => allAgain re env h' ∧ SD P (ACall P) L env h' Q) : SD P (ACall P) (⟨ix,⟨none,g,ik⟩,eff,re⟩ :: L) env h Q :=
 ⟨w_imp (CT := ACall P) n.out (fun _ _ _ _ _ hr c => c.mono hr) fun _ _ n => ⟨n.1,n.2.out⟩⟩
theorem tS [Fl] {ix s : Nat} {g : Option (Nat × Bool)} {eff : Bool} {T : DT} {Q : Env → Hp → Prop} (n : WI P (ACall P) ⟨some s,g,ik⟩ env h fun v h' => ST P (ACall P) T ((s,v) :: env) h' Q) : ST P (ACall P) (.one ⟨ix,⟨some s,g,ik⟩,eff,[]⟩ T) env h Q :=
 ⟨w_imp (CT := ACall P) n.out (fun _ _ _ _ _ hr c => c.mono hr) fun _ _ n => ⟨trivial,n.out⟩⟩
theorem tSn [Fl] {ix : Nat} {g : Option (Nat × Bool)} {eff : Bool} {T : DT} {Q : Env → Hp → Prop} (n : WI P (ACall P) ⟨none,g,ik⟩ env h fun _ h' => ST P (ACall P) T env h' Q) : ST P (ACall P) (.one ⟨ix,⟨none,g,ik⟩,eff,[]⟩ T) env h Q :=
 ⟨w_imp (CT := ACall P) n.out (fun _ _ _ _ _ hr c => c.mono hr) fun _ _ n => ⟨trivial,n.out⟩⟩
theorem tSR [Fl] {ix s : Nat} {g : Option (Nat × Bool)} {eff : Bool} {re : List In} {T : DT} {Q : Env → Hp → Prop} (n : WI P (ACall P) ⟨some s,g,ik⟩ env h fun v h' => allAgain re env h' ∧ ST P (ACall P) T ((s,v) :: env) h' Q) : ST P (ACall P) (.one ⟨ix,⟨some s,g,ik⟩,eff,re⟩ T) env h Q :=
 ⟨w_imp (CT := ACall P) n.out (fun _ _ _ _ _ hr c => c.mono hr) fun _ _ n => ⟨n.1,n.2.out⟩⟩
theorem agT [Fl] {re : List In} {T : DT} {env' : Env} {Q : Env → Hp → Prop} (a : allAgain re env h) (n : ST P CT T env' h Q) : allAgain re env h ∧ ST P CT T env' h Q := ⟨a,n⟩
theorem agS [Fl] {re : List In} {L : List DE} {env' : Env} {Q : Env → Hp → Prop} (a : allAgain re env h) (n : SD P CT L env' h Q) : allAgain re env h ∧ SD P CT L env' h Q := ⟨a,n⟩
theorem ag_nil [Fl] : allAgain [] env h := trivial
theorem ag_cons [Fl] {i : In} {r : List In} (a : again i env h) (n : allAgain r env h) : allAgain (i :: r) env h := ⟨a,n⟩
theorem ag_l [Fl] {d' t i o : Nat} (g1 : getF env t = some (.pointer (some ⟨i,o,none⟩))) (g2 : getF env d' = some v) (hr : h.rd i o 1 = some [v]) : again ⟨some d',none,.op .ld1 [.tmp t]⟩ env h := ag_ld ((getF_eq _ _).symm.trans g1) ((getF_eq _ _).symm.trans g2) hr
theorem ag_ln [Fl] {d' t i o c : Nat} {us : List Value} (g1 : getF env t = some (.pointer (some ⟨i,o,none⟩))) (g2 : getF env d' = some (.agg ⟨us⟩)) (hr : h.rd i o c = some us) : again ⟨some d',none,.op (.ldn c) [.tmp t]⟩ env h := by
 rw [getF_eq] at g1 g2
 unfold again
 simp only [wanted,mapE,evA,g1,g2,stepK,hr,Option.map_some]
theorem ag_gT [Fl] {t : Nat} {b c : Bool} (g : getF env t = some (.bool c)) (hc : (c == b) = true) (n : again ⟨d,none,ik⟩ env h) : again ⟨d,some (t,b),ik⟩ env h := by
 rw [getF_eq] at g
 unfold again at n ⊢
 simp only [wanted,g,hc] at n ⊢
 exact n
theorem ag_gF [Fl] {t : Nat} {b c : Bool} (g : getF env t = some (.bool c)) (hc : (c == b) = false) : again ⟨d,some (t,b),ik⟩ env h := by
 rw [getF_eq] at g
 unfold again
 simp only [wanted,g,hc]
theorem w_gB [Fl] {t : Nat} {b c : Bool} (g : getF env t = some (.bool c)) (e : (c == b) = true → opF env k xs h = some (v,h)) (n : R (if (c == b) = true then v else undef) h) : WI P CT ⟨d,some (t,b),.op k xs⟩ env h R := by
 cases hc : c == b
 ·rw [hc] at n
  exact w_gF g hc n
 ·rw [hc] at n
  exact w_gT g hc (w_op (e hc) n)
theorem w_gBc [Fl] {f : FuncId} {t : Nat} {b c : Bool} (g : getF env t = some (.bool c)) (hm : ∀ (S S' : Value → Hp → Prop),(∀ v h',S v h' → S' v h') → CT f vs h S → CT f vs h S') (e : (c == b) = true → mapF env xs = some vs) (cl : CT f vs h fun u g => u = v ∧ h = g) (n : R (if (c == b) = true then v else undef) h) : WI P CT ⟨d,some (t,b),.call f xs⟩ env h R := by
 cases hc : c == b
 ·rw [hc] at n
  exact w_gF g hc n
 ·rw [hc] at n
  exact w_gT g hc (w_call (e hc) (hm _ _ (fun u g' hu => by rw [hu.1,← hu.2]; exact n) cl))
def okN : K → Bool
 | .new _ _ | .box _ | .bsl _ _ _ _ _ | .bld _ _ _ => false
 | k => okK k
theorem w_mv [Fl] {x : Operand} (e : evF env x = some v) (n : R v h) : WI P CT ⟨d,none,.op .mv [x]⟩ env h R :=
 w_op (v := v) (h' := h) (by unfold opF; simp only [mapF,e,stepK]) n
theorem w_add [Fl] (e : mapF env xs = some [.int .i64 a,.int .i64 b]) (hx : -9223372036854775808 ≤ a + b ∧ a + b ≤ 9223372036854775807) (n : R (.int .i64 (a + b)) h) : WI P CT ⟨d,none,.op (.bin .add) xs⟩ env h R :=
 w_v (v := .int .i64 (IntKind.i64.wrap (a + b))) (by unfold opF; rw [e]; rfl) (by rw [wrap_i64' hx.1 hx.2]) n
theorem w_sub [Fl] (e : mapF env xs = some [.int .i64 a,.int .i64 b]) (hx : -9223372036854775808 ≤ a - b ∧ a - b ≤ 9223372036854775807) (n : R (.int .i64 (a - b)) h) : WI P CT ⟨d,none,.op (.bin .sub) xs⟩ env h R :=
 w_v (v := .int .i64 (IntKind.i64.wrap (a - b))) (by unfold opF; rw [e]; rfl) (by rw [wrap_i64' hx.1 hx.2]) n
theorem w_mul [Fl] (e : mapF env xs = some [.int .i64 a,.int .i64 b]) (hx : -9223372036854775808 ≤ a * b ∧ a * b ≤ 9223372036854775807) (n : R (.int .i64 (a * b)) h) : WI P CT ⟨d,none,.op (.bin .mul) xs⟩ env h R :=
 w_v (v := .int .i64 (IntKind.i64.wrap (a * b))) (by unfold opF; rw [e]; rfl) (by rw [wrap_i64' hx.1 hx.2]) n
theorem w_neg [Fl] (e : mapF env xs = some [.int .i64 a]) (hx : -9223372036854775808 ≤ -a ∧ -a ≤ 9223372036854775807) (n : R (.int .i64 (-a)) h) : WI P CT ⟨d,none,.op .neg xs⟩ env h R :=
 w_v (v := .int .i64 (IntKind.i64.wrap (0 - a))) (by unfold opF; rw [e]; rfl) (by rw [show 0 - a = -a by omega,wrap_i64' hx.1 hx.2]) n
theorem w_ci [Fl] (e : mapF env xs = some [.int kk a]) (hx : -9223372036854775808 ≤ a ∧ a ≤ 9223372036854775807) (n : R (.int .i64 a) h) : WI P CT ⟨d,none,.op (.cvt .i64) xs⟩ env h R :=
 w_v (v := .int .i64 (IntKind.i64.wrap a)) (by unfold opF; rw [e]; rfl) (by rw [wrap_i64' hx.1 hx.2]) n
theorem w_cu [Fl] (e : mapF env xs = some [.int kk a]) (hx : 0 ≤ a ∧ a ≤ 18446744073709551615) (n : R (.int .u64 a) h) : WI P CT ⟨d,none,.op (.cvt .u64) xs⟩ env h R :=
 w_v (v := .int .u64 (IntKind.u64.wrap a)) (by unfold opF; rw [e]; rfl) (by rw [wrap_u64' hx.1 hx.2]) n
theorem w_max [Fl] (e : mapF env xs = some [.int kk a,.int kk b]) (n : R (.int kk (max a b)) h) : WI P CT ⟨d,none,.op (.mm true) xs⟩ env h R := by
 refine w_op (v := .int kk (max a b)) (h' := h) ?_ n
 unfold opF
 rw [e]
 show (if kk = kk then some (Value.int kk (if b > a then b else a)) else none).map (·,h) = _
 rw [if_pos rfl,show (if b > a then b else a) = max a b by rw [Int.max_def]; split <;> split <;> omega]
 rfl
theorem w_min [Fl] (e : mapF env xs = some [.int kk a,.int kk b]) (n : R (.int kk (min a b)) h) : WI P CT ⟨d,none,.op (.mm false) xs⟩ env h R := by
 refine w_op (v := .int kk (min a b)) (h' := h) ?_ n
 unfold opF
 rw [e]
 show (if kk = kk then some (Value.int kk (if b < a then b else a)) else none).map (·,h) = _
 rw [if_pos rfl,show (if b < a then b else a) = min a b by rw [Int.min_def]; split <;> split <;> omega]
 rfl
theorem w_cuw [Fl] (e : mapF env xs = some [.int kk a]) (n : R (.int .u64 (IntKind.u64.wrap a)) h) : WI P CT ⟨d,none,.op (.cvt .u64) xs⟩ env h R :=
 w_op (v := .int .u64 (IntKind.u64.wrap a)) (h' := h) (by unfold opF; rw [e]; rfl) n
theorem fill_all [Fl] : ∀ (vs pre z : List Value) (pl : Nat → Option (Nat × Nat)),(∀ i,i < vs.length → pl (pre.length + i) = some (pre.length + i,1)) → z.length = vs.length → vs.all one = true → Instr.fill pl ⟨pre ++ z⟩ ((List.range' pre.length vs.length).zip vs) = some ⟨pre ++ vs⟩
 | [],pre,z,pl,_,hz,_ => by
  have : z = [] := List.eq_nil_of_length_eq_zero hz
  subst this
  simp [Instr.fill]
 | v :: vs,pre,z,pl,hp,hz,ho => by
  cases z with
  | nil => simp at hz
  | cons a z =>
   simp only [List.all_cons,Bool.and_eq_true] at ho
   have hc : v.cells = #[v] := by cases v <;> first | rfl | exact absurd ho.1 Bool.false_ne_true
   simp only [List.length_cons,List.range'_succ,List.zip_cons_cons,Instr.fill]
   have h0 := hp 0 (by simp)
   rw [Nat.add_zero] at h0
   rw [h0]
   simp only [hc]
   have ih := fill_all vs (pre ++ [v]) z pl (fun i hi => by have := hp (i + 1) (by simp; omega); simpa [Nat.add_assoc,Nat.add_comm 1 i] using this) (by simpa using hz) ho.2
   simp only [List.length_append,List.length_cons,List.length_nil,Nat.zero_add,List.append_assoc,List.cons_append,List.nil_append] at ih
   rw [if_neg (by simp)]
   rw [← ih]
   congr 1
   simp
theorem w_bldF [Fl] {z : Array Value} {pl : List (Nat × Nat)} {ix : List Nat} (e : mapF env xs = some vs) (hx : ix = List.range' 0 vs.length) (hz : z.size = vs.length) (hp : pl = (List.range vs.length).map fun i => (i,1)) (ho : vs.all one = true) (n : R (.agg ⟨vs⟩) h) : WI P CT ⟨d,none,.op (.bld z pl ix) xs⟩ env h R := by
 refine w_op (v := .agg ⟨vs⟩) (h' := h) ?_ n
 unfold opF
 rw [e]
 have hl : ix.length = vs.length := by rw [hx]; simp
 simp only [stepK,hl,if_true]
 have := fill_all vs [] z.toList (fun i => pl[i]?) (fun i hi => by rw [hp]; simp [hi]) (by simpa using hz) ho
 simp only [List.nil_append,List.length_nil] at this
 rw [hx,show (⟨z.toList⟩ : Array Value) = z from rfl] at *
 rw [this]
 rfl
theorem new_get [Fl] (h : Hp) (o : Ob) : (h.new o).get h.nx = some o := by simp [Hp.new]
theorem fold_at [Fl] (off : Nat) : ∀ (cs pre z : List Value) (j : Nat),pre.length = off + j → cs.length ≤ z.length → (cs.zipIdx j).foldl (fun (a : Array Value) (p : Value × Nat) => a.setIfInBounds (off + p.2) p.1) ⟨pre ++ z⟩ = ⟨pre ++ cs ++ z.drop cs.length⟩
 | [],pre,z,j,_,_ => by simp
 | c :: cs,pre,z,j,hj,hl => by
  cases z with
  | nil => simp at hl
  | cons a z =>
   simp only [List.zipIdx_cons,List.foldl_cons]
   have hs : (⟨pre ++ a :: z⟩ : Array Value).setIfInBounds (off + j) c = ⟨(pre ++ [c]) ++ z⟩ := by
    apply Array.ext'
    rw [Array.toList_setIfInBounds,← hj]
    simp
   rw [hs,fold_at off cs (pre ++ [c]) z (j + 1) (by simp; omega) (by simpa using hl)]
   simp
theorem fill_rows [Fl] (esz : Nat) : ∀ (vs : List Value) (k : Nat) (pre z : List Value),pre.length = k * esz → z.length = vs.length * esz → (vs.all fun v => decide (v.cells.size = esz)) = true →
  Instr.fill (fun i => some (i * esz,esz)) ⟨pre ++ z⟩ ((List.range' k vs.length).zip vs) = some ⟨pre ++ vs.flatMap fun v => v.cells.toList⟩
 | [],k,pre,z,_,hz,_ => by
  have : z = [] := List.eq_nil_of_length_eq_zero (by simpa using hz)
  subst this
  simp [Instr.fill]
 | v :: vs,k,pre,z,hp,hz,ho => by
  simp only [List.all_cons,Bool.and_eq_true,decide_eq_true_eq] at ho
  have hvl : v.cells.toList.length = esz := by simpa using ho.1
  have hz2 : z.length = esz + vs.length * esz := by rw [hz]; simp [Nat.add_mul]; omega
  simp only [List.length_cons,List.range'_succ,List.zip_cons_cons,Instr.fill]
  rw [if_neg (by simp [ho.1]; omega)]
  have hf := fold_at (k * esz) v.cells.toList pre z 0 (by omega) (by omega)
  have hf2 : v.cells.zipIdx.foldl (fun cs x => cs.setIfInBounds (k * esz + x.2) x.1) (⟨pre ++ z⟩ : Array Value) = ⟨(pre ++ v.cells.toList) ++ z.drop esz⟩ := by
   rw [hvl] at hf
   rw [← Array.foldl_toList,Array.toList_zipIdx]
   exact hf
  rw [hf2,fill_rows esz vs (k + 1) (pre ++ v.cells.toList) (z.drop esz) (by simp [hp,ho.1,Nat.add_mul]) (by simp; omega) ho.2]
  simp
theorem w_bslF [Fl] {t : TypeId} {esz len : Nat} {z : Array Value} {ix : List Nat} (e : mapF env xs = some vs) (hl : vs.length = len) (hx : ix = List.range' 0 len) (hz : z.size = len * esz) (ho : (vs.all fun v => decide (v.cells.size = esz)) = true)
  (n : ∀ g,Ext h g → g.get h.nx = some ⟨vs.flatMap fun v => v.cells.toList,true,esz⟩ → h.nx < g.nx → R (.slice (some ⟨h.nx,0,none⟩) len len) g) : WI P CT ⟨d,none,.op (.bsl t esz len z ix) xs⟩ env h R := by
 refine w_op (v := .slice (some ⟨h.nx,0,none⟩) len len) (h' := h.new ⟨vs.flatMap fun v => v.cells.toList,true,esz⟩) ?_ (n _ (Ext.new _ _) (new_get _ _) (by simp [Hp.new]))
 unfold opF
 rw [e]
 have hl2 : ix.length = vs.length := by rw [hx,hl]; simp
 simp only [stepK,hl2,if_true]
 have := fill_rows esz vs 0 [] z.toList (by simp) (by simpa [hl] using hz) ho
 simp only [List.nil_append] at this
 rw [hx,← hl]
 rw [show (⟨z.toList⟩ : Array Value) = z from rfl] at this
 rw [this]
 rfl
theorem w_ext [Fl] {i : Nat} {us : List Value} (e : mapF env xs = some [.tuple ⟨us⟩]) (hv : us[i]? = some v) (n : R v h) : WI P CT ⟨d,none,.op (.ext i) xs⟩ env h R := by
 refine w_op (v := v) (h' := h) ?_ n
 unfold opF
 rw [e]
 simp only [stepK]
 have : (⟨us⟩ : Array Value)[i]? = some v := by simpa using hv
 rw [this]
 rfl
theorem w_pickT [Fl] {x y : Value} (e : mapF env xs = some [.bool true,x,y]) (n : R x h) : WI P CT ⟨d,none,.op .pick xs⟩ env h R :=
 w_op (v := x) (h' := h) (by unfold opF; rw [e]; rfl) n
theorem w_pickF [Fl] {x y : Value} (e : mapF env xs = some [.bool false,x,y]) (n : R y h) : WI P CT ⟨d,none,.op .pick xs⟩ env h R :=
 w_op (v := y) (h' := h) (by unfold opF; rw [e]; rfl) n
theorem w_rem [Fl] (e : mapF env xs = some [.int kk a,.int kk b]) (ha : 0 ≤ a) (hb : 0 < b) (n : R (.int kk (a % b)) h) : WI P CT ⟨d,none,.op (.bin .rem) xs⟩ env h R := w_op ((opF_eq _ _ _ _).trans (o_rem ((mapF_eq _ _).symm.trans e) ha hb)) n
theorem w_quo [Fl] (e : mapF env xs = some [.int .i64 a,.int .i64 b]) (ha : 0 ≤ a ∧ a ≤ 9223372036854775807) (hb : 0 < b) (n : R (.int .i64 (a / b)) h) : WI P CT ⟨d,none,.op (.bin .quo) xs⟩ env h R := by
 refine w_op (v := .int .i64 (a / b)) (h' := h) ?_ n
 unfold opF
 rw [e]
 have : IntKind.i64 = IntKind.i64 ∧ b ≠ 0 := ⟨rfl,by omega⟩
 have h1 : 0 ≤ a / b := Int.ediv_nonneg ha.1 (by omega)
 have h2 : a / b ≤ a := Int.ediv_le_self _ ha.1
 show (if IntKind.i64 = IntKind.i64 ∧ b ≠ 0 then some (Value.int .i64 (IntKind.i64.wrap (a.tdiv b))) else none).map (·,h) = _
 rw [if_pos this,Int.tdiv_eq_ediv_of_nonneg ha.1,wrap_i64' (by omega) (by omega)]
 rfl
theorem w_quou [Fl] (e : mapF env xs = some [.int .u64 a,.int .u64 b]) (ha : 0 ≤ a ∧ a ≤ 18446744073709551615) (hb : 0 < b) (n : R (.int .u64 (a / b)) h) : WI P CT ⟨d,none,.op (.bin .quo) xs⟩ env h R := by
 refine w_op (v := .int .u64 (a / b)) (h' := h) ?_ n
 unfold opF
 rw [e]
 have : IntKind.u64 = IntKind.u64 ∧ b ≠ 0 := ⟨rfl,by omega⟩
 have h1 : 0 ≤ a / b := Int.ediv_nonneg ha.1 (by omega)
 have h2 : a / b ≤ a := Int.ediv_le_self _ ha.1
 show (if IntKind.u64 = IntKind.u64 ∧ b ≠ 0 then some (Value.int .u64 (IntKind.u64.wrap (a.tdiv b))) else none).map (·,h) = _
 rw [if_pos this,Int.tdiv_eq_ediv_of_nonneg ha.1,wrap_u64' (by omega) (by omega)]
 rfl
theorem w_cmp [Fl] {op : BinOp} {c c2 : Bool} (e : opF env (.bin op) xs h = some (.bool c,h')) (hc : c = c2) (n : R (.bool c2) h') : WI P CT ⟨d,none,.op (.bin op) xs⟩ env h R := by subst hc; exact w_op e n
theorem w_iad [Fl] {i o len cap : Nat} {sp : Option Nat} {x : Int} {esz : Nat} (e : mapF env xs = some [.slice (some ⟨i,o,sp⟩) len cap,.int kk x]) (hx : 0 ≤ x ∧ x < len) (n : R (.pointer (some ⟨i,o + x.toNat * esz,none⟩)) h) :
  WI P CT ⟨d,none,.op (.iad esz) xs⟩ env h R := w_op ((opF_eq _ _ _ _).trans (o_iad ((mapF_eq _ _).symm.trans e) hx)) n
theorem w_iaa [Fl] {i o len : Nat} {x : Int} {esz : Nat} (e : mapF env xs = some [.pointer (some ⟨i,o,none⟩),.int kk x]) (hx : 0 ≤ x ∧ x < len) (n : R (.pointer (some ⟨i,o + x.toNat * esz,none⟩)) h) :
  WI P CT ⟨d,none,.op (.iaa len esz) xs⟩ env h R := w_op ((opF_eq _ _ _ _).trans (o_iaa ((mapF_eq _ _).symm.trans e) hx)) n
theorem w_ld [Fl] {i o : Nat} (e : mapF env xs = some [.pointer (some ⟨i,o,none⟩)]) (hr : h.rd i o 1 = some [v]) (n : R v h) : WI P CT ⟨d,none,.op .ld1 xs⟩ env h R := w_op ((opF_eq _ _ _ _).trans (o_ld ((mapF_eq _ _).symm.trans e) hr)) n
theorem w_ldn [Fl] {i o c : Nat} {us : List Value} (e : mapF env xs = some [.pointer (some ⟨i,o,none⟩)]) (hr : h.rd i o c = some us) (n : R (.agg ⟨us⟩) h) : WI P CT ⟨d,none,.op (.ldn c) xs⟩ env h R := w_op ((opF_eq _ _ _ _).trans (o_ldn ((mapF_eq _ _).symm.trans e) hr)) n
theorem w_st [Fl] {i o c : Nat} {u : Value} (e : mapF env xs = some [.pointer (some ⟨i,o,none⟩),u]) (hs : u.cells.size = c) (hw : h.wr i o u.cells.toList = some h') (n : R undef h') : WI P CT ⟨d,none,.op (.st c) xs⟩ env h R := w_op ((opF_eq _ _ _ _).trans (o_st ((mapF_eq _ _).symm.trans e) hs hw)) n
theorem roundE_r [Fl] {γ : Type} {E : γ → Env} {H : γ → Hp → Prop} {mu : γ → Nat} {k : Nat} {Q : Exit → Env → Hp → Prop} : roundE E H mu k Q .ret env h = Q .ret env h := rfl
theorem rd_g [Fl] {h : Hp} {i o : Nat} {v : Value} {us : List Value} {b : Bool} {e : Nat} (hg : h.get i = some ⟨us,b,e⟩) (hx : us[o]? = some v) : h.rd i o 1 = some [v] := by
 have := rd_f hg hx
 rwa [Nat.zero_add] at this
theorem rd_new [Fl] {h : Hp} {o : Nat} {v : Value} {us : List Value} {b : Bool} {e : Nat} (hx : us[o]? = some v) : (h.new ⟨us,b,e⟩).rd h.nx o 1 = some [v] := rd_g (new_get h _) hx
theorem rd_newn [Fl] {h : Hp} {n : Nat} {us : List Value} {b : Bool} {e : Nat} (hn : us.length = n) : (h.new ⟨us,b,e⟩).rd h.nx 0 n = some us := by
 unfold Hp.rd
 simp only [new_get]
 rw [if_pos (by omega)]
 simp [← hn]
theorem w_box [Fl] {t : TypeId} {x : Operand} (e : evF env x = some v) (n : ∀ g,Ext h g → g.get h.nx = some ⟨v.cells.toList,true,0⟩ → h.nx < g.nx → R (.pointer (some ⟨h.nx,0,none⟩)) g) : WI P CT ⟨d,none,.op (.box t) [x]⟩ env h R := by
 refine w_op (v := .pointer (some ⟨h.nx,0,none⟩)) (h' := h.new ⟨v.cells.toList,true,0⟩) ?_ (n _ (Ext.new _ _) (new_get _ _) (by simp [Hp.new]))
 unfold opF
 simp only [mapF,e,stepK,putPtr]
theorem w_new [Fl] {t : TypeId} {z : Value} (n : ∀ g,Ext h g → g.get h.nx = some ⟨z.cells.toList,true,0⟩ → h.nx < g.nx → R (.pointer (some ⟨h.nx,0,none⟩)) g) : WI P CT ⟨d,none,.op (.new t z) []⟩ env h R := by
 refine w_op (v := .pointer (some ⟨h.nx,0,none⟩)) (h' := h.new ⟨z.cells.toList,true,0⟩) ?_ (n _ (Ext.new _ _) (new_get _ _) (by simp [Hp.new]))
 unfold opF
 simp only [mapF,stepK,putPtr]
theorem w_stn [Fl] {i c : Nat} {u : Value} {us : List Value} {m : Nat} (e : mapF env xs = some [.pointer (some ⟨i,0,none⟩),u]) (hs : u.cells.size = c) (hg : h.get i = some ⟨us,true,m⟩) (hl : us.length = c) (ho : u.cells.toList.all one = true) (n : R undef (h.put i ⟨u.cells.toList,true,m⟩)) : WI P CT ⟨d,none,.op (.st c) xs⟩ env h R := by
 refine w_st (h' := h.put i ⟨u.cells.toList,true,m⟩) e hs ?_ n
 unfold Hp.wr
 simp only [hg]
 rw [if_pos ⟨trivial,by simp; omega,ho⟩]
 have hz : ∀ (vs cs : List Value),cs.length = vs.length → splice cs 0 vs = vs := by
  intro vs
  induction vs with
  | nil => intro cs hc; cases cs with
   | nil => rfl
   | cons a b => simp at hc
  | cons v vs ih =>
   intro cs hc
   cases cs with
   | nil => simp at hc
   | cons a b =>
    have hset : ∀ (vs : List Value) (cs : List Value) (k : Nat) (x : Value),splice (x :: cs) (k + 1) vs = x :: splice cs k vs := by
     intro vs
     induction vs with
     | nil => intro cs k x; rfl
     | cons v vs ih => intro cs k x; simp only [splice,List.set_cons_succ]; exact ih _ _ _
    simp only [splice,List.set_cons_zero,Nat.zero_add]
    rw [hset vs b 0 v,ih b (by simpa using hc)]
 congr 2
 exact congrArg (Ob.mk · true m) (hz _ _ (by simp; omega))
theorem o_ldF [Fl] {i o : Nat} (e : mapF env xs = some [.pointer (some ⟨i,o,none⟩)]) (hr : h.rd i o 1 = some [v]) : opF env .ld1 xs h = some (v,h) := (opF_eq _ _ _ _).trans (o_ld ((mapF_eq _ _).symm.trans e) hr)
theorem Ext.own [Fl] {h g g' : Hp} (x : Ext h g) (m : ∀ k,k ≠ h.nx → g'.get k = g.get k) (n : g'.nx = g.nx) : Ext h g' := ⟨by rw [n]; exact x.1,fun k hk => (m k (by omega)).trans (x.2 k hk)⟩
theorem w_stN [Fl] {i c : Nat} {u : Value} {us : List Value} {m : Nat} (e : mapF env xs = some [.pointer (some ⟨i,0,none⟩),u]) (hs : u.cells.size = c) (hg : h.get i = some ⟨us,true,m⟩) (hl : us.length = c) (ho : u.cells.toList.all one = true)
  (n : ∀ g,(∀ k,k ≠ i → g.get k = h.get k) → g.get i = some ⟨u.cells.toList,true,m⟩ → g.nx = h.nx → R undef g) : WI P CT ⟨d,none,.op (.st c) xs⟩ env h R :=
 w_stn e hs hg hl ho (n _ (fun _ hk => hput_ne _ _ hk) (hput_same _ _ _) rfl)
theorem w_st1 [Fl] {i o : Nat} {u : Value} {us : List Value} {m : Nat} (e : mapF env xs = some [.pointer (some ⟨i,o,none⟩),u]) (hs : u.cells = #[u]) (hg : h.get i = some ⟨us,true,m⟩) (hl : o < us.length) (ho : one u = true)
  (n : ∀ g,(∀ k,k ≠ i → g.get k = h.get k) → g.get i = some ⟨us.set o u,true,m⟩ → g.nx = h.nx → R undef g) : WI P CT ⟨d,none,.op (.st 1) xs⟩ env h R := by
 have hw := wr_f hg hl ho
 rw [Nat.zero_add] at hw
 exact w_st e (by rw [hs]; rfl) (by rw [hs]; exact hw) (n _ (fun _ hk => hput_ne _ _ hk) (hput_same _ _ _) rfl)
theorem is_okk [Fl] (_ : okK k = true) (n : WI P CT ⟨d,none,.op k xs⟩ env h R) : WI P CT ⟨d,none,.op k xs⟩ env h R := n
theorem is_okn [Fl] (_ : okN k = true) (n : WI P CT ⟨d,none,.op k xs⟩ env h R) : WI P CT ⟨d,none,.op k xs⟩ env h R := n
theorem is_ld [Fl] (n : WI P CT ⟨d,none,.op .ld1 xs⟩ env h R) : WI P CT ⟨d,none,.op .ld1 xs⟩ env h R := n
theorem is_ldn [Fl] {c : Nat} (n : WI P CT ⟨d,none,.op (.ldn c) xs⟩ env h R) : WI P CT ⟨d,none,.op (.ldn c) xs⟩ env h R := n
theorem rd_row [Fl] {h : Hp} {i : Nat} {us : List Value} {b : Bool} {e : Nat} (hg : h.get i = some ⟨us,b,e⟩) {x : Nat} {v : Value} (hx : us[x]? = some v) : h.rd i (0 + x * 1) 1 = some [v] := by
 rw [Nat.mul_one]; exact rd_f hg hx
theorem rd_all [Fl] {h : Hp} {i n : Nat} {us : List Value} {b : Bool} {e : Nat} (hg : h.get i = some ⟨us,b,e⟩) (hn : us.length = n) : h.rd i 0 n = some us := by
 unfold Hp.rd
 simp only [hg]
 rw [if_pos (by omega)]
 simp [← hn]
theorem rd_cut [Fl] {h : Hp} {i o n : Nat} {us vs : List Value} {b : Bool} {e : Nat} (hg : h.get i = some ⟨us,b,e⟩) (hl : Nat.ble (o + n) us.length = true) (hx : (us.drop o).take n = vs) : h.rd i o n = some vs := by
 unfold Hp.rd
 simp only [hg]
 rw [if_pos (Nat.le_of_ble_eq_true hl),hx]
theorem w_stP [Fl] {i o c : Nat} {cs us : List Value} {m : Nat} (e : mapF env xs = some [.pointer (some ⟨i,o,none⟩),.agg ⟨cs⟩]) (hs : cs.length = c) (hg : h.get i = some ⟨us,true,m⟩) (hl : o + c ≤ us.length) (ho : cs.all one = true)
  (n : ∀ g,(∀ k,k ≠ i → g.get k = h.get k) → g.get i = some ⟨splice us o cs,true,m⟩ → g.nx = h.nx → R undef g) : WI P CT ⟨d,none,.op (.st c) xs⟩ env h R := by
 refine w_st (h' := h.put i ⟨splice us o cs,true,m⟩) e (by simpa [Value.cells] using hs) ?_ (n _ (fun _ hk => hput_ne _ _ hk) (hput_same _ _ _) rfl)
 unfold Hp.wr
 simp only [hg]
 have e2 : (Value.agg ⟨cs⟩).cells.toList = cs := rfl
 rw [e2,if_pos ⟨trivial,by omega,ho⟩]
theorem end_cell1 [Fl] {a i n m : Nat} {t : TypeId} {dd : TypeDesc} {us : List Value} {b : Bool} (e : getF env a = some (.pointer (some ⟨i,0,none⟩))) (hg : h.get i = some ⟨us,b,m⟩) (hu : P.underlying t = some dd) (hd : isAggD dd = true) (hi : (P.info? t).map (·.size) = some n) (hl : us.length = n) (r : R (.agg ⟨us⟩) h) : endQ P [.cell a t] R .ret env h := by
 refine ⟨[.agg ⟨us⟩],?_,r⟩
 rw [getF_eq] at e
 cases hti : P.info? t with
 | none => rw [hti] at hi; cases hi
 | some ti =>
 rw [hti] at hi
 have hn : ti.size = n := Option.some.inj hi
 have : h.rd i 0 ti.size = some us := rd_all hg (by rw [hl,hn])
 simp [resAll,resOne,e,hu,hd,hti,this]
theorem ai_cT [Fl] {n : Nat} {c : Operand} {x y : IC} {Q : Exit → Env → Hp → Prop} (hc : evF env c = some (.bool true)) (hx : AI P n x env h Q) : AI P n (.cond c x y) env h Q := ai_condF hc (fun _ => hx) (fun hb => by cases hb)
theorem ai_cF [Fl] {n : Nat} {c : Operand} {x y : IC} {Q : Exit → Env → Hp → Prop} (hc : evF env c = some (.bool false)) (hy : AI P n y env h Q) : AI P n (.cond c x y) env h Q := ai_condF hc (fun hb => by cases hb) (fun _ => hy)
theorem agTA [Fl] {re : List In} {T : DT} {env' : Env} {Q : Env → Hp → Prop} (n : ST P CT T env' h Q) (a : allAgain re env h := by repeat (first | exact ag_nil | refine ag_cons (by first | exact ag_gF rfl rfl | exact ag_l rfl rfl (by first | exact rd_g ‹_› rfl | exact rd_new rfl | assumption) | exact ag_gT rfl rfl (ag_l rfl rfl (by first | exact rd_g ‹_› rfl | exact rd_new rfl | assumption)) | exact ag_ln rfl rfl (by first | exact rd_all ‹_› rfl | exact rd_newn rfl | assumption | exact rd_cut ‹_› rfl rfl) | exact ag_gT rfl rfl (ag_ln rfl rfl (by first | exact rd_all ‹_› rfl | exact rd_newn rfl | assumption | exact rd_cut ‹_› rfl rfl))) ?_)) : allAgain re env h ∧ ST P CT T env' h Q := ⟨a,n⟩
theorem agSA [Fl] {re : List In} {L : List DE} {env' : Env} {Q : Env → Hp → Prop} (n : SD P CT L env' h Q) (a : allAgain re env h := by repeat (first | exact ag_nil | refine ag_cons (by first | exact ag_gF rfl rfl | exact ag_l rfl rfl (by first | exact rd_g ‹_› rfl | exact rd_new rfl | assumption) | exact ag_gT rfl rfl (ag_l rfl rfl (by first | exact rd_g ‹_› rfl | exact rd_new rfl | assumption)) | exact ag_ln rfl rfl (by first | exact rd_all ‹_› rfl | exact rd_newn rfl | assumption | exact rd_cut ‹_› rfl rfl) | exact ag_gT rfl rfl (ag_ln rfl rfl (by first | exact rd_all ‹_› rfl | exact rd_newn rfl | assumption | exact rd_cut ‹_› rfl rfl))) ?_)) : allAgain re env h ∧ SD P CT L env' h Q := ⟨a,n⟩
theorem w_ldA [Fl] {i o : Nat} (e : mapF env xs = some [.pointer (some ⟨i,o,none⟩)]) (n : R v h) (hr : h.rd i o 1 = some [v] := by first | exact rd_g ‹_› rfl | exact rd_new rfl | assumption) : WI P CT ⟨d,none,.op .ld1 xs⟩ env h R := w_ld e hr n
theorem w_ldnA [Fl] {i o c : Nat} {us : List Value} (e : mapF env xs = some [.pointer (some ⟨i,o,none⟩)]) (n : R (.agg ⟨us⟩) h) (hr : h.rd i o c = some us := by first | exact rd_all ‹_› rfl | exact rd_newn rfl | assumption | exact rd_cut ‹_› rfl rfl) : WI P CT ⟨d,none,.op (.ldn c) xs⟩ env h R := w_ldn e hr n
theorem w_cT [Fl] {op : BinOp} {c : Bool} (e : opF env (.bin op) xs h = some (.bool c,h')) (n : R (.bool true) h') (hc : c = true := by first | exact decide_eq_true (by omega) | (simp; done) | (simp; omega)) : WI P CT ⟨d,none,.op (.bin op) xs⟩ env h R := w_cmp e hc n
theorem w_cF [Fl] {op : BinOp} {c : Bool} (e : opF env (.bin op) xs h = some (.bool c,h')) (n : R (.bool false) h') (hc : c = false := by first | exact decide_eq_false (by omega) | (simp; done) | (simp; omega)) : WI P CT ⟨d,none,.op (.bin op) xs⟩ env h R := w_cmp e hc n
theorem w_iadA [Fl] {i o len cap : Nat} {sp : Option Nat} {x : Int} {esz : Nat} (e : mapF env xs = some [.slice (some ⟨i,o,sp⟩) len cap,.int kk x]) (n : R (.pointer (some ⟨i,o + x.toNat * esz,none⟩)) h) (hx : 0 ≤ x ∧ x < len := by first | omega | (simp; done) | (simp; omega)) : WI P CT ⟨d,none,.op (.iad esz) xs⟩ env h R := w_iad e hx n
theorem w_addA [Fl] (e : mapF env xs = some [.int .i64 a,.int .i64 b]) (n : R (.int .i64 (a + b)) h) (hx : -9223372036854775808 ≤ a + b ∧ a + b ≤ 9223372036854775807 := by omega) : WI P CT ⟨d,none,.op (.bin .add) xs⟩ env h R := w_add e hx n
theorem w_subA [Fl] (e : mapF env xs = some [.int .i64 a,.int .i64 b]) (n : R (.int .i64 (a - b)) h) (hx : -9223372036854775808 ≤ a - b ∧ a - b ≤ 9223372036854775807 := by omega) : WI P CT ⟨d,none,.op (.bin .sub) xs⟩ env h R := w_sub e hx n
theorem leX [Fl] {e env : Env} (hl : EnvLe e env := by repeat (first | exact le_nil | refine le_consF rfl ?_)) : EnvLe e env := hl
theorem acallA [Fl] {f : FuncId} {fn : Func} {fi : FI} {args : List Value} {R : Value → Hp → Prop} (hf : P.funcs[f]? = some fn) (hc : compF P fn = some fi) (hb : AI P fi.n fi.body (envOf 0 args) h (endQ P fi.res R)) (hn : args.length ≤ fi.n := by exact Nat.le_of_ble_eq_true rfl) : ACall P f args h R := acall hf hc hn hb
theorem is_ag [Fl] {re : List In} {X : Prop} (n : allAgain re env h ∧ X) : allAgain re env h ∧ X := n
theorem is_bin [Fl] {op : BinOp} (n : WI P CT ⟨d,none,.op (.bin op) xs⟩ env h R) : WI P CT ⟨d,none,.op (.bin op) xs⟩ env h R := n
theorem is_iad [Fl] {m : Nat} (n : WI P CT ⟨d,none,.op (.iad m) xs⟩ env h R) : WI P CT ⟨d,none,.op (.iad m) xs⟩ env h R := n
def qo (d : Nat) (k : K) (x : List Operand) : In := ⟨some d,none,.op k x⟩
def qm (d x : Nat) : In := ⟨some d,none,.op .mv [.tmp x]⟩
def qk (d : Nat) (k : K) (x : Nat) : In := ⟨some d,none,.op k [.tmp x]⟩
def q2 (d : Nat) (k : K) (x y : Nat) : In := ⟨some d,none,.op k [.tmp x,.tmp y]⟩
def qi (d : Nat) (k : K) (x : Nat) (n : Int) : In := ⟨some d,none,.op k [.tmp x,.const (.int .i64 n)]⟩
def qg (d t : Nat) (b : Bool) (k : K) (x : List Operand) : In := ⟨some d,some (t,b),.op k x⟩
def qn (d t : Nat) (b : Bool) (k : K) (x : Nat) : In := ⟨some d,some (t,b),.op k [.tmp x]⟩
def dq (n : Nat) (i : In) : DE := ⟨n,i,false,[]⟩
def ci (n : Int) : Operand := .const (.int .i64 n)
def cb (b : Bool) : Operand := .const (.bool b)
def qh (d t : Nat) (b : Bool) (f : FuncId) (x : List Operand) : In := ⟨some d,some (t,b),.call f x⟩
def qs (n x y : Nat) : In := ⟨none,none,.op (.st n) [.tmp x,.tmp y]⟩
def qc (d : Nat) (f : FuncId) (x : List Operand) : In := ⟨some d,none,.call f x⟩
end
end
end Go.Proofs.YtelmcfnkclihcaaGreatDoorW.Am
namespace Go.Proofs.YtelmcfnkclihcaaGreatDoorW.Am
open Go
def ir27 : FI :=
 ⟨37,[.tmp 6],.seq (.reg [qk 3 (.box 27) 0,qo 6 .mv [ci 0]]) (.seq (.block 0 (.seq (.reg [qk 10 (.ldn 20) 3,qc 11 18 [.tmp 10],qk 12 .not 11,qm 9 12]) (.cond (.tmp 9) (.seq (.reg [qo 6 .mv [ci 0]]) (.ret)) (.seq (.reg [qk 14 (.fad 13) 3,qk 15 .ld1 14,qi 16 (.bin .eql) 15 (-1000),qm 13 16]) (.cond (.tmp 13) (.seq (.reg [qo 6 .mv [ci (-1000)]]) (.ret)) (.skip)))))) (.seq (.drw [dq 0 (qm 18 1),dq 1 (qk 19 (.ifc 3) 18),dq 3 (qk 21 (.fad 14) 3),dq 4 (qk 22 .ld1 21),dq 7 (qm 25 2),⟨2,qc 20 52 [.tmp 19],true,[qk 22 .ld1 21]⟩,dq 5 (q2 23 (.bin .mul) 20 22),dq 6 (qi 24 (.bin .mul) 23 1000),⟨8,qc 26 51 [.tmp 24,.tmp 25],true,[]⟩,dq 9 (qm 17 26),dq 10 (qk 27 (.ext 0) 17),dq 11 (qk 28 (.ext 1) 17),dq 12 (qm 7 27),dq 13 (qm 8 28)]) (.seq (.reg [qm 30 7,qk 31 (.fad 13) 3,qk 32 .ld1 31,qc 33 51 [.tmp 30,.tmp 32],qm 29 33,qk 34 (.ext 0) 29,qk 35 (.ext 1) 29,qm 7 34]) (.seq (.reg [qm 36 7,qm 6 36]) (.ret)))))⟩
theorem c27 : compF Tryz.prog Tryz.f27 = some ir27 := by kernel_rfl
def ir34 : FI :=
 ⟨25,[.tmp 2],.seq (.reg [qo 2 .mv [.const (.slice none 0 0)]]) (.seq (.seq (.reg [qm 5 0,qo 6 (.isn false) [.tmp 5,.const (.pointer none)]]) (.cond (.tmp 6) (.seq (.reg [qo 2 .mv [.const (.slice none 0 0)]]) (.ret)) (.skip))) (.seq (.reg [qo 3 .mv [.const (.slice none 0 0)]]) (.seq (.seq (.reg [qm 7 0,qk 8 .nck 7,qk 9 (.fad 0) 8,qk 10 .ld1 9,qk 11 .len 10,qo 12 .mv [ci 0]]) (.block 0 (.loop (.seq (.reg [q2 13 (.bin .lss) 12 11]) (.seq (.cond (.tmp 13) (.skip) (.exit 0)) (.seq (.block 1 (.seq (.reg [qm 14 12,qm 4 14]) (.reg [qm 15 3,qm 16 0,qm 17 4,qc 18 49 [.tmp 16,.tmp 17],qk 19 .nck 18,qk 20 (.ldn 4) 19,⟨some 21,none,.op (.bsl 81 4 1 #[(.int .i64 0),(.int .i64 0),(.int .i64 0),(.int .i64 0)] [0]) [.tmp 20]⟩,q2 22 (.app 81 4 32) 15 21,qm 3 22]))) (.reg [qi 23 (.bin .add) 12 1,qm 12 23]))))))) (.seq (.reg [qm 24 3,qm 2 24]) (.ret)))))⟩
theorem c34 : compF Tryz.prog Tryz.f34 = some ir34 := by kernel_rfl
def ir37 : FI :=
 ⟨10,[.tmp 2],.seq (.reg [qo 2 .mv [.const (.pointer none)]]) (.seq (.reg [qm 3 0,qk 4 .nck 3,qk 5 (.fad 21) 4,qk 6 .ld1 5,qi 7 (.iad 1) 6 2,qk 8 .ld1 7,qk 9 (.tas 57 false .nilIface) 8,qm 2 9]) (.ret))⟩
theorem c37 : compF Tryz.prog Tryz.f37 = some ir37 := by kernel_rfl
def ir39 : FI :=
 ⟨8,[.tmp 2],.seq (.reg [qo 2 .mv [.const (.slice none 0 0)]]) (.seq (.seq (.reg [qm 3 0,qo 4 (.isn false) [.tmp 3,.const (.slice none 0 0)]]) (.cond (.tmp 4) (.seq (.reg [qo 2 .mv [.const (.slice none 0 0)]]) (.ret)) (.skip))) (.seq (.reg [qo 5 (.bsl 39 15 0 #[] []) [],qm 6 0,q2 7 (.app 39 15 128) 5 6,qm 2 7]) (.ret)))⟩
theorem c39 : compF Tryz.prog Tryz.f39 = some ir39 := by kernel_rfl
def ir43 : FI :=
 ⟨141,[.tmp 2],.seq (.reg [qk 1 (.box 27) 0,⟨some 2,none,.op .mv [.const (.string ⟨#[]⟩)]⟩]) (.seq (.reg [qo 3 .mv [ci 100]]) (.seq (.seq (.reg [qk 6 (.fad 9) 1,qk 7 .ld1 6,qi 8 (.bin .neq) 7 0]) (.cond (.tmp 8) (.reg [qk 9 (.fad 9) 1,qk 10 .ld1 9,qm 3 10]) (.skip))) (.seq (.seq (.drw [dq 0 (qk 11 (.fad 0) 1),dq 1 (qk 12 .ld1 11),dq 2 (qk 13 (.ifc 2) 12),dq 5 (qk 16 (.fad 1) 1),dq 6 (qk 17 .ld1 16),dq 7 (qk 18 (.ifc 2) 17),dq 10 (qk 21 (.fad 2) 1),dq 11 (qk 22 .ld1 21),dq 12 (qk 23 (.ifc 3) 22),dq 15 (qk 26 (.fad 3) 1),dq 16 (qk 27 .ld1 26),dq 17 (qk 28 (.ifc 3) 27),dq 18 (qk 29 (.fad 2) 1),dq 19 (qk 30 .ld1 29),dq 22 (qk 33 (.fad 4) 1),dq 23 (qk 34 .ld1 33),dq 24 (qk 35 (.ifc 3) 34),dq 25 (qk 36 (.fad 3) 1),dq 26 (qk 37 .ld1 36),dq 29 (qk 40 (.fad 5) 1),dq 30 (qk 41 .ld1 40),dq 31 (qk 42 (.ifc 2) 41),dq 34 (qk 45 (.fad 6) 1),dq 35 (qk 46 .ld1 45),dq 36 (qk 47 (.ifc 2) 46),dq 39 (qk 50 (.fad 7) 1),dq 40 (qk 51 .ld1 50),dq 41 (qk 52 (.ifc 2) 51),dq 44 (qk 55 (.fad 8) 1),dq 45 (qk 56 .ld1 55),dq 46 (qk 57 (.ifc 3) 56),dq 49 (qk 60 (.fad 9) 1),dq 50 (qk 61 .ld1 60),dq 51 (qi 62 (.bin .eql) 61 0),dq 62 (qk 73 (.fad 10) 1),dq 63 (qk 74 .ld1 73),dq 64 (qk 75 (.ifc 3) 74),dq 65 (qm 76 3),dq 68 (qk 79 (.fad 11) 1),dq 69 (qk 80 .ld1 79),dq 70 (qk 81 (.ifc 3) 80),dq 73 (qk 84 (.fad 12) 1),dq 74 (qk 85 .ld1 84),dq 75 (qk 86 (.ifc 3) 85),dq 78 (qk 89 (.fad 13) 1),dq 79 (qk 90 .ld1 89),dq 80 (qi 91 (.bin .eql) 90 (-1000)),dq 88 (qk 99 (.fad 14) 1),dq 89 (qk 100 .ld1 99),dq 90 (qk 101 (.ifc 3) 100),dq 93 (qk 104 (.fad 15) 1),dq 94 (qk 105 .ld1 104),dq 95 (qk 106 (.ifc 3) 105),dq 98 (qk 109 (.fad 16) 1),dq 99 (qk 110 .ld1 109),dq 100 (qk 111 (.ifc 3) 110),dq 103 (qk 114 (.fad 17) 1),dq 104 (qk 115 .ld1 114),dq 105 (qk 116 (.ifc 3) 115),dq 108 (qk 119 (.fad 18) 1),dq 109 (qk 120 .ld1 119),dq 110 (qk 121 (.ifc 3) 120),dq 113 (qk 124 (.fad 19) 1),dq 114 (qk 125 .ld1 124),dq 115 (qk 126 (.ifc 3) 125),dq 120 (qo 131 .mv [ci 0]),⟨3,qc 14 76 [.tmp 13,ci 10,ci 1000000],true,[qk 17 .ld1 16,qk 22 .ld1 21,qk 27 .ld1 26,qk 30 .ld1 29,qk 34 .ld1 33,qk 37 .ld1 36,qk 41 .ld1 40,qk 46 .ld1 45,qk 51 .ld1 50,qk 56 .ld1 55,qk 61 .ld1 60,qk 74 .ld1 73,qk 80 .ld1 79,qk 85 .ld1 84,qk 90 .ld1 89,qk 100 .ld1 99,qk 105 .ld1 104,qk 110 .ld1 109,qk 115 .ld1 114,qk 120 .ld1 119,qk 125 .ld1 124]⟩,⟨4,⟨some 15,none,.op (.bld #[(.string ⟨#[]⟩),(.bool false)] [(0,1),(1,1)] [0,1]) [.const (.string ⟨#[116,97,114,103,101,116]⟩),.tmp 14]⟩,false,[]⟩,⟨8,qc 19 76 [.tmp 18,ci 100,ci 1000],true,[qk 22 .ld1 21,qk 27 .ld1 26,qk 30 .ld1 29,qk 34 .ld1 33,qk 37 .ld1 36,qk 41 .ld1 40,qk 46 .ld1 45,qk 51 .ld1 50,qk 56 .ld1 55,qk 61 .ld1 60,qk 74 .ld1 73,qk 80 .ld1 79,qk 85 .ld1 84,qk 90 .ld1 89,qk 100 .ld1 99,qk 105 .ld1 104,qk 110 .ld1 109,qk 115 .ld1 114,qk 120 .ld1 119,qk 125 .ld1 124]⟩,⟨9,⟨some 20,none,.op (.bld #[(.string ⟨#[]⟩),(.bool false)] [(0,1),(1,1)] [0,1]) [.const (.string ⟨#[117,116,105,108]⟩),.tmp 19]⟩,false,[]⟩,⟨13,qc 24 76 [.tmp 23,ci 6,ci 600],true,[qk 27 .ld1 26,qk 30 .ld1 29,qk 34 .ld1 33,qk 37 .ld1 36,qk 41 .ld1 40,qk 46 .ld1 45,qk 51 .ld1 50,qk 56 .ld1 55,qk 61 .ld1 60,qk 74 .ld1 73,qk 80 .ld1 79,qk 85 .ld1 84,qk 90 .ld1 89,qk 100 .ld1 99,qk 105 .ld1 104,qk 110 .ld1 109,qk 115 .ld1 114,qk 120 .ld1 119,qk 125 .ld1 124]⟩,⟨14,⟨some 25,none,.op (.bld #[(.string ⟨#[]⟩),(.bool false)] [(0,1),(1,1)] [0,1]) [.const (.string ⟨#[115,116,97,98,108,101]⟩),.tmp 24]⟩,false,[]⟩,⟨20,qc 31 76 [.tmp 28,ci 1,.tmp 30],true,[qk 34 .ld1 33,qk 37 .ld1 36,qk 41 .ld1 40,qk 46 .ld1 45,qk 51 .ld1 50,qk 56 .ld1 55,qk 61 .ld1 60,qk 74 .ld1 73,qk 80 .ld1 79,qk 85 .ld1 84,qk 90 .ld1 89,qk 100 .ld1 99,qk 105 .ld1 104,qk 110 .ld1 109,qk 115 .ld1 114,qk 120 .ld1 119,qk 125 .ld1 124]⟩,⟨21,⟨some 32,none,.op (.bld #[(.string ⟨#[]⟩),(.bool false)] [(0,1),(1,1)] [0,1]) [.const (.string ⟨#[112,97,110,105,99]⟩),.tmp 31]⟩,false,[]⟩,⟨27,qc 38 76 [.tmp 35,ci 1,.tmp 37],true,[qk 41 .ld1 40,qk 46 .ld1 45,qk 51 .ld1 50,qk 56 .ld1 55,qk 61 .ld1 60,qk 74 .ld1 73,qk 80 .ld1 79,qk 85 .ld1 84,qk 90 .ld1 89,qk 100 .ld1 99,qk 105 .ld1 104,qk 110 .ld1 109,qk 115 .ld1 114,qk 120 .ld1 119,qk 125 .ld1 124]⟩,⟨28,⟨some 39,none,.op (.bld #[(.string ⟨#[]⟩),(.bool false)] [(0,1),(1,1)] [0,1]) [.const (.string ⟨#[103,114,97,105,110]⟩),.tmp 38]⟩,false,[]⟩,⟨32,qc 43 76 [.tmp 42,ci 1100,ci 10000],true,[qk 46 .ld1 45,qk 51 .ld1 50,qk 56 .ld1 55,qk 61 .ld1 60,qk 74 .ld1 73,qk 80 .ld1 79,qk 85 .ld1 84,qk 90 .ld1 89,qk 100 .ld1 99,qk 105 .ld1 104,qk 110 .ld1 109,qk 115 .ld1 114,qk 120 .ld1 119,qk 125 .ld1 124]⟩,⟨33,⟨some 44,none,.op (.bld #[(.string ⟨#[]⟩),(.bool false)] [(0,1),(1,1)] [0,1]) [.const (.string ⟨#[116,104,114,101,115,104,111,108,100]⟩),.tmp 43]⟩,false,[]⟩,⟨37,qc 48 76 [.tmp 47,ci 1001,ci 1000000],true,[qk 51 .ld1 50,qk 56 .ld1 55,qk 61 .ld1 60,qk 74 .ld1 73,qk 80 .ld1 79,qk 85 .ld1 84,qk 90 .ld1 89,qk 100 .ld1 99,qk 105 .ld1 104,qk 110 .ld1 109,qk 115 .ld1 114,qk 120 .ld1 119,qk 125 .ld1 124]⟩,⟨38,⟨some 49,none,.op (.bld #[(.string ⟨#[]⟩),(.bool false)] [(0,1),(1,1)] [0,1]) [.const (.string ⟨#[117,112]⟩),.tmp 48]⟩,false,[]⟩,⟨42,qc 53 76 [.tmp 52,ci 1001,ci 1000000],true,[qk 56 .ld1 55,qk 61 .ld1 60,qk 74 .ld1 73,qk 80 .ld1 79,qk 85 .ld1 84,qk 90 .ld1 89,qk 100 .ld1 99,qk 105 .ld1 104,qk 110 .ld1 109,qk 115 .ld1 114,qk 120 .ld1 119,qk 125 .ld1 124]⟩,⟨43,⟨some 54,none,.op (.bld #[(.string ⟨#[]⟩),(.bool false)] [(0,1),(1,1)] [0,1]) [.const (.string ⟨#[100,111,119,110]⟩),.tmp 53]⟩,false,[]⟩,⟨47,qc 58 76 [.tmp 57,ci 0,ci 100],true,[qk 61 .ld1 60,qk 74 .ld1 73,qk 80 .ld1 79,qk 85 .ld1 84,qk 90 .ld1 89,qk 100 .ld1 99,qk 105 .ld1 104,qk 110 .ld1 109,qk 115 .ld1 114,qk 120 .ld1 119,qk 125 .ld1 124]⟩,⟨48,⟨some 59,none,.op (.bld #[(.string ⟨#[]⟩),(.bool false)] [(0,1),(1,1)] [0,1]) [.const (.string ⟨#[109,105,110]⟩),.tmp 58]⟩,false,[]⟩,dq 52 (qm 63 62),dq 53 (qn 64 63 false (.fad 9) 1),dq 54 (qn 65 63 false .ld1 64),dq 55 (qn 66 63 false (.ifc 3) 65),dq 56 (qn 67 63 false (.fad 8) 1),dq 57 (qn 68 63 false .ld1 67),dq 58 (qg 69 63 false (.mm true) [.tmp 68,ci 1]),⟨59,qh 70 63 false 76 [.tmp 66,.tmp 69,ci 100],true,[qk 74 .ld1 73,qk 80 .ld1 79,qk 85 .ld1 84,qk 90 .ld1 89,qk 100 .ld1 99,qk 105 .ld1 104,qk 110 .ld1 109,qk 115 .ld1 114,qk 120 .ld1 119,qk 125 .ld1 124]⟩,dq 60 (qo 71 .pick [.tmp 63,cb true,.tmp 70]),⟨61,⟨some 72,none,.op (.bld #[(.string ⟨#[]⟩),(.bool false)] [(0,1),(1,1)] [0,1]) [.const (.string ⟨#[109,97,120]⟩),.tmp 71]⟩,false,[]⟩,⟨66,qc 77 76 [.tmp 75,ci 0,.tmp 76],true,[qk 80 .ld1 79,qk 85 .ld1 84,qk 90 .ld1 89,qk 100 .ld1 99,qk 105 .ld1 104,qk 110 .ld1 109,qk 115 .ld1 114,qk 120 .ld1 119,qk 125 .ld1 124]⟩,⟨67,⟨some 78,none,.op (.bld #[(.string ⟨#[]⟩),(.bool false)] [(0,1),(1,1)] [0,1]) [.const (.string ⟨#[105,110,105,116,105,97,108]⟩),.tmp 77]⟩,false,[]⟩,⟨71,qc 82 76 [.tmp 81,ci 0,ci 600],true,[qk 85 .ld1 84,qk 90 .ld1 89,qk 100 .ld1 99,qk 105 .ld1 104,qk 110 .ld1 109,qk 115 .ld1 114,qk 120 .ld1 119,qk 125 .ld1 124]⟩,⟨72,⟨some 83,none,.op (.bld #[(.string ⟨#[]⟩),(.bool false)] [(0,1),(1,1)] [0,1]) [.const (.string ⟨#[103,114,97,99,101]⟩),.tmp 82]⟩,false,[]⟩,⟨76,qc 87 76 [.tmp 86,ci 0,ci 600],true,[qk 90 .ld1 89,qk 100 .ld1 99,qk 105 .ld1 104,qk 110 .ld1 109,qk 115 .ld1 114,qk 120 .ld1 119,qk 125 .ld1 124]⟩,⟨77,⟨some 88,none,.op (.bld #[(.string ⟨#[]⟩),(.bool false)] [(0,1),(1,1)] [0,1]) [.const (.string ⟨#[100,101,108,97,121]⟩),.tmp 87]⟩,false,[]⟩,dq 81 (qm 92 91),dq 82 (qn 93 92 false (.fad 13) 1),dq 83 (qn 94 92 false .ld1 93),dq 84 (qn 95 92 false (.ifc 2) 94),⟨85,qh 96 92 false 76 [.tmp 95,ci 0,ci 100000000],true,[qk 100 .ld1 99,qk 105 .ld1 104,qk 110 .ld1 109,qk 115 .ld1 114,qk 120 .ld1 119,qk 125 .ld1 124]⟩,dq 86 (qo 97 .pick [.tmp 92,cb true,.tmp 96]),⟨87,⟨some 98,none,.op (.bld #[(.string ⟨#[]⟩),(.bool false)] [(0,1),(1,1)] [0,1]) [.const (.string ⟨#[98,117,114,115,116]⟩),.tmp 97]⟩,false,[]⟩,⟨91,qc 102 76 [.tmp 101,ci 1,ci 1000],true,[qk 105 .ld1 104,qk 110 .ld1 109,qk 115 .ld1 114,qk 120 .ld1 119,qk 125 .ld1 124]⟩,⟨92,⟨some 103,none,.op (.bld #[(.string ⟨#[]⟩),(.bool false)] [(0,1),(1,1)] [0,1]) [.const (.string ⟨#[108,105,109,105,116]⟩),.tmp 102]⟩,false,[]⟩,⟨96,qc 107 76 [.tmp 106,ci 0,ci 200],true,[qk 110 .ld1 109,qk 115 .ld1 114,qk 120 .ld1 119,qk 125 .ld1 124]⟩,⟨97,⟨some 108,none,.op (.bld #[(.string ⟨#[]⟩),(.bool false)] [(0,1),(1,1)] [0,1]) [.const (.string ⟨#[113,117,101,117,101]⟩),.tmp 107]⟩,false,[]⟩,⟨101,qc 112 76 [.tmp 111,ci 1,ci 10000],true,[qk 115 .ld1 114,qk 120 .ld1 119,qk 125 .ld1 124]⟩,⟨102,⟨some 113,none,.op (.bld #[(.string ⟨#[]⟩),(.bool false)] [(0,1),(1,1)] [0,1]) [.const (.string ⟨#[116,105,109,101,111,117,116]⟩),.tmp 112]⟩,false,[]⟩,⟨106,qc 117 76 [.tmp 116,ci 0,ci 100],true,[qk 120 .ld1 119,qk 125 .ld1 124]⟩,⟨107,⟨some 118,none,.op (.bld #[(.string ⟨#[]⟩),(.bool false)] [(0,1),(1,1)] [0,1]) [.const (.string ⟨#[114,101,97,100,121]⟩),.tmp 117]⟩,false,[]⟩,⟨111,qc 122 76 [.tmp 121,ci 0,ci 100],true,[qk 125 .ld1 124]⟩,⟨112,⟨some 123,none,.op (.bld #[(.string ⟨#[]⟩),(.bool false)] [(0,1),(1,1)] [0,1]) [.const (.string ⟨#[115,117,98,115,101,116]⟩),.tmp 122]⟩,false,[]⟩,⟨116,qc 127 76 [.tmp 126,ci 0,ci 100],true,[]⟩,⟨117,⟨some 128,none,.op (.bld #[(.string ⟨#[]⟩),(.bool false)] [(0,1),(1,1)] [0,1]) [.const (.string ⟨#[115,97,109,112,108,101]⟩),.tmp 127]⟩,false,[]⟩,⟨118,⟨some 129,none,.op (.bsl 128 2 20 #[(.string ⟨#[]⟩),(.bool false),(.string ⟨#[]⟩),(.bool false),(.string ⟨#[]⟩),(.bool false),(.string ⟨#[]⟩),(.bool false),(.string ⟨#[]⟩),(.bool false),(.string ⟨#[]⟩),(.bool false),(.string ⟨#[]⟩),(.bool false),(.string ⟨#[]⟩),(.bool false),(.string ⟨#[]⟩),(.bool false),(.string ⟨#[]⟩),(.bool false),(.string ⟨#[]⟩),(.bool false),(.string ⟨#[]⟩),(.bool false),(.string ⟨#[]⟩),(.bool false),(.string ⟨#[]⟩),(.bool false),(.string ⟨#[]⟩),(.bool false),(.string ⟨#[]⟩),(.bool false),(.string ⟨#[]⟩),(.bool false),(.string ⟨#[]⟩),(.bool false),(.string ⟨#[]⟩),(.bool false),(.string ⟨#[]⟩),(.bool false)] [0,1,2,3,4,5,6,7,8,9,10,11,12,13,14,15,16,17,18,19]) [.tmp 15,.tmp 20,.tmp 25,.tmp 32,.tmp 39,.tmp 44,.tmp 49,.tmp 54,.tmp 59,.tmp 72,.tmp 78,.tmp 83,.tmp 88,.tmp 98,.tmp 103,.tmp 108,.tmp 113,.tmp 118,.tmp 123,.tmp 128]⟩,true,[]⟩,dq 119 (qk 130 .len 129)]) (.block 0 (.loop (.seq (.reg [q2 132 (.bin .lss) 131 130]) (.seq (.cond (.tmp 132) (.skip) (.exit 0)) (.seq (.block 1 (.seq (.reg [q2 133 (.iad 2) 129 131,qk 134 (.ldn 2) 133,⟨some 5,none,.op (.new 128 (.agg #[(.string ⟨#[]⟩),(.bool false)])) []⟩,qs 2 5 134]) (.seq (.reg [qk 135 (.fad 1) 5,qk 136 .ld1 135,qk 137 .not 136]) (.cond (.tmp 137) (.seq (.reg [qk 138 (.fad 0) 5,qk 139 .ld1 138,qm 2 139]) (.ret)) (.skip))))) (.reg [qi 140 (.bin .add) 131 1,qm 131 140]))))))) (.seq (.reg [⟨some 2,none,.op .mv [.const (.string ⟨#[]⟩)]⟩]) (.ret)))))⟩
theorem c43 : compF Tryz.prog Tryz.f43 = some ir43 := by kernel_rfl
def ir59 : FI :=
 ⟨41,[.cell 4 81,.tmp 5],.seq (.reg [⟨some 4,none,.op (.new 81 (.agg #[(.int .i64 0),(.int .i64 0),(.int .i64 0),(.int .i64 0)])) []⟩,qo 5 .mv [ci 0]]) (.seq (.block 0 (.seq (.reg [qm 8 0,qo 9 (.isn false) [.tmp 8,.const (.pointer none)],qm 7 9]) (.cond (.tmp 7) (.seq (.reg [⟨some 10,none,.op (.bld #[(.int .i64 0),(.int .i64 0),(.int .i64 0),(.int .i64 0)] [(0,1),(1,1),(2,1),(3,1)] []) []⟩,qs 4 4 10,qo 5 .mv [ci 8]]) (.ret)) (.seq (.reg [qm 12 1,qi 13 (.bin .lss) 12 0,qm 14 13,qn 15 14 false .mv 1,qn 16 14 false .mv 0,qn 17 14 false .nck 16,qn 18 14 false (.fad 0) 17,qn 19 14 false .ld1 18,qn 20 14 false .len 19,qg 21 14 false (.bin .geq) [.tmp 15,.tmp 20],qo 22 .pick [.tmp 14,cb true,.tmp 21],qm 11 22]) (.cond (.tmp 11) (.seq (.reg [⟨some 23,none,.op (.bld #[(.int .i64 0),(.int .i64 0),(.int .i64 0),(.int .i64 0)] [(0,1),(1,1),(2,1),(3,1)] []) []⟩,qs 4 4 23,qo 5 .mv [ci 7]]) (.ret)) (.skip)))))) (.seq (.reg [qm 24 0,qm 25 1,qc 26 49 [.tmp 24,.tmp 25],qk 27 .nck 26,qk 28 (.ldn 4) 27,⟨some 6,none,.op (.new 81 (.agg #[(.int .i64 0),(.int .i64 0),(.int .i64 0),(.int .i64 0)])) []⟩,qs 4 6 28]) (.seq (.reg [qm 29 0,qm 30 0,qk 31 .nck 30,qk 32 (.fad 0) 31,qk 33 .ld1 32,qm 34 1,qm 35 1,qi 36 (.bin .add) 35 1,qc 37 50 [.tmp 33,.tmp 34,.tmp 36],qk 38 .nck 29,qk 39 (.fad 0) 38,qs 1 39 37]) (.seq (.reg [qk 40 (.ldn 4) 6,qs 4 4 40,qo 5 .mv [ci 0]]) (.ret)))))⟩
theorem c59 : compF Tryz.prog Tryz.f59 = some ir59 := by kernel_rfl
def ir65 : FI :=
 ⟨79,[.tmp 2],.seq (.reg [qo 2 .mv [ci 0]]) (.seq (.reg [qm 12 0,qc 13 23 [.tmp 12],qc 14 66 [.tmp 13],qm 3 14]) (.seq (.reg [qo 4 .mv [.const (.slice none 0 0)]]) (.seq (.drw [dq 0 (qm 15 3),dq 1 (qm 16 0),dq 2 (qk 17 .nck 16),dq 3 (qk 18 (.fad 0) 17),dq 4 (qk 19 (.fad 19) 18),dq 5 (qk 20 .ld1 19),dq 6 (qm 21 0),dq 7 (qk 22 .nck 21),dq 8 (qk 23 (.fad 20) 22),dq 9 (qk 24 .ld1 23),⟨10,qc 25 95 [.tmp 15,.tmp 20,.tmp 24],true,[]⟩,dq 11 (qm 5 25)]) (.seq (.seq (.reg [qm 26 5,qk 27 .len 26,qo 28 .mv [ci 0]]) (.block 0 (.loop (.seq (.reg [q2 29 (.bin .lss) 28 27]) (.seq (.cond (.tmp 29) (.skip) (.exit 0)) (.seq (.block 1 (.seq (.reg [q2 30 (.iad 1) 26 28,qk 31 .ld1 30,qm 7 31]) (.seq (.reg [qm 32 0,qc 33 23 [.tmp 32],qc 34 34 [.tmp 33],qk 35 .len 34,qo 36 .mv [ci 0]]) (.block 2 (.loop (.seq (.reg [q2 37 (.bin .lss) 36 35]) (.seq (.cond (.tmp 37) (.skip) (.exit 2)) (.seq (.block 3 (.seq (.reg [q2 38 (.iad 4) 34 36,qk 39 (.ldn 4) 38,⟨some 9,none,.op (.new 81 (.agg #[(.int .i64 0),(.int .i64 0),(.int .i64 0),(.int .i64 0)])) []⟩,qs 4 9 39]) (.seq (.reg [qk 40 (.fad 0) 9,qk 41 .ld1 40,qm 42 7,q2 43 (.bin .eql) 41 42]) (.cond (.tmp 43) (.drw [dq 0 (qm 44 4),dq 1 (qm 45 7),dq 2 (qm 46 0),dq 3 (qk 47 .nck 46),dq 4 (qk 48 (.fad 20) 47),dq 5 (qk 49 .ld1 48),dq 6 (qk 50 (.fad 3) 9),dq 7 (qk 51 .ld1 50),dq 8 (q2 52 (.bin .sub) 49 51),dq 9 (qk 53 (.fad 2) 9),dq 10 (qk 54 .ld1 53),dq 11 (qi 55 (.bin .mul) 54 1000),⟨12,⟨some 56,none,.op (.bld #[(.int .i64 0),(.int .i64 0),(.int .i64 0)] [(0,1),(1,1),(2,1)] [0,1,2]) [.tmp 45,.tmp 52,.tmp 55]⟩,false,[]⟩,⟨13,⟨some 57,none,.op (.bsl 163 3 1 #[(.int .i64 0),(.int .i64 0),(.int .i64 0)] [0]) [.tmp 56]⟩,true,[]⟩,⟨14,q2 58 (.app 163 3 24) 44 57,true,[]⟩,⟨15,qm 4 58,true,[]⟩]) (.skip))))) (.reg [qi 59 (.bin .add) 36 1,qm 36 59]))))))))) (.reg [qi 60 (.bin .add) 28 1,qm 28 60]))))))) (.seq (.reg [qm 62 4,qm 63 3,qk 64 .len 63,qc 65 96 [.tmp 62,ci 0,.tmp 64],qm 61 65,qk 66 (.ext 0) 61,qk 67 (.ext 1) 61,qm 10 66,qm 11 67]) (.seq (.reg [qm 69 10,qm 70 0,qc 71 35 [.tmp 70],qc 72 36 [.tmp 71],qk 73 .len 72,qi 74 (.bin .mul) 73 1000,qc 75 97 [.tmp 69,.tmp 74],qm 68 75,qk 76 (.ext 0) 68,qk 77 (.ext 1) 68,qm 10 76]) (.seq (.reg [qm 78 10,qm 2 78]) (.ret))))))))⟩
theorem c65 : compF Tryz.prog Tryz.f65 = some ir65 := by kernel_rfl
def ir66 : FI :=
 ⟨23,[.tmp 2],.seq (.reg [qo 2 .mv [.const (.slice none 0 0)]]) (.seq (.reg [qo 3 .mv [.const (.slice none 0 0)]]) (.seq (.seq (.reg [qm 6 0,qc 7 34 [.tmp 6],qk 8 .len 7,qo 9 .mv [ci 0]]) (.block 0 (.loop (.seq (.reg [q2 10 (.bin .lss) 9 8]) (.seq (.cond (.tmp 10) (.skip) (.exit 0)) (.seq (.block 1 (.seq (.reg [q2 11 (.iad 4) 7 9,qk 12 (.ldn 4) 11,⟨some 5,none,.op (.new 81 (.agg #[(.int .i64 0),(.int .i64 0),(.int .i64 0),(.int .i64 0)])) []⟩,qs 4 5 12]) (.seq (.reg [qk 13 (.fad 1) 5,qk 14 .ld1 13,qi 15 (.bin .eql) 14 2]) (.cond (.tmp 15) (.reg [qm 16 3,qk 17 (.fad 0) 5,qk 18 .ld1 17,⟨some 19,none,.op (.bsl 3 1 1 #[(.int .i64 0)] [0]) [.tmp 18]⟩,q2 20 (.app 3 1 8) 16 19,qm 3 20]) (.skip))))) (.reg [qi 21 (.bin .add) 9 1,qm 9 21]))))))) (.seq (.reg [qm 22 3,qm 2 22]) (.ret))))⟩
theorem c66 : compF Tryz.prog Tryz.f66 = some ir66 := by kernel_rfl
def ir72 : FI :=
 ⟨21,[.tmp 2],.seq (.reg [qo 2 .mv [cb false]]) (.seq (.reg [qm 3 0,qo 4 (.isn true) [.tmp 3,.const (.pointer none)],qm 5 4,qn 6 5 true .mv 0,qn 7 5 true .nck 6,qn 8 5 true (.fad 22) 7,qn 9 5 true .ld1 8,qn 10 5 true .mv 9,qn 11 10 false .mv 0,qh 12 10 false 109 [.tmp 11,ci 0],qh 13 10 false 110 [.tmp 12],qg 14 5 true .pick [.tmp 10,cb true,.tmp 13],qn 15 5 true .mv 14,qn 16 15 false .mv 0,qh 17 15 false 109 [.tmp 16,ci 1],qh 18 15 false 110 [.tmp 17],qg 19 5 true .pick [.tmp 15,cb true,.tmp 18],qo 20 .pick [.tmp 5,.tmp 19,cb false],qm 2 20]) (.ret))⟩
theorem c72 : compF Tryz.prog Tryz.f72 = some ir72 := by kernel_rfl
def ir73 : FI :=
 ⟨44,[.tmp 2],.seq (.reg [qk 1 (.box 27) 0,qo 2 .mv [.const (.slice none 0 0)]]) (.seq (.reg [qk 3 (.fad 0) 1,qk 4 .ld1 3,qk 5 (.fad 1) 1,qk 6 .ld1 5,qk 7 (.fad 2) 1,qk 8 .ld1 7,qk 9 (.fad 3) 1,qk 10 .ld1 9,qk 11 (.fad 4) 1,qk 12 .ld1 11,qk 13 (.fad 5) 1,qk 14 .ld1 13,qk 15 (.fad 6) 1,qk 16 .ld1 15,qk 17 (.fad 7) 1,qk 18 .ld1 17,qk 19 (.fad 8) 1,qk 20 .ld1 19,qk 21 (.fad 9) 1,qk 22 .ld1 21,qk 23 (.fad 10) 1,qk 24 .ld1 23,qk 25 (.fad 11) 1,qk 26 .ld1 25,qk 27 (.fad 12) 1,qk 28 .ld1 27,qk 29 (.fad 13) 1,qk 30 .ld1 29,qk 31 (.fad 14) 1,qk 32 .ld1 31,qk 33 (.fad 15) 1,qk 34 .ld1 33,qk 35 (.fad 16) 1,qk 36 .ld1 35,qk 37 (.fad 17) 1,qk 38 .ld1 37,qk 39 (.fad 18) 1,qk 40 .ld1 39,qk 41 (.fad 19) 1,qk 42 .ld1 41,⟨some 43,none,.op (.bsl 2 1 20 #[(.int .i64 0),(.int .i64 0),(.int .i64 0),(.int .i64 0),(.int .i64 0),(.int .i64 0),(.int .i64 0),(.int .i64 0),(.int .i64 0),(.int .i64 0),(.int .i64 0),(.int .i64 0),(.int .i64 0),(.int .i64 0),(.int .i64 0),(.int .i64 0),(.int .i64 0),(.int .i64 0),(.int .i64 0),(.int .i64 0)] [0,1,2,3,4,5,6,7,8,9,10,11,12,13,14,15,16,17,18,19]) [.tmp 4,.tmp 6,.tmp 8,.tmp 10,.tmp 12,.tmp 14,.tmp 16,.tmp 18,.tmp 20,.tmp 22,.tmp 24,.tmp 26,.tmp 28,.tmp 30,.tmp 32,.tmp 34,.tmp 36,.tmp 38,.tmp 40,.tmp 42]⟩,qm 2 43]) (.ret))⟩
theorem c73 : compF Tryz.prog Tryz.f73 = some ir73 := by kernel_rfl
def ir79 : FI :=
 ⟨57,[.tmp 4],.seq (.reg [qo 4 .mv [.const (.slice none 0 0)]]) (.seq (.seq (.reg [qm 11 1,qi 12 (.bin .lss) 11 1,qm 13 12,qn 14 13 false .mv 1,qn 15 13 false .mv 0,qn 16 13 false .len 15,qg 17 13 false (.bin .geq) [.tmp 14,.tmp 16],qo 18 .pick [.tmp 13,cb true,.tmp 17]]) (.cond (.tmp 18) (.seq (.reg [qm 19 0,qc 20 112 [.tmp 19],qm 4 20]) (.ret)) (.skip))) (.seq (.reg [qo 5 .mv [.const (.slice none 0 0)]]) (.seq (.seq (.reg [qm 21 0,qk 22 .len 21,qo 23 .mv [ci 0]]) (.block 0 (.loop (.seq (.reg [q2 24 (.bin .lss) 23 22]) (.seq (.cond (.tmp 24) (.skip) (.exit 0)) (.seq (.block 1 (.seq (.reg [qm 25 23,q2 26 (.iad 1) 21 23,qk 27 .ld1 26,qm 6 25,qm 7 27]) (.reg [qm 28 5,qm 29 7,qm 30 6,⟨some 31,none,.op (.bld #[(.int .i64 0),(.int .i64 0)] [(0,1),(1,1)] [0,1]) [.tmp 29,.tmp 30]⟩,qk 32 (.ifc 186) 31,qk 33 (.bsl 20 1 1 #[.nilIface] [0]) 32,q2 34 (.app 20 1 16) 28 33,qm 5 34]))) (.reg [qi 35 (.bin .add) 23 1,qm 23 35]))))))) (.seq (.reg [qm 36 5,qc 37 113 [.tmp 36,.func 114]]) (.seq (.reg [qm 38 5,qm 39 1,q2 40 (.slc 1 false true false) 38 39,qm 5 40]) (.seq (.reg [qm 41 5,qc 42 113 [.tmp 41,.func 115]]) (.seq (.reg [qo 8 .mv [.const (.slice none 0 0)]]) (.seq (.seq (.reg [qm 43 5,qk 44 .len 43,qo 45 .mv [ci 0]]) (.block 2 (.loop (.seq (.reg [q2 46 (.bin .lss) 45 44]) (.seq (.cond (.tmp 46) (.skip) (.exit 2)) (.seq (.block 3 (.seq (.reg [q2 47 (.iad 1) 43 45,qk 48 .ld1 47,qm 10 48]) (.reg [qm 49 8,qm 50 10,qk 51 (.tas 186 false .nilIface) 50,qk 52 (.fld 0 1 false) 51,⟨some 53,none,.op (.bsl 3 1 1 #[(.int .i64 0)] [0]) [.tmp 52]⟩,q2 54 (.app 3 1 8) 49 53,qm 8 54]))) (.reg [qi 55 (.bin .add) 45 1,qm 45 55]))))))) (.seq (.reg [qm 56 8,qm 4 56]) (.ret))))))))))⟩
theorem c79 : compF Tryz.prog Tryz.f79 = some ir79 := by kernel_rfl
def ir80 : FI :=
 ⟨14,[.tmp 4],.seq (.reg [qo 4 .mv [.const (.complex .f64 0 0)]]) (.seq (.reg [qm 5 0,qi 6 (.mm true) 5 0,qi 7 (.mm false) 6 1099511627776,⟨some 8,none,.fl (.convert 3 190 (.tmp 7)) 190⟩,qm 9 1,qi 10 (.mm true) 9 0,qi 11 (.mm false) 10 1099511627776,⟨some 12,none,.fl (.convert 3 190 (.tmp 11)) 190⟩,⟨some 13,none,.fl (.call ⟨.builtin .complex,#[.tmp 8,.tmp 12],#[190,190]⟩) 143⟩,qm 4 13]) (.ret))⟩
theorem c80 : compF Tryz.prog Tryz.f80 = some ir80 := by kernel_rfl
def ir82 : FI :=
 ⟨34,[.tmp 4],.seq (.reg [qo 4 .mv [ci 0]]) (.seq (.reg [qo 5 .mv [ci (-1)]]) (.seq (.seq (.reg [qm 8 0,qk 9 .len 8,qo 10 .mv [ci 0]]) (.block 0 (.loop (.seq (.reg [q2 11 (.bin .lss) 10 9]) (.seq (.cond (.tmp 11) (.skip) (.exit 0)) (.seq (.block 1 (.seq (.reg [qm 12 10,q2 13 (.iad 1) 8 10,qk 14 .ld1 13,qm 6 12,qm 7 14]) (.seq (.reg [qm 15 7,qc 16 117 [.tmp 15],qm 17 1,q2 18 (.bin .lss) 16 17,qm 19 18,qn 20 19 true .mv 5,qg 21 19 true (.bin .lss) [.tmp 20,ci 0],qn 22 19 true .mv 21,qn 23 22 false .mv 7,qn 24 22 false .mv 0,qn 25 22 false .mv 5,qg 26 22 false (.iad 1) [.tmp 24,.tmp 25],qn 27 22 false .ld1 26,qh 28 22 false 118 [.tmp 23,.tmp 27],qg 29 19 true .pick [.tmp 22,cb true,.tmp 28],qo 30 .pick [.tmp 19,.tmp 29,cb false]]) (.cond (.tmp 30) (.reg [qm 31 6,qm 5 31]) (.skip))))) (.reg [qi 32 (.bin .add) 10 1,qm 10 32]))))))) (.seq (.reg [qm 33 5,qm 4 33]) (.ret))))⟩
theorem c82 : compF Tryz.prog Tryz.f82 = some ir82 := by kernel_rfl
def ir86 : FI :=
 ⟨8,[.tmp 4],.seq (.reg [qo 4 .mv [.const (.slice none 0 0)]]) (.seq (.reg [qm 5 0,qm 6 1,qc 7 121 [.tmp 5,.tmp 6,ci 0,ci (-1)],qm 4 7]) (.ret))⟩
theorem c86 : compF Tryz.prog Tryz.f86 = some ir86 := by kernel_rfl
def ir95 : FI :=
 ⟨56,[.tmp 6],.seq (.reg [qo 6 .mv [.const (.slice none 0 0)]]) (.seq (.reg [qm 14 0,qk 15 .len 14,qm 7 15]) (.seq (.reg [qm 16 7,qc 17 134 [.tmp 16],qm 8 17]) (.seq (.seq (.reg [qm 18 1,qi 19 (.bin .gtr) 18 0,qm 20 19,qn 21 20 true .mv 1,qn 22 20 true .mv 8,qg 23 20 true (.bin .lss) [.tmp 21,.tmp 22],qo 24 .pick [.tmp 20,.tmp 23,cb false]]) (.cond (.tmp 24) (.reg [qm 25 1,qm 8 25]) (.skip))) (.seq (.reg [qo 9 .mv [.const (.slice none 0 0)]]) (.seq (.seq (.reg [qm 26 8,qo 27 .mv [ci 0]]) (.block 0 (.loop (.seq (.reg [q2 28 (.bin .lss) 27 26]) (.seq (.cond (.tmp 28) (.skip) (.exit 0)) (.seq (.block 1 (.seq (.reg [qm 29 27,qm 10 29]) (.seq (.reg [qm 30 2,qi 31 (.mm true) 30 0,qm 32 7,q2 33 (.bin .rem) 31 32,qm 34 8,q2 35 (.bin .mul) 33 34,qm 36 10,q2 37 (.bin .add) 35 36,qm 38 7,q2 39 (.bin .rem) 37 38,qm 11 39]) (.seq (.reg [qm 41 0,qm 42 11,q2 43 (.iad 1) 41 42,qk 44 .ld1 43,qk 45 (.ifc 3) 44,⟨some 46,none,.op (.tas 3 true (.int .i64 0)) [.tmp 45]⟩,qm 40 46,qk 47 (.ext 0) 40,qk 48 (.ext 1) 40,qm 12 47,qm 13 48]) (.seq (.reg [qm 49 13]) (.cond (.tmp 49) (.reg [qm 50 9,qm 51 12,⟨some 52,none,.op (.bsl 3 1 1 #[(.int .i64 0)] [0]) [.tmp 51]⟩,q2 53 (.app 3 1 8) 50 52,qm 9 53]) (.skip))))))) (.reg [qi 54 (.bin .add) 27 1,qm 27 54]))))))) (.seq (.reg [qm 55 9,qm 6 55]) (.ret)))))))⟩
theorem c95 : compF Tryz.prog Tryz.f95 = some ir95 := by kernel_rfl
def ir99 : FI :=
 ⟨20,[.tmp 4],.seq (.reg [qk 2 (.box 27) 0,qo 4 .mv [ci 0]]) (.seq (.seq (.reg [qk 7 (.ldn 20) 2,qc 8 18 [.tmp 7],qk 9 .not 8]) (.cond (.tmp 9) (.seq (.reg [qo 4 .mv [ci 0]]) (.ret)) (.skip))) (.seq (.reg [qm 11 1,qk 12 (.ldn 20) 2,qc 13 139 [.tmp 12],qc 14 138 [.tmp 11,.tmp 13],qm 10 14,qk 15 (.ext 0) 10,qk 16 (.ext 1) 10,qm 5 15,qm 6 16]) (.seq (.reg [qm 17 5,qk 18 (.ifc 2) 17,qc 19 140 [.tmp 18,ci 0],qm 4 19]) (.ret))))⟩
theorem c99 : compF Tryz.prog Tryz.f99 = some ir99 := by kernel_rfl
def ir102 : FI :=
 ⟨19,[.tmp 6],.seq (.reg [qk 3 (.box 27) 0,qo 6 .mv [ci 0]]) (.seq (.seq (.reg [qk 7 (.ldn 20) 3,qc 8 18 [.tmp 7],qk 9 .not 8]) (.cond (.tmp 9) (.seq (.reg [qo 6 .mv [ci 0]]) (.ret)) (.skip))) (.seq (.drw [dq 0 (qm 10 1),dq 1 (qk 11 (.ldn 20) 3),dq 2 (qm 12 2),dq 5 (qk 15 (.ldn 20) 3),dq 6 (qm 16 2),⟨3,qc 13 141 [.tmp 11,.tmp 12],true,[qk 15 (.ldn 20) 3]⟩,dq 4 (q2 14 (.mm true) 10 13),⟨7,qc 17 142 [.tmp 15,.tmp 16],true,[]⟩,dq 8 (q2 18 (.mm false) 14 17),dq 9 (qm 6 18)]) (.ret)))⟩
theorem c102 : compF Tryz.prog Tryz.f102 = some ir102 := by kernel_rfl
def ir112 : FI :=
 ⟨8,[.tmp 2],.seq (.reg [qo 2 .mv [.const (.slice none 0 0)]]) (.seq (.seq (.reg [qm 3 0,qo 4 (.isn false) [.tmp 3,.const (.slice none 0 0)]]) (.cond (.tmp 4) (.seq (.reg [qo 2 .mv [.const (.slice none 0 0)]]) (.ret)) (.skip))) (.seq (.reg [qo 5 (.bsl 3 1 0 #[] []) [],qm 6 0,q2 7 (.app 3 1 8) 5 6,qm 2 7]) (.ret)))⟩
theorem c112 : compF Tryz.prog Tryz.f112 = some ir112 := by kernel_rfl
def ir115 : FI :=
 ⟨12,[.tmp 4],.seq (.reg [qo 4 .mv [ci 0]]) (.seq (.drw [dq 0 (qm 5 0),dq 1 (qk 6 (.tas 186 false .nilIface) 5),dq 2 (qk 7 (.fld 1 1 false) 6),dq 3 (qm 8 1),dq 4 (qk 9 (.tas 186 false .nilIface) 8),dq 5 (qk 10 (.fld 1 1 false) 9),⟨6,qc 11 116 [.tmp 7,.tmp 10],true,[]⟩,dq 7 (qm 4 11)]) (.ret))⟩
theorem c115 : compF Tryz.prog Tryz.f115 = some ir115 := by kernel_rfl
def ir116 : FI :=
 ⟨20,[.tmp 4],.seq (.reg [qo 4 .mv [ci 0]]) (.seq (.reg [qm 7 0,qc 8 151 [.tmp 7],qm 5 8]) (.seq (.reg [qm 9 1,qc 10 151 [.tmp 9],qm 6 10]) (.seq (.seq (.reg [qm 11 5]) (.cond (.tmp 11) (.seq (.seq (.reg [qm 12 6]) (.cond (.tmp 12) (.seq (.reg [qo 4 .mv [ci 0]]) (.ret)) (.skip))) (.seq (.reg [qo 4 .mv [ci (-1)]]) (.ret))) (.skip))) (.seq (.seq (.reg [qm 13 6]) (.cond (.tmp 13) (.seq (.reg [qo 4 .mv [ci 1]]) (.ret)) (.skip))) (.seq (.seq (.reg [qm 14 0,qm 15 1,q2 16 (.bin .lss) 14 15]) (.cond (.tmp 16) (.seq (.reg [qo 4 .mv [ci (-1)]]) (.ret)) (.skip))) (.seq (.seq (.reg [qm 17 0,qm 18 1,q2 19 (.bin .gtr) 17 18]) (.cond (.tmp 19) (.seq (.reg [qo 4 .mv [ci 1]]) (.ret)) (.skip))) (.seq (.reg [qo 4 .mv [ci 0]]) (.ret))))))))⟩
theorem c116 : compF Tryz.prog Tryz.f116 = some ir116 := by kernel_rfl
def ir137 : FI :=
 ⟨18,[.tmp 4],.seq (.reg [qo 4 .mv [ci 0]]) (.seq (.reg [qm 8 0,qm 9 1,qc 10 167 [.tmp 8,.tmp 9],qm 7 10,qk 11 (.ext 0) 7,qk 12 (.ext 1) 7,qm 5 11,qm 6 12]) (.seq (.seq (.reg [qm 13 6,qi 14 (.bin .eql) 13 0]) (.cond (.tmp 14) (.seq (.reg [qo 4 .mv [ci 0]]) (.ret)) (.skip))) (.seq (.reg [qm 15 5,qm 16 6,q2 17 (.bin .quo) 15 16,qm 4 17]) (.ret))))⟩
theorem c137 : compF Tryz.prog Tryz.f137 = some ir137 := by kernel_rfl
def ir141 : FI :=
 ⟨21,[.tmp 4],.seq (.reg [qk 2 (.box 27) 0,qo 4 .mv [ci 0]]) (.seq (.seq (.reg [qk 7 (.ldn 20) 2,qc 8 18 [.tmp 7],qk 9 .not 8]) (.cond (.tmp 9) (.seq (.reg [qo 4 .mv [ci 0]]) (.ret)) (.skip))) (.seq (.drw [dq 0 (qm 11 1),dq 1 (qk 12 (.ifc 3) 11),dq 4 (qk 15 (.fad 7) 2),dq 5 (qk 16 .ld1 15),⟨2,qc 13 172 [.tmp 12,ci 0],true,[qk 16 .ld1 15]⟩,dq 3 (qo 14 (.bin .mul) [ci 1000,.tmp 13]),⟨6,qc 17 171 [.tmp 14,.tmp 16],true,[]⟩,dq 7 (qm 10 17),dq 8 (qk 18 (.ext 0) 10),dq 9 (qk 19 (.ext 1) 10),dq 10 (qm 5 18),dq 11 (qm 6 19)]) (.seq (.reg [qm 20 5,qm 4 20]) (.ret))))⟩
theorem c141 : compF Tryz.prog Tryz.f141 = some ir141 := by kernel_rfl
def ir153 : FI :=
 ⟨6,[.tmp 2],.seq (.reg [qo 2 .mv [ci 0]]) (.seq (.reg [qm 3 0,⟨some 4,none,.fl (.call ⟨.builtin .imag,#[.tmp 3],#[143]⟩) 190⟩,qc 5 152 [.tmp 4],qm 2 5]) (.ret))⟩
theorem c153 : compF Tryz.prog Tryz.f153 = some ir153 := by kernel_rfl
def ir167 : FI :=
 ⟨100,[.tmp 4,.tmp 5],.seq (.reg [qo 4 .mv [ci 0],qo 5 .mv [ci 0]]) (.seq (.seq (.reg [qm 15 0,qo 16 (.isn false) [.tmp 15,.const (.pointer none)],qm 17 16,qn 18 17 false .mv 1,qg 19 17 false (.bin .lss) [.tmp 18,ci 0],qo 20 .pick [.tmp 17,cb true,.tmp 19]]) (.cond (.tmp 20) (.seq (.reg [qo 4 .mv [ci 0],qo 5 .mv [ci 0]]) (.ret)) (.skip))) (.seq (.reg [qm 21 1,qm 22 0,qk 23 .nck 22,qk 24 (.fad 2) 23,qk 25 .ld1 24,q2 26 (.bin .quo) 21 25,qm 6 26]) (.seq (.reg [qo 7 .mv [ci 0],qo 8 .mv [ci 0]]) (.seq (.seq (.reg [qm 27 0,qk 28 .nck 27,qk 29 (.fad 0) 28,qk 30 .ld1 29,qk 31 .len 30,qo 32 .mv [ci 0]]) (.block 0 (.loop (.seq (.reg [q2 33 (.bin .lss) 32 31]) (.seq (.cond (.tmp 33) (.skip) (.exit 0)) (.seq (.block 1 (.seq (.reg [q2 34 (.iad 1) 30 32,qk 35 .ld1 34,qm 10 35]) (.seq (.reg [qm 37 10,⟨some 38,none,.op (.tas 247 true (.pointer none)) [.tmp 37]⟩,qm 36 38,qk 39 (.ext 0) 36,qk 40 (.ext 1) 36,qm 11 39,qm 12 40]) (.seq (.seq (.drw [dq 0 (qm 41 12),dq 1 (qk 42 .not 41),dq 2 (qm 43 42),dq 3 (qn 44 43 false .mv 11),dq 4 (qn 45 43 false .nck 44),dq 5 (qn 46 43 false (.fad 0) 45),dq 6 (qn 47 43 false .ld1 46),dq 7 (qn 48 43 false .mv 6),dq 8 (qg 49 43 false (.bin .gtr) [.tmp 47,.tmp 48]),dq 9 (qo 50 .pick [.tmp 43,cb true,.tmp 49]),dq 10 (qm 51 50),dq 11 (qn 52 51 false .mv 6),dq 12 (qn 53 51 false .mv 11),dq 13 (qn 54 51 false .nck 53),dq 14 (qn 55 51 false (.fad 0) 54),dq 15 (qn 56 51 false .ld1 55),dq 16 (qg 57 51 false (.bin .sub) [.tmp 52,.tmp 56]),dq 17 (qn 58 51 false .mv 0),dq 18 (qn 59 51 false .nck 58),dq 19 (qn 60 51 false (.fad 3) 59),dq 20 (qn 61 51 false .ld1 60),dq 21 (qg 62 51 false (.bin .geq) [.tmp 57,.tmp 61]),dq 22 (qo 63 .pick [.tmp 51,cb true,.tmp 62])]) (.cond (.tmp 63) (.exit 1) (.skip))) (.seq (.reg [qm 65 7,qm 66 11,qk 67 .nck 66,qk 68 (.fad 1) 67,qk 69 .ld1 68,qc 70 97 [.tmp 65,.tmp 69],qm 64 70,qk 71 (.ext 0) 64,qk 72 (.ext 1) 64,qm 13 71,qm 14 72]) (.seq (.reg [qm 73 0,qm 74 0,qk 75 .nck 74,qk 76 (.fad 5) 75,qk 77 .ld1 76,qm 78 77,qn 79 78 false .mv 11,qn 80 78 false .nck 79,qn 81 78 false (.fad 3) 80,qn 82 78 false .ld1 81,qo 83 .pick [.tmp 78,cb true,.tmp 82],qm 84 83,qn 85 84 false .mv 14,qg 86 84 false (.bin .neq) [.tmp 85,ci 0],qo 87 .pick [.tmp 84,cb true,.tmp 86],qk 88 .nck 73,qk 89 (.fad 5) 88,qs 1 89 87]) (.drw [dq 0 (qm 90 13),dq 1 (qm 91 8),dq 2 (qm 92 11),dq 3 (qk 93 .nck 92),dq 4 (qk 94 (.fad 2) 93),dq 5 (qk 95 .ld1 94),dq 6 (q2 96 (.bin .add) 91 95),dq 7 (qm 7 90),⟨8,qm 8 96,true,[]⟩]))))))) (.reg [qi 97 (.bin .add) 32 1,qm 32 97]))))))) (.seq (.reg [qm 98 7,qm 99 8,qm 4 98,qm 5 99]) (.ret))))))⟩
theorem c167 : compF Tryz.prog Tryz.f167 = some ir167 := by kernel_rfl
def ir170 : FI :=
 ⟨18,[.tmp 6],.seq (.reg [qo 6 .mv [ci 0]]) (.seq (.block 0 (.seq (.reg [qm 8 0,qm 9 2,q2 10 (.bin .gtr) 8 9,qm 7 10]) (.cond (.tmp 7) (.seq (.reg [qm 11 2,qm 6 11]) (.ret)) (.seq (.reg [qm 13 0,qm 14 1,q2 15 (.bin .lss) 13 14,qm 12 15]) (.cond (.tmp 12) (.seq (.reg [qm 16 1,qm 6 16]) (.ret)) (.skip)))))) (.seq (.reg [qm 17 0,qm 6 17]) (.ret)))⟩
theorem c170 : compF Tryz.prog Tryz.f170 = some ir170 := by kernel_rfl
def ir196 : FI :=
 ⟨29,[.tmp 3],.seq (.reg [qo 3 .mv [cb false]]) (.seq (.reg [qm 7 0,⟨some 8,none,.op (.tas 247 true (.pointer none)) [.tmp 7]⟩,qm 6 8,qk 9 (.ext 0) 6,qk 10 (.ext 1) 6,qm 4 9,qm 5 10]) (.seq (.drw [dq 0 (qm 11 5),dq 1 (qk 12 .not 11),dq 2 (qm 13 12),dq 3 (qn 14 13 false .ld1 1),dq 4 (qn 15 13 false .nck 14),dq 5 (qn 16 13 false (.fad 4) 15),dq 6 (qn 17 13 false .ld1 16),dq 7 (qn 18 13 false .mv 4),dq 8 (qn 19 13 false .nck 18),dq 9 (qn 20 13 false (.fad 0) 19),dq 10 (qn 21 13 false .ld1 20),dq 11 (qg 22 13 false (.bin .sub) [.tmp 17,.tmp 21]),dq 12 (qn 23 13 false .ld1 1),dq 13 (qn 24 13 false .nck 23),dq 14 (qn 25 13 false (.fad 3) 24),dq 15 (qn 26 13 false .ld1 25),dq 16 (qg 27 13 false (.bin .geq) [.tmp 22,.tmp 26]),dq 17 (qo 28 .pick [.tmp 13,cb true,.tmp 27]),dq 18 (qm 3 28)]) (.ret)))⟩
theorem c196 : compF Tryz.prog Tryz.f196 = some ir196 := by kernel_rfl
def ir4 : FI :=
 ⟨115,[.tmp 4],.seq (.reg [qk 2 (.box 27) 0,qo 4 .mv [cb false]]) (.seq (.reg [qk 15 (.ldn 20) 2,qc 16 6 [.tmp 15],qm 14 16,qk 17 (.ext 0) 14,qk 18 (.ext 1) 14,qm 5 17,qm 6 18]) (.seq (.reg [qk 20 (.ldn 20) 2,qc 21 6 [.tmp 20],qm 19 21,qk 22 (.ext 0) 19,qk 23 (.ext 1) 19,qm 7 22,qm 8 23]) (.seq (.seq (.reg [qm 24 6,qi 25 (.bin .neq) 24 0,qm 26 25,qn 27 26 false .mv 8,qg 28 26 false (.bin .neq) [.tmp 27,ci 0],qo 29 .pick [.tmp 26,cb true,.tmp 28],qm 30 29,qn 31 30 false .mv 1,qh 32 30 false 8 [.tmp 31,ci 60],qn 33 30 false .not 32,qo 34 .pick [.tmp 30,cb true,.tmp 33]]) (.cond (.tmp 34) (.seq (.reg [qc 35 9 [],qm 36 35,qn 37 36 true .mv 6,qn 38 36 true .mv 8,qg 39 36 true (.bin .eql) [.tmp 37,.tmp 38],qo 40 .pick [.tmp 36,.tmp 39,cb false],qm 41 40,qn 42 41 true .mv 6,qg 43 41 true (.bin .eql) [.tmp 42,ci 0],qn 44 41 true (.ldn 20) 2,qh 45 41 true 15 [.tmp 44],qg 46 41 true (.bbin .eql) [.tmp 43,.tmp 45],qo 47 .pick [.tmp 41,.tmp 46,cb false],qm 4 47]) (.ret)) (.skip))) (.seq (.seq (.reg [qo 9 .mv [ci 0]]) (.block 0 (.loop (.seq (.seq (.reg [qm 48 9,qm 49 1,qk 50 .len 49,q2 51 (.bin .lss) 48 50]) (.cond (.tmp 51) (.skip) (.exit 0))) (.seq (.block 1 (.seq (.reg [qm 54 1,qm 55 9,q2 56 (.iad 3) 54 55,qk 57 (.ldn 3) 56,qm 58 9,qc 59 10 [.tmp 57,.tmp 58],⟨some 10,none,.op (.new 32 (.agg #[(.int .i64 0),(.int .i64 0),(.string ⟨#[]⟩)])) []⟩,qs 3 10 59]) (.seq (.drw [dq 0 (qm 60 5),dq 1 (qk 61 (.ldn 3) 10),dq 3 (qm 63 7),dq 4 (qk 64 (.ldn 3) 10),⟨2,qc 62 11 [.tmp 60,.tmp 61],true,[qk 64 (.ldn 3) 10]⟩,⟨5,qc 65 11 [.tmp 63,.tmp 64],true,[]⟩,dq 6 (q2 66 (.bin .neq) 62 65)]) (.cond (.tmp 66) (.seq (.reg [qo 4 .mv [cb false]]) (.ret)) (.skip))))) (.reg [qm 52 9,qi 53 (.bin .add) 52 1,qm 9 53])))))) (.seq (.reg [qm 67 5,qc 68 16 [.tmp 67],qm 69 7,qc 70 16 [.tmp 69],qm 11 68,qm 12 70]) (.seq (.seq (.reg [qm 71 11,qk 72 .len 71,qm 73 12,qk 74 .len 73,q2 75 (.bin .neq) 72 74,qm 76 75,qn 77 76 false .mv 5,qh 78 76 false 13 [.tmp 77],qn 79 76 false .mv 7,qh 80 76 false 13 [.tmp 79],⟨some 81,some (76,false),.fl (.binOp .neq 42 (.tmp 78) (.tmp 80) 42) 4⟩,qo 82 .pick [.tmp 76,cb true,.tmp 81],qm 83 82,qn 84 83 false .mv 5,qh 85 83 false 17 [.tmp 84],qn 86 83 false .mv 7,qh 87 83 false 17 [.tmp 86],⟨some 88,some (83,false),.fl (.binOp .neq 27 (.tmp 85) (.tmp 87) 27) 4⟩,qo 89 .pick [.tmp 83,cb true,.tmp 88],qm 90 89,qn 91 90 false .mv 5,qh 92 90 false 14 [.tmp 91],qn 93 90 false .len 92,qn 94 90 false .mv 7,qh 95 90 false 14 [.tmp 94],qn 96 90 false .len 95,qg 97 90 false (.bin .neq) [.tmp 93,.tmp 96],qo 98 .pick [.tmp 90,cb true,.tmp 97]]) (.cond (.tmp 98) (.seq (.reg [qo 4 .mv [cb false]]) (.ret)) (.skip))) (.seq (.seq (.reg [qo 13 .mv [ci 0]]) (.block 2 (.loop (.seq (.seq (.reg [qm 99 13,qm 100 11,qk 101 .len 100,q2 102 (.bin .lss) 99 101]) (.cond (.tmp 102) (.skip) (.exit 2))) (.seq (.block 3 (.seq (.drw [dq 0 (qm 105 11),dq 1 (qm 106 13),dq 2 (q2 107 (.iad 4) 105 106),dq 3 (qk 108 (.ldn 4) 107),dq 4 (qm 109 12),dq 5 (qm 110 13),dq 6 (q2 111 (.iad 4) 109 110),dq 7 (qk 112 (.ldn 4) 111),⟨8,⟨some 113,none,.fl (.binOp .neq 50 (.tmp 108) (.tmp 112) 50) 4⟩,false,[]⟩]) (.cond (.tmp 113) (.seq (.reg [qo 4 .mv [cb false]]) (.ret)) (.skip)))) (.reg [qm 103 13,qi 104 (.bin .add) 103 1,qm 13 104])))))) (.seq (.reg [qc 114 9 [],qm 4 114]) (.ret)))))))))⟩
theorem c4 : compF Tryz.prog Tryz.f4 = some ir4 := by kernel_rfl
def ir14 : FI :=
 ⟨29,[.tmp 2],.seq (.reg [qo 2 .mv [.const (.slice none 0 0)]]) (.seq (.seq (.reg [qm 5 0,qo 6 (.isn false) [.tmp 5,.const (.pointer none)]]) (.cond (.tmp 6) (.seq (.reg [qo 2 .mv [.const (.slice none 0 0)]]) (.ret)) (.skip))) (.seq (.reg [qm 7 0,qk 8 .nck 7,qk 9 (.fad 33) 8,qk 10 .ld1 9,qc 11 39 [.tmp 10],qm 3 11]) (.seq (.seq (.reg [qm 12 3,qk 13 .len 12,qo 14 .mv [ci 0]]) (.block 0 (.loop (.seq (.reg [q2 15 (.bin .lss) 14 13]) (.seq (.cond (.tmp 15) (.skip) (.exit 0)) (.seq (.block 1 (.seq (.reg [qm 16 14,qm 4 16]) (.reg [qm 17 3,qm 18 4,qm 19 3,qm 20 4,q2 21 (.iad 15) 19 20,qk 22 (.fad 4) 21,qk 23 .ld1 22,qc 24 40 [.tmp 23],q2 25 (.iad 15) 17 18,qk 26 (.fad 4) 25,qs 1 26 24]))) (.reg [qi 27 (.bin .add) 14 1,qm 14 27]))))))) (.seq (.reg [qm 28 3,qm 2 28]) (.ret)))))⟩
theorem c14 : compF Tryz.prog Tryz.f14 = some ir14 := by kernel_rfl
def ir24 : FI :=
 ⟨87,[.tmp 6],.seq (.reg [qo 6 .mv [ci 0]]) (.seq (.block 0 (.seq (.reg [qm 10 0,qo 11 (.isn false) [.tmp 10,.const (.pointer none)],qm 9 11]) (.cond (.tmp 9) (.seq (.reg [qo 6 .mv [ci 8]]) (.ret)) (.seq (.reg [qm 13 1,qi 14 (.bin .lss) 13 0,qm 15 14,qn 16 15 false .mv 1,qg 17 15 false (.bin .gtr) [.tmp 16,ci 100],qo 18 .pick [.tmp 15,cb true,.tmp 17],qm 19 18,qn 20 19 false .mv 2,qg 21 19 false (.bin .lss) [.tmp 20,ci 0],qo 22 .pick [.tmp 19,cb true,.tmp 21],qm 23 22,qn 24 23 false .mv 2,qg 25 23 false (.bin .gtr) [.tmp 24,ci 1099511627776],qo 26 .pick [.tmp 23,cb true,.tmp 25],qm 12 26]) (.cond (.tmp 12) (.seq (.reg [qo 6 .mv [ci 1]]) (.ret)) (.skip)))))) (.seq (.block 1 (.loop (.seq (.seq (.reg [qm 27 0,qc 28 47 [.tmp 27],qm 29 1,q2 30 (.bin .lss) 28 29]) (.cond (.tmp 30) (.skip) (.exit 1))) (.block 2 (.seq (.drw [dq 0 (qm 31 0),dq 1 (qm 32 0),dq 2 (qk 33 .nck 32),dq 3 (qk 34 (.fad 0) 33),dq 4 (qk 35 .ld1 34),dq 5 (qm 36 0),dq 6 (qk 37 .nck 36),dq 7 (qk 38 (.fad 1) 37),dq 8 (qk 39 .ld1 38),dq 9 (qm 40 2),⟨10,⟨some 41,none,.op (.bld #[(.int .i64 0),(.int .i64 0),(.int .i64 0),(.int .i64 0)] [(0,1),(1,1),(2,1),(3,1)] [0,1,3]) [.tmp 39,ci 1,.tmp 40]⟩,false,[]⟩,⟨11,qk 42 (.box 81) 41,true,[qk 35 .ld1 34]⟩,dq 12 (qk 43 (.ifc 98) 42),⟨13,qk 44 (.bsl 20 1 1 #[.nilIface] [0]) 43,true,[qk 35 .ld1 34]⟩,⟨14,q2 45 (.app 20 1 16) 35 44,true,[]⟩,dq 15 (qk 46 .nck 31),dq 16 (qk 47 (.fad 0) 46),⟨17,qs 1 47 45,true,[]⟩]) (.reg [qm 48 0,qk 49 .nck 48,qk 50 (.fad 1) 49,qk 51 .ld1 50,qi 52 (.bin .add) 51 1,qk 53 .nck 48,qk 54 (.fad 1) 53,qs 1 54 52])))))) (.seq (.block 3 (.loop (.seq (.seq (.reg [qm 55 0,qc 56 47 [.tmp 55],qm 57 1,q2 58 (.bin .gtr) 56 57]) (.cond (.tmp 58) (.skip) (.exit 3))) (.block 4 (.seq (.reg [qm 59 0,qc 60 48 [.tmp 59],qm 7 60]) (.seq (.reg [qm 61 0,qm 62 7,qc 63 49 [.tmp 61,.tmp 62],qm 8 63]) (.seq (.seq (.reg [qm 64 8,qk 65 .nck 64,qk 66 (.fad 2) 65,qk 67 .ld1 66,qi 68 (.bin .eql) 67 0]) (.cond (.tmp 68) (.seq (.reg [qm 69 0,qm 70 0,qk 71 .nck 70,qk 72 (.fad 0) 71,qk 73 .ld1 72,qm 74 7,qm 75 7,qi 76 (.bin .add) 75 1,qc 77 50 [.tmp 73,.tmp 74,.tmp 76],qk 78 .nck 69,qk 79 (.fad 0) 78,qs 1 79 77]) (.exit 4)) (.skip))) (.reg [qm 80 8,qm 81 8,qm 82 2,qk 83 .nck 80,qk 84 (.fad 1) 83,⟨none,none,.op (.st 1) [.tmp 84,ci 3]⟩,qk 85 .nck 81,qk 86 (.fad 3) 85,qs 1 86 82])))))))) (.seq (.reg [qo 6 .mv [ci 0]]) (.ret)))))⟩
theorem c24 : compF Tryz.prog Tryz.f24 = some ir24 := by kernel_rfl
def ir26 : FI :=
 ⟨28,[.tmp 6],.seq (.reg [qk 3 (.box 27) 0,qo 6 .mv [cb false]]) (.seq (.reg [qk 7 (.ldn 20) 3,qc 8 18 [.tmp 7],qk 9 .not 8,qm 10 9,qn 11 10 false (.fad 13) 3,qn 12 10 false .ld1 11,qg 13 10 false (.bin .eql) [.tmp 12,ci (-1000)],qo 14 .pick [.tmp 10,cb true,.tmp 13],qm 15 14,qn 16 15 false .mv 1,qg 17 15 false (.bin .lss) [.tmp 16,ci 1],qo 18 .pick [.tmp 15,cb true,.tmp 17],qm 19 18,qn 20 19 false (.fad 13) 3,qn 21 19 false .ld1 20,qg 22 19 false (.bin .gtr) [.tmp 21,ci 0],qn 23 19 false .mv 22,qn 24 23 true .mv 2,qg 25 23 true (.bin .lss) [.tmp 24,ci 0],qg 26 19 false .pick [.tmp 23,.tmp 25,cb false],qo 27 .pick [.tmp 19,cb true,.tmp 26],qm 6 27]) (.ret))⟩
theorem c26 : compF Tryz.prog Tryz.f26 = some ir26 := by kernel_rfl
def ir38 : FI :=
 ⟨10,[.tmp 2],.seq (.reg [qo 2 .mv [cb false]]) (.seq (.reg [qm 3 0,qo 4 (.isn true) [.tmp 3,.const (.pointer none)],qm 5 4,qn 6 5 true .mv 0,qh 7 5 true 71 [.tmp 6],qh 8 5 true 72 [.tmp 7],qo 9 .pick [.tmp 5,.tmp 8,cb false],qm 2 9]) (.ret))⟩
theorem c38 : compF Tryz.prog Tryz.f38 = some ir38 := by kernel_rfl
def ir40 : FI :=
 ⟨8,[.tmp 2],.seq (.reg [qo 2 .mv [.const (.slice none 0 0)]]) (.seq (.seq (.reg [qm 3 0,qo 4 (.isn false) [.tmp 3,.const (.slice none 0 0)]]) (.cond (.tmp 4) (.seq (.reg [qo 2 .mv [.const (.slice none 0 0)]]) (.ret)) (.skip))) (.seq (.reg [qo 5 (.bsl 81 4 0 #[] []) [],qm 6 0,q2 7 (.app 81 4 32) 5 6,qm 2 7]) (.ret)))⟩
theorem c40 : compF Tryz.prog Tryz.f40 = some ir40 := by kernel_rfl
def ir41 : FI :=
 ⟨133,[.tmp 2],.seq (.reg [qk 1 (.box 27) 0,⟨some 2,none,.op .mv [.const (.string ⟨#[]⟩)]⟩]) (.seq (.reg [qk 7 (.ldn 20) 1,qc 8 73 [.tmp 7],qm 3 8]) (.seq (.reg [qo 4 .mv [ci 100]]) (.seq (.seq (.reg [qk 9 (.fad 9) 1,qk 10 .ld1 9,qi 11 (.bin .gtr) 10 0]) (.cond (.tmp 11) (.reg [qk 12 (.fad 9) 1,qk 13 .ld1 12,qm 4 13]) (.skip))) (.seq (.drw [dq 0 (qm 14 3),dq 1 (qi 15 (.iad 1) 14 0),dq 2 (qk 16 .ld1 15),dq 4 (qm 18 3),dq 5 (qi 19 (.iad 1) 18 1),dq 6 (qk 20 .ld1 19),dq 8 (qm 22 3),dq 9 (qi 23 (.iad 1) 22 2),dq 10 (qk 24 .ld1 23),dq 12 (qm 26 3),dq 13 (qi 27 (.iad 1) 26 3),dq 14 (qk 28 .ld1 27),dq 15 (qm 29 3),dq 16 (qi 30 (.iad 1) 29 2),dq 17 (qk 31 .ld1 30),dq 19 (qm 33 3),dq 20 (qi 34 (.iad 1) 33 4),dq 21 (qk 35 .ld1 34),dq 22 (qm 36 3),dq 23 (qi 37 (.iad 1) 36 3),dq 24 (qk 38 .ld1 37),dq 26 (qm 40 3),dq 27 (qi 41 (.iad 1) 40 5),dq 28 (qk 42 .ld1 41),dq 30 (qm 44 3),dq 31 (qi 45 (.iad 1) 44 6),dq 32 (qk 46 .ld1 45),dq 34 (qm 48 3),dq 35 (qi 49 (.iad 1) 48 7),dq 36 (qk 50 .ld1 49),dq 38 (qm 52 3),dq 39 (qi 53 (.iad 1) 52 8),dq 40 (qk 54 .ld1 53),dq 42 (qm 56 3),dq 43 (qi 57 (.iad 1) 56 9),dq 44 (qk 58 .ld1 57),dq 45 (qi 59 (.bin .eql) 58 0),dq 56 (qm 70 3),dq 57 (qi 71 (.iad 1) 70 10),dq 58 (qk 72 .ld1 71),dq 59 (qm 73 4),dq 61 (qm 75 3),dq 62 (qi 76 (.iad 1) 75 11),dq 63 (qk 77 .ld1 76),dq 65 (qm 79 3),dq 66 (qi 80 (.iad 1) 79 12),dq 67 (qk 81 .ld1 80),dq 69 (qm 83 3),dq 70 (qi 84 (.iad 1) 83 13),dq 71 (qk 85 .ld1 84),dq 72 (qi 86 (.bin .eql) 85 (-1000)),dq 79 (qm 93 3),dq 80 (qi 94 (.iad 1) 93 14),dq 81 (qk 95 .ld1 94),dq 83 (qm 97 3),dq 84 (qi 98 (.iad 1) 97 15),dq 85 (qk 99 .ld1 98),dq 87 (qm 101 3),dq 88 (qi 102 (.iad 1) 101 16),dq 89 (qk 103 .ld1 102),dq 91 (qm 105 3),dq 92 (qi 106 (.iad 1) 105 17),dq 93 (qk 107 .ld1 106),dq 95 (qm 109 3),dq 96 (qi 110 (.iad 1) 109 18),dq 97 (qk 111 .ld1 110),dq 99 (qm 113 3),dq 100 (qi 114 (.iad 1) 113 19),dq 101 (qk 115 .ld1 114),⟨3,qc 17 74 [.tmp 16,ci 10,ci 1000000],true,[qk 20 .ld1 19,qk 24 .ld1 23,qk 28 .ld1 27,qk 31 .ld1 30,qk 35 .ld1 34,qk 38 .ld1 37,qk 42 .ld1 41,qk 46 .ld1 45,qk 50 .ld1 49,qk 54 .ld1 53,qk 58 .ld1 57,qk 72 .ld1 71,qk 77 .ld1 76,qk 81 .ld1 80,qk 85 .ld1 84,qk 95 .ld1 94,qk 99 .ld1 98,qk 103 .ld1 102,qk 107 .ld1 106,qk 111 .ld1 110,qk 115 .ld1 114]⟩,⟨7,qc 21 74 [.tmp 20,ci 100,ci 1000],true,[qk 24 .ld1 23,qk 28 .ld1 27,qk 31 .ld1 30,qk 35 .ld1 34,qk 38 .ld1 37,qk 42 .ld1 41,qk 46 .ld1 45,qk 50 .ld1 49,qk 54 .ld1 53,qk 58 .ld1 57,qk 72 .ld1 71,qk 77 .ld1 76,qk 81 .ld1 80,qk 85 .ld1 84,qk 95 .ld1 94,qk 99 .ld1 98,qk 103 .ld1 102,qk 107 .ld1 106,qk 111 .ld1 110,qk 115 .ld1 114]⟩,⟨11,qc 25 74 [.tmp 24,ci 6,ci 600],true,[qk 28 .ld1 27,qk 31 .ld1 30,qk 35 .ld1 34,qk 38 .ld1 37,qk 42 .ld1 41,qk 46 .ld1 45,qk 50 .ld1 49,qk 54 .ld1 53,qk 58 .ld1 57,qk 72 .ld1 71,qk 77 .ld1 76,qk 81 .ld1 80,qk 85 .ld1 84,qk 95 .ld1 94,qk 99 .ld1 98,qk 103 .ld1 102,qk 107 .ld1 106,qk 111 .ld1 110,qk 115 .ld1 114]⟩,⟨18,qc 32 74 [.tmp 28,ci 1,.tmp 31],true,[qk 35 .ld1 34,qk 38 .ld1 37,qk 42 .ld1 41,qk 46 .ld1 45,qk 50 .ld1 49,qk 54 .ld1 53,qk 58 .ld1 57,qk 72 .ld1 71,qk 77 .ld1 76,qk 81 .ld1 80,qk 85 .ld1 84,qk 95 .ld1 94,qk 99 .ld1 98,qk 103 .ld1 102,qk 107 .ld1 106,qk 111 .ld1 110,qk 115 .ld1 114]⟩,⟨25,qc 39 74 [.tmp 35,ci 1,.tmp 38],true,[qk 42 .ld1 41,qk 46 .ld1 45,qk 50 .ld1 49,qk 54 .ld1 53,qk 58 .ld1 57,qk 72 .ld1 71,qk 77 .ld1 76,qk 81 .ld1 80,qk 85 .ld1 84,qk 95 .ld1 94,qk 99 .ld1 98,qk 103 .ld1 102,qk 107 .ld1 106,qk 111 .ld1 110,qk 115 .ld1 114]⟩,⟨29,qc 43 74 [.tmp 42,ci 1100,ci 10000],true,[qk 46 .ld1 45,qk 50 .ld1 49,qk 54 .ld1 53,qk 58 .ld1 57,qk 72 .ld1 71,qk 77 .ld1 76,qk 81 .ld1 80,qk 85 .ld1 84,qk 95 .ld1 94,qk 99 .ld1 98,qk 103 .ld1 102,qk 107 .ld1 106,qk 111 .ld1 110,qk 115 .ld1 114]⟩,⟨33,qc 47 74 [.tmp 46,ci 1001,ci 1000000],true,[qk 50 .ld1 49,qk 54 .ld1 53,qk 58 .ld1 57,qk 72 .ld1 71,qk 77 .ld1 76,qk 81 .ld1 80,qk 85 .ld1 84,qk 95 .ld1 94,qk 99 .ld1 98,qk 103 .ld1 102,qk 107 .ld1 106,qk 111 .ld1 110,qk 115 .ld1 114]⟩,⟨37,qc 51 74 [.tmp 50,ci 1001,ci 1000000],true,[qk 54 .ld1 53,qk 58 .ld1 57,qk 72 .ld1 71,qk 77 .ld1 76,qk 81 .ld1 80,qk 85 .ld1 84,qk 95 .ld1 94,qk 99 .ld1 98,qk 103 .ld1 102,qk 107 .ld1 106,qk 111 .ld1 110,qk 115 .ld1 114]⟩,⟨41,qc 55 74 [.tmp 54,ci 0,ci 100],true,[qk 58 .ld1 57,qk 72 .ld1 71,qk 77 .ld1 76,qk 81 .ld1 80,qk 85 .ld1 84,qk 95 .ld1 94,qk 99 .ld1 98,qk 103 .ld1 102,qk 107 .ld1 106,qk 111 .ld1 110,qk 115 .ld1 114]⟩,dq 46 (qm 60 59),dq 47 (qn 61 60 false .mv 3),dq 48 (qg 62 60 false (.iad 1) [.tmp 61,ci 9]),dq 49 (qn 63 60 false .ld1 62),dq 50 (qn 64 60 false .mv 3),dq 51 (qg 65 60 false (.iad 1) [.tmp 64,ci 8]),dq 52 (qn 66 60 false .ld1 65),dq 53 (qg 67 60 false (.mm true) [.tmp 66,ci 1]),⟨54,qh 68 60 false 74 [.tmp 63,.tmp 67,ci 100],true,[qk 72 .ld1 71,qk 77 .ld1 76,qk 81 .ld1 80,qk 85 .ld1 84,qk 95 .ld1 94,qk 99 .ld1 98,qk 103 .ld1 102,qk 107 .ld1 106,qk 111 .ld1 110,qk 115 .ld1 114]⟩,dq 55 (qo 69 .pick [.tmp 60,cb true,.tmp 68]),⟨60,qc 74 74 [.tmp 72,ci 0,.tmp 73],true,[qk 77 .ld1 76,qk 81 .ld1 80,qk 85 .ld1 84,qk 95 .ld1 94,qk 99 .ld1 98,qk 103 .ld1 102,qk 107 .ld1 106,qk 111 .ld1 110,qk 115 .ld1 114]⟩,⟨64,qc 78 74 [.tmp 77,ci 0,ci 600],true,[qk 81 .ld1 80,qk 85 .ld1 84,qk 95 .ld1 94,qk 99 .ld1 98,qk 103 .ld1 102,qk 107 .ld1 106,qk 111 .ld1 110,qk 115 .ld1 114]⟩,⟨68,qc 82 74 [.tmp 81,ci 0,ci 600],true,[qk 85 .ld1 84,qk 95 .ld1 94,qk 99 .ld1 98,qk 103 .ld1 102,qk 107 .ld1 106,qk 111 .ld1 110,qk 115 .ld1 114]⟩,dq 73 (qm 87 86),dq 74 (qn 88 87 false .mv 3),dq 75 (qg 89 87 false (.iad 1) [.tmp 88,ci 13]),dq 76 (qn 90 87 false .ld1 89),⟨77,qh 91 87 false 74 [.tmp 90,ci 0,ci 100000000],true,[qk 95 .ld1 94,qk 99 .ld1 98,qk 103 .ld1 102,qk 107 .ld1 106,qk 111 .ld1 110,qk 115 .ld1 114]⟩,dq 78 (qo 92 .pick [.tmp 87,cb true,.tmp 91]),⟨82,qc 96 74 [.tmp 95,ci 1,ci 1000],true,[qk 99 .ld1 98,qk 103 .ld1 102,qk 107 .ld1 106,qk 111 .ld1 110,qk 115 .ld1 114]⟩,⟨86,qc 100 74 [.tmp 99,ci 0,ci 200],true,[qk 103 .ld1 102,qk 107 .ld1 106,qk 111 .ld1 110,qk 115 .ld1 114]⟩,⟨90,qc 104 74 [.tmp 103,ci 1,ci 10000],true,[qk 107 .ld1 106,qk 111 .ld1 110,qk 115 .ld1 114]⟩,⟨94,qc 108 74 [.tmp 107,ci 0,ci 100],true,[qk 111 .ld1 110,qk 115 .ld1 114]⟩,⟨98,qc 112 74 [.tmp 111,ci 0,ci 100],true,[qk 115 .ld1 114]⟩,⟨102,qc 116 74 [.tmp 115,ci 0,ci 100],true,[]⟩,⟨103,⟨some 117,none,.op (.bsl 4 1 20 #[(.bool false),(.bool false),(.bool false),(.bool false),(.bool false),(.bool false),(.bool false),(.bool false),(.bool false),(.bool false),(.bool false),(.bool false),(.bool false),(.bool false),(.bool false),(.bool false),(.bool false),(.bool false),(.bool false),(.bool false)] [0,1,2,3,4,5,6,7,8,9,10,11,12,13,14,15,16,17,18,19]) [.tmp 17,.tmp 21,.tmp 25,.tmp 32,.tmp 39,.tmp 43,.tmp 47,.tmp 51,.tmp 55,.tmp 69,.tmp 74,.tmp 78,.tmp 82,.tmp 92,.tmp 96,.tmp 100,.tmp 104,.tmp 108,.tmp 112,.tmp 116]⟩,true,[]⟩,dq 104 (qm 5 117)]) (.seq (.seq (.reg [qo 6 .mv [ci 0]]) (.block 0 (.loop (.seq (.seq (.reg [qm 118 6,qm 119 5,qk 120 .len 119,q2 121 (.bin .lss) 118 120]) (.cond (.tmp 121) (.skip) (.exit 0))) (.seq (.block 1 (.seq (.reg [qm 124 5,qm 125 6,q2 126 (.iad 1) 124 125,qk 127 .ld1 126,qk 128 .not 127]) (.cond (.tmp 128) (.seq (.reg [qc 129 75 [],qm 130 6,q2 131 (.iad 1) 129 130,qk 132 .ld1 131,qm 2 132]) (.ret)) (.skip)))) (.reg [qm 122 6,qi 123 (.bin .add) 122 1,qm 6 123])))))) (.seq (.reg [⟨some 2,none,.op .mv [.const (.string ⟨#[]⟩)]⟩]) (.ret)))))))⟩
theorem c41 : compF Tryz.prog Tryz.f41 = some ir41 := by kernel_rfl
def ir46 : FI :=
 ⟨2,[.cell 0 93],.seq (.reg [⟨some 0,none,.op (.new 93 (.agg #[(.int .i64 0),(.int .i64 0)])) []⟩]) (.seq (.reg [⟨some 1,none,.op (.bld #[(.int .i64 0),(.int .i64 0)] [(0,1),(1,1)] [0]) [ci (-1)]⟩,qs 2 0 1]) (.ret))⟩
theorem c46 : compF Tryz.prog Tryz.f46 = some ir46 := by kernel_rfl
def ir47 : FI :=
 ⟨20,[.tmp 2],.seq (.reg [qo 2 .mv [ci 0]]) (.seq (.reg [qo 3 .mv [ci 0]]) (.seq (.seq (.reg [qm 6 0,qc 7 34 [.tmp 6],qk 8 .len 7,qo 9 .mv [ci 0]]) (.block 0 (.loop (.seq (.reg [q2 10 (.bin .lss) 9 8]) (.seq (.cond (.tmp 10) (.skip) (.exit 0)) (.seq (.block 1 (.seq (.reg [q2 11 (.iad 4) 7 9,qk 12 (.ldn 4) 11,⟨some 5,none,.op (.new 81 (.agg #[(.int .i64 0),(.int .i64 0),(.int .i64 0),(.int .i64 0)])) []⟩,qs 4 5 12]) (.seq (.reg [qk 13 (.fad 1) 5,qk 14 .ld1 13,qi 15 (.bin .neq) 14 3]) (.cond (.tmp 15) (.reg [qm 16 3,qi 17 (.bin .add) 16 1,qm 3 17]) (.skip))))) (.reg [qi 18 (.bin .add) 9 1,qm 9 18]))))))) (.seq (.reg [qm 19 3,qm 2 19]) (.ret))))⟩
theorem c47 : compF Tryz.prog Tryz.f47 = some ir47 := by kernel_rfl
def ir52 : FI :=
 ⟨15,[.tmp 2],.seq (.reg [qo 2 .mv [ci 0]]) (.seq (.reg [qm 6 0,⟨some 7,none,.op (.tas 3 true (.int .i64 0)) [.tmp 6]⟩,qm 5 7,qk 8 (.ext 0) 5,qk 9 (.ext 1) 5,qm 3 8,qm 4 9]) (.seq (.seq (.reg [qm 10 4,qk 11 .not 10]) (.cond (.tmp 11) (.seq (.reg [qo 2 .mv [ci 0]]) (.ret)) (.skip))) (.seq (.reg [qm 12 3,qi 13 (.mm true) 12 0,qi 14 (.mm false) 13 1000000,qm 2 14]) (.ret))))⟩
theorem c52 : compF Tryz.prog Tryz.f52 = some ir52 := by kernel_rfl
def ir56 : FI :=
 ⟨25,[.tmp 2],.seq (.reg [qo 2 .mv [.const (.slice none 0 0)]]) (.seq (.reg [qo 3 .mv [.const (.slice none 0 0)]]) (.seq (.seq (.reg [qm 6 0,qk 7 .nck 6,qk 8 (.fad 22) 7,qk 9 .ld1 8,qk 10 .len 9,qo 11 .mv [ci 0]]) (.block 0 (.loop (.seq (.reg [q2 12 (.bin .lss) 11 10]) (.seq (.cond (.tmp 12) (.skip) (.exit 0)) (.seq (.block 1 (.seq (.reg [qm 13 11,q2 14 (.iad 4) 9 11,qk 15 (.ldn 4) 14,⟨some 5,none,.op (.new 50 (.agg #[(.int .i64 0),(.int .i64 0),(.int .i64 0),(.int .i64 0)])) []⟩,qm 4 13,qs 4 5 15]) (.seq (.reg [qk 16 (.fad 2) 5,qk 17 .ld1 16,qi 18 (.bin .eql) 17 2]) (.cond (.tmp 18) (.reg [qm 19 3,qm 20 4,⟨some 21,none,.op (.bsl 3 1 1 #[(.int .i64 0)] [0]) [.tmp 20]⟩,q2 22 (.app 3 1 8) 19 21,qm 3 22]) (.skip))))) (.reg [qi 23 (.bin .add) 11 1,qm 11 23]))))))) (.seq (.reg [qm 24 3,qm 2 24]) (.ret))))⟩
theorem c56 : compF Tryz.prog Tryz.f56 = some ir56 := by kernel_rfl
def ir57 : FI :=
 ⟨25,[],.drw [dq 0 (qm 6 0),dq 1 (qk 7 .nck 6),dq 2 (qk 8 (.fad 22) 7),dq 3 (qk 9 .ld1 8),dq 4 (qm 10 1),dq 5 (qm 11 0),dq 6 (qk 12 .nck 11),dq 7 (qk 13 (.fad 22) 12),dq 8 (qk 14 .ld1 13),dq 9 (qm 15 1),dq 10 (qm 16 2),dq 11 (qm 17 0),dq 12 (qk 18 .nck 17),dq 13 (qk 19 (.fad 20) 18),dq 14 (qk 20 .ld1 19),dq 15 (q2 21 (.iad 4) 9 10),dq 16 (qk 22 (.fad 2) 21),⟨17,qs 1 22 16,true,[]⟩,dq 18 (q2 23 (.iad 4) 14 15),dq 19 (qk 24 (.fad 1) 23),⟨20,qs 1 24 20,true,[]⟩]⟩
theorem c57 : compF Tryz.prog Tryz.f57 = some ir57 := by kernel_rfl
def ir58 : FI :=
 ⟨56,[.tmp 4],.seq (.reg [qo 4 .mv [ci 0]]) (.seq (.seq (.reg [qm 7 0,qo 8 (.isn false) [.tmp 7,.const (.pointer none)]]) (.cond (.tmp 8) (.seq (.reg [qo 4 .mv [ci 8]]) (.ret)) (.skip))) (.seq (.reg [qm 9 0,qm 10 1,qc 11 85 [.tmp 9,.tmp 10],qm 5 11]) (.seq (.seq (.reg [qm 12 5,qi 13 (.bin .lss) 12 0,qm 14 13,qn 15 14 false .mv 0,qn 16 14 false .mv 5,qh 17 14 false 49 [.tmp 15,.tmp 16],qn 18 14 false .nck 17,qn 19 14 false (.fad 2) 18,qn 20 14 false .ld1 19,qg 21 14 false (.bin .eql) [.tmp 20,ci 0],qo 22 .pick [.tmp 14,cb true,.tmp 21]]) (.cond (.tmp 22) (.seq (.reg [qo 4 .mv [ci 7]]) (.ret)) (.skip))) (.seq (.reg [qm 23 0,qm 24 5,qc 25 49 [.tmp 23,.tmp 24],qm 6 25]) (.seq (.seq (.reg [qm 26 6,qk 27 .nck 26,qk 28 (.fad 2) 27,qk 29 .ld1 28,qi 30 (.bin .sub) 29 1,qk 31 .nck 26,qk 32 (.fad 2) 31,qs 1 32 30]) (.seq (.reg [qm 33 6,qk 34 .nck 33,qk 35 (.fad 2) 34,qk 36 .ld1 35,qi 37 (.bin .eql) 36 0,qm 38 37,qn 39 38 true .mv 6,qn 40 38 true .nck 39,qn 41 38 true (.fad 1) 40,qn 42 38 true .ld1 41,qg 43 38 true (.bin .eql) [.tmp 42,ci 3],qo 44 .pick [.tmp 38,.tmp 43,cb false]]) (.cond (.tmp 44) (.reg [qm 45 0,qm 46 0,qk 47 .nck 46,qk 48 (.fad 0) 47,qk 49 .ld1 48,qm 50 5,qm 51 5,qi 52 (.bin .add) 51 1,qc 53 50 [.tmp 49,.tmp 50,.tmp 52],qk 54 .nck 45,qk 55 (.fad 0) 54,qs 1 55 53]) (.skip)))) (.seq (.reg [qo 4 .mv [ci 0]]) (.ret)))))))⟩
theorem c58 : compF Tryz.prog Tryz.f58 = some ir58 := by kernel_rfl
def ir90 : FI :=
 ⟨40,[.tmp 4],.seq (.reg [qk 2 (.box 156) 0,qo 4 .mv [cb false]]) (.seq (.seq (.reg [qk 12 (.fad 1) 2,qk 13 .ld1 12,⟨some 14,none,.op (.tas 204 true (.pointer none)) [.tmp 13]⟩,qm 11 14,qk 15 (.ext 0) 11,qk 16 (.ext 1) 11,qm 5 15,qm 6 16]) (.seq (.reg [qm 17 6]) (.cond (.tmp 17) (.seq (.reg [qm 19 1,qc 20 130 [.tmp 19],qm 18 20,qk 21 (.ext 0) 18,qk 22 (.ext 1) 18,qm 7 21,qm 8 22]) (.seq (.seq (.reg [qm 23 8]) (.cond (.tmp 23) (.reg [qm 24 5,qm 25 7,qk 26 .nck 24,qs 1 26 25]) (.skip))) (.seq (.reg [qm 27 8,qm 4 27]) (.ret)))) (.skip)))) (.seq (.reg [qm 29 1,qc 30 131 [.tmp 29,ci 6],qm 28 30,qk 31 (.ext 0) 28,qk 32 (.ext 1) 28,qm 9 31,qm 10 32]) (.seq (.seq (.reg [qm 33 10]) (.cond (.tmp 33) (.reg [qk 34 (.fad 1) 2,qk 35 .ld1 34,qk 36 (.tas 205 false .nilIface) 35,qm 37 9,qk 38 .nck 36,qs 1 38 37]) (.skip))) (.seq (.reg [qm 39 10,qm 4 39]) (.ret)))))⟩
theorem c90 : compF Tryz.prog Tryz.f90 = some ir90 := by kernel_rfl
def ir93 : FI :=
 ⟨19,[.tmp 4],.seq (.reg [qo 4 .mv [ci 0]]) (.seq (.block 0 (.seq (.reg [qm 6 0,qo 7 (.isn false) [.tmp 6,.const (.pointer none)],qm 5 7]) (.cond (.tmp 5) (.seq (.reg [qo 4 .mv [ci 8]]) (.ret)) (.seq (.reg [qm 9 1,qi 10 (.bin .lss) 9 0,qm 11 10,qn 12 11 false .mv 1,qg 13 11 false (.bin .gtr) [.tmp 12,ci 600],qo 14 .pick [.tmp 11,cb true,.tmp 13],qm 8 14]) (.cond (.tmp 8) (.seq (.reg [qo 4 .mv [ci 1]]) (.ret)) (.skip)))))) (.seq (.reg [qm 15 0,qm 16 1,qk 17 .nck 15,qk 18 (.fad 1) 17,qs 1 18 16]) (.seq (.reg [qo 4 .mv [ci 0]]) (.ret))))⟩
theorem c93 : compF Tryz.prog Tryz.f93 = some ir93 := by kernel_rfl
def ir96 : FI :=
 ⟨45,[.tmp 6,.tmp 7],.seq (.reg [qo 6 .mv [ci 0],qo 7 .mv [ci 0]]) (.seq (.reg [qm 14 0,qm 15 1,qc 16 135 [.tmp 14,.tmp 15],qm 13 16,qk 17 (.ext 0) 13,qk 18 (.ext 1) 13,qk 19 (.ext 2) 13,qm 8 17,qm 9 18,qm 10 19]) (.seq (.block 0 (.seq (.reg [qm 21 9,qi 22 (.bin .eql) 21 0,qm 20 22]) (.cond (.tmp 20) (.seq (.reg [qo 6 .mv [ci 0],qo 7 .mv [ci 7]]) (.ret)) (.seq (.reg [qm 24 2,qi 25 (.bin .lss) 24 0,qm 23 25]) (.cond (.tmp 23) (.seq (.reg [qo 6 .mv [ci 0],qo 7 .mv [ci 1]]) (.ret)) (.skip)))))) (.seq (.reg [qm 27 8,qk 28 (.cvt .u64) 27,qm 29 2,qk 30 (.cvt .u64) 29,qc 31 136 [.tmp 28,.tmp 30],qm 26 31,qk 32 (.ext 0) 26,qk 33 (.ext 1) 26,qm 11 32,qm 12 33]) (.seq (.seq (.reg [qm 34 11,qo 35 (.bin .gtr) [.tmp 34,.const (.int .u64 0)],qm 36 35,qn 37 36 false .mv 12,qg 38 36 false (.bin .gtr) [.tmp 37,.const (.int .u64 9223372036854775807)],qo 39 .pick [.tmp 36,cb true,.tmp 38]]) (.cond (.tmp 39) (.reg [qo 12 .mv [.const (.int .u64 9223372036854775807)],qo 10 .mv [ci 2]]) (.skip))) (.seq (.reg [qm 40 12,qk 41 (.cvt .i64) 40,qm 42 9,q2 43 (.bin .quo) 41 42,qm 44 10,qm 6 43,qm 7 44]) (.ret))))))⟩
theorem c96 : compF Tryz.prog Tryz.f96 = some ir96 := by kernel_rfl
def ir104 : FI :=
 ⟨55,[.tmp 6],.seq (.reg [qk 4 (.box 2) 1,qo 6 .mv [ci 0]]) (.seq (.block 0 (.seq (.reg [qm 8 0,qo 9 (.isn false) [.tmp 8,.const (.pointer none)],qm 7 9]) (.cond (.tmp 7) (.seq (.reg [qo 6 .mv [ci 8]]) (.ret)) (.seq (.drw [dq 0 (qk 11 .ld1 4),dq 1 (qm 12 0),dq 2 (qk 13 .nck 12),dq 3 (qk 14 (.fad 2) 13),dq 4 (qk 15 .ld1 14),dq 5 (q2 16 (.bin .lss) 11 15),dq 6 (qm 17 16),dq 7 (qn 18 17 false .ld1 4),dq 8 (qg 19 17 false (.bin .gtr) [.tmp 18,ci 1099511627776]),dq 9 (qo 20 .pick [.tmp 17,cb true,.tmp 19]),dq 10 (qm 21 20),dq 11 (qn 22 21 false .mv 2),dq 12 (qg 23 21 false (.bin .lss) [.tmp 22,ci 0]),dq 13 (qo 24 .pick [.tmp 21,cb true,.tmp 23]),dq 14 (qm 25 24),dq 15 (qn 26 25 false .mv 2),dq 16 (qg 27 25 false (.bin .gtr) [.tmp 26,ci 1000000]),dq 17 (qo 28 .pick [.tmp 25,cb true,.tmp 27]),dq 18 (qm 10 28)]) (.cond (.tmp 10) (.seq (.reg [qo 6 .mv [ci 1]]) (.ret)) (.skip)))))) (.seq (.reg [qm 29 0,qk 30 .ld1 4,qk 31 .nck 29,qk 32 (.fad 2) 31,qs 1 32 30]) (.seq (.reg [qm 33 0,qm 34 0,qk 35 .nck 34,qk 36 (.fad 0) 35,qk 37 .ld1 36,⟨some 38,none,.op (.clo (.func 145) 0) [.tmp 4]⟩,qc 39 144 [.tmp 37,.tmp 38],qk 40 .nck 33,qk 41 (.fad 0) 40,qs 1 41 39]) (.seq (.drw [dq 0 (qm 42 0),dq 1 (qm 43 0),dq 2 (qk 44 .nck 43),dq 3 (qk 45 (.fad 0) 44),dq 4 (qk 46 .ld1 45),dq 5 (qk 47 .ld1 4),dq 6 (qm 48 2),⟨7,⟨some 49,none,.op (.bld #[(.int .i64 0),(.int .i64 0)] [(0,1),(1,1)] [0,1]) [.tmp 47,.tmp 48]⟩,false,[]⟩,dq 8 (qk 50 (.ifc 220) 49),⟨9,qk 51 (.bsl 20 1 1 #[.nilIface] [0]) 50,true,[qk 46 .ld1 45]⟩,⟨10,q2 52 (.app 20 1 16) 46 51,true,[]⟩,dq 11 (qk 53 .nck 42),dq 12 (qk 54 (.fad 0) 53),⟨13,qs 1 54 52,true,[]⟩]) (.seq (.reg [qo 6 .mv [ci 0]]) (.ret))))))⟩
theorem c104 : compF Tryz.prog Tryz.f104 = some ir104 := by kernel_rfl
def ir111 : FI :=
 ⟨11,[.tmp 4],.seq (.reg [qo 4 .mv [ci 0]]) (.seq (.reg [qm 5 0,qm 6 1,q2 7 (.bin .add) 5 6,qi 8 (.bin .sub) 7 1,qm 9 1,q2 10 (.bin .quo) 8 9,qm 4 10]) (.ret))⟩
theorem c111 : compF Tryz.prog Tryz.f111 = some ir111 := by kernel_rfl
def ir114 : FI :=
 ⟨38,[.tmp 4],.seq (.reg [qo 4 .mv [ci 0]]) (.seq (.reg [qm 10 0,⟨some 11,none,.op (.tas 186 true (.agg #[(.int .i64 0),(.int .i64 0)])) [.tmp 10]⟩,qm 9 11,qk 12 (.ext 0) 9,qk 13 (.ext 1) 9,⟨some 5,none,.op (.new 186 (.agg #[(.int .i64 0),(.int .i64 0)])) []⟩,qs 2 5 12,qm 6 13]) (.seq (.reg [qm 15 1,⟨some 16,none,.op (.tas 186 true (.agg #[(.int .i64 0),(.int .i64 0)])) [.tmp 15]⟩,qm 14 16,qk 17 (.ext 0) 14,qk 18 (.ext 1) 14,⟨some 7,none,.op (.new 186 (.agg #[(.int .i64 0),(.int .i64 0)])) []⟩,qs 2 7 17,qm 8 18]) (.seq (.drw [dq 0 (qk 19 (.fad 0) 5),dq 1 (qk 20 .ld1 19),dq 3 (qk 22 (.fad 0) 7),dq 4 (qk 23 .ld1 22),dq 7 (qk 26 (.fad 0) 5),dq 8 (qk 27 .ld1 26),dq 9 (qk 28 (.fad 0) 7),dq 10 (qk 29 .ld1 28),dq 12 (qk 31 (.fad 1) 5),dq 13 (qk 32 .ld1 31),dq 14 (qk 33 (.fad 1) 7),dq 15 (qk 34 .ld1 33),⟨2,qc 21 150 [.tmp 20],true,[qk 23 .ld1 22,qk 27 .ld1 26,qk 29 .ld1 28,qk 32 .ld1 31,qk 34 .ld1 33]⟩,⟨5,qc 24 150 [.tmp 23],true,[qk 27 .ld1 26,qk 29 .ld1 28,qk 32 .ld1 31,qk 34 .ld1 33]⟩,⟨6,qc 25 149 [.tmp 21,.tmp 24],true,[qk 27 .ld1 26,qk 29 .ld1 28,qk 32 .ld1 31,qk 34 .ld1 33]⟩,⟨11,qc 30 116 [.tmp 27,.tmp 29],true,[qk 32 .ld1 31,qk 34 .ld1 33]⟩,⟨16,qc 35 116 [.tmp 32,.tmp 34],true,[]⟩,⟨17,⟨some 36,none,.op (.bsl 3 1 3 #[(.int .i64 0),(.int .i64 0),(.int .i64 0)] [0,1,2]) [.tmp 25,.tmp 30,.tmp 35]⟩,true,[]⟩,⟨18,qc 37 148 [.tmp 36],true,[]⟩,dq 19 (qm 4 37)]) (.ret))))⟩
theorem c114 : compF Tryz.prog Tryz.f114 = some ir114 := by kernel_rfl
def ir117 : FI :=
 ⟨6,[.tmp 2],.seq (.reg [qo 2 .mv [ci 0]]) (.seq (.reg [qm 3 0,⟨some 4,none,.fl (.call ⟨.builtin .real,#[.tmp 3],#[143]⟩) 190⟩,qc 5 152 [.tmp 4],qm 2 5]) (.ret))⟩
theorem c117 : compF Tryz.prog Tryz.f117 = some ir117 := by kernel_rfl
def ir118 : FI :=
 ⟨20,[.tmp 4],.seq (.reg [qo 4 .mv [cb false]]) (.seq (.seq (.reg [qm 5 0,qc 6 117 [.tmp 5],qm 7 1,qc 8 117 [.tmp 7],q2 9 (.bin .neq) 6 8]) (.cond (.tmp 9) (.seq (.reg [qm 10 0,qc 11 117 [.tmp 10],qm 12 1,qc 13 117 [.tmp 12],q2 14 (.bin .lss) 11 13,qm 4 14]) (.ret)) (.skip))) (.seq (.reg [qm 15 0,qc 16 153 [.tmp 15],qm 17 1,qc 18 153 [.tmp 17],q2 19 (.bin .lss) 16 18,qm 4 19]) (.ret)))⟩
theorem c118 : compF Tryz.prog Tryz.f118 = some ir118 := by kernel_rfl
def ir132 : FI :=
 ⟨34,[.tmp 4],.seq (.reg [qo 4 .mv [ci 0]]) (.seq (.block 0 (.seq (.reg [qm 6 0,qo 7 (.isn false) [.tmp 6,.const (.pointer none)],qm 5 7]) (.cond (.tmp 5) (.seq (.reg [qo 4 .mv [ci 8]]) (.ret)) (.seq (.reg [qm 9 1,qm 10 0,qk 11 .nck 10,qk 12 (.fad 2) 11,qk 13 .ld1 12,q2 14 (.bin .lss) 9 13,qm 15 14,qn 16 15 false .mv 1,qg 17 15 false (.bin .gtr) [.tmp 16,ci 600],qo 18 .pick [.tmp 15,cb true,.tmp 17],qm 8 18]) (.cond (.tmp 8) (.seq (.reg [qo 4 .mv [ci 1]]) (.ret)) (.skip)))))) (.seq (.reg [qm 19 0,qm 20 0,qm 21 1,qm 22 1,qm 23 0,qk 24 .nck 23,qk 25 (.fad 2) 24,qk 26 .ld1 25,qc 27 111 [.tmp 22,.tmp 26],qk 28 .nck 19,qk 29 (.fad 1) 28,qs 1 29 21,qk 30 .nck 20,qk 31 (.fad 3) 30,qs 1 31 27]) (.seq (.reg [qm 32 0,qc 33 164 [.tmp 32]]) (.seq (.reg [qo 4 .mv [ci 0]]) (.ret)))))⟩
theorem c132 : compF Tryz.prog Tryz.f132 = some ir132 := by kernel_rfl
def ir139 : FI :=
 ⟨15,[.tmp 2],.seq (.reg [qk 1 (.box 27) 0,qo 2 .mv [ci 0]]) (.seq (.reg [qk 6 (.fad 0) 1,qk 7 .ld1 6,qk 8 (.fad 1) 1,qk 9 .ld1 8,qc 10 169 [.tmp 7,.tmp 9],qm 5 10,qk 11 (.ext 0) 5,qk 12 (.ext 1) 5,qm 3 11,qm 4 12]) (.seq (.reg [qm 13 3,qi 14 (.mm true) 13 1,qm 2 14]) (.ret)))⟩
theorem c139 : compF Tryz.prog Tryz.f139 = some ir139 := by kernel_rfl
def ir164 : FI :=
 ⟨11,[],.seq (.reg [qk 1 (.box 130) 0]) (.drw [dq 0 (qk 2 .ld1 1),dq 1 (qk 3 .ld1 1),dq 2 (qk 4 .nck 3),dq 3 (qk 5 (.fad 0) 4),dq 4 (qk 6 .ld1 5),⟨5,⟨some 7,none,.op (.clo (.func 196) 0) [.tmp 1]⟩,false,[]⟩,⟨6,qc 8 144 [.tmp 6,.tmp 7],true,[qk 2 .ld1 1]⟩,dq 7 (qk 9 .nck 2),dq 8 (qk 10 (.fad 0) 9),⟨9,qs 1 10 8,true,[]⟩])⟩
theorem c164 : compF Tryz.prog Tryz.f164 = some ir164 := by kernel_rfl
def ir166 : FI :=
 ⟨42,[.tmp 4,.tmp 5,.tmp 6],.seq (.reg [qo 4 .mv [ci 0],qo 5 .mv [ci 0],qo 6 .mv [ci 0]]) (.seq (.reg [qo 7 .mv [ci 0],qo 8 .mv [ci 0],qo 9 .mv [ci 0]]) (.seq (.seq (.reg [qm 14 0,qk 15 .len 14,qo 16 .mv [ci 0]]) (.block 0 (.loop (.seq (.reg [q2 17 (.bin .lss) 16 15]) (.seq (.cond (.tmp 17) (.skip) (.exit 0)) (.seq (.block 1 (.seq (.reg [q2 18 (.iad 3) 14 16,qk 19 (.ldn 3) 18,⟨some 11,none,.op (.new 163 (.agg #[(.int .i64 0),(.int .i64 0),(.int .i64 0)])) []⟩,qs 3 11 19]) (.seq (.seq (.reg [qk 20 (.ldn 3) 11,qk 21 (.ifc 163) 20,qm 22 1,qc 23 197 [.tmp 21,.tmp 22],qk 24 .not 23]) (.cond (.tmp 24) (.exit 1) (.skip))) (.seq (.reg [qm 26 7,qk 27 (.fad 2) 11,qk 28 .ld1 27,qc 29 97 [.tmp 26,.tmp 28],qm 25 29,qk 30 (.ext 0) 25,qk 31 (.ext 1) 25,qm 12 30,qm 13 31]) (.reg [qm 32 12,qm 33 8,qi 34 (.bin .add) 33 1,qm 35 9,qm 36 13,q2 37 (.mm true) 35 36,qm 7 32,qm 8 34,qm 9 37]))))) (.reg [qi 38 (.bin .add) 16 1,qm 16 38]))))))) (.seq (.reg [qm 39 7,qm 40 8,qm 41 9,qm 4 39,qm 5 40,qm 6 41]) (.ret))))⟩
theorem c166 : compF Tryz.prog Tryz.f166 = some ir166 := by kernel_rfl
def ir12 : FI :=
 ⟨60,[.cell 2 39],.seq (.reg [⟨some 2,none,.op (.new 39 (.agg #[(.int .i64 0),(.int .i64 0),(.bool false),(.bool false),(.slice none 0 0),(.int .i64 0),(.int .i64 0),(.int .i64 0),(.int .i64 0),(.int .i64 0),(.int .i64 0),(.int .i64 0),(.int .i64 0),(.int .i64 0),(.bool false)])) []⟩]) (.seq (.seq (.reg [qm 6 0,qo 7 (.isn false) [.tmp 6,.const (.pointer none)]]) (.cond (.tmp 7) (.seq (.reg [⟨some 8,none,.op (.bld #[(.int .i64 0),(.int .i64 0),(.bool false),(.bool false),(.slice none 0 0),(.int .i64 0),(.int .i64 0),(.int .i64 0),(.int .i64 0),(.int .i64 0),(.int .i64 0),(.int .i64 0),(.int .i64 0),(.int .i64 0),(.bool false)] [(0,1),(1,1),(2,1),(3,1),(4,1),(5,1),(6,1),(7,7),(14,1)] []) []⟩,qs 15 2 8]) (.ret)) (.skip))) (.seq (.drt (.one (dq 0 (qm 9 0)) (.one (dq 1 (qk 10 .nck 9)) (.one (dq 2 (qk 11 (.fad 20) 10)) (.one (dq 3 (qk 12 .ld1 11)) (.one (dq 4 (qm 13 0)) (.one (dq 5 (qk 14 .nck 13)) (.one (dq 6 (qk 15 (.fad 29) 14)) (.one (dq 7 (qk 16 .ld1 15)) (.one (dq 8 (qm 17 0)) (.one (dq 9 (qk 18 .nck 17)) (.one (dq 10 (qk 19 (.fad 23) 18)) (.one (dq 11 (qk 20 (.fad 4) 19)) (.one (dq 12 (qk 21 .ld1 20)) (.one (dq 13 (qm 22 0)) (.one (dq 14 (qk 23 .nck 22)) (.one (dq 15 (qk 24 (.fad 30) 23)) (.one (dq 16 (qk 25 .ld1 24)) (.one (dq 17 (qm 26 0)) (.one (dq 20 (qm 29 0)) (.one (dq 24 (qm 33 0)) (.alt (.one ⟨18,qc 27 23 [.tmp 26],true,[qk 12 .ld1 11,qk 16 .ld1 15,qk 21 .ld1 20,qk 25 .ld1 24]⟩ (.alt (.one ⟨19,qc 28 34 [.tmp 27],true,[qk 12 .ld1 11,qk 16 .ld1 15,qk 21 .ld1 20,qk 25 .ld1 24]⟩ (.alt (.one ⟨21,qc 30 35 [.tmp 29],true,[qk 12 .ld1 11,qk 16 .ld1 15,qk 21 .ld1 20,qk 25 .ld1 24]⟩ (.alt (.one ⟨22,qc 31 36 [.tmp 30],true,[qk 12 .ld1 11,qk 16 .ld1 15,qk 21 .ld1 20,qk 25 .ld1 24]⟩ (.one (dq 23 (qk 32 .len 31)) (.alt (.one ⟨25,qc 34 37 [.tmp 33],true,[qk 12 .ld1 11,qk 16 .ld1 15,qk 21 .ld1 20,qk 25 .ld1 24]⟩ (.alt (.one ⟨26,qc 35 38 [.tmp 34],true,[qk 12 .ld1 11,qk 16 .ld1 15,qk 21 .ld1 20,qk 25 .ld1 24]⟩ (.one ⟨27,⟨some 36,none,.op (.bld #[(.int .i64 0),(.int .i64 0),(.bool false),(.bool false),(.slice none 0 0),(.int .i64 0),(.int .i64 0),(.int .i64 0),(.int .i64 0),(.int .i64 0),(.int .i64 0),(.int .i64 0),(.int .i64 0),(.int .i64 0),(.bool false)] [(0,1),(1,1),(2,1),(3,1),(4,1),(5,1),(6,1),(7,7),(14,1)] [0,1,2,3,4,5,8]) [.tmp 12,.tmp 16,.tmp 21,.tmp 25,.tmp 28,.tmp 32,.tmp 35]⟩,false,[]⟩ (.one ⟨28,⟨some 3,none,.op (.new 39 (.agg #[(.int .i64 0),(.int .i64 0),(.bool false),(.bool false),(.slice none 0 0),(.int .i64 0),(.int .i64 0),(.int .i64 0),(.int .i64 0),(.int .i64 0),(.int .i64 0),(.int .i64 0),(.int .i64 0),(.int .i64 0),(.bool false)])) []⟩,true,[qk 12 .ld1 11,qk 16 .ld1 15,qk 21 .ld1 20,qk 25 .ld1 24]⟩ (.one ⟨29,qs 15 3 36,true,[]⟩ (.nil))))) (.one ⟨28,⟨some 3,none,.op (.new 39 (.agg #[(.int .i64 0),(.int .i64 0),(.bool false),(.bool false),(.slice none 0 0),(.int .i64 0),(.int .i64 0),(.int .i64 0),(.int .i64 0),(.int .i64 0),(.int .i64 0),(.int .i64 0),(.int .i64 0),(.int .i64 0),(.bool false)])) []⟩,true,[qk 12 .ld1 11,qk 16 .ld1 15,qk 21 .ld1 20,qk 25 .ld1 24]⟩ (.one ⟨26,qc 35 38 [.tmp 34],true,[qk 12 .ld1 11,qk 16 .ld1 15,qk 21 .ld1 20,qk 25 .ld1 24]⟩ (.one ⟨27,⟨some 36,none,.op (.bld #[(.int .i64 0),(.int .i64 0),(.bool false),(.bool false),(.slice none 0 0),(.int .i64 0),(.int .i64 0),(.int .i64 0),(.int .i64 0),(.int .i64 0),(.int .i64 0),(.int .i64 0),(.int .i64 0),(.int .i64 0),(.bool false)] [(0,1),(1,1),(2,1),(3,1),(4,1),(5,1),(6,1),(7,7),(14,1)] [0,1,2,3,4,5,8]) [.tmp 12,.tmp 16,.tmp 21,.tmp 25,.tmp 28,.tmp 32,.tmp 35]⟩,false,[]⟩ (.one ⟨29,qs 15 3 36,true,[]⟩ (.nil))))))) (.one ⟨28,⟨some 3,none,.op (.new 39 (.agg #[(.int .i64 0),(.int .i64 0),(.bool false),(.bool false),(.slice none 0 0),(.int .i64 0),(.int .i64 0),(.int .i64 0),(.int .i64 0),(.int .i64 0),(.int .i64 0),(.int .i64 0),(.int .i64 0),(.int .i64 0),(.bool false)])) []⟩,true,[qk 12 .ld1 11,qk 16 .ld1 15,qk 21 .ld1 20,qk 25 .ld1 24]⟩ (.one ⟨25,qc 34 37 [.tmp 33],true,[qk 12 .ld1 11,qk 16 .ld1 15,qk 21 .ld1 20,qk 25 .ld1 24]⟩ (.one ⟨26,qc 35 38 [.tmp 34],true,[qk 12 .ld1 11,qk 16 .ld1 15,qk 21 .ld1 20,qk 25 .ld1 24]⟩ (.one ⟨27,⟨some 36,none,.op (.bld #[(.int .i64 0),(.int .i64 0),(.bool false),(.bool false),(.slice none 0 0),(.int .i64 0),(.int .i64 0),(.int .i64 0),(.int .i64 0),(.int .i64 0),(.int .i64 0),(.int .i64 0),(.int .i64 0),(.int .i64 0),(.bool false)] [(0,1),(1,1),(2,1),(3,1),(4,1),(5,1),(6,1),(7,7),(14,1)] [0,1,2,3,4,5,8]) [.tmp 12,.tmp 16,.tmp 21,.tmp 25,.tmp 28,.tmp 32,.tmp 35]⟩,false,[]⟩ (.one ⟨29,qs 15 3 36,true,[]⟩ (.nil))))))))) (.one ⟨28,⟨some 3,none,.op (.new 39 (.agg #[(.int .i64 0),(.int .i64 0),(.bool false),(.bool false),(.slice none 0 0),(.int .i64 0),(.int .i64 0),(.int .i64 0),(.int .i64 0),(.int .i64 0),(.int .i64 0),(.int .i64 0),(.int .i64 0),(.int .i64 0),(.bool false)])) []⟩,true,[qk 12 .ld1 11,qk 16 .ld1 15,qk 21 .ld1 20,qk 25 .ld1 24]⟩ (.one ⟨22,qc 31 36 [.tmp 30],true,[qk 12 .ld1 11,qk 16 .ld1 15,qk 21 .ld1 20,qk 25 .ld1 24]⟩ (.one (dq 23 (qk 32 .len 31)) (.one ⟨25,qc 34 37 [.tmp 33],true,[qk 12 .ld1 11,qk 16 .ld1 15,qk 21 .ld1 20,qk 25 .ld1 24]⟩ (.one ⟨26,qc 35 38 [.tmp 34],true,[qk 12 .ld1 11,qk 16 .ld1 15,qk 21 .ld1 20,qk 25 .ld1 24]⟩ (.one ⟨27,⟨some 36,none,.op (.bld #[(.int .i64 0),(.int .i64 0),(.bool false),(.bool false),(.slice none 0 0),(.int .i64 0),(.int .i64 0),(.int .i64 0),(.int .i64 0),(.int .i64 0),(.int .i64 0),(.int .i64 0),(.int .i64 0),(.int .i64 0),(.bool false)] [(0,1),(1,1),(2,1),(3,1),(4,1),(5,1),(6,1),(7,7),(14,1)] [0,1,2,3,4,5,8]) [.tmp 12,.tmp 16,.tmp 21,.tmp 25,.tmp 28,.tmp 32,.tmp 35]⟩,false,[]⟩ (.one ⟨29,qs 15 3 36,true,[]⟩ (.nil)))))))))) (.one ⟨28,⟨some 3,none,.op (.new 39 (.agg #[(.int .i64 0),(.int .i64 0),(.bool false),(.bool false),(.slice none 0 0),(.int .i64 0),(.int .i64 0),(.int .i64 0),(.int .i64 0),(.int .i64 0),(.int .i64 0),(.int .i64 0),(.int .i64 0),(.int .i64 0),(.bool false)])) []⟩,true,[qk 12 .ld1 11,qk 16 .ld1 15,qk 21 .ld1 20,qk 25 .ld1 24]⟩ (.one ⟨21,qc 30 35 [.tmp 29],true,[qk 12 .ld1 11,qk 16 .ld1 15,qk 21 .ld1 20,qk 25 .ld1 24]⟩ (.one ⟨22,qc 31 36 [.tmp 30],true,[qk 12 .ld1 11,qk 16 .ld1 15,qk 21 .ld1 20,qk 25 .ld1 24]⟩ (.one (dq 23 (qk 32 .len 31)) (.one ⟨25,qc 34 37 [.tmp 33],true,[qk 12 .ld1 11,qk 16 .ld1 15,qk 21 .ld1 20,qk 25 .ld1 24]⟩ (.one ⟨26,qc 35 38 [.tmp 34],true,[qk 12 .ld1 11,qk 16 .ld1 15,qk 21 .ld1 20,qk 25 .ld1 24]⟩ (.one ⟨27,⟨some 36,none,.op (.bld #[(.int .i64 0),(.int .i64 0),(.bool false),(.bool false),(.slice none 0 0),(.int .i64 0),(.int .i64 0),(.int .i64 0),(.int .i64 0),(.int .i64 0),(.int .i64 0),(.int .i64 0),(.int .i64 0),(.int .i64 0),(.bool false)] [(0,1),(1,1),(2,1),(3,1),(4,1),(5,1),(6,1),(7,7),(14,1)] [0,1,2,3,4,5,8]) [.tmp 12,.tmp 16,.tmp 21,.tmp 25,.tmp 28,.tmp 32,.tmp 35]⟩,false,[]⟩ (.one ⟨29,qs 15 3 36,true,[]⟩ (.nil))))))))))) (.one ⟨28,⟨some 3,none,.op (.new 39 (.agg #[(.int .i64 0),(.int .i64 0),(.bool false),(.bool false),(.slice none 0 0),(.int .i64 0),(.int .i64 0),(.int .i64 0),(.int .i64 0),(.int .i64 0),(.int .i64 0),(.int .i64 0),(.int .i64 0),(.int .i64 0),(.bool false)])) []⟩,true,[qk 12 .ld1 11,qk 16 .ld1 15,qk 21 .ld1 20,qk 25 .ld1 24]⟩ (.one ⟨19,qc 28 34 [.tmp 27],true,[qk 12 .ld1 11,qk 16 .ld1 15,qk 21 .ld1 20,qk 25 .ld1 24]⟩ (.one ⟨21,qc 30 35 [.tmp 29],true,[qk 12 .ld1 11,qk 16 .ld1 15,qk 21 .ld1 20,qk 25 .ld1 24]⟩ (.one ⟨22,qc 31 36 [.tmp 30],true,[qk 12 .ld1 11,qk 16 .ld1 15,qk 21 .ld1 20,qk 25 .ld1 24]⟩ (.one (dq 23 (qk 32 .len 31)) (.one ⟨25,qc 34 37 [.tmp 33],true,[qk 12 .ld1 11,qk 16 .ld1 15,qk 21 .ld1 20,qk 25 .ld1 24]⟩ (.one ⟨26,qc 35 38 [.tmp 34],true,[qk 12 .ld1 11,qk 16 .ld1 15,qk 21 .ld1 20,qk 25 .ld1 24]⟩ (.one ⟨27,⟨some 36,none,.op (.bld #[(.int .i64 0),(.int .i64 0),(.bool false),(.bool false),(.slice none 0 0),(.int .i64 0),(.int .i64 0),(.int .i64 0),(.int .i64 0),(.int .i64 0),(.int .i64 0),(.int .i64 0),(.int .i64 0),(.int .i64 0),(.bool false)] [(0,1),(1,1),(2,1),(3,1),(4,1),(5,1),(6,1),(7,7),(14,1)] [0,1,2,3,4,5,8]) [.tmp 12,.tmp 16,.tmp 21,.tmp 25,.tmp 28,.tmp 32,.tmp 35]⟩,false,[]⟩ (.one ⟨29,qs 15 3 36,true,[]⟩ (.nil)))))))))))) (.one ⟨28,⟨some 3,none,.op (.new 39 (.agg #[(.int .i64 0),(.int .i64 0),(.bool false),(.bool false),(.slice none 0 0),(.int .i64 0),(.int .i64 0),(.int .i64 0),(.int .i64 0),(.int .i64 0),(.int .i64 0),(.int .i64 0),(.int .i64 0),(.int .i64 0),(.bool false)])) []⟩,true,[qk 12 .ld1 11,qk 16 .ld1 15,qk 21 .ld1 20,qk 25 .ld1 24]⟩ (.one ⟨18,qc 27 23 [.tmp 26],true,[qk 12 .ld1 11,qk 16 .ld1 15,qk 21 .ld1 20,qk 25 .ld1 24]⟩ (.one ⟨19,qc 28 34 [.tmp 27],true,[qk 12 .ld1 11,qk 16 .ld1 15,qk 21 .ld1 20,qk 25 .ld1 24]⟩ (.one ⟨21,qc 30 35 [.tmp 29],true,[qk 12 .ld1 11,qk 16 .ld1 15,qk 21 .ld1 20,qk 25 .ld1 24]⟩ (.one ⟨22,qc 31 36 [.tmp 30],true,[qk 12 .ld1 11,qk 16 .ld1 15,qk 21 .ld1 20,qk 25 .ld1 24]⟩ (.one (dq 23 (qk 32 .len 31)) (.one ⟨25,qc 34 37 [.tmp 33],true,[qk 12 .ld1 11,qk 16 .ld1 15,qk 21 .ld1 20,qk 25 .ld1 24]⟩ (.one ⟨26,qc 35 38 [.tmp 34],true,[qk 12 .ld1 11,qk 16 .ld1 15,qk 21 .ld1 20,qk 25 .ld1 24]⟩ (.one ⟨27,⟨some 36,none,.op (.bld #[(.int .i64 0),(.int .i64 0),(.bool false),(.bool false),(.slice none 0 0),(.int .i64 0),(.int .i64 0),(.int .i64 0),(.int .i64 0),(.int .i64 0),(.int .i64 0),(.int .i64 0),(.int .i64 0),(.int .i64 0),(.bool false)] [(0,1),(1,1),(2,1),(3,1),(4,1),(5,1),(6,1),(7,7),(14,1)] [0,1,2,3,4,5,8]) [.tmp 12,.tmp 16,.tmp 21,.tmp 25,.tmp 28,.tmp 32,.tmp 35]⟩,false,[]⟩ (.one ⟨29,qs 15 3 36,true,[]⟩ (.nil))))))))))))))))))))))))))))))))) (.seq (.seq (.reg [qm 37 0,qk 38 .nck 37,qk 39 (.fad 22) 38,qk 40 .ld1 39,qk 41 .len 40,qo 42 .mv [ci 0]]) (.block 0 (.loop (.seq (.reg [q2 43 (.bin .lss) 42 41]) (.seq (.cond (.tmp 43) (.skip) (.exit 0)) (.seq (.block 1 (.seq (.reg [q2 44 (.iad 4) 40 42,qk 45 (.ldn 4) 44,⟨some 5,none,.op (.new 50 (.agg #[(.int .i64 0),(.int .i64 0),(.int .i64 0),(.int .i64 0)])) []⟩,qs 4 5 45]) (.reg [qk 46 (.fad 2) 5,qk 47 .ld1 46,qk 48 (.fad 7) 3,q2 49 (.iaa 7 1) 48 47,qk 50 .ld1 49,qi 51 (.bin .add) 50 1,qk 52 (.fad 7) 3,q2 53 (.iaa 7 1) 52 47,qs 1 53 51]))) (.reg [qi 54 (.bin .add) 42 1,qm 42 54]))))))) (.seq (.reg [qk 55 (.fad 7) 3,qi 56 (.iaa 7 1) 55 2,qk 57 .ld1 56,qk 58 (.fad 6) 3,qs 1 58 57]) (.seq (.reg [qk 59 (.ldn 15) 3,qs 15 2 59]) (.ret))))))⟩
theorem c12 : compF Tryz.prog Tryz.f12 = some ir12 := by kernel_rfl
def ir15 : FI :=
 ⟨6,[.tmp 2],.seq (.reg [qk 1 (.box 27) 0,qo 2 .mv [cb false]]) (.seq (.reg [qk 3 (.ldn 20) 1,qc 4 41 [.tmp 3],⟨some 5,none,.op (.bin .eql) [.tmp 4,.const (.string ⟨#[]⟩)]⟩,qm 2 5]) (.ret))⟩
theorem c15 : compF Tryz.prog Tryz.f15 = some ir15 := by kernel_rfl
def ir29 : FI :=
 ⟨44,[],.seq (.reg [qm 3 0,qk 4 .nck 3,qk 5 (.fad 22) 4,qk 6 .ld1 5,qk 7 .len 6,qm 2 7]) (.seq (.drw [dq 0 (qm 8 0),dq 1 (qm 9 0),dq 2 (qk 10 .nck 9),dq 3 (qk 11 (.fad 22) 10),dq 4 (qk 12 .ld1 11),dq 5 (qm 13 0),dq 6 (qk 14 .nck 13),dq 7 (qk 15 (.fad 20) 14),dq 8 (qk 16 .ld1 15),dq 9 (qm 17 0),dq 10 (qk 18 .nck 17),dq 11 (qk 19 (.fad 20) 18),dq 12 (qk 20 .ld1 19),⟨13,⟨some 21,none,.op (.bld #[(.int .i64 0),(.int .i64 0),(.int .i64 0),(.int .i64 0)] [(0,1),(1,1),(2,1),(3,1)] [0,1,2,3]) [.tmp 16,.tmp 20,ci 1,ci (-1)]⟩,false,[]⟩,⟨14,⟨some 22,none,.op (.bsl 50 4 1 #[(.int .i64 0),(.int .i64 0),(.int .i64 0),(.int .i64 0)] [0]) [.tmp 21]⟩,true,[qk 12 .ld1 11]⟩,⟨15,q2 23 (.app 50 4 32) 12 22,true,[]⟩,dq 16 (qk 24 .nck 8),dq 17 (qk 25 (.fad 22) 24),⟨18,qs 1 25 23,true,[]⟩]) (.seq (.seq (.drw [dq 0 (qm 26 0),dq 2 (qm 28 2),dq 3 (qm 29 0),dq 4 (qk 30 .nck 29),dq 5 (qk 31 (.fad 20) 30),dq 6 (qk 32 .ld1 31),⟨1,qc 27 35 [.tmp 26],true,[qk 32 .ld1 31]⟩,⟨7,qc 33 54 [.tmp 27,.tmp 28,.tmp 32],true,[]⟩,dq 8 (qi 34 (.bin .neq) 33 0)]) (.cond (.tmp 34) (.reg [qm 35 0,qk 36 .nck 35,qk 37 (.fad 22) 36,qk 38 .ld1 37,qm 39 2,q2 40 (.iad 4) 38 39,qk 41 (.fad 2) 40,⟨none,none,.op (.st 1) [.tmp 41,ci 5]⟩]) (.skip))) (.reg [qm 42 0,qc 43 55 [.tmp 42]])))⟩
theorem c29 : compF Tryz.prog Tryz.f29 = some ir29 := by kernel_rfl
def ir31 : FI :=
 ⟨43,[.tmp 4],.seq (.reg [qo 4 .mv [ci 0]]) (.seq (.reg [qm 10 0,qc 11 23 [.tmp 10],qm 12 1,qc 13 59 [.tmp 11,.tmp 12],qm 9 13,qk 14 (.ext 0) 9,qk 15 (.ext 1) 9,⟨some 5,none,.op (.new 81 (.agg #[(.int .i64 0),(.int .i64 0),(.int .i64 0),(.int .i64 0)])) []⟩,qs 4 5 14,qm 6 15]) (.seq (.seq (.reg [qm 16 6,qi 17 (.bin .neq) 16 0]) (.cond (.tmp 17) (.seq (.reg [qm 18 6,qm 4 18]) (.ret)) (.skip))) (.seq (.seq (.reg [qm 19 0,qc 20 56 [.tmp 19],qk 21 .len 20,qo 22 .mv [ci 0]]) (.block 0 (.loop (.seq (.reg [q2 23 (.bin .lss) 22 21]) (.seq (.cond (.tmp 23) (.skip) (.exit 0)) (.seq (.block 1 (.seq (.reg [q2 24 (.iad 1) 20 22,qk 25 .ld1 24,qm 8 25]) (.seq (.drw [dq 0 (qm 26 0),dq 1 (qk 27 .nck 26),dq 2 (qk 28 (.fad 22) 27),dq 3 (qk 29 .ld1 28),dq 4 (qm 30 8),dq 5 (q2 31 (.iad 4) 29 30),dq 6 (qk 32 (.fad 3) 31),dq 7 (qk 33 .ld1 32),dq 8 (qk 34 (.fad 0) 5),dq 9 (qk 35 .ld1 34),dq 10 (q2 36 (.bin .eql) 33 35)]) (.cond (.tmp 36) (.reg [qm 37 0,qm 38 8,qc 39 57 [.tmp 37,.tmp 38,ci 6]]) (.skip))))) (.reg [qi 40 (.bin .add) 22 1,qm 22 40]))))))) (.seq (.reg [qm 41 0,qc 42 55 [.tmp 41]]) (.seq (.reg [qo 4 .mv [ci 0]]) (.ret))))))⟩
theorem c31 : compF Tryz.prog Tryz.f31 = some ir31 := by kernel_rfl
def ir36 : FI :=
 ⟨25,[.tmp 2],.seq (.reg [qo 2 .mv [.const (.slice none 0 0)]]) (.seq (.seq (.reg [qm 6 0,qo 7 (.isn false) [.tmp 6,.const (.pointer none)]]) (.cond (.tmp 7) (.seq (.reg [qo 2 .mv [.const (.slice none 0 0)]]) (.ret)) (.skip))) (.seq (.reg [qo 3 .mv [.const (.slice none 0 0)]]) (.seq (.seq (.reg [qm 8 0,qk 9 .nck 8,qk 10 (.fad 0) 9,qk 11 .ld1 10,qk 12 .len 11,qo 13 .mv [ci 0]]) (.block 0 (.loop (.seq (.reg [q2 14 (.bin .lss) 13 12]) (.seq (.cond (.tmp 14) (.skip) (.exit 0)) (.seq (.block 1 (.seq (.reg [q2 15 (.iad 1) 11 13,qk 16 .ld1 15,qm 5 16]) (.reg [qm 17 3,qm 18 5,qk 19 (.tas 119 false .nilIface) 18,qk 20 (.fld 0 1 false) 19,⟨some 21,none,.op (.bsl 3 1 1 #[(.int .i64 0)] [0]) [.tmp 20]⟩,q2 22 (.app 3 1 8) 17 21,qm 3 22]))) (.reg [qi 23 (.bin .add) 13 1,qm 13 23]))))))) (.seq (.reg [qm 24 3,qm 2 24]) (.ret)))))⟩
theorem c36 : compF Tryz.prog Tryz.f36 = some ir36 := by kernel_rfl
def ir53 : FI :=
 ⟨11,[.cell 2 32],.seq (.reg [⟨some 2,none,.op (.new 32 (.agg #[(.int .i64 0),(.int .i64 0),(.string ⟨#[]⟩)])) []⟩]) (.seq (.reg [qm 6 0,⟨some 7,none,.op (.tas 32 true (.agg #[(.int .i64 0),(.int .i64 0),(.string ⟨#[]⟩)])) [.tmp 6]⟩,qm 5 7,qk 8 (.ext 0) 5,qk 9 (.ext 1) 5,⟨some 3,none,.op (.new 32 (.agg #[(.int .i64 0),(.int .i64 0),(.string ⟨#[]⟩)])) []⟩,qs 3 3 8,qm 4 9]) (.seq (.reg [qk 10 (.ldn 3) 3,qs 3 2 10]) (.ret)))⟩
theorem c53 : compF Tryz.prog Tryz.f53 = some ir53 := by kernel_rfl
def ir55 : FI :=
 ⟨78,[],.block 0 (.loop (.seq (.seq (.reg [qm 9 0,qc 10 35 [.tmp 9],qc 11 36 [.tmp 10],qk 12 .len 11,qi 13 (.bin .gtr) 12 0]) (.cond (.tmp 13) (.skip) (.exit 0))) (.block 1 (.seq (.reg [qm 14 0,qc 15 23 [.tmp 14],qc 16 66 [.tmp 15],qm 2 16]) (.seq (.seq (.reg [qm 17 0,qk 18 .nck 17,qk 19 (.fad 30) 18,qk 20 .ld1 19]) (.cond (.tmp 20) (.reg [qm 21 2,qm 22 0,qk 23 .nck 22,qk 24 (.fad 0) 23,qk 25 (.fad 18) 24,qk 26 .ld1 25,qc 27 79 [.tmp 21,.tmp 26],qm 2 27]) (.skip))) (.seq (.reg [qo 3 .mv [.const (.slice none 0 0)]]) (.seq (.seq (.reg [qm 28 2,qk 29 .len 28,qo 30 .mv [ci 0]]) (.block 2 (.loop (.seq (.reg [q2 31 (.bin .lss) 30 29]) (.seq (.cond (.tmp 31) (.skip) (.exit 2)) (.seq (.block 3 (.seq (.reg [q2 32 (.iad 1) 28 30,qk 33 .ld1 32,qm 5 33]) (.reg [qm 34 3,qm 35 0,qm 36 5,qc 37 81 [.tmp 35,.tmp 36],qc 38 80 [.tmp 37,ci 0],⟨some 39,none,.op (.bsl 143 1 1 #[(.complex .f64 0 0)] [0]) [.tmp 38]⟩,q2 40 (.app 143 1 16) 34 39,qm 3 40]))) (.reg [qi 41 (.bin .add) 30 1,qm 30 41]))))))) (.seq (.reg [qm 42 3,qm 43 0,qk 44 .nck 43,qk 45 (.fad 0) 44,qk 46 (.fad 14) 45,qk 47 .ld1 46,qc 48 82 [.tmp 42,.tmp 47],qm 6 48]) (.seq (.seq (.reg [qm 49 6,qi 50 (.bin .lss) 49 0]) (.cond (.tmp 50) (.ret) (.skip))) (.seq (.reg [qm 52 0,qc 53 35 [.tmp 52],qc 54 83 [.tmp 53],qm 51 54,qk 55 (.ext 0) 51,qk 56 (.ext 1) 51,qm 7 55,qm 8 56]) (.seq (.reg [qm 57 0,qm 58 7,qc 59 57 [.tmp 57,.tmp 58,ci 2]]) (.seq (.drw [dq 0 (qm 60 0),dq 1 (qk 61 .nck 60),dq 2 (qk 62 (.fad 22) 61),dq 3 (qk 63 .ld1 62),dq 4 (qm 64 7),dq 5 (qm 65 2),dq 6 (qm 66 6),dq 7 (q2 67 (.iad 1) 65 66),dq 8 (qk 68 .ld1 67),dq 9 (q2 69 (.iad 4) 63 64),dq 10 (qk 70 (.fad 3) 69),⟨11,qs 1 70 68,true,[]⟩]) (.drw [dq 0 (qm 71 0),dq 2 (qm 73 2),dq 3 (qm 74 6),dq 4 (q2 75 (.iad 1) 73 74),dq 5 (qk 76 .ld1 75),⟨1,qc 72 23 [.tmp 71],true,[qk 76 .ld1 75]⟩,⟨6,qc 77 84 [.tmp 72,.tmp 76],true,[]⟩])))))))))))))⟩
theorem c55 : compF Tryz.prog Tryz.f55 = some ir55 := by kernel_rfl
def ir60 : FI :=
 ⟨75,[.cell 4 27,.tmp 5,.tmp 6],.seq (.reg [qk 2 (.box 27) 0,⟨some 4,none,.op (.new 27 (.agg #[(.int .i64 0),(.int .i64 0),(.int .i64 0),(.int .i64 0),(.int .i64 0),(.int .i64 0),(.int .i64 0),(.int .i64 0),(.int .i64 0),(.int .i64 0),(.int .i64 0),(.int .i64 0),(.int .i64 0),(.int .i64 0),(.int .i64 0),(.int .i64 0),(.int .i64 0),(.int .i64 0),(.int .i64 0),(.int .i64 0)])) []⟩,qo 5 .mv [ci 0],qo 6 .mv [ci 0]]) (.seq (.reg [qk 17 (.ldn 20) 2,qo 18 .mkm [],⟨some 7,none,.op (.new 27 (.agg #[(.int .i64 0),(.int .i64 0),(.int .i64 0),(.int .i64 0),(.int .i64 0),(.int .i64 0),(.int .i64 0),(.int .i64 0),(.int .i64 0),(.int .i64 0),(.int .i64 0),(.int .i64 0),(.int .i64 0),(.int .i64 0),(.int .i64 0),(.int .i64 0),(.int .i64 0),(.int .i64 0),(.int .i64 0),(.int .i64 0)])) []⟩,qs 20 7 17,qm 8 18]) (.seq (.seq (.reg [qm 19 1,⟨some 20,none,.call 86 [.tmp 19,.const (.string ⟨#[10]⟩)]⟩,qk 21 .len 20,qo 22 .mv [ci 0]]) (.block 0 (.loop (.seq (.reg [q2 23 (.bin .lss) 22 21]) (.seq (.cond (.tmp 23) (.skip) (.exit 0)) (.seq (.block 1 (.seq (.reg [qm 24 22,q2 25 (.iad 1) 20 22,qk 26 .ld1 25,qm 9 24,qm 10 26]) (.seq (.reg [qm 27 10,⟨some 28,none,.call 87 [.tmp 27,.const (.string ⟨#[32]⟩)]⟩,qm 10 28]) (.seq (.seq (.reg [qm 29 10,⟨some 30,none,.op (.bin .eql) [.tmp 29,.const (.string ⟨#[]⟩)]⟩,qm 31 30,qn 32 31 false .mv 10,qg 33 31 false .ixs [.tmp 32,ci 0],qg 34 31 false (.bin .eql) [.tmp 33,.const (.int .u8 35)],qo 35 .pick [.tmp 31,cb true,.tmp 34]]) (.cond (.tmp 35) (.exit 1) (.skip))) (.seq (.reg [qm 37 10,⟨some 38,none,.call 88 [.tmp 37,.const (.string ⟨#[58,32]⟩)]⟩,qm 36 38,qk 39 (.ext 0) 36,qk 40 (.ext 1) 36,qk 41 (.ext 2) 36,qm 11 39,qm 12 40,qm 13 41]) (.seq (.reg [qo 14 .mv [cb false]]) (.seq (.seq (.reg [qc 42 89 [.tmp 7],qk 43 .len 42,qo 44 .mv [ci 0]]) (.block 2 (.loop (.seq (.reg [q2 45 (.bin .lss) 44 43]) (.seq (.cond (.tmp 45) (.skip) (.exit 2)) (.seq (.block 3 (.seq (.reg [q2 46 (.iad 2) 42 44,qk 47 (.ldn 2) 46,⟨some 16,none,.op (.new 156 (.agg #[(.string ⟨#[]⟩),.nilIface])) []⟩,qs 2 16 47]) (.seq (.reg [qk 48 (.fad 0) 16,qk 49 .ld1 48,qm 50 11,q2 51 (.bin .eql) 49 50,qm 52 51,qn 53 52 true .mv 8,qn 54 52 true .mv 11,⟨some 55,some (52,true),.op (.mlk (.bool false) false) [.tmp 53,.tmp 54]⟩,qn 56 52 true .not 55,qo 57 .pick [.tmp 52,.tmp 56,cb false]]) (.cond (.tmp 57) (.reg [qk 58 (.ldn 2) 16,qm 59 12,qc 60 90 [.tmp 58,.tmp 59],qm 14 60]) (.skip))))) (.reg [qi 61 (.bin .add) 44 1,qm 44 61]))))))) (.seq (.reg [qm 62 8,qm 63 11,⟨none,none,.op .mup [.tmp 62,.tmp 63,cb true]⟩]) (.seq (.reg [qm 64 14,qk 65 .not 64]) (.cond (.tmp 65) (.seq (.reg [qk 66 (.ldn 20) 2,qm 67 9,qi 68 (.bin .add) 67 1,qs 20 4 66,qo 5 .mv [ci 4],qm 6 68]) (.ret)) (.skip))))))))))) (.reg [qi 69 (.bin .add) 22 1,qm 22 69]))))))) (.seq (.seq (.reg [qk 70 (.ldn 20) 7,qc 71 18 [.tmp 70],qk 72 .not 71]) (.cond (.tmp 72) (.seq (.reg [qk 73 (.ldn 20) 2,qs 20 4 73,qo 5 .mv [ci 5],qo 6 .mv [ci 0]]) (.ret)) (.skip))) (.seq (.reg [qk 74 (.ldn 20) 7,qs 20 4 74,qo 5 .mv [ci 0],qo 6 .mv [ci 0]]) (.ret)))))⟩
theorem c60 : compF Tryz.prog Tryz.f60 = some ir60 := by kernel_rfl
def ir63 : FI :=
 ⟨54,[.tmp 6],.seq (.reg [qo 6 .mv [.const (.slice none 0 0)]]) (.seq (.seq (.reg [qm 9 0,qo 10 (.isn false) [.tmp 9,.const (.pointer none)]]) (.cond (.tmp 10) (.seq (.reg [qo 6 .mv [.const (.slice none 0 0)]]) (.ret)) (.skip))) (.seq (.reg [qo 7 .mv [.const (.slice none 0 0)]]) (.seq (.block 0 (.loop (.seq (.seq (.reg [qm 11 0,qk 12 .nck 11,qk 13 (.fad 0) 12,qk 14 .ld1 13,qk 15 .len 14,qi 16 (.bin .gtr) 15 0]) (.cond (.tmp 16) (.skip) (.exit 0))) (.block 1 (.seq (.reg [qm 17 0,qk 18 .nck 17,qk 19 (.fad 0) 18,qk 20 .ld1 19,qi 21 (.iad 1) 20 0,qk 22 .ld1 21,qk 23 (.tas 119 false .nilIface) 22,⟨some 8,none,.op (.new 119 (.agg #[(.int .i64 0),(.int .i64 0)])) []⟩,qs 2 8 23]) (.seq (.seq (.reg [qm 24 1,qk 25 (.fad 1) 8,qk 26 .ld1 25,q2 27 (.bin .lss) 24 26,qm 28 27,qn 29 28 false .mv 1,qn 30 28 false (.cvt .u64) 29,qn 31 28 false (.fad 1) 8,qn 32 28 false .ld1 31,qn 33 28 false (.cvt .u64) 32,qg 34 28 false (.bin .sub) [.tmp 30,.tmp 33],qn 35 28 false .mv 2,qg 36 28 false (.mm true) [.tmp 35,ci 0],qn 37 28 false (.cvt .u64) 36,qg 38 28 false (.bin .lss) [.tmp 34,.tmp 37],qo 39 .pick [.tmp 28,cb true,.tmp 38]]) (.cond (.tmp 39) (.exit 0) (.skip))) (.seq (.reg [qm 40 7,qk 41 (.fad 0) 8,qk 42 .ld1 41,⟨some 43,none,.op (.bsl 3 1 1 #[(.int .i64 0)] [0]) [.tmp 42]⟩,q2 44 (.app 3 1 8) 40 43,qm 7 44]) (.reg [qm 45 0,qm 46 0,qk 47 .nck 46,qk 48 (.fad 0) 47,qk 49 .ld1 48,qi 50 (.slc 1 true false false) 49 1,qk 51 .nck 45,qk 52 (.fad 0) 51,qs 1 52 50])))))))) (.seq (.reg [qm 53 7,qm 6 53]) (.ret)))))⟩
theorem c63 : compF Tryz.prog Tryz.f63 = some ir63 := by kernel_rfl
def ir68 : FI :=
 ⟨19,[.cell 6 61],.seq (.reg [qk 3 (.box 61) 0,⟨some 6,none,.op (.new 61 (.agg #[(.int .i64 0)])) []⟩]) (.seq (.block 0 (.seq (.reg [qm 8 2,qk 9 .not 8,qm 7 9]) (.cond (.tmp 7) (.seq (.reg [qc 10 22 [],qs 1 6 10]) (.ret)) (.seq (.reg [qk 12 (.ldn 1) 3,qk 13 (.ifc 61) 12,qc 14 107 [.tmp 13],qi 15 (.bin .geq) 14 0,qm 11 15]) (.cond (.tmp 11) (.seq (.reg [qk 16 (.ldn 1) 3,qs 1 6 16]) (.ret)) (.skip)))))) (.seq (.reg [qm 17 1,⟨some 18,none,.op (.bld #[(.int .i64 0)] [(0,1)] [0]) [.tmp 17]⟩,qs 1 6 18]) (.ret)))⟩
theorem c68 : compF Tryz.prog Tryz.f68 = some ir68 := by kernel_rfl
def ir76 : FI :=
 ⟨41,[.tmp 6],.seq (.reg [qo 6 .mv [cb false]]) (.seq (.seq (.reg [qm 12 0,⟨some 13,none,.op (.tas 2 true (.int .i64 0)) [.tmp 12]⟩,qm 11 13,qk 14 (.ext 0) 11,qk 15 (.ext 1) 11,qm 7 14,qm 8 15]) (.seq (.reg [qm 16 8]) (.cond (.tmp 16) (.seq (.reg [qm 17 7,qm 18 1,q2 19 (.bin .geq) 17 18,qm 20 19,qn 21 20 true .mv 7,qn 22 20 true .mv 2,qg 23 20 true (.bin .leq) [.tmp 21,.tmp 22],qo 24 .pick [.tmp 20,.tmp 23,cb false],qm 6 24]) (.ret)) (.skip)))) (.seq (.reg [qm 26 0,⟨some 27,none,.op (.tas 3 true (.int .i64 0)) [.tmp 26]⟩,qm 25 27,qk 28 (.ext 0) 25,qk 29 (.ext 1) 25,qm 9 28,qm 10 29]) (.seq (.reg [qm 30 10,qm 31 30,qn 32 31 true .mv 9,qn 33 31 true .mv 1,qg 34 31 true (.bin .geq) [.tmp 32,.tmp 33],qo 35 .pick [.tmp 31,.tmp 34,cb false],qm 36 35,qn 37 36 true .mv 9,qn 38 36 true .mv 2,qg 39 36 true (.bin .leq) [.tmp 37,.tmp 38],qo 40 .pick [.tmp 36,.tmp 39,cb false],qm 6 40]) (.ret))))⟩
theorem c76 : compF Tryz.prog Tryz.f76 = some ir76 := by kernel_rfl
def ir77 : FI :=
 ⟨27,[.tmp 4],.seq (.reg [qo 4 .mv [.const (.pointer none)]]) (.seq (.seq (.reg [qm 5 0,qi 6 (.bin .lss) 5 1,qm 7 6,qn 8 7 false .mv 0,qg 9 7 false (.bin .gtr) [.tmp 8,ci 600],qo 10 .pick [.tmp 7,cb true,.tmp 9],qm 11 10,qn 12 11 false .mv 1,qg 13 11 false (.bin .lss) [.tmp 12,ci 1],qo 14 .pick [.tmp 11,cb true,.tmp 13],qm 15 14,qn 16 15 false .mv 1,qn 17 15 false .mv 0,qg 18 15 false (.bin .gtr) [.tmp 16,.tmp 17],qo 19 .pick [.tmp 15,cb true,.tmp 18]]) (.cond (.tmp 19) (.seq (.reg [qo 4 .mv [.const (.pointer none)]]) (.ret)) (.skip))) (.seq (.reg [qm 20 0,qm 21 1,qm 22 0,qm 23 1,qc 24 111 [.tmp 22,.tmp 23],⟨some 25,none,.op (.bld #[(.slice none 0 0),(.int .i64 0),(.int .i64 0),(.int .i64 0),(.int .i64 0),(.bool false)] [(0,1),(1,1),(2,1),(3,1),(4,1),(5,1)] [1,2,3,4]) [.tmp 20,.tmp 21,.tmp 24,ci (-1)]⟩,qk 26 (.box 182) 25,qm 4 26]) (.ret)))⟩
theorem c77 : compF Tryz.prog Tryz.f77 = some ir77 := by kernel_rfl
def ir78 : FI :=
 ⟨15,[.tmp 2,.tmp 3],.seq (.reg [qo 2 .mv [ci 0],qo 3 .mv [ci 0]]) (.seq (.seq (.reg [qm 7 0,⟨some 8,none,.op (.tas 4 true (.bool false)) [.tmp 7]⟩,qm 6 8,qk 9 (.ext 0) 6,qk 10 (.ext 1) 6,qm 4 9,qm 5 10]) (.seq (.reg [qm 11 5,qm 12 11,qn 13 12 true .mv 4,qo 14 .pick [.tmp 12,.tmp 13,cb false]]) (.cond (.tmp 14) (.seq (.reg [qo 2 .mv [ci 9223372036854775807],qo 3 .mv [ci 2]]) (.ret)) (.skip)))) (.seq (.reg [qo 2 .mv [ci (-9223372036854775808)],qo 3 .mv [ci 2]]) (.ret)))⟩
theorem c78 : compF Tryz.prog Tryz.f78 = some ir78 := by kernel_rfl
def ir83 : FI :=
 ⟨37,[.tmp 2,.tmp 3],.seq (.reg [qo 2 .mv [ci 0],qo 3 .mv [cb false]]) (.seq (.seq (.reg [qm 6 0,qo 7 (.isn false) [.tmp 6,.const (.pointer none)],qm 8 7,qn 9 8 false .mv 0,qn 10 8 false .nck 9,qn 11 8 false (.fad 0) 10,qn 12 8 false .ld1 11,qn 13 8 false .len 12,qg 14 8 false (.bin .eql) [.tmp 13,ci 0],qo 15 .pick [.tmp 8,cb true,.tmp 14]]) (.cond (.tmp 15) (.seq (.reg [qo 2 .mv [ci 0],qo 3 .mv [cb false]]) (.ret)) (.skip))) (.seq (.reg [qm 17 0,qk 18 .nck 17,qk 19 (.fad 0) 18,qk 20 .ld1 19,qi 21 (.iad 1) 20 0,qk 22 .ld1 21,⟨some 23,none,.op (.tas 119 true (.agg #[(.int .i64 0),(.int .i64 0)])) [.tmp 22]⟩,qm 16 23,qk 24 (.ext 0) 16,qk 25 (.ext 1) 16,⟨some 4,none,.op (.new 119 (.agg #[(.int .i64 0),(.int .i64 0)])) []⟩,qs 2 4 24,qm 5 25]) (.seq (.reg [qm 26 0,qm 27 0,qk 28 .nck 27,qk 29 (.fad 0) 28,qk 30 .ld1 29,qi 31 (.slc 1 true false false) 30 1,qk 32 .nck 26,qk 33 (.fad 0) 32,qs 1 33 31]) (.seq (.reg [qk 34 (.fad 0) 4,qk 35 .ld1 34,qm 36 5,qm 2 35,qm 3 36]) (.ret)))))⟩
theorem c83 : compF Tryz.prog Tryz.f83 = some ir83 := by kernel_rfl
def ir109 : FI :=
 ⟨18,[.tmp 4],.seq (.reg [qo 4 .mv [.const (.pointer none)]]) (.seq (.reg [qm 8 0,qm 9 1,qk 10 .nck 8,qk 11 (.fad 20) 10,q2 12 (.iaa 2 1) 11 9,qk 13 .ld1 12,⟨some 14,none,.op (.tas 130 true (.pointer none)) [.tmp 13]⟩,qm 7 14,qk 15 (.ext 0) 7,qk 16 (.ext 1) 7,qm 5 15,qm 6 16]) (.seq (.reg [qm 17 5,qm 4 17]) (.ret)))⟩
theorem c109 : compF Tryz.prog Tryz.f109 = some ir109 := by kernel_rfl
def ir110 : FI :=
 ⟨11,[.tmp 2],.seq (.reg [qo 2 .mv [cb false]]) (.seq (.reg [qm 3 0,qo 4 (.isn true) [.tmp 3,.const (.pointer none)],qm 5 4,qn 6 5 true .mv 0,qn 7 5 true .nck 6,qn 8 5 true (.fad 5) 7,qn 9 5 true .ld1 8,qo 10 .pick [.tmp 5,.tmp 9,cb false],qm 2 10]) (.ret))⟩
theorem c110 : compF Tryz.prog Tryz.f110 = some ir110 := by kernel_rfl
def ir113 : FI :=
 ⟨14,[],.seq (.reg [qm 5 0,qk 6 .len 5,qm 4 6]) (.reg [qm 7 0,qm 8 4,qm 9 4,qk 10 (.cvt .u64) 9,qc 11 147 [.tmp 10],qm 12 1,qc 13 146 [.tmp 7,ci 0,.tmp 8,.tmp 11,.tmp 12]])⟩
theorem c113 : compF Tryz.prog Tryz.f113 = some ir113 := by kernel_rfl
def ir133 : FI :=
 ⟨120,[.tmp 6],.seq (.reg [qo 6 .mv [ci 0]]) (.seq (.block 0 (.seq (.reg [qm 13 0,qo 14 (.isn false) [.tmp 13,.const (.pointer none)],qm 12 14]) (.cond (.tmp 12) (.seq (.reg [qo 6 .mv [ci 8]]) (.ret)) (.seq (.reg [qm 16 1,qi 17 (.bin .lss) 16 0,qm 18 17,qn 19 18 false .mv 1,qg 20 18 false (.bin .gtr) [.tmp 19,ci 1099511627776],qo 21 .pick [.tmp 18,cb true,.tmp 20],qm 22 21,qn 23 22 false .mv 2,qg 24 22 false (.bin .lss) [.tmp 23,ci 0],qo 25 .pick [.tmp 22,cb true,.tmp 24],qm 15 25]) (.cond (.tmp 15) (.seq (.reg [qo 6 .mv [ci 1]]) (.ret)) (.skip)))))) (.seq (.reg [qm 26 1,qm 27 0,qk 28 .nck 27,qk 29 (.fad 2) 28,qk 30 .ld1 29,q2 31 (.bin .quo) 26 30,⟨some 7,none,.op (.new 2 (.int .i64 0)) []⟩,qs 1 7 31]) (.seq (.drw [dq 0 (qm 32 0),dq 1 (qm 33 0),dq 2 (qk 34 .nck 33),dq 3 (qk 35 (.fad 4) 34),dq 4 (qk 36 .ld1 35),dq 5 (qk 37 .ld1 7),dq 6 (q2 38 (.mm true) 36 37),dq 7 (qk 39 .nck 32),dq 8 (qk 40 (.fad 4) 39),⟨9,qs 1 40 38,true,[]⟩]) (.seq (.reg [qm 41 0,qc 42 164 [.tmp 41]]) (.seq (.seq (.drw [dq 0 (qm 43 0),dq 1 (qk 44 .nck 43),dq 2 (qk 45 (.fad 4) 44),dq 3 (qk 46 .ld1 45),dq 4 (qk 47 .ld1 7),dq 5 (q2 48 (.bin .sub) 46 47),dq 6 (qm 49 0),dq 7 (qk 50 .nck 49),dq 8 (qk 51 (.fad 3) 50),dq 9 (qk 52 .ld1 51),dq 10 (q2 53 (.bin .geq) 48 52)]) (.cond (.tmp 53) (.seq (.reg [qo 6 .mv [ci 0]]) (.ret)) (.skip))) (.seq (.reg [qm 54 0,qk 55 .nck 54,qk 56 (.fad 0) 55,qk 57 .ld1 56,⟨some 58,none,.op (.clo (.func 165) 0) [.tmp 7]⟩,qc 59 119 [.tmp 57,.tmp 58],qm 8 59]) (.seq (.seq (.reg [qm 60 8,qi 61 (.bin .lss) 60 0]) (.cond (.tmp 61) (.seq (.reg [qm 62 0,qk 63 .nck 62,qk 64 (.fad 0) 63,qk 65 .ld1 64,qk 66 .len 65,qm 8 66]) (.drw [dq 0 (qm 67 0),dq 1 (qm 68 0),dq 2 (qk 69 .nck 68),dq 3 (qk 70 (.fad 0) 69),dq 4 (qk 71 .ld1 70),dq 5 (qk 72 .ld1 7),⟨6,⟨some 73,none,.op (.bld #[(.int .i64 0),(.int .i64 0),(.int .i64 0),(.bool false)] [(0,1),(1,1),(2,1),(3,1)] [0]) [.tmp 72]⟩,false,[]⟩,⟨7,qk 74 (.box 246) 73,true,[qk 71 .ld1 70]⟩,dq 8 (qk 75 (.ifc 247) 74),⟨9,qk 76 (.bsl 20 1 1 #[.nilIface] [0]) 75,true,[qk 71 .ld1 70]⟩,⟨10,q2 77 (.app 20 1 16) 71 76,true,[]⟩,dq 11 (qk 78 .nck 67),dq 12 (qk 79 (.fad 0) 78),⟨13,qs 1 79 77,true,[]⟩])) (.skip))) (.seq (.reg [qm 80 0,qk 81 .nck 80,qk 82 (.fad 0) 81,qk 83 .ld1 82,qm 84 8,q2 85 (.iad 1) 83 84,qk 86 .ld1 85,qk 87 (.tas 247 false .nilIface) 86,qm 9 87]) (.seq (.reg [qm 89 9,qk 90 .nck 89,qk 91 (.fad 1) 90,qk 92 .ld1 91,qm 93 2,qc 94 97 [.tmp 92,.tmp 93],qm 88 94,qk 95 (.ext 0) 88,qk 96 (.ext 1) 88,qm 10 95,qm 11 96]) (.seq (.drw [dq 0 (qm 97 9),dq 1 (qm 98 9),dq 2 (qm 99 9),dq 3 (qm 100 10),dq 4 (qm 101 9),dq 5 (qk 102 .nck 101),dq 6 (qk 103 (.fad 2) 102),dq 7 (qk 104 .ld1 103),dq 8 (qi 105 (.bin .add) 104 1),dq 9 (qm 106 9),dq 10 (qk 107 .nck 106),dq 11 (qk 108 (.fad 3) 107),dq 12 (qk 109 .ld1 108),dq 13 (qm 110 109),dq 14 (qn 111 110 false .mv 11),dq 15 (qg 112 110 false (.bin .neq) [.tmp 111,ci 0]),dq 16 (qo 113 .pick [.tmp 110,cb true,.tmp 112]),dq 17 (qk 114 .nck 97),dq 18 (qk 115 (.fad 1) 114),⟨19,qs 1 115 100,true,[]⟩,dq 20 (qk 116 .nck 98),dq 21 (qk 117 (.fad 2) 116),⟨22,qs 1 117 105,true,[]⟩,dq 23 (qk 118 .nck 99),dq 24 (qk 119 (.fad 3) 118),⟨25,qs 1 119 113,true,[]⟩]) (.seq (.reg [qo 6 .mv [ci 0]]) (.ret))))))))))))⟩
theorem c133 : compF Tryz.prog Tryz.f133 = some ir133 := by kernel_rfl
def ir135 : FI :=
 ⟨27,[.tmp 4,.tmp 5,.tmp 6],.seq (.reg [qo 4 .mv [ci 0],qo 5 .mv [ci 0],qo 6 .mv [ci 0]]) (.seq (.reg [qm 11 0,qm 12 1,qc 13 166 [.tmp 11,.tmp 12],qm 10 13,qk 14 (.ext 0) 10,qk 15 (.ext 1) 10,qk 16 (.ext 2) 10,qm 7 14,qm 8 15,qm 9 16]) (.seq (.seq (.reg [qm 17 8,qi 18 (.bin .eql) 17 0]) (.cond (.tmp 18) (.seq (.reg [qm 19 0,qc 20 166 [.tmp 19,ci 0],qk 21 (.ext 0) 20,qk 22 (.ext 1) 20,qk 23 (.ext 2) 20,qm 4 21,qm 5 22,qm 6 23]) (.ret)) (.skip))) (.seq (.reg [qm 24 7,qm 25 8,qm 26 9,qm 4 24,qm 5 25,qm 6 26]) (.ret))))⟩
theorem c135 : compF Tryz.prog Tryz.f135 = some ir135 := by kernel_rfl
def ir149 : FI :=
 ⟨20,[.tmp 4],.seq (.reg [qo 4 .mv [ci 0]]) (.seq (.reg [qm 7 0,qc 8 183 [.tmp 7],qm 5 8]) (.seq (.reg [qm 9 1,qc 10 183 [.tmp 9],qm 6 10]) (.seq (.seq (.reg [qm 11 5]) (.cond (.tmp 11) (.seq (.seq (.reg [qm 12 6]) (.cond (.tmp 12) (.seq (.reg [qo 4 .mv [ci 0]]) (.ret)) (.skip))) (.seq (.reg [qo 4 .mv [ci (-1)]]) (.ret))) (.skip))) (.seq (.seq (.reg [qm 13 6]) (.cond (.tmp 13) (.seq (.reg [qo 4 .mv [ci 1]]) (.ret)) (.skip))) (.seq (.seq (.reg [qm 14 0,qm 15 1,q2 16 (.bin .lss) 14 15]) (.cond (.tmp 16) (.seq (.reg [qo 4 .mv [ci (-1)]]) (.ret)) (.skip))) (.seq (.seq (.reg [qm 17 0,qm 18 1,q2 19 (.bin .gtr) 17 18]) (.cond (.tmp 19) (.seq (.reg [qo 4 .mv [ci 1]]) (.ret)) (.skip))) (.seq (.reg [qo 4 .mv [ci 0]]) (.ret))))))))⟩
theorem c149 : compF Tryz.prog Tryz.f149 = some ir149 := by kernel_rfl
def ir151 : FI :=
 ⟨6,[.tmp 2],.seq (.reg [qo 2 .mv [cb false]]) (.seq (.reg [qm 3 0,qm 4 0,q2 5 (.bin .neq) 3 4,qm 2 5]) (.ret))⟩
theorem c151 : compF Tryz.prog Tryz.f151 = some ir151 := by kernel_rfl
def ir152 : FI :=
 ⟨12,[.tmp 2],.seq (.reg [qo 2 .mv [ci 0]]) (.seq (.block 0 (.seq (.reg [qm 4 0,⟨some 5,none,.fl (.binOp .gtr 190 (.tmp 4) (.const (.float .f64 0)) 190) 4⟩,qk 6 .not 5,qm 3 6]) (.cond (.tmp 3) (.seq (.reg [qo 2 .mv [ci 0]]) (.ret)) (.seq (.reg [qm 8 0,⟨some 9,none,.fl (.binOp .gtr 190 (.tmp 8) (.const (.float .f64 4787326403894837248)) 190) 4⟩,qm 7 9]) (.cond (.tmp 7) (.seq (.reg [qo 2 .mv [ci 1099511627776]]) (.ret)) (.skip)))))) (.seq (.reg [qm 10 0,⟨some 11,none,.fl (.convert 190 3 (.tmp 10)) 3⟩,qm 2 11]) (.ret)))⟩
theorem c152 : compF Tryz.prog Tryz.f152 = some ir152 := by kernel_rfl
def ir162 : FI :=
 ⟨11,[.tmp 4,.tmp 5],.seq (.reg [⟨some 4,none,.op .mv [.const (.string ⟨#[]⟩)]⟩,qo 5 .mv [cb false]]) (.seq (.reg [qm 6 0,qm 7 1,qc 8 193 [.tmp 6,.tmp 7],qk 9 (.ext 0) 8,qk 10 (.ext 1) 8,qm 4 9,qm 5 10]) (.ret))⟩
theorem c162 : compF Tryz.prog Tryz.f162 = some ir162 := by kernel_rfl
def ir163 : FI :=
 ⟨25,[.tmp 6,.tmp 7],.seq (.reg [qo 6 .mv [ci 0],qo 7 .mv [.const .nilIface]]) (.seq (.reg [qm 10 0,qm 11 1,qm 12 2,qc 13 194 [.tmp 10,.tmp 11,.tmp 12],qm 9 13,qk 14 (.ext 0) 9,qk 15 (.ext 1) 9,qm 8 14,qm 7 15]) (.seq (.seq (.reg [qm 16 7,qo 17 (.isn true) [.tmp 16,.const .nilIface]]) (.cond (.tmp 17) (.seq (.reg [qm 18 8,qm 19 0,qm 20 1,qm 21 2,qm 22 7,⟨some 23,none,.call 195 [.const (.string ⟨#[80,97,114,115,101,73,110,116]⟩),.tmp 19,.tmp 20,.tmp 21,.tmp 22]⟩,qm 6 18,qm 7 23]) (.ret)) (.skip))) (.seq (.reg [qm 24 8,qm 6 24,qo 7 .mv [.const .nilIface]]) (.ret))))⟩
theorem c163 : compF Tryz.prog Tryz.f163 = some ir163 := by kernel_rfl
def ir171 : FI :=
 ⟨33,[.tmp 4,.tmp 5],.seq (.reg [qo 4 .mv [ci 0],qo 5 .mv [ci 0]]) (.seq (.reg [qm 9 0,qm 10 1,qc 11 168 [.tmp 9,.tmp 10],qm 8 11,qk 12 (.ext 0) 8,qk 13 (.ext 1) 8,qm 6 12,qm 7 13]) (.seq (.seq (.reg [qm 14 7,qi 15 (.bin .eql) 14 0,qm 16 15,qn 17 16 true .mv 0,qn 18 16 true .mv 1,qg 19 16 true (.bin .rem) [.tmp 17,.tmp 18],qg 20 16 true (.bin .neq) [.tmp 19,ci 0],qo 21 .pick [.tmp 16,.tmp 20,cb false],qm 22 21,qn 23 22 true .mv 0,qg 24 22 true (.bin .lss) [.tmp 23,ci 0],qn 25 22 true .mv 1,qg 26 22 true (.bin .lss) [.tmp 25,ci 0],qg 27 22 true (.bbin .neq) [.tmp 24,.tmp 26],qo 28 .pick [.tmp 22,.tmp 27,cb false]]) (.cond (.tmp 28) (.reg [qm 29 6,qi 30 (.bin .sub) 29 1,qm 6 30]) (.skip))) (.seq (.reg [qm 31 6,qm 32 7,qm 4 31,qm 5 32]) (.ret))))⟩
theorem c171 : compF Tryz.prog Tryz.f171 = some ir171 := by kernel_rfl
def ir6 : FI :=
 ⟨44,[.tmp 2,.tmp 3],.seq (.reg [qk 1 (.box 27) 0,qo 2 .mv [.const (.pointer none)],qo 3 .mv [ci 0]]) (.seq (.seq (.reg [qk 5 (.ldn 20) 1,qc 6 18 [.tmp 5],qk 7 .not 6]) (.cond (.tmp 7) (.seq (.reg [qo 2 .mv [.const (.pointer none)],qo 3 .mv [ci 1]]) (.ret)) (.skip))) (.seq (.drt (.one (dq 0 (qk 8 (.ldn 20) 1)) (.one (dq 3 (qk 11 (.fad 15) 1)) (.one (dq 4 (qk 12 .ld1 11)) (.one (dq 7 (qk 15 (.ldn 20) 1)) (.one (dq 11 (qk 19 (.fad 10) 1)) (.one (dq 12 (qk 20 .ld1 19)) (.one ⟨1,qc 9 19 [],true,[qk 8 (.ldn 20) 1,qk 12 .ld1 11,qk 15 (.ldn 20) 1,qk 20 .ld1 19]⟩ (.one (dq 2 (qk 10 (.ifc 53) 9)) (.one ⟨5,qc 13 20 [.tmp 12],true,[qk 8 (.ldn 20) 1,qk 15 (.ldn 20) 1,qk 20 .ld1 19]⟩ (.one (dq 6 (qk 14 (.ifc 55) 13)) (.one ⟨8,qc 16 21 [.tmp 15],true,[qk 8 (.ldn 20) 1,qk 20 .ld1 19]⟩ (.one (dq 9 (qk 17 (.ifc 57) 16)) (.alt (.one ⟨10,qo 18 (.bsl 20 1 3 #[.nilIface,.nilIface,.nilIface] [0,1,2]) [.tmp 10,.tmp 14,.tmp 17],true,[qk 8 (.ldn 20) 1,qk 20 .ld1 19]⟩ (.one ⟨13,qc 21 22 [],true,[qk 8 (.ldn 20) 1,qk 20 .ld1 19]⟩ (.one ⟨14,⟨some 22,none,.op (.bld #[(.int .i64 0),(.int .i64 0),(.int .i64 0),(.int .i64 0),(.int .i64 0),(.int .i64 0),(.int .i64 0),(.int .i64 0),(.int .i64 0),(.int .i64 0),(.int .i64 0),(.int .i64 0),(.int .i64 0),(.int .i64 0),(.int .i64 0),(.int .i64 0),(.int .i64 0),(.int .i64 0),(.int .i64 0),(.int .i64 0),(.int .i64 0),(.slice none 0 0),(.slice none 0 0),(.int .i64 0),(.int .i64 0),(.int .i64 0),(.int .i64 0),(.bool false),(.int .i64 0),(.int .i64 0),(.bool false),(.int .i64 0),(.int .i64 0),(.slice none 0 0)] [(0,20),(20,1),(21,1),(22,1),(23,6),(29,1),(30,1),(31,1),(32,1),(33,1)] [0,2,5,7]) [.tmp 8,.tmp 18,.tmp 20,.tmp 21]⟩,false,[]⟩ (.one ⟨15,qk 23 (.box 64) 22,true,[]⟩ (.one (dq 16 (qm 4 23)) (.nil)))))) (.one ⟨13,qc 21 22 [],true,[qk 8 (.ldn 20) 1,qk 20 .ld1 19]⟩ (.one ⟨10,qo 18 (.bsl 20 1 3 #[.nilIface,.nilIface,.nilIface] [0,1,2]) [.tmp 10,.tmp 14,.tmp 17],true,[qk 8 (.ldn 20) 1,qk 20 .ld1 19]⟩ (.one ⟨14,⟨some 22,none,.op (.bld #[(.int .i64 0),(.int .i64 0),(.int .i64 0),(.int .i64 0),(.int .i64 0),(.int .i64 0),(.int .i64 0),(.int .i64 0),(.int .i64 0),(.int .i64 0),(.int .i64 0),(.int .i64 0),(.int .i64 0),(.int .i64 0),(.int .i64 0),(.int .i64 0),(.int .i64 0),(.int .i64 0),(.int .i64 0),(.int .i64 0),(.int .i64 0),(.slice none 0 0),(.slice none 0 0),(.int .i64 0),(.int .i64 0),(.int .i64 0),(.int .i64 0),(.bool false),(.int .i64 0),(.int .i64 0),(.bool false),(.int .i64 0),(.int .i64 0),(.slice none 0 0)] [(0,20),(20,1),(21,1),(22,1),(23,6),(29,1),(30,1),(31,1),(32,1),(33,1)] [0,2,5,7]) [.tmp 8,.tmp 18,.tmp 20,.tmp 21]⟩,false,[]⟩ (.one ⟨15,qk 23 (.box 64) 22,true,[]⟩ (.one (dq 16 (qm 4 23)) (.nil)))))))))))))))))))) (.seq (.drw [dq 0 (qm 24 4),dq 2 (qk 26 (.fad 10) 1),dq 3 (qk 27 .ld1 26),⟨1,qc 25 23 [.tmp 24],true,[qk 27 .ld1 26]⟩,⟨4,qc 28 24 [.tmp 25,.tmp 27,ci 0],true,[]⟩]) (.seq (.reg [qm 29 4,qc 30 23 [.tmp 29],qc 31 25 [.tmp 30,ci 0,ci 0]]) (.seq (.drw [dq 0 (qm 32 4),dq 1 (qk 33 (.ldn 20) 1),dq 2 (qk 34 (.fad 10) 1),dq 3 (qk 35 .ld1 34),dq 4 (qk 36 (.ldn 20) 1),dq 5 (qk 37 (.fad 10) 1),dq 6 (qk 38 .ld1 37),⟨7,qc 39 27 [.tmp 36,.tmp 38,ci 0],true,[qk 33 (.ldn 20) 1,qk 35 .ld1 34]⟩,⟨8,qc 40 26 [.tmp 33,.tmp 35,.tmp 39],true,[]⟩,dq 9 (qk 41 .nck 32),dq 10 (qk 42 (.fad 30) 41),⟨11,qs 1 42 40,true,[]⟩]) (.seq (.reg [qm 43 4,qm 2 43,qo 3 .mv [ci 0]]) (.ret)))))))⟩
theorem c6 : compF Tryz.prog Tryz.f6 = some ir6 := by kernel_rfl
def ir16 : FI :=
 ⟨10,[.tmp 2],.seq (.reg [qo 2 .mv [.const (.slice none 0 0)]]) (.seq (.seq (.reg [qm 3 0,qo 4 (.isn false) [.tmp 3,.const (.pointer none)]]) (.cond (.tmp 4) (.seq (.reg [qo 2 .mv [.const (.slice none 0 0)]]) (.ret)) (.skip))) (.seq (.reg [qm 5 0,qk 6 .nck 5,qk 7 (.fad 22) 6,qk 8 .ld1 7,qc 9 42 [.tmp 8],qm 2 9]) (.ret)))⟩
theorem c16 : compF Tryz.prog Tryz.f16 = some ir16 := by kernel_rfl
def ir18 : FI :=
 ⟨6,[.tmp 2],.seq (.reg [qk 1 (.box 27) 0,qo 2 .mv [cb false]]) (.seq (.reg [qk 3 (.ldn 20) 1,qc 4 43 [.tmp 3],⟨some 5,none,.op (.bin .eql) [.tmp 4,.const (.string ⟨#[]⟩)]⟩,qm 2 5]) (.ret))⟩
theorem c18 : compF Tryz.prog Tryz.f18 = some ir18 := by kernel_rfl
def ir21 : FI :=
 ⟨18,[.tmp 2],.seq (.reg [qk 1 (.box 27) 0,qo 2 .mv [.const (.pointer none)]]) (.seq (.seq (.reg [qk 3 (.ldn 20) 1,qc 4 18 [.tmp 3],qk 5 .not 4]) (.cond (.tmp 5) (.seq (.reg [qo 2 .mv [.const (.pointer none)]]) (.ret)) (.skip))) (.seq (.drt (.one (dq 0 (qk 6 (.ldn 20) 1)) (.one (dq 1 (qk 7 (.ldn 20) 1)) (.one (dq 4 (qk 10 (.fad 12) 1)) (.one (dq 5 (qk 11 .ld1 10)) (.one ⟨2,qc 8 44 [.tmp 7],true,[qk 6 (.ldn 20) 1,qk 11 .ld1 10]⟩ (.one (dq 3 (qk 9 (.ifc 88) 8)) (.one ⟨6,qc 12 45 [.tmp 11],true,[qk 6 (.ldn 20) 1]⟩ (.one (dq 7 (qk 13 (.ifc 90) 12)) (.alt (.one ⟨8,q2 14 (.bsl 20 1 2 #[.nilIface,.nilIface] [0,1]) 9 13,true,[qk 6 (.ldn 20) 1]⟩ (.one ⟨9,qc 15 46 [],true,[qk 6 (.ldn 20) 1]⟩ (.one ⟨10,⟨some 16,none,.op (.bld #[(.int .i64 0),(.int .i64 0),(.int .i64 0),(.int .i64 0),(.int .i64 0),(.int .i64 0),(.int .i64 0),(.int .i64 0),(.int .i64 0),(.int .i64 0),(.int .i64 0),(.int .i64 0),(.int .i64 0),(.int .i64 0),(.int .i64 0),(.int .i64 0),(.int .i64 0),(.int .i64 0),(.int .i64 0),(.int .i64 0),(.slice none 0 0),(.int .i64 0),(.int .i64 0),(.int .i64 0)] [(0,20),(20,1),(21,2),(23,1)] [0,1,2]) [.tmp 6,.tmp 14,.tmp 15]⟩,false,[]⟩ (.one ⟨11,qk 17 (.box 96) 16,true,[]⟩ (.one (dq 12 (qm 2 17)) (.nil)))))) (.one ⟨9,qc 15 46 [],true,[qk 6 (.ldn 20) 1]⟩ (.one ⟨8,q2 14 (.bsl 20 1 2 #[.nilIface,.nilIface] [0,1]) 9 13,true,[qk 6 (.ldn 20) 1]⟩ (.one ⟨10,⟨some 16,none,.op (.bld #[(.int .i64 0),(.int .i64 0),(.int .i64 0),(.int .i64 0),(.int .i64 0),(.int .i64 0),(.int .i64 0),(.int .i64 0),(.int .i64 0),(.int .i64 0),(.int .i64 0),(.int .i64 0),(.int .i64 0),(.int .i64 0),(.int .i64 0),(.int .i64 0),(.int .i64 0),(.int .i64 0),(.int .i64 0),(.int .i64 0),(.slice none 0 0),(.int .i64 0),(.int .i64 0),(.int .i64 0)] [(0,20),(20,1),(21,2),(23,1)] [0,1,2]) [.tmp 6,.tmp 14,.tmp 15]⟩,false,[]⟩ (.one ⟨11,qk 17 (.box 96) 16,true,[]⟩ (.one (dq 12 (qm 2 17)) (.nil)))))))))))))))) (.ret)))⟩
theorem c21 : compF Tryz.prog Tryz.f21 = some ir21 := by kernel_rfl
def ir28 : FI :=
 ⟨67,[.tmp 2],.seq (.reg [qk 1 (.box 32) 0,qo 2 .mv [cb false]]) (.seq (.seq (.reg [qk 3 (.ldn 3) 1,qk 4 (.ifc 32) 3,qc 5 53 [.tmp 4],qk 6 (.fld 0 1 false) 5,qi 7 (.bin .neq) 6 5,qm 8 7,qn 9 8 true (.fad 2) 1,qn 10 8 true .ld1 9,⟨some 11,some (8,true),.op (.bin .neq) [.tmp 10,.const (.string ⟨#[]⟩)]⟩,qo 12 .pick [.tmp 8,.tmp 11,cb false]]) (.cond (.tmp 12) (.seq (.reg [qo 2 .mv [cb false]]) (.ret)) (.skip))) (.seq (.seq (.reg [qk 13 (.fad 0) 1,qk 14 .ld1 13]) (.block 0 (.seq (.reg [qi 16 (.bin .eql) 14 1,qm 15 16]) (.cond (.tmp 15) (.seq (.reg [qk 17 (.fad 1) 1,qk 18 .ld1 17,qi 19 (.bin .geq) 18 1,qm 20 19,qn 21 20 true (.fad 1) 1,qn 22 20 true .ld1 21,qg 23 20 true (.bin .leq) [.tmp 22,ci 200],qo 24 .pick [.tmp 20,.tmp 23,cb false],qm 2 24]) (.ret)) (.seq (.reg [qi 26 (.bin .eql) 14 2,qm 25 26]) (.cond (.tmp 25) (.seq (.reg [qk 27 (.fad 1) 1,qk 28 .ld1 27,qi 29 (.bin .geq) 28 1,qm 30 29,qn 31 30 true (.fad 1) 1,qn 32 30 true .ld1 31,qg 33 30 true (.bin .leq) [.tmp 32,ci 100],qo 34 .pick [.tmp 30,.tmp 33,cb false],qm 2 34]) (.ret)) (.seq (.seq (.reg [qi 36 (.bin .eql) 14 3,qm 35 36]) (.cond (.tmp 35) (.skip) (.reg [qi 37 (.bin .eql) 14 4,qm 35 37]))) (.cond (.tmp 35) (.seq (.reg [qk 38 (.fad 1) 1,qk 39 .ld1 38,qi 40 (.bin .geq) 39 0,qm 41 40,qn 42 41 true (.fad 1) 1,qn 43 41 true .ld1 42,qg 44 41 true (.bin .leq) [.tmp 43,ci 999],qo 45 .pick [.tmp 41,.tmp 44,cb false],qm 2 45]) (.ret)) (.seq (.reg [qi 47 (.bin .eql) 14 5,qm 46 47]) (.cond (.tmp 46) (.seq (.reg [qk 48 (.fad 1) 1,qk 49 .ld1 48,qi 50 (.bin .eql) 49 0,qm 51 50,qn 52 51 true (.fad 2) 1,qn 53 51 true .ld1 52,qn 54 51 true .lens 53,qg 55 51 true (.bin .leq) [.tmp 54,ci 200],qo 56 .pick [.tmp 51,.tmp 55,cb false],qm 2 56]) (.ret)) (.seq (.reg [qi 58 (.bin .eql) 14 6,qm 57 58]) (.cond (.tmp 57) (.seq (.reg [qk 59 (.fad 1) 1,qk 60 .ld1 59,qi 61 (.bin .geq) 60 1,qm 62 61,qn 63 62 true (.fad 1) 1,qn 64 62 true .ld1 63,qg 65 62 true (.bin .leq) [.tmp 64,ci 50],qo 66 .pick [.tmp 62,.tmp 65,cb false],qm 2 66]) (.ret)) (.skip))))))))))))) (.seq (.reg [qo 2 .mv [cb false]]) (.ret))))⟩
theorem c28 : compF Tryz.prog Tryz.f28 = some ir28 := by kernel_rfl
def ir30 : FI :=
 ⟨34,[.tmp 4],.seq (.reg [qo 4 .mv [ci 0]]) (.seq (.reg [qm 6 0,qc 7 56 [.tmp 6],qm 5 7]) (.seq (.seq (.reg [qm 8 1,qm 9 5,qk 10 .len 9,q2 11 (.bin .geq) 8 10]) (.cond (.tmp 11) (.seq (.reg [qo 4 .mv [ci 7]]) (.ret)) (.skip))) (.seq (.reg [qm 12 0,qm 13 5,qm 14 1,q2 15 (.iad 1) 13 14,qk 16 .ld1 15,qc 17 57 [.tmp 12,.tmp 16,ci 3]]) (.seq (.drw [dq 0 (qm 18 0),dq 2 (qm 20 0),dq 3 (qk 21 .nck 20),dq 4 (qk 22 (.fad 22) 21),dq 5 (qk 23 .ld1 22),dq 6 (qm 24 5),dq 7 (qm 25 1),dq 8 (q2 26 (.iad 1) 24 25),dq 9 (qk 27 .ld1 26),dq 10 (q2 28 (.iad 4) 23 27),dq 11 (qk 29 (.fad 3) 28),dq 12 (qk 30 .ld1 29),⟨1,qc 19 23 [.tmp 18],true,[qk 23 .ld1 22,qk 27 .ld1 26,qk 30 .ld1 29]⟩,⟨13,qc 31 58 [.tmp 19,.tmp 30],true,[]⟩]) (.seq (.reg [qm 32 0,qc 33 55 [.tmp 32]]) (.seq (.reg [qo 4 .mv [ci 0]]) (.ret)))))))⟩
theorem c30 : compF Tryz.prog Tryz.f30 = some ir30 := by kernel_rfl
def ir33 : FI :=
 ⟨201,[],.seq (.reg [qm 6 0,qk 7 .nck 6,qk 8 (.fad 20) 7,qk 9 .ld1 8,qi 10 (.bin .add) 9 1,qk 11 .nck 6,qk 12 (.fad 20) 11,qs 1 12 10]) (.seq (.seq (.drw [dq 0 (qm 13 0),dq 2 (qm 15 0),dq 3 (qk 16 .nck 15),dq 4 (qk 17 (.fad 20) 16),dq 5 (qk 18 .ld1 17),dq 6 (qm 19 0),dq 7 (qk 20 .nck 19),dq 8 (qk 21 (.fad 0) 20),dq 9 (qk 22 (.fad 16) 21),dq 10 (qk 23 .ld1 22),dq 13 (qo 26 .mv [ci 0]),⟨1,qc 14 35 [.tmp 13],true,[qk 18 .ld1 17,qk 23 .ld1 22]⟩,⟨11,qc 24 63 [.tmp 14,.tmp 18,.tmp 23],true,[]⟩,dq 12 (qk 25 .len 24)]) (.block 0 (.loop (.seq (.reg [q2 27 (.bin .lss) 26 25]) (.seq (.cond (.tmp 27) (.skip) (.exit 0)) (.seq (.block 1 (.seq (.reg [q2 28 (.iad 1) 24 26,qk 29 .ld1 28,qm 3 29]) (.reg [qm 30 0,qm 31 3,qc 32 57 [.tmp 30,.tmp 31,ci 4]]))) (.reg [qi 33 (.bin .add) 26 1,qm 26 33]))))))) (.seq (.drw [dq 0 (qm 34 0),dq 2 (qm 36 0),dq 3 (qk 37 .nck 36),dq 4 (qk 38 (.fad 20) 37),dq 5 (qk 39 .ld1 38),dq 6 (qm 40 0),dq 7 (qk 41 .nck 40),dq 8 (qk 42 (.fad 0) 41),dq 9 (qk 43 (.fad 17) 42),dq 10 (qk 44 .ld1 43),⟨1,qc 35 23 [.tmp 34],true,[qk 39 .ld1 38,qk 44 .ld1 43]⟩,⟨11,qc 45 25 [.tmp 35,.tmp 39,.tmp 44],true,[]⟩]) (.seq (.seq (.reg [qm 46 0,qk 47 .nck 46,qk 48 (.fad 32) 47,qk 49 .ld1 48,qi 50 (.bin .gtr) 49 0]) (.cond (.tmp 50) (.reg [qm 51 0,qk 52 .nck 51,qk 53 (.fad 32) 52,qk 54 .ld1 53,qi 55 (.bin .sub) 54 1,qk 56 .nck 51,qk 57 (.fad 32) 56,qs 1 57 55]) (.drw [dq 0 (qm 58 0),dq 2 (qm 60 0),dq 3 (qk 61 .nck 60),dq 4 (qk 62 (.fad 20) 61),dq 5 (qk 63 .ld1 62),dq 6 (qm 64 0),⟨1,qc 59 37 [.tmp 58],true,[qk 63 .ld1 62]⟩,⟨7,qc 65 65 [.tmp 64],true,[qk 63 .ld1 62]⟩,⟨8,qc 66 64 [.tmp 59,.tmp 63,.tmp 65],true,[]⟩]))) (.seq (.reg [qm 67 0,qc 68 23 [.tmp 67],qc 69 66 [.tmp 68],qk 70 .len 69,qm 4 70]) (.seq (.drw [dq 0 (qm 72 0),dq 1 (qm 73 0),dq 3 (qm 75 0),dq 4 (qk 76 .nck 75),dq 5 (qk 77 (.fad 20) 76),dq 6 (qk 78 .ld1 77),dq 7 (qm 79 4),⟨2,qc 74 37 [.tmp 73],true,[qk 78 .ld1 77]⟩,⟨8,qc 80 67 [.tmp 74,.tmp 78,.tmp 79],true,[]⟩,dq 9 (qm 71 80),dq 10 (qk 81 (.ext 0) 71),dq 11 (qk 82 (.ext 1) 71),dq 12 (qk 83 .nck 72),dq 13 (qk 84 (.fad 23) 83),⟨14,qs 6 84 81,true,[]⟩]) (.seq (.drw [dq 0 (qm 85 0),dq 1 (qm 86 0),dq 2 (qk 87 .nck 86),dq 3 (qk 88 (.fad 0) 87),dq 4 (qk 89 (.ldn 20) 88),dq 5 (qm 90 4),dq 6 (qm 91 0),dq 7 (qk 92 .nck 91),dq 8 (qk 93 (.fad 23) 92),dq 9 (qk 94 (.fad 5) 93),dq 10 (qk 95 .ld1 94),⟨11,qc 96 26 [.tmp 89,.tmp 90,.tmp 95],true,[]⟩,dq 12 (qk 97 .nck 85),dq 13 (qk 98 (.fad 30) 97),⟨14,qs 1 98 96,true,[]⟩]) (.seq (.drw [dq 0 (qm 99 0),dq 1 (qm 100 0),dq 2 (qk 101 .nck 100),dq 3 (qk 102 (.fad 31) 101),dq 4 (qk 103 (.ldn 1) 102),dq 5 (qm 104 0),dq 6 (qk 105 .nck 104),dq 7 (qk 106 (.fad 20) 105),dq 8 (qk 107 .ld1 106),dq 9 (qm 108 0),dq 10 (qk 109 .nck 108),dq 11 (qk 110 (.fad 30) 109),dq 12 (qk 111 .ld1 110),⟨13,qc 112 68 [.tmp 103,.tmp 107,.tmp 111],true,[]⟩,dq 14 (qk 113 .nck 99),dq 15 (qk 114 (.fad 31) 113),⟨16,qs 1 114 112,true,[]⟩]) (.seq (.drw [dq 0 (qm 115 0),dq 1 (qm 116 0),dq 2 (qk 117 .nck 116),dq 3 (qk 118 (.fad 0) 117),dq 4 (qk 119 (.ldn 20) 118),dq 5 (qm 120 0),dq 6 (qk 121 .nck 120),dq 7 (qk 122 (.fad 31) 121),dq 8 (qk 123 (.ldn 1) 122),dq 9 (qm 124 0),dq 10 (qk 125 .nck 124),dq 11 (qk 126 (.fad 20) 125),dq 12 (qk 127 .ld1 126),dq 13 (qm 128 0),dq 14 (qk 129 .nck 128),dq 15 (qk 130 (.fad 23) 129),dq 16 (qk 131 (.fad 3) 130),dq 17 (qk 132 .ld1 131),dq 18 (qm 133 0),dq 21 (qm 136 0),dq 22 (qk 137 .nck 136),dq 23 (qk 138 (.fad 23) 137),dq 24 (qk 139 (.fad 1) 138),dq 25 (qk 140 .ld1 139),dq 26 (qm 141 0),dq 30 (qm 145 0),⟨19,qc 134 23 [.tmp 133],true,[qk 119 (.ldn 20) 118,qk 123 (.ldn 1) 122,qk 127 .ld1 126,qk 132 .ld1 131,qk 140 .ld1 139]⟩,⟨20,qc 135 47 [.tmp 134],true,[qk 119 (.ldn 20) 118,qk 123 (.ldn 1) 122,qk 127 .ld1 126,qk 132 .ld1 131,qk 140 .ld1 139]⟩,⟨27,qc 142 35 [.tmp 141],true,[qk 119 (.ldn 20) 118,qk 123 (.ldn 1) 122,qk 127 .ld1 126,qk 132 .ld1 131,qk 140 .ld1 139]⟩,⟨28,qc 143 36 [.tmp 142],true,[qk 119 (.ldn 20) 118,qk 123 (.ldn 1) 122,qk 127 .ld1 126,qk 132 .ld1 131,qk 140 .ld1 139]⟩,dq 29 (qk 144 .len 143),⟨31,qc 146 56 [.tmp 145],true,[qk 119 (.ldn 20) 118,qk 123 (.ldn 1) 122,qk 127 .ld1 126,qk 132 .ld1 131,qk 140 .ld1 139]⟩,dq 32 (qk 147 .len 146),⟨33,qc 148 69 [.tmp 119,.tmp 123,.tmp 127,.tmp 132,.tmp 135,.tmp 140,.tmp 144,.tmp 147],true,[]⟩,dq 34 (qk 149 .nck 115),dq 35 (qk 150 (.fad 29) 149),⟨36,qs 1 150 148,true,[]⟩]) (.seq (.seq (.drw [dq 0 (qm 151 0),dq 1 (qk 152 .nck 151),dq 2 (qk 153 (.fad 29) 152),dq 3 (qk 154 .ld1 153),dq 4 (qm 155 0),dq 5 (qk 156 .nck 155),dq 6 (qk 157 (.fad 0) 156),dq 7 (qk 158 (.ldn 20) 157),⟨8,qc 159 70 [.tmp 158],true,[qk 154 .ld1 153]⟩,dq 9 (q2 160 (.mm false) 154 159),dq 10 (qm 5 160)]) (.seq (.reg [qm 161 5,qm 162 0,qc 163 23 [.tmp 162],qc 164 47 [.tmp 163],q2 165 (.bin .neq) 161 164]) (.cond (.tmp 165) (.drw [dq 0 (qm 166 0),dq 2 (qm 168 5),dq 3 (qm 169 0),dq 4 (qk 170 .nck 169),dq 5 (qk 171 (.fad 20) 170),dq 6 (qk 172 .ld1 171),⟨1,qc 167 23 [.tmp 166],true,[qk 172 .ld1 171]⟩,⟨7,qc 173 24 [.tmp 167,.tmp 168,.tmp 172],true,[]⟩]) (.skip)))) (.seq (.reg [qm 174 0,qc 175 55 [.tmp 174]]) (.seq (.drw [dq 0 (qm 176 0),dq 1 (qm 177 0),dq 2 (qk 178 .nck 177),dq 3 (qk 179 (.fad 33) 178),dq 4 (qk 180 .ld1 179),dq 5 (qm 181 0),⟨6,qc 182 12 [.tmp 181],true,[qk 180 .ld1 179]⟩,⟨7,⟨some 183,none,.op (.bsl 39 15 1 #[(.int .i64 0),(.int .i64 0),(.bool false),(.bool false),(.slice none 0 0),(.int .i64 0),(.int .i64 0),(.int .i64 0),(.int .i64 0),(.int .i64 0),(.int .i64 0),(.int .i64 0),(.int .i64 0),(.int .i64 0),(.bool false)] [0]) [.tmp 182]⟩,true,[qk 180 .ld1 179]⟩,⟨8,q2 184 (.app 39 15 128) 180 183,true,[]⟩,dq 9 (qk 185 .nck 176),dq 10 (qk 186 (.fad 33) 185),⟨11,qs 1 186 184,true,[]⟩]) (.seq (.reg [qm 187 0,qk 188 .nck 187,qk 189 (.fad 33) 188,qk 190 .ld1 189,qk 191 .len 190,qi 192 (.bin .gtr) 191 1000]) (.cond (.tmp 192) (.reg [qm 193 0,qm 194 0,qk 195 .nck 194,qk 196 (.fad 33) 195,qk 197 .ld1 196,qi 198 (.slc 15 true false false) 197 1,qk 199 .nck 193,qk 200 (.fad 33) 199,qs 1 200 198]) (.skip))))))))))))))⟩
theorem c33 : compF Tryz.prog Tryz.f33 = some ir33 := by kernel_rfl
def ir35 : FI :=
 ⟨10,[.tmp 2],.seq (.reg [qo 2 .mv [.const (.pointer none)]]) (.seq (.reg [qm 3 0,qk 4 .nck 3,qk 5 (.fad 21) 4,qk 6 .ld1 5,qi 7 (.iad 1) 6 1,qk 8 .ld1 7,qk 9 (.tas 55 false .nilIface) 8,qm 2 9]) (.ret))⟩
theorem c35 : compF Tryz.prog Tryz.f35 = some ir35 := by kernel_rfl
def ir44 : FI :=
 ⟨22,[.tmp 2],.seq (.reg [qk 1 (.box 27) 0,qo 2 .mv [.const (.pointer none)]]) (.seq (.seq (.reg [qk 3 (.ldn 20) 1,qc 4 18 [.tmp 3],qk 5 .not 4]) (.cond (.tmp 5) (.seq (.reg [qo 2 .mv [.const (.pointer none)]]) (.ret)) (.skip))) (.seq (.drw [dq 0 (qk 6 (.ldn 20) 1),dq 1 (qk 7 (.fad 2) 1),dq 2 (qk 8 .ld1 7),dq 3 (qk 9 (.fad 4) 1),dq 4 (qk 10 .ld1 9),dq 7 (qk 13 (.fad 3) 1),dq 8 (qk 14 .ld1 13),dq 9 (qk 15 (.fad 4) 1),dq 10 (qk 16 .ld1 15),⟨5,qc 11 77 [.tmp 8,.tmp 10],true,[qk 6 (.ldn 20) 1,qk 14 .ld1 13,qk 16 .ld1 15]⟩,dq 6 (qk 12 (.ifc 130) 11),⟨11,qc 17 77 [.tmp 14,.tmp 16],true,[qk 6 (.ldn 20) 1]⟩,dq 12 (qk 18 (.ifc 130) 17),⟨13,⟨some 19,none,.op (.bld #[.nilIface,.nilIface] [(0,1),(1,1)] [0,1]) [.tmp 12,.tmp 18]⟩,false,[]⟩,⟨14,⟨some 20,none,.op (.bld #[(.int .i64 0),(.int .i64 0),(.int .i64 0),(.int .i64 0),(.int .i64 0),(.int .i64 0),(.int .i64 0),(.int .i64 0),(.int .i64 0),(.int .i64 0),(.int .i64 0),(.int .i64 0),(.int .i64 0),(.int .i64 0),(.int .i64 0),(.int .i64 0),(.int .i64 0),(.int .i64 0),(.int .i64 0),(.int .i64 0),.nilIface,.nilIface,(.bool false)] [(0,20),(20,2),(22,1)] [0,1]) [.tmp 6,.tmp 19]⟩,false,[]⟩,⟨15,qk 21 (.box 134) 20,true,[]⟩,dq 16 (qm 2 21)]) (.ret)))⟩
theorem c44 : compF Tryz.prog Tryz.f44 = some ir44 := by kernel_rfl
def ir45 : FI :=
 ⟨12,[.tmp 2],.seq (.reg [qo 2 .mv [.const (.pointer none)]]) (.seq (.seq (.reg [qm 3 0,qi 4 (.bin .lss) 3 0,qm 5 4,qn 6 5 false .mv 0,qg 7 5 false (.bin .gtr) [.tmp 6,ci 600],qo 8 .pick [.tmp 5,cb true,.tmp 7]]) (.cond (.tmp 8) (.seq (.reg [qo 2 .mv [.const (.pointer none)]]) (.ret)) (.skip))) (.seq (.reg [qm 9 0,⟨some 10,none,.op (.bld #[(.slice none 0 0),(.int .i64 0),(.int .i64 0)] [(0,1),(1,1),(2,1)] [1]) [.tmp 9]⟩,qk 11 (.box 136) 10,qm 2 11]) (.ret)))⟩
theorem c45 : compF Tryz.prog Tryz.f45 = some ir45 := by kernel_rfl
def ir61 : FI :=
 ⟨37,[.tmp 4],.seq (.reg [qk 3 (.box 27) 1,qo 4 .mv [ci 0]]) (.seq (.block 0 (.seq (.reg [qm 6 0,qo 7 (.isn false) [.tmp 6,.const (.pointer none)],qm 5 7]) (.cond (.tmp 5) (.seq (.reg [qo 4 .mv [ci 8]]) (.ret)) (.seq (.reg [qk 9 (.ldn 20) 3,qc 10 18 [.tmp 9],qk 11 .not 10,qm 8 11]) (.cond (.tmp 8) (.seq (.reg [qo 4 .mv [ci 1]]) (.ret)) (.skip)))))) (.seq (.drw [dq 0 (qm 12 0),dq 2 (qk 14 (.ldn 20) 3),⟨1,qc 13 71 [.tmp 12],true,[qk 14 (.ldn 20) 3]⟩,⟨3,qc 15 91 [.tmp 13,.tmp 14],true,[]⟩]) (.seq (.drw [dq 0 (qm 16 0),dq 2 (qk 18 (.fad 12) 3),dq 3 (qk 19 .ld1 18),⟨1,qc 17 92 [.tmp 16],true,[qk 19 .ld1 18]⟩,⟨4,qc 20 93 [.tmp 17,.tmp 19],true,[]⟩]) (.seq (.drw [dq 0 (qm 21 0),dq 1 (qm 22 0),dq 2 (qk 23 .nck 22),dq 3 (qk 24 (.fad 21) 23),dq 4 (qk 25 (.fad 1) 24),dq 5 (qk 26 .ld1 25),dq 6 (qk 27 (.ldn 20) 3),⟨7,qc 28 70 [.tmp 27],true,[qk 26 .ld1 25]⟩,dq 8 (q2 29 (.mm false) 26 28),dq 9 (qk 30 .nck 21),dq 10 (qk 31 (.fad 21) 30),dq 11 (qk 32 (.fad 1) 31),⟨12,qs 1 32 29,true,[]⟩]) (.seq (.reg [qm 33 0,qk 34 (.ldn 20) 3,qk 35 .nck 33,qk 36 (.fad 0) 35,qs 20 36 34]) (.seq (.reg [qo 4 .mv [ci 0]]) (.ret)))))))⟩
theorem c61 : compF Tryz.prog Tryz.f61 = some ir61 := by kernel_rfl
def ir62 : FI :=
 ⟨19,[.tmp 4],.seq (.reg [qo 4 .mv [ci 0]]) (.seq (.block 0 (.seq (.reg [qm 6 0,qo 7 (.isn false) [.tmp 6,.const (.pointer none)],qm 5 7]) (.cond (.tmp 5) (.seq (.reg [qo 4 .mv [ci 8]]) (.ret)) (.seq (.reg [qm 9 1,qi 10 (.bin .lss) 9 0,qm 11 10,qn 12 11 false .mv 1,qg 13 11 false (.bin .gtr) [.tmp 12,ci 200],qo 14 .pick [.tmp 11,cb true,.tmp 13],qm 8 14]) (.cond (.tmp 8) (.seq (.reg [qo 4 .mv [ci 1]]) (.ret)) (.skip)))))) (.seq (.reg [qm 15 0,qm 16 1,qk 17 .nck 15,qk 18 (.fad 1) 17,qs 1 18 16]) (.seq (.reg [qo 4 .mv [ci 0]]) (.ret))))⟩
theorem c62 : compF Tryz.prog Tryz.f62 = some ir62 := by kernel_rfl
def ir64 : FI :=
 ⟨14,[.tmp 6],.seq (.reg [qo 6 .mv [ci 0]]) (.seq (.seq (.reg [qm 7 0,qo 8 (.isn false) [.tmp 7,.const (.pointer none)]]) (.cond (.tmp 8) (.seq (.reg [qo 6 .mv [ci 8]]) (.ret)) (.skip))) (.seq (.reg [qm 9 0,qc 10 71 [.tmp 9],qm 11 1,qm 12 2,qc 13 94 [.tmp 10,.tmp 11,.tmp 12],qm 6 13]) (.ret)))⟩
theorem c64 : compF Tryz.prog Tryz.f64 = some ir64 := by kernel_rfl
def ir69 : FI :=
 ⟨35,[.tmp 16],.seq (.reg [qk 8 (.box 27) 0,qk 9 (.box 61) 1,qo 16 .mv [ci 0]]) (.seq (.block 0 (.seq (.reg [qm 18 3,qi 19 (.bin .gtr) 18 0,qm 17 19]) (.cond (.tmp 17) (.seq (.reg [qm 20 3,qm 16 20]) (.ret)) (.seq (.seq (.reg [qm 22 4,qi 23 (.bin .eql) 22 0,qm 24 23,qn 25 24 true .mv 6,qg 26 24 true (.bin .eql) [.tmp 25,ci 0],qo 27 .pick [.tmp 24,.tmp 26,cb false],qm 21 27]) (.cond (.tmp 21) (.skip) (.reg [qk 28 (.ldn 20) 8,qk 29 (.ldn 1) 9,qm 30 2,qm 31 5,qm 32 6,qm 33 7,qc 34 108 [.tmp 28,.tmp 29,.tmp 30,.tmp 31,.tmp 32,.tmp 33],qm 21 34]))) (.cond (.tmp 21) (.seq (.reg [qo 16 .mv [ci 0]]) (.ret)) (.skip)))))) (.seq (.reg [qo 16 .mv [ci 1]]) (.ret)))⟩
theorem c69 : compF Tryz.prog Tryz.f69 = some ir69 := by kernel_rfl
def ir70 : FI :=
 ⟨8,[.tmp 2],.seq (.reg [qk 1 (.box 27) 0,qo 2 .mv [ci 0]]) (.seq (.seq (.reg [qk 3 (.fad 9) 1,qk 4 .ld1 3,qi 5 (.bin .eql) 4 0]) (.cond (.tmp 5) (.seq (.reg [qo 2 .mv [ci 100]]) (.ret)) (.skip))) (.seq (.reg [qk 6 (.fad 9) 1,qk 7 .ld1 6,qm 2 7]) (.ret)))⟩
theorem c70 : compF Tryz.prog Tryz.f70 = some ir70 := by kernel_rfl
def ir71 : FI :=
 ⟨16,[.tmp 2],.seq (.reg [qo 2 .mv [.const (.pointer none)]]) (.seq (.reg [qm 6 0,qk 7 .nck 6,qk 8 (.fad 20) 7,qk 9 .ld1 8,qi 10 (.iad 1) 9 0,qk 11 .ld1 10,⟨some 12,none,.op (.tas 88 true (.pointer none)) [.tmp 11]⟩,qm 5 12,qk 13 (.ext 0) 5,qk 14 (.ext 1) 5,qm 3 13,qm 4 14]) (.seq (.reg [qm 15 3,qm 2 15]) (.ret)))⟩
theorem c71 : compF Tryz.prog Tryz.f71 = some ir71 := by kernel_rfl
def ir75 : FI :=
 ⟨2,[.tmp 0],.seq (.reg [qo 0 .mv [.const (.slice none 0 0)]]) (.seq (.reg [⟨some 1,none,.op (.bsl 9 1 20 #[(.string ⟨#[]⟩),(.string ⟨#[]⟩),(.string ⟨#[]⟩),(.string ⟨#[]⟩),(.string ⟨#[]⟩),(.string ⟨#[]⟩),(.string ⟨#[]⟩),(.string ⟨#[]⟩),(.string ⟨#[]⟩),(.string ⟨#[]⟩),(.string ⟨#[]⟩),(.string ⟨#[]⟩),(.string ⟨#[]⟩),(.string ⟨#[]⟩),(.string ⟨#[]⟩),(.string ⟨#[]⟩),(.string ⟨#[]⟩),(.string ⟨#[]⟩),(.string ⟨#[]⟩),(.string ⟨#[]⟩)] [0,1,2,3,4,5,6,7,8,9,10,11,12,13,14,15,16,17,18,19]) [.const (.string ⟨#[116,97,114,103,101,116]⟩),.const (.string ⟨#[117,116,105,108]⟩),.const (.string ⟨#[115,116,97,98,108,101]⟩),.const (.string ⟨#[112,97,110,105,99]⟩),.const (.string ⟨#[103,114,97,105,110]⟩),.const (.string ⟨#[116,104,114,101,115,104,111,108,100]⟩),.const (.string ⟨#[117,112]⟩),.const (.string ⟨#[100,111,119,110]⟩),.const (.string ⟨#[109,105,110]⟩),.const (.string ⟨#[109,97,120]⟩),.const (.string ⟨#[105,110,105,116,105,97,108]⟩),.const (.string ⟨#[103,114,97,99,101]⟩),.const (.string ⟨#[100,101,108,97,121]⟩),.const (.string ⟨#[98,117,114,115,116]⟩),.const (.string ⟨#[108,105,109,105,116]⟩),.const (.string ⟨#[113,117,101,117,101]⟩),.const (.string ⟨#[116,105,109,101,111,117,116]⟩),.const (.string ⟨#[114,101,97,100,121]⟩),.const (.string ⟨#[115,117,98,115,101,116]⟩),.const (.string ⟨#[115,97,109,112,108,101]⟩)]⟩,qm 0 1]) (.ret))⟩
theorem c75 : compF Tryz.prog Tryz.f75 = some ir75 := by kernel_rfl
def ir81 : FI :=
 ⟨22,[.tmp 4],.seq (.reg [qo 4 .mv [ci 0]]) (.seq (.seq (.reg [qm 7 0,qc 8 23 [.tmp 7],qc 9 34 [.tmp 8],qk 10 .len 9,qo 11 .mv [ci 0]]) (.block 0 (.loop (.seq (.reg [q2 12 (.bin .lss) 11 10]) (.seq (.cond (.tmp 12) (.skip) (.exit 0)) (.seq (.block 1 (.seq (.reg [q2 13 (.iad 4) 9 11,qk 14 (.ldn 4) 13,⟨some 6,none,.op (.new 81 (.agg #[(.int .i64 0),(.int .i64 0),(.int .i64 0),(.int .i64 0)])) []⟩,qs 4 6 14]) (.seq (.reg [qk 15 (.fad 0) 6,qk 16 .ld1 15,qm 17 1,q2 18 (.bin .eql) 16 17]) (.cond (.tmp 18) (.seq (.reg [qk 19 (.fad 2) 6,qk 20 .ld1 19,qm 4 20]) (.ret)) (.skip))))) (.reg [qi 21 (.bin .add) 11 1,qm 11 21]))))))) (.seq (.reg [qo 4 .mv [ci 0]]) (.ret)))⟩
theorem c81 : compF Tryz.prog Tryz.f81 = some ir81 := by kernel_rfl
def ir98 : FI :=
 ⟨16,[.tmp 4,.tmp 5],.seq (.reg [qo 4 .mv [ci 0],qo 5 .mv [ci 0]]) (.seq (.seq (.reg [qm 6 0,qo 7 (.isn false) [.tmp 6,.const (.pointer none)]]) (.cond (.tmp 7) (.seq (.reg [qo 4 .mv [ci 0],qo 5 .mv [ci 0]]) (.ret)) (.skip))) (.seq (.reg [qm 8 0,qc 9 109 [.tmp 8,ci 0],qm 10 1,qc 11 137 [.tmp 9,.tmp 10],qm 12 0,qc 13 109 [.tmp 12,ci 1],qm 14 1,qc 15 137 [.tmp 13,.tmp 14],qm 4 11,qm 5 15]) (.ret)))⟩
theorem c98 : compF Tryz.prog Tryz.f98 = some ir98 := by kernel_rfl
def ir101 : FI :=
 ⟨22,[.tmp 6],.seq (.reg [qk 3 (.box 27) 0,qo 6 .mv [cb false]]) (.seq (.drw [dq 0 (qk 7 (.ldn 20) 3),⟨1,qc 8 18 [.tmp 7],true,[]⟩,dq 2 (qm 9 8),dq 3 (qn 10 9 true .mv 1),dq 4 (qn 11 9 true (.ifc 3) 10),dq 7 (qn 14 9 true (.fad 5) 3),dq 8 (qn 15 9 true .ld1 14),dq 9 (qn 16 9 true .mv 2),dq 10 (qn 17 9 true (.ifc 3) 16),⟨5,qh 12 9 true 140 [.tmp 11,ci 0],true,[qn 15 9 true .ld1 14]⟩,dq 6 (qg 13 9 true (.bin .mul) [.tmp 12,ci 1000]),⟨11,qh 18 9 true 140 [.tmp 17,ci 1],true,[qn 15 9 true .ld1 14]⟩,dq 12 (qg 19 9 true (.bin .mul) [.tmp 15,.tmp 18]),dq 13 (qg 20 9 true (.bin .geq) [.tmp 13,.tmp 19]),dq 14 (qo 21 .pick [.tmp 9,.tmp 20,cb false]),dq 15 (qm 6 21)]) (.ret))⟩
theorem c101 : compF Tryz.prog Tryz.f101 = some ir101 := by kernel_rfl
def ir106 : FI :=
 ⟨52,[.tmp 4],.seq (.reg [qo 4 .mv [ci 0]]) (.seq (.seq (.reg [qm 10 0,qo 11 (.isn false) [.tmp 10,.const (.pointer none)]]) (.cond (.tmp 11) (.seq (.reg [qo 4 .mv [ci 0]]) (.ret)) (.skip))) (.seq (.reg [qm 12 1,qi 13 (.mm true) 12 0,qm 1 13]) (.seq (.reg [qo 5 .mv [ci 0]]) (.seq (.seq (.reg [qm 14 0,qk 15 .nck 14,qk 16 (.fad 0) 15,qk 17 .ld1 16,qk 18 .len 17,qo 19 .mv [ci 0]]) (.block 0 (.loop (.seq (.reg [q2 20 (.bin .lss) 19 18]) (.seq (.cond (.tmp 20) (.skip) (.exit 0)) (.seq (.block 1 (.seq (.reg [q2 21 (.iad 1) 17 19,qk 22 .ld1 21,qm 7 22]) (.seq (.reg [qm 24 7,⟨some 25,none,.op (.tas 220 true (.agg #[(.int .i64 0),(.int .i64 0)])) [.tmp 24]⟩,qm 23 25,qk 26 (.ext 0) 23,qk 27 (.ext 1) 23,⟨some 8,none,.op (.new 220 (.agg #[(.int .i64 0),(.int .i64 0)])) []⟩,qs 2 8 26,qm 9 27]) (.seq (.drw [dq 0 (qm 28 9),dq 1 (qm 29 28),dq 2 (qn 30 29 true (.fad 0) 8),dq 3 (qn 31 29 true .ld1 30),dq 4 (qn 32 29 true .mv 1),dq 5 (qg 33 29 true (.bin .geq) [.tmp 31,.tmp 32]),dq 6 (qn 34 29 true .mv 33),dq 7 (qn 35 34 false .mv 1),dq 8 (qn 36 34 false (.fad 0) 8),dq 9 (qn 37 34 false .ld1 36),dq 10 (qg 38 34 false (.bin .sub) [.tmp 35,.tmp 37]),dq 11 (qn 39 34 false .mv 0),dq 12 (qn 40 34 false .nck 39),dq 13 (qn 41 34 false (.fad 1) 40),dq 14 (qn 42 34 false .ld1 41),dq 15 (qg 43 34 false (.bin .lss) [.tmp 38,.tmp 42]),dq 16 (qg 44 29 true .pick [.tmp 34,cb true,.tmp 43]),dq 17 (qo 45 .pick [.tmp 29,.tmp 44,cb false])]) (.cond (.tmp 45) (.reg [qm 46 5,qk 47 (.fad 1) 8,qk 48 .ld1 47,q2 49 (.mm true) 46 48,qm 5 49]) (.skip)))))) (.reg [qi 50 (.bin .add) 19 1,qm 19 50]))))))) (.seq (.reg [qm 51 5,qm 4 51]) (.ret))))))⟩
theorem c106 : compF Tryz.prog Tryz.f106 = some ir106 := by kernel_rfl
def ir119 : FI :=
 ⟨19,[.tmp 4],.seq (.reg [qo 4 .mv [ci 0]]) (.seq (.seq (.reg [qm 6 0,qk 7 .len 6,qo 8 .mv [ci 0]]) (.block 0 (.loop (.seq (.reg [q2 9 (.bin .lss) 8 7]) (.seq (.cond (.tmp 9) (.skip) (.exit 0)) (.seq (.block 1 (.seq (.reg [qm 10 8,qm 5 10]) (.seq (.reg [qm 11 1,qm 12 0,qm 13 5,q2 14 (.iad 1) 12 13,qk 15 .ld1 14,⟨some 16,none,.callv (.tmp 11) [.tmp 15]⟩]) (.cond (.tmp 16) (.seq (.reg [qm 17 5,qm 4 17]) (.ret)) (.skip))))) (.reg [qi 18 (.bin .add) 8 1,qm 8 18]))))))) (.seq (.reg [qo 4 .mv [ci (-1)]]) (.ret)))⟩
theorem c119 : compF Tryz.prog Tryz.f119 = some ir119 := by kernel_rfl
def ir136 : FI :=
 ⟨51,[.tmp 4,.tmp 5],.seq (.reg [qo 4 .mv [.const (.int .u64 0)],qo 5 .mv [.const (.int .u64 0)]]) (.seq (.reg [qm 14 0,qo 15 (.bin .and) [.tmp 14,.const (.int .u64 4294967295)],qm 6 15]) (.seq (.reg [qm 16 0,qo 17 (.bin .shr) [.tmp 16,.const (.int .u64 32)],qm 7 17]) (.seq (.reg [qm 18 1,qo 19 (.bin .and) [.tmp 18,.const (.int .u64 4294967295)],qm 8 19]) (.seq (.reg [qm 20 1,qo 21 (.bin .shr) [.tmp 20,.const (.int .u64 32)],qm 9 21]) (.seq (.reg [qm 22 6,qm 23 8,q2 24 (.bin .mul) 22 23,qm 10 24]) (.seq (.reg [qm 25 7,qm 26 8,q2 27 (.bin .mul) 25 26,qm 28 10,qo 29 (.bin .shr) [.tmp 28,.const (.int .u64 32)],q2 30 (.bin .add) 27 29,qm 11 30]) (.seq (.reg [qm 31 11,qo 32 (.bin .and) [.tmp 31,.const (.int .u64 4294967295)],qm 12 32]) (.seq (.reg [qm 33 11,qo 34 (.bin .shr) [.tmp 33,.const (.int .u64 32)],qm 13 34]) (.seq (.reg [qm 35 12,qm 36 6,qm 37 9,q2 38 (.bin .mul) 36 37,q2 39 (.bin .add) 35 38,qm 12 39]) (.seq (.reg [qm 40 7,qm 41 9,q2 42 (.bin .mul) 40 41,qm 43 13,q2 44 (.bin .add) 42 43,qm 45 12,qo 46 (.bin .shr) [.tmp 45,.const (.int .u64 32)],q2 47 (.bin .add) 44 46,qm 4 47]) (.seq (.reg [qm 48 0,qm 49 1,q2 50 (.bin .mul) 48 49,qm 5 50]) (.ret))))))))))))⟩
theorem c136 : compF Tryz.prog Tryz.f136 = some ir136 := by kernel_rfl
def ir138 : FI :=
 ⟨33,[.tmp 4,.tmp 5],.seq (.reg [qo 4 .mv [ci 0],qo 5 .mv [ci 0]]) (.seq (.reg [qm 9 0,qm 10 1,qc 11 168 [.tmp 9,.tmp 10],qm 8 11,qk 12 (.ext 0) 8,qk 13 (.ext 1) 8,qm 6 12,qm 7 13]) (.seq (.seq (.reg [qm 14 7,qi 15 (.bin .eql) 14 0,qm 16 15,qn 17 16 true .mv 0,qn 18 16 true .mv 1,qg 19 16 true (.bin .rem) [.tmp 17,.tmp 18],qg 20 16 true (.bin .neq) [.tmp 19,ci 0],qo 21 .pick [.tmp 16,.tmp 20,cb false],qm 22 21,qn 23 22 true .mv 0,qg 24 22 true (.bin .lss) [.tmp 23,ci 0],qn 25 22 true .mv 1,qg 26 22 true (.bin .lss) [.tmp 25,ci 0],qg 27 22 true (.bbin .eql) [.tmp 24,.tmp 26],qo 28 .pick [.tmp 22,.tmp 27,cb false]]) (.cond (.tmp 28) (.reg [qm 29 6,qi 30 (.bin .add) 29 1,qm 6 30]) (.skip))) (.seq (.reg [qm 31 6,qm 32 7,qm 4 31,qm 5 32]) (.ret))))⟩
theorem c138 : compF Tryz.prog Tryz.f138 = some ir138 := by kernel_rfl
def ir172 : FI :=
 ⟨18,[.tmp 4],.seq (.reg [qo 4 .mv [ci 0]]) (.seq (.reg [qm 8 0,⟨some 9,none,.op (.tas 3 true (.int .i64 0)) [.tmp 8]⟩,qm 7 9,qk 10 (.ext 0) 7,qk 11 (.ext 1) 7,qm 5 10,qm 6 11]) (.seq (.seq (.reg [qm 12 6,qk 13 .not 12]) (.cond (.tmp 13) (.seq (.reg [qo 4 .mv [ci 0]]) (.ret)) (.skip))) (.seq (.reg [qm 14 5,qm 15 1,q2 16 (.mm true) 14 15,qi 17 (.mm false) 16 1000000,qm 4 17]) (.ret))))⟩
theorem c172 : compF Tryz.prog Tryz.f172 = some ir172 := by kernel_rfl
def ir183 : FI :=
 ⟨6,[.tmp 2],.seq (.reg [qo 2 .mv [cb false]]) (.seq (.reg [qm 3 0,qm 4 0,q2 5 (.bin .neq) 3 4,qm 2 5]) (.ret))⟩
theorem c183 : compF Tryz.prog Tryz.f183 = some ir183 := by kernel_rfl
def ir199 : FI :=
 ⟨135,[.tmp 6,.tmp 7],.seq (.reg [qo 6 .mv [.const (.int .u64 0)],qo 7 .mv [.const (.int .u64 0)]]) (.seq (.seq (.reg [qm 19 2,qo 20 (.bin .eql) [.tmp 19,.const (.int .u64 0)]]) (.cond (.tmp 20) (.no) (.skip))) (.seq (.seq (.reg [qm 22 2,qm 23 0,q2 24 (.bin .leq) 22 23]) (.cond (.tmp 24) (.no) (.skip))) (.seq (.seq (.reg [qm 26 0,qo 27 (.bin .eql) [.tmp 26,.const (.int .u64 0)]]) (.cond (.tmp 27) (.seq (.drw [dq 0 (qm 28 1),dq 1 (qm 29 2),dq 2 (q2 30 (.bin .quo) 28 29),dq 3 (qm 31 1),dq 4 (qm 32 2),dq 5 (q2 33 (.bin .rem) 31 32),dq 6 (qm 6 30),dq 7 (qm 7 33)]) (.ret)) (.skip))) (.seq (.reg [qm 34 2,qc 35 215 [.tmp 34],qk 36 (.cvt .u64) 35,qm 8 36]) (.seq (.reg [qm 37 2,qm 38 8,q2 39 (.bin .shl) 37 38,qm 2 39]) (.seq (.reg [qm 40 2,qo 41 (.bin .shr) [.tmp 40,.const (.int .u64 32)],qm 9 41]) (.seq (.reg [qm 42 2,qo 43 (.bin .and) [.tmp 42,.const (.int .u64 4294967295)],qm 10 43]) (.seq (.reg [qm 44 0,qm 45 8,q2 46 (.bin .shl) 44 45,qm 47 1,qm 48 8,qo 49 (.bin .sub) [.const (.int .u64 64),.tmp 48],q2 50 (.bin .shr) 47 49,q2 51 (.bin .or) 46 50,qm 11 51]) (.seq (.reg [qm 52 1,qm 53 8,q2 54 (.bin .shl) 52 53,qm 12 54]) (.seq (.reg [qm 55 12,qo 56 (.bin .shr) [.tmp 55,.const (.int .u64 32)],qm 13 56]) (.seq (.reg [qm 57 12,qo 58 (.bin .and) [.tmp 57,.const (.int .u64 4294967295)],qm 14 58]) (.seq (.reg [qm 59 11,qm 60 9,q2 61 (.bin .quo) 59 60,qm 15 61]) (.seq (.reg [qm 62 11,qm 63 15,qm 64 9,q2 65 (.bin .mul) 63 64,q2 66 (.bin .sub) 62 65,qm 16 66]) (.seq (.block 0 (.loop (.seq (.seq (.reg [qm 67 15,qo 68 (.bin .geq) [.tmp 67,.const (.int .u64 4294967296)],qm 69 68,qn 70 69 false .mv 15,qn 71 69 false .mv 10,qg 72 69 false (.bin .mul) [.tmp 70,.tmp 71],qn 73 69 false .mv 16,qg 74 69 false (.bin .mul) [.const (.int .u64 4294967296),.tmp 73],qn 75 69 false .mv 13,qg 76 69 false (.bin .add) [.tmp 74,.tmp 75],qg 77 69 false (.bin .gtr) [.tmp 72,.tmp 76],qo 78 .pick [.tmp 69,cb true,.tmp 77]]) (.cond (.tmp 78) (.skip) (.exit 0))) (.block 1 (.seq (.reg [qm 79 15,qo 80 (.bin .sub) [.tmp 79,.const (.int .u64 1)],qm 15 80]) (.seq (.reg [qm 81 16,qm 82 9,q2 83 (.bin .add) 81 82,qm 16 83]) (.seq (.reg [qm 84 16,qo 85 (.bin .geq) [.tmp 84,.const (.int .u64 4294967296)]]) (.cond (.tmp 85) (.exit 0) (.skip))))))))) (.seq (.reg [qm 86 11,qo 87 (.bin .mul) [.tmp 86,.const (.int .u64 4294967296)],qm 88 13,q2 89 (.bin .add) 87 88,qm 90 15,qm 91 2,q2 92 (.bin .mul) 90 91,q2 93 (.bin .sub) 89 92,qm 17 93]) (.seq (.reg [qm 94 17,qm 95 9,q2 96 (.bin .quo) 94 95,qm 18 96]) (.seq (.reg [qm 97 17,qm 98 18,qm 99 9,q2 100 (.bin .mul) 98 99,q2 101 (.bin .sub) 97 100,qm 16 101]) (.seq (.block 2 (.loop (.seq (.seq (.reg [qm 102 18,qo 103 (.bin .geq) [.tmp 102,.const (.int .u64 4294967296)],qm 104 103,qn 105 104 false .mv 18,qn 106 104 false .mv 10,qg 107 104 false (.bin .mul) [.tmp 105,.tmp 106],qn 108 104 false .mv 16,qg 109 104 false (.bin .mul) [.const (.int .u64 4294967296),.tmp 108],qn 110 104 false .mv 14,qg 111 104 false (.bin .add) [.tmp 109,.tmp 110],qg 112 104 false (.bin .gtr) [.tmp 107,.tmp 111],qo 113 .pick [.tmp 104,cb true,.tmp 112]]) (.cond (.tmp 113) (.skip) (.exit 2))) (.block 3 (.seq (.reg [qm 114 18,qo 115 (.bin .sub) [.tmp 114,.const (.int .u64 1)],qm 18 115]) (.seq (.reg [qm 116 16,qm 117 9,q2 118 (.bin .add) 116 117,qm 16 118]) (.seq (.reg [qm 119 16,qo 120 (.bin .geq) [.tmp 119,.const (.int .u64 4294967296)]]) (.cond (.tmp 120) (.exit 2) (.skip))))))))) (.seq (.reg [qm 121 15,qo 122 (.bin .mul) [.tmp 121,.const (.int .u64 4294967296)],qm 123 18,q2 124 (.bin .add) 122 123,qm 125 17,qo 126 (.bin .mul) [.tmp 125,.const (.int .u64 4294967296)],qm 127 14,q2 128 (.bin .add) 126 127,qm 129 18,qm 130 2,q2 131 (.bin .mul) 129 130,q2 132 (.bin .sub) 128 131,qm 133 8,q2 134 (.bin .shr) 132 133,qm 6 124,qm 7 134]) (.ret))))))))))))))))))))⟩
theorem c199 : compF Tryz.prog Tryz.f199 = some ir199 := by kernel_rfl
def ir3 : FI :=
 ⟨131,[.tmp 4],.seq (.reg [qo 4 .mv [cb false]]) (.seq (.reg [qc 16 7 [],qc 17 6 [.tmp 16],qm 15 17,qk 18 (.ext 0) 15,qk 19 (.ext 1) 15,qm 5 18,qm 6 19]) (.seq (.reg [qc 21 7 [],qc 22 6 [.tmp 21],qm 20 22,qk 23 (.ext 0) 20,qk 24 (.ext 1) 20,qm 7 23,qm 8 24]) (.seq (.seq (.reg [qm 25 6,qi 26 (.bin .neq) 25 0,qm 27 26,qn 28 27 false .mv 8,qg 29 27 false (.bin .neq) [.tmp 28,ci 0],qo 30 .pick [.tmp 27,cb true,.tmp 29],qm 31 30,qn 32 31 false .mv 5,qg 33 31 false (.isn false) [.tmp 32,.const (.pointer none)],qo 34 .pick [.tmp 31,cb true,.tmp 33],qm 35 34,qn 36 35 false .mv 7,qg 37 35 false (.isn false) [.tmp 36,.const (.pointer none)],qo 38 .pick [.tmp 35,cb true,.tmp 37]]) (.cond (.tmp 38) (.seq (.reg [qo 4 .mv [cb false]]) (.ret)) (.skip))) (.seq (.seq (.reg [qm 39 0,qc 40 8 [.tmp 39,ci 30],qk 41 .not 40]) (.cond (.tmp 41) (.seq (.reg [qc 42 9 [],qm 4 42]) (.ret)) (.skip))) (.seq (.seq (.reg [qo 9 .mv [ci 0]]) (.block 0 (.loop (.seq (.seq (.reg [qm 43 9,qm 44 0,qk 45 .len 44,q2 46 (.bin .lss) 43 45]) (.cond (.tmp 46) (.skip) (.exit 0))) (.seq (.block 1 (.seq (.reg [qm 49 0,qm 50 9,q2 51 (.iad 3) 49 50,qk 52 (.ldn 3) 51,qm 53 9,qc 54 10 [.tmp 52,.tmp 53],⟨some 10,none,.op (.new 32 (.agg #[(.int .i64 0),(.int .i64 0),(.string ⟨#[]⟩)])) []⟩,qs 3 10 54]) (.seq (.reg [qm 55 5,qk 56 (.ldn 3) 10,qc 57 11 [.tmp 55,.tmp 56]]) (.reg [qm 58 7,qk 59 (.ldn 3) 10,qc 60 11 [.tmp 58,.tmp 59]])))) (.reg [qm 47 9,qi 48 (.bin .add) 47 1,qm 9 48])))))) (.seq (.reg [qm 61 1,qk 62 (.cvt .u64) 61,qo 63 (.bin .rem) [.tmp 62,.const (.int .u64 200)],qk 64 (.cvt .i64) 63,qo 65 (.bin .add) [ci 1,.tmp 64],qm 11 65]) (.seq (.seq (.reg [qm 66 5,qm 67 11,⟨some 68,none,.op (.bld #[(.int .i64 0),(.int .i64 0),(.string ⟨#[]⟩)] [(0,1),(1,1),(2,1)] [0,1]) [ci 1,.tmp 67]⟩,qc 69 11 [.tmp 66,.tmp 68],qi 70 (.bin .neq) 69 0]) (.cond (.tmp 70) (.seq (.reg [qo 4 .mv [cb false]]) (.ret)) (.skip))) (.seq (.seq (.reg [qo 12 .mv [ci 0]]) (.block 2 (.loop (.seq (.seq (.reg [qm 71 12,qm 72 11,q2 73 (.bin .lss) 71 72]) (.cond (.tmp 73) (.skip) (.exit 2))) (.seq (.block 3 (.seq (.reg [qm 76 7,⟨some 77,none,.op (.bld #[(.int .i64 0),(.int .i64 0),(.string ⟨#[]⟩)] [(0,1),(1,1),(2,1)] [0,1]) [ci 1,ci 1]⟩,qc 78 11 [.tmp 76,.tmp 77],qi 79 (.bin .neq) 78 0]) (.cond (.tmp 79) (.seq (.reg [qo 4 .mv [cb false]]) (.ret)) (.skip)))) (.reg [qm 74 12,qi 75 (.bin .add) 74 1,qm 12 75])))))) (.seq (.reg [qm 80 5,qc 81 12 [.tmp 80],qm 82 7,qc 83 12 [.tmp 82],⟨some 13,none,.op (.new 39 (.agg #[(.int .i64 0),(.int .i64 0),(.bool false),(.bool false),(.slice none 0 0),(.int .i64 0),(.int .i64 0),(.int .i64 0),(.int .i64 0),(.int .i64 0),(.int .i64 0),(.int .i64 0),(.int .i64 0),(.int .i64 0),(.bool false)])) []⟩,⟨some 14,none,.op (.new 39 (.agg #[(.int .i64 0),(.int .i64 0),(.bool false),(.bool false),(.slice none 0 0),(.int .i64 0),(.int .i64 0),(.int .i64 0),(.int .i64 0),(.int .i64 0),(.int .i64 0),(.int .i64 0),(.int .i64 0),(.int .i64 0),(.bool false)])) []⟩,qs 15 13 81,qs 15 14 83]) (.seq (.reg [qc 84 9 [],qm 85 84,qn 86 85 true .mv 5,qh 87 85 true 13 [.tmp 86],qn 88 85 true .mv 7,qh 89 85 true 13 [.tmp 88],⟨some 90,some (85,true),.fl (.binOp .eql 42 (.tmp 87) (.tmp 89) 42) 4⟩,qo 91 .pick [.tmp 85,.tmp 90,cb false],qm 92 91,qn 93 92 true (.fad 0) 13,qn 94 92 true .ld1 93,qn 95 92 true (.fad 0) 14,qn 96 92 true .ld1 95,qg 97 92 true (.bin .eql) [.tmp 94,.tmp 96],qo 98 .pick [.tmp 92,.tmp 97,cb false],qm 99 98,qn 100 99 true (.fad 1) 13,qn 101 99 true .ld1 100,qn 102 99 true (.fad 1) 14,qn 103 99 true .ld1 102,qg 104 99 true (.bin .eql) [.tmp 101,.tmp 103],qo 105 .pick [.tmp 99,.tmp 104,cb false],qm 106 105,qn 107 106 true (.fad 7) 13,qn 108 106 true (.ldn 7) 107,qn 109 106 true (.fad 7) 14,qn 110 106 true (.ldn 7) 109,⟨some 111,some (106,true),.fl (.binOp .eql 37 (.tmp 108) (.tmp 110) 37) 4⟩,qo 112 .pick [.tmp 106,.tmp 111,cb false],qm 113 112,qn 114 113 true (.fad 4) 13,qn 115 113 true .ld1 114,qn 116 113 true .len 115,qn 117 113 true (.fad 4) 14,qn 118 113 true .ld1 117,qn 119 113 true .len 118,qg 120 113 true (.bin .eql) [.tmp 116,.tmp 119],qo 121 .pick [.tmp 113,.tmp 120,cb false],qm 122 121,qn 123 122 true .mv 5,qh 124 122 true 14 [.tmp 123],qn 125 122 true .len 124,qn 126 122 true .mv 7,qh 127 122 true 14 [.tmp 126],qn 128 122 true .len 127,qg 129 122 true (.bin .eql) [.tmp 125,.tmp 128],qo 130 .pick [.tmp 122,.tmp 129,cb false],qm 4 130]) (.ret)))))))))))⟩
theorem c3 : compF Tryz.prog Tryz.f3 = some ir3 := by kernel_rfl
def ir5 : FI :=
 ⟨141,[.tmp 4],.seq (.reg [qk 3 (.box 32) 1,qo 4 .mv [cb false]]) (.seq (.reg [qc 17 7 [],qc 18 6 [.tmp 17],qm 16 18,qk 19 (.ext 0) 16,qk 20 (.ext 1) 16,qm 5 19,qm 6 20]) (.seq (.seq (.reg [qm 21 6,qi 22 (.bin .neq) 21 0,qm 23 22,qn 24 23 false .mv 5,qg 25 23 false (.isn false) [.tmp 24,.const (.pointer none)],qo 26 .pick [.tmp 23,cb true,.tmp 25]]) (.cond (.tmp 26) (.seq (.reg [qo 4 .mv [cb false]]) (.ret)) (.skip))) (.seq (.seq (.reg [qm 27 0,qc 28 8 [.tmp 27,ci 30],qk 29 .not 28,qm 30 29,qn 31 30 false (.fad 2) 3,qn 32 30 false .ld1 31,qn 33 30 false .lens 32,qg 34 30 false (.bin .gtr) [.tmp 33,ci 300],qo 35 .pick [.tmp 30,cb true,.tmp 34]]) (.cond (.tmp 35) (.seq (.reg [qc 36 9 [],qm 4 36]) (.ret)) (.skip))) (.seq (.seq (.reg [qo 7 .mv [ci 0]]) (.block 0 (.loop (.seq (.seq (.reg [qm 37 7,qm 38 0,qk 39 .len 38,q2 40 (.bin .lss) 37 39]) (.cond (.tmp 40) (.skip) (.exit 0))) (.seq (.block 1 (.reg [qm 43 5,qm 44 0,qm 45 7,q2 46 (.iad 3) 44 45,qk 47 (.ldn 3) 46,qm 48 7,qc 49 10 [.tmp 47,.tmp 48],qc 50 11 [.tmp 43,.tmp 49]])) (.reg [qm 41 7,qi 42 (.bin .add) 41 1,qm 7 42])))))) (.seq (.reg [qm 51 5,qc 52 12 [.tmp 51],qm 53 5,qc 54 16 [.tmp 53],qm 55 5,qc 56 17 [.tmp 55],qm 57 5,qc 58 13 [.tmp 57],qm 59 5,qc 60 14 [.tmp 59],qk 61 .len 60,⟨some 8,none,.op (.new 39 (.agg #[(.int .i64 0),(.int .i64 0),(.bool false),(.bool false),(.slice none 0 0),(.int .i64 0),(.int .i64 0),(.int .i64 0),(.int .i64 0),(.int .i64 0),(.int .i64 0),(.int .i64 0),(.int .i64 0),(.int .i64 0),(.bool false)])) []⟩,⟨some 10,none,.op (.new 27 (.agg #[(.int .i64 0),(.int .i64 0),(.int .i64 0),(.int .i64 0),(.int .i64 0),(.int .i64 0),(.int .i64 0),(.int .i64 0),(.int .i64 0),(.int .i64 0),(.int .i64 0),(.int .i64 0),(.int .i64 0),(.int .i64 0),(.int .i64 0),(.int .i64 0),(.int .i64 0),(.int .i64 0),(.int .i64 0),(.int .i64 0)])) []⟩,⟨some 11,none,.op (.new 42 (.agg #[(.int .i64 0),(.int .i64 0),(.int .i64 0),(.int .i64 0),(.bool false),(.int .i64 0)])) []⟩,qs 15 8 52,qm 9 54,qs 20 10 56,qs 6 11 58,qm 12 61]) (.seq (.seq (.reg [qm 62 5,qk 63 (.ldn 3) 3,qc 64 11 [.tmp 62,.tmp 63],qi 65 (.bin .eql) 64 0]) (.cond (.tmp 65) (.seq (.reg [qc 66 9 [],qm 4 66]) (.ret)) (.skip))) (.seq (.reg [qm 67 5,qc 68 12 [.tmp 67],qm 69 5,qc 70 16 [.tmp 69],⟨some 13,none,.op (.new 39 (.agg #[(.int .i64 0),(.int .i64 0),(.bool false),(.bool false),(.slice none 0 0),(.int .i64 0),(.int .i64 0),(.int .i64 0),(.int .i64 0),(.int .i64 0),(.int .i64 0),(.int .i64 0),(.int .i64 0),(.int .i64 0),(.bool false)])) []⟩,qs 15 13 68,qm 14 70]) (.seq (.seq (.drw [dq 0 (qm 71 14),dq 1 (qk 72 .len 71),dq 2 (qm 73 9),dq 3 (qk 74 .len 73),dq 4 (q2 75 (.bin .neq) 72 74),dq 5 (qm 76 75),dq 6 (qn 77 76 false (.fad 0) 13),dq 7 (qn 78 76 false .ld1 77),dq 8 (qn 79 76 false (.fad 0) 8),dq 9 (qn 80 76 false .ld1 79),dq 10 (qg 81 76 false (.bin .neq) [.tmp 78,.tmp 80]),dq 11 (qo 82 .pick [.tmp 76,cb true,.tmp 81]),dq 12 (qm 83 82),dq 13 (qn 84 83 false (.fad 1) 13),dq 14 (qn 85 83 false .ld1 84),dq 15 (qn 86 83 false (.fad 1) 8),dq 16 (qn 87 83 false .ld1 86),dq 17 (qg 88 83 false (.bin .neq) [.tmp 85,.tmp 87]),dq 18 (qo 89 .pick [.tmp 83,cb true,.tmp 88]),dq 19 (qm 90 89),dq 20 (qn 91 90 false (.fad 7) 13),dq 21 (qn 92 90 false (.ldn 7) 91),dq 22 (qn 93 90 false (.fad 7) 8),dq 23 (qn 94 90 false (.ldn 7) 93),⟨24,⟨some 95,some (90,false),.fl (.binOp .neq 37 (.tmp 92) (.tmp 94) 37) 4⟩,false,[]⟩,dq 25 (qo 96 .pick [.tmp 90,cb true,.tmp 95]),dq 26 (qm 97 96),dq 27 (qn 98 97 false (.fad 4) 13),dq 28 (qn 99 97 false .ld1 98),dq 29 (qn 100 97 false .len 99),dq 30 (qn 101 97 false (.fad 4) 8),dq 31 (qn 102 97 false .ld1 101),dq 32 (qn 103 97 false .len 102),dq 33 (qg 104 97 false (.bin .neq) [.tmp 100,.tmp 103]),dq 34 (qo 105 .pick [.tmp 97,cb true,.tmp 104]),dq 35 (qm 106 105),dq 36 (qn 107 106 false .mv 5),dq 38 (qn 109 106 false (.ldn 20) 10),⟨37,qh 108 106 false 17 [.tmp 107],true,[qn 109 106 false (.ldn 20) 10]⟩,⟨39,⟨some 110,some (106,false),.fl (.binOp .neq 27 (.tmp 108) (.tmp 109) 27) 4⟩,false,[]⟩,dq 40 (qo 111 .pick [.tmp 106,cb true,.tmp 110]),dq 41 (qm 112 111),dq 42 (qn 113 112 false .mv 5),dq 44 (qn 115 112 false (.ldn 6) 11),⟨43,qh 114 112 false 13 [.tmp 113],true,[qn 115 112 false (.ldn 6) 11]⟩,⟨45,⟨some 116,some (112,false),.fl (.binOp .neq 42 (.tmp 114) (.tmp 115) 42) 4⟩,false,[]⟩,dq 46 (qo 117 .pick [.tmp 112,cb true,.tmp 116]),dq 47 (qm 118 117),dq 48 (qn 119 118 false .mv 5),dq 51 (qn 122 118 false .mv 12),⟨49,qh 120 118 false 14 [.tmp 119],true,[]⟩,dq 50 (qn 121 118 false .len 120),dq 52 (qg 123 118 false (.bin .neq) [.tmp 121,.tmp 122]),dq 53 (qo 124 .pick [.tmp 118,cb true,.tmp 123])]) (.cond (.tmp 124) (.seq (.reg [qo 4 .mv [cb false]]) (.ret)) (.skip))) (.seq (.seq (.reg [qo 15 .mv [ci 0]]) (.block 2 (.loop (.seq (.seq (.reg [qm 125 15,qm 126 9,qk 127 .len 126,q2 128 (.bin .lss) 125 127]) (.cond (.tmp 128) (.skip) (.exit 2))) (.seq (.block 3 (.seq (.drw [dq 0 (qm 131 14),dq 1 (qm 132 15),dq 2 (q2 133 (.iad 4) 131 132),dq 3 (qk 134 (.ldn 4) 133),dq 4 (qm 135 9),dq 5 (qm 136 15),dq 6 (q2 137 (.iad 4) 135 136),dq 7 (qk 138 (.ldn 4) 137),⟨8,⟨some 139,none,.fl (.binOp .neq 50 (.tmp 134) (.tmp 138) 50) 4⟩,false,[]⟩]) (.cond (.tmp 139) (.seq (.reg [qo 4 .mv [cb false]]) (.ret)) (.skip)))) (.reg [qm 129 15,qi 130 (.bin .add) 129 1,qm 15 130])))))) (.seq (.reg [qc 140 9 [],qm 4 140]) (.ret)))))))))))⟩
theorem c5 : compF Tryz.prog Tryz.f5 = some ir5 := by kernel_rfl
def ir7 : FI :=
 ⟨2,[.cell 0 27],.seq (.reg [⟨some 0,none,.op (.new 27 (.agg #[(.int .i64 0),(.int .i64 0),(.int .i64 0),(.int .i64 0),(.int .i64 0),(.int .i64 0),(.int .i64 0),(.int .i64 0),(.int .i64 0),(.int .i64 0),(.int .i64 0),(.int .i64 0),(.int .i64 0),(.int .i64 0),(.int .i64 0),(.int .i64 0),(.int .i64 0),(.int .i64 0),(.int .i64 0),(.int .i64 0)])) []⟩]) (.seq (.reg [⟨some 1,none,.op (.bld #[(.int .i64 0),(.int .i64 0),(.int .i64 0),(.int .i64 0),(.int .i64 0),(.int .i64 0),(.int .i64 0),(.int .i64 0),(.int .i64 0),(.int .i64 0),(.int .i64 0),(.int .i64 0),(.int .i64 0),(.int .i64 0),(.int .i64 0),(.int .i64 0),(.int .i64 0),(.int .i64 0),(.int .i64 0),(.int .i64 0)] [(0,1),(1,1),(2,1),(3,1),(4,1),(5,1),(6,1),(7,1),(8,1),(9,1),(10,1),(11,1),(12,1),(13,1),(14,1),(15,1),(16,1),(17,1),(18,1),(19,1)] [0,1,2,3,4,5,6,7,10,11,13,14,15,16,17]) [ci 10000,ci 700,ci 60,ci 6,ci 1,ci 2000,ci 10000,ci 2000,ci 1,ci 30,ci 20000,ci 10,ci 100,ci 60,ci 3]⟩,qs 20 0 1]) (.ret))⟩
theorem c7 : compF Tryz.prog Tryz.f7 = some ir7 := by kernel_rfl
def ir11 : FI :=
 ⟨71,[.tmp 4],.seq (.reg [qk 3 (.box 32) 1,qo 4 .mv [ci 0]]) (.seq (.block 0 (.seq (.reg [qm 6 0,qo 7 (.isn false) [.tmp 6,.const (.pointer none)],qm 5 7]) (.cond (.tmp 5) (.seq (.reg [qo 4 .mv [ci 8]]) (.ret)) (.seq (.reg [qk 9 (.ldn 3) 3,qc 10 28 [.tmp 9],qk 11 .not 10,qm 8 11]) (.cond (.tmp 8) (.seq (.reg [qo 4 .mv [ci 1]]) (.ret)) (.skip)))))) (.seq (.seq (.reg [qk 12 (.fad 0) 3,qk 13 .ld1 12]) (.block 1 (.seq (.reg [qi 15 (.bin .eql) 13 2,qm 14 15]) (.cond (.tmp 14) (.seq (.reg [qk 16 (.fad 1) 3,qk 17 .ld1 16,qo 18 .mv [ci 0]]) (.block 2 (.loop (.seq (.reg [q2 19 (.bin .lss) 18 17]) (.seq (.cond (.tmp 19) (.skip) (.exit 2)) (.seq (.block 3 (.reg [qm 20 0,qc 21 29 [.tmp 20]])) (.reg [qi 22 (.bin .add) 18 1,qm 18 22]))))))) (.seq (.reg [qi 24 (.bin .eql) 13 3,qm 23 24]) (.cond (.tmp 23) (.seq (.reg [qm 25 0,qk 26 (.fad 1) 3,qk 27 .ld1 26,qc 28 30 [.tmp 25,.tmp 27],qm 4 28]) (.ret)) (.seq (.reg [qi 30 (.bin .eql) 13 4,qm 29 30]) (.cond (.tmp 29) (.seq (.reg [qm 31 0,qk 32 (.fad 1) 3,qk 33 .ld1 32,qc 34 31 [.tmp 31,.tmp 33],qm 4 34]) (.ret)) (.seq (.reg [qi 36 (.bin .eql) 13 5,qm 35 36]) (.cond (.tmp 35) (.seq (.reg [qm 37 0,qk 38 (.fad 2) 3,qk 39 .ld1 38,qc 40 32 [.tmp 37,.tmp 39],qm 4 40]) (.ret)) (.seq (.reg [qi 42 (.bin .eql) 13 6,qm 41 42]) (.cond (.tmp 41) (.drw [dq 0 (qm 43 0),dq 1 (qm 44 0),dq 2 (qk 45 .nck 44),dq 3 (qk 46 (.fad 32) 45),dq 4 (qk 47 .ld1 46),dq 5 (qk 48 (.fad 1) 3),dq 6 (qk 49 .ld1 48),dq 7 (q2 50 (.bin .add) 47 49),dq 8 (qi 51 (.mm false) 50 1000),dq 9 (qk 52 .nck 43),dq 10 (qk 53 (.fad 32) 52),⟨11,qs 1 53 51,true,[]⟩]) (.seq (.reg [qi 55 (.bin .eql) 13 1,qm 54 55]) (.cond (.tmp 54) (.seq (.seq (.drw [dq 0 (qm 56 0),dq 1 (qk 57 .nck 56),dq 2 (qk 58 (.fad 20) 57),dq 3 (qk 59 .ld1 58),dq 4 (qk 60 (.fad 1) 3),dq 5 (qk 61 .ld1 60),dq 6 (q2 62 (.bin .add) 59 61),dq 7 (qi 63 (.bin .gtr) 62 1099511627776)]) (.cond (.tmp 63) (.seq (.reg [qo 4 .mv [ci 5]]) (.ret)) (.skip))) (.seq (.reg [qk 64 (.fad 1) 3,qk 65 .ld1 64,qo 66 .mv [ci 0]]) (.block 4 (.loop (.seq (.reg [q2 67 (.bin .lss) 66 65]) (.seq (.cond (.tmp 67) (.skip) (.exit 4)) (.seq (.block 5 (.reg [qm 68 0,qc 69 33 [.tmp 68]])) (.reg [qi 70 (.bin .add) 66 1,qm 66 70])))))))) (.skip))))))))))))))) (.seq (.reg [qo 4 .mv [ci 0]]) (.ret))))⟩
theorem c11 : compF Tryz.prog Tryz.f11 = some ir11 := by kernel_rfl
def ir17 : FI :=
 ⟨10,[.cell 2 27],.seq (.reg [⟨some 2,none,.op (.new 27 (.agg #[(.int .i64 0),(.int .i64 0),(.int .i64 0),(.int .i64 0),(.int .i64 0),(.int .i64 0),(.int .i64 0),(.int .i64 0),(.int .i64 0),(.int .i64 0),(.int .i64 0),(.int .i64 0),(.int .i64 0),(.int .i64 0),(.int .i64 0),(.int .i64 0),(.int .i64 0),(.int .i64 0),(.int .i64 0),(.int .i64 0)])) []⟩]) (.seq (.seq (.reg [qm 3 0,qo 4 (.isn false) [.tmp 3,.const (.pointer none)]]) (.cond (.tmp 4) (.seq (.reg [⟨some 5,none,.op (.bld #[(.int .i64 0),(.int .i64 0),(.int .i64 0),(.int .i64 0),(.int .i64 0),(.int .i64 0),(.int .i64 0),(.int .i64 0),(.int .i64 0),(.int .i64 0),(.int .i64 0),(.int .i64 0),(.int .i64 0),(.int .i64 0),(.int .i64 0),(.int .i64 0),(.int .i64 0),(.int .i64 0),(.int .i64 0),(.int .i64 0)] [(0,1),(1,1),(2,1),(3,1),(4,1),(5,1),(6,1),(7,1),(8,1),(9,1),(10,1),(11,1),(12,1),(13,1),(14,1),(15,1),(16,1),(17,1),(18,1),(19,1)] []) []⟩,qs 20 2 5]) (.ret)) (.skip))) (.seq (.reg [qm 6 0,qk 7 .nck 6,qk 8 (.fad 0) 7,qk 9 (.ldn 20) 8,qs 20 2 9]) (.ret)))⟩
theorem c17 : compF Tryz.prog Tryz.f17 = some ir17 := by kernel_rfl
def ir20 : FI :=
 ⟨12,[.tmp 2],.seq (.reg [qo 2 .mv [.const (.pointer none)]]) (.seq (.seq (.reg [qm 3 0,qi 4 (.bin .lss) 3 0,qm 5 4,qn 6 5 false .mv 0,qg 7 5 false (.bin .gtr) [.tmp 6,ci 200],qo 8 .pick [.tmp 5,cb true,.tmp 7]]) (.cond (.tmp 8) (.seq (.reg [qo 2 .mv [.const (.pointer none)]]) (.ret)) (.skip))) (.seq (.reg [qm 9 0,⟨some 10,none,.op (.bld #[(.slice none 0 0),(.int .i64 0),(.int .i64 0)] [(0,1),(1,1),(2,1)] [1,2]) [.tmp 9,ci (-9223372036854775808)]⟩,qk 11 (.box 87) 10,qm 2 11]) (.ret)))⟩
theorem c20 : compF Tryz.prog Tryz.f20 = some ir20 := by kernel_rfl
def ir22 : FI :=
 ⟨2,[.cell 0 61],.seq (.reg [⟨some 0,none,.op (.new 61 (.agg #[(.int .i64 0)])) []⟩]) (.seq (.reg [⟨some 1,none,.op (.bld #[(.int .i64 0)] [(0,1)] [0]) [ci (-1)]⟩,qs 1 0 1]) (.ret))⟩
theorem c22 : compF Tryz.prog Tryz.f22 = some ir22 := by kernel_rfl
def ir25 : FI :=
 ⟨48,[],.seq (.seq (.reg [qm 8 0,qo 9 (.isn false) [.tmp 8,.const (.pointer none)],qm 10 9,qn 11 10 false .mv 2,qg 12 10 false (.bin .lss) [.tmp 11,ci 0],qo 13 .pick [.tmp 10,cb true,.tmp 12],qm 14 13,qn 15 14 false .mv 2,qg 16 14 false (.bin .gtr) [.tmp 15,ci 100],qo 17 .pick [.tmp 14,cb true,.tmp 16]]) (.cond (.tmp 17) (.ret) (.skip))) (.seq (.reg [qm 18 0,qk 19 .nck 18,qk 20 (.fad 0) 19,qk 21 .ld1 20,qk 22 .len 21,qo 23 .mv [ci 0]]) (.block 0 (.loop (.seq (.reg [q2 24 (.bin .lss) 23 22]) (.seq (.cond (.tmp 24) (.skip) (.exit 0)) (.seq (.block 1 (.seq (.reg [qm 25 23,qm 6 25]) (.seq (.reg [qm 26 0,qm 27 6,qc 28 49 [.tmp 26,.tmp 27],qm 7 28]) (.seq (.reg [qm 29 7,qk 30 .nck 29,qk 31 (.fad 1) 30,qk 32 .ld1 31,qi 33 (.bin .eql) 32 1,qm 34 33,qn 35 34 true .mv 7,qn 36 34 true .nck 35,qn 37 34 true (.fad 3) 36,qn 38 34 true .ld1 37,qn 39 34 true .mv 2,qg 40 34 true (.bin .add) [.tmp 38,.tmp 39],qn 41 34 true .mv 1,qg 42 34 true (.bin .leq) [.tmp 40,.tmp 41],qo 43 .pick [.tmp 34,.tmp 42,cb false]]) (.cond (.tmp 43) (.reg [qm 44 7,qk 45 .nck 44,qk 46 (.fad 1) 45,⟨none,none,.op (.st 1) [.tmp 46,ci 2]⟩]) (.skip)))))) (.reg [qi 47 (.bin .add) 23 1,qm 23 47])))))))⟩
theorem c25 : compF Tryz.prog Tryz.f25 = some ir25 := by kernel_rfl
def ir32 : FI :=
 ⟨36,[.tmp 4],.seq (.reg [qo 4 .mv [ci 0]]) (.seq (.reg [qm 9 0,qk 10 .nck 9,qk 11 (.fad 0) 10,qk 12 (.ldn 20) 11,qm 13 1,qc 14 60 [.tmp 12,.tmp 13],qm 8 14,qk 15 (.ext 0) 8,qk 16 (.ext 1) 8,qk 17 (.ext 2) 8,⟨some 5,none,.op (.new 27 (.agg #[(.int .i64 0),(.int .i64 0),(.int .i64 0),(.int .i64 0),(.int .i64 0),(.int .i64 0),(.int .i64 0),(.int .i64 0),(.int .i64 0),(.int .i64 0),(.int .i64 0),(.int .i64 0),(.int .i64 0),(.int .i64 0),(.int .i64 0),(.int .i64 0),(.int .i64 0),(.int .i64 0),(.int .i64 0),(.int .i64 0)])) []⟩,qs 20 5 15,qm 6 16,qm 7 17]) (.seq (.seq (.reg [qm 18 6,qi 19 (.bin .neq) 18 0]) (.cond (.tmp 19) (.seq (.reg [qm 20 6,qm 4 20]) (.ret)) (.skip))) (.seq (.reg [qm 21 0,qk 22 (.ldn 20) 5,qk 23 .nck 21,qk 24 (.fad 0) 23,qs 20 24 22]) (.seq (.drw [dq 0 (qm 25 0),dq 2 (qk 27 (.ldn 20) 5),⟨1,qc 26 37 [.tmp 25],true,[qk 27 (.ldn 20) 5]⟩,⟨3,qc 28 61 [.tmp 26,.tmp 27],true,[]⟩]) (.seq (.drw [dq 0 (qm 29 0),dq 2 (qk 31 (.fad 15) 5),dq 3 (qk 32 .ld1 31),⟨1,qc 30 35 [.tmp 29],true,[qk 32 .ld1 31]⟩,⟨4,qc 33 62 [.tmp 30,.tmp 32],true,[]⟩]) (.seq (.reg [qm 34 0,qc 35 55 [.tmp 34]]) (.seq (.reg [qo 4 .mv [ci 0]]) (.ret))))))))⟩
theorem c32 : compF Tryz.prog Tryz.f32 = some ir32 := by kernel_rfl
def ir51 : FI :=
 ⟨33,[.tmp 4,.tmp 5],.seq (.reg [qo 4 .mv [ci 0],qo 5 .mv [ci 0]]) (.seq (.seq (.reg [qm 6 1,qi 7 (.bin .lss) 6 0,qm 8 7,qn 9 8 true .mv 0,qn 10 8 true .mv 1,qg 11 8 true (.bin .add) [ci 9223372036854775807,.tmp 10],qg 12 8 true (.bin .gtr) [.tmp 9,.tmp 11],qo 13 .pick [.tmp 8,.tmp 12,cb false],qm 14 13,qn 15 14 false .mv 1,qg 16 14 false (.bin .gtr) [.tmp 15,ci 0],qn 17 14 false .mv 16,qn 18 17 true .mv 0,qn 19 17 true .mv 1,qg 20 17 true (.bin .add) [ci (-9223372036854775808),.tmp 19],qg 21 17 true (.bin .lss) [.tmp 18,.tmp 20],qg 22 14 false .pick [.tmp 17,.tmp 21,cb false],qo 23 .pick [.tmp 14,cb true,.tmp 22]]) (.cond (.tmp 23) (.seq (.reg [qm 24 1,qi 25 (.bin .lss) 24 0,qk 26 (.ifc 4) 25,qc 27 78 [.tmp 26],qk 28 (.ext 0) 27,qk 29 (.ext 1) 27,qm 4 28,qm 5 29]) (.ret)) (.skip))) (.seq (.reg [qm 30 0,qm 31 1,q2 32 (.bin .sub) 30 31,qm 4 32,qo 5 .mv [ci 0]]) (.ret)))⟩
theorem c51 : compF Tryz.prog Tryz.f51 = some ir51 := by kernel_rfl
def ir54 : FI :=
 ⟨49,[.tmp 6],.seq (.reg [qo 6 .mv [ci 0]]) (.seq (.block 0 (.seq (.reg [qm 8 0,qo 9 (.isn false) [.tmp 8,.const (.pointer none)],qm 7 9]) (.cond (.tmp 7) (.seq (.reg [qo 6 .mv [ci 8]]) (.ret)) (.seq (.reg [qm 11 1,qi 12 (.bin .lss) 11 0,qm 13 12,qn 14 13 false .mv 2,qn 15 13 false .mv 0,qn 16 13 false .nck 15,qn 17 13 false (.fad 2) 16,qn 18 13 false .ld1 17,qg 19 13 false (.bin .lss) [.tmp 14,.tmp 18],qo 20 .pick [.tmp 13,cb true,.tmp 19],qm 10 20]) (.cond (.tmp 10) (.seq (.reg [qo 6 .mv [ci 1]]) (.ret)) (.seq (.drw [dq 0 (qm 22 0),dq 1 (qk 23 .nck 22),dq 2 (qk 24 (.fad 0) 23),dq 3 (qk 25 .ld1 24),dq 4 (qk 26 .len 25),dq 5 (qm 27 0),dq 6 (qk 28 .nck 27),dq 7 (qk 29 (.fad 1) 28),dq 8 (qk 30 .ld1 29),dq 9 (q2 31 (.bin .geq) 26 30),dq 10 (qm 21 31)]) (.cond (.tmp 21) (.seq (.reg [qo 6 .mv [ci 6]]) (.ret)) (.skip)))))))) (.seq (.reg [qm 32 0,qm 33 2,qk 34 .nck 32,qk 35 (.fad 2) 34,qs 1 35 33]) (.seq (.reg [qm 36 0,qm 37 0,qk 38 .nck 37,qk 39 (.fad 0) 38,qk 40 .ld1 39,qm 41 1,qm 42 2,⟨some 43,none,.op (.bld #[(.int .i64 0),(.int .i64 0)] [(0,1),(1,1)] [0,1]) [.tmp 41,.tmp 42]⟩,qk 44 (.ifc 119) 43,qk 45 (.bsl 20 1 1 #[.nilIface] [0]) 44,q2 46 (.app 20 1 16) 40 45,qk 47 .nck 36,qk 48 (.fad 0) 47,qs 1 48 46]) (.seq (.reg [qo 6 .mv [ci 0]]) (.ret)))))⟩
theorem c54 : compF Tryz.prog Tryz.f54 = some ir54 := by kernel_rfl
def ir74 : FI :=
 ⟨15,[.tmp 6],.seq (.reg [qo 6 .mv [cb false]]) (.seq (.reg [qm 7 0,qm 8 1,q2 9 (.bin .geq) 7 8,qm 10 9,qn 11 10 true .mv 0,qn 12 10 true .mv 2,qg 13 10 true (.bin .leq) [.tmp 11,.tmp 12],qo 14 .pick [.tmp 10,.tmp 13,cb false],qm 6 14]) (.ret))⟩
theorem c74 : compF Tryz.prog Tryz.f74 = some ir74 := by kernel_rfl
def ir84 : FI :=
 ⟨31,[.tmp 4],.seq (.reg [qo 4 .mv [ci 0]]) (.seq (.seq (.reg [qm 6 0,qo 7 (.isn false) [.tmp 6,.const (.pointer none)]]) (.cond (.tmp 7) (.seq (.reg [qo 4 .mv [ci 8]]) (.ret)) (.skip))) (.seq (.reg [qm 8 0,qm 9 1,qc 10 85 [.tmp 8,.tmp 9],qm 5 10]) (.seq (.seq (.reg [qm 11 5,qi 12 (.bin .lss) 11 0,qm 13 12,qn 14 13 false .mv 0,qn 15 13 false .mv 5,qh 16 13 false 49 [.tmp 14,.tmp 15],qn 17 13 false .nck 16,qn 18 13 false (.fad 1) 17,qn 19 13 false .ld1 18,qg 20 13 false (.bin .neq) [.tmp 19,ci 2],qo 21 .pick [.tmp 13,cb true,.tmp 20]]) (.cond (.tmp 21) (.seq (.reg [qo 4 .mv [ci 7]]) (.ret)) (.skip))) (.seq (.reg [qm 22 0,qm 23 5,qc 24 49 [.tmp 22,.tmp 23],qk 25 .nck 24,qk 26 (.fad 2) 25,qk 27 .ld1 26,qi 28 (.bin .add) 27 1,qk 29 .nck 24,qk 30 (.fad 2) 29,qs 1 30 28]) (.seq (.reg [qo 4 .mv [ci 0]]) (.ret))))))⟩
theorem c84 : compF Tryz.prog Tryz.f84 = some ir84 := by kernel_rfl
def ir85 : FI :=
 ⟨11,[.tmp 4],.seq (.reg [qk 3 (.box 3) 1,qo 4 .mv [ci 0]]) (.seq (.reg [qm 5 0,qk 6 .nck 5,qk 7 (.fad 0) 6,qk 8 .ld1 7,⟨some 9,none,.op (.clo (.func 120) 0) [.tmp 3]⟩,qc 10 119 [.tmp 8,.tmp 9],qm 4 10]) (.ret))⟩
theorem c85 : compF Tryz.prog Tryz.f85 = some ir85 := by kernel_rfl
def ir87 : FI :=
 ⟨43,[.tmp 4],.seq (.reg [⟨some 4,none,.op .mv [.const (.string ⟨#[]⟩)]⟩]) (.seq (.seq (.reg [qm 7 0,⟨some 8,none,.op (.bin .eql) [.tmp 7,.const (.string ⟨#[]⟩)]⟩,qm 9 8,qn 10 9 false .mv 1,⟨some 11,some (9,false),.op (.bin .eql) [.tmp 10,.const (.string ⟨#[]⟩)]⟩,qo 12 .pick [.tmp 9,cb true,.tmp 11]]) (.cond (.tmp 12) (.seq (.reg [qm 13 0,qm 4 13]) (.ret)) (.skip))) (.seq (.seq (.reg [qm 14 1,qk 15 .lens 14,qi 16 (.bin .eql) 15 1,qm 17 16,qn 18 17 true .mv 1,qg 19 17 true .ixs [.tmp 18,ci 0],qg 20 17 true (.bin .lss) [.tmp 19,.const (.int .u8 128)],qo 21 .pick [.tmp 17,.tmp 20,cb false]]) (.cond (.tmp 21) (.seq (.drw [dq 0 (qm 22 0),dq 1 (qm 23 1),dq 2 (qi 24 .ixs 23 0),dq 4 (qm 26 1),dq 5 (qi 27 .ixs 26 0),⟨3,qc 25 123 [.tmp 22,.tmp 24],true,[]⟩,⟨6,qc 28 122 [.tmp 25,.tmp 27],true,[]⟩,dq 7 (qm 4 28)]) (.ret)) (.skip))) (.seq (.seq (.reg [qm 30 1,qc 31 124 [.tmp 30],qm 29 31,qk 32 (.ext 0) 29,qk 33 (.ext 1) 29,⟨some 5,none,.op (.new 199 (.agg #[(.bool false),(.bool false),(.bool false),(.bool false),(.bool false),(.bool false),(.bool false),(.bool false),(.bool false),(.bool false),(.bool false),(.bool false),(.bool false),(.bool false),(.bool false),(.bool false),(.bool false),(.bool false),(.bool false),(.bool false),(.bool false),(.bool false),(.bool false),(.bool false),(.bool false),(.bool false),(.bool false),(.bool false),(.bool false),(.bool false),(.bool false),(.bool false),(.bool false),(.bool false),(.bool false),(.bool false),(.bool false),(.bool false),(.bool false),(.bool false),(.bool false),(.bool false),(.bool false),(.bool false),(.bool false),(.bool false),(.bool false),(.bool false),(.bool false),(.bool false),(.bool false),(.bool false),(.bool false),(.bool false),(.bool false),(.bool false),(.bool false),(.bool false),(.bool false),(.bool false),(.bool false),(.bool false),(.bool false),(.bool false),(.bool false),(.bool false),(.bool false),(.bool false),(.bool false),(.bool false),(.bool false),(.bool false),(.bool false),(.bool false),(.bool false),(.bool false),(.bool false),(.bool false),(.bool false),(.bool false),(.bool false),(.bool false),(.bool false),(.bool false),(.bool false),(.bool false),(.bool false),(.bool false),(.bool false),(.bool false),(.bool false),(.bool false),(.bool false),(.bool false),(.bool false),(.bool false),(.bool false),(.bool false),(.bool false),(.bool false),(.bool false),(.bool false),(.bool false),(.bool false),(.bool false),(.bool false),(.bool false),(.bool false),(.bool false),(.bool false),(.bool false),(.bool false),(.bool false),(.bool false),(.bool false),(.bool false),(.bool false),(.bool false),(.bool false),(.bool false),(.bool false),(.bool false),(.bool false),(.bool false),(.bool false),(.bool false),(.bool false),(.bool false),(.bool false),(.bool false),(.bool false),(.bool false),(.bool false),(.bool false),(.bool false),(.bool false),(.bool false),(.bool false),(.bool false),(.bool false),(.bool false),(.bool false),(.bool false),(.bool false),(.bool false),(.bool false),(.bool false),(.bool false),(.bool false),(.bool false),(.bool false),(.bool false),(.bool false),(.bool false),(.bool false),(.bool false),(.bool false),(.bool false),(.bool false),(.bool false),(.bool false),(.bool false),(.bool false),(.bool false),(.bool false),(.bool false),(.bool false),(.bool false),(.bool false),(.bool false),(.bool false),(.bool false),(.bool false),(.bool false),(.bool false),(.bool false),(.bool false),(.bool false),(.bool false),(.bool false),(.bool false),(.bool false),(.bool false),(.bool false),(.bool false),(.bool false),(.bool false),(.bool false),(.bool false),(.bool false),(.bool false),(.bool false),(.bool false),(.bool false),(.bool false),(.bool false),(.bool false),(.bool false),(.bool false),(.bool false),(.bool false),(.bool false),(.bool false),(.bool false),(.bool false),(.bool false),(.bool false),(.bool false),(.bool false),(.bool false),(.bool false),(.bool false),(.bool false),(.bool false),(.bool false),(.bool false),(.bool false),(.bool false),(.bool false),(.bool false),(.bool false),(.bool false),(.bool false),(.bool false),(.bool false),(.bool false),(.bool false),(.bool false),(.bool false),(.bool false),(.bool false),(.bool false),(.bool false),(.bool false),(.bool false),(.bool false),(.bool false),(.bool false),(.bool false),(.bool false),(.bool false),(.bool false),(.bool false),(.bool false),(.bool false),(.bool false),(.bool false),(.bool false),(.bool false),(.bool false),(.bool false),(.bool false),(.bool false),(.bool false),(.bool false),(.bool false)])) []⟩,qs 256 5 32,qm 6 33]) (.seq (.reg [qm 34 6]) (.cond (.tmp 34) (.seq (.reg [qm 35 0,qc 36 126 [.tmp 35,.tmp 5],qc 37 125 [.tmp 36,.tmp 5],qm 4 37]) (.ret)) (.skip)))) (.seq (.reg [qm 38 0,qm 39 1,qc 40 128 [.tmp 38,.tmp 39],qm 41 1,qc 42 127 [.tmp 40,.tmp 41],qm 4 42]) (.ret)))))⟩
theorem c87 : compF Tryz.prog Tryz.f87 = some ir87 := by kernel_rfl
def ir88 : FI :=
 ⟨13,[.tmp 4,.tmp 5,.tmp 6],.seq (.reg [⟨some 4,none,.op .mv [.const (.string ⟨#[]⟩)]⟩,⟨some 5,none,.op .mv [.const (.string ⟨#[]⟩)]⟩,qo 6 .mv [cb false]]) (.seq (.reg [qm 7 0,qm 8 1,qc 9 129 [.tmp 7,.tmp 8],qk 10 (.ext 0) 9,qk 11 (.ext 1) 9,qk 12 (.ext 2) 9,qm 4 10,qm 5 11,qm 6 12]) (.ret))⟩
theorem c88 : compF Tryz.prog Tryz.f88 = some ir88 := by kernel_rfl
def ir91 : FI :=
 ⟨48,[.tmp 4],.seq (.reg [qk 3 (.box 27) 1,qo 4 .mv [ci 0]]) (.seq (.block 0 (.seq (.reg [qm 7 0,qo 8 (.isn false) [.tmp 7,.const (.pointer none)],qm 6 8]) (.cond (.tmp 6) (.seq (.reg [qo 4 .mv [ci 8]]) (.ret)) (.seq (.reg [qk 10 (.ldn 20) 3,qc 11 18 [.tmp 10],qk 12 .not 11,qm 9 12]) (.cond (.tmp 9) (.seq (.reg [qo 4 .mv [ci 1]]) (.ret)) (.seq (.drw [dq 0 (qk 14 (.fad 4) 3),dq 1 (qk 15 .ld1 14),dq 2 (qm 16 0),dq 3 (qk 17 .nck 16),dq 4 (qk 18 (.fad 0) 17),dq 5 (qk 19 (.fad 4) 18),dq 6 (qk 20 .ld1 19),dq 7 (q2 21 (.bin .neq) 15 20),dq 8 (qm 13 21)]) (.cond (.tmp 13) (.seq (.reg [qm 22 0,qc 23 72 [.tmp 22],qm 5 23]) (.seq (.reg [qm 24 0,qk 25 (.ldn 20) 3,qc 26 44 [.tmp 25],qk 27 .nck 26,qk 28 (.ldn 23) 27,qk 29 .nck 24,qs 23 29 28]) (.seq (.reg [qm 30 0,qm 31 5,qk 32 .nck 30,qk 33 (.fad 22) 32,qs 1 33 31]) (.seq (.reg [qo 4 .mv [ci 0]]) (.ret))))) (.skip)))))))) (.seq (.drw [dq 0 (qm 34 0),dq 2 (qk 36 (.fad 2) 3),dq 3 (qk 37 .ld1 36),⟨1,qc 35 109 [.tmp 34,ci 0],true,[qk 37 .ld1 36]⟩,⟨4,qc 38 132 [.tmp 35,.tmp 37],true,[]⟩]) (.seq (.drw [dq 0 (qm 39 0),dq 2 (qk 41 (.fad 3) 3),dq 3 (qk 42 .ld1 41),⟨1,qc 40 109 [.tmp 39,ci 1],true,[qk 42 .ld1 41]⟩,⟨4,qc 43 132 [.tmp 40,.tmp 42],true,[]⟩]) (.seq (.reg [qm 44 0,qk 45 (.ldn 20) 3,qk 46 .nck 44,qk 47 (.fad 0) 46,qs 20 47 45]) (.seq (.reg [qo 4 .mv [ci 0]]) (.ret))))))⟩
theorem c91 : compF Tryz.prog Tryz.f91 = some ir91 := by kernel_rfl
def ir92 : FI :=
 ⟨16,[.tmp 2],.seq (.reg [qo 2 .mv [.const (.pointer none)]]) (.seq (.reg [qm 6 0,qk 7 .nck 6,qk 8 (.fad 20) 7,qk 9 .ld1 8,qi 10 (.iad 1) 9 1,qk 11 .ld1 10,⟨some 12,none,.op (.tas 90 true (.pointer none)) [.tmp 11]⟩,qm 5 12,qk 13 (.ext 0) 5,qk 14 (.ext 1) 5,qm 3 13,qm 4 14]) (.seq (.reg [qm 15 3,qm 2 15]) (.ret)))⟩
theorem c92 : compF Tryz.prog Tryz.f92 = some ir92 := by kernel_rfl
def ir105 : FI :=
 ⟨19,[.cell 4 93,.tmp 5],.seq (.reg [qk 2 (.box 93) 0,⟨some 4,none,.op (.new 93 (.agg #[(.int .i64 0),(.int .i64 0)])) []⟩,qo 5 .mv [ci 0]]) (.seq (.seq (.reg [qk 6 (.ldn 2) 2,qc 7 103 [.tmp 6],qk 8 .not 7]) (.cond (.tmp 8) (.seq (.reg [qk 9 (.ldn 2) 2,qm 10 1,qs 2 4 9,qm 5 10]) (.ret)) (.skip))) (.seq (.reg [qk 11 (.fad 1) 2,qk 12 .ld1 11,qm 13 1,q2 14 (.mm true) 12 13,qk 15 (.fad 1) 2,qs 1 15 14]) (.seq (.drw [dq 0 (qk 16 (.ldn 2) 2),dq 1 (qk 17 (.fad 1) 2),dq 2 (qk 18 .ld1 17),⟨3,qs 2 4 16,true,[qk 18 .ld1 17]⟩,dq 4 (qm 5 18)]) (.ret))))⟩
theorem c105 : compF Tryz.prog Tryz.f105 = some ir105 := by kernel_rfl
def ir107 : FI :=
 ⟨14,[.tmp 2],.seq (.reg [qo 2 .mv [ci 0]]) (.seq (.reg [qm 6 0,⟨some 7,none,.op (.tas 61 true (.agg #[(.int .i64 0)])) [.tmp 6]⟩,qm 5 7,qk 8 (.ext 0) 5,qk 9 (.ext 1) 5,⟨some 3,none,.op (.new 61 (.agg #[(.int .i64 0)])) []⟩,qs 1 3 8,qm 4 9]) (.seq (.seq (.reg [qm 10 4,qk 11 .not 10]) (.cond (.tmp 11) (.seq (.reg [qo 2 .mv [ci (-1)]]) (.ret)) (.skip))) (.seq (.reg [qk 12 (.fad 0) 3,qk 13 .ld1 12,qm 2 13]) (.ret))))⟩
theorem c107 : compF Tryz.prog Tryz.f107 = some ir107 := by kernel_rfl
def ir131 : FI :=
 ⟨28,[.tmp 4,.tmp 5],.seq (.reg [qo 4 .mv [ci 0],qo 5 .mv [cb false]]) (.seq (.seq (.reg [qm 8 0,qk 9 .lens 8,qi 10 (.bin .lss) 9 1,qm 11 10,qn 12 11 false .mv 0,qn 13 11 false .lens 12,qn 14 11 false .mv 1,qg 15 11 false (.bin .gtr) [.tmp 13,.tmp 14],qo 16 .pick [.tmp 11,cb true,.tmp 15],qm 17 16,qn 18 17 false .mv 0,⟨some 19,some (17,false),.call 87 [.tmp 18,.const (.string ⟨#[48,49,50,51,52,53,54,55,56,57]⟩)]⟩,⟨some 20,some (17,false),.op (.bin .neq) [.tmp 19,.const (.string ⟨#[]⟩)]⟩,qo 21 .pick [.tmp 17,cb true,.tmp 20]]) (.cond (.tmp 21) (.seq (.reg [qo 4 .mv [ci 0],qo 5 .mv [cb false]]) (.ret)) (.skip))) (.seq (.reg [qm 23 0,qc 24 163 [.tmp 23,ci 10,ci 64],qm 22 24,qk 25 (.ext 0) 22,qk 26 (.ext 1) 22,qm 6 25,qm 7 26]) (.seq (.reg [qm 27 6,qm 4 27,qo 5 .mv [cb true]]) (.ret))))⟩
theorem c131 : compF Tryz.prog Tryz.f131 = some ir131 := by kernel_rfl
def ir143 : FI :=
 ⟨16,[.tmp 2],.seq (.reg [qo 2 .mv [cb false]]) (.seq (.reg [qm 6 0,⟨some 7,none,.op (.tas 93 true (.agg #[(.int .i64 0),(.int .i64 0)])) [.tmp 6]⟩,qm 5 7,qk 8 (.ext 0) 5,qk 9 (.ext 1) 5,⟨some 3,none,.op (.new 93 (.agg #[(.int .i64 0),(.int .i64 0)])) []⟩,qs 2 3 8,qm 4 9]) (.seq (.reg [qm 10 4,qm 11 10,qn 12 11 true (.fad 0) 3,qn 13 11 true .ld1 12,qg 14 11 true (.bin .geq) [.tmp 13,ci 0],qo 15 .pick [.tmp 11,.tmp 14,cb false],qm 2 15]) (.ret)))⟩
theorem c143 : compF Tryz.prog Tryz.f143 = some ir143 := by kernel_rfl
def ir148 : FI :=
 ⟨18,[.tmp 2],.seq (.reg [qo 2 .mv [ci 0]]) (.seq (.reg [qo 3 .mv [ci 0]]) (.seq (.seq (.reg [qm 6 0,qk 7 .len 6,qo 8 .mv [ci 0]]) (.block 0 (.loop (.seq (.reg [q2 9 (.bin .lss) 8 7]) (.seq (.cond (.tmp 9) (.skip) (.exit 0)) (.seq (.block 1 (.seq (.reg [q2 10 (.iad 1) 6 8,qk 11 .ld1 10,qm 5 11]) (.seq (.reg [qm 12 5,qm 13 3,q2 14 (.bin .neq) 12 13]) (.cond (.tmp 14) (.seq (.reg [qm 15 5,qm 2 15]) (.ret)) (.skip))))) (.reg [qi 16 (.bin .add) 8 1,qm 8 16]))))))) (.seq (.reg [qm 17 3,qm 2 17]) (.ret))))⟩
theorem c148 : compF Tryz.prog Tryz.f148 = some ir148 := by kernel_rfl
def ir150 : FI :=
 ⟨7,[.tmp 2],.seq (.reg [qo 2 .mv [.const (.int .u32 0)]]) (.seq (.reg [qm 3 0,qk 4 (.cvt .u64) 3,qo 5 (.bin .mul) [.tmp 4,.const (.int .u64 2654435761)],qk 6 (.cvt .u32) 5,qm 2 6]) (.ret))⟩
theorem c150 : compF Tryz.prog Tryz.f150 = some ir150 := by kernel_rfl
def ir165 : FI :=
 ⟨11,[.tmp 3],.seq (.reg [qo 3 .mv [cb false]]) (.seq (.drw [dq 0 (qm 4 0),dq 1 (qk 5 (.tas 247 false .nilIface) 4),dq 2 (qk 6 .nck 5),dq 3 (qk 7 (.fad 0) 6),dq 4 (qk 8 .ld1 7),dq 5 (qk 9 .ld1 1),dq 6 (q2 10 (.bin .eql) 8 9),dq 7 (qm 3 10)]) (.ret))⟩
theorem c165 : compF Tryz.prog Tryz.f165 = some ir165 := by kernel_rfl
def ir169 : FI :=
 ⟨69,[.tmp 4,.tmp 5],.seq (.reg [qo 4 .mv [ci 0],qo 5 .mv [ci 0]]) (.seq (.reg [qm 11 0,qi 12 (.bin .lss) 11 0,qm 13 1,qi 14 (.bin .lss) 13 0,q2 15 (.bbin .neq) 12 14,qm 6 15]) (.seq (.reg [qm 17 0,qc 18 198 [.tmp 17],qm 19 1,qc 20 198 [.tmp 19],qc 21 136 [.tmp 18,.tmp 20],qm 16 21,qk 22 (.ext 0) 16,qk 23 (.ext 1) 16,qm 7 22,qm 8 23]) (.seq (.seq (.reg [qm 24 7,qo 25 (.bin .geq) [.tmp 24,.const (.int .u64 1000)]]) (.cond (.tmp 25) (.seq (.reg [qm 26 6,qk 27 .not 26,qk 28 (.ifc 4) 27,qc 29 78 [.tmp 28],qk 30 (.ext 0) 29,qk 31 (.ext 1) 29,qm 4 30,qm 5 31]) (.ret)) (.skip))) (.seq (.reg [qm 33 7,qm 34 8,qc 35 199 [.tmp 33,.tmp 34,.const (.int .u64 1000)],qm 32 35,qk 36 (.ext 0) 32,qk 37 (.ext 1) 32,qm 9 36,qm 10 37]) (.seq (.seq (.reg [qm 38 6,qk 39 .not 38]) (.cond (.tmp 39) (.seq (.seq (.reg [qm 40 9,qo 41 (.bin .gtr) [.tmp 40,.const (.int .u64 9223372036854775807)]]) (.cond (.tmp 41) (.seq (.reg [qo 42 (.ifc 4) [cb true],qc 43 78 [.tmp 42],qk 44 (.ext 0) 43,qk 45 (.ext 1) 43,qm 4 44,qm 5 45]) (.ret)) (.skip))) (.seq (.reg [qm 46 9,qk 47 (.cvt .i64) 46,qm 4 47,qo 5 .mv [ci 0]]) (.ret))) (.skip))) (.seq (.seq (.reg [qm 48 10,qo 49 (.bin .gtr) [.tmp 48,.const (.int .u64 0)]]) (.cond (.tmp 49) (.reg [qm 50 9,qo 51 (.bin .add) [.tmp 50,.const (.int .u64 1)],qm 9 51]) (.skip))) (.seq (.seq (.reg [qm 52 9,qo 53 (.bin .gtr) [.tmp 52,.const (.int .u64 9223372036854775808)],qm 54 53,qn 55 54 false .mv 10,qg 56 54 false (.bin .gtr) [.tmp 55,.const (.int .u64 0)],qn 57 54 false .mv 56,qn 58 57 true .mv 9,qg 59 57 true (.bin .eql) [.tmp 58,.const (.int .u64 0)],qg 60 54 false .pick [.tmp 57,.tmp 59,cb false],qo 61 .pick [.tmp 54,cb true,.tmp 60]]) (.cond (.tmp 61) (.seq (.reg [qo 62 (.ifc 4) [cb false],qc 63 78 [.tmp 62],qk 64 (.ext 0) 63,qk 65 (.ext 1) 63,qm 4 64,qm 5 65]) (.ret)) (.skip))) (.seq (.reg [qm 66 9,qk 67 (.cvt .i64) 66,qk 68 .neg 67,qm 4 68,qo 5 .mv [ci 0]]) (.ret)))))))))⟩
theorem c169 : compF Tryz.prog Tryz.f169 = some ir169 := by kernel_rfl
end Go.Proofs.YtelmcfnkclihcaaGreatDoorW.Am
