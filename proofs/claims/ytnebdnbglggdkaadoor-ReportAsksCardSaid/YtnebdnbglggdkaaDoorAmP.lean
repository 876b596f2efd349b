/- From the program's operations to instructions; regions in the order of the text. -/
import Derived.Test.YtnebdnbglggdkaaDoorAmO
namespace Go.Proofs.YtnebdnbglggdkaaDoorW.Am
open Go Go.RowKit

def compK (P : Program) (o : Oper) : Option IK :=
  match o.op with
  | .call { callee := .value (.func f), args, argTypes := _ } => some (.call f args.toList)
  | .call { callee := .value x, args, argTypes := _ } => some (.callv x args.toList)
  | .call { callee := .invoke _ _, args := _, argTypes := _ } => none
  | .go _ | .defer _ | .select _ _ | .send _ _ | .recv _ _ _ | .panic _ => none
  | op => match compOp P op with
    | some (k, xs) => some (.op k xs)
    | none => some (.fl op o.type)
def compG (ops : Array Oper) : Option (Nat × Bool) → Option (Option (Nat × Bool))
  | none => some none
  | some (j, b) => match (ops[j]?).bind (·.dst) with
    | some t => some (some (t, b))
    | none => none
def dOk (n : Nat) : Option Nat → Bool
  | some d => decide (d < n)
  | none => true
def compIn (P : Program) (n : Nat) (ops : Array Oper) (o : Oper) : Option In :=
  if dOk n o.dst = true then
    match compG ops o.guard, compK P o with
    | some g, some k => some ⟨o.dst, g, k⟩
    | _, _ => none
  else none
def compIns (P : Program) (n : Nat) (ops : Array Oper) : List Oper → Option (List In)
  | [] => some []
  | o :: r => match compIn P n ops o with
    | some i => match compIns P n ops r with
      | some is => some (i :: is)
      | none => none
    | none => none

section
variable {P : Program} {base : Nat} {w0 w : World} {m : Mu} {h : Hp} {n : Nat} {env : Env}

theorem wanted_sound {ops : Array Oper} {o : Oper} {g : Option (Nat × Bool)} {a : Act} {b : Bool} (hg : compG ops o.guard = some g) (r : REnv m n env a.tmps) (e : wanted g env = some b) : Region.wanted o (yielded ops a.tmps) = b := by
  unfold compG at hg
  unfold Region.wanted
  split at hg
  · next hn => cases hg; simp only [wanted, Option.some.injEq] at e; subst e; rw [hn]
  · next j bb hn =>
    split at hg
    case h_2 => cases hg
    case h_1 t ht =>
    cases hg
    rw [hn]
    simp only [wanted] at e
    simp only [yielded, ht, Option.bind_some]
    split at e
    · next c hc =>
      cases e
      obtain ⟨v', h1, h2⟩ := r.2 t _ hc
      rw [h1, h2.scalar_bool]
      cases c <;> cases bb <;> rfl
    · next hc =>
      cases e
      obtain ⟨v', h1, h2⟩ := r.2 t _ hc
      cases h2 with
      | @tuple _ a' hl _ =>
        have : a' = [] := List.eq_nil_of_length_eq_zero hl.symm
        subst this
        rw [h1]
        cases bb <;> rfl
    · cases e

theorem op_sound {ρ : Operand → Value} {o : Oper} {k : K} {xs : List Operand} {vs : List Value} {v : Value} {h' : Hp} (hρ : ∀ c, ρ (.const c) = c)
    (s : Sim base w0 m h w) (hc : compOp P o.op = some (k, xs)) (hv : RVs m vs (xs.map ρ)) (e : stepK k vs h = some (v, h')) : Snd1 P base w0 m w (execOp ρ o) v h' := by
  obtain ⟨dst, op, ty, pos, af, g⟩ := o
  cases op with
  | move x => exact op_move s hc hv e
  | assign x => exact op_assign s hc hv e
  | pick c a b => exact op_pick s hc hv e
  | alloc el => exact op_alloc s hc hv e
  | box el x => exact op_box s hc hv e
  | build t ps => exact op_build s hc hv e
  | buildSlice t n ps => exact op_buildSlice s hc hv e
  | load t a => exact op_load s hc hv e
  | store t a x => exact op_store s hc hv e
  | nilCheck x => exact op_nilCheck s hc hv e
  | binOp op t x y u => exact op_binOp (fun c hy => by rw [hy, hρ]) s hc hv e
  | unOp op t x => exact op_unOp s hc hv e
  | convert a b x => exact op_convert s hc hv e
  | makeInterface t x => exact op_makeInterface s hc hv e
  | typeAssert x xt t ok => exact op_typeAssert s hc hv e
  | makeFunc fn a b => exact op_makeFunc s hc hv e
  | makeSlice t l c => exact op_makeSlice s hc hv e
  | slice t x lo hi mx => exact op_slice s hc hv e
  | fieldAddr t x f => exact op_fieldAddr s hc hv e
  | field t x f => exact op_field s hc hv e
  | indexAddr t x i => exact op_indexAddr s hc hv e
  | index t x i => exact op_index s hc hv e
  | extract t i => exact op_extract s hc hv e
  | makeMap t r => exact op_makeMap s hc hv e
  | lookup t x i ok => exact op_lookup s hc hv e
  | mapUpdate t x k v => exact op_mapUpdate s hc hv e
  | call c =>
    obtain ⟨callee, args, argTypes⟩ := c
    cases callee with
    | builtin b => exact op_builtin s hc hv e
    | value f => cases hc
    | invoke r n => cases hc
  | _ => cases hc

theorem upon_enter' {o : Oper} {a : Act} {K : Act → World → Prop} {Q : Exit → Act → World → Prop} {f : FuncId} {args' : List Value} {args : List Value} {R : Value → Hp → Prop} (c : ACall P f args h R) (ra : RVs m args args') (s : Sim base w0 m h w)
    (hr : (execOp a.eval o).run P w = (callFunc f args'.toArray).run P w)
    (hk : ∀ m' v v' w' h', m.le m' → RV m' v v' → Sim base w0 m' h' w' → R v h' → K (a.put o.dst v') w') : o.wp P a w K Q := by
  obtain ⟨fn, hf, hb, hn⟩ := c.1
  have hcf : (callFunc f args'.toArray).run P w = .ok (.enter f args'.toArray) w := by
    simp [callFunc, program, Sem.run, hf, hb, hn]
  unfold Oper.wp
  rw [hr, hcf]
  show Calls P f args'.toArray w _
  refine (c.2 base w0 m w args' ra s).mono ?_
  rintro e w' ⟨m', v, v', h', rfl, h1, h2, h3, h4⟩
  exact hk m' v v' w' h' h1 h2 h3 h4

theorem wpIn_sound {ops : Array Oper} {o : Oper} {ix : Nat} {i : In} {R : Value → Hp → Prop} {a : Act} {K : Act → World → Prop} {Q : Exit → Act → World → Prop} (hix : ops[ix]? = some o) (hi : compIn P n ops o = some i) (r : REnv m n env a.tmps) (s : Sim base w0 m h w)
    (e : wpIn P (ACall P) i env h R) (hk : ∀ m' v v' w' h', m.le m' → RV m' v v' → Sim base w0 m' h' w' → R v h' → K (a.put o.dst v') w') : wpOp P ops Q ix K a w := by
  unfold compIn at hi
  split at hi
  case isFalse => cases hi
  case isTrue hd =>
  split at hi
  case h_2 => cases hi
  case h_1 g k hg hkk =>
  cases hi
  unfold wpOp
  rw [hix]
  simp only
  unfold wpIn at e
  simp only at e
  split at e
  · exact e.elim
  · next hw =>
    rw [wanted_sound hg r hw, if_neg (by simp)]
    exact hk m undef undef w h m.le_refl (.tuple rfl (by simp)) s e
  · next hw =>
    rw [wanted_sound hg r hw, if_pos rfl]
    refine .inl ?_
    have fin : ∀ (v : Value) (h' : Hp), Snd1 P base w0 m w (execOp a.eval o) v h' → R v h' → o.wp P a w K Q := by
      rintro v h' ⟨m', v', w', hr, h1, h2, h3⟩ hR
      unfold Oper.wp
      rcases hr with hr | ⟨hr, rfl⟩
      · rw [hr]; exact hk m' v v' w' h' h1 h2 h3 hR
      · rw [hr]; exact hk m' v undef w' h' h1 h2 h3 hR
    have plain : ∀ (op : Op), o.op = op → (match compOp P op with | some (k, xs) => some (IK.op k xs) | none => some (.fl op o.type)) = some k → (∀ cs b, op ≠ .select cs b) → o.wp P a w K Q := by
      intro op ho hc hs
      split at hc
      · next k1 xs hcomp =>
        cases hc
        simp only at e
        split at e
        · exact e.elim
        · next vs hvs =>
          split at e
          · exact e.elim
          · next v h' hst => exact fin v h' (op_sound (fun c => rfl) s (by rw [ho]; exact hcomp) (r.mapE hvs) hst) e
      · next hcomp =>
        cases hc
        simp only at e
        split at e
        · exact e.elim
        · next v hst =>
          obtain ⟨h1, h2⟩ := flatStep_sound (w := w) r (o := o) (by rw [ho]; exact hs) (by rw [ho]; exact hst)
          exact fin v h ⟨m, v, w, .inl h1, m.le_refl, h2, s⟩ e
    unfold compK at hkk
    split at hkk
    · next f args _ ho =>
      cases hkk
      simp only at e
      split at e
      · exact e.elim
      · next vs hvs =>
        refine upon_enter' e (r.mapE hvs) s ?_ hk
        have : args.map a.eval = (args.toList.map a.eval).toArray := by apply Array.ext'; simp
        simp [execOp, ho, resolve, Deferred.ofValue, Act.eval, invoke, this]
    · next x args _ hx ho =>
      cases hkk
      simp only at e
      split at e
      · next f pa pb vs hx2 hvs =>
        have rx := r.eval hx2
        obtain ⟨pa⟩ := pa
        obtain ⟨pb⟩ := pb
        generalize hy : a.eval x = y at rx
        cases rx with
        | @func _ _ a2 _ b2 h1 h2 h3 h4 =>
          refine upon_enter' (args' := a2 ++ args.toList.map a.eval ++ b2) e (RVs.append (RVs.append ⟨h1, h3⟩ (r.mapE hvs)) ⟨h2, h4⟩) s ?_ hk
          have : args.map a.eval = (args.toList.map a.eval).toArray := by apply Array.ext'; simp
          simp [execOp, ho, resolve, Deferred.ofValue, hy, invoke, this]
      · exact e.elim
    · cases hkk
    · cases hkk
    · cases hkk
    · cases hkk
    · cases hkk
    · cases hkk
    · cases hkk
    · next op _ _ _ _ _ _ _ _ _ _ => exact plain _ rfl hkk (by intro cs b hh; simp_all)

theorem wpS_sound {ops : Array Oper} {Q : Env → Hp → Prop} {Q' : Exit → Act → World → Prop} : ∀ (suf pre : List Oper) (ins : List In) (m : Mu) (env : Env) (h : Hp) (a : Act) (w : World), ops.toList = pre ++ suf → compIns P n ops suf = some ins → REnv m n env a.tmps → a.defers = [] → Sim base w0 m h w →
    wpS P (ACall P) ins env h Q → (∀ m' env' h' a' w', m.le m' → REnv m' n env' a'.tmps → a'.defers = [] → Sim base w0 m' h' w' → Q env' h' → Q' .normal a' w') →
    wpOps P ops Q' (List.range' pre.length suf.length) a w := by
  intro suf
  induction suf with
  | nil =>
    intro pre ins m env h a w hop hc r hdf s e hq
    cases hc
    exact hq m env h a w m.le_refl r hdf s e
  | cons o suf ih =>
    intro pre ins m env h a w hop hc r hdf s e hq
    simp only [compIns] at hc
    split at hc
    case h_2 => cases hc
    case h_1 i hi =>
    split at hc
    case h_2 => cases hc
    case h_1 is his =>
    cases hc
    simp only [List.length_cons, List.range'_succ]
    rw [wpOps_cons]
    have hix : ops[pre.length]? = some o := by
      rw [← Array.getElem?_toList, hop]; simp
    have hdn : ∀ x, o.dst = some x → x < n := by
      intro x hx
      unfold compIn at hi
      split at hi
      · next hd => rw [hx] at hd; simpa [dOk] using hd
      · cases hi
    have hid : i.d = o.dst := by
      unfold compIn at hi
      split at hi
      · split at hi
        · cases hi; rfl
        · cases hi
      · cases hi
    refine wpIn_sound hix hi r s e ?_
    intro m' v v' w' h' h1 h2 h3 h4
    have := ih (pre ++ [o]) is m' (env.put i.d v) h' (a.put o.dst v') w' (by rw [hop]; simp) his (by rw [hid]; exact (r.mono h1).put hdn h2) (by cases o.dst <;> exact hdf) h3 h4 (fun m2 env' h2 a' w2 hm => hq m2 env' h2 a' w2 (Mu.le_trans h1 hm))
    simpa using this
end
end Go.Proofs.YtnebdnbglggdkaaDoorW.Am
