/- Regions whose order is open: the order that stands for all, reckoned and checked. -/
import Derived.Test.YtapbmmlgmcmpnaaDoorTextNumbersK1
namespace Go.Proofs.YtapbmmlgmcmpnaaDoorW.Am
open Go Go.RowKit

/-- Of each operation: which ones come ahead of it in every order (bits). -/
def maskOf (acc : List Nat) (o : Oper) : Nat := o.after.toList.foldl (fun s e => if Region.binds .any e then s ||| 2 ^ e.on ||| acc.getD e.on 0 else s) 0
def masksGo : List Oper → List Nat → List Nat
  | [], acc => acc
  | o :: r, acc => masksGo r (acc ++ [maskOf acc o])
def masks (ops : Array Oper) : List Nat := masksGo ops.toList []
def readyNow (ops : Array Oper) (done : List Nat) (i : Nat) : Bool :=
  match ops[i]? with
  | some o => o.after.all fun e => !Region.binds .any e || done.contains e.on
  | none => false
/-- Reads as early as they may be; then the next write. -/
def eagerGo (ops : Array Oper) (eff : Nat → Bool) : Nat → List Nat → List Nat → List Nat
  | 0, _, done => done
  | fuel + 1, left, done =>
    match left.find? (fun i => !eff i && readyNow ops done i) with
    | some i => eagerGo ops eff fuel (left.erase i) (done ++ [i])
    | none => match left.find? (fun i => readyNow ops done i) with
      | some i => eagerGo ops eff fuel (left.erase i) (done ++ [i])
      | none => done
/-- Does the instruction write a slot that one ahead of it (in the text) reads or writes? -/
def warOf (ins : List In) (ix : Nat) : Bool := match ins[ix]? with
  | some i => match i.d with
    | some d => (ins.take ix).any fun y => (looks y).contains d || y.d == some d
    | none => false
  | none => false
def triples (P : Program) (n : Nat) (ops : Array Oper) : List Nat → Option (List (Nat × In))
  | [] => some []
  | ix :: r => match ops[ix]? with
    | some o => match compIn P n ops o, triples P n ops r with
      | some i, some ts => some ((ix, i) :: ts)
      | _, _ => none
    | none => none
def buildL (mk : Nat → Nat) (ef : Nat → Bool) (p : List DE) : List (Nat × In) → List DE
  | [] => []
  | (ix, i) :: r =>
    let x : DE := ⟨ix, i, effIn i || ef ix, if effIn i then (p.filter fun y => !y.eff && !pureIn y.i && !(mk ix).testBit y.ix).map (·.i) else []⟩
    x :: buildL mk ef (p ++ [x]) r
def chkOne (mk : Nat → Nat) (ops : Array Oper) (p : List DE) (x : DE) (q : List DE) : Bool :=
  (match ops[x.ix]? with
    | some o => (o.after.toList.all fun e => !Region.binds .any e || (p.map (·.ix)).contains e.on) &&
      (p.all fun y => y.eff || match y.i.d with
        | some d => !(looks x.i).contains d || o.after.toList.any fun e => Region.binds .any e && e.on == y.ix
        | none => true)
    | none => false) &&
  (x.eff || match x.i.d with | some d => !(looks x.i).contains d | none => true) &&
  (q.all fun y => match y.i.d with
    | some d => (!(looks x.i).contains d && x.i.d != some d) || (y.eff && (mk y.ix).testBit x.ix)
    | none => true) &&
  (x.eff || pureIn x.i || x.i.d.isSome)
def chkL (mk : Nat → Nat) (ops : Array Oper) (p : List DE) : List DE → Bool
  | [] => true
  | x :: q => chkOne mk ops p x q && chkL mk ops (p ++ [x]) q
def drawL (P : Program) (n : Nat) (ops : Array Oper) : Option (List DE) :=
  let mk := masks ops
  match compIns P n ops ops.toList with
  | none => none
  | some ins =>
    let order := eagerGo ops (fun i => (match ins[i]? with | some x => effIn x | none => true) || warOf ins i) ops.size (List.range ops.size) []
    match triples P n ops order with
    | none => none
    | some ts =>
      let L := buildL (fun i => mk.getD i 0) (warOf ins) [] ts
      if (decide (L.length = ops.size) && decide (L.map (·.ix)).Nodup && ((List.range ops.size).all fun i => (L.map (·.ix)).contains i) && eagerOk (fun i => mk.getD i 0) none L && chkL (fun i => mk.getD i 0) ops [] L) = true then some L else none

section
variable {P : Program} {n : Nat} {ops : Array Oper} {mk : Nat → Nat}

theorem fold_bit {acc : List Nat} {j : Nat} : ∀ (l : List Edge) (s : Nat), (l.foldl (fun s e => if Region.binds .any e then s ||| 2 ^ e.on ||| acc.getD e.on 0 else s) s).testBit j = true →
    s.testBit j = true ∨ ∃ e ∈ l, Region.binds .any e = true ∧ (e.on = j ∨ (acc.getD e.on 0).testBit j = true) := by
  intro l
  induction l with
  | nil => intro s h; exact .inl h
  | cons e l ih =>
    intro s h
    simp only [List.foldl_cons] at h
    rcases ih _ h with h1 | ⟨e', he', hh⟩
    · split at h1
      · next hb =>
        rw [Nat.testBit_or, Nat.testBit_or, Bool.or_eq_true, Bool.or_eq_true] at h1
        rcases h1 with (h1 | h1) | h1
        · exact .inl h1
        · refine .inr ⟨e, by simp, hb, .inl ?_⟩
          rw [Nat.testBit_two_pow] at h1
          simpa using h1
        · exact .inr ⟨e, by simp, hb, .inr h1⟩
      · exact .inl h1
    · exact .inr ⟨e', by simp [he'], hh⟩

theorem masksGo_get : ∀ (l : List Oper) (acc : List Nat) (i : Nat), (masksGo l acc)[i]? = if i < acc.length then acc[i]? else (match l[i - acc.length]? with | some o => some (maskOf ((masksGo l acc).take i) o) | none => none) := by
  intro l
  induction l with
  | nil =>
    intro acc i
    simp only [masksGo]
    split
    · rfl
    · next h => rw [List.getElem?_eq_none (by omega)]; simp
  | cons o l ih =>
    intro acc i
    simp only [masksGo]
    rw [ih]
    simp only [List.length_append, List.length_cons, List.length_nil]
    by_cases h1 : i < acc.length
    · rw [if_pos (by omega), if_pos h1, List.getElem?_append_left h1]
    · rw [if_neg h1]
      by_cases h2 : i = acc.length
      · subst h2
        rw [if_pos (by omega)]
        simp only [Nat.sub_self, List.getElem?_cons_zero]
        rw [List.getElem?_append_right (Nat.le_refl _)]
        simp only [Nat.sub_self, List.getElem?_cons_zero]
        have : (masksGo l (acc ++ [maskOf acc o])).take acc.length = acc := by
          refine List.ext_getElem? fun j => ?_
          rw [List.getElem?_take]
          split
          · next hj => rw [ih, if_pos (by simp; omega), List.getElem?_append_left hj]
          · next hj => rw [List.getElem?_eq_none (by omega)]
        rw [this]
      · rw [if_neg (by omega), show i - acc.length = (i - (acc.length + (0 + 1))) + 1 by omega]
        simp only [List.getElem?_cons_succ]

theorem mask_closed (D : Nat → Prop) (hD : ∀ (i : Nat) (o : Oper), ops[i]? = some o → D i → ∀ e ∈ o.after, Region.binds .any e = true → D e.on) :
    ∀ (i : Nat) (o : Oper), ops[i]? = some o → (∀ e ∈ o.after, Region.binds .any e = true → D e.on) → ∀ j, (((masks ops).getD i 0).testBit j = true) → D j := by
  intro i
  induction i using Nat.strongRecOn with
  | _ i ih =>
    intro o ho hp j hj
    have hg := masksGo_get ops.toList [] i
    simp only [List.length_nil, Nat.not_lt_zero, if_false, Nat.sub_zero] at hg
    have hoL : ops.toList[i]? = some o := by rw [Array.getElem?_toList]; exact ho
    simp only [hoL] at hg
    unfold masks at hj
    rw [List.getD_eq_getElem?_getD, hg, Option.getD_some] at hj
    unfold maskOf at hj
    rcases fold_bit _ _ hj with h | ⟨e, he, hb, h⟩
    · simp at h
    · have hDe := hp e (by simpa using he) hb
      rcases h with rfl | h
      · exact hDe
      · rw [List.getD_eq_getElem?_getD, List.getElem?_take] at h
        split at h
        · next hlt =>
          cases hoe : ops[e.on]? with
          | none =>
            have hl := masksGo_get ops.toList [] e.on
            simp only [List.length_nil, Nat.not_lt_zero, if_false, Nat.sub_zero] at hl
            have hoL : ops.toList[e.on]? = none := by rw [Array.getElem?_toList]; exact hoe
            simp only [hoL] at hl
            rw [hl] at h
            simp at h
          | some oe =>
            refine ih e.on hlt oe hoe (fun e2 h2 hb2 => hD e.on oe hoe hDe e2 h2 hb2) j ?_
            unfold masks
            rw [List.getD_eq_getElem?_getD]
            exact h
        · simp at h

theorem triples_of : ∀ {ixs : List Nat} {ts : List (Nat × In)}, triples P n ops ixs = some ts → ∀ p ∈ ts, ∃ o, ops[p.1]? = some o ∧ compIn P n ops o = some p.2 := by
  intro ixs
  induction ixs with
  | nil => intro ts e p hp; cases e; cases hp
  | cons ix ixs ih =>
    intro ts e p hp
    simp only [triples] at e
    split at e
    case h_2 => cases e
    case h_1 o ho =>
    split at e
    case h_2 => cases e
    case h_1 i ts' hi hts =>
    cases e
    rcases List.mem_cons.1 hp with rfl | hp
    · exact ⟨o, ho, hi⟩
    · exact ih hts p hp
theorem buildL_mem {ef : Nat → Bool} : ∀ {ts : List (Nat × In)} {p : List DE} {x : DE}, x ∈ buildL mk ef p ts → (x.ix, x.i) ∈ ts ∧ x.eff = (effIn x.i || ef x.ix) := by
  intro ts
  induction ts with
  | nil => intro p x hx; cases hx
  | cons t ts ih =>
    intro p x hx
    obtain ⟨ix, i⟩ := t
    simp only [buildL] at hx
    rcases List.mem_cons.1 hx with rfl | hx
    · exact ⟨by simp, rfl⟩
    · obtain ⟨h1, h2⟩ := ih hx
      exact ⟨by simp [h1], h2⟩
theorem buildL_re {ef : Nat → Bool} : ∀ {ts : List (Nat × In)} {p0 p q : List DE} {x : DE}, buildL mk ef p0 ts = p ++ x :: q → x.re = if effIn x.i then ((p0 ++ p).filter fun y => !y.eff && !pureIn y.i && !(mk x.ix).testBit y.ix).map (·.i) else [] := by
  intro ts
  induction ts with
  | nil => intro p0 p q x e; simp [buildL] at e
  | cons t ts ih =>
    intro p0 p q x e
    obtain ⟨ix, i⟩ := t
    simp only [buildL] at e
    cases p with
    | nil =>
      simp only [List.nil_append, List.cons.injEq] at e
      obtain ⟨rfl, _⟩ := e
      simp
    | cons y p =>
      simp only [List.cons_append, List.cons.injEq] at e
      obtain ⟨rfl, e⟩ := e
      have := ih e
      simpa using this
theorem chkL_at : ∀ {l p0 p q : List DE} {x : DE}, chkL mk ops p0 l = true → l = p ++ x :: q → chkOne mk ops (p0 ++ p) x q = true := by
  intro l
  induction l with
  | nil => intro p0 p q x _ e; simp at e
  | cons y l ih =>
    intro p0 p q x hc e
    simp only [chkL, Bool.and_eq_true] at hc
    cases p with
    | nil =>
      simp only [List.nil_append, List.cons.injEq] at e
      obtain ⟨rfl, rfl⟩ := e
      simpa using hc.1
    | cons z p =>
      simp only [List.cons_append, List.cons.injEq] at e
      obtain ⟨rfl, e⟩ := e
      have := ih hc.2 e
      simpa using this

theorem fine_of {L : List DE} (e : drawL P n ops = some L) : Fine P n ops (fun i => (masks ops).getD i 0) L := by
  unfold drawL at e
  simp only at e
  split at e
  · cases e
  next ins hins =>
  split at e
  · cases e
  next ts hts =>
  split at e
  case isFalse => cases e
  case isTrue hc =>
  cases e
  simp only [Bool.and_eq_true, decide_eq_true_eq] at hc
  obtain ⟨⟨⟨⟨_, h1⟩, h2⟩, h3⟩, h4⟩ := hc
  refine ⟨?_, h1, ?_, ?_, ?_, ?_, h3, ?_, ?_, fun D hD => mask_closed D hD⟩
  · intro x hx
    obtain ⟨g1, g2⟩ := buildL_mem hx
    obtain ⟨o, ho, hi⟩ := triples_of hts _ g1
    refine ⟨o, ho, hi, fun hq => ?_⟩
    rw [g2, Bool.or_eq_false_iff] at hq
    have hq := hq.1
    cases hp : pureIn x.i with
    | true => exact .inl rfl
    | false => right; simpa [effIn, hp] using hq
  · intro i hi
    rw [List.all_eq_true] at h2
    have := h2 i (by simpa using hi)
    simpa using this
  · intro p x q hL o ho e he hb
    have hk := chkL_at h4 hL
    simp only [chkOne, ho, List.nil_append, Bool.and_eq_true] at hk
    have := List.all_eq_true.1 hk.1.1.1.1 e (by simpa using he)
    rw [hb] at this
    simpa using this
  · intro p x q hL
    have hk := chkL_at h4 hL
    simp only [chkOne, Bool.and_eq_true] at hk
    refine ⟨fun hxe d hd => ?_, fun y hy d hd => ?_⟩
    · have := hk.1.1.2
      rw [hd, hxe] at this
      simpa using this
    · have := List.all_eq_true.1 hk.1.2 y hy
      rw [hd] at this
      simp only [Bool.or_eq_true, Bool.and_eq_true] at this
      rcases this with h | h
      · exact .inl (by simpa using h)
      · exact .inr h
  · intro p x q hL y hy hye d hd hm
    have hk := chkL_at h4 hL
    simp only [chkOne, List.nil_append, Bool.and_eq_true] at hk
    have hk1 := hk.1.1.1
    split at hk1
    · next o ho =>
      simp only [Bool.and_eq_true] at hk1
      have := List.all_eq_true.1 hk1.2 y hy
      rw [hd, hye] at this
      simp only [Bool.false_or, Bool.or_eq_true] at this
      rcases this with this | this
      · simp [hm] at this
      · obtain ⟨e, he, hh⟩ := List.any_eq_true.1 this
        simp only [Bool.and_eq_true, beq_iff_eq] at hh
        exact ⟨o, e, ho, by simpa using he, hh.1, hh.2⟩
    · cases hk1
  · intro p x q hL hx hxe y hy hye hyp hb
    have := buildL_re hL
    rw [if_pos hxe] at this
    rw [this]
    refine List.mem_map_of_mem (List.mem_filter.2 ⟨by simpa using hy, ?_⟩)
    rw [hye, hyp, hb]; rfl
  · intro x hx hxe hxp
    obtain ⟨p, q, hL⟩ := List.append_of_mem hx
    have hk := chkL_at h4 hL
    simp only [chkOne, Bool.and_eq_true] at hk
    have := hk.2
    rw [hxe, hxp] at this
    simpa using this

/-- The order that is reckoned stands for all. -/
theorem draw_sound {base : Nat} {w0 w : World} {m : Mu} {h : Hp} {env : Env} {L : List DE} {Q : Env → Hp → Prop} {Q' : Exit → Act → World → Prop} {a : Act} (e : drawL P n ops = some L) (r : REnv m n env a.tmps) (hd : a.defers = []) (s : Sim base w0 m h w) (hw : wpD P (ACall P) L env h Q)
    (hq : ∀ m' env' h' a' w', m.le m' → REnv m' n env' a'.tmps → a'.defers = [] → Sim base w0 m' h' w' → Q env' h' → Q' .normal a' w') :
    wpAny P .any ops Q' ops.size (Array.replicate ops.size false) a w := by
  have F := fine_of e
  have hlen : L.length = ops.size := by
    unfold drawL at e
    simp only at e
    split at e
    · cases e
    split at e
    · cases e
    split at e
    case isFalse => cases e
    case isTrue hc =>
    cases e
    simp only [Bool.and_eq_true, decide_eq_true_eq] at hc
    exact hc.1.1.1.1
  refine Inv.run F (m0 := m) hq ops.size _ [] L [] none m env h a w (by simp) (by simpa using hlen) ⟨rfl, List.Sublist.refl _, by simp, hw, ?_, ?_, ?_, F.eager, by simp, ⟨r.1, fun t v ev _ => r.2 t v ev⟩, hd, s, m.le_refl⟩
  · intro i hi
    constructor
    · intro hx; simp [hi] at hx
    · rintro ⟨h1, _⟩; exact absurd (F.all i hi) h1
  · intro i hx
    have := (Array.getElem?_eq_some_iff.1 hx).1
    simpa using this
  · intro i o _ hx
    have hi := (Array.getElem?_eq_some_iff.1 hx).1
    simp at hi
    simp [hi] at hx
end
end Go.Proofs.YtapbmmlgmcmpnaaDoorW.Am
/- Code: what is to be shown of it over abstract heaps, and the rules. -/
namespace Go.Proofs.YtapbmmlgmcmpnaaDoorW.Am
open Go Go.RowKit

inductive IC
  | skip
  | reg (ins : List In)
  | drw (L : List DE)
  | seq (a b : IC)
  | cond (c : Operand) (a b : IC)
  | block (id : Nat) (a : IC)
  | loop (a : IC)
  | exit (id : Nat)
  | ret

/-- Code as instructions. A region whose order is open stays as it is. -/
def compC (P : Program) (n : Nat) : Code → Option IC
  | .skip => some .skip
  | .region _ ops draw => if draw then (drawL P n ops).map .drw else (compIns P n ops ops.toList).map .reg
  | .seq a b => match compC P n a, compC P n b with
    | some x, some y => some (.seq x y)
    | _, _ => none
  | .cond c a b => match compC P n a, compC P n b with
    | some x, some y => some (.cond c x y)
    | _, _ => none
  | .block id a => (compC P n a).map (.block id)
  | .loop a => (compC P n a).map .loop
  | .exit id => some (.exit id)
  | .ret => some .ret
  | _ => none

/-- What is to be shown of code. -/
def AW (P : Program) (n : Nat) (c : Code) (env : Env) (h : Hp) (Q : Exit → Env → Hp → Prop) : Prop :=
  ∀ base w0 m a w, REnv m n env a.tmps → a.defers = [] → Sim base w0 m h w →
    c.wp P (fun ex a' w' => ∃ m' env' h', m.le m' ∧ REnv m' n env' a'.tmps ∧ a'.defers = [] ∧ Sim base w0 m' h' w' ∧ Q ex env' h') a w
def AI (P : Program) (n : Nat) (c : IC) (env : Env) (h : Hp) (Q : Exit → Env → Hp → Prop) : Prop :=
  ∀ d, compC P n d = some c → AW P n d env h Q

def thenQ (P : Program) (n : Nat) (b : IC) (Q : Exit → Env → Hp → Prop) : Exit → Env → Hp → Prop
  | .normal, env, h => AI P n b env h Q
  | e, env, h => Q e env h
def blockQ (id : Nat) (Q : Exit → Env → Hp → Prop) : Exit → Env → Hp → Prop
  | .exit j, env, h => if j = id then Q .normal env h else Q (.exit j) env h
  | e, env, h => Q e env h

theorem exists_least {p : Nat → Prop} : ∀ k, p k → ∃ n, p n ∧ ∀ j, p j → n ≤ j := by
  intro k
  induction k using Nat.strongRecOn with
  | _ k ih =>
    intro hk
    by_cases h : ∃ j, j < k ∧ p j
    · obtain ⟨j, hj, pj⟩ := h
      exact ih j hj pj
    · exact ⟨k, hk, fun j pj => Nat.le_of_not_lt fun hlt => h ⟨j, hlt, pj⟩⟩
noncomputable def least (p : Nat → Prop) : Nat := open Classical in if h : ∃ n, p n ∧ ∀ j, p j → n ≤ j then Classical.choose h else 0
theorem least_spec {p : Nat → Prop} {k : Nat} (hk : p k) : p (least p) ∧ ∀ j, p j → least p ≤ j := by
  have h := exists_least k hk
  unfold least
  rw [dif_pos h]
  exact Classical.choose_spec h

section
variable {P : Program} {n : Nat} {env : Env} {h : Hp} {Q : Exit → Env → Hp → Prop}

theorem AW.mono {c : Code} {Q' : Exit → Env → Hp → Prop} (a : AW P n c env h Q) (hq : ∀ e env h, Q e env h → Q' e env h) : AW P n c env h Q' :=
  fun base w0 m ac w r hd s => wp_mono (a base w0 m ac w r hd s) fun _ _ _ ⟨m', env', h', h1, h2, h3, h4, h5⟩ => ⟨m', env', h', h1, h2, h3, h4, hq _ _ _ h5⟩
theorem AI.mono {c : IC} {Q' : Exit → Env → Hp → Prop} (a : AI P n c env h Q) (hq : ∀ e env h, Q e env h → Q' e env h) : AI P n c env h Q' :=
  fun d hd => (a d hd).mono hq

def EnvLe (a b : Env) : Prop := ∀ t v, a.get t = some v → b.get t = some v
/-- Less may be known of the frame. -/
theorem AI.weak {c : IC} {env' : Env} (hl : EnvLe env' env) (a : AI P n c env' h Q) : AI P n c env h Q :=
  fun d hd base w0 m ac w r hdf s => a d hd base w0 m ac w ⟨r.1, fun t v e => r.2 t v (hl t v e)⟩ hdf s

theorem ai_skip (hq : Q .normal env h) : AI P n .skip env h Q := by
  intro d hd base w0 m a w r hdf s
  cases d <;> simp only [compC, reduceCtorEq] at hd
  · exact wp_skip ⟨m, env, h, m.le_refl, r, hdf, s, hq⟩
  all_goals (first | (split at hd <;> simp at hd; done) | simp at hd)

theorem ai_ret (hq : Q .ret env h) : AI P n .ret env h Q := by
  intro d hd base w0 m a w r hdf s
  cases d <;> simp only [compC, reduceCtorEq] at hd
  case ret => exact wp_ret ⟨m, env, h, m.le_refl, r, hdf, s, hq⟩
  all_goals (first | (split at hd <;> simp at hd; done) | simp at hd)

theorem ai_exit {id : Nat} (hq : Q (.exit id) env h) : AI P n (.exit id) env h Q := by
  intro d hd base w0 m a w r hdf s
  cases d <;> simp only [compC, reduceCtorEq, Option.some.injEq, IC.exit.injEq] at hd
  case exit j => subst hd; exact wp_exit ⟨m, env, h, m.le_refl, r, hdf, s, hq⟩
  all_goals (first | (split at hd <;> simp at hd; done) | simp at hd)

theorem ai_seq {x y : IC} (hx : AI P n x env h (thenQ P n y Q)) : AI P n (.seq x y) env h Q := by
  intro d hd base w0 m a w r hdf s
  cases d <;> simp only [compC, reduceCtorEq] at hd
  case seq c1 c2 =>
    split at hd
    case h_2 => cases hd
    case h_1 x' y' h1 h2 =>
    cases hd
    refine wp_seq (wp_mono (hx c1 h1 base w0 m a w r hdf s) ?_)
    rintro ex a' w' ⟨m', env', h', g1, g2, g3, g4, g5⟩
    cases ex with
    | normal =>
      refine wp_mono (g5 c2 h2 base w0 m' a' w' g2 g3 g4) ?_
      rintro ex a2 w2 ⟨m2, env2, h2, k1, k2⟩
      exact ⟨m2, env2, h2, Mu.le_trans g1 k1, k2⟩
    | exit j => exact ⟨m', env', h', g1, g2, g3, g4, g5⟩
    | goto l => exact ⟨m', env', h', g1, g2, g3, g4, g5⟩
    | ret => exact ⟨m', env', h', g1, g2, g3, g4, g5⟩
    | panic ch => exact ⟨m', env', h', g1, g2, g3, g4, g5⟩
    | outgrown => exact ⟨m', env', h', g1, g2, g3, g4, g5⟩
  all_goals (first | (split at hd <;> simp at hd; done) | simp at hd)

theorem ai_block {id : Nat} {x : IC} (hx : AI P n x env h (blockQ id Q)) : AI P n (.block id x) env h Q := by
  intro d hd base w0 m a w r hdf s
  cases d <;> simp only [compC, reduceCtorEq] at hd
  case block j c =>
    simp only [Option.map_eq_some_iff, IC.block.injEq] at hd
    obtain ⟨x', h1, rfl, rfl⟩ := hd
    refine wp_block (wp_mono (hx c h1 base w0 m a w r hdf s) ?_)
    rintro ex a' w' ⟨m', env', h', g1, g2, g3, g4, g5⟩
    cases ex with
    | exit i =>
      simp only [blockQ] at g5
      simp only [Exit.inBlock]
      split
      · next hi => rw [if_pos hi] at g5; exact ⟨m', env', h', g1, g2, g3, g4, g5⟩
      · next hi => rw [if_neg hi] at g5; exact ⟨m', env', h', g1, g2, g3, g4, g5⟩
    | normal => exact ⟨m', env', h', g1, g2, g3, g4, g5⟩
    | goto l => exact ⟨m', env', h', g1, g2, g3, g4, g5⟩
    | ret => exact ⟨m', env', h', g1, g2, g3, g4, g5⟩
    | panic ch => exact ⟨m', env', h', g1, g2, g3, g4, g5⟩
    | outgrown => exact ⟨m', env', h', g1, g2, g3, g4, g5⟩
  all_goals (first | (split at hd <;> simp at hd; done) | simp at hd)

theorem ai_cond {c : Operand} {x y : IC} {b : Bool} (hc : evA env c = some (.bool b)) (hx : b = true → AI P n x env h Q) (hy : b = false → AI P n y env h Q) : AI P n (.cond c x y) env h Q := by
  intro d hd base w0 m a w r hdf s
  cases d <;> simp only [compC, reduceCtorEq] at hd
  case cond c' c1 c2 =>
    split at hd
    case h_2 => cases hd
    case h_1 x' y' h1 h2 =>
    cases hd
    have hv := (r.eval hc).scalar_bool
    exact wp_cond_split hv (fun hb => hx hb c1 h1 base w0 m a w r hdf s) (fun hb => hy hb c2 h2 base w0 m a w r hdf s)
  all_goals (first | (split at hd <;> simp at hd; done) | simp at hd)

theorem ai_reg {ins : List In} (hx : wpS P (ACall P) ins env h (fun env' h' => Q .normal env' h')) : AI P n (.reg ins) env h Q := by
  intro d hd base w0 m a w r hdf s
  cases d <;> simp only [compC, reduceCtorEq] at hd
  case region id ops draw =>
    split at hd
    · simp at hd
    · next hdr =>
      simp only [Option.map_eq_some_iff, IC.reg.injEq] at hd
      obtain ⟨is, h1, rfl⟩ := hd
      have hdr : draw = false := by simpa using hdr
      subst hdr
      refine wp_region ?_
      have := wpS_sound (P := P) (Q := fun env' h' => Q .normal env' h') (Q' := fun ex a' w' => ∃ m' env' h', m.le m' ∧ REnv m' n env' a'.tmps ∧ a'.defers = [] ∧ Sim base w0 m' h' w' ∧ Q ex env' h') ops.toList [] is m env h a w (by simp) h1 r hdf s hx
        (fun m' env' h' a' w' g1 g2 g3 g4 g5 => ⟨m', env', h', g1, g2, g3, g4, g5⟩)
      simpa [List.range_eq_range'] using this
  all_goals (first | (split at hd <;> simp at hd; done) | simp at hd)

theorem ai_drw {L : List DE} (hm : P.follows .mixedOrders = true) (hx : wpD P (ACall P) L env h (fun env' h' => Q .normal env' h')) : AI P n (.drw L) env h Q := by
  intro d hd base w0 m a w r hdf s
  cases d <;> simp only [compC, reduceCtorEq] at hd
  case region id ops draw =>
    split at hd
    · next hdr =>
      simp only [Option.map_eq_some_iff, IC.drw.injEq] at hd
      obtain ⟨L', h1, rfl⟩ := hd
      subst hdr
      refine wp_region_any hm ?_
      exact draw_sound h1 r hdf (s.drawn _ (by omega)) hx (fun m' env' h' a' w' g1 g2 g3 g4 g5 => ⟨m', env', h', g1, g2, g3, g4, g5⟩)
    · simp at hd
  all_goals (first | (split at hd <;> simp at hd; done) | simp at hd)

/-- What a round of a loop leaves. -/
def roundQ (I : Env → Hp → Nat → Prop) (k : Nat) (Q : Exit → Env → Hp → Prop) : Exit → Env → Hp → Prop
  | .normal, env, h => ∃ j, j < k ∧ I env h j
  | e, env, h => Q e env h
/-- A loop: what holds at each round's head (with a number that falls). -/
theorem ai_loop {x : IC} (I : Env → Hp → Nat → Prop) {k0 : Nat} (h0 : I env h k0) (round : ∀ env h k, I env h k → AI P n x env h (roundQ I k Q)) : AI P n (.loop x) env h Q := by
  intro d hd base w0 m a w r hdf s
  cases d <;> simp only [compC, reduceCtorEq] at hd
  case loop c =>
    simp only [Option.map_eq_some_iff, IC.loop.injEq] at hd
    obtain ⟨x', h1, rfl⟩ := hd
    let J : Act → World → Nat → Prop := fun a w k => ∃ m' env' h', m.le m' ∧ REnv m' n env' a.tmps ∧ a.defers = [] ∧ Sim base w0 m' h' w ∧ I env' h' k
    refine wp_loop (fun a w => ∃ k, J a w k) (fun a w => least (J a w)) ⟨k0, m, env, h, m.le_refl, r, hdf, s, h0⟩ ?_
    rintro a1 w1 ⟨k, hk⟩
    obtain ⟨⟨m1, env1, hp1, g1, g2, g3, g4, g5⟩, _⟩ := least_spec hk
    refine wp_mono (round env1 hp1 _ g5 c h1 base w0 m1 a1 w1 g2 g3 g4) ?_
    rintro ex a2 w2 ⟨m2, env2, hp2, k1, k2, k3, k4, k5⟩
    cases ex with
    | normal =>
      obtain ⟨j, hj, hI⟩ := k5
      have hJ : J a2 w2 j := ⟨m2, env2, hp2, Mu.le_trans g1 k1, k2, k3, k4, hI⟩
      exact ⟨⟨j, hJ⟩, Nat.lt_of_le_of_lt ((least_spec hJ).2 j hJ) hj⟩
    | exit i => exact ⟨m2, env2, hp2, Mu.le_trans g1 k1, k2, k3, k4, k5⟩
    | goto l => exact ⟨m2, env2, hp2, Mu.le_trans g1 k1, k2, k3, k4, k5⟩
    | ret => exact ⟨m2, env2, hp2, Mu.le_trans g1 k1, k2, k3, k4, k5⟩
    | panic ch => exact ⟨m2, env2, hp2, Mu.le_trans g1 k1, k2, k3, k4, k5⟩
    | outgrown => exact ⟨m2, env2, hp2, Mu.le_trans g1 k1, k2, k3, k4, k5⟩
  all_goals (first | (split at hd <;> simp at hd; done) | simp at hd)

/-- A function's results, out of its frame (slots alone) and memory. -/
def resOne (P : Program) (env : Env) (h : Hp) : ResultVar → Option Value
  | .tmp t => env.get t
  | .cell a t => match env.get a with
    | some (.pointer (some ⟨i, o, none⟩)) => match P.underlying t, P.info? t with
      | some d, some ti => if isAggD d then (h.rd i o ti.size).map fun vs => .agg ⟨vs⟩ else match h.rd i o 1 with
        | some [v] => some v
        | _ => none
      | _, _ => none
    | _ => none
def resAll (P : Program) (env : Env) (h : Hp) : List ResultVar → Option (List Value)
  | [] => some []
  | x :: r => match resOne P env h x, resAll P env h r with
    | some v, some vs => some (v :: vs)
    | _, _ => none
def pack : List Value → Value
  | [v] => v
  | vs => .tuple ⟨vs⟩

def resSem (tmps : Array Value) : ResultVar → Sem Value
  | .tmp t => pure (tmps.getD t undef)
  | .cell b t => do loadVar t (← asAddr (tmps.getD b undef))

theorem resOne_sound {base : Nat} {w0 w : World} {m : Mu} {a : Act} (r : REnv m n env a.tmps) (s : Sim base w0 m h w) {x : ResultVar} {v : Value} (e : resOne P env h x = some v) :
    ∃ v', (resSem a.tmps x).run P w = .ok v' w ∧ RV m v v' := by
  cases x with
  | tmp t =>
    obtain ⟨v', h1, h2⟩ := r.2 t v e
    refine ⟨v', ?_, h2⟩
    simp [resSem, Array.getD_eq_getD_getElem?, h1]
  | cell b t =>
    simp only [resOne] at e
    split at e
    case h_2 => cases e
    case h_1 i o hb =>
    split at e
    case h_2 => cases e
    case h_1 d ti hu hi =>
    obtain ⟨v', h1, h2⟩ := r.2 b _ hb
    have hg : a.tmps.getD b undef = v' := by simp [Array.getD_eq_getD_getElem?, h1]
    have hla : ∀ v2, (Instr.loadAt t v').run P w = .ok v2 w → (do loadVar t (← asAddr (a.tmps.getD b undef)) : Sem Value).run P w = .ok v2 w := by
      intro v2 hl
      rw [hg]
      cases h2 with
      | ptr hl2 => exact hl
    split at e
    · next hd =>
      simp only [Option.map_eq_some_iff] at e
      obtain ⟨vs, hrd, he⟩ := e
      subst he
      obtain ⟨v2, k1, k2⟩ := run_loadn (P := P) s hu hd hi rfl h2 hrd
      exact ⟨v2, hla v2 k1, k2⟩
    · next hd =>
      split at e
      · next v0 hrd =>
        cases e
        obtain ⟨v2, k1, k2⟩ := run_load1 (P := P) s hu (by simpa using hd) h2 hrd
        exact ⟨v2, hla v2 k1, k2⟩
      · cases e

theorem resAll_sound {base : Nat} {w0 w : World} {m : Mu} {a : Act} (r : REnv m n env a.tmps) (s : Sim base w0 m h w) : ∀ {xs : List ResultVar} {vs : List Value}, resAll P env h xs = some vs →
    ∃ vs', (xs.mapM (resSem a.tmps)).run P w = .ok vs' w ∧ RVs m vs vs' := by
  intro xs
  induction xs with
  | nil => intro vs e; cases e; exact ⟨[], rfl, RVs.nil m⟩
  | cons x xs ih =>
    intro vs e
    simp only [resAll] at e
    split at e
    case h_2 => cases e
    case h_1 v us hv hus =>
    cases e
    obtain ⟨v', h1, h2⟩ := resOne_sound r s hv
    obtain ⟨vs', h3, h4⟩ := ih hus
    refine ⟨v' :: vs', ?_, RVs.cons h2 h4⟩
    simp only [List.mapM_cons, Sem.run_bind, h1, Result.andThen_ok, h3]
    rfl

theorem results_sound {base : Nat} {w0 w : World} {m : Mu} {a : Act} {fn : Func} (r : REnv m n env a.tmps) (s : Sim base w0 m h w) {vs : List Value} (e : resAll P env h fn.results.toList = some vs) :
    ∃ v', (results fn a.tmps).run P w = .ok v' w ∧ RV m (pack vs) v' := by
  obtain ⟨vs', h1, h2⟩ := resAll_sound r s e
  have hrun : (results fn a.tmps).run P w = .ok (if h : (vs'.toArray).size = 1 then (vs'.toArray)[0] else .tuple vs'.toArray) w := by
    unfold results
    rw [Array.mapM_eq_mapM_toList]
    simp only [Sem.run_bind, Sem.run_map]
    erw [h1]
    rfl
  refine ⟨_, hrun, ?_⟩
  cases vs with
  | nil =>
    obtain rfl := h2.cases_nil
    simp [pack]
    exact .tuple rfl (by simp)
  | cons v vs =>
    obtain ⟨v', us, rfl, r1, r2⟩ := h2.cases_cons
    cases vs with
    | nil =>
      obtain rfl := r2.cases_nil
      simpa [pack] using r1
    | cons u vs =>
      obtain ⟨u', us, rfl, r3, r4⟩ := r2.cases_cons
      simp [pack]
      exact .tuple h2.1 h2.2

/-- The frame at a call's begin. -/
def envOf : Nat → List Value → Env
  | _, [] => []
  | k, v :: r => (k, v) :: envOf (k + 1) r
theorem envOf_get : ∀ (l : List Value) (k t : Nat) (v : Value), (envOf k l).get t = some v → k ≤ t ∧ l[t - k]? = some v := by
  intro l
  induction l with
  | nil => intro k t v e; cases e
  | cons x l ih =>
    intro k t v e
    simp only [envOf, Env.get] at e
    split at e
    · next hk => subst hk; cases e; exact ⟨Nat.le_refl _, by simp⟩
    · next hk =>
      obtain ⟨h1, h2⟩ := ih (k + 1) t v e
      refine ⟨by omega, ?_⟩
      rw [show t - k = (t - (k + 1)) + 1 by omega]
      simpa using h2

structure FI where
  n : Nat
  res : List ResultVar
  body : IC
def compF (P : Program) (fn : Func) : Option FI :=
  match fn.body with
  | some c => match compC P fn.ntmps c with
    | some ic => if fn.name = "runtime.NumGoroutine" then none else some ⟨fn.ntmps, fn.results.toList, ic⟩
    | none => none
  | none => none

/-- What a function's body leaves. -/
def endQ (P : Program) (res : List ResultVar) (R : Value → Hp → Prop) : Exit → Env → Hp → Prop
  | .normal, env, h | .ret, env, h => ∃ vs, resAll P env h res = some vs ∧ R (pack vs) h
  | _, _, _ => False

/-- A function is what its body is. -/
theorem acall {f : FuncId} {fn : Func} {fi : FI} {args : List Value} {R : Value → Hp → Prop} (hf : P.funcs[f]? = some fn) (hc : compF P fn = some fi) (hn : args.length ≤ fi.n) (hb : AI P fi.n fi.body (envOf 0 args) h (endQ P fi.res R)) : ACall P f args h R := by
  unfold compF at hc
  split at hc
  case h_2 => cases hc
  case h_1 c hbody =>
  split at hc
  case h_2 => cases hc
  case h_1 ic hic =>
  split at hc
  · cases hc
  next hname =>
  cases hc
  refine ⟨⟨fn, hf, by simp [hbody], hname⟩, ?_⟩
  intro base w0 m w args' ra s
  refine calls_of_wp hf hbody (wp_mono (hb c hic base w0 m _ w ⟨?_, ?_⟩ rfl s) ?_)
  · have := ra.1
    simp at hn ⊢
    omega
  · intro t v e
    obtain ⟨_, h1⟩ := envOf_get args 0 t v e
    obtain ⟨v', h2, h3⟩ := ra.get h1
    refine ⟨v', ?_, h3⟩
    have hlt := (List.getElem?_eq_some_iff.1 h2).1
    simp only [Nat.sub_zero] at h2 hlt
    rw [Array.getElem?_append_left (by simpa using hlt)]
    simpa using h2
  · rintro ex a' w' ⟨m', env', h', g1, g2, g3, g4, g5⟩
    cases ex with
    | normal =>
      obtain ⟨vs, e1, e2⟩ := g5
      obtain ⟨v', e3, e4⟩ := results_sound g2 g4 e1
      exact ⟨g3, v', e3, m', _, v', h', rfl, g1, e4, g4, e2⟩
    | ret =>
      obtain ⟨vs, e1, e2⟩ := g5
      obtain ⟨v', e3, e4⟩ := results_sound g2 g4 e1
      exact ⟨g3, v', e3, m', _, v', h', rfl, g1, e4, g4, e2⟩
    | exit i => exact g5.elim
    | goto l => exact g5.elim
    | panic ch => exact g5.elim
    | outgrown => exact g5.elim
end
end Go.Proofs.YtapbmmlgmcmpnaaDoorW.Am
/- For use: what the steps come to, in small lemmas. -/
namespace Go.Proofs.YtapbmmlgmcmpnaaDoorW.Am
open Go Go.RowKit
section
variable {P : Program} {CT : CTy} {r : List In} {env : Env} {h h' : Hp} {Q : Env → Hp → Prop} {d : Option Nat} {k : K} {xs : List Operand} {vs : List Value} {v : Value}

theorem flat_int (k : IntKind) (n : Int) : flat (.int k n) = true := rfl
theorem flat_bool (b : Bool) : flat (.bool b) = true := rfl
theorem flat_string (s : ByteArray) : flat (.string s) = true := rfl
theorem flat_nils (n c : Nat) : flat (.slice none n c) = true := rfl
theorem flat_nilp : flat (.pointer none) = true := rfl
theorem flat_nili : flat .nilIface = true := rfl
theorem flat_nilf : flat .nilFunc = true := rfl
theorem flat_nilm : flat (.map none) = true := rfl

/-- One operation. -/
def opS (env : Env) (k : K) (xs : List Operand) (h : Hp) : Option (Value × Hp) :=
  match mapE env xs with
  | some vs => stepK k vs h
  | none => none
theorem st (e : opS env k xs h = some (v, h')) (n : wpS P CT r (env.put d v) h' Q) : wpS P CT (⟨d, none, .op k xs⟩ :: r) env h Q := by
  unfold opS at e
  unfold wpS wpIn
  simp only [wanted]
  split at e
  · next vs hv => simp only [hv, e]; exact n
  · cases e
theorem stT {t : Nat} {b c : Bool} (g : env.get t = some (.bool c)) (hc : (c == b) = true) (e : opS env k xs h = some (v, h')) (n : wpS P CT r (env.put d v) h' Q) : wpS P CT (⟨d, some (t, b), .op k xs⟩ :: r) env h Q := by
  unfold opS at e
  unfold wpS wpIn
  simp only [wanted, g, hc]
  split at e
  · next vs hv => simp only [hv, e]; exact n
  · cases e
theorem stF {t : Nat} {b c : Bool} {ik : IK} (g : env.get t = some (.bool c)) (hc : (c == b) = false) (n : wpS P CT r (env.put d undef) h Q) : wpS P CT (⟨d, some (t, b), ik⟩ :: r) env h Q := by
  unfold wpS wpIn
  simp only [wanted, g, hc]
  exact n
theorem stU {t : Nat} {b : Bool} {ik : IK} (g : env.get t = some undef) (n : wpS P CT r (env.put d undef) h Q) : wpS P CT (⟨d, some (t, b), ik⟩ :: r) env h Q := by
  unfold wpS wpIn
  simp only [wanted, g, undef]
  exact n
theorem stC {f : FuncId} (e : mapE env xs = some vs) (c : CT f vs h fun v h' => wpS P CT r (env.put d v) h' Q) : wpS P CT (⟨d, none, .call f xs⟩ :: r) env h Q := by
  unfold wpS wpIn
  simp only [wanted, e]
  exact c
theorem stCT {f : FuncId} {t : Nat} {b c : Bool} (g : env.get t = some (.bool c)) (hc : (c == b) = true) (e : mapE env xs = some vs) (c : CT f vs h fun v h' => wpS P CT r (env.put d v) h' Q) : wpS P CT (⟨d, some (t, b), .call f xs⟩ :: r) env h Q := by
  unfold wpS wpIn
  simp only [wanted, g, hc, e]
  exact c

theorem thenQ_n {P : Program} {n : Nat} {b : IC} {Q : Exit → Env → Hp → Prop} {env : Env} {h : Hp} : thenQ P n b Q .normal env h = AI P n b env h Q := rfl
theorem thenQ_x {P : Program} {n : Nat} {b : IC} {Q : Exit → Env → Hp → Prop} {env : Env} {h : Hp} {i : Nat} : thenQ P n b Q (.exit i) env h = Q (.exit i) env h := rfl
theorem thenQ_r {P : Program} {n : Nat} {b : IC} {Q : Exit → Env → Hp → Prop} {env : Env} {h : Hp} : thenQ P n b Q .ret env h = Q .ret env h := rfl
theorem blockQ_n {j : Nat} {Q : Exit → Env → Hp → Prop} {env : Env} {h : Hp} : blockQ j Q .normal env h = Q .normal env h := rfl
theorem blockQ_x {j i : Nat} {Q : Exit → Env → Hp → Prop} {env : Env} {h : Hp} : blockQ j Q (.exit i) env h = if i = j then Q .normal env h else Q (.exit i) env h := rfl
theorem blockQ_r {j : Nat} {Q : Exit → Env → Hp → Prop} {env : Env} {h : Hp} : blockQ j Q .ret env h = Q .ret env h := rfl
theorem roundQ_n {I : Env → Hp → Nat → Prop} {k : Nat} {Q : Exit → Env → Hp → Prop} {env : Env} {h : Hp} : roundQ I k Q .normal env h = ∃ j, j < k ∧ I env h j := rfl
theorem roundQ_x {I : Env → Hp → Nat → Prop} {k i : Nat} {Q : Exit → Env → Hp → Prop} {env : Env} {h : Hp} : roundQ I k Q (.exit i) env h = Q (.exit i) env h := rfl
theorem roundQ_r {I : Env → Hp → Nat → Prop} {k : Nat} {Q : Exit → Env → Hp → Prop} {env : Env} {h : Hp} : roundQ I k Q .ret env h = Q .ret env h := rfl
theorem end_one {P : Program} {t : Nat} {R : Value → Hp → Prop} {env : Env} {h : Hp} {v : Value} (e : env.get t = some v) (r : R v h) : endQ P [.tmp t] R .ret env h := ⟨[v], by simp [resAll, resOne, e], r⟩
theorem end_two {P : Program} {t u : Nat} {R : Value → Hp → Prop} {env : Env} {h : Hp} {v w : Value} (e : env.get t = some v) (e2 : env.get u = some w) (r : R (.tuple #[v, w]) h) : endQ P [.tmp t, .tmp u] R .ret env h := ⟨[v, w], by simp [resAll, resOne, e, e2], r⟩
theorem end_oneN {P : Program} {t : Nat} {R : Value → Hp → Prop} {env : Env} {h : Hp} {v : Value} (e : env.get t = some v) (r : R v h) : endQ P [.tmp t] R .normal env h := ⟨[v], by simp [resAll, resOne, e], r⟩
end
end Go.Proofs.YtapbmmlgmcmpnaaDoorW.Am
/- For use, second part: numbers, slices that are read, rows that grow, loops. -/
namespace Go.Proofs.YtapbmmlgmcmpnaaDoorW.Am
open Go Go.RowKit
section
variable {P : Program} {CT : CTy} {r : List In} {env : Env} {h h' : Hp} {Q : Env → Hp → Prop} {d : Option Nat} {k : K} {xs : List Operand} {vs : List Value} {v : Value}

theorem st_v {v2 : Value} (e : opS env k xs h = some (v, h')) (hv : v = v2) (n : wpS P CT r (env.put d v2) h' Q) : wpS P CT (⟨d, none, .op k xs⟩ :: r) env h Q := by subst hv; exact st e n
theorem wrap_i64' {x : Int} (h1 : -9223372036854775808 ≤ x) (h2 : x ≤ 9223372036854775807) : IntKind.i64.wrap x = x := by rw [IntKind.wrap_i64]; omega
theorem wrap_u64' {x : Int} (h1 : 0 ≤ x) (h2 : x ≤ 18446744073709551615) : IntKind.u64.wrap x = x := by
  unfold IntKind.wrap
  simp only [IntKind.bits, IntKind.signed]
  simp
  omega
/-- A sum, a product, a conversion within 64 bits. -/
theorem st_w {x : Int} (e : opS env k xs h = some (.int .i64 (IntKind.i64.wrap x), h')) (hx : -9223372036854775808 ≤ x ∧ x ≤ 9223372036854775807) (n : wpS P CT r (env.put d (.int .i64 x)) h' Q) : wpS P CT (⟨d, none, .op k xs⟩ :: r) env h Q :=
  st_v e (by rw [wrap_i64' hx.1 hx.2]) n
theorem st_wu {x : Int} (e : opS env k xs h = some (.int .u64 (IntKind.u64.wrap x), h')) (hx : 0 ≤ x ∧ x ≤ 18446744073709551615) (n : wpS P CT r (env.put d (.int .u64 x)) h' Q) : wpS P CT (⟨d, none, .op k xs⟩ :: r) env h Q :=
  st_v e (by rw [wrap_u64' hx.1 hx.2]) n
theorem st_rem {kk : IntKind} {a b : Int} (e : mapE env xs = some [.int kk a, .int kk b]) (ha : 0 ≤ a) (hb : 0 < b) (n : wpS P CT r (env.put d (.int kk (a % b))) h Q) : wpS P CT (⟨d, none, .op (.bin .rem) xs⟩ :: r) env h Q := by
  refine st (v := .int kk (a % b)) (h' := h) ?_ n
  unfold opS
  rw [e]
  have : kk = kk ∧ b ≠ 0 := ⟨rfl, by omega⟩
  show (if kk = kk ∧ b ≠ 0 then some (Value.int kk (a.tmod b)) else none).map (·, h) = _
  rw [if_pos this, Int.tmod_eq_emod_of_nonneg ha]
  rfl
theorem st_quo {a b : Int} (e : mapE env xs = some [.int .i64 a, .int .i64 b]) (ha : 0 ≤ a) (ha2 : a ≤ 9223372036854775807) (hb : 0 < b) (n : wpS P CT r (env.put d (.int .i64 (a / b))) h Q) : wpS P CT (⟨d, none, .op (.bin .quo) xs⟩ :: r) env h Q := by
  refine st (v := .int .i64 (a / b)) (h' := h) ?_ n
  unfold opS
  rw [e]
  have : IntKind.i64 = IntKind.i64 ∧ b ≠ 0 := ⟨rfl, by omega⟩
  have h1 : 0 ≤ a / b := Int.ediv_nonneg ha (by omega)
  have h2 : a / b ≤ a := Int.ediv_le_self _ ha
  show (if IntKind.i64 = IntKind.i64 ∧ b ≠ 0 then some (Value.int .i64 (IntKind.i64.wrap (a.tdiv b))) else none).map (·, h) = _
  rw [if_pos this, Int.tdiv_eq_ediv_of_nonneg ha, wrap_i64' (by omega) (by omega)]
  rfl
theorem st_iad {i o len cap : Nat} {sp : Option Nat} {kk : IntKind} {x : Int} {esz : Nat} (e : mapE env xs = some [.slice (some ⟨i, o, sp⟩) len cap, .int kk x]) (hx : 0 ≤ x ∧ x < len) (n : wpS P CT r (env.put d (.pointer (some ⟨i, o + x.toNat * esz, none⟩))) h Q) :
    wpS P CT (⟨d, none, .op (.iad esz) xs⟩ :: r) env h Q := by
  refine st (v := .pointer (some ⟨i, o + x.toNat * esz, none⟩)) (h' := h) ?_ n
  unfold opS
  rw [e]
  simp only [stepK, if_pos hx]
theorem st_iaa {i o len : Nat} {kk : IntKind} {x : Int} {esz : Nat} (e : mapE env xs = some [.pointer (some ⟨i, o, none⟩), .int kk x]) (hx : 0 ≤ x ∧ x < len) (n : wpS P CT r (env.put d (.pointer (some ⟨i, o + x.toNat * esz, none⟩))) h Q) :
    wpS P CT (⟨d, none, .op (.iaa len esz) xs⟩ :: r) env h Q := by
  refine st (v := .pointer (some ⟨i, o + x.toNat * esz, none⟩)) (h' := h) ?_ n
  unfold opS
  rw [e]
  simp only [stepK, if_pos hx]
theorem st_ld {i o : Nat} (e : mapE env xs = some [.pointer (some ⟨i, o, none⟩)]) (hr : h.rd i o 1 = some [v]) (n : wpS P CT r (env.put d v) h Q) : wpS P CT (⟨d, none, .op .ld1 xs⟩ :: r) env h Q := by
  refine st (v := v) (h' := h) ?_ n
  unfold opS
  rw [e]
  simp only [stepK, hr]
theorem st_ldn {i o c : Nat} {us : List Value} (e : mapE env xs = some [.pointer (some ⟨i, o, none⟩)]) (hr : h.rd i o c = some us) (n : wpS P CT r (env.put d (.agg ⟨us⟩)) h Q) : wpS P CT (⟨d, none, .op (.ldn c) xs⟩ :: r) env h Q := by
  refine st (v := .agg ⟨us⟩) (h' := h) ?_ n
  unfold opS
  rw [e]
  simp only [stepK, hr, Option.map_some]
theorem st_st {i o c : Nat} {u : Value} (e : mapE env xs = some [.pointer (some ⟨i, o, none⟩), u]) (hs : u.cells.size = c) (hw : h.wr i o u.cells.toList = some h') (n : wpS P CT r (env.put d undef) h' Q) : wpS P CT (⟨d, none, .op (.st c) xs⟩ :: r) env h Q := by
  refine st (v := undef) (h' := h') ?_ n
  unfold opS
  rw [e]
  simp only [stepK, hs, if_true, hw, Option.map_some]

/-- Known slots of a frame, by a list. -/
theorem le_nil : EnvLe [] env := fun t v e => by cases e
theorem le_cons {t : Nat} {u : Value} {l : Env} (e : env.get t = some u) (hl : EnvLe l env) : EnvLe ((t, u) :: l) env := by
  intro s v hs
  simp only [Env.get] at hs
  split at hs
  · next hts => subst hts; cases hs; exact e
  · exact hl s v hs

theorem rd_at {i o n x : Nat} {us : List Value} (e : h.rd i o n = some us) (hx : x < n) : ∃ (hl : x < us.length), h.rd i (o + x) 1 = some [us[x]] := by
  obtain ⟨ob, hob, hn, rfl⟩ := Hp.rd_some e
  have hl : x < ((ob.cells.drop o).take n).length := by simp; omega
  refine ⟨hl, ?_⟩
  unfold Hp.rd
  simp only [hob]
  rw [if_pos (by omega)]
  have hlt : o + x < ob.cells.length := by omega
  have e3 : (ob.cells.drop (o + x)).take 1 = [ob.cells[o + x]] := by rw [List.drop_eq_getElem_cons hlt]; rfl
  rw [e3, List.getElem_take, List.getElem_drop]
theorem rd_len {i o n : Nat} {us : List Value} (e : h.rd i o n = some us) : us.length = n := by
  obtain ⟨ob, hob, hn, rfl⟩ := Hp.rd_some e
  simp; omega

/-- Of what was there nothing has turned. -/
def Ext (h0 h : Hp) : Prop := h0.nx ≤ h.nx ∧ ∀ k, k < h0.nx → h.get k = h0.get k
theorem Ext.refl (h : Hp) : Ext h h := ⟨Nat.le_refl _, fun _ _ => rfl⟩
theorem Ext.trans {a b c : Hp} (x : Ext a b) (y : Ext b c) : Ext a c := ⟨Nat.le_trans x.1 y.1, fun k hk => (y.2 k (Nat.lt_of_lt_of_le hk x.1)).trans (x.2 k hk)⟩
theorem Ext.rd {h0 h : Hp} (x : Ext h0 h) {i o n : Nat} (hi : i < h0.nx) : h.rd i o n = h0.rd i o n := by unfold Hp.rd; rw [x.2 i hi]
theorem Ext.new (h : Hp) (o : Ob) : Ext h (h.new o) := ⟨by simp [Hp.new], fun k hk => by simp only [Hp.new]; rw [if_neg (by omega)]⟩

/-- A row that a call has made, and may append to (elements of one cell): the slice, what it holds; its object's number is from N on. -/
def Ow (N : Nat) (h : Hp) (s : Value) (us : List Value) : Prop :=
  (s = .slice none 0 0 ∧ us = []) ∨ ∃ i, N ≤ i ∧ i < h.nx ∧ s = .slice (some ⟨i, 0, some 0⟩) us.length us.length ∧ h.get i = some ⟨us, true, 1⟩ ∧ us ≠ [] ∧ us.all one = true
theorem Ow.nil (N : Nat) (h : Hp) : Ow N h (.slice none 0 0) [] := .inl ⟨rfl, rfl⟩
theorem Ow.mono {N M : Nat} {s : Value} {us : List Value} (o : Ow N h s us) (hm : M ≤ N) : Ow M h s us := by
  rcases o with o | ⟨i, h1, h2⟩
  · exact .inl o
  · exact .inr ⟨i, Nat.le_trans hm h1, h2⟩
theorem Ow.move {N : Nat} {s : Value} {us : List Value} {h2 : Hp} (o : Ow N h s us) (x : Ext h h2) : Ow N h2 s us := by
  rcases o with o | ⟨i, h1, h2', h3, h4, h5⟩
  · exact .inl o
  · exact .inr ⟨i, h1, Nat.lt_of_lt_of_le h2' x.1, h3, (x.2 i h2').trans h4, h5⟩
/-- append(l, v): the one-element slice in its own new object, then the append. -/
theorem Ow.push {N e e2 bytes : Nat} {h0 : Hp} {s : Value} {us : List Value} (o : Ow N h s us) (hN : h0.nx = N) (x : Ext h0 h) {u : Value} (hu : one u = true) (hb : (us.length + 1) * bytes ≤ 140737488355328) (hl : us.length + 1 ≤ 140737488355328) :
    ∃ s' h2, stepK (.app e 1 bytes) [s, .slice (some ⟨h.nx, 0, none⟩) 1 1] (h.new ⟨[u], true, e2⟩) = some (s', h2) ∧ Ow N h2 s' (us ++ [u]) ∧ Ext h0 h2 := by
  have hrd : rdS (h.new ⟨[u], true, e2⟩) (some ⟨h.nx, 0, none⟩) (1 * 1) = some [u] := by
    simp [rdS, Hp.rd, Hp.new]
  have hall : [u].all one = true := by simp [hu]
  rcases o with ⟨rfl, rfl⟩ | ⟨i, h1, h2, rfl, h4, h5, h6⟩
  · refine ⟨.slice (some ⟨h.nx + 1, 0, some 0⟩) 1 1, (h.new ⟨[u], true, e2⟩).new ⟨[u], true, 1⟩, ?_, .inr ⟨h.nx + 1, ?_, ?_, rfl, ?_, by simp, hall⟩, ?_⟩
    · simp only [stepK, hrd]
      simp only [List.length_nil, Nat.zero_add] at hb hl
      have hb2 : bytes ≤ 140737488355328 := by simpa using hb
      simp [appA, hu, hb2, Hp.new]
    · have := x.1; omega
    · simp [Hp.new]
    · simp [Hp.new]
    · exact x.trans ((Ext.new _ _).trans (Ext.new _ _))
  · have hne : i ≠ h.nx := by omega
    have hlen : us.length ≠ 0 := fun hz => h5 (List.eq_nil_of_length_eq_zero hz)
    have hold : (h.new ⟨[u], true, e2⟩).rd i 0 (us.length * 1) = some us := by
      simp [Hp.rd, Hp.new, hne, h4]
    refine ⟨.slice (some ⟨h.nx + 1, 0, some 0⟩) (us.length + 1) (us.length + 1), (((h.new ⟨[u], true, e2⟩)).del i).new ⟨us ++ [u], true, 1⟩, ?_, .inr ⟨h.nx + 1, ?_, ?_, ?_, ?_, by simp, by simp [hu, h6]⟩, ?_⟩
    · simp only [stepK, hrd]
      have hg : (h.new ⟨[u], true, e2⟩).get i = some ⟨us, true, 1⟩ := by simp [Hp.new, hne, h4]
      simp only [appA]
      rw [if_pos ⟨by simp, hall, by omega, hb, hl⟩]
      simp only [Nat.one_ne_zero, if_false, show ¬ (us.length + 1 ≤ us.length) by omega, if_neg hlen, hold, hg]
      simp [h6, Hp.del, Hp.new]
    · have := x.1; omega
    · simp [Hp.new, Hp.del]
    · simp
    · simp [Hp.new, Hp.del]
    · refine ⟨by have := x.1; simp [Hp.new, Hp.del]; omega, fun k hk => ?_⟩
      have := x.1
      have e1 : ¬ k = h.nx + 1 := by omega
      have e2 : ¬ k = i := by omega
      have e3 : ¬ k = h.nx := by omega
      simp only [Hp.new, Hp.del, e1, e2, e3, if_false]
      exact x.2 k hk

/-- A loop whose frame at each round's head is known by a list of slots. -/
def roundE {γ : Type} (E : γ → Env) (H : γ → Hp → Prop) (mu : γ → Nat) (k : Nat) (Q : Exit → Env → Hp → Prop) : Exit → Env → Hp → Prop
  | .normal, env, h => ∃ g, EnvLe (E g) env ∧ H g h ∧ mu g < k
  | e, env, h => Q e env h
theorem ai_loopE {n : Nat} {x : IC} {Q : Exit → Env → Hp → Prop} {γ : Type} (E : γ → Env) (H : γ → Hp → Prop) (mu : γ → Nat) (g0 : γ) (hE : EnvLe (E g0) env) (hH : H g0 h) (round : ∀ g h, H g h → AI P n x (E g) h (roundE E H mu (mu g) Q)) : AI P n (.loop x) env h Q := by
  refine ai_loop (fun env h k => ∃ g, EnvLe (E g) env ∧ H g h ∧ mu g = k) (k0 := mu g0) ⟨g0, hE, hH, rfl⟩ ?_
  rintro env h k ⟨g, h1, h2, rfl⟩
  refine (AI.weak h1 (round g h h2)).mono ?_
  intro e env' h' q
  cases e with
  | normal => obtain ⟨g', k1, k2, k3⟩ := q; exact ⟨mu g', k3, g', k1, k2, rfl⟩
  | exit i => exact q
  | goto i => exact q
  | ret => exact q
  | panic c => exact q
  | outgrown => exact q
/-- Ways that meet again: what is known there. -/
theorem ai_join {n : Nat} {x y : IC} {Q : Exit → Env → Hp → Prop} {γ : Type} (L : γ → Env) (H : γ → Hp → Prop) (h1 : AI P n x env h (fun e env' h' => e = .normal ∧ ∃ g, EnvLe (L g) env' ∧ H g h')) (h2 : ∀ g h', H g h' → AI P n y (L g) h' Q) : AI P n (.seq x y) env h Q := by
  refine ai_seq (h1.mono ?_)
  rintro e env' h' ⟨rfl, g, hl, hH⟩
  exact AI.weak hl (h2 g h' hH)
theorem ai_seq_skip {n : Nat} {x : IC} {Q : Exit → Env → Hp → Prop} (a : AI P n x env h Q) : AI P n (.seq .skip x) env h Q := ai_seq (ai_skip a)
/-! What one operation comes to, for an operation with a guard as well. -/
theorem o_v {v2 : Value} (e : opS env k xs h = some (v, h')) (hv : v = v2) : opS env k xs h = some (v2, h') := by subst hv; exact e
theorem o_w {x : Int} (e : opS env k xs h = some (.int .i64 (IntKind.i64.wrap x), h')) (hx : -9223372036854775808 ≤ x ∧ x ≤ 9223372036854775807) : opS env k xs h = some (.int .i64 x, h') := o_v e (by rw [wrap_i64' hx.1 hx.2])
theorem o_iad {i o len cap : Nat} {sp : Option Nat} {kk : IntKind} {x : Int} {esz : Nat} (e : mapE env xs = some [.slice (some ⟨i, o, sp⟩) len cap, .int kk x]) (hx : 0 ≤ x ∧ x < len) :
    opS env (.iad esz) xs h = some (.pointer (some ⟨i, o + x.toNat * esz, none⟩), h) := by
  unfold opS
  rw [e]
  simp only [stepK, if_pos hx]
theorem o_iaa {i o len : Nat} {kk : IntKind} {x : Int} {esz : Nat} (e : mapE env xs = some [.pointer (some ⟨i, o, none⟩), .int kk x]) (hx : 0 ≤ x ∧ x < len) :
    opS env (.iaa len esz) xs h = some (.pointer (some ⟨i, o + x.toNat * esz, none⟩), h) := by
  unfold opS
  rw [e]
  simp only [stepK, if_pos hx]
theorem o_ld {i o : Nat} (e : mapE env xs = some [.pointer (some ⟨i, o, none⟩)]) (hr : h.rd i o 1 = some [v]) : opS env .ld1 xs h = some (v, h) := by
  unfold opS
  rw [e]
  simp only [stepK, hr]
theorem o_ldn {i o c : Nat} {us : List Value} (e : mapE env xs = some [.pointer (some ⟨i, o, none⟩)]) (hr : h.rd i o c = some us) : opS env (.ldn c) xs h = some (.agg ⟨us⟩, h) := by
  unfold opS
  rw [e]
  simp only [stepK, hr, Option.map_some]
theorem o_st {i o c : Nat} {u : Value} (e : mapE env xs = some [.pointer (some ⟨i, o, none⟩), u]) (hs : u.cells.size = c) (hw : h.wr i o u.cells.toList = some h') : opS env (.st c) xs h = some (undef, h') := by
  unfold opS
  rw [e]
  simp only [stepK, hs, if_true, hw, Option.map_some]
theorem o_rem {kk : IntKind} {a b : Int} (e : mapE env xs = some [.int kk a, .int kk b]) (ha : 0 ≤ a) (hb : 0 < b) : opS env (.bin .rem) xs h = some (.int kk (a % b), h) := by
  unfold opS
  rw [e]
  have : kk = kk ∧ b ≠ 0 := ⟨rfl, by omega⟩
  show (if kk = kk ∧ b ≠ 0 then some (Value.int kk (a.tmod b)) else none).map (·, h) = _
  rw [if_pos this, Int.tmod_eq_emod_of_nonneg ha]
  rfl
/-- In a region whose order is open: one operation, with nothing to be made again. -/
theorem dr {ix : Nat} {eff : Bool} {L : List DE} (e : opS env k xs h = some (v, h')) (n : wpD P CT L (env.put d v) h' Q) : wpD P CT (⟨ix, ⟨d, none, .op k xs⟩, eff, []⟩ :: L) env h Q := by
  unfold opS at e
  unfold wpD wpIn
  simp only [wanted]
  split at e
  · next vs hv => simp only [hv, e]; exact ⟨trivial, n⟩
  · cases e
theorem drT {ix t : Nat} {b c : Bool} {eff : Bool} {L : List DE} (g : env.get t = some (.bool c)) (hc : (c == b) = true) (e : opS env k xs h = some (v, h')) (n : wpD P CT L (env.put d v) h' Q) : wpD P CT (⟨ix, ⟨d, some (t, b), .op k xs⟩, eff, []⟩ :: L) env h Q := by
  unfold opS at e
  unfold wpD wpIn
  simp only [wanted, g, hc]
  split at e
  · next vs hv => simp only [hv, e]; exact ⟨trivial, n⟩
  · cases e
theorem drF {ix t : Nat} {b c : Bool} {eff : Bool} {ik : IK} {L : List DE} (g : env.get t = some (.bool c)) (hc : (c == b) = false) (n : wpD P CT L (env.put d undef) h Q) : wpD P CT (⟨ix, ⟨d, some (t, b), ik⟩, eff, []⟩ :: L) env h Q := by
  unfold wpD wpIn
  simp only [wanted, g, hc]
  exact ⟨trivial, n⟩
/-- A call of which no read is to be made again. -/
theorem drC {ix : Nat} {eff : Bool} {f : FuncId} {L : List DE} (e : mapE env xs = some vs) (c : CT f vs h fun v h' => wpD P CT L (env.put d v) h' Q) (hm : ∀ (R R' : Value → Hp → Prop), (∀ v h', R v h' → R' v h') → CT f vs h R → CT f vs h R') : wpD P CT (⟨ix, ⟨d, none, .call f xs⟩, eff, []⟩ :: L) env h Q := by
  unfold wpD wpIn
  simp only [wanted, e]
  exact hm _ _ (fun v h' n => ⟨trivial, n⟩) c
/-- Nothing is known of memory: the empty abstract heap. -/
def Hp.empty : Hp := ⟨fun _ => none, 0⟩
theorem Sim.empty (W : World) (t : Tb W.heap.size W) : Sim W.heap.size W ⟨fun _ => none, fun _ => none⟩ Hp.empty W :=
  ⟨Bel.refl t, Nat.le_refl _, fun _ _ => rfl, fun _ _ e => (by cases e), MS.empty _ _ _ _, fun _ _ e _ => (by cases e), fun _ _ _ _ _ _ e => (by cases e)⟩
/-- A law of numbers: from its contract over the empty heap to the true call. -/
theorem law_plain {f : FuncId} {args : List Value} (c : ACall P f args Hp.empty (fun v _ => v = .bool true)) (hf : flatL args = true) (W : World) (t : Tb W.heap.size W := by first | exact fun _ _ => trivial | assumption) :
    Calls P f args.toArray W fun e W' => e = .returned (.bool true) ∧ Below W.heap.size W W' := by
  refine (c.2 W.heap.size W ⟨fun _ => none, fun _ => none⟩ W args (RVs.of_flat hf) (Sim.empty W t)).mono ?_
  rintro e W' ⟨m', v, v', h', rfl, _, rv, s, rfl⟩
  cases rv
  exact ⟨rfl, s.below.bl⟩
end
end Go.Proofs.YtapbmmlgmcmpnaaDoorW.Am
/- Words on memory that several laws share: cells of known objects, rows that are read, what turns; and from a law's contract to its row where an argument is a row of numbers. -/
namespace Go.Proofs.YtapbmmlgmcmpnaaDoorW.Am
open Go Go.RowKit
abbrev nI : Int → Value := Value.int .i64
abbrev ptr (q : Nat) : Value := .pointer (some ⟨q, 0, none⟩)
theorem rd_f {h : Hp} {i : Nat} {us : List Value} {b : Bool} {e : Nat} (hg : h.get i = some ⟨us, b, e⟩) {x : Nat} {v : Value} (hx : us[x]? = some v) : h.rd i (0 + x) 1 = some [v] := by
  have hl := (List.getElem?_eq_some_iff.1 hx).1
  unfold Hp.rd
  simp only [hg, Nat.zero_add]
  rw [if_pos (by omega), List.drop_eq_getElem_cons hl]
  rw [List.getElem?_eq_getElem hl] at hx
  cases hx
  rfl
theorem wr_f {h : Hp} {i : Nat} {us : List Value} {e : Nat} (hg : h.get i = some ⟨us, true, e⟩) {x : Nat} (hx : x < us.length) {v : Value} (hv : one v = true) : h.wr i (0 + x) [v] = some (h.put i ⟨us.set x v, true, e⟩) := by
  unfold Hp.wr
  simp only [hg, Nat.zero_add]
  rw [if_pos ⟨trivial, by simp; omega, by simp [hv]⟩]
  rfl
theorem hput_same (h : Hp) (i : Nat) (o : Ob) : (h.put i o).get i = some o := by simp [Hp.put]
theorem hput_ne (h : Hp) {i j : Nat} (o : Ob) (hij : j ≠ i) : (h.put i o).get j = h.get j := by simp [Hp.put, hij]
theorem hput_nx (h : Hp) (i : Nat) (o : Ob) : (h.put i o).nx = h.nx := rfl
/-- What turns: the queue and its row alone. -/
def Mod (q j : Nat) (h h' : Hp) : Prop := h.nx ≤ h'.nx ∧ ∀ k, k < h.nx → k ≠ q → k ≠ j → h'.get k = h.get k
theorem Mod.refl (q j : Nat) (h : Hp) : Mod q j h h := ⟨Nat.le_refl _, fun _ _ _ _ => rfl⟩
theorem rd_app {h : Hp} {j : Nat} {xs us : List Value} {b : Bool} {e : Nat} (hg : h.get j = some ⟨xs ++ us, b, e⟩) {x : Nat} {v : Value} (hx : us[x]? = some v) : h.rd j (xs.length + x * 1) 1 = some [v] := by
  have hl := (List.getElem?_eq_some_iff.1 hx).1
  have hx2 : (xs ++ us)[xs.length + x]? = some v := by rw [List.getElem?_append_right (by omega)]; simpa using hx
  have := rd_f hg (x := xs.length + x) hx2
  simpa using this
/-- A row that is read. -/
def Rd (h : Hp) (s : Value) (us : List Value) : Prop :=
  (s = .slice none 0 0 ∧ us = []) ∨ ∃ i o sp c, s = .slice (some ⟨i, o, sp⟩) us.length c ∧ ∀ x v, us[x]? = some v → h.rd i (o + x * 1) 1 = some [v]
theorem Ow.rdd {N : Nat} {h : Hp} {s : Value} {us : List Value} (a : Ow N h s us) : Rd h s us := by
  rcases a with a | ⟨i, _, _, rfl, hg, _⟩
  · exact .inl a
  · exact .inr ⟨i, _, _, _, rfl, fun x v hx => by have := rd_f hg hx; simpa using this⟩
theorem Rd.len {h : Hp} {s : Value} {us : List Value} (a : Rd h s us) : ∃ x c, s = .slice x us.length c := by
  rcases a with ⟨rfl, rfl⟩ | ⟨i, o, sp, c, rfl, _⟩ <;> exact ⟨_, _, rfl⟩
theorem Rd.ext {h h' : Hp} {s : Value} {us : List Value} (a : Rd h s us) (e : ∀ i o sp n c, s = .slice (some ⟨i, o, sp⟩) n c → h'.get i = h.get i) : Rd h' s us := by
  rcases a with a | ⟨i, o, sp, c, rfl, hr⟩
  · exact .inl a
  · refine .inr ⟨i, o, sp, c, rfl, fun x v hx => ?_⟩
    have := hr x v hx
    unfold Hp.rd at this ⊢
    rw [e i o sp _ _ rfl]
    exact this
theorem Ow.put {N : Nat} {h : Hp} {s : Value} {us : List Value} (a : Ow N h s us) {q : Nat} (hq : q < N) (o : Ob) : Ow N (h.put q o) s us := by
  rcases a with a | ⟨i, h1, h2, h3, h4, h5⟩
  · exact .inl a
  · exact .inr ⟨i, h1, h2, h3, (hput_ne _ _ (by omega)).trans h4, h5⟩
theorem Ext.mod {h h1 h2 : Hp} {q j : Nat} (x : Ext h h1) (m : Mod q j h1 h2) (hq : h.nx ≤ q) (hj : h.nx ≤ j) : Ext h h2 :=
  ⟨Nat.le_trans x.1 m.1, fun k hk => (m.2 k (Nat.lt_of_lt_of_le hk x.1) (by omega) (by omega)).trans (x.2 k hk)⟩
theorem Ow.mod {N : Nat} {h h' : Hp} {s : Value} {us : List Value} (a : Ow N h s us) {q j : Nat} (hq : q < N) (hj : j < N) (m : Mod q j h h') : Ow N h' s us := by
  rcases a with a | ⟨i, h1, h2, h3, h4, h5⟩
  · exact .inl a
  · exact .inr ⟨i, h1, Nat.lt_of_lt_of_le h2 m.1, h3, (m.2 i h2 (by omega) (by omega)).trans h4, h5⟩
theorem u64_rng (n : Int) : 0 ≤ IntKind.u64.wrap n ∧ IntKind.u64.wrap n ≤ 18446744073709551615 := by
  unfold IntKind.wrap
  simp only [IntKind.bits, IntKind.signed]
  simp
  omega
/-- The abstract heap at a law's call: its one row, which is read alone. -/
def roHp (us : List Value) : Hp := ⟨fun j => if j = 0 then some ⟨us, false, 0⟩ else none, 1⟩
def roMu (l : Loc) : Mu := ⟨fun j => if j = 0 then some l else none, fun _ => none⟩
theorem roHp_rd (us : List Int) {len cap : Nat} (hle : len ≤ us.length) : Rd (roHp (us.map nI)) (.slice (some ⟨0, 0, none⟩) len cap) ((us.take len).map nI) := by
  refine .inr ⟨0, 0, none, cap, by simp [Nat.min_eq_left hle], fun x v hx => ?_⟩
  have hx2 : (us.map nI)[x]? = some v := by
    rw [List.getElem?_map, List.getElem?_take] at hx
    rw [List.getElem?_map]
    split at hx
    · exact hx
    · cases hx
  have := rd_f (h := roHp (us.map nI)) (i := 0) (b := false) (e := 0) (by simp [roHp]) hx2
  simpa using this
theorem roSim {W : World} {a : Addr} {zs : List Int} (hs : a.spot = none) (hb : a.block < W.heap.size) (hc : ∀ i, i < zs.length → W.cell? (a.add i) = some (.int .i64 (zs.getD i 0))) (t : Tb W.heap.size W) :
    Sim W.heap.size W (roMu ⟨a.block, a.off, 0⟩) (roHp (zs.map nI)) W := by
  obtain ⟨b, off, sp⟩ := a
  subst hs
  refine ⟨Bel.refl t, Nat.le_refl _, fun i hi => ?_, fun i l e => ?_, MS.empty _ _ _ _, fun i ob e _ => ?_, fun i j x y l l' e e' hij hrw => ?_⟩
  · have : i ≠ 0 := by simp [roHp] at hi; omega
    simp [roMu, this]
  · simp only [roMu] at e
    split at e
    · cases e; exact hb
    · cases e
  · simp only [roHp] at e
    split at e
    · next hi =>
      cases e
      refine ⟨⟨b, off, 0⟩, by simp [roMu, hi], fun j v hv => ?_, fun h => by cases h⟩
      rw [List.getElem?_map] at hv
      cases hz : zs[j]? with
      | none => rw [hz] at hv; cases hv
      | some z =>
        rw [hz] at hv
        cases hv
        have hj := (List.getElem?_eq_some_iff.1 hz).1
        refine ⟨.int .i64 z, ?_, .int _ _⟩
        have := hc j hj
        rw [Go.WideShapes.add_plain] at this
        rw [this, List.getD_eq_getElem?_getD, hz]
        rfl
    · cases e
  · simp only [roHp] at e
    split at e
    · cases e; cases hrw
    · cases e
/-- A law whose first argument is a row of numbers, the others numbers. -/
theorem law_ints {P : Program} {f : FuncId} {W : World} {a : Addr} {len cap : Nat} {zs : List Int} {rest : List Value} (hs : a.spot = none) (hb : a.block < W.heap.size) (hc : ∀ i, i < zs.length → W.cell? (a.add i) = some (.int .i64 (zs.getD i 0))) (hf : flatL rest = true)
    (c : ACall P f (.slice (some ⟨0, 0, none⟩) len cap :: rest) (roHp (zs.map nI)) (fun v _ => v = .bool true)) (t : Tb W.heap.size W := by first | exact fun _ _ => trivial | assumption) :
    Calls P f (Value.slice (some a) len cap :: rest).toArray W fun e W' => e = .returned (.bool true) ∧ Below W.heap.size W W' := by
  have s := roSim hs hb hc t
  obtain ⟨b, off, sp⟩ := a
  subst hs
  refine (c.2 W.heap.size W _ W _ (RVs.cons (RV.slice (l := ⟨b, off, 0⟩) (by simp [roMu])) (RVs.of_flat hf)) s).mono ?_
  rintro e W' ⟨m', v, v', h', rfl, _, rv, s, rfl⟩
  cases rv
  exact ⟨rfl, s.below.bl⟩
theorem law_nil {P : Program} {f : FuncId} {W : World} {rest : List Value} (hf : flatL rest = true)
    (c : ACall P f (.slice none 0 0 :: rest) Hp.empty (fun v _ => v = .bool true)) (t : Tb W.heap.size W := by first | exact fun _ _ => trivial | assumption) :
    Calls P f (Value.slice none 0 0 :: rest).toArray W fun e W' => e = .returned (.bool true) ∧ Below W.heap.size W W' := by
  refine (c.2 W.heap.size W ⟨fun _ => none, fun _ => none⟩ W _ (RVs.cons (RV.nils 0 0) (RVs.of_flat hf)) (Sim.empty W t)).mono ?_
  rintro e W' ⟨m', v, v', h', rfl, _, rv, s, rfl⟩
  cases rv
  exact ⟨rfl, s.below.bl⟩
theorem okWide_at {P : Program} {w : World} {base : Nat} {t e : TypeId} {a : Addr} {len cap : Nat} (ht : P.underlying t = some (.slice e)) (h : Value.okWide P w .any base t (.slice (some a) len cap)) : a.spot = none ∧ a.block < w.heap.size := by
  unfold Value.okWide at h
  rw [ht] at h
  unfold Cell.okWide at h
  rw [ht] at h
  unfold Cell.ok at h
  rw [ht] at h
  obtain ⟨_, _, _, hsp, row, cells, hsh, _⟩ := h
  refine ⟨hsp, ?_⟩
  by_cases hlt : a.block < w.heap.size
  · exact hlt
  · exfalso
    unfold World.shape? at hsh
    simp [Array.getElem?_eq_none (Nat.le_of_not_lt hlt)] at hsh
section
variable {P : Program} {CT : CTy} {env : Env} {h : Hp} {Q : Env → Hp → Prop} {d : Option Nat} {xs : List Operand} {vs : List Value}
/-- In a region whose order is open: a call, behind which reads are made again. -/
theorem drCR {ix : Nat} {eff : Bool} {f : FuncId} {re : List In} {L : List DE} (e : mapE env xs = some vs) (c : CT f vs h fun v h' => allAgain re env h' ∧ wpD P CT L (env.put d v) h' Q) : wpD P CT (⟨ix, ⟨d, none, .call f xs⟩, eff, re⟩ :: L) env h Q := by
  unfold wpD wpIn
  simp only [wanted, e]
  exact c
theorem ag_ld {d t i o : Nat} {v : Value} (g1 : env.get t = some (.pointer (some ⟨i, o, none⟩))) (g2 : env.get d = some v) (hr : h.rd i o 1 = some [v]) : again ⟨some d, none, .op .ld1 [.tmp t]⟩ env h := by
  unfold again
  simp only [wanted, mapE, evA, g1, g2, stepK, hr]
end
end Go.Proofs.YtapbmmlgmcmpnaaDoorW.Am
/- An evaluator over abstract heaps: a closed call is run by reckoning alone; what was shown over the empty heap holds over each one. -/
namespace Go.Proofs.YtapbmmlgmcmpnaaDoorW.Am
open Go Go.RowKit

/-- Equal, as far as looked into. -/
def eqN : Nat → Value → Value → Bool
  | 0, _, _ => false
  | n + 1, x, y => match x, y with
    | .bool a, .bool b => a == b
    | .int k a, .int l b => decide (k = l) && decide (a = b)
    | .string a, .string b => decide (a.data = b.data)
    | .pointer a, .pointer b => decide (a = b)
    | .slice a i j, .slice b k l => decide (a = b) && decide (i = k) && decide (j = l)
    | .map none, .map none => true
    | .nilFunc, .nilFunc => true
    | .nilIface, .nilIface => true
    | .iface t v, .iface u w => decide (t = u) && eqN n v w
    | .agg ⟨a⟩, .agg ⟨b⟩ => decide (a.length = b.length) && (a.zip b).all fun p => eqN n p.1 p.2
    | .tuple ⟨a⟩, .tuple ⟨b⟩ => decide (a.length = b.length) && (a.zip b).all fun p => eqN n p.1 p.2
    | _, _ => false
theorem zip_eq {p : Value → Value → Bool} : ∀ {a b : List Value}, a.length = b.length → ((a.zip b).all fun q => p q.1 q.2) = true → (∀ x y, p x y = true → x = y) → a = b
  | [], [], _, _, _ => rfl
  | [], _ :: _, h, _, _ => by cases h
  | _ :: _, [], h, _, _ => by cases h
  | x :: a, y :: b, h, k, q => by
    simp only [List.zip_cons_cons, List.all_cons, Bool.and_eq_true] at k
    rw [q x y k.1, zip_eq (by simpa using h) k.2 q]
theorem eqN_eq : ∀ (n : Nat) (x y : Value), eqN n x y = true → x = y := by
  intro n
  induction n with
  | zero => intro x y h; cases h
  | succ n ih =>
    intro x y h
    cases x <;> cases y <;> simp only [eqN, Bool.false_eq_true] at h
    case bool.bool a b => rw [eq_of_beq h]
    case int.int k a l b => simp at h; rw [h.1, h.2]
    case string.string a b => obtain ⟨a⟩ := a; obtain ⟨b⟩ := b; simp at h; rw [h]
    case pointer.pointer a b => simp at h; rw [h]
    case slice.slice a i j b k l => simp at h; rw [h.1.1, h.1.2, h.2]
    case map.map a b => cases a <;> cases b <;> simp_all
    case nilFunc.nilFunc => rfl
    case nilIface.nilIface => rfl
    case iface.iface t v u w => simp at h; rw [h.1, ih v w h.2]
    case agg.agg a b =>
      obtain ⟨a⟩ := a; obtain ⟨b⟩ := b
      simp only [Bool.and_eq_true, decide_eq_true_eq] at h
      rw [zip_eq h.1 h.2 ih]
    case tuple.tuple a b =>
      obtain ⟨a⟩ := a; obtain ⟨b⟩ := b
      simp only [Bool.and_eq_true, decide_eq_true_eq] at h
      rw [zip_eq h.1 h.2 ih]

def selB : Op → Bool
  | .select _ _ => true
  | _ => false
/-- Slots by the bits of their numbers. -/
inductive Tr (α : Type)
  | leaf
  | node (l : Tr α) (v : Option α) (r : Tr α)
def Tr.get {α : Type} : Tr α → Nat → Option α
  | .leaf, _ => none
  | .node l v r, n => match n with
    | 0 => v
    | n + 1 => match Nat.beq (n % 2) 0 with
      | true => l.get (n / 2)
      | false => r.get (n / 2)
def Tr.one {α : Type} (v : α) : Nat → Nat → Tr α
  | 0, _ => .leaf
  | k + 1, n => match n with
    | 0 => .node .leaf (some v) .leaf
    | n + 1 => match Nat.beq (n % 2) 0 with
      | true => .node (Tr.one v k (n / 2)) none .leaf
      | false => .node .leaf none (Tr.one v k (n / 2))
def Tr.set {α : Type} (v : α) : Tr α → Nat → Tr α
  | .leaf, n => Tr.one v 20 n
  | .node l x r, n => match n with
    | 0 => .node l (some v) r
    | n + 1 => match Nat.beq (n % 2) 0 with
      | true => .node (l.set v (n / 2)) x r
      | false => .node l x (r.set v (n / 2))
theorem Tr.one_get {α : Type} (v : α) : ∀ (k n m : Nat) (u : α), (Tr.one v k n).get m = some u → m = n ∧ u = v := by
  intro k
  induction k with
  | zero => intro n m u e; cases e
  | succ k ih =>
    intro n m u e
    cases n with
    | zero =>
      cases m with
      | zero => simp only [Tr.one, Tr.get, Option.some.injEq] at e; exact ⟨rfl, e.symm⟩
      | succ m => simp only [Tr.one, Tr.get] at e; split at e <;> cases e
    | succ n =>
      simp only [Tr.one] at e
      cases hb : Nat.beq (n % 2) 0 <;> rw [hb] at e <;> cases m <;> simp only [Tr.get, reduceCtorEq] at e
      · next m =>
        cases hm : Nat.beq (m % 2) 0 <;> rw [hm] at e <;> simp only [reduceCtorEq] at e
        obtain ⟨h1, h2⟩ := ih _ _ _ e
        have a1 := Nat.ne_of_beq_eq_false hb
        have a2 := Nat.ne_of_beq_eq_false hm
        exact ⟨by omega, h2⟩
      · next m =>
        cases hm : Nat.beq (m % 2) 0 <;> rw [hm] at e <;> simp only [reduceCtorEq] at e
        obtain ⟨h1, h2⟩ := ih _ _ _ e
        have a1 := Nat.eq_of_beq_eq_true hb
        have a2 := Nat.eq_of_beq_eq_true hm
        exact ⟨by omega, h2⟩
theorem Tr.set_get {α : Type} (v : α) : ∀ (t : Tr α) (n m : Nat) (u : α), (t.set v n).get m = some u → (m = n ∧ u = v) ∨ (m ≠ n ∧ t.get m = some u) := by
  intro t
  induction t with
  | leaf => intro n m u e; exact .inl (Tr.one_get v _ _ _ _ e)
  | node l x r ihl ihr =>
    intro n m u e
    cases n with
    | zero =>
      cases m with
      | zero => simp only [Tr.set, Tr.get, Option.some.injEq] at e; exact .inl ⟨rfl, e.symm⟩
      | succ m => exact .inr ⟨by omega, e⟩
    | succ n =>
      simp only [Tr.set] at e
      cases hb : Nat.beq (n % 2) 0 <;> rw [hb] at e <;> cases m
      · exact .inr ⟨by omega, e⟩
      · next m =>
        simp only [Tr.get] at e ⊢
        have a1 := Nat.ne_of_beq_eq_false hb
        cases hm : Nat.beq (m % 2) 0 <;> rw [hm] at e <;> simp only at e ⊢
        · have a2 := Nat.ne_of_beq_eq_false hm
          rcases ihr _ _ _ e with ⟨h1, h2⟩ | ⟨h1, h2⟩
          · exact .inl ⟨by omega, h2⟩
          · exact .inr ⟨by intro h3; cases h3; exact h1 rfl, h2⟩
        · have a2 := Nat.eq_of_beq_eq_true hm
          exact .inr ⟨by intro h3; cases h3; exact a1 a2, e⟩
      · exact .inr ⟨by omega, e⟩
      · next m =>
        simp only [Tr.get] at e ⊢
        have a1 := Nat.eq_of_beq_eq_true hb
        cases hm : Nat.beq (m % 2) 0 <;> rw [hm] at e <;> simp only at e ⊢
        · have a2 := Nat.ne_of_beq_eq_false hm
          exact .inr ⟨by intro h3; cases h3; exact a2 a1, e⟩
        · have a2 := Nat.eq_of_beq_eq_true hm
          rcases ihl _ _ _ e with ⟨h1, h2⟩ | ⟨h1, h2⟩
          · exact .inl ⟨by omega, h2⟩
          · exact .inr ⟨by intro h3; cases h3; exact h1 rfl, h2⟩
abbrev ET := Tr Value
/-- The slots told, out of all. -/
def few (t : ET) : List Nat → Env
  | [] => []
  | s :: r => match t.get s with
    | some v => (s, v) :: few t r
    | none => few t r
theorem few_get {t : ET} : ∀ {l : List Nat} {s : Nat} {v : Value}, Env.get (few t l) s = some v → t.get s = some v
  | [], s, v, e => by cases e
  | a :: l, s, v, e => by
    simp only [few] at e
    split at e
    · next u hu =>
      simp only [Env.get] at e
      split at e
      · next h => subst h; rw [hu]; exact e
      · exact few_get e
    · exact few_get e
abbrev Cf := FuncId → List Value → Hp → Option (Value × Hp)
def evIn (P : Program) (cf : Cf) (i : In) (env : Env) (h : Hp) : Option (Value × Hp) :=
  match wanted i.g env with
  | none => none
  | some false => some (undef, h)
  | some true => match i.k with
    | .op k xs => match mapE env xs with
      | none => none
      | some vs => stepK k vs h
    | .fl op ty => if selB op then none else match flatStep P env op ty with
      | none => none
      | some v => some (v, h)
    | .call f xs => match mapE env xs with
      | none => none
      | some vs => cf f vs h
    | .callv x xs => match evA env x, mapE env xs with
      | some (.func (.func f) a b), some vs => cf f (a.toList ++ vs ++ b.toList) h
      | _, _ => none
def putE (t : ET) (d : Option Nat) (v : Value) : ET :=
  match d with
  | some d => t.set v d
  | none => t
def evS (P : Program) (cf : Cf) : List In → ET → Hp → Option (ET × Hp)
  | [], t, h => some (t, h)
  | i :: r, t, h => match evIn P cf i (few t (looks i)) h with
    | some (v, h') => evS P cf r (putE t i.d v) h'
    | none => none
/-- A read that is made again finds what it found. -/
def agB (i : In) (env : Env) (h : Hp) : Bool :=
  match wanted i.g env, i.k, i.d with
  | some false, _, _ => true
  | some true, .op .ld1 xs, some d => match mapE env xs with
    | some vs => match env.get d, stepK .ld1 vs h with
      | some v, some (u, _) => eqN 8 u v
      | _, _ => false
    | none => false
  | some true, .op (.ldn c) xs, some d => match mapE env xs with
    | some vs => match env.get d, stepK (.ldn c) vs h with
      | some v, some (u, _) => eqN 8 u v
      | _, _ => false
    | none => false
  | _, _, _ => false
def dOf (i : In) : List Nat := match i.d with | some d => d :: looks i | none => looks i
def evD (P : Program) (cf : Cf) : List DE → ET → Hp → Option (ET × Hp)
  | [], t, h => some (t, h)
  | x :: r, t, h => match evIn P cf x.i (few t (looks x.i)) h with
    | some (v, h') => if (x.re.all fun i => agB i (few t (dOf i)) h') = true then evD P cf r (putE t x.i.d v) h' else none
    | none => none
def resT : List ResultVar → List Nat
  | [] => []
  | .tmp t :: r => t :: resT r
  | .cell a _ :: r => a :: resT r
def argT : Nat → List Value → ET → ET
  | _, [], t => t
  | k, v :: r, t => argT (k + 1) r (t.set v k)
def evC (P : Program) (F : Nat → Option FI) : Nat → IC → ET → Hp → Option (Exit × ET × Hp)
  | 0, _, _, _ => none
  | k + 1, c, t, h =>
    let cf : Cf := fun f args h => match F f with
      | some fi => if args.length ≤ fi.n then (match evC P F k fi.body (argT 0 args .leaf) h with
        | some (.normal, e, h') | some (.ret, e, h') => match resAll P (few e (resT fi.res)) h' fi.res with
          | some vs => some (pack vs, h')
          | none => none
        | _ => none) else none
      | none => none
    match c with
    | .skip => some (.normal, t, h)
    | .reg ins => match evS P cf ins t h with
      | some (e, h') => some (.normal, e, h')
      | none => none
    | .drw L => match evD P cf L t h with
      | some (e, h') => some (.normal, e, h')
      | none => none
    | .seq a b => match evC P F k a t h with
      | some (.normal, e, h') => evC P F k b e h'
      | r => r
    | .cond x a b => match evA (few t (tmpsOf [x])) x with
      | some (.bool true) => evC P F k a t h
      | some (.bool false) => evC P F k b t h
      | _ => none
    | .block id a => match evC P F k a t h with
      | some (.exit j, e, h') => if j = id then some (.normal, e, h') else some (.exit j, e, h')
      | r => r
    | .loop a => match evC P F k a t h with
      | some (.normal, e, h') => evC P F k (.loop a) e h'
      | r => r
    | .exit id => some (.exit id, t, h)
    | .ret => some (.ret, t, h)
/-- A closed call. -/
def run (P : Program) (F : Nat → Option FI) (k : Nat) (f : FuncId) (args : List Value) (h : Hp) : Option (Value × Hp) :=
  match F f with
  | some fi => if args.length ≤ fi.n then (match evC P F k fi.body (argT 0 args .leaf) h with
    | some (.normal, e, h') | some (.ret, e, h') => match resAll P (few e (resT fi.res)) h' fi.res with
      | some vs => some (pack vs, h')
      | none => none
    | _ => none) else none
  | none => none

/-- What is told of the slots is so. -/
def TLe (t : ET) (env : Env) : Prop := ∀ s v, t.get s = some v → env.get s = some v
theorem TLe.few {t : ET} {env : Env} (h : TLe t env) (l : List Nat) : EnvLe (few t l) env := fun s v e => h s v (few_get e)
theorem TLe.put {t : ET} {env : Env} (h : TLe t env) (d : Option Nat) (v : Value) : TLe (putE t d v) (env.put d v) := by
  intro s u e
  cases d with
  | none => exact h _ _ e
  | some d =>
    simp only [putE] at e
    simp only [Env.put, Env.get]
    rcases Tr.set_get v t d s u e with ⟨rfl, rfl⟩ | ⟨h1, h2⟩
    · rw [if_pos rfl]
    · rw [if_neg (fun h3 => h1 h3.symm)]; exact h _ _ h2
theorem argT_le : ∀ (args : List Value) (k : Nat) (t : ET), (∀ s v, t.get s = some v → s < k) → ∀ s v, (argT k args t).get s = some v → (s < k ∧ t.get s = some v) ∨ (k ≤ s ∧ args[s - k]? = some v) := by
  intro args
  induction args with
  | nil => intro k t ht s v e; exact .inl ⟨ht s v e, e⟩
  | cons a args ih =>
    intro k t ht s v e
    have h1 : ∀ s v, (t.set a k).get s = some v → s < k + 1 := by
      intro s v e
      rcases Tr.set_get a t k s v e with ⟨rfl, _⟩ | ⟨_, h2⟩
      · omega
      · have := ht s v h2; omega
    rcases ih (k + 1) _ h1 s v e with ⟨h2, h3⟩ | ⟨h2, h3⟩
    · rcases Tr.set_get a t k s v h3 with ⟨rfl, rfl⟩ | ⟨h4, h5⟩
      · exact .inr ⟨Nat.le_refl _, by simp⟩
      · exact .inl ⟨by omega, h5⟩
    · exact .inr ⟨by omega, by rw [show s - k = (s - (k + 1)) + 1 by omega]; simpa using h3⟩
theorem envOf_at : ∀ (l : List Value) (k s : Nat) (v : Value), k ≤ s → l[s - k]? = some v → (envOf k l).get s = some v
  | [], _, _, _, _, e => by simp at e
  | a :: l, k, s, v, hk, e => by
    simp only [envOf, Env.get]
    by_cases h : k = s
    · subst h; simp at e; rw [if_pos rfl, e]
    · rw [if_neg h]
      refine envOf_at l (k + 1) s v (by omega) ?_
      rw [show s - k = (s - (k + 1)) + 1 by omega] at e
      simpa using e
theorem argT_TLe (args : List Value) : TLe (argT 0 args .leaf) (envOf 0 args) := by
  intro s v e
  rcases argT_le args 0 .leaf (by intro s v e; cases e) s v e with ⟨h, _⟩ | ⟨h1, h2⟩
  · omega
  · exact envOf_at args 0 s v h1 h2

section
variable {P : Program} {cf : Cf} {env env' : Env} {h h' : Hp}
theorem evA_le (hl : EnvLe env env') {x : Operand} {v : Value} (e : evA env x = some v) : evA env' x = some v := by
  cases x <;> simp only [evA] at e ⊢ <;> first | exact hl _ _ e | exact e
theorem mapE_le (hl : EnvLe env env') : ∀ {xs : List Operand} {vs : List Value}, mapE env xs = some vs → mapE env' xs = some vs := by
  intro xs
  induction xs with
  | nil => intro vs e; exact e
  | cons x xs ih =>
    intro vs e
    simp only [mapE] at e
    split at e
    case h_2 => cases e
    case h_1 v hv =>
    split at e
    case h_2 => cases e
    case h_1 us hus =>
    cases e
    simp only [mapE, evA_le hl hv, ih hus]
theorem wanted_le (hl : EnvLe env env') {g : Option (Nat × Bool)} {b : Bool} (e : wanted g env = some b) : wanted g env' = some b := by
  cases g with
  | none => exact e
  | some p =>
    obtain ⟨t, c⟩ := p
    simp only [wanted] at e ⊢
    split at e
    · next x hx => rw [hl _ _ hx]; exact e
    · next hx => rw [hl _ _ hx]; exact e
    · cases e
theorem flatStep_le (hl : EnvLe env env') {op : Op} {ty : TypeId} {v : Value} (hs : ∀ cs b, op ≠ .select cs b) (e : flatStep P env op ty = some v) : flatStep P env' op ty = some v := by
  have h0 := e
  unfold flatStep at h0
  split at h0
  case isFalse => cases h0
  case isTrue ha =>
  rw [← e]
  refine (flatStep_congr hs fun t ht => ?_).symm
  unfold allFlat at ha
  rw [List.all_eq_true] at ha
  have hm : Operand.tmp t ∈ op.operands.toList := by
    have : ∀ {xs : List Operand}, t ∈ tmpsOf xs → Operand.tmp t ∈ xs := by
      intro xs
      induction xs with
      | nil => intro h; cases h
      | cons x xs ih => intro h; cases x <;> simp [tmpsOf] at h <;> first | (rcases h with rfl | h; exact List.mem_cons_self; exact List.mem_cons_of_mem _ (ih h)) | exact List.mem_cons_of_mem _ (ih h)
    exact this ht
  have := ha _ hm
  simp only [evA] at this
  cases hg : env.get t with
  | none => rw [hg] at this; cases this
  | some u => exact (hl _ _ hg).symm
theorem wpS_mono {ins : List In} {Q Q' : Env → Hp → Prop} (hq : ∀ e h, Q e h → Q' e h) : ∀ {env : Env} {h : Hp}, wpS P (ACall P) ins env h Q → wpS P (ACall P) ins env h Q' := by
  induction ins with
  | nil => intro env h a; exact hq _ _ a
  | cons i r ih => intro env h a; exact wpIn_mono a fun _ _ => ih
theorem wpD_mono {L : List DE} {Q Q' : Env → Hp → Prop} (hq : ∀ e h, Q e h → Q' e h) : ∀ {env : Env} {h : Hp}, wpD P (ACall P) L env h Q → wpD P (ACall P) L env h Q' := by
  induction L with
  | nil => intro env h a; exact hq _ _ a
  | cons i r ih => intro env h a; exact wpIn_mono a fun _ _ ⟨h1, h2⟩ => ⟨h1, ih h2⟩
theorem evIn_sound (hc : ∀ f vs h v h', cf f vs h = some (v, h') → ACall P f vs h (fun u g => u = v ∧ g = h')) (hl : EnvLe env env') {i : In} {v : Value} {R : Value → Hp → Prop} (e : evIn P cf i env h = some (v, h')) (r : R v h') : wpIn P (ACall P) i env' h R := by
  unfold evIn at e
  unfold wpIn
  split at e
  · cases e
  · next hw => cases e; simp only [wanted_le hl hw]; exact r
  · next hw =>
    simp only [wanted_le hl hw]
    split at e
    · next k xs hik =>
      split at e
      · cases e
      · next vs hv => simp only [hik, mapE_le hl hv, e]; exact r
    · next op ty hik =>
      split at e
      · cases e
      next hns =>
      split at e
      · cases e
      · next u hv =>
        cases e
        simp only [hik, flatStep_le hl (by rintro cs b rfl; exact hns rfl) hv]; exact r
    · next hik =>
      split at e
      · cases e
      · next vs hv =>
        simp only [hik, mapE_le hl hv]
        exact (hc _ _ _ _ _ e).mono fun _ _ ⟨h1, h2⟩ => by rw [h1, h2]; exact r
    · next hik =>
      split at e
      · next h1 h2 =>
        simp only [hik, evA_le hl h1, mapE_le hl h2]
        exact (hc _ _ _ _ _ e).mono fun _ _ ⟨h1, h2⟩ => by rw [h1, h2]; exact r
      · cases e
theorem evS_sound (hc : ∀ f vs h v h', cf f vs h = some (v, h') → ACall P f vs h (fun u g => u = v ∧ g = h')) : ∀ {ins : List In} {env : ET} {env' : Env} {h : Hp} {e : ET} {h' : Hp}, TLe env env' → evS P cf ins env h = some (e, h') → wpS P (ACall P) ins env' h (fun e2 h2 => TLe e e2 ∧ h2 = h') := by
  intro ins
  induction ins with
  | nil => intro env env' h e h' hl ev; cases ev; exact ⟨hl, rfl⟩
  | cons i r ih =>
    intro env env' h e h' hl ev
    simp only [evS] at ev
    split at ev
    · next v h1 hv => exact evIn_sound hc (hl.few _) hv (ih (hl.put _ _) ev)
    · cases ev
theorem agB_sound (hl : EnvLe env env') {i : In} (e : agB i env h = true) : again i env' h := by
  unfold agB at e
  unfold again
  split at e
  · next hw => rw [wanted_le hl hw]; trivial
  · next xs d hw hik hid =>
    rw [wanted_le hl hw, hik, hid]
    simp only
    split at e
    · next vs hv =>
      simp only [mapE_le hl hv]
      split at e
      · next v u h2 hd hs =>
        simp only [hl _ _ hd]
        rw [hs, readK_step rfl hs, eqN_eq _ _ _ e]
      · cases e
    · cases e
  · next c xs d hw hik hid =>
    rw [wanted_le hl hw, hik, hid]
    simp only
    split at e
    · next vs hv =>
      simp only [mapE_le hl hv]
      split at e
      · next v u h2 hd hs =>
        simp only [hl _ _ hd]
        rw [hs, readK_step rfl hs, eqN_eq _ _ _ e]
      · cases e
    · cases e
  · cases e
theorem agAll_sound {t : ET} (hl : TLe t env') : ∀ {l : List In}, (l.all fun i => agB i (few t (dOf i)) h) = true → allAgain l env' h := by
  intro l
  induction l with
  | nil => intro _; trivial
  | cons i r ih =>
    intro e
    simp only [List.all_cons, Bool.and_eq_true] at e
    exact ⟨agB_sound (hl.few _) e.1, ih e.2⟩
theorem evD_sound (hc : ∀ f vs h v h', cf f vs h = some (v, h') → ACall P f vs h (fun u g => u = v ∧ g = h')) : ∀ {L : List DE} {env : ET} {env' : Env} {h : Hp} {e : ET} {h' : Hp}, TLe env env' → evD P cf L env h = some (e, h') → wpD P (ACall P) L env' h (fun e2 h2 => TLe e e2 ∧ h2 = h') := by
  intro L
  induction L with
  | nil => intro env env' h e h' hl ev; cases ev; exact ⟨hl, rfl⟩
  | cons x r ih =>
    intro env env' h e h' hl ev
    simp only [evD] at ev
    split at ev
    · next v h1 hv =>
      split at ev
      · next ha => exact evIn_sound hc (hl.few _) hv ⟨agAll_sound hl ha, ih (hl.put _ _) ev⟩
      · cases ev
    · cases ev
end
/-- The functions are the program's. -/
def Have (P : Program) (F : Nat → Option FI) : Prop := ∀ f fi, F f = some fi → ∃ fn, P.funcs[f]? = some fn ∧ compF P fn = some fi
/-- A loop whose frame is told by slots. -/
theorem ai_loopT {P : Program} {n : Nat} {x : IC} {env : Env} {h : Hp} {Q : Exit → Env → Hp → Prop} {γ : Type} (E : γ → ET) (H : γ → Hp → Prop) (mu : γ → Nat) (g0 : γ) (hE : TLe (E g0) env) (hH : H g0 h)
    (round : ∀ g env h, TLe (E g) env → H g h → AI P n x env h (fun e env' h' => match e with | .normal => ∃ g', TLe (E g') env' ∧ H g' h' ∧ mu g' < mu g | e => Q e env' h')) : AI P n (.loop x) env h Q := by
  refine ai_loop (fun env h k => ∃ g, TLe (E g) env ∧ H g h ∧ mu g = k) (k0 := mu g0) ⟨g0, hE, hH, rfl⟩ ?_
  rintro env h k ⟨g, h1, h2, rfl⟩
  refine (round g env h h1 h2).mono ?_
  intro e env' h' q
  cases e with
  | normal => obtain ⟨g', k1, k2, k3⟩ := q; exact ⟨mu g', k3, g', k1, k2, rfl⟩
  | exit i => exact q
  | goto i => exact q
  | ret => exact q
  | panic c => exact q
  | outgrown => exact q
theorem run_of {P : Program} {F : Nat → Option FI} (hF : Have P F) {k : Nat} (ih : ∀ {n : Nat} {c : IC} {env : ET} {env' : Env} {h : Hp} {x : Exit} {e : ET} {h' : Hp}, TLe env env' → evC P F k c env h = some (x, e, h') → AI P n c env' h (fun x2 e2 h2 => x2 = x ∧ TLe e e2 ∧ h2 = h'))
    {f : FuncId} {vs : List Value} {h : Hp} {v : Value} {h' : Hp} (hv : run P F k f vs h = some (v, h')) : ACall P f vs h (fun u g => u = v ∧ g = h') := by
  unfold run at hv
  split at hv
  case h_2 => cases hv
  case h_1 fi hfi =>
  split at hv
  case isFalse => cases hv
  case isTrue hn =>
  obtain ⟨fn, hf, hcf⟩ := hF f fi hfi
  have fin : ∀ x2 e h2 vs2, (x2 = .normal ∨ x2 = .ret) → evC P F k fi.body (argT 0 vs .leaf) h = some (x2, e, h2) → resAll P (few e (resT fi.res)) h2 fi.res = some vs2 → ACall P f vs h (fun u g => u = pack vs2 ∧ g = h2) := by
    intro x2 e h2 vs2 hx hev hres
    refine acall hf hcf hn ((ih (argT_TLe vs) hev).mono ?_)
    rintro x3 e3 h3 ⟨rfl, hle, rfl⟩
    have : resAll P e3 h3 fi.res = some vs2 := by
      rw [← hres]
      have hone : ∀ (y : ResultVar) (v : Value), resOne P (few e (resT fi.res)) h3 y = some v → resOne P e3 h3 y = some v := by
        intro y v hy
        cases y with
        | tmp t => exact hle.few _ _ _ hy
        | cell a t =>
          simp only [resOne] at hy ⊢
          split at hy
          · next hg => rw [hle.few _ _ _ hg]; exact hy
          · cases hy
      have hall : ∀ (l : List ResultVar) (vs : List Value), resAll P (few e (resT fi.res)) h3 l = some vs → resAll P e3 h3 l = some vs := by
        intro l
        induction l with
        | nil => intro vs hv; exact hv
        | cons y l ihl =>
          intro vs hv
          simp only [resAll] at hv ⊢
          split at hv
          · next h1 h2 => rw [hone _ _ h1, ihl _ h2]; exact hv
          · cases hv
      rw [hres]
      exact hall _ _ hres
    rcases hx with rfl | rfl
    · exact ⟨vs2, this, rfl, rfl⟩
    · exact ⟨vs2, this, rfl, rfl⟩
  split at hv
  · next e2 h2 hev =>
    split at hv
    · next vs2 hres => cases hv; exact fin _ _ _ _ (.inl rfl) hev hres
    · cases hv
  · next e2 h2 hev =>
    split at hv
    · next vs2 hres => cases hv; exact fin _ _ _ _ (.inr rfl) hev hres
    · cases hv
  · cases hv
theorem evC_sound {P : Program} {F : Nat → Option FI} (hF : Have P F) (hm : P.follows .mixedOrders = true) : ∀ (k : Nat) {n : Nat} {c : IC} {env : ET} {env' : Env} {h : Hp} {x : Exit} {e : ET} {h' : Hp}, TLe env env' → evC P F k c env h = some (x, e, h') →
    AI P n c env' h (fun x2 e2 h2 => x2 = x ∧ TLe e e2 ∧ h2 = h') := by
  intro k
  induction k using Nat.strongRecOn with
  | _ k ih =>
    intro n c env env' h x e h' hl ev
    cases k with
    | zero => cases ev
    | succ k =>
      have hc : ∀ f vs h v h', run P F k f vs h = some (v, h') → ACall P f vs h (fun u g => u = v ∧ g = h') := fun f vs h v h' hv => run_of hF (fun hl hev => ih k (Nat.lt_succ_self k) hl hev) hv
      cases c with
      | skip => simp only [evC] at ev; cases ev; exact ai_skip ⟨rfl, hl, rfl⟩
      | exit id => simp only [evC] at ev; cases ev; exact ai_exit ⟨rfl, hl, rfl⟩
      | ret => simp only [evC] at ev; cases ev; exact ai_ret ⟨rfl, hl, rfl⟩
      | reg ins =>
        simp only [evC] at ev
        split at ev
        · next hev =>
          cases ev
          refine ai_reg ?_
          exact wpS_mono (fun _ _ ⟨h1, h2⟩ => ⟨rfl, h1, h2⟩) (evS_sound (cf := run P F k) hc hl hev)
        · cases ev
      | drw L =>
        simp only [evC] at ev
        split at ev
        · next hev =>
          cases ev
          refine ai_drw hm ?_
          exact wpD_mono (fun _ _ ⟨h1, h2⟩ => ⟨rfl, h1, h2⟩) (evD_sound (cf := run P F k) hc hl hev)
        · cases ev
      | seq a b =>
        simp only [evC] at ev
        split at ev
        · next e1 h1 hev =>
          refine ai_seq ((ih k (Nat.lt_succ_self k) hl hev).mono ?_)
          rintro x2 e2 h2 ⟨rfl, hle, rfl⟩
          exact ih k (Nat.lt_succ_self k) hle ev
        · next hne =>
          refine ai_seq ((ih k (Nat.lt_succ_self k) hl ev).mono ?_)
          rintro x2 e2 h2 ⟨rfl, hle, rfl⟩
          cases x2 with
          | normal => exact absurd ev (hne _ _)
          | _ => exact ⟨rfl, hle, rfl⟩
      | cond y a b =>
        simp only [evC] at ev
        split at ev
        · next hy => exact ai_cond (evA_le (hl.few _) hy) (fun _ => ih k (Nat.lt_succ_self k) hl ev) (fun hb => by cases hb)
        · next hy => exact ai_cond (evA_le (hl.few _) hy) (fun hb => by cases hb) (fun _ => ih k (Nat.lt_succ_self k) hl ev)
        · cases ev
      | block id a =>
        simp only [evC] at ev
        split at ev
        · next j e1 h1 hev =>
          refine ai_block ((ih k (Nat.lt_succ_self k) hl hev).mono ?_)
          rintro x2 e2 h2 ⟨rfl, hle, rfl⟩
          simp only [blockQ]
          split at ev
          · next hj => rw [if_pos hj]; cases ev; exact ⟨rfl, hle, rfl⟩
          · next hj => rw [if_neg hj]; cases ev; exact ⟨rfl, hle, rfl⟩
        · next hne =>
          refine ai_block ((ih k (Nat.lt_succ_self k) hl ev).mono ?_)
          rintro x2 e2 h2 ⟨rfl, hle, rfl⟩
          cases x2 with
          | exit j => exact absurd ev (hne _ _ _)
          | _ => exact ⟨rfl, hle, rfl⟩
      | loop a =>
        refine ai_loopT (γ := ET × Nat) (fun g => g.1) (fun g h1 => g.2 ≤ k + 1 ∧ evC P F g.2 (.loop a) g.1 h1 = some (x, e, h')) (fun g => g.2) (env, k + 1) hl ⟨Nat.le_refl _, ev⟩ ?_
        rintro ⟨e1, j⟩ env1 h1 hl1 ⟨hj, ev1⟩
        dsimp only at hj ev1 hl1 ⊢
        cases j with
        | zero => cases ev1
        | succ j =>
          simp only [evC] at ev1
          split at ev1
          · next e2 h2 hev =>
            refine (ih j (by omega) hl1 hev).mono ?_
            rintro x3 e3 h3 ⟨rfl, hle, rfl⟩
            exact ⟨(e2, j), hle, ⟨by dsimp only; omega, ev1⟩, by dsimp only; omega⟩
          · next hne =>
            refine (ih j (by omega) hl1 ev1).mono ?_
            rintro x3 e3 h3 ⟨rfl, hle, rfl⟩
            cases x3 with
            | normal => exact absurd ev1 (hne _ _)
            | _ => exact ⟨rfl, hle, rfl⟩
theorem run_sound {P : Program} {F : Nat → Option FI} (hF : Have P F) (hm : P.follows .mixedOrders = true) {k : Nat} {f : FuncId} {args : List Value} {h : Hp} {v : Value} {h' : Hp} (e : run P F k f args h = some (v, h')) : ACall P f args h (fun u g => u = v ∧ g = h') :=
  run_of hF (fun hl hev => evC_sound hF hm k hl hev) e
/-- Is the answer true? -/
def yes : Option (Value × Hp) → Bool
  | some (.bool true, _) => true
  | _ => false
theorem yes_of {r : Option (Value × Hp)} (e : yes r = true) : ∃ h, r = some (.bool true, h) := by
  unfold yes at e
  split at e
  · exact ⟨_, rfl⟩
  · cases e
/-- What is shown over the empty heap holds over each one, for arguments without addresses. -/
theorem acall_frame {P : Program} {f : FuncId} {args : List Value} {R : Value → Prop} (h : Hp) (hf : flatL args = true) (hv : ∀ v, R v → flat v = true) (c : ACall P f args Hp.empty (fun v _ => R v)) : ACall P f args h (fun v g => R v ∧ h = g) := by
  refine ⟨c.1, fun base w0 m w args' ra s => ?_⟩
  have ea : args' = args := ra.flat_eq hf
  subst ea
  refine (c.2 w.heap.size w ⟨fun _ => none, fun _ => none⟩ w args' (RVs.of_flat hf) (Sim.empty w (s.below.tb.of s.below.bl s.big))).mono ?_
  rintro e w' ⟨m', v, v', h', rfl, _, rv, s', hr⟩
  have ev := rv.flat_eq (hv v hr)
  subst ev
  refine ⟨m, v', v', h, rfl, m.le_refl, RV.of_flat m v' (hv v' hr), ?_, hr, rfl⟩
  have hlt : ∀ b, b < w.heap.size → w'.heap[b]? = w.heap[b]? := s'.below.bl.block
  refine s.world ⟨s'.below.bl.os, s'.below.bl.tape, s'.below.bl.output, s'.below.bl.size, fun b hb => hlt b (Nat.lt_of_lt_of_le hb s.big)⟩ s'.below.dr s'.below.bl.size (fun b es ck hb => hlt b (Array.getElem?_eq_some_iff.1 hb).1) fun i l ob _ hm => hlt _ (s.lt i l hm)
/-- Functions by their numbers. -/
def look : List (Nat × FI) → Nat → Option FI
  | [], _ => none
  | (k, x) :: r, f => if Nat.beq k f = true then some x else look r f
theorem have_nil (P : Program) : Have P (look []) := fun _ _ e => by cases e
theorem have_cons {P : Program} {l : List (Nat × FI)} {k : Nat} {x : FI} {fn : Func} (hf : P.funcs[k]? = some fn) (hc : compF P fn = some x) (h : Have P (look l)) : Have P (look ((k, x) :: l)) := by
  intro f fi e
  simp only [look] at e
  split at e
  · next hk => cases e; rw [← Nat.eq_of_beq_eq_true hk]; exact ⟨fn, hf, hc⟩
  · exact h f fi e
/-- A closed function that answers true does so over every heap. -/
theorem closed_true {P : Program} {F : Nat → Option FI} (hF : Have P F) (hm : P.follows .mixedOrders = true) (k : Nat) {f : FuncId} {args : List Value} (hf : flatL args = true) (e : yes (run P F k f args Hp.empty) = true) (h : Hp) : ACall P f args h (fun v g => v = .bool true ∧ h = g) := by
  obtain ⟨h1, e1⟩ := yes_of e
  exact acall_frame (R := fun v => v = .bool true) h hf (by rintro v rfl; rfl) ((run_sound hF hm e1).mono fun _ _ ⟨h2, _⟩ => h2)
/-- A closed function with a plain answer. -/
theorem closed_val {P : Program} {F : Nat → Option FI} (hF : Have P F) (hm : P.follows .mixedOrders = true) (k : Nat) {f : FuncId} {args : List Value} {v : Value} (hf : flatL args = true) (hv : flat v = true) (e : (run P F k f args Hp.empty).map (·.1) = some v) (h : Hp) : ACall P f args h (fun u g => u = v ∧ h = g) := by
  cases hr : run P F k f args Hp.empty with
  | none => rw [hr] at e; cases e
  | some r =>
    obtain ⟨u, h1⟩ := r
    rw [hr] at e
    cases e
    exact acall_frame (R := fun u' => u' = u) h hf (by rintro _ rfl; exact hv) ((run_sound hF hm hr).mono fun _ _ ⟨h2, _⟩ => h2)
end Go.Proofs.YtapbmmlgmcmpnaaDoorW.Am
