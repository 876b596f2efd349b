/- Regions whose order is open: the order that stands for all, reckoned and checked. -/
import Derived.Test.YtapbmmlgmcmpnaaDoorTextBlanksK1
import Derived.Test.YtapbmmlgmcmpnaaDoorProg
import Derived.KernelRfl
namespace Go.Proofs.YtapbmmlgmcmpnaaDoorW.Am
open Go Go.RowKit

/-- Of each operation: which ones come ahead of it in every order (bits). -/
def maskOf (acc : List Nat) (o : Oper) : Nat := o.after.toList.foldl (fun s e => if Region.binds .any e then s ||| 2 ^ e.on ||| acc.getD e.on 0 else s) 0
def masksGo : List Oper → List Nat → List Nat
  | [], acc => acc
  | o :: r, acc => masksGo r (acc ++ [maskOf acc o])
def masks (ops : Array Oper) : List Nat := masksGo ops.toList []
def readyNow (ops : Array Oper) (done : List Nat) (i : Nat) : Bool :=
  match ops[i]? with
  | some o => o.after.all fun e => !Region.binds .any e || done.contains e.on
  | none => false
/-- Reads as early as they may be; then the next write. -/
def eagerGo (ops : Array Oper) (eff : Nat → Bool) : Nat → List Nat → List Nat → List Nat
  | 0, _, done => done
  | fuel + 1, left, done =>
    match left.find? (fun i => !eff i && readyNow ops done i) with
    | some i => eagerGo ops eff fuel (left.erase i) (done ++ [i])
    | none => match left.find? (fun i => readyNow ops done i) with
      | some i => eagerGo ops eff fuel (left.erase i) (done ++ [i])
      | none => done
/-- Does the instruction write a slot that one ahead of it (in the text) reads or writes? -/
def warOf (ins : List In) (ix : Nat) : Bool := match ins[ix]? with
  | some i => match i.d with
    | some d => (ins.take ix).any fun y => (looks y).contains d || y.d == some d
    | none => false
  | none => false
def triples (P : Program) (n : Nat) (ops : Array Oper) : List Nat → Option (List (Nat × In))
  | [] => some []
  | ix :: r => match ops[ix]? with
    | some o => match compIn P n ops o, triples P n ops r with
      | some i, some ts => some ((ix, i) :: ts)
      | _, _ => none
    | none => none
def buildL (mk : Nat → Nat) (ef : Nat → Bool) (p : List DE) : List (Nat × In) → List DE
  | [] => []
  | (ix, i) :: r =>
    let x : DE := ⟨ix, i, effIn i || ef ix, if effIn i then (p.filter fun y => !y.eff && !pureIn y.i && !(mk ix).testBit y.ix).map (·.i) else []⟩
    x :: buildL mk ef (p ++ [x]) r
def chkOne (mk : Nat → Nat) (ops : Array Oper) (p : List DE) (x : DE) (q : List DE) : Bool :=
  (match ops[x.ix]? with
    | some o => (o.after.toList.all fun e => !Region.binds .any e || (p.map (·.ix)).contains e.on) &&
      (p.all fun y => y.eff || match y.i.d with
        | some d => !(looks x.i).contains d || o.after.toList.any fun e => Region.binds .any e && e.on == y.ix
        | none => true)
    | none => false) &&
  (x.eff || match x.i.d with | some d => !(looks x.i).contains d | none => true) &&
  (q.all fun y => match y.i.d with
    | some d => (!(looks x.i).contains d && x.i.d != some d) || (y.eff && (mk y.ix).testBit x.ix)
    | none => true) &&
  (x.eff || pureIn x.i || x.i.d.isSome)
def chkL (mk : Nat → Nat) (ops : Array Oper) (p : List DE) : List DE → Bool
  | [] => true
  | x :: q => chkOne mk ops p x q && chkL mk ops (p ++ [x]) q
def drawL (P : Program) (n : Nat) (ops : Array Oper) : Option (List DE) :=
  let mk := masks ops
  match compIns P n ops ops.toList with
  | none => none
  | some ins =>
    let order := eagerGo ops (fun i => (match ins[i]? with | some x => effIn x | none => true) || warOf ins i) ops.size (List.range ops.size) []
    match triples P n ops order with
    | none => none
    | some ts =>
      let L := buildL (fun i => mk.getD i 0) (warOf ins) [] ts
      if (decide (L.length = ops.size) && decide (L.map (·.ix)).Nodup && ((List.range ops.size).all fun i => (L.map (·.ix)).contains i) && eagerOk (fun i => mk.getD i 0) none L && chkL (fun i => mk.getD i 0) ops [] L) = true then some L else none

section
variable {P : Program} {n : Nat} {ops : Array Oper} {mk : Nat → Nat}

theorem fold_bit {acc : List Nat} {j : Nat} : ∀ (l : List Edge) (s : Nat), (l.foldl (fun s e => if Region.binds .any e then s ||| 2 ^ e.on ||| acc.getD e.on 0 else s) s).testBit j = true →
    s.testBit j = true ∨ ∃ e ∈ l, Region.binds .any e = true ∧ (e.on = j ∨ (acc.getD e.on 0).testBit j = true) := by
  intro l
  induction l with
  | nil => intro s h; exact .inl h
  | cons e l ih =>
    intro s h
    simp only [List.foldl_cons] at h
    rcases ih _ h with h1 | ⟨e', he', hh⟩
    · split at h1
      · next hb =>
        rw [Nat.testBit_or, Nat.testBit_or, Bool.or_eq_true, Bool.or_eq_true] at h1
        rcases h1 with (h1 | h1) | h1
        · exact .inl h1
        · refine .inr ⟨e, by simp, hb, .inl ?_⟩
          rw [Nat.testBit_two_pow] at h1
          simpa using h1
        · exact .inr ⟨e, by simp, hb, .inr h1⟩
      · exact .inl h1
    · exact .inr ⟨e', by simp [he'], hh⟩

theorem masksGo_get : ∀ (l : List Oper) (acc : List Nat) (i : Nat), (masksGo l acc)[i]? = if i < acc.length then acc[i]? else (match l[i - acc.length]? with | some o => some (maskOf ((masksGo l acc).take i) o) | none => none) := by
  intro l
  induction l with
  | nil =>
    intro acc i
    simp only [masksGo]
    split
    · rfl
    · next h => rw [List.getElem?_eq_none (by omega)]; simp
  | cons o l ih =>
    intro acc i
    simp only [masksGo]
    rw [ih]
    simp only [List.length_append, List.length_cons, List.length_nil]
    by_cases h1 : i < acc.length
    · rw [if_pos (by omega), if_pos h1, List.getElem?_append_left h1]
    · rw [if_neg h1]
      by_cases h2 : i = acc.length
      · subst h2
        rw [if_pos (by omega)]
        simp only [Nat.sub_self, List.getElem?_cons_zero]
        rw [List.getElem?_append_right (Nat.le_refl _)]
        simp only [Nat.sub_self, List.getElem?_cons_zero]
        have : (masksGo l (acc ++ [maskOf acc o])).take acc.length = acc := by
          refine List.ext_getElem? fun j => ?_
          rw [List.getElem?_take]
          split
          · next hj => rw [ih, if_pos (by simp; omega), List.getElem?_append_left hj]
          · next hj => rw [List.getElem?_eq_none (by omega)]
        rw [this]
      · rw [if_neg (by omega), show i - acc.length = (i - (acc.length + (0 + 1))) + 1 by omega]
        simp only [List.getElem?_cons_succ]

theorem mask_closed (D : Nat → Prop) (hD : ∀ (i : Nat) (o : Oper), ops[i]? = some o → D i → ∀ e ∈ o.after, Region.binds .any e = true → D e.on) :
    ∀ (i : Nat) (o : Oper), ops[i]? = some o → (∀ e ∈ o.after, Region.binds .any e = true → D e.on) → ∀ j, (((masks ops).getD i 0).testBit j = true) → D j := by
  intro i
  induction i using Nat.strongRecOn with
  | _ i ih =>
    intro o ho hp j hj
    have hg := masksGo_get ops.toList [] i
    simp only [List.length_nil, Nat.not_lt_zero, if_false, Nat.sub_zero] at hg
    have hoL : ops.toList[i]? = some o := by rw [Array.getElem?_toList]; exact ho
    simp only [hoL] at hg
    unfold masks at hj
    rw [List.getD_eq_getElem?_getD, hg, Option.getD_some] at hj
    unfold maskOf at hj
    rcases fold_bit _ _ hj with h | ⟨e, he, hb, h⟩
    · simp at h
    · have hDe := hp e (by simpa using he) hb
      rcases h with rfl | h
      · exact hDe
      · rw [List.getD_eq_getElem?_getD, List.getElem?_take] at h
        split at h
        · next hlt =>
          cases hoe : ops[e.on]? with
          | none =>
            have hl := masksGo_get ops.toList [] e.on
            simp only [List.length_nil, Nat.not_lt_zero, if_false, Nat.sub_zero] at hl
            have hoL : ops.toList[e.on]? = none := by rw [Array.getElem?_toList]; exact hoe
            simp only [hoL] at hl
            rw [hl] at h
            simp at h
          | some oe =>
            refine ih e.on hlt oe hoe (fun e2 h2 hb2 => hD e.on oe hoe hDe e2 h2 hb2) j ?_
            unfold masks
            rw [List.getD_eq_getElem?_getD]
            exact h
        · simp at h

theorem triples_of : ∀ {ixs : List Nat} {ts : List (Nat × In)}, triples P n ops ixs = some ts → ∀ p ∈ ts, ∃ o, ops[p.1]? = some o ∧ compIn P n ops o = some p.2 := by
  intro ixs
  induction ixs with
  | nil => intro ts e p hp; cases e; cases hp
  | cons ix ixs ih =>
    intro ts e p hp
    simp only [triples] at e
    split at e
    case h_2 => cases e
    case h_1 o ho =>
    split at e
    case h_2 => cases e
    case h_1 i ts' hi hts =>
    cases e
    rcases List.mem_cons.1 hp with rfl | hp
    · exact ⟨o, ho, hi⟩
    · exact ih hts p hp
theorem buildL_mem {ef : Nat → Bool} : ∀ {ts : List (Nat × In)} {p : List DE} {x : DE}, x ∈ buildL mk ef p ts → (x.ix, x.i) ∈ ts ∧ x.eff = (effIn x.i || ef x.ix) := by
  intro ts
  induction ts with
  | nil => intro p x hx; cases hx
  | cons t ts ih =>
    intro p x hx
    obtain ⟨ix, i⟩ := t
    simp only [buildL] at hx
    rcases List.mem_cons.1 hx with rfl | hx
    · exact ⟨by simp, rfl⟩
    · obtain ⟨h1, h2⟩ := ih hx
      exact ⟨by simp [h1], h2⟩
theorem buildL_re {ef : Nat → Bool} : ∀ {ts : List (Nat × In)} {p0 p q : List DE} {x : DE}, buildL mk ef p0 ts = p ++ x :: q → x.re = if effIn x.i then ((p0 ++ p).filter fun y => !y.eff && !pureIn y.i && !(mk x.ix).testBit y.ix).map (·.i) else [] := by
  intro ts
  induction ts with
  | nil => intro p0 p q x e; simp [buildL] at e
  | cons t ts ih =>
    intro p0 p q x e
    obtain ⟨ix, i⟩ := t
    simp only [buildL] at e
    cases p with
    | nil =>
      simp only [List.nil_append, List.cons.injEq] at e
      obtain ⟨rfl, _⟩ := e
      simp
    | cons y p =>
      simp only [List.cons_append, List.cons.injEq] at e
      obtain ⟨rfl, e⟩ := e
      have := ih e
      simpa using this
theorem chkL_at : ∀ {l p0 p q : List DE} {x : DE}, chkL mk ops p0 l = true → l = p ++ x :: q → chkOne mk ops (p0 ++ p) x q = true := by
  intro l
  induction l with
  | nil => intro p0 p q x _ e; simp at e
  | cons y l ih =>
    intro p0 p q x hc e
    simp only [chkL, Bool.and_eq_true] at hc
    cases p with
    | nil =>
      simp only [List.nil_append, List.cons.injEq] at e
      obtain ⟨rfl, rfl⟩ := e
      simpa using hc.1
    | cons z p =>
      simp only [List.cons_append, List.cons.injEq] at e
      obtain ⟨rfl, e⟩ := e
      have := ih hc.2 e
      simpa using this

theorem fine_of {L : List DE} (e : drawL P n ops = some L) : Fine P n ops (fun i => (masks ops).getD i 0) L := by
  unfold drawL at e
  simp only at e
  split at e
  · cases e
  next ins hins =>
  split at e
  · cases e
  next ts hts =>
  split at e
  case isFalse => cases e
  case isTrue hc =>
  cases e
  simp only [Bool.and_eq_true, decide_eq_true_eq] at hc
  obtain ⟨⟨⟨⟨_, h1⟩, h2⟩, h3⟩, h4⟩ := hc
  refine ⟨?_, h1, ?_, ?_, ?_, ?_, h3, ?_, ?_, fun D hD => mask_closed D hD⟩
  · intro x hx
    obtain ⟨g1, g2⟩ := buildL_mem hx
    obtain ⟨o, ho, hi⟩ := triples_of hts _ g1
    refine ⟨o, ho, hi, fun hq => ?_⟩
    rw [g2, Bool.or_eq_false_iff] at hq
    have hq := hq.1
    cases hp : pureIn x.i with
    | true => exact .inl rfl
    | false => right; simpa [effIn, hp] using hq
  · intro i hi
    rw [List.all_eq_true] at h2
    have := h2 i (by simpa using hi)
    simpa using this
  · intro p x q hL o ho e he hb
    have hk := chkL_at h4 hL
    simp only [chkOne, ho, List.nil_append, Bool.and_eq_true] at hk
    have := List.all_eq_true.1 hk.1.1.1.1 e (by simpa using he)
    rw [hb] at this
    simpa using this
  · intro p x q hL
    have hk := chkL_at h4 hL
    simp only [chkOne, Bool.and_eq_true] at hk
    refine ⟨fun hxe d hd => ?_, fun y hy d hd => ?_⟩
    · have := hk.1.1.2
      rw [hd, hxe] at this
      simpa using this
    · have := List.all_eq_true.1 hk.1.2 y hy
      rw [hd] at this
      simp only [Bool.or_eq_true, Bool.and_eq_true] at this
      rcases this with h | h
      · exact .inl (by simpa using h)
      · exact .inr h
  · intro p x q hL y hy hye d hd hm
    have hk := chkL_at h4 hL
    simp only [chkOne, List.nil_append, Bool.and_eq_true] at hk
    have hk1 := hk.1.1.1
    split at hk1
    · next o ho =>
      simp only [Bool.and_eq_true] at hk1
      have := List.all_eq_true.1 hk1.2 y hy
      rw [hd, hye] at this
      simp only [Bool.false_or, Bool.or_eq_true] at this
      rcases this with this | this
      · simp [hm] at this
      · obtain ⟨e, he, hh⟩ := List.any_eq_true.1 this
        simp only [Bool.and_eq_true, beq_iff_eq] at hh
        exact ⟨o, e, ho, by simpa using he, hh.1, hh.2⟩
    · cases hk1
  · intro p x q hL hx hxe y hy hye hyp hb
    have := buildL_re hL
    rw [if_pos hxe] at this
    rw [this]
    refine List.mem_map_of_mem (List.mem_filter.2 ⟨by simpa using hy, ?_⟩)
    rw [hye, hyp, hb]; rfl
  · intro x hx hxe hxp
    obtain ⟨p, q, hL⟩ := List.append_of_mem hx
    have hk := chkL_at h4 hL
    simp only [chkOne, Bool.and_eq_true] at hk
    have := hk.2
    rw [hxe, hxp] at this
    simpa using this

/-- The order that is reckoned stands for all. -/
theorem draw_sound {base : Nat} {w0 w : World} {m : Mu} {h : Hp} {env : Env} {L : List DE} {Q : Env → Hp → Prop} {Q' : Exit → Act → World → Prop} {a : Act} (e : drawL P n ops = some L) (r : REnv m n env a.tmps) (hd : a.defers = []) (s : Sim base w0 m h w) (hw : wpD P (ACall P) L env h Q)
    (hq : ∀ m' env' h' a' w', m.le m' → REnv m' n env' a'.tmps → a'.defers = [] → Sim base w0 m' h' w' → Q env' h' → Q' .normal a' w') :
    wpAny P .any ops Q' ops.size (Array.replicate ops.size false) a w := by
  have F := fine_of e
  have hlen : L.length = ops.size := by
    unfold drawL at e
    simp only at e
    split at e
    · cases e
    split at e
    · cases e
    split at e
    case isFalse => cases e
    case isTrue hc =>
    cases e
    simp only [Bool.and_eq_true, decide_eq_true_eq] at hc
    exact hc.1.1.1.1
  refine Inv.run F (m0 := m) hq ops.size _ [] L [] none m env h a w (by simp) (by simpa using hlen) ⟨rfl, List.Sublist.refl _, by simp, hw, ?_, ?_, ?_, F.eager, by simp, ⟨r.1, fun t v ev _ => r.2 t v ev⟩, hd, s, m.le_refl⟩
  · intro i hi
    constructor
    · intro hx; simp [hi] at hx
    · rintro ⟨h1, _⟩; exact absurd (F.all i hi) h1
  · intro i hx
    have := (Array.getElem?_eq_some_iff.1 hx).1
    simpa using this
  · intro i o _ hx
    have hi := (Array.getElem?_eq_some_iff.1 hx).1
    simp at hi
    simp [hi] at hx
end
end Go.Proofs.YtapbmmlgmcmpnaaDoorW.Am
/- Code: what is to be shown of it over abstract heaps, and the rules. -/
namespace Go.Proofs.YtapbmmlgmcmpnaaDoorW.Am
open Go Go.RowKit

inductive IC
  | skip
  | reg (ins : List In)
  | drw (L : List DE)
  | seq (a b : IC)
  | cond (c : Operand) (a b : IC)
  | block (id : Nat) (a : IC)
  | loop (a : IC)
  | exit (id : Nat)
  | ret

/-- Code as instructions. A region whose order is open stays as it is. -/
def compC (P : Program) (n : Nat) : Code → Option IC
  | .skip => some .skip
  | .region _ ops draw => if draw then (drawL P n ops).map .drw else (compIns P n ops ops.toList).map .reg
  | .seq a b => match compC P n a, compC P n b with
    | some x, some y => some (.seq x y)
    | _, _ => none
  | .cond c a b => match compC P n a, compC P n b with
    | some x, some y => some (.cond c x y)
    | _, _ => none
  | .block id a => (compC P n a).map (.block id)
  | .loop a => (compC P n a).map .loop
  | .exit id => some (.exit id)
  | .ret => some .ret
  | _ => none

/-- What is to be shown of code. -/
def AW (P : Program) (n : Nat) (c : Code) (env : Env) (h : Hp) (Q : Exit → Env → Hp → Prop) : Prop :=
  ∀ base w0 m a w, REnv m n env a.tmps → a.defers = [] → Sim base w0 m h w →
    c.wp P (fun ex a' w' => ∃ m' env' h', m.le m' ∧ REnv m' n env' a'.tmps ∧ a'.defers = [] ∧ Sim base w0 m' h' w' ∧ Q ex env' h') a w
def AI (P : Program) (n : Nat) (c : IC) (env : Env) (h : Hp) (Q : Exit → Env → Hp → Prop) : Prop :=
  ∀ d, compC P n d = some c → AW P n d env h Q

def thenQ (P : Program) (n : Nat) (b : IC) (Q : Exit → Env → Hp → Prop) : Exit → Env → Hp → Prop
  | .normal, env, h => AI P n b env h Q
  | e, env, h => Q e env h
def blockQ (id : Nat) (Q : Exit → Env → Hp → Prop) : Exit → Env → Hp → Prop
  | .exit j, env, h => if j = id then Q .normal env h else Q (.exit j) env h
  | e, env, h => Q e env h

theorem exists_least {p : Nat → Prop} : ∀ k, p k → ∃ n, p n ∧ ∀ j, p j → n ≤ j := by
  intro k
  induction k using Nat.strongRecOn with
  | _ k ih =>
    intro hk
    by_cases h : ∃ j, j < k ∧ p j
    · obtain ⟨j, hj, pj⟩ := h
      exact ih j hj pj
    · exact ⟨k, hk, fun j pj => Nat.le_of_not_lt fun hlt => h ⟨j, hlt, pj⟩⟩
noncomputable def least (p : Nat → Prop) : Nat := open Classical in if h : ∃ n, p n ∧ ∀ j, p j → n ≤ j then Classical.choose h else 0
theorem least_spec {p : Nat → Prop} {k : Nat} (hk : p k) : p (least p) ∧ ∀ j, p j → least p ≤ j := by
  have h := exists_least k hk
  unfold least
  rw [dif_pos h]
  exact Classical.choose_spec h

section
variable {P : Program} {n : Nat} {env : Env} {h : Hp} {Q : Exit → Env → Hp → Prop}

theorem AW.mono {c : Code} {Q' : Exit → Env → Hp → Prop} (a : AW P n c env h Q) (hq : ∀ e env h, Q e env h → Q' e env h) : AW P n c env h Q' :=
  fun base w0 m ac w r hd s => wp_mono (a base w0 m ac w r hd s) fun _ _ _ ⟨m', env', h', h1, h2, h3, h4, h5⟩ => ⟨m', env', h', h1, h2, h3, h4, hq _ _ _ h5⟩
theorem AI.mono {c : IC} {Q' : Exit → Env → Hp → Prop} (a : AI P n c env h Q) (hq : ∀ e env h, Q e env h → Q' e env h) : AI P n c env h Q' :=
  fun d hd => (a d hd).mono hq

def EnvLe (a b : Env) : Prop := ∀ t v, a.get t = some v → b.get t = some v
/-- Less may be known of the frame. -/
theorem AI.weak {c : IC} {env' : Env} (hl : EnvLe env' env) (a : AI P n c env' h Q) : AI P n c env h Q :=
  fun d hd base w0 m ac w r hdf s => a d hd base w0 m ac w ⟨r.1, fun t v e => r.2 t v (hl t v e)⟩ hdf s

theorem ai_skip (hq : Q .normal env h) : AI P n .skip env h Q := by
  intro d hd base w0 m a w r hdf s
  cases d <;> simp only [compC, reduceCtorEq] at hd
  · exact wp_skip ⟨m, env, h, m.le_refl, r, hdf, s, hq⟩
  all_goals (first | (split at hd <;> simp at hd; done) | simp at hd)

theorem ai_ret (hq : Q .ret env h) : AI P n .ret env h Q := by
  intro d hd base w0 m a w r hdf s
  cases d <;> simp only [compC, reduceCtorEq] at hd
  case ret => exact wp_ret ⟨m, env, h, m.le_refl, r, hdf, s, hq⟩
  all_goals (first | (split at hd <;> simp at hd; done) | simp at hd)

theorem ai_exit {id : Nat} (hq : Q (.exit id) env h) : AI P n (.exit id) env h Q := by
  intro d hd base w0 m a w r hdf s
  cases d <;> simp only [compC, reduceCtorEq, Option.some.injEq, IC.exit.injEq] at hd
  case exit j => subst hd; exact wp_exit ⟨m, env, h, m.le_refl, r, hdf, s, hq⟩
  all_goals (first | (split at hd <;> simp at hd; done) | simp at hd)

theorem ai_seq {x y : IC} (hx : AI P n x env h (thenQ P n y Q)) : AI P n (.seq x y) env h Q := by
  intro d hd base w0 m a w r hdf s
  cases d <;> simp only [compC, reduceCtorEq] at hd
  case seq c1 c2 =>
    split at hd
    case h_2 => cases hd
    case h_1 x' y' h1 h2 =>
    cases hd
    refine wp_seq (wp_mono (hx c1 h1 base w0 m a w r hdf s) ?_)
    rintro ex a' w' ⟨m', env', h', g1, g2, g3, g4, g5⟩
    cases ex with
    | normal =>
      refine wp_mono (g5 c2 h2 base w0 m' a' w' g2 g3 g4) ?_
      rintro ex a2 w2 ⟨m2, env2, h2, k1, k2⟩
      exact ⟨m2, env2, h2, Mu.le_trans g1 k1, k2⟩
    | exit j => exact ⟨m', env', h', g1, g2, g3, g4, g5⟩
    | goto l => exact ⟨m', env', h', g1, g2, g3, g4, g5⟩
    | ret => exact ⟨m', env', h', g1, g2, g3, g4, g5⟩
    | panic ch => exact ⟨m', env', h', g1, g2, g3, g4, g5⟩
    | outgrown => exact ⟨m', env', h', g1, g2, g3, g4, g5⟩
  all_goals (first | (split at hd <;> simp at hd; done) | simp at hd)

theorem ai_block {id : Nat} {x : IC} (hx : AI P n x env h (blockQ id Q)) : AI P n (.block id x) env h Q := by
  intro d hd base w0 m a w r hdf s
  cases d <;> simp only [compC, reduceCtorEq] at hd
  case block j c =>
    simp only [Option.map_eq_some_iff, IC.block.injEq] at hd
    obtain ⟨x', h1, rfl, rfl⟩ := hd
    refine wp_block (wp_mono (hx c h1 base w0 m a w r hdf s) ?_)
    rintro ex a' w' ⟨m', env', h', g1, g2, g3, g4, g5⟩
    cases ex with
    | exit i =>
      simp only [blockQ] at g5
      simp only [Exit.inBlock]
      split
      · next hi => rw [if_pos hi] at g5; exact ⟨m', env', h', g1, g2, g3, g4, g5⟩
      · next hi => rw [if_neg hi] at g5; exact ⟨m', env', h', g1, g2, g3, g4, g5⟩
    | normal => exact ⟨m', env', h', g1, g2, g3, g4, g5⟩
    | goto l => exact ⟨m', env', h', g1, g2, g3, g4, g5⟩
    | ret => exact ⟨m', env', h', g1, g2, g3, g4, g5⟩
    | panic ch => exact ⟨m', env', h', g1, g2, g3, g4, g5⟩
    | outgrown => exact ⟨m', env', h', g1, g2, g3, g4, g5⟩
  all_goals (first | (split at hd <;> simp at hd; done) | simp at hd)

theorem ai_cond {c : Operand} {x y : IC} {b : Bool} (hc : evA env c = some (.bool b)) (hx : b = true → AI P n x env h Q) (hy : b = false → AI P n y env h Q) : AI P n (.cond c x y) env h Q := by
  intro d hd base w0 m a w r hdf s
  cases d <;> simp only [compC, reduceCtorEq] at hd
  case cond c' c1 c2 =>
    split at hd
    case h_2 => cases hd
    case h_1 x' y' h1 h2 =>
    cases hd
    have hv := (r.eval hc).scalar_bool
    exact wp_cond_split hv (fun hb => hx hb c1 h1 base w0 m a w r hdf s) (fun hb => hy hb c2 h2 base w0 m a w r hdf s)
  all_goals (first | (split at hd <;> simp at hd; done) | simp at hd)

theorem ai_reg {ins : List In} (hx : wpS P (ACall P) ins env h (fun env' h' => Q .normal env' h')) : AI P n (.reg ins) env h Q := by
  intro d hd base w0 m a w r hdf s
  cases d <;> simp only [compC, reduceCtorEq] at hd
  case region id ops draw =>
    split at hd
    · simp at hd
    · next hdr =>
      simp only [Option.map_eq_some_iff, IC.reg.injEq] at hd
      obtain ⟨is, h1, rfl⟩ := hd
      have hdr : draw = false := by simpa using hdr
      subst hdr
      refine wp_region ?_
      have := wpS_sound (P := P) (Q := fun env' h' => Q .normal env' h') (Q' := fun ex a' w' => ∃ m' env' h', m.le m' ∧ REnv m' n env' a'.tmps ∧ a'.defers = [] ∧ Sim base w0 m' h' w' ∧ Q ex env' h') ops.toList [] is m env h a w (by simp) h1 r hdf s hx
        (fun m' env' h' a' w' g1 g2 g3 g4 g5 => ⟨m', env', h', g1, g2, g3, g4, g5⟩)
      simpa [List.range_eq_range'] using this
  all_goals (first | (split at hd <;> simp at hd; done) | simp at hd)

theorem ai_drw {L : List DE} (hm : P.follows .mixedOrders = true) (hx : wpD P (ACall P) L env h (fun env' h' => Q .normal env' h')) : AI P n (.drw L) env h Q := by
  intro d hd base w0 m a w r hdf s
  cases d <;> simp only [compC, reduceCtorEq] at hd
  case region id ops draw =>
    split at hd
    · next hdr =>
      simp only [Option.map_eq_some_iff, IC.drw.injEq] at hd
      obtain ⟨L', h1, rfl⟩ := hd
      subst hdr
      refine wp_region_any hm ?_
      exact draw_sound h1 r hdf (s.drawn _ (by omega)) hx (fun m' env' h' a' w' g1 g2 g3 g4 g5 => ⟨m', env', h', g1, g2, g3, g4, g5⟩)
    · simp at hd
  all_goals (first | (split at hd <;> simp at hd; done) | simp at hd)

/-- What a round of a loop leaves. -/
def roundQ (I : Env → Hp → Nat → Prop) (k : Nat) (Q : Exit → Env → Hp → Prop) : Exit → Env → Hp → Prop
  | .normal, env, h => ∃ j, j < k ∧ I env h j
  | e, env, h => Q e env h
/-- A loop: what holds at each round's head (with a number that falls). -/
theorem ai_loop {x : IC} (I : Env → Hp → Nat → Prop) {k0 : Nat} (h0 : I env h k0) (round : ∀ env h k, I env h k → AI P n x env h (roundQ I k Q)) : AI P n (.loop x) env h Q := by
  intro d hd base w0 m a w r hdf s
  cases d <;> simp only [compC, reduceCtorEq] at hd
  case loop c =>
    simp only [Option.map_eq_some_iff, IC.loop.injEq] at hd
    obtain ⟨x', h1, rfl⟩ := hd
    let J : Act → World → Nat → Prop := fun a w k => ∃ m' env' h', m.le m' ∧ REnv m' n env' a.tmps ∧ a.defers = [] ∧ Sim base w0 m' h' w ∧ I env' h' k
    refine wp_loop (fun a w => ∃ k, J a w k) (fun a w => least (J a w)) ⟨k0, m, env, h, m.le_refl, r, hdf, s, h0⟩ ?_
    rintro a1 w1 ⟨k, hk⟩
    obtain ⟨⟨m1, env1, hp1, g1, g2, g3, g4, g5⟩, _⟩ := least_spec hk
    refine wp_mono (round env1 hp1 _ g5 c h1 base w0 m1 a1 w1 g2 g3 g4) ?_
    rintro ex a2 w2 ⟨m2, env2, hp2, k1, k2, k3, k4, k5⟩
    cases ex with
    | normal =>
      obtain ⟨j, hj, hI⟩ := k5
      have hJ : J a2 w2 j := ⟨m2, env2, hp2, Mu.le_trans g1 k1, k2, k3, k4, hI⟩
      exact ⟨⟨j, hJ⟩, Nat.lt_of_le_of_lt ((least_spec hJ).2 j hJ) hj⟩
    | exit i => exact ⟨m2, env2, hp2, Mu.le_trans g1 k1, k2, k3, k4, k5⟩
    | goto l => exact ⟨m2, env2, hp2, Mu.le_trans g1 k1, k2, k3, k4, k5⟩
    | ret => exact ⟨m2, env2, hp2, Mu.le_trans g1 k1, k2, k3, k4, k5⟩
    | panic ch => exact ⟨m2, env2, hp2, Mu.le_trans g1 k1, k2, k3, k4, k5⟩
    | outgrown => exact ⟨m2, env2, hp2, Mu.le_trans g1 k1, k2, k3, k4, k5⟩
  all_goals (first | (split at hd <;> simp at hd; done) | simp at hd)

/-- A function's results, out of its frame (slots alone) and memory. -/
def resOne (P : Program) (env : Env) (h : Hp) : ResultVar → Option Value
  | .tmp t => env.get t
  | .cell a t => match env.get a with
    | some (.pointer (some ⟨i, o, none⟩)) => match P.underlying t, P.info? t with
      | some d, some ti => if isAggD d then (h.rd i o ti.size).map fun vs => .agg ⟨vs⟩ else match h.rd i o 1 with
        | some [v] => some v
        | _ => none
      | _, _ => none
    | _ => none
def resAll (P : Program) (env : Env) (h : Hp) : List ResultVar → Option (List Value)
  | [] => some []
  | x :: r => match resOne P env h x, resAll P env h r with
    | some v, some vs => some (v :: vs)
    | _, _ => none
def pack : List Value → Value
  | [v] => v
  | vs => .tuple ⟨vs⟩

def resSem (tmps : Array Value) : ResultVar → Sem Value
  | .tmp t => pure (tmps.getD t undef)
  | .cell b t => do loadVar t (← asAddr (tmps.getD b undef))

theorem resOne_sound {base : Nat} {w0 w : World} {m : Mu} {a : Act} (r : REnv m n env a.tmps) (s : Sim base w0 m h w) {x : ResultVar} {v : Value} (e : resOne P env h x = some v) :
    ∃ v', (resSem a.tmps x).run P w = .ok v' w ∧ RV m v v' := by
  cases x with
  | tmp t =>
    obtain ⟨v', h1, h2⟩ := r.2 t v e
    refine ⟨v', ?_, h2⟩
    simp [resSem, Array.getD_eq_getD_getElem?, h1]
  | cell b t =>
    simp only [resOne] at e
    split at e
    case h_2 => cases e
    case h_1 i o hb =>
    split at e
    case h_2 => cases e
    case h_1 d ti hu hi =>
    obtain ⟨v', h1, h2⟩ := r.2 b _ hb
    have hg : a.tmps.getD b undef = v' := by simp [Array.getD_eq_getD_getElem?, h1]
    have hla : ∀ v2, (Instr.loadAt t v').run P w = .ok v2 w → (do loadVar t (← asAddr (a.tmps.getD b undef)) : Sem Value).run P w = .ok v2 w := by
      intro v2 hl
      rw [hg]
      cases h2 with
      | ptr hl2 => exact hl
    split at e
    · next hd =>
      simp only [Option.map_eq_some_iff] at e
      obtain ⟨vs, hrd, he⟩ := e
      subst he
      obtain ⟨v2, k1, k2⟩ := run_loadn (P := P) s hu hd hi rfl h2 hrd
      exact ⟨v2, hla v2 k1, k2⟩
    · next hd =>
      split at e
      · next v0 hrd =>
        cases e
        obtain ⟨v2, k1, k2⟩ := run_load1 (P := P) s hu (by simpa using hd) h2 hrd
        exact ⟨v2, hla v2 k1, k2⟩
      · cases e

theorem resAll_sound {base : Nat} {w0 w : World} {m : Mu} {a : Act} (r : REnv m n env a.tmps) (s : Sim base w0 m h w) : ∀ {xs : List ResultVar} {vs : List Value}, resAll P env h xs = some vs →
    ∃ vs', (xs.mapM (resSem a.tmps)).run P w = .ok vs' w ∧ RVs m vs vs' := by
  intro xs
  induction xs with
  | nil => intro vs e; cases e; exact ⟨[], rfl, RVs.nil m⟩
  | cons x xs ih =>
    intro vs e
    simp only [resAll] at e
    split at e
    case h_2 => cases e
    case h_1 v us hv hus =>
    cases e
    obtain ⟨v', h1, h2⟩ := resOne_sound r s hv
    obtain ⟨vs', h3, h4⟩ := ih hus
    refine ⟨v' :: vs', ?_, RVs.cons h2 h4⟩
    simp only [List.mapM_cons, Sem.run_bind, h1, Result.andThen_ok, h3]
    rfl

theorem results_sound {base : Nat} {w0 w : World} {m : Mu} {a : Act} {fn : Func} (r : REnv m n env a.tmps) (s : Sim base w0 m h w) {vs : List Value} (e : resAll P env h fn.results.toList = some vs) :
    ∃ v', (results fn a.tmps).run P w = .ok v' w ∧ RV m (pack vs) v' := by
  obtain ⟨vs', h1, h2⟩ := resAll_sound r s e
  have hrun : (results fn a.tmps).run P w = .ok (if h : (vs'.toArray).size = 1 then (vs'.toArray)[0] else .tuple vs'.toArray) w := by
    unfold results
    rw [Array.mapM_eq_mapM_toList]
    simp only [Sem.run_bind, Sem.run_map]
    erw [h1]
    rfl
  refine ⟨_, hrun, ?_⟩
  cases vs with
  | nil =>
    obtain rfl := h2.cases_nil
    simp [pack]
    exact .tuple rfl (by simp)
  | cons v vs =>
    obtain ⟨v', us, rfl, r1, r2⟩ := h2.cases_cons
    cases vs with
    | nil =>
      obtain rfl := r2.cases_nil
      simpa [pack] using r1
    | cons u vs =>
      obtain ⟨u', us, rfl, r3, r4⟩ := r2.cases_cons
      simp [pack]
      exact .tuple h2.1 h2.2

/-- The frame at a call's begin. -/
def envOf : Nat → List Value → Env
  | _, [] => []
  | k, v :: r => (k, v) :: envOf (k + 1) r
theorem envOf_get : ∀ (l : List Value) (k t : Nat) (v : Value), (envOf k l).get t = some v → k ≤ t ∧ l[t - k]? = some v := by
  intro l
  induction l with
  | nil => intro k t v e; cases e
  | cons x l ih =>
    intro k t v e
    simp only [envOf, Env.get] at e
    split at e
    · next hk => subst hk; cases e; exact ⟨Nat.le_refl _, by simp⟩
    · next hk =>
      obtain ⟨h1, h2⟩ := ih (k + 1) t v e
      refine ⟨by omega, ?_⟩
      rw [show t - k = (t - (k + 1)) + 1 by omega]
      simpa using h2

structure FI where
  n : Nat
  res : List ResultVar
  body : IC
def compF (P : Program) (fn : Func) : Option FI :=
  match fn.body with
  | some c => match compC P fn.ntmps c with
    | some ic => if fn.name = "runtime.NumGoroutine" then none else some ⟨fn.ntmps, fn.results.toList, ic⟩
    | none => none
  | none => none

/-- What a function's body leaves. -/
def endQ (P : Program) (res : List ResultVar) (R : Value → Hp → Prop) : Exit → Env → Hp → Prop
  | .normal, env, h | .ret, env, h => ∃ vs, resAll P env h res = some vs ∧ R (pack vs) h
  | _, _, _ => False

/-- A function is what its body is. -/
theorem acall {f : FuncId} {fn : Func} {fi : FI} {args : List Value} {R : Value → Hp → Prop} (hf : P.funcs[f]? = some fn) (hc : compF P fn = some fi) (hn : args.length ≤ fi.n) (hb : AI P fi.n fi.body (envOf 0 args) h (endQ P fi.res R)) : ACall P f args h R := by
  unfold compF at hc
  split at hc
  case h_2 => cases hc
  case h_1 c hbody =>
  split at hc
  case h_2 => cases hc
  case h_1 ic hic =>
  split at hc
  · cases hc
  next hname =>
  cases hc
  refine ⟨⟨fn, hf, by simp [hbody], hname⟩, ?_⟩
  intro base w0 m w args' ra s
  refine calls_of_wp hf hbody (wp_mono (hb c hic base w0 m _ w ⟨?_, ?_⟩ rfl s) ?_)
  · have := ra.1
    simp at hn ⊢
    omega
  · intro t v e
    obtain ⟨_, h1⟩ := envOf_get args 0 t v e
    obtain ⟨v', h2, h3⟩ := ra.get h1
    refine ⟨v', ?_, h3⟩
    have hlt := (List.getElem?_eq_some_iff.1 h2).1
    simp only [Nat.sub_zero] at h2 hlt
    rw [Array.getElem?_append_left (by simpa using hlt)]
    simpa using h2
  · rintro ex a' w' ⟨m', env', h', g1, g2, g3, g4, g5⟩
    cases ex with
    | normal =>
      obtain ⟨vs, e1, e2⟩ := g5
      obtain ⟨v', e3, e4⟩ := results_sound g2 g4 e1
      exact ⟨g3, v', e3, m', _, v', h', rfl, g1, e4, g4, e2⟩
    | ret =>
      obtain ⟨vs, e1, e2⟩ := g5
      obtain ⟨v', e3, e4⟩ := results_sound g2 g4 e1
      exact ⟨g3, v', e3, m', _, v', h', rfl, g1, e4, g4, e2⟩
    | exit i => exact g5.elim
    | goto l => exact g5.elim
    | panic ch => exact g5.elim
    | outgrown => exact g5.elim
end
end Go.Proofs.YtapbmmlgmcmpnaaDoorW.Am
/- For use: what the steps come to, in small lemmas. -/
namespace Go.Proofs.YtapbmmlgmcmpnaaDoorW.Am
open Go Go.RowKit
section
variable {P : Program} {CT : CTy} {r : List In} {env : Env} {h h' : Hp} {Q : Env → Hp → Prop} {d : Option Nat} {k : K} {xs : List Operand} {vs : List Value} {v : Value}

theorem flat_int (k : IntKind) (n : Int) : flat (.int k n) = true := rfl
theorem flat_bool (b : Bool) : flat (.bool b) = true := rfl
theorem flat_string (s : ByteArray) : flat (.string s) = true := rfl
theorem flat_nils (n c : Nat) : flat (.slice none n c) = true := rfl
theorem flat_nilp : flat (.pointer none) = true := rfl
theorem flat_nili : flat .nilIface = true := rfl
theorem flat_nilf : flat .nilFunc = true := rfl
theorem flat_nilm : flat (.map none) = true := rfl

/-- One operation. -/
def opS (env : Env) (k : K) (xs : List Operand) (h : Hp) : Option (Value × Hp) :=
  match mapE env xs with
  | some vs => stepK k vs h
  | none => none
theorem st (e : opS env k xs h = some (v, h')) (n : wpS P CT r (env.put d v) h' Q) : wpS P CT (⟨d, none, .op k xs⟩ :: r) env h Q := by
  unfold opS at e
  unfold wpS wpIn
  simp only [wanted]
  split at e
  · next vs hv => simp only [hv, e]; exact n
  · cases e
theorem stT {t : Nat} {b c : Bool} (g : env.get t = some (.bool c)) (hc : (c == b) = true) (e : opS env k xs h = some (v, h')) (n : wpS P CT r (env.put d v) h' Q) : wpS P CT (⟨d, some (t, b), .op k xs⟩ :: r) env h Q := by
  unfold opS at e
  unfold wpS wpIn
  simp only [wanted, g, hc]
  split at e
  · next vs hv => simp only [hv, e]; exact n
  · cases e
theorem stF {t : Nat} {b c : Bool} {ik : IK} (g : env.get t = some (.bool c)) (hc : (c == b) = false) (n : wpS P CT r (env.put d undef) h Q) : wpS P CT (⟨d, some (t, b), ik⟩ :: r) env h Q := by
  unfold wpS wpIn
  simp only [wanted, g, hc]
  exact n
theorem stU {t : Nat} {b : Bool} {ik : IK} (g : env.get t = some undef) (n : wpS P CT r (env.put d undef) h Q) : wpS P CT (⟨d, some (t, b), ik⟩ :: r) env h Q := by
  unfold wpS wpIn
  simp only [wanted, g, undef]
  exact n
theorem stC {f : FuncId} (e : mapE env xs = some vs) (c : CT f vs h fun v h' => wpS P CT r (env.put d v) h' Q) : wpS P CT (⟨d, none, .call f xs⟩ :: r) env h Q := by
  unfold wpS wpIn
  simp only [wanted, e]
  exact c
theorem stCT {f : FuncId} {t : Nat} {b c : Bool} (g : env.get t = some (.bool c)) (hc : (c == b) = true) (e : mapE env xs = some vs) (c : CT f vs h fun v h' => wpS P CT r (env.put d v) h' Q) : wpS P CT (⟨d, some (t, b), .call f xs⟩ :: r) env h Q := by
  unfold wpS wpIn
  simp only [wanted, g, hc, e]
  exact c

theorem thenQ_n {P : Program} {n : Nat} {b : IC} {Q : Exit → Env → Hp → Prop} {env : Env} {h : Hp} : thenQ P n b Q .normal env h = AI P n b env h Q := rfl
theorem thenQ_x {P : Program} {n : Nat} {b : IC} {Q : Exit → Env → Hp → Prop} {env : Env} {h : Hp} {i : Nat} : thenQ P n b Q (.exit i) env h = Q (.exit i) env h := rfl
theorem thenQ_r {P : Program} {n : Nat} {b : IC} {Q : Exit → Env → Hp → Prop} {env : Env} {h : Hp} : thenQ P n b Q .ret env h = Q .ret env h := rfl
theorem blockQ_n {j : Nat} {Q : Exit → Env → Hp → Prop} {env : Env} {h : Hp} : blockQ j Q .normal env h = Q .normal env h := rfl
theorem blockQ_x {j i : Nat} {Q : Exit → Env → Hp → Prop} {env : Env} {h : Hp} : blockQ j Q (.exit i) env h = if i = j then Q .normal env h else Q (.exit i) env h := rfl
theorem blockQ_r {j : Nat} {Q : Exit → Env → Hp → Prop} {env : Env} {h : Hp} : blockQ j Q .ret env h = Q .ret env h := rfl
theorem roundQ_n {I : Env → Hp → Nat → Prop} {k : Nat} {Q : Exit → Env → Hp → Prop} {env : Env} {h : Hp} : roundQ I k Q .normal env h = ∃ j, j < k ∧ I env h j := rfl
theorem roundQ_x {I : Env → Hp → Nat → Prop} {k i : Nat} {Q : Exit → Env → Hp → Prop} {env : Env} {h : Hp} : roundQ I k Q (.exit i) env h = Q (.exit i) env h := rfl
theorem roundQ_r {I : Env → Hp → Nat → Prop} {k : Nat} {Q : Exit → Env → Hp → Prop} {env : Env} {h : Hp} : roundQ I k Q .ret env h = Q .ret env h := rfl
theorem end_one {P : Program} {t : Nat} {R : Value → Hp → Prop} {env : Env} {h : Hp} {v : Value} (e : env.get t = some v) (r : R v h) : endQ P [.tmp t] R .ret env h := ⟨[v], by simp [resAll, resOne, e], r⟩
theorem end_two {P : Program} {t u : Nat} {R : Value → Hp → Prop} {env : Env} {h : Hp} {v w : Value} (e : env.get t = some v) (e2 : env.get u = some w) (r : R (.tuple #[v, w]) h) : endQ P [.tmp t, .tmp u] R .ret env h := ⟨[v, w], by simp [resAll, resOne, e, e2], r⟩
theorem end_oneN {P : Program} {t : Nat} {R : Value → Hp → Prop} {env : Env} {h : Hp} {v : Value} (e : env.get t = some v) (r : R v h) : endQ P [.tmp t] R .normal env h := ⟨[v], by simp [resAll, resOne, e], r⟩
end
end Go.Proofs.YtapbmmlgmcmpnaaDoorW.Am
/- For use, second part: numbers, slices that are read, rows that grow, loops. -/
namespace Go.Proofs.YtapbmmlgmcmpnaaDoorW.Am
open Go Go.RowKit
section
variable {P : Program} {CT : CTy} {r : List In} {env : Env} {h h' : Hp} {Q : Env → Hp → Prop} {d : Option Nat} {k : K} {xs : List Operand} {vs : List Value} {v : Value}

theorem st_v {v2 : Value} (e : opS env k xs h = some (v, h')) (hv : v = v2) (n : wpS P CT r (env.put d v2) h' Q) : wpS P CT (⟨d, none, .op k xs⟩ :: r) env h Q := by subst hv; exact st e n
theorem wrap_i64' {x : Int} (h1 : -9223372036854775808 ≤ x) (h2 : x ≤ 9223372036854775807) : IntKind.i64.wrap x = x := by rw [IntKind.wrap_i64]; omega
theorem wrap_u64' {x : Int} (h1 : 0 ≤ x) (h2 : x ≤ 18446744073709551615) : IntKind.u64.wrap x = x := by
  unfold IntKind.wrap
  simp only [IntKind.bits, IntKind.signed]
  simp
  omega
/-- A sum, a product, a conversion within 64 bits. -/
theorem st_w {x : Int} (e : opS env k xs h = some (.int .i64 (IntKind.i64.wrap x), h')) (hx : -9223372036854775808 ≤ x ∧ x ≤ 9223372036854775807) (n : wpS P CT r (env.put d (.int .i64 x)) h' Q) : wpS P CT (⟨d, none, .op k xs⟩ :: r) env h Q :=
  st_v e (by rw [wrap_i64' hx.1 hx.2]) n
theorem st_wu {x : Int} (e : opS env k xs h = some (.int .u64 (IntKind.u64.wrap x), h')) (hx : 0 ≤ x ∧ x ≤ 18446744073709551615) (n : wpS P CT r (env.put d (.int .u64 x)) h' Q) : wpS P CT (⟨d, none, .op k xs⟩ :: r) env h Q :=
  st_v e (by rw [wrap_u64' hx.1 hx.2]) n
theorem st_rem {kk : IntKind} {a b : Int} (e : mapE env xs = some [.int kk a, .int kk b]) (ha : 0 ≤ a) (hb : 0 < b) (n : wpS P CT r (env.put d (.int kk (a % b))) h Q) : wpS P CT (⟨d, none, .op (.bin .rem) xs⟩ :: r) env h Q := by
  refine st (v := .int kk (a % b)) (h' := h) ?_ n
  unfold opS
  rw [e]
  have : kk = kk ∧ b ≠ 0 := ⟨rfl, by omega⟩
  show (if kk = kk ∧ b ≠ 0 then some (Value.int kk (a.tmod b)) else none).map (·, h) = _
  rw [if_pos this, Int.tmod_eq_emod_of_nonneg ha]
  rfl
theorem st_quo {a b : Int} (e : mapE env xs = some [.int .i64 a, .int .i64 b]) (ha : 0 ≤ a) (ha2 : a ≤ 9223372036854775807) (hb : 0 < b) (n : wpS P CT r (env.put d (.int .i64 (a / b))) h Q) : wpS P CT (⟨d, none, .op (.bin .quo) xs⟩ :: r) env h Q := by
  refine st (v := .int .i64 (a / b)) (h' := h) ?_ n
  unfold opS
  rw [e]
  have : IntKind.i64 = IntKind.i64 ∧ b ≠ 0 := ⟨rfl, by omega⟩
  have h1 : 0 ≤ a / b := Int.ediv_nonneg ha (by omega)
  have h2 : a / b ≤ a := Int.ediv_le_self _ ha
  show (if IntKind.i64 = IntKind.i64 ∧ b ≠ 0 then some (Value.int .i64 (IntKind.i64.wrap (a.tdiv b))) else none).map (·, h) = _
  rw [if_pos this, Int.tdiv_eq_ediv_of_nonneg ha, wrap_i64' (by omega) (by omega)]
  rfl
theorem st_iad {i o len cap : Nat} {sp : Option Nat} {kk : IntKind} {x : Int} {esz : Nat} (e : mapE env xs = some [.slice (some ⟨i, o, sp⟩) len cap, .int kk x]) (hx : 0 ≤ x ∧ x < len) (n : wpS P CT r (env.put d (.pointer (some ⟨i, o + x.toNat * esz, none⟩))) h Q) :
    wpS P CT (⟨d, none, .op (.iad esz) xs⟩ :: r) env h Q := by
  refine st (v := .pointer (some ⟨i, o + x.toNat * esz, none⟩)) (h' := h) ?_ n
  unfold opS
  rw [e]
  simp only [stepK, if_pos hx]
theorem st_iaa {i o len : Nat} {kk : IntKind} {x : Int} {esz : Nat} (e : mapE env xs = some [.pointer (some ⟨i, o, none⟩), .int kk x]) (hx : 0 ≤ x ∧ x < len) (n : wpS P CT r (env.put d (.pointer (some ⟨i, o + x.toNat * esz, none⟩))) h Q) :
    wpS P CT (⟨d, none, .op (.iaa len esz) xs⟩ :: r) env h Q := by
  refine st (v := .pointer (some ⟨i, o + x.toNat * esz, none⟩)) (h' := h) ?_ n
  unfold opS
  rw [e]
  simp only [stepK, if_pos hx]
theorem st_ld {i o : Nat} (e : mapE env xs = some [.pointer (some ⟨i, o, none⟩)]) (hr : h.rd i o 1 = some [v]) (n : wpS P CT r (env.put d v) h Q) : wpS P CT (⟨d, none, .op .ld1 xs⟩ :: r) env h Q := by
  refine st (v := v) (h' := h) ?_ n
  unfold opS
  rw [e]
  simp only [stepK, hr]
theorem st_ldn {i o c : Nat} {us : List Value} (e : mapE env xs = some [.pointer (some ⟨i, o, none⟩)]) (hr : h.rd i o c = some us) (n : wpS P CT r (env.put d (.agg ⟨us⟩)) h Q) : wpS P CT (⟨d, none, .op (.ldn c) xs⟩ :: r) env h Q := by
  refine st (v := .agg ⟨us⟩) (h' := h) ?_ n
  unfold opS
  rw [e]
  simp only [stepK, hr, Option.map_some]
theorem st_st {i o c : Nat} {u : Value} (e : mapE env xs = some [.pointer (some ⟨i, o, none⟩), u]) (hs : u.cells.size = c) (hw : h.wr i o u.cells.toList = some h') (n : wpS P CT r (env.put d undef) h' Q) : wpS P CT (⟨d, none, .op (.st c) xs⟩ :: r) env h Q := by
  refine st (v := undef) (h' := h') ?_ n
  unfold opS
  rw [e]
  simp only [stepK, hs, if_true, hw, Option.map_some]

/-- Known slots of a frame, by a list. -/
theorem le_nil : EnvLe [] env := fun t v e => by cases e
theorem le_cons {t : Nat} {u : Value} {l : Env} (e : env.get t = some u) (hl : EnvLe l env) : EnvLe ((t, u) :: l) env := by
  intro s v hs
  simp only [Env.get] at hs
  split at hs
  · next hts => subst hts; cases hs; exact e
  · exact hl s v hs

theorem rd_at {i o n x : Nat} {us : List Value} (e : h.rd i o n = some us) (hx : x < n) : ∃ (hl : x < us.length), h.rd i (o + x) 1 = some [us[x]] := by
  obtain ⟨ob, hob, hn, rfl⟩ := Hp.rd_some e
  have hl : x < ((ob.cells.drop o).take n).length := by simp; omega
  refine ⟨hl, ?_⟩
  unfold Hp.rd
  simp only [hob]
  rw [if_pos (by omega)]
  have hlt : o + x < ob.cells.length := by omega
  have e3 : (ob.cells.drop (o + x)).take 1 = [ob.cells[o + x]] := by rw [List.drop_eq_getElem_cons hlt]; rfl
  rw [e3, List.getElem_take, List.getElem_drop]
theorem rd_len {i o n : Nat} {us : List Value} (e : h.rd i o n = some us) : us.length = n := by
  obtain ⟨ob, hob, hn, rfl⟩ := Hp.rd_some e
  simp; omega

/-- Of what was there nothing has turned. -/
def Ext (h0 h : Hp) : Prop := h0.nx ≤ h.nx ∧ ∀ k, k < h0.nx → h.get k = h0.get k
theorem Ext.refl (h : Hp) : Ext h h := ⟨Nat.le_refl _, fun _ _ => rfl⟩
theorem Ext.trans {a b c : Hp} (x : Ext a b) (y : Ext b c) : Ext a c := ⟨Nat.le_trans x.1 y.1, fun k hk => (y.2 k (Nat.lt_of_lt_of_le hk x.1)).trans (x.2 k hk)⟩
theorem Ext.rd {h0 h : Hp} (x : Ext h0 h) {i o n : Nat} (hi : i < h0.nx) : h.rd i o n = h0.rd i o n := by unfold Hp.rd; rw [x.2 i hi]
theorem Ext.new (h : Hp) (o : Ob) : Ext h (h.new o) := ⟨by simp [Hp.new], fun k hk => by simp only [Hp.new]; rw [if_neg (by omega)]⟩

/-- A row that a call has made, and may append to (elements of one cell): the slice, what it holds; its object's number is from N on. -/
def Ow (N : Nat) (h : Hp) (s : Value) (us : List Value) : Prop :=
  (s = .slice none 0 0 ∧ us = []) ∨ ∃ i, N ≤ i ∧ i < h.nx ∧ s = .slice (some ⟨i, 0, some 0⟩) us.length us.length ∧ h.get i = some ⟨us, true, 1⟩ ∧ us ≠ [] ∧ us.all one = true
theorem Ow.nil (N : Nat) (h : Hp) : Ow N h (.slice none 0 0) [] := .inl ⟨rfl, rfl⟩
theorem Ow.mono {N M : Nat} {s : Value} {us : List Value} (o : Ow N h s us) (hm : M ≤ N) : Ow M h s us := by
  rcases o with o | ⟨i, h1, h2⟩
  · exact .inl o
  · exact .inr ⟨i, Nat.le_trans hm h1, h2⟩
theorem Ow.move {N : Nat} {s : Value} {us : List Value} {h2 : Hp} (o : Ow N h s us) (x : Ext h h2) : Ow N h2 s us := by
  rcases o with o | ⟨i, h1, h2', h3, h4, h5⟩
  · exact .inl o
  · exact .inr ⟨i, h1, Nat.lt_of_lt_of_le h2' x.1, h3, (x.2 i h2').trans h4, h5⟩
/-- append(l, v): the one-element slice in its own new object, then the append. -/
theorem Ow.push {N e e2 bytes : Nat} {h0 : Hp} {s : Value} {us : List Value} (o : Ow N h s us) (hN : h0.nx = N) (x : Ext h0 h) {u : Value} (hu : one u = true) (hb : (us.length + 1) * bytes ≤ 140737488355328) (hl : us.length + 1 ≤ 140737488355328) :
    ∃ s' h2, stepK (.app e 1 bytes) [s, .slice (some ⟨h.nx, 0, none⟩) 1 1] (h.new ⟨[u], true, e2⟩) = some (s', h2) ∧ Ow N h2 s' (us ++ [u]) ∧ Ext h0 h2 := by
  have hrd : rdS (h.new ⟨[u], true, e2⟩) (some ⟨h.nx, 0, none⟩) (1 * 1) = some [u] := by
    simp [rdS, Hp.rd, Hp.new]
  have hall : [u].all one = true := by simp [hu]
  rcases o with ⟨rfl, rfl⟩ | ⟨i, h1, h2, rfl, h4, h5, h6⟩
  · refine ⟨.slice (some ⟨h.nx + 1, 0, some 0⟩) 1 1, (h.new ⟨[u], true, e2⟩).new ⟨[u], true, 1⟩, ?_, .inr ⟨h.nx + 1, ?_, ?_, rfl, ?_, by simp, hall⟩, ?_⟩
    · simp only [stepK, hrd]
      simp only [List.length_nil, Nat.zero_add] at hb hl
      have hb2 : bytes ≤ 140737488355328 := by simpa using hb
      simp [appA, hu, hb2, Hp.new]
    · have := x.1; omega
    · simp [Hp.new]
    · simp [Hp.new]
    · exact x.trans ((Ext.new _ _).trans (Ext.new _ _))
  · have hne : i ≠ h.nx := by omega
    have hlen : us.length ≠ 0 := fun hz => h5 (List.eq_nil_of_length_eq_zero hz)
    have hold : (h.new ⟨[u], true, e2⟩).rd i 0 (us.length * 1) = some us := by
      simp [Hp.rd, Hp.new, hne, h4]
    refine ⟨.slice (some ⟨h.nx + 1, 0, some 0⟩) (us.length + 1) (us.length + 1), (((h.new ⟨[u], true, e2⟩)).del i).new ⟨us ++ [u], true, 1⟩, ?_, .inr ⟨h.nx + 1, ?_, ?_, ?_, ?_, by simp, by simp [hu, h6]⟩, ?_⟩
    · simp only [stepK, hrd]
      have hg : (h.new ⟨[u], true, e2⟩).get i = some ⟨us, true, 1⟩ := by simp [Hp.new, hne, h4]
      simp only [appA]
      rw [if_pos ⟨by simp, hall, by omega, hb, hl⟩]
      simp only [Nat.one_ne_zero, if_false, show ¬ (us.length + 1 ≤ us.length) by omega, if_neg hlen, hold, hg]
      simp [h6, Hp.del, Hp.new]
    · have := x.1; omega
    · simp [Hp.new, Hp.del]
    · simp
    · simp [Hp.new, Hp.del]
    · refine ⟨by have := x.1; simp [Hp.new, Hp.del]; omega, fun k hk => ?_⟩
      have := x.1
      have e1 : ¬ k = h.nx + 1 := by omega
      have e2 : ¬ k = i := by omega
      have e3 : ¬ k = h.nx := by omega
      simp only [Hp.new, Hp.del, e1, e2, e3, if_false]
      exact x.2 k hk

/-- A loop whose frame at each round's head is known by a list of slots. -/
def roundE {γ : Type} (E : γ → Env) (H : γ → Hp → Prop) (mu : γ → Nat) (k : Nat) (Q : Exit → Env → Hp → Prop) : Exit → Env → Hp → Prop
  | .normal, env, h => ∃ g, EnvLe (E g) env ∧ H g h ∧ mu g < k
  | e, env, h => Q e env h
theorem ai_loopE {n : Nat} {x : IC} {Q : Exit → Env → Hp → Prop} {γ : Type} (E : γ → Env) (H : γ → Hp → Prop) (mu : γ → Nat) (g0 : γ) (hE : EnvLe (E g0) env) (hH : H g0 h) (round : ∀ g h, H g h → AI P n x (E g) h (roundE E H mu (mu g) Q)) : AI P n (.loop x) env h Q := by
  refine ai_loop (fun env h k => ∃ g, EnvLe (E g) env ∧ H g h ∧ mu g = k) (k0 := mu g0) ⟨g0, hE, hH, rfl⟩ ?_
  rintro env h k ⟨g, h1, h2, rfl⟩
  refine (AI.weak h1 (round g h h2)).mono ?_
  intro e env' h' q
  cases e with
  | normal => obtain ⟨g', k1, k2, k3⟩ := q; exact ⟨mu g', k3, g', k1, k2, rfl⟩
  | exit i => exact q
  | goto i => exact q
  | ret => exact q
  | panic c => exact q
  | outgrown => exact q
/-- Ways that meet again: what is known there. -/
theorem ai_join {n : Nat} {x y : IC} {Q : Exit → Env → Hp → Prop} {γ : Type} (L : γ → Env) (H : γ → Hp → Prop) (h1 : AI P n x env h (fun e env' h' => e = .normal ∧ ∃ g, EnvLe (L g) env' ∧ H g h')) (h2 : ∀ g h', H g h' → AI P n y (L g) h' Q) : AI P n (.seq x y) env h Q := by
  refine ai_seq (h1.mono ?_)
  rintro e env' h' ⟨rfl, g, hl, hH⟩
  exact AI.weak hl (h2 g h' hH)
theorem ai_seq_skip {n : Nat} {x : IC} {Q : Exit → Env → Hp → Prop} (a : AI P n x env h Q) : AI P n (.seq .skip x) env h Q := ai_seq (ai_skip a)
/-! What one operation comes to, for an operation with a guard as well. -/
theorem o_v {v2 : Value} (e : opS env k xs h = some (v, h')) (hv : v = v2) : opS env k xs h = some (v2, h') := by subst hv; exact e
theorem o_w {x : Int} (e : opS env k xs h = some (.int .i64 (IntKind.i64.wrap x), h')) (hx : -9223372036854775808 ≤ x ∧ x ≤ 9223372036854775807) : opS env k xs h = some (.int .i64 x, h') := o_v e (by rw [wrap_i64' hx.1 hx.2])
theorem o_iad {i o len cap : Nat} {sp : Option Nat} {kk : IntKind} {x : Int} {esz : Nat} (e : mapE env xs = some [.slice (some ⟨i, o, sp⟩) len cap, .int kk x]) (hx : 0 ≤ x ∧ x < len) :
    opS env (.iad esz) xs h = some (.pointer (some ⟨i, o + x.toNat * esz, none⟩), h) := by
  unfold opS
  rw [e]
  simp only [stepK, if_pos hx]
theorem o_iaa {i o len : Nat} {kk : IntKind} {x : Int} {esz : Nat} (e : mapE env xs = some [.pointer (some ⟨i, o, none⟩), .int kk x]) (hx : 0 ≤ x ∧ x < len) :
    opS env (.iaa len esz) xs h = some (.pointer (some ⟨i, o + x.toNat * esz, none⟩), h) := by
  unfold opS
  rw [e]
  simp only [stepK, if_pos hx]
theorem o_ld {i o : Nat} (e : mapE env xs = some [.pointer (some ⟨i, o, none⟩)]) (hr : h.rd i o 1 = some [v]) : opS env .ld1 xs h = some (v, h) := by
  unfold opS
  rw [e]
  simp only [stepK, hr]
theorem o_ldn {i o c : Nat} {us : List Value} (e : mapE env xs = some [.pointer (some ⟨i, o, none⟩)]) (hr : h.rd i o c = some us) : opS env (.ldn c) xs h = some (.agg ⟨us⟩, h) := by
  unfold opS
  rw [e]
  simp only [stepK, hr, Option.map_some]
theorem o_st {i o c : Nat} {u : Value} (e : mapE env xs = some [.pointer (some ⟨i, o, none⟩), u]) (hs : u.cells.size = c) (hw : h.wr i o u.cells.toList = some h') : opS env (.st c) xs h = some (undef, h') := by
  unfold opS
  rw [e]
  simp only [stepK, hs, if_true, hw, Option.map_some]
theorem o_rem {kk : IntKind} {a b : Int} (e : mapE env xs = some [.int kk a, .int kk b]) (ha : 0 ≤ a) (hb : 0 < b) : opS env (.bin .rem) xs h = some (.int kk (a % b), h) := by
  unfold opS
  rw [e]
  have : kk = kk ∧ b ≠ 0 := ⟨rfl, by omega⟩
  show (if kk = kk ∧ b ≠ 0 then some (Value.int kk (a.tmod b)) else none).map (·, h) = _
  rw [if_pos this, Int.tmod_eq_emod_of_nonneg ha]
  rfl
/-- In a region whose order is open: one operation, with nothing to be made again. -/
theorem dr {ix : Nat} {eff : Bool} {L : List DE} (e : opS env k xs h = some (v, h')) (n : wpD P CT L (env.put d v) h' Q) : wpD P CT (⟨ix, ⟨d, none, .op k xs⟩, eff, []⟩ :: L) env h Q := by
  unfold opS at e
  unfold wpD wpIn
  simp only [wanted]
  split at e
  · next vs hv => simp only [hv, e]; exact ⟨trivial, n⟩
  · cases e
theorem drT {ix t : Nat} {b c : Bool} {eff : Bool} {L : List DE} (g : env.get t = some (.bool c)) (hc : (c == b) = true) (e : opS env k xs h = some (v, h')) (n : wpD P CT L (env.put d v) h' Q) : wpD P CT (⟨ix, ⟨d, some (t, b), .op k xs⟩, eff, []⟩ :: L) env h Q := by
  unfold opS at e
  unfold wpD wpIn
  simp only [wanted, g, hc]
  split at e
  · next vs hv => simp only [hv, e]; exact ⟨trivial, n⟩
  · cases e
theorem drF {ix t : Nat} {b c : Bool} {eff : Bool} {ik : IK} {L : List DE} (g : env.get t = some (.bool c)) (hc : (c == b) = false) (n : wpD P CT L (env.put d undef) h Q) : wpD P CT (⟨ix, ⟨d, some (t, b), ik⟩, eff, []⟩ :: L) env h Q := by
  unfold wpD wpIn
  simp only [wanted, g, hc]
  exact ⟨trivial, n⟩
/-- A call of which no read is to be made again. -/
theorem drC {ix : Nat} {eff : Bool} {f : FuncId} {L : List DE} (e : mapE env xs = some vs) (c : CT f vs h fun v h' => wpD P CT L (env.put d v) h' Q) (hm : ∀ (R R' : Value → Hp → Prop), (∀ v h', R v h' → R' v h') → CT f vs h R → CT f vs h R') : wpD P CT (⟨ix, ⟨d, none, .call f xs⟩, eff, []⟩ :: L) env h Q := by
  unfold wpD wpIn
  simp only [wanted, e]
  exact hm _ _ (fun v h' n => ⟨trivial, n⟩) c
/-- Nothing is known of memory: the empty abstract heap. -/
def Hp.empty : Hp := ⟨fun _ => none, 0⟩
theorem Sim.empty (W : World) (t : Tb W.heap.size W) : Sim W.heap.size W ⟨fun _ => none, fun _ => none⟩ Hp.empty W :=
  ⟨Bel.refl t, Nat.le_refl _, fun _ _ => rfl, fun _ _ e => (by cases e), MS.empty _ _ _ _, fun _ _ e _ => (by cases e), fun _ _ _ _ _ _ e => (by cases e)⟩
/-- A law of numbers: from its contract over the empty heap to the true call. -/
theorem law_plain {f : FuncId} {args : List Value} (c : ACall P f args Hp.empty (fun v _ => v = .bool true)) (hf : flatL args = true) (W : World) (t : Tb W.heap.size W := by first | exact fun _ _ => trivial | assumption) :
    Calls P f args.toArray W fun e W' => e = .returned (.bool true) ∧ Below W.heap.size W W' := by
  refine (c.2 W.heap.size W ⟨fun _ => none, fun _ => none⟩ W args (RVs.of_flat hf) (Sim.empty W t)).mono ?_
  rintro e W' ⟨m', v, v', h', rfl, _, rv, s, rfl⟩
  cases rv
  exact ⟨rfl, s.below.bl⟩
end
end Go.Proofs.YtapbmmlgmcmpnaaDoorW.Am
/- Words on memory that several laws share: cells of known objects, rows that are read, what turns; and from a law's contract to its row where an argument is a row of numbers. -/
namespace Go.Proofs.YtapbmmlgmcmpnaaDoorW.Am
open Go Go.RowKit
abbrev nI : Int → Value := Value.int .i64
abbrev ptr (q : Nat) : Value := .pointer (some ⟨q, 0, none⟩)
theorem rd_f {h : Hp} {i : Nat} {us : List Value} {b : Bool} {e : Nat} (hg : h.get i = some ⟨us, b, e⟩) {x : Nat} {v : Value} (hx : us[x]? = some v) : h.rd i (0 + x) 1 = some [v] := by
  have hl := (List.getElem?_eq_some_iff.1 hx).1
  unfold Hp.rd
  simp only [hg, Nat.zero_add]
  rw [if_pos (by omega), List.drop_eq_getElem_cons hl]
  rw [List.getElem?_eq_getElem hl] at hx
  cases hx
  rfl
theorem wr_f {h : Hp} {i : Nat} {us : List Value} {e : Nat} (hg : h.get i = some ⟨us, true, e⟩) {x : Nat} (hx : x < us.length) {v : Value} (hv : one v = true) : h.wr i (0 + x) [v] = some (h.put i ⟨us.set x v, true, e⟩) := by
  unfold Hp.wr
  simp only [hg, Nat.zero_add]
  rw [if_pos ⟨trivial, by simp; omega, by simp [hv]⟩]
  rfl
theorem hput_same (h : Hp) (i : Nat) (o : Ob) : (h.put i o).get i = some o := by simp [Hp.put]
theorem hput_ne (h : Hp) {i j : Nat} (o : Ob) (hij : j ≠ i) : (h.put i o).get j = h.get j := by simp [Hp.put, hij]
theorem hput_nx (h : Hp) (i : Nat) (o : Ob) : (h.put i o).nx = h.nx := rfl
/-- What turns: the queue and its row alone. -/
def Mod (q j : Nat) (h h' : Hp) : Prop := h.nx ≤ h'.nx ∧ ∀ k, k < h.nx → k ≠ q → k ≠ j → h'.get k = h.get k
theorem Mod.refl (q j : Nat) (h : Hp) : Mod q j h h := ⟨Nat.le_refl _, fun _ _ _ _ => rfl⟩
theorem rd_app {h : Hp} {j : Nat} {xs us : List Value} {b : Bool} {e : Nat} (hg : h.get j = some ⟨xs ++ us, b, e⟩) {x : Nat} {v : Value} (hx : us[x]? = some v) : h.rd j (xs.length + x * 1) 1 = some [v] := by
  have hl := (List.getElem?_eq_some_iff.1 hx).1
  have hx2 : (xs ++ us)[xs.length + x]? = some v := by rw [List.getElem?_append_right (by omega)]; simpa using hx
  have := rd_f hg (x := xs.length + x) hx2
  simpa using this
/-- A row that is read. -/
def Rd (h : Hp) (s : Value) (us : List Value) : Prop :=
  (s = .slice none 0 0 ∧ us = []) ∨ ∃ i o sp c, s = .slice (some ⟨i, o, sp⟩) us.length c ∧ ∀ x v, us[x]? = some v → h.rd i (o + x * 1) 1 = some [v]
theorem Ow.rdd {N : Nat} {h : Hp} {s : Value} {us : List Value} (a : Ow N h s us) : Rd h s us := by
  rcases a with a | ⟨i, _, _, rfl, hg, _⟩
  · exact .inl a
  · exact .inr ⟨i, _, _, _, rfl, fun x v hx => by have := rd_f hg hx; simpa using this⟩
theorem Rd.len {h : Hp} {s : Value} {us : List Value} (a : Rd h s us) : ∃ x c, s = .slice x us.length c := by
  rcases a with ⟨rfl, rfl⟩ | ⟨i, o, sp, c, rfl, _⟩ <;> exact ⟨_, _, rfl⟩
theorem Rd.ext {h h' : Hp} {s : Value} {us : List Value} (a : Rd h s us) (e : ∀ i o sp n c, s = .slice (some ⟨i, o, sp⟩) n c → h'.get i = h.get i) : Rd h' s us := by
  rcases a with a | ⟨i, o, sp, c, rfl, hr⟩
  · exact .inl a
  · refine .inr ⟨i, o, sp, c, rfl, fun x v hx => ?_⟩
    have := hr x v hx
    unfold Hp.rd at this ⊢
    rw [e i o sp _ _ rfl]
    exact this
theorem Ow.put {N : Nat} {h : Hp} {s : Value} {us : List Value} (a : Ow N h s us) {q : Nat} (hq : q < N) (o : Ob) : Ow N (h.put q o) s us := by
  rcases a with a | ⟨i, h1, h2, h3, h4, h5⟩
  · exact .inl a
  · exact .inr ⟨i, h1, h2, h3, (hput_ne _ _ (by omega)).trans h4, h5⟩
theorem Ext.mod {h h1 h2 : Hp} {q j : Nat} (x : Ext h h1) (m : Mod q j h1 h2) (hq : h.nx ≤ q) (hj : h.nx ≤ j) : Ext h h2 :=
  ⟨Nat.le_trans x.1 m.1, fun k hk => (m.2 k (Nat.lt_of_lt_of_le hk x.1) (by omega) (by omega)).trans (x.2 k hk)⟩
theorem Ow.mod {N : Nat} {h h' : Hp} {s : Value} {us : List Value} (a : Ow N h s us) {q j : Nat} (hq : q < N) (hj : j < N) (m : Mod q j h h') : Ow N h' s us := by
  rcases a with a | ⟨i, h1, h2, h3, h4, h5⟩
  · exact .inl a
  · exact .inr ⟨i, h1, Nat.lt_of_lt_of_le h2 m.1, h3, (m.2 i h2 (by omega) (by omega)).trans h4, h5⟩
theorem u64_rng (n : Int) : 0 ≤ IntKind.u64.wrap n ∧ IntKind.u64.wrap n ≤ 18446744073709551615 := by
  unfold IntKind.wrap
  simp only [IntKind.bits, IntKind.signed]
  simp
  omega
/-- The abstract heap at a law's call: its one row, which is read alone. -/
def roHp (us : List Value) : Hp := ⟨fun j => if j = 0 then some ⟨us, false, 0⟩ else none, 1⟩
def roMu (l : Loc) : Mu := ⟨fun j => if j = 0 then some l else none, fun _ => none⟩
theorem roHp_rd (us : List Int) {len cap : Nat} (hle : len ≤ us.length) : Rd (roHp (us.map nI)) (.slice (some ⟨0, 0, none⟩) len cap) ((us.take len).map nI) := by
  refine .inr ⟨0, 0, none, cap, by simp [Nat.min_eq_left hle], fun x v hx => ?_⟩
  have hx2 : (us.map nI)[x]? = some v := by
    rw [List.getElem?_map, List.getElem?_take] at hx
    rw [List.getElem?_map]
    split at hx
    · exact hx
    · cases hx
  have := rd_f (h := roHp (us.map nI)) (i := 0) (b := false) (e := 0) (by simp [roHp]) hx2
  simpa using this
theorem roSim {W : World} {a : Addr} {zs : List Int} (hs : a.spot = none) (hb : a.block < W.heap.size) (hc : ∀ i, i < zs.length → W.cell? (a.add i) = some (.int .i64 (zs.getD i 0))) (t : Tb W.heap.size W) :
    Sim W.heap.size W (roMu ⟨a.block, a.off, 0⟩) (roHp (zs.map nI)) W := by
  obtain ⟨b, off, sp⟩ := a
  subst hs
  refine ⟨Bel.refl t, Nat.le_refl _, fun i hi => ?_, fun i l e => ?_, MS.empty _ _ _ _, fun i ob e _ => ?_, fun i j x y l l' e e' hij hrw => ?_⟩
  · have : i ≠ 0 := by simp [roHp] at hi; omega
    simp [roMu, this]
  · simp only [roMu] at e
    split at e
    · cases e; exact hb
    · cases e
  · simp only [roHp] at e
    split at e
    · next hi =>
      cases e
      refine ⟨⟨b, off, 0⟩, by simp [roMu, hi], fun j v hv => ?_, fun h => by cases h⟩
      rw [List.getElem?_map] at hv
      cases hz : zs[j]? with
      | none => rw [hz] at hv; cases hv
      | some z =>
        rw [hz] at hv
        cases hv
        have hj := (List.getElem?_eq_some_iff.1 hz).1
        refine ⟨.int .i64 z, ?_, .int _ _⟩
        have := hc j hj
        rw [Go.WideShapes.add_plain] at this
        rw [this, List.getD_eq_getElem?_getD, hz]
        rfl
    · cases e
  · simp only [roHp] at e
    split at e
    · cases e; cases hrw
    · cases e
/-- A law whose first argument is a row of numbers, the others numbers. -/
theorem law_ints {P : Program} {f : FuncId} {W : World} {a : Addr} {len cap : Nat} {zs : List Int} {rest : List Value} (hs : a.spot = none) (hb : a.block < W.heap.size) (hc : ∀ i, i < zs.length → W.cell? (a.add i) = some (.int .i64 (zs.getD i 0))) (hf : flatL rest = true)
    (c : ACall P f (.slice (some ⟨0, 0, none⟩) len cap :: rest) (roHp (zs.map nI)) (fun v _ => v = .bool true)) (t : Tb W.heap.size W := by first | exact fun _ _ => trivial | assumption) :
    Calls P f (Value.slice (some a) len cap :: rest).toArray W fun e W' => e = .returned (.bool true) ∧ Below W.heap.size W W' := by
  have s := roSim hs hb hc t
  obtain ⟨b, off, sp⟩ := a
  subst hs
  refine (c.2 W.heap.size W _ W _ (RVs.cons (RV.slice (l := ⟨b, off, 0⟩) (by simp [roMu])) (RVs.of_flat hf)) s).mono ?_
  rintro e W' ⟨m', v, v', h', rfl, _, rv, s, rfl⟩
  cases rv
  exact ⟨rfl, s.below.bl⟩
theorem law_nil {P : Program} {f : FuncId} {W : World} {rest : List Value} (hf : flatL rest = true)
    (c : ACall P f (.slice none 0 0 :: rest) Hp.empty (fun v _ => v = .bool true)) (t : Tb W.heap.size W := by first | exact fun _ _ => trivial | assumption) :
    Calls P f (Value.slice none 0 0 :: rest).toArray W fun e W' => e = .returned (.bool true) ∧ Below W.heap.size W W' := by
  refine (c.2 W.heap.size W ⟨fun _ => none, fun _ => none⟩ W _ (RVs.cons (RV.nils 0 0) (RVs.of_flat hf)) (Sim.empty W t)).mono ?_
  rintro e W' ⟨m', v, v', h', rfl, _, rv, s, rfl⟩
  cases rv
  exact ⟨rfl, s.below.bl⟩
theorem okWide_at {P : Program} {w : World} {base : Nat} {t e : TypeId} {a : Addr} {len cap : Nat} (ht : P.underlying t = some (.slice e)) (h : Value.okWide P w .any base t (.slice (some a) len cap)) : a.spot = none ∧ a.block < w.heap.size := by
  unfold Value.okWide at h
  rw [ht] at h
  unfold Cell.okWide at h
  rw [ht] at h
  unfold Cell.ok at h
  rw [ht] at h
  obtain ⟨_, _, _, hsp, row, cells, hsh, _⟩ := h
  refine ⟨hsp, ?_⟩
  by_cases hlt : a.block < w.heap.size
  · exact hlt
  · exfalso
    unfold World.shape? at hsh
    simp [Array.getElem?_eq_none (Nat.le_of_not_lt hlt)] at hsh
section
variable {P : Program} {CT : CTy} {env : Env} {h : Hp} {Q : Env → Hp → Prop} {d : Option Nat} {xs : List Operand} {vs : List Value}
/-- In a region whose order is open: a call, behind which reads are made again. -/
theorem drCR {ix : Nat} {eff : Bool} {f : FuncId} {re : List In} {L : List DE} (e : mapE env xs = some vs) (c : CT f vs h fun v h' => allAgain re env h' ∧ wpD P CT L (env.put d v) h' Q) : wpD P CT (⟨ix, ⟨d, none, .call f xs⟩, eff, re⟩ :: L) env h Q := by
  unfold wpD wpIn
  simp only [wanted, e]
  exact c
theorem ag_ld {d t i o : Nat} {v : Value} (g1 : env.get t = some (.pointer (some ⟨i, o, none⟩))) (g2 : env.get d = some v) (hr : h.rd i o 1 = some [v]) : again ⟨some d, none, .op .ld1 [.tmp t]⟩ env h := by
  unfold again
  simp only [wanted, mapE, evA, g1, g2, stepK, hr]
end
end Go.Proofs.YtapbmmlgmcmpnaaDoorW.Am
/- An evaluator over abstract heaps: a closed call is run by reckoning alone; what was shown over the empty heap holds over each one. -/
namespace Go.Proofs.YtapbmmlgmcmpnaaDoorW.Am
open Go Go.RowKit

/-- Equal, as far as looked into. -/
def eqN : Nat → Value → Value → Bool
  | 0, _, _ => false
  | n + 1, x, y => match x, y with
    | .bool a, .bool b => a == b
    | .int k a, .int l b => decide (k = l) && decide (a = b)
    | .string a, .string b => decide (a.data = b.data)
    | .pointer a, .pointer b => decide (a = b)
    | .slice a i j, .slice b k l => decide (a = b) && decide (i = k) && decide (j = l)
    | .map none, .map none => true
    | .nilFunc, .nilFunc => true
    | .nilIface, .nilIface => true
    | .iface t v, .iface u w => decide (t = u) && eqN n v w
    | .agg ⟨a⟩, .agg ⟨b⟩ => decide (a.length = b.length) && (a.zip b).all fun p => eqN n p.1 p.2
    | .tuple ⟨a⟩, .tuple ⟨b⟩ => decide (a.length = b.length) && (a.zip b).all fun p => eqN n p.1 p.2
    | _, _ => false
theorem zip_eq {p : Value → Value → Bool} : ∀ {a b : List Value}, a.length = b.length → ((a.zip b).all fun q => p q.1 q.2) = true → (∀ x y, p x y = true → x = y) → a = b
  | [], [], _, _, _ => rfl
  | [], _ :: _, h, _, _ => by cases h
  | _ :: _, [], h, _, _ => by cases h
  | x :: a, y :: b, h, k, q => by
    simp only [List.zip_cons_cons, List.all_cons, Bool.and_eq_true] at k
    rw [q x y k.1, zip_eq (by simpa using h) k.2 q]
theorem eqN_eq : ∀ (n : Nat) (x y : Value), eqN n x y = true → x = y := by
  intro n
  induction n with
  | zero => intro x y h; cases h
  | succ n ih =>
    intro x y h
    cases x <;> cases y <;> simp only [eqN, Bool.false_eq_true] at h
    case bool.bool a b => rw [eq_of_beq h]
    case int.int k a l b => simp at h; rw [h.1, h.2]
    case string.string a b => obtain ⟨a⟩ := a; obtain ⟨b⟩ := b; simp at h; rw [h]
    case pointer.pointer a b => simp at h; rw [h]
    case slice.slice a i j b k l => simp at h; rw [h.1.1, h.1.2, h.2]
    case map.map a b => cases a <;> cases b <;> simp_all
    case nilFunc.nilFunc => rfl
    case nilIface.nilIface => rfl
    case iface.iface t v u w => simp at h; rw [h.1, ih v w h.2]
    case agg.agg a b =>
      obtain ⟨a⟩ := a; obtain ⟨b⟩ := b
      simp only [Bool.and_eq_true, decide_eq_true_eq] at h
      rw [zip_eq h.1 h.2 ih]
    case tuple.tuple a b =>
      obtain ⟨a⟩ := a; obtain ⟨b⟩ := b
      simp only [Bool.and_eq_true, decide_eq_true_eq] at h
      rw [zip_eq h.1 h.2 ih]

def selB : Op → Bool
  | .select _ _ => true
  | _ => false
/-- Slots by the bits of their numbers. -/
inductive Tr (α : Type)
  | leaf
  | node (l : Tr α) (v : Option α) (r : Tr α)
def Tr.get {α : Type} : Tr α → Nat → Option α
  | .leaf, _ => none
  | .node l v r, n => match n with
    | 0 => v
    | n + 1 => match Nat.beq (n % 2) 0 with
      | true => l.get (n / 2)
      | false => r.get (n / 2)
def Tr.one {α : Type} (v : α) : Nat → Nat → Tr α
  | 0, _ => .leaf
  | k + 1, n => match n with
    | 0 => .node .leaf (some v) .leaf
    | n + 1 => match Nat.beq (n % 2) 0 with
      | true => .node (Tr.one v k (n / 2)) none .leaf
      | false => .node .leaf none (Tr.one v k (n / 2))
def Tr.set {α : Type} (v : α) : Tr α → Nat → Tr α
  | .leaf, n => Tr.one v 20 n
  | .node l x r, n => match n with
    | 0 => .node l (some v) r
    | n + 1 => match Nat.beq (n % 2) 0 with
      | true => .node (l.set v (n / 2)) x r
      | false => .node l x (r.set v (n / 2))
theorem Tr.one_get {α : Type} (v : α) : ∀ (k n m : Nat) (u : α), (Tr.one v k n).get m = some u → m = n ∧ u = v := by
  intro k
  induction k with
  | zero => intro n m u e; cases e
  | succ k ih =>
    intro n m u e
    cases n with
    | zero =>
      cases m with
      | zero => simp only [Tr.one, Tr.get, Option.some.injEq] at e; exact ⟨rfl, e.symm⟩
      | succ m => simp only [Tr.one, Tr.get] at e; split at e <;> cases e
    | succ n =>
      simp only [Tr.one] at e
      cases hb : Nat.beq (n % 2) 0 <;> rw [hb] at e <;> cases m <;> simp only [Tr.get, reduceCtorEq] at e
      · next m =>
        cases hm : Nat.beq (m % 2) 0 <;> rw [hm] at e <;> simp only [reduceCtorEq] at e
        obtain ⟨h1, h2⟩ := ih _ _ _ e
        have a1 := Nat.ne_of_beq_eq_false hb
        have a2 := Nat.ne_of_beq_eq_false hm
        exact ⟨by omega, h2⟩
      · next m =>
        cases hm : Nat.beq (m % 2) 0 <;> rw [hm] at e <;> simp only [reduceCtorEq] at e
        obtain ⟨h1, h2⟩ := ih _ _ _ e
        have a1 := Nat.eq_of_beq_eq_true hb
        have a2 := Nat.eq_of_beq_eq_true hm
        exact ⟨by omega, h2⟩
theorem Tr.set_get {α : Type} (v : α) : ∀ (t : Tr α) (n m : Nat) (u : α), (t.set v n).get m = some u → (m = n ∧ u = v) ∨ (m ≠ n ∧ t.get m = some u) := by
  intro t
  induction t with
  | leaf => intro n m u e; exact .inl (Tr.one_get v _ _ _ _ e)
  | node l x r ihl ihr =>
    intro n m u e
    cases n with
    | zero =>
      cases m with
      | zero => simp only [Tr.set, Tr.get, Option.some.injEq] at e; exact .inl ⟨rfl, e.symm⟩
      | succ m => exact .inr ⟨by omega, e⟩
    | succ n =>
      simp only [Tr.set] at e
      cases hb : Nat.beq (n % 2) 0 <;> rw [hb] at e <;> cases m
      · exact .inr ⟨by omega, e⟩
      · next m =>
        simp only [Tr.get] at e ⊢
        have a1 := Nat.ne_of_beq_eq_false hb
        cases hm : Nat.beq (m % 2) 0 <;> rw [hm] at e <;> simp only at e ⊢
        · have a2 := Nat.ne_of_beq_eq_false hm
          rcases ihr _ _ _ e with ⟨h1, h2⟩ | ⟨h1, h2⟩
          · exact .inl ⟨by omega, h2⟩
          · exact .inr ⟨by intro h3; cases h3; exact h1 rfl, h2⟩
        · have a2 := Nat.eq_of_beq_eq_true hm
          exact .inr ⟨by intro h3; cases h3; exact a1 a2, e⟩
      · exact .inr ⟨by omega, e⟩
      · next m =>
        simp only [Tr.get] at e ⊢
        have a1 := Nat.eq_of_beq_eq_true hb
        cases hm : Nat.beq (m % 2) 0 <;> rw [hm] at e <;> simp only at e ⊢
        · have a2 := Nat.ne_of_beq_eq_false hm
          exact .inr ⟨by intro h3; cases h3; exact a2 a1, e⟩
        · have a2 := Nat.eq_of_beq_eq_true hm
          rcases ihl _ _ _ e with ⟨h1, h2⟩ | ⟨h1, h2⟩
          · exact .inl ⟨by omega, h2⟩
          · exact .inr ⟨by intro h3; cases h3; exact h1 rfl, h2⟩
abbrev ET := Tr Value
/-- The slots told, out of all. -/
def few (t : ET) : List Nat → Env
  | [] => []
  | s :: r => match t.get s with
    | some v => (s, v) :: few t r
    | none => few t r
theorem few_get {t : ET} : ∀ {l : List Nat} {s : Nat} {v : Value}, Env.get (few t l) s = some v → t.get s = some v
  | [], s, v, e => by cases e
  | a :: l, s, v, e => by
    simp only [few] at e
    split at e
    · next u hu =>
      simp only [Env.get] at e
      split at e
      · next h => subst h; rw [hu]; exact e
      · exact few_get e
    · exact few_get e
abbrev Cf := FuncId → List Value → Hp → Option (Value × Hp)
def evIn (P : Program) (cf : Cf) (i : In) (env : Env) (h : Hp) : Option (Value × Hp) :=
  match wanted i.g env with
  | none => none
  | some false => some (undef, h)
  | some true => match i.k with
    | .op k xs => match mapE env xs with
      | none => none
      | some vs => stepK k vs h
    | .fl op ty => if selB op then none else match flatStep P env op ty with
      | none => none
      | some v => some (v, h)
    | .call f xs => match mapE env xs with
      | none => none
      | some vs => cf f vs h
    | .callv x xs => match evA env x, mapE env xs with
      | some (.func (.func f) a b), some vs => cf f (a.toList ++ vs ++ b.toList) h
      | _, _ => none
def putE (t : ET) (d : Option Nat) (v : Value) : ET :=
  match d with
  | some d => t.set v d
  | none => t
def evS (P : Program) (cf : Cf) : List In → ET → Hp → Option (ET × Hp)
  | [], t, h => some (t, h)
  | i :: r, t, h => match evIn P cf i (few t (looks i)) h with
    | some (v, h') => evS P cf r (putE t i.d v) h'
    | none => none
/-- A read that is made again finds what it found. -/
def agB (i : In) (env : Env) (h : Hp) : Bool :=
  match wanted i.g env, i.k, i.d with
  | some false, _, _ => true
  | some true, .op .ld1 xs, some d => match mapE env xs with
    | some vs => match env.get d, stepK .ld1 vs h with
      | some v, some (u, _) => eqN 8 u v
      | _, _ => false
    | none => false
  | some true, .op (.ldn c) xs, some d => match mapE env xs with
    | some vs => match env.get d, stepK (.ldn c) vs h with
      | some v, some (u, _) => eqN 8 u v
      | _, _ => false
    | none => false
  | _, _, _ => false
def dOf (i : In) : List Nat := match i.d with | some d => d :: looks i | none => looks i
def evD (P : Program) (cf : Cf) : List DE → ET → Hp → Option (ET × Hp)
  | [], t, h => some (t, h)
  | x :: r, t, h => match evIn P cf x.i (few t (looks x.i)) h with
    | some (v, h') => if (x.re.all fun i => agB i (few t (dOf i)) h') = true then evD P cf r (putE t x.i.d v) h' else none
    | none => none
def resT : List ResultVar → List Nat
  | [] => []
  | .tmp t :: r => t :: resT r
  | .cell a _ :: r => a :: resT r
def argT : Nat → List Value → ET → ET
  | _, [], t => t
  | k, v :: r, t => argT (k + 1) r (t.set v k)
def evC (P : Program) (F : Nat → Option FI) : Nat → IC → ET → Hp → Option (Exit × ET × Hp)
  | 0, _, _, _ => none
  | k + 1, c, t, h =>
    let cf : Cf := fun f args h => match F f with
      | some fi => if args.length ≤ fi.n then (match evC P F k fi.body (argT 0 args .leaf) h with
        | some (.normal, e, h') | some (.ret, e, h') => match resAll P (few e (resT fi.res)) h' fi.res with
          | some vs => some (pack vs, h')
          | none => none
        | _ => none) else none
      | none => none
    match c with
    | .skip => some (.normal, t, h)
    | .reg ins => match evS P cf ins t h with
      | some (e, h') => some (.normal, e, h')
      | none => none
    | .drw L => match evD P cf L t h with
      | some (e, h') => some (.normal, e, h')
      | none => none
    | .seq a b => match evC P F k a t h with
      | some (.normal, e, h') => evC P F k b e h'
      | r => r
    | .cond x a b => match evA (few t (tmpsOf [x])) x with
      | some (.bool true) => evC P F k a t h
      | some (.bool false) => evC P F k b t h
      | _ => none
    | .block id a => match evC P F k a t h with
      | some (.exit j, e, h') => if j = id then some (.normal, e, h') else some (.exit j, e, h')
      | r => r
    | .loop a => match evC P F k a t h with
      | some (.normal, e, h') => evC P F k (.loop a) e h'
      | r => r
    | .exit id => some (.exit id, t, h)
    | .ret => some (.ret, t, h)
/-- A closed call. -/
def run (P : Program) (F : Nat → Option FI) (k : Nat) (f : FuncId) (args : List Value) (h : Hp) : Option (Value × Hp) :=
  match F f with
  | some fi => if args.length ≤ fi.n then (match evC P F k fi.body (argT 0 args .leaf) h with
    | some (.normal, e, h') | some (.ret, e, h') => match resAll P (few e (resT fi.res)) h' fi.res with
      | some vs => some (pack vs, h')
      | none => none
    | _ => none) else none
  | none => none

/-- What is told of the slots is so. -/
def TLe (t : ET) (env : Env) : Prop := ∀ s v, t.get s = some v → env.get s = some v
theorem TLe.few {t : ET} {env : Env} (h : TLe t env) (l : List Nat) : EnvLe (few t l) env := fun s v e => h s v (few_get e)
theorem TLe.put {t : ET} {env : Env} (h : TLe t env) (d : Option Nat) (v : Value) : TLe (putE t d v) (env.put d v) := by
  intro s u e
  cases d with
  | none => exact h _ _ e
  | some d =>
    simp only [putE] at e
    simp only [Env.put, Env.get]
    rcases Tr.set_get v t d s u e with ⟨rfl, rfl⟩ | ⟨h1, h2⟩
    · rw [if_pos rfl]
    · rw [if_neg (fun h3 => h1 h3.symm)]; exact h _ _ h2
theorem argT_le : ∀ (args : List Value) (k : Nat) (t : ET), (∀ s v, t.get s = some v → s < k) → ∀ s v, (argT k args t).get s = some v → (s < k ∧ t.get s = some v) ∨ (k ≤ s ∧ args[s - k]? = some v) := by
  intro args
  induction args with
  | nil => intro k t ht s v e; exact .inl ⟨ht s v e, e⟩
  | cons a args ih =>
    intro k t ht s v e
    have h1 : ∀ s v, (t.set a k).get s = some v → s < k + 1 := by
      intro s v e
      rcases Tr.set_get a t k s v e with ⟨rfl, _⟩ | ⟨_, h2⟩
      · omega
      · have := ht s v h2; omega
    rcases ih (k + 1) _ h1 s v e with ⟨h2, h3⟩ | ⟨h2, h3⟩
    · rcases Tr.set_get a t k s v h3 with ⟨rfl, rfl⟩ | ⟨h4, h5⟩
      · exact .inr ⟨Nat.le_refl _, by simp⟩
      · exact .inl ⟨by omega, h5⟩
    · exact .inr ⟨by omega, by rw [show s - k = (s - (k + 1)) + 1 by omega]; simpa using h3⟩
theorem envOf_at : ∀ (l : List Value) (k s : Nat) (v : Value), k ≤ s → l[s - k]? = some v → (envOf k l).get s = some v
  | [], _, _, _, _, e => by simp at e
  | a :: l, k, s, v, hk, e => by
    simp only [envOf, Env.get]
    by_cases h : k = s
    · subst h; simp at e; rw [if_pos rfl, e]
    · rw [if_neg h]
      refine envOf_at l (k + 1) s v (by omega) ?_
      rw [show s - k = (s - (k + 1)) + 1 by omega] at e
      simpa using e
theorem argT_TLe (args : List Value) : TLe (argT 0 args .leaf) (envOf 0 args) := by
  intro s v e
  rcases argT_le args 0 .leaf (by intro s v e; cases e) s v e with ⟨h, _⟩ | ⟨h1, h2⟩
  · omega
  · exact envOf_at args 0 s v h1 h2

section
variable {P : Program} {cf : Cf} {env env' : Env} {h h' : Hp}
theorem evA_le (hl : EnvLe env env') {x : Operand} {v : Value} (e : evA env x = some v) : evA env' x = some v := by
  cases x <;> simp only [evA] at e ⊢ <;> first | exact hl _ _ e | exact e
theorem mapE_le (hl : EnvLe env env') : ∀ {xs : List Operand} {vs : List Value}, mapE env xs = some vs → mapE env' xs = some vs := by
  intro xs
  induction xs with
  | nil => intro vs e; exact e
  | cons x xs ih =>
    intro vs e
    simp only [mapE] at e
    split at e
    case h_2 => cases e
    case h_1 v hv =>
    split at e
    case h_2 => cases e
    case h_1 us hus =>
    cases e
    simp only [mapE, evA_le hl hv, ih hus]
theorem wanted_le (hl : EnvLe env env') {g : Option (Nat × Bool)} {b : Bool} (e : wanted g env = some b) : wanted g env' = some b := by
  cases g with
  | none => exact e
  | some p =>
    obtain ⟨t, c⟩ := p
    simp only [wanted] at e ⊢
    split at e
    · next x hx => rw [hl _ _ hx]; exact e
    · next hx => rw [hl _ _ hx]; exact e
    · cases e
theorem flatStep_le (hl : EnvLe env env') {op : Op} {ty : TypeId} {v : Value} (hs : ∀ cs b, op ≠ .select cs b) (e : flatStep P env op ty = some v) : flatStep P env' op ty = some v := by
  have h0 := e
  unfold flatStep at h0
  split at h0
  case isFalse => cases h0
  case isTrue ha =>
  rw [← e]
  refine (flatStep_congr hs fun t ht => ?_).symm
  unfold allFlat at ha
  rw [List.all_eq_true] at ha
  have hm : Operand.tmp t ∈ op.operands.toList := by
    have : ∀ {xs : List Operand}, t ∈ tmpsOf xs → Operand.tmp t ∈ xs := by
      intro xs
      induction xs with
      | nil => intro h; cases h
      | cons x xs ih => intro h; cases x <;> simp [tmpsOf] at h <;> first | (rcases h with rfl | h; exact List.mem_cons_self; exact List.mem_cons_of_mem _ (ih h)) | exact List.mem_cons_of_mem _ (ih h)
    exact this ht
  have := ha _ hm
  simp only [evA] at this
  cases hg : env.get t with
  | none => rw [hg] at this; cases this
  | some u => exact (hl _ _ hg).symm
theorem wpS_mono {ins : List In} {Q Q' : Env → Hp → Prop} (hq : ∀ e h, Q e h → Q' e h) : ∀ {env : Env} {h : Hp}, wpS P (ACall P) ins env h Q → wpS P (ACall P) ins env h Q' := by
  induction ins with
  | nil => intro env h a; exact hq _ _ a
  | cons i r ih => intro env h a; exact wpIn_mono a fun _ _ => ih
theorem wpD_mono {L : List DE} {Q Q' : Env → Hp → Prop} (hq : ∀ e h, Q e h → Q' e h) : ∀ {env : Env} {h : Hp}, wpD P (ACall P) L env h Q → wpD P (ACall P) L env h Q' := by
  induction L with
  | nil => intro env h a; exact hq _ _ a
  | cons i r ih => intro env h a; exact wpIn_mono a fun _ _ ⟨h1, h2⟩ => ⟨h1, ih h2⟩
theorem evIn_sound (hc : ∀ f vs h v h', cf f vs h = some (v, h') → ACall P f vs h (fun u g => u = v ∧ g = h')) (hl : EnvLe env env') {i : In} {v : Value} {R : Value → Hp → Prop} (e : evIn P cf i env h = some (v, h')) (r : R v h') : wpIn P (ACall P) i env' h R := by
  unfold evIn at e
  unfold wpIn
  split at e
  · cases e
  · next hw => cases e; simp only [wanted_le hl hw]; exact r
  · next hw =>
    simp only [wanted_le hl hw]
    split at e
    · next k xs hik =>
      split at e
      · cases e
      · next vs hv => simp only [hik, mapE_le hl hv, e]; exact r
    · next op ty hik =>
      split at e
      · cases e
      next hns =>
      split at e
      · cases e
      · next u hv =>
        cases e
        simp only [hik, flatStep_le hl (by rintro cs b rfl; exact hns rfl) hv]; exact r
    · next hik =>
      split at e
      · cases e
      · next vs hv =>
        simp only [hik, mapE_le hl hv]
        exact (hc _ _ _ _ _ e).mono fun _ _ ⟨h1, h2⟩ => by rw [h1, h2]; exact r
    · next hik =>
      split at e
      · next h1 h2 =>
        simp only [hik, evA_le hl h1, mapE_le hl h2]
        exact (hc _ _ _ _ _ e).mono fun _ _ ⟨h1, h2⟩ => by rw [h1, h2]; exact r
      · cases e
theorem evS_sound (hc : ∀ f vs h v h', cf f vs h = some (v, h') → ACall P f vs h (fun u g => u = v ∧ g = h')) : ∀ {ins : List In} {env : ET} {env' : Env} {h : Hp} {e : ET} {h' : Hp}, TLe env env' → evS P cf ins env h = some (e, h') → wpS P (ACall P) ins env' h (fun e2 h2 => TLe e e2 ∧ h2 = h') := by
  intro ins
  induction ins with
  | nil => intro env env' h e h' hl ev; cases ev; exact ⟨hl, rfl⟩
  | cons i r ih =>
    intro env env' h e h' hl ev
    simp only [evS] at ev
    split at ev
    · next v h1 hv => exact evIn_sound hc (hl.few _) hv (ih (hl.put _ _) ev)
    · cases ev
theorem agB_sound (hl : EnvLe env env') {i : In} (e : agB i env h = true) : again i env' h := by
  unfold agB at e
  unfold again
  split at e
  · next hw => rw [wanted_le hl hw]; trivial
  · next xs d hw hik hid =>
    rw [wanted_le hl hw, hik, hid]
    simp only
    split at e
    · next vs hv =>
      simp only [mapE_le hl hv]
      split at e
      · next v u h2 hd hs =>
        simp only [hl _ _ hd]
        rw [hs, readK_step rfl hs, eqN_eq _ _ _ e]
      · cases e
    · cases e
  · next c xs d hw hik hid =>
    rw [wanted_le hl hw, hik, hid]
    simp only
    split at e
    · next vs hv =>
      simp only [mapE_le hl hv]
      split at e
      · next v u h2 hd hs =>
        simp only [hl _ _ hd]
        rw [hs, readK_step rfl hs, eqN_eq _ _ _ e]
      · cases e
    · cases e
  · cases e
theorem agAll_sound {t : ET} (hl : TLe t env') : ∀ {l : List In}, (l.all fun i => agB i (few t (dOf i)) h) = true → allAgain l env' h := by
  intro l
  induction l with
  | nil => intro _; trivial
  | cons i r ih =>
    intro e
    simp only [List.all_cons, Bool.and_eq_true] at e
    exact ⟨agB_sound (hl.few _) e.1, ih e.2⟩
theorem evD_sound (hc : ∀ f vs h v h', cf f vs h = some (v, h') → ACall P f vs h (fun u g => u = v ∧ g = h')) : ∀ {L : List DE} {env : ET} {env' : Env} {h : Hp} {e : ET} {h' : Hp}, TLe env env' → evD P cf L env h = some (e, h') → wpD P (ACall P) L env' h (fun e2 h2 => TLe e e2 ∧ h2 = h') := by
  intro L
  induction L with
  | nil => intro env env' h e h' hl ev; cases ev; exact ⟨hl, rfl⟩
  | cons x r ih =>
    intro env env' h e h' hl ev
    simp only [evD] at ev
    split at ev
    · next v h1 hv =>
      split at ev
      · next ha => exact evIn_sound hc (hl.few _) hv ⟨agAll_sound hl ha, ih (hl.put _ _) ev⟩
      · cases ev
    · cases ev
end
/-- The functions are the program's. -/
def Have (P : Program) (F : Nat → Option FI) : Prop := ∀ f fi, F f = some fi → ∃ fn, P.funcs[f]? = some fn ∧ compF P fn = some fi
/-- A loop whose frame is told by slots. -/
theorem ai_loopT {P : Program} {n : Nat} {x : IC} {env : Env} {h : Hp} {Q : Exit → Env → Hp → Prop} {γ : Type} (E : γ → ET) (H : γ → Hp → Prop) (mu : γ → Nat) (g0 : γ) (hE : TLe (E g0) env) (hH : H g0 h)
    (round : ∀ g env h, TLe (E g) env → H g h → AI P n x env h (fun e env' h' => match e with | .normal => ∃ g', TLe (E g') env' ∧ H g' h' ∧ mu g' < mu g | e => Q e env' h')) : AI P n (.loop x) env h Q := by
  refine ai_loop (fun env h k => ∃ g, TLe (E g) env ∧ H g h ∧ mu g = k) (k0 := mu g0) ⟨g0, hE, hH, rfl⟩ ?_
  rintro env h k ⟨g, h1, h2, rfl⟩
  refine (round g env h h1 h2).mono ?_
  intro e env' h' q
  cases e with
  | normal => obtain ⟨g', k1, k2, k3⟩ := q; exact ⟨mu g', k3, g', k1, k2, rfl⟩
  | exit i => exact q
  | goto i => exact q
  | ret => exact q
  | panic c => exact q
  | outgrown => exact q
theorem run_of {P : Program} {F : Nat → Option FI} (hF : Have P F) {k : Nat} (ih : ∀ {n : Nat} {c : IC} {env : ET} {env' : Env} {h : Hp} {x : Exit} {e : ET} {h' : Hp}, TLe env env' → evC P F k c env h = some (x, e, h') → AI P n c env' h (fun x2 e2 h2 => x2 = x ∧ TLe e e2 ∧ h2 = h'))
    {f : FuncId} {vs : List Value} {h : Hp} {v : Value} {h' : Hp} (hv : run P F k f vs h = some (v, h')) : ACall P f vs h (fun u g => u = v ∧ g = h') := by
  unfold run at hv
  split at hv
  case h_2 => cases hv
  case h_1 fi hfi =>
  split at hv
  case isFalse => cases hv
  case isTrue hn =>
  obtain ⟨fn, hf, hcf⟩ := hF f fi hfi
  have fin : ∀ x2 e h2 vs2, (x2 = .normal ∨ x2 = .ret) → evC P F k fi.body (argT 0 vs .leaf) h = some (x2, e, h2) → resAll P (few e (resT fi.res)) h2 fi.res = some vs2 → ACall P f vs h (fun u g => u = pack vs2 ∧ g = h2) := by
    intro x2 e h2 vs2 hx hev hres
    refine acall hf hcf hn ((ih (argT_TLe vs) hev).mono ?_)
    rintro x3 e3 h3 ⟨rfl, hle, rfl⟩
    have : resAll P e3 h3 fi.res = some vs2 := by
      rw [← hres]
      have hone : ∀ (y : ResultVar) (v : Value), resOne P (few e (resT fi.res)) h3 y = some v → resOne P e3 h3 y = some v := by
        intro y v hy
        cases y with
        | tmp t => exact hle.few _ _ _ hy
        | cell a t =>
          simp only [resOne] at hy ⊢
          split at hy
          · next hg => rw [hle.few _ _ _ hg]; exact hy
          · cases hy
      have hall : ∀ (l : List ResultVar) (vs : List Value), resAll P (few e (resT fi.res)) h3 l = some vs → resAll P e3 h3 l = some vs := by
        intro l
        induction l with
        | nil => intro vs hv; exact hv
        | cons y l ihl =>
          intro vs hv
          simp only [resAll] at hv ⊢
          split at hv
          · next h1 h2 => rw [hone _ _ h1, ihl _ h2]; exact hv
          · cases hv
      rw [hres]
      exact hall _ _ hres
    rcases hx with rfl | rfl
    · exact ⟨vs2, this, rfl, rfl⟩
    · exact ⟨vs2, this, rfl, rfl⟩
  split at hv
  · next e2 h2 hev =>
    split at hv
    · next vs2 hres => cases hv; exact fin _ _ _ _ (.inl rfl) hev hres
    · cases hv
  · next e2 h2 hev =>
    split at hv
    · next vs2 hres => cases hv; exact fin _ _ _ _ (.inr rfl) hev hres
    · cases hv
  · cases hv
theorem evC_sound {P : Program} {F : Nat → Option FI} (hF : Have P F) (hm : P.follows .mixedOrders = true) : ∀ (k : Nat) {n : Nat} {c : IC} {env : ET} {env' : Env} {h : Hp} {x : Exit} {e : ET} {h' : Hp}, TLe env env' → evC P F k c env h = some (x, e, h') →
    AI P n c env' h (fun x2 e2 h2 => x2 = x ∧ TLe e e2 ∧ h2 = h') := by
  intro k
  induction k using Nat.strongRecOn with
  | _ k ih =>
    intro n c env env' h x e h' hl ev
    cases k with
    | zero => cases ev
    | succ k =>
      have hc : ∀ f vs h v h', run P F k f vs h = some (v, h') → ACall P f vs h (fun u g => u = v ∧ g = h') := fun f vs h v h' hv => run_of hF (fun hl hev => ih k (Nat.lt_succ_self k) hl hev) hv
      cases c with
      | skip => simp only [evC] at ev; cases ev; exact ai_skip ⟨rfl, hl, rfl⟩
      | exit id => simp only [evC] at ev; cases ev; exact ai_exit ⟨rfl, hl, rfl⟩
      | ret => simp only [evC] at ev; cases ev; exact ai_ret ⟨rfl, hl, rfl⟩
      | reg ins =>
        simp only [evC] at ev
        split at ev
        · next hev =>
          cases ev
          refine ai_reg ?_
          exact wpS_mono (fun _ _ ⟨h1, h2⟩ => ⟨rfl, h1, h2⟩) (evS_sound (cf := run P F k) hc hl hev)
        · cases ev
      | drw L =>
        simp only [evC] at ev
        split at ev
        · next hev =>
          cases ev
          refine ai_drw hm ?_
          exact wpD_mono (fun _ _ ⟨h1, h2⟩ => ⟨rfl, h1, h2⟩) (evD_sound (cf := run P F k) hc hl hev)
        · cases ev
      | seq a b =>
        simp only [evC] at ev
        split at ev
        · next e1 h1 hev =>
          refine ai_seq ((ih k (Nat.lt_succ_self k) hl hev).mono ?_)
          rintro x2 e2 h2 ⟨rfl, hle, rfl⟩
          exact ih k (Nat.lt_succ_self k) hle ev
        · next hne =>
          refine ai_seq ((ih k (Nat.lt_succ_self k) hl ev).mono ?_)
          rintro x2 e2 h2 ⟨rfl, hle, rfl⟩
          cases x2 with
          | normal => exact absurd ev (hne _ _)
          | _ => exact ⟨rfl, hle, rfl⟩
      | cond y a b =>
        simp only [evC] at ev
        split at ev
        · next hy => exact ai_cond (evA_le (hl.few _) hy) (fun _ => ih k (Nat.lt_succ_self k) hl ev) (fun hb => by cases hb)
        · next hy => exact ai_cond (evA_le (hl.few _) hy) (fun hb => by cases hb) (fun _ => ih k (Nat.lt_succ_self k) hl ev)
        · cases ev
      | block id a =>
        simp only [evC] at ev
        split at ev
        · next j e1 h1 hev =>
          refine ai_block ((ih k (Nat.lt_succ_self k) hl hev).mono ?_)
          rintro x2 e2 h2 ⟨rfl, hle, rfl⟩
          simp only [blockQ]
          split at ev
          · next hj => rw [if_pos hj]; cases ev; exact ⟨rfl, hle, rfl⟩
          · next hj => rw [if_neg hj]; cases ev; exact ⟨rfl, hle, rfl⟩
        · next hne =>
          refine ai_block ((ih k (Nat.lt_succ_self k) hl ev).mono ?_)
          rintro x2 e2 h2 ⟨rfl, hle, rfl⟩
          cases x2 with
          | exit j => exact absurd ev (hne _ _ _)
          | _ => exact ⟨rfl, hle, rfl⟩
      | loop a =>
        refine ai_loopT (γ := ET × Nat) (fun g => g.1) (fun g h1 => g.2 ≤ k + 1 ∧ evC P F g.2 (.loop a) g.1 h1 = some (x, e, h')) (fun g => g.2) (env, k + 1) hl ⟨Nat.le_refl _, ev⟩ ?_
        rintro ⟨e1, j⟩ env1 h1 hl1 ⟨hj, ev1⟩
        dsimp only at hj ev1 hl1 ⊢
        cases j with
        | zero => cases ev1
        | succ j =>
          simp only [evC] at ev1
          split at ev1
          · next e2 h2 hev =>
            refine (ih j (by omega) hl1 hev).mono ?_
            rintro x3 e3 h3 ⟨rfl, hle, rfl⟩
            exact ⟨(e2, j), hle, ⟨by dsimp only; omega, ev1⟩, by dsimp only; omega⟩
          · next hne =>
            refine (ih j (by omega) hl1 ev1).mono ?_
            rintro x3 e3 h3 ⟨rfl, hle, rfl⟩
            cases x3 with
            | normal => exact absurd ev1 (hne _ _)
            | _ => exact ⟨rfl, hle, rfl⟩
theorem run_sound {P : Program} {F : Nat → Option FI} (hF : Have P F) (hm : P.follows .mixedOrders = true) {k : Nat} {f : FuncId} {args : List Value} {h : Hp} {v : Value} {h' : Hp} (e : run P F k f args h = some (v, h')) : ACall P f args h (fun u g => u = v ∧ g = h') :=
  run_of hF (fun hl hev => evC_sound hF hm k hl hev) e
/-- Is the answer true? -/
def yes : Option (Value × Hp) → Bool
  | some (.bool true, _) => true
  | _ => false
theorem yes_of {r : Option (Value × Hp)} (e : yes r = true) : ∃ h, r = some (.bool true, h) := by
  unfold yes at e
  split at e
  · exact ⟨_, rfl⟩
  · cases e
/-- What is shown over the empty heap holds over each one, for arguments without addresses. -/
theorem acall_frame {P : Program} {f : FuncId} {args : List Value} {R : Value → Prop} (h : Hp) (hf : flatL args = true) (hv : ∀ v, R v → flat v = true) (c : ACall P f args Hp.empty (fun v _ => R v)) : ACall P f args h (fun v g => R v ∧ h = g) := by
  refine ⟨c.1, fun base w0 m w args' ra s => ?_⟩
  have ea : args' = args := ra.flat_eq hf
  subst ea
  refine (c.2 w.heap.size w ⟨fun _ => none, fun _ => none⟩ w args' (RVs.of_flat hf) (Sim.empty w (s.below.tb.of s.below.bl s.big))).mono ?_
  rintro e w' ⟨m', v, v', h', rfl, _, rv, s', hr⟩
  have ev := rv.flat_eq (hv v hr)
  subst ev
  refine ⟨m, v', v', h, rfl, m.le_refl, RV.of_flat m v' (hv v' hr), ?_, hr, rfl⟩
  have hlt : ∀ b, b < w.heap.size → w'.heap[b]? = w.heap[b]? := s'.below.bl.block
  refine s.world ⟨s'.below.bl.os, s'.below.bl.tape, s'.below.bl.output, s'.below.bl.size, fun b hb => hlt b (Nat.lt_of_lt_of_le hb s.big)⟩ s'.below.dr s'.below.bl.size (fun b es ck hb => hlt b (Array.getElem?_eq_some_iff.1 hb).1) fun i l ob _ hm => hlt _ (s.lt i l hm)
/-- Functions by their numbers. -/
def look : List (Nat × FI) → Nat → Option FI
  | [], _ => none
  | (k, x) :: r, f => if Nat.beq k f = true then some x else look r f
theorem have_nil (P : Program) : Have P (look []) := fun _ _ e => by cases e
theorem have_cons {P : Program} {l : List (Nat × FI)} {k : Nat} {x : FI} {fn : Func} (hf : P.funcs[k]? = some fn) (hc : compF P fn = some x) (h : Have P (look l)) : Have P (look ((k, x) :: l)) := by
  intro f fi e
  simp only [look] at e
  split at e
  · next hk => cases e; rw [← Nat.eq_of_beq_eq_true hk]; exact ⟨fn, hf, hc⟩
  · exact h f fi e
/-- A closed function that answers true does so over every heap. -/
theorem closed_true {P : Program} {F : Nat → Option FI} (hF : Have P F) (hm : P.follows .mixedOrders = true) (k : Nat) {f : FuncId} {args : List Value} (hf : flatL args = true) (e : yes (run P F k f args Hp.empty) = true) (h : Hp) : ACall P f args h (fun v g => v = .bool true ∧ h = g) := by
  obtain ⟨h1, e1⟩ := yes_of e
  exact acall_frame (R := fun v => v = .bool true) h hf (by rintro v rfl; rfl) ((run_sound hF hm e1).mono fun _ _ ⟨h2, _⟩ => h2)
/-- A closed function with a plain answer. -/
theorem closed_val {P : Program} {F : Nat → Option FI} (hF : Have P F) (hm : P.follows .mixedOrders = true) (k : Nat) {f : FuncId} {args : List Value} {v : Value} (hf : flatL args = true) (hv : flat v = true) (e : (run P F k f args Hp.empty).map (·.1) = some v) (h : Hp) : ACall P f args h (fun u g => u = v ∧ h = g) := by
  cases hr : run P F k f args Hp.empty with
  | none => rw [hr] at e; cases e
  | some r =>
    obtain ⟨u, h1⟩ := r
    rw [hr] at e
    cases e
    exact acall_frame (R := fun u' => u' = u) h hf (by rintro _ rfl; exact hv) ((run_sound hF hm hr).mono fun _ _ ⟨h2, _⟩ => h2)
end Go.Proofs.YtapbmmlgmcmpnaaDoorW.Am
/- The instructions of functions of the program, each with the proof that it is what the program has. Printed by a program of this session (irdump.lean, irfile.py). -/
namespace Go.Proofs.YtapbmmlgmcmpnaaDoorW.Am
open Go
/-- spinnaker/spinnakerlaw4.TextBlanks -/
def ir3 : FI :=
  ⟨82, [.tmp 4], .seq (.reg [⟨some 4, none, .op .mv [.const (.bool false)]⟩]) (.seq (.reg [⟨some 17, none, .op .mv [.tmp 0]⟩, ⟨some 18, none, .op (.cvt .u64) [.tmp 17]⟩, ⟨some 19, none, .op (.bin .rem) [.tmp 18, .const (.int .u64 10)]⟩, ⟨some 20, none, .op (.cvt .i64) [.tmp 19]⟩, ⟨some 21, none, .op .mv [.tmp 1]⟩, ⟨some 22, none, .op (.cvt .u64) [.tmp 21]⟩, ⟨some 23, none, .op (.bin .rem) [.tmp 22, .const (.int .u64 10)]⟩, ⟨some 24, none, .op (.cvt .i64) [.tmp 23]⟩, ⟨some 5, none, .op .mv [.tmp 20]⟩, ⟨some 6, none, .op .mv [.tmp 24]⟩]) (.seq (.reg [⟨some 7, none, .op .mv [.const (.string ⟨#[]⟩)]⟩]) (.seq (.seq (.reg [⟨some 8, none, .op .mv [.const (.int .i64 0)]⟩]) (.block 0 (.loop (.seq (.seq (.reg [⟨some 25, none, .op .mv [.tmp 8]⟩, ⟨some 26, none, .op .mv [.tmp 5]⟩, ⟨some 27, none, .op (.bin .lss) [.tmp 25, .tmp 26]⟩]) (.cond (.tmp 27) (.skip) (.exit 0))) (.seq (.block 1 (.reg [⟨some 30, none, .op .mv [.tmp 7]⟩, ⟨some 31, none, .op (.bin .add) [.tmp 30, .const (.string ⟨#[32, 32, 32, 10]⟩)]⟩, ⟨some 7, none, .op .mv [.tmp 31]⟩])) (.reg [⟨some 28, none, .op .mv [.tmp 8]⟩, ⟨some 29, none, .op (.bin .add) [.tmp 28, .const (.int .i64 1)]⟩, ⟨some 8, none, .op .mv [.tmp 29]⟩])))))) (.seq (.seq (.reg [⟨some 9, none, .op .mv [.const (.int .i64 0)]⟩]) (.block 2 (.loop (.seq (.seq (.reg [⟨some 32, none, .op .mv [.tmp 9]⟩, ⟨some 33, none, .op .mv [.tmp 6]⟩, ⟨some 34, none, .op (.bin .lss) [.tmp 32, .tmp 33]⟩]) (.cond (.tmp 34) (.skip) (.exit 2))) (.seq (.block 3 (.reg [⟨some 37, none, .op .mv [.tmp 7]⟩, ⟨some 38, none, .op (.bin .add) [.tmp 37, .const (.string ⟨#[32, 35, 32, 109, 105, 110, 58, 32, 57, 10]⟩)]⟩, ⟨some 7, none, .op .mv [.tmp 38]⟩])) (.reg [⟨some 35, none, .op .mv [.tmp 9]⟩, ⟨some 36, none, .op (.bin .add) [.tmp 35, .const (.int .i64 1)]⟩, ⟨some 9, none, .op .mv [.tmp 36]⟩])))))) (.seq (.reg [⟨some 39, none, .call 9 []⟩, ⟨some 10, none, .op (.new 24 (.agg #[(.int .i64 0), (.int .i64 0), (.int .i64 0), (.int .i64 0), (.int .i64 0), (.int .i64 0), (.int .i64 0), (.int .i64 0), (.int .i64 0), (.int .i64 0), (.int .i64 0), (.int .i64 0), (.int .i64 0), (.int .i64 0), (.int .i64 0), (.int .i64 0), (.int .i64 0), (.int .i64 0), (.int .i64 0), (.int .i64 0)])) []⟩, ⟨none, none, .op (.st 20) [.tmp 10, .tmp 39]⟩]) (.seq (.reg [⟨some 41, none, .op (.ldn 20) [.tmp 10]⟩, ⟨some 42, none, .op .mv [.tmp 7]⟩, ⟨some 43, none, .op (.bin .add) [.tmp 42, .const (.string ⟨#[32, 32, 109, 105, 110, 58, 32, 51, 32, 32, 32]⟩)]⟩, ⟨some 44, none, .call 10 [.tmp 41, .tmp 43]⟩, ⟨some 40, none, .op .mv [.tmp 44]⟩, ⟨some 45, none, .op (.ext 0) [.tmp 40]⟩, ⟨some 46, none, .op (.ext 1) [.tmp 40]⟩, ⟨some 47, none, .op (.ext 2) [.tmp 40]⟩, ⟨some 11, none, .op (.new 24 (.agg #[(.int .i64 0), (.int .i64 0), (.int .i64 0), (.int .i64 0), (.int .i64 0), (.int .i64 0), (.int .i64 0), (.int .i64 0), (.int .i64 0), (.int .i64 0), (.int .i64 0), (.int .i64 0), (.int .i64 0), (.int .i64 0), (.int .i64 0), (.int .i64 0), (.int .i64 0), (.int .i64 0), (.int .i64 0), (.int .i64 0)])) []⟩, ⟨none, none, .op (.st 20) [.tmp 11, .tmp 45]⟩, ⟨some 12, none, .op .mv [.tmp 46]⟩, ⟨some 13, none, .op .mv [.tmp 47]⟩]) (.seq (.reg [⟨some 49, none, .op (.ldn 20) [.tmp 10]⟩, ⟨some 50, none, .op .mv [.tmp 7]⟩, ⟨some 51, none, .op (.bin .add) [.tmp 50, .const (.string ⟨#[109, 105, 110, 58, 32, 51, 10, 109, 105, 110, 32, 52]⟩)]⟩, ⟨some 52, none, .call 10 [.tmp 49, .tmp 51]⟩, ⟨some 48, none, .op .mv [.tmp 52]⟩, ⟨some 53, none, .op (.ext 0) [.tmp 48]⟩, ⟨some 54, none, .op (.ext 1) [.tmp 48]⟩, ⟨some 55, none, .op (.ext 2) [.tmp 48]⟩, ⟨some 14, none, .op (.new 24 (.agg #[(.int .i64 0), (.int .i64 0), (.int .i64 0), (.int .i64 0), (.int .i64 0), (.int .i64 0), (.int .i64 0), (.int .i64 0), (.int .i64 0), (.int .i64 0), (.int .i64 0), (.int .i64 0), (.int .i64 0), (.int .i64 0), (.int .i64 0), (.int .i64 0), (.int .i64 0), (.int .i64 0), (.int .i64 0), (.int .i64 0)])) []⟩, ⟨none, none, .op (.st 20) [.tmp 14, .tmp 53]⟩, ⟨some 15, none, .op .mv [.tmp 54]⟩, ⟨some 16, none, .op .mv [.tmp 55]⟩]) (.seq (.reg [⟨some 56, none, .call 11 []⟩, ⟨some 57, none, .op .mv [.tmp 56]⟩, ⟨some 58, some (57, true), .op .mv [.tmp 12]⟩, ⟨some 59, some (57, true), .op (.bin .eql) [.tmp 58, .const (.int .i64 0)]⟩, ⟨some 60, none, .op .pick [.tmp 57, .tmp 59, .const (.bool false)]⟩, ⟨some 61, none, .op .mv [.tmp 60]⟩, ⟨some 62, some (61, true), .op .mv [.tmp 13]⟩, ⟨some 63, some (61, true), .op (.bin .eql) [.tmp 62, .const (.int .i64 0)]⟩, ⟨some 64, none, .op .pick [.tmp 61, .tmp 63, .const (.bool false)]⟩, ⟨some 65, none, .op .mv [.tmp 64]⟩, ⟨some 66, some (65, true), .op (.fad 8) [.tmp 11]⟩, ⟨some 67, some (65, true), .op .ld1 [.tmp 66]⟩, ⟨some 68, some (65, true), .op (.bin .eql) [.tmp 67, .const (.int .i64 3)]⟩, ⟨some 69, none, .op .pick [.tmp 65, .tmp 68, .const (.bool false)]⟩, ⟨some 70, none, .op .mv [.tmp 69]⟩, ⟨some 71, some (70, true), .op .mv [.tmp 15]⟩, ⟨some 72, some (70, true), .op (.bin .neq) [.tmp 71, .const (.int .i64 0)]⟩, ⟨some 73, none, .op .pick [.tmp 70, .tmp 72, .const (.bool false)]⟩, ⟨some 74, none, .op .mv [.tmp 73]⟩, ⟨some 75, some (74, true), .op .mv [.tmp 16]⟩, ⟨some 76, some (74, true), .op .mv [.tmp 5]⟩, ⟨some 77, some (74, true), .op .mv [.tmp 6]⟩, ⟨some 78, some (74, true), .op (.bin .add) [.tmp 76, .tmp 77]⟩, ⟨some 79, some (74, true), .op (.bin .add) [.tmp 78, .const (.int .i64 2)]⟩, ⟨some 80, some (74, true), .op (.bin .eql) [.tmp 75, .tmp 79]⟩, ⟨some 81, none, .op .pick [.tmp 74, .tmp 80, .const (.bool false)]⟩, ⟨some 4, none, .op .mv [.tmp 81]⟩]) (.ret)))))))))⟩
theorem c3 : compF Go.Proofs.Tryd.prog Go.Proofs.Tryd.f3 = some ir3 := by kernel_rfl
/-- spinnaker/spinnakerlaw4.TextAsks -/
def ir4 : FI :=
  ⟨131, [.tmp 8], .seq (.reg [⟨some 6, none, .op (.box 24) [.tmp 2]⟩, ⟨some 8, none, .op .mv [.const (.bool false)]⟩]) (.seq (.seq (.reg [⟨some 25, none, .op .mv [.tmp 0]⟩, ⟨some 26, none, .op .lens [.tmp 25]⟩, ⟨some 27, none, .op (.bin .gtr) [.tmp 26, .const (.int .i64 30)]⟩, ⟨some 28, none, .op .mv [.tmp 27]⟩, ⟨some 29, some (28, false), .op .mv [.tmp 3]⟩, ⟨some 30, some (28, false), .op .len [.tmp 29]⟩, ⟨some 31, some (28, false), .op (.bin .gtr) [.tmp 30, .const (.int .i64 12)]⟩, ⟨some 32, none, .op .pick [.tmp 28, .const (.bool true), .tmp 31]⟩]) (.cond (.tmp 32) (.seq (.reg [⟨some 33, none, .call 11 []⟩, ⟨some 8, none, .op .mv [.tmp 33]⟩]) (.ret)) (.skip))) (.seq (.reg [⟨some 9, none, .op .mv [.const (.string ⟨#[]⟩)]⟩]) (.seq (.seq (.reg [⟨some 10, none, .op .mv [.const (.int .i64 0)]⟩]) (.block 0 (.loop (.seq (.seq (.reg [⟨some 34, none, .op .mv [.tmp 10]⟩, ⟨some 35, none, .op .mv [.tmp 3]⟩, ⟨some 36, none, .op .len [.tmp 35]⟩, ⟨some 37, none, .op (.bin .lss) [.tmp 34, .tmp 36]⟩]) (.cond (.tmp 37) (.skip) (.exit 0))) (.seq (.block 1 (.seq (.seq (.reg [⟨some 40, none, .op .mv [.tmp 3]⟩, ⟨some 41, none, .op .mv [.tmp 10]⟩, ⟨some 42, none, .op (.iad 1) [.tmp 40, .tmp 41]⟩, ⟨some 43, none, .op .ld1 [.tmp 42]⟩, ⟨some 44, none, .op .lens [.tmp 43]⟩, ⟨some 45, none, .op (.bin .gtr) [.tmp 44, .const (.int .i64 40)]⟩]) (.cond (.tmp 45) (.seq (.reg [⟨some 46, none, .call 11 []⟩, ⟨some 8, none, .op .mv [.tmp 46]⟩]) (.ret)) (.skip))) (.reg [⟨some 47, none, .op .mv [.tmp 9]⟩, ⟨some 48, none, .op .mv [.tmp 3]⟩, ⟨some 49, none, .op .mv [.tmp 10]⟩, ⟨some 50, none, .op (.iad 1) [.tmp 48, .tmp 49]⟩, ⟨some 51, none, .op .ld1 [.tmp 50]⟩, ⟨some 52, none, .op (.bin .add) [.tmp 47, .tmp 51]⟩, ⟨some 53, none, .op (.bin .add) [.tmp 52, .const (.string ⟨#[10]⟩)]⟩, ⟨some 9, none, .op .mv [.tmp 53]⟩]))) (.reg [⟨some 38, none, .op .mv [.tmp 10]⟩, ⟨some 39, none, .op (.bin .add) [.tmp 38, .const (.int .i64 1)]⟩, ⟨some 10, none, .op .mv [.tmp 39]⟩])))))) (.seq (.reg [⟨some 55, none, .op .mv [.tmp 0]⟩, ⟨some 56, none, .call 12 [.tmp 55]⟩, ⟨some 54, none, .op .mv [.tmp 56]⟩, ⟨some 57, none, .op (.ext 0) [.tmp 54]⟩, ⟨some 58, none, .op (.ext 1) [.tmp 54]⟩, ⟨some 11, none, .op .mv [.tmp 57]⟩, ⟨some 12, none, .op .mv [.tmp 58]⟩]) (.seq (.reg [⟨some 60, none, .op .mv [.tmp 0]⟩, ⟨some 61, none, .call 13 [.tmp 60]⟩, ⟨some 59, none, .op .mv [.tmp 61]⟩, ⟨some 62, none, .op (.ext 0) [.tmp 59]⟩, ⟨some 63, none, .op (.ext 1) [.tmp 59]⟩, ⟨some 13, none, .op .mv [.tmp 62]⟩, ⟨some 14, none, .op .mv [.tmp 63]⟩]) (.seq (.reg [⟨some 65, none, .op (.ldn 20) [.tmp 6]⟩, ⟨some 66, none, .op .mv [.tmp 9]⟩, ⟨some 67, none, .call 10 [.tmp 65, .tmp 66]⟩, ⟨some 64, none, .op .mv [.tmp 67]⟩, ⟨some 68, none, .op (.ext 0) [.tmp 64]⟩, ⟨some 69, none, .op (.ext 1) [.tmp 64]⟩, ⟨some 70, none, .op (.ext 2) [.tmp 64]⟩, ⟨some 15, none, .op (.new 24 (.agg #[(.int .i64 0), (.int .i64 0), (.int .i64 0), (.int .i64 0), (.int .i64 0), (.int .i64 0), (.int .i64 0), (.int .i64 0), (.int .i64 0), (.int .i64 0), (.int .i64 0), (.int .i64 0), (.int .i64 0), (.int .i64 0), (.int .i64 0), (.int .i64 0), (.int .i64 0), (.int .i64 0), (.int .i64 0), (.int .i64 0)])) []⟩, ⟨none, none, .op (.st 20) [.tmp 15, .tmp 68]⟩, ⟨some 16, none, .op .mv [.tmp 69]⟩, ⟨some 17, none, .op .mv [.tmp 70]⟩]) (.seq (.reg [⟨some 72, none, .op (.ldn 20) [.tmp 6]⟩, ⟨some 73, none, .op .mv [.tmp 9]⟩, ⟨some 74, none, .call 14 [.tmp 72, .tmp 73]⟩, ⟨some 71, none, .op .mv [.tmp 74]⟩, ⟨some 75, none, .op (.ext 0) [.tmp 71]⟩, ⟨some 76, none, .op (.ext 1) [.tmp 71]⟩, ⟨some 77, none, .op (.ext 2) [.tmp 71]⟩, ⟨some 18, none, .op (.new 24 (.agg #[(.int .i64 0), (.int .i64 0), (.int .i64 0), (.int .i64 0), (.int .i64 0), (.int .i64 0), (.int .i64 0), (.int .i64 0), (.int .i64 0), (.int .i64 0), (.int .i64 0), (.int .i64 0), (.int .i64 0), (.int .i64 0), (.int .i64 0), (.int .i64 0), (.int .i64 0), (.int .i64 0), (.int .i64 0), (.int .i64 0)])) []⟩, ⟨none, none, .op (.st 20) [.tmp 18, .tmp 75]⟩, ⟨some 19, none, .op .mv [.tmp 76]⟩, ⟨some 20, none, .op .mv [.tmp 77]⟩]) (.seq (.reg [⟨some 79, none, .op (.ldn 20) [.tmp 6]⟩, ⟨some 80, none, .call 15 [.tmp 79]⟩, ⟨some 78, none, .op .mv [.tmp 80]⟩, ⟨some 81, none, .op (.ext 0) [.tmp 78]⟩, ⟨some 82, none, .op (.ext 1) [.tmp 78]⟩, ⟨some 21, none, .op .mv [.tmp 81]⟩, ⟨some 22, none, .op .mv [.tmp 82]⟩]) (.seq (.reg [⟨some 84, none, .op (.ldn 20) [.tmp 6]⟩, ⟨some 85, none, .call 16 [.tmp 84]⟩, ⟨some 83, none, .op .mv [.tmp 85]⟩, ⟨some 86, none, .op (.ext 0) [.tmp 83]⟩, ⟨some 87, none, .op (.ext 1) [.tmp 83]⟩, ⟨some 23, none, .op .mv [.tmp 86]⟩, ⟨some 24, none, .op .mv [.tmp 87]⟩]) (.seq (.reg [⟨some 88, none, .call 11 []⟩, ⟨some 89, none, .op .mv [.tmp 88]⟩, ⟨some 90, some (89, true), .op .mv [.tmp 11]⟩, ⟨some 91, some (89, true), .op .mv [.tmp 13]⟩, ⟨some 92, some (89, true), .op (.bin .eql) [.tmp 90, .tmp 91]⟩, ⟨some 93, none, .op .pick [.tmp 89, .tmp 92, .const (.bool false)]⟩, ⟨some 94, none, .op .mv [.tmp 93]⟩, ⟨some 95, some (94, true), .op .mv [.tmp 12]⟩, ⟨some 96, some (94, true), .op .mv [.tmp 14]⟩, ⟨some 97, some (94, true), .op (.bbin .eql) [.tmp 95, .tmp 96]⟩, ⟨some 98, none, .op .pick [.tmp 94, .tmp 97, .const (.bool false)]⟩, ⟨some 99, none, .op .mv [.tmp 98]⟩, ⟨some 100, some (99, true), .op .mv [.tmp 1]⟩, ⟨some 101, some (99, true), .call 17 [.tmp 100]⟩, ⟨some 102, some (99, true), .op .mv [.tmp 1]⟩, ⟨some 103, some (99, true), .call 18 [.tmp 102]⟩, ⟨some 104, some (99, true), .op (.bin .eql) [.tmp 101, .tmp 103]⟩, ⟨some 105, none, .op .pick [.tmp 99, .tmp 104, .const (.bool false)]⟩, ⟨some 106, none, .op .mv [.tmp 105]⟩, ⟨some 107, some (106, true), .op (.ldn 20) [.tmp 15]⟩, ⟨some 108, some (106, true), .op (.ldn 20) [.tmp 18]⟩, ⟨some 109, some (106, true), .fl (.binOp .eql 24 (.tmp 107) (.tmp 108) 24) 4⟩, ⟨some 110, none, .op .pick [.tmp 106, .tmp 109, .const (.bool false)]⟩, ⟨some 111, none, .op .mv [.tmp 110]⟩, ⟨some 112, some (111, true), .op .mv [.tmp 16]⟩, ⟨some 113, some (111, true), .op .mv [.tmp 19]⟩, ⟨some 114, some (111, true), .op (.bin .eql) [.tmp 112, .tmp 113]⟩, ⟨some 115, none, .op .pick [.tmp 111, .tmp 114, .const (.bool false)]⟩, ⟨some 116, none, .op .mv [.tmp 115]⟩, ⟨some 117, some (116, true), .op .mv [.tmp 17]⟩, ⟨some 118, some (116, true), .op .mv [.tmp 20]⟩, ⟨some 119, some (116, true), .op (.bin .eql) [.tmp 117, .tmp 118]⟩, ⟨some 120, none, .op .pick [.tmp 116, .tmp 119, .const (.bool false)]⟩, ⟨some 121, none, .op .mv [.tmp 120]⟩, ⟨some 122, some (121, true), .op .mv [.tmp 21]⟩, ⟨some 123, some (121, true), .op .mv [.tmp 23]⟩, ⟨some 124, some (121, true), .op (.bin .eql) [.tmp 122, .tmp 123]⟩, ⟨some 125, none, .op .pick [.tmp 121, .tmp 124, .const (.bool false)]⟩, ⟨some 126, none, .op .mv [.tmp 125]⟩, ⟨some 127, some (126, true), .op .mv [.tmp 22]⟩, ⟨some 128, some (126, true), .op .mv [.tmp 24]⟩, ⟨some 129, some (126, true), .op (.bin .eql) [.tmp 127, .tmp 128]⟩, ⟨some 130, none, .op .pick [.tmp 126, .tmp 129, .const (.bool false)]⟩, ⟨some 8, none, .op .mv [.tmp 130]⟩]) (.ret)))))))))))⟩
theorem c4 : compF Go.Proofs.Tryd.prog Go.Proofs.Tryd.f4 = some ir4 := by kernel_rfl
/-- spinnaker/spinnakerlaw4.TextBack -/
def ir5 : FI :=
  ⟨82, [.tmp 6], .seq (.reg [⟨some 4, none, .op (.box 24) [.tmp 1]⟩, ⟨some 5, none, .op (.box 24) [.tmp 2]⟩, ⟨some 6, none, .op .mv [.const (.bool false)]⟩]) (.seq (.reg [⟨some 18, none, .op .mv [.tmp 0]⟩, ⟨some 19, none, .op (.bin .rem) [.tmp 18, .const (.int .i64 1000000000000)]⟩, ⟨some 7, none, .op .mv [.tmp 19]⟩]) (.seq (.reg [⟨some 21, none, .op .mv [.tmp 7]⟩, ⟨some 22, none, .call 17 [.tmp 21]⟩, ⟨some 23, none, .call 12 [.tmp 22]⟩, ⟨some 20, none, .op .mv [.tmp 23]⟩, ⟨some 24, none, .op (.ext 0) [.tmp 20]⟩, ⟨some 25, none, .op (.ext 1) [.tmp 20]⟩, ⟨some 8, none, .op .mv [.tmp 24]⟩, ⟨some 9, none, .op .mv [.tmp 25]⟩]) (.seq (.seq (.reg [⟨some 26, none, .op .mv [.tmp 9]⟩, ⟨some 27, none, .op .not [.tmp 26]⟩, ⟨some 28, none, .op .mv [.tmp 27]⟩, ⟨some 29, some (28, false), .op .mv [.tmp 8]⟩, ⟨some 30, some (28, false), .op .mv [.tmp 7]⟩, ⟨some 31, some (28, false), .op (.bin .neq) [.tmp 29, .tmp 30]⟩, ⟨some 32, none, .op .pick [.tmp 28, .const (.bool true), .tmp 31]⟩]) (.cond (.tmp 32) (.seq (.reg [⟨some 6, none, .op .mv [.const (.bool false)]⟩]) (.ret)) (.skip))) (.seq (.reg [⟨some 34, none, .op (.ldn 20) [.tmp 4]⟩, ⟨some 35, none, .call 15 [.tmp 34]⟩, ⟨some 33, none, .op .mv [.tmp 35]⟩, ⟨some 36, none, .op (.ext 0) [.tmp 33]⟩, ⟨some 37, none, .op (.ext 1) [.tmp 33]⟩, ⟨some 10, none, .op .mv [.tmp 36]⟩, ⟨some 11, none, .op .mv [.tmp 37]⟩]) (.seq (.seq (.reg [⟨some 38, none, .op .mv [.tmp 11]⟩, ⟨some 39, none, .op (.bin .neq) [.tmp 38, .const (.int .i64 0)]⟩]) (.cond (.tmp 39) (.seq (.reg [⟨some 40, none, .call 11 []⟩, ⟨some 41, none, .op .mv [.tmp 40]⟩, ⟨some 42, some (41, true), .op (.ldn 20) [.tmp 4]⟩, ⟨some 43, some (41, true), .call 19 [.tmp 42]⟩, ⟨some 44, some (41, true), .op .not [.tmp 43]⟩, ⟨some 45, none, .op .pick [.tmp 41, .tmp 44, .const (.bool false)]⟩, ⟨some 46, none, .op .mv [.tmp 45]⟩, ⟨some 47, some (46, true), .op .mv [.tmp 10]⟩, ⟨some 48, some (46, true), .op (.bin .eql) [.tmp 47, .const (.string ⟨#[]⟩)]⟩, ⟨some 49, none, .op .pick [.tmp 46, .tmp 48, .const (.bool false)]⟩, ⟨some 6, none, .op .mv [.tmp 49]⟩]) (.ret)) (.skip))) (.seq (.reg [⟨some 51, none, .op (.ldn 20) [.tmp 5]⟩, ⟨some 52, none, .op .mv [.tmp 10]⟩, ⟨some 53, none, .call 10 [.tmp 51, .tmp 52]⟩, ⟨some 50, none, .op .mv [.tmp 53]⟩, ⟨some 54, none, .op (.ext 0) [.tmp 50]⟩, ⟨some 55, none, .op (.ext 1) [.tmp 50]⟩, ⟨some 56, none, .op (.ext 2) [.tmp 50]⟩, ⟨some 12, none, .op (.new 24 (.agg #[(.int .i64 0), (.int .i64 0), (.int .i64 0), (.int .i64 0), (.int .i64 0), (.int .i64 0), (.int .i64 0), (.int .i64 0), (.int .i64 0), (.int .i64 0), (.int .i64 0), (.int .i64 0), (.int .i64 0), (.int .i64 0), (.int .i64 0), (.int .i64 0), (.int .i64 0), (.int .i64 0), (.int .i64 0), (.int .i64 0)])) []⟩, ⟨none, none, .op (.st 20) [.tmp 12, .tmp 54]⟩, ⟨some 13, none, .op .mv [.tmp 55]⟩, ⟨some 14, none, .op .mv [.tmp 56]⟩]) (.seq (.reg [⟨some 58, none, .op (.ldn 20) [.tmp 4]⟩, ⟨some 59, none, .call 10 [.tmp 58, .const (.string ⟨#[]⟩)]⟩, ⟨some 57, none, .op .mv [.tmp 59]⟩, ⟨some 60, none, .op (.ext 0) [.tmp 57]⟩, ⟨some 61, none, .op (.ext 1) [.tmp 57]⟩, ⟨some 62, none, .op (.ext 2) [.tmp 57]⟩, ⟨some 15, none, .op (.new 24 (.agg #[(.int .i64 0), (.int .i64 0), (.int .i64 0), (.int .i64 0), (.int .i64 0), (.int .i64 0), (.int .i64 0), (.int .i64 0), (.int .i64 0), (.int .i64 0), (.int .i64 0), (.int .i64 0), (.int .i64 0), (.int .i64 0), (.int .i64 0), (.int .i64 0), (.int .i64 0), (.int .i64 0), (.int .i64 0), (.int .i64 0)])) []⟩, ⟨none, none, .op (.st 20) [.tmp 15, .tmp 60]⟩, ⟨some 16, none, .op .mv [.tmp 61]⟩, ⟨some 17, none, .op .mv [.tmp 62]⟩]) (.seq (.reg [⟨some 63, none, .call 11 []⟩, ⟨some 64, none, .op .mv [.tmp 63]⟩, ⟨some 65, some (64, true), .op .mv [.tmp 13]⟩, ⟨some 66, some (64, true), .op (.bin .eql) [.tmp 65, .const (.int .i64 0)]⟩, ⟨some 67, none, .op .pick [.tmp 64, .tmp 66, .const (.bool false)]⟩, ⟨some 68, none, .op .mv [.tmp 67]⟩, ⟨some 69, some (68, true), .op (.ldn 20) [.tmp 12]⟩, ⟨some 70, some (68, true), .op (.ldn 20) [.tmp 4]⟩, ⟨some 71, some (68, true), .fl (.binOp .eql 24 (.tmp 69) (.tmp 70) 24) 4⟩, ⟨some 72, none, .op .pick [.tmp 68, .tmp 71, .const (.bool false)]⟩, ⟨some 73, none, .op .mv [.tmp 72]⟩, ⟨some 74, some (73, true), .op .mv [.tmp 16]⟩, ⟨some 75, some (73, true), .op (.bin .eql) [.tmp 74, .const (.int .i64 0)]⟩, ⟨some 76, none, .op .pick [.tmp 73, .tmp 75, .const (.bool false)]⟩, ⟨some 77, none, .op .mv [.tmp 76]⟩, ⟨some 78, some (77, true), .op (.ldn 20) [.tmp 15]⟩, ⟨some 79, some (77, true), .op (.ldn 20) [.tmp 4]⟩, ⟨some 80, some (77, true), .fl (.binOp .eql 24 (.tmp 78) (.tmp 79) 24) 4⟩, ⟨some 81, none, .op .pick [.tmp 77, .tmp 80, .const (.bool false)]⟩, ⟨some 6, none, .op .mv [.tmp 81]⟩]) (.ret)))))))))⟩
theorem c5 : compF Go.Proofs.Tryd.prog Go.Proofs.Tryd.f5 = some ir5 := by kernel_rfl
/-- spinnaker/spinnakerlaw4.TextOrders -/
def ir6 : FI :=
  ⟨146, [.tmp 6], .seq (.reg [⟨some 6, none, .op .mv [.const (.bool false)]⟩]) (.seq (.reg [⟨some 22, none, .op (.bsl 9 1 4 #[(.string ⟨#[]⟩), (.string ⟨#[]⟩), (.string ⟨#[]⟩), (.string ⟨#[]⟩)] [0, 1, 2, 3]) [.const (.string ⟨#[116, 97, 114, 103, 101, 116, 58, 32, 50, 48]⟩), .const (.string ⟨#[109, 105, 110, 58, 32, 49]⟩), .const (.string ⟨#[98, 117, 114, 115, 116, 58, 32, 45, 49]⟩), .const (.string ⟨#[103, 114, 97, 99, 101, 58, 32, 55]⟩)]⟩, ⟨some 7, none, .op .mv [.tmp 22]⟩]) (.seq (.reg [⟨some 23, none, .op .mv [.tmp 0]⟩, ⟨some 24, none, .op (.cvt .u64) [.tmp 23]⟩, ⟨some 8, none, .op .mv [.tmp 24]⟩]) (.seq (.reg [⟨some 9, none, .op .mv [.const (.slice none 0 0)]⟩]) (.seq (.block 0 (.loop (.seq (.seq (.reg [⟨some 25, none, .op .mv [.tmp 7]⟩, ⟨some 26, none, .op .len [.tmp 25]⟩, ⟨some 27, none, .op (.bin .gtr) [.tmp 26, .const (.int .i64 0)]⟩]) (.cond (.tmp 27) (.skip) (.exit 0))) (.block 1 (.seq (.reg [⟨some 28, none, .op .mv [.tmp 8]⟩, ⟨some 29, none, .op .mv [.tmp 7]⟩, ⟨some 30, none, .op .len [.tmp 29]⟩, ⟨some 31, none, .op (.cvt .u64) [.tmp 30]⟩, ⟨some 32, none, .op (.bin .rem) [.tmp 28, .tmp 31]⟩, ⟨some 33, none, .op (.cvt .i64) [.tmp 32]⟩, ⟨some 10, none, .op .mv [.tmp 33]⟩]) (.seq (.reg [⟨some 34, none, .op .mv [.tmp 8]⟩, ⟨some 35, none, .op .mv [.tmp 7]⟩, ⟨some 36, none, .op .len [.tmp 35]⟩, ⟨some 37, none, .op (.cvt .u64) [.tmp 36]⟩, ⟨some 38, none, .op (.bin .quo) [.tmp 34, .tmp 37]⟩, ⟨some 8, none, .op .mv [.tmp 38]⟩]) (.seq (.reg [⟨some 39, none, .op .mv [.tmp 9]⟩, ⟨some 40, none, .op .mv [.tmp 7]⟩, ⟨some 41, none, .op .mv [.tmp 10]⟩, ⟨some 42, none, .op (.iad 1) [.tmp 40, .tmp 41]⟩, ⟨some 43, none, .op .ld1 [.tmp 42]⟩, ⟨some 44, none, .op (.bsl 9 1 1 #[(.string ⟨#[]⟩)] [0]) [.tmp 43]⟩, ⟨some 45, none, .op (.app 9 1 16) [.tmp 39, .tmp 44]⟩, ⟨some 9, none, .op .mv [.tmp 45]⟩]) (.drw [⟨0, ⟨some 46, none, .op .mv [.tmp 7]⟩, false, []⟩, ⟨1, ⟨some 47, none, .op .mv [.tmp 10]⟩, false, []⟩, ⟨2, ⟨some 48, none, .op .mv [.tmp 10]⟩, false, []⟩, ⟨3, ⟨some 49, none, .op (.slc 1 false true true) [.tmp 46, .tmp 47, .tmp 48]⟩, false, []⟩, ⟨4, ⟨some 50, none, .op .mv [.tmp 7]⟩, false, []⟩, ⟨5, ⟨some 51, none, .op .mv [.tmp 10]⟩, false, []⟩, ⟨6, ⟨some 52, none, .op (.bin .add) [.tmp 51, .const (.int .i64 1)]⟩, false, []⟩, ⟨7, ⟨some 53, none, .op (.slc 1 true false false) [.tmp 50, .tmp 52]⟩, false, []⟩, ⟨8, ⟨some 54, none, .op (.app 9 1 16) [.tmp 49, .tmp 53]⟩, true, []⟩, ⟨9, ⟨some 7, none, .op .mv [.tmp 54]⟩, true, []⟩])))))))) (.seq (.reg [⟨some 55, none, .op (.bsl 9 1 8 #[(.string ⟨#[]⟩), (.string ⟨#[]⟩), (.string ⟨#[]⟩), (.string ⟨#[]⟩), (.string ⟨#[]⟩), (.string ⟨#[]⟩), (.string ⟨#[]⟩), (.string ⟨#[]⟩)] [0, 1, 2, 3, 4, 5, 6, 7]) [.const (.string ⟨#[120]⟩), .const (.string ⟨#[109, 105, 110, 58, 49]⟩), .const (.string ⟨#[109, 105, 110, 58, 32, 45, 49]⟩), .const (.string ⟨#[116, 97, 114, 103, 101, 116, 58, 32, 49, 46, 50, 51, 52, 53]⟩), .const (.string ⟨#[116, 97, 114, 103, 101, 116, 115, 58, 32, 53]⟩), .const (.string ⟨#[109, 105, 110, 58, 32, 49, 32, 50]⟩), .const (.string ⟨#[103, 114, 97, 99, 101, 58, 32, 49, 46, 53]⟩), .const (.string ⟨#[98, 117, 114, 115, 116, 58, 32, 32, 53]⟩)]⟩, ⟨some 56, none, .op .mv [.tmp 2]⟩, ⟨some 57, none, .op (.cvt .u64) [.tmp 56]⟩, ⟨some 58, none, .op (.bin .rem) [.tmp 57, .const (.int .u64 8)]⟩, ⟨some 59, none, .op (.iad 1) [.tmp 55, .tmp 58]⟩, ⟨some 60, none, .op .ld1 [.tmp 59]⟩, ⟨some 11, none, .op .mv [.tmp 60]⟩]) (.seq (.reg [⟨some 61, none, .op .mv [.tmp 1]⟩, ⟨some 62, none, .op (.cvt .u64) [.tmp 61]⟩, ⟨some 63, none, .op (.bin .rem) [.tmp 62, .const (.int .u64 5)]⟩, ⟨some 64, none, .op (.cvt .i64) [.tmp 63]⟩, ⟨some 12, none, .op .mv [.tmp 64]⟩]) (.seq (.reg [⟨some 13, none, .op .mv [.const (.string ⟨#[]⟩)]⟩, ⟨some 14, none, .op .mv [.const (.string ⟨#[]⟩)]⟩]) (.seq (.seq (.reg [⟨some 15, none, .op .mv [.const (.int .i64 0)]⟩]) (.block 2 (.loop (.seq (.seq (.reg [⟨some 65, none, .op .mv [.tmp 15]⟩, ⟨some 66, none, .op (.bin .lss) [.tmp 65, .const (.int .i64 5)]⟩]) (.cond (.tmp 66) (.skip) (.exit 2))) (.seq (.block 3 (.seq (.seq (.reg [⟨some 69, none, .op .mv [.tmp 15]⟩, ⟨some 70, none, .op .mv [.tmp 12]⟩, ⟨some 71, none, .op (.bin .eql) [.tmp 69, .tmp 70]⟩]) (.cond (.tmp 71) (.reg [⟨some 72, none, .op .mv [.tmp 14]⟩, ⟨some 73, none, .op .mv [.tmp 11]⟩, ⟨some 74, none, .op (.bin .add) [.tmp 72, .tmp 73]⟩, ⟨some 75, none, .op (.bin .add) [.tmp 74, .const (.string ⟨#[10]⟩)]⟩, ⟨some 14, none, .op .mv [.tmp 75]⟩]) (.skip))) (.seq (.reg [⟨some 76, none, .op .mv [.tmp 15]⟩, ⟨some 77, none, .op (.bin .lss) [.tmp 76, .const (.int .i64 4)]⟩]) (.cond (.tmp 77) (.drw [⟨0, ⟨some 78, none, .op .mv [.tmp 13]⟩, false, []⟩, ⟨1, ⟨some 79, none, .op .mv [.tmp 9]⟩, false, []⟩, ⟨2, ⟨some 80, none, .op .mv [.tmp 15]⟩, false, []⟩, ⟨3, ⟨some 81, none, .op (.iad 1) [.tmp 79, .tmp 80]⟩, false, []⟩, ⟨4, ⟨some 82, none, .op .ld1 [.tmp 81]⟩, false, []⟩, ⟨5, ⟨some 83, none, .op (.bin .add) [.tmp 78, .tmp 82]⟩, false, []⟩, ⟨6, ⟨some 84, none, .op (.bin .add) [.tmp 83, .const (.string ⟨#[10]⟩)]⟩, false, []⟩, ⟨7, ⟨some 85, none, .op .mv [.tmp 14]⟩, false, []⟩, ⟨8, ⟨some 86, none, .op .mv [.tmp 9]⟩, false, []⟩, ⟨9, ⟨some 87, none, .op .mv [.tmp 15]⟩, false, []⟩, ⟨10, ⟨some 88, none, .op (.iad 1) [.tmp 86, .tmp 87]⟩, false, []⟩, ⟨11, ⟨some 89, none, .op .ld1 [.tmp 88]⟩, false, []⟩, ⟨12, ⟨some 90, none, .op (.bin .add) [.tmp 85, .tmp 89]⟩, false, []⟩, ⟨13, ⟨some 91, none, .op (.bin .add) [.tmp 90, .const (.string ⟨#[10]⟩)]⟩, false, []⟩, ⟨14, ⟨some 13, none, .op .mv [.tmp 84]⟩, true, []⟩, ⟨15, ⟨some 14, none, .op .mv [.tmp 91]⟩, true, []⟩]) (.skip))))) (.reg [⟨some 67, none, .op .mv [.tmp 15]⟩, ⟨some 68, none, .op (.bin .add) [.tmp 67, .const (.int .i64 1)]⟩, ⟨some 15, none, .op .mv [.tmp 68]⟩])))))) (.seq (.reg [⟨some 93, none, .call 9 []⟩, ⟨some 94, none, .op .mv [.tmp 13]⟩, ⟨some 95, none, .call 10 [.tmp 93, .tmp 94]⟩, ⟨some 92, none, .op .mv [.tmp 95]⟩, ⟨some 96, none, .op (.ext 0) [.tmp 92]⟩, ⟨some 97, none, .op (.ext 1) [.tmp 92]⟩, ⟨some 98, none, .op (.ext 2) [.tmp 92]⟩, ⟨some 16, none, .op (.new 24 (.agg #[(.int .i64 0), (.int .i64 0), (.int .i64 0), (.int .i64 0), (.int .i64 0), (.int .i64 0), (.int .i64 0), (.int .i64 0), (.int .i64 0), (.int .i64 0), (.int .i64 0), (.int .i64 0), (.int .i64 0), (.int .i64 0), (.int .i64 0), (.int .i64 0), (.int .i64 0), (.int .i64 0), (.int .i64 0), (.int .i64 0)])) []⟩, ⟨none, none, .op (.st 20) [.tmp 16, .tmp 96]⟩, ⟨some 17, none, .op .mv [.tmp 97]⟩, ⟨some 18, none, .op .mv [.tmp 98]⟩]) (.seq (.reg [⟨some 100, none, .call 9 []⟩, ⟨some 101, none, .op .mv [.tmp 14]⟩, ⟨some 102, none, .call 10 [.tmp 100, .tmp 101]⟩, ⟨some 99, none, .op .mv [.tmp 102]⟩, ⟨some 103, none, .op (.ext 0) [.tmp 99]⟩, ⟨some 104, none, .op (.ext 1) [.tmp 99]⟩, ⟨some 105, none, .op (.ext 2) [.tmp 99]⟩, ⟨some 19, none, .op (.new 24 (.agg #[(.int .i64 0), (.int .i64 0), (.int .i64 0), (.int .i64 0), (.int .i64 0), (.int .i64 0), (.int .i64 0), (.int .i64 0), (.int .i64 0), (.int .i64 0), (.int .i64 0), (.int .i64 0), (.int .i64 0), (.int .i64 0), (.int .i64 0), (.int .i64 0), (.int .i64 0), (.int .i64 0), (.int .i64 0), (.int .i64 0)])) []⟩, ⟨none, none, .op (.st 20) [.tmp 19, .tmp 103]⟩, ⟨some 20, none, .op .mv [.tmp 104]⟩, ⟨some 21, none, .op .mv [.tmp 105]⟩]) (.seq (.drw [⟨0, ⟨some 106, none, .call 11 []⟩, true, []⟩, ⟨1, ⟨some 107, none, .op .mv [.tmp 106]⟩, false, []⟩, ⟨2, ⟨some 108, some (107, true), .op .mv [.tmp 17]⟩, false, []⟩, ⟨3, ⟨some 109, some (107, true), .op (.bin .eql) [.tmp 108, .const (.int .i64 0)]⟩, false, []⟩, ⟨4, ⟨some 110, none, .op .pick [.tmp 107, .tmp 109, .const (.bool false)]⟩, false, []⟩, ⟨5, ⟨some 111, none, .op .mv [.tmp 110]⟩, false, []⟩, ⟨6, ⟨some 112, some (111, true), .op (.fad 0) [.tmp 16]⟩, false, []⟩, ⟨7, ⟨some 113, some (111, true), .op .ld1 [.tmp 112]⟩, false, []⟩, ⟨8, ⟨some 114, some (111, true), .op (.bin .eql) [.tmp 113, .const (.int .i64 20000)]⟩, false, []⟩, ⟨9, ⟨some 115, none, .op .pick [.tmp 111, .tmp 114, .const (.bool false)]⟩, false, []⟩, ⟨10, ⟨some 116, none, .op .mv [.tmp 115]⟩, false, []⟩, ⟨11, ⟨some 117, some (116, true), .op (.fad 8) [.tmp 16]⟩, false, []⟩, ⟨12, ⟨some 118, some (116, true), .op .ld1 [.tmp 117]⟩, false, []⟩, ⟨13, ⟨some 119, some (116, true), .op (.bin .eql) [.tmp 118, .const (.int .i64 1)]⟩, false, []⟩, ⟨14, ⟨some 120, none, .op .pick [.tmp 116, .tmp 119, .const (.bool false)]⟩, false, []⟩, ⟨15, ⟨some 121, none, .op .mv [.tmp 120]⟩, false, []⟩, ⟨16, ⟨some 122, some (121, true), .op (.fad 13) [.tmp 16]⟩, false, []⟩, ⟨17, ⟨some 123, some (121, true), .op .ld1 [.tmp 122]⟩, false, []⟩, ⟨18, ⟨some 124, some (121, true), .op (.bin .eql) [.tmp 123, .const (.int .i64 (-1000))]⟩, false, []⟩, ⟨19, ⟨some 125, none, .op .pick [.tmp 121, .tmp 124, .const (.bool false)]⟩, false, []⟩, ⟨20, ⟨some 126, none, .op .mv [.tmp 125]⟩, false, []⟩, ⟨21, ⟨some 127, some (126, true), .op (.fad 11) [.tmp 16]⟩, false, []⟩, ⟨22, ⟨some 128, some (126, true), .op .ld1 [.tmp 127]⟩, false, []⟩, ⟨23, ⟨some 129, some (126, true), .op (.bin .eql) [.tmp 128, .const (.int .i64 7)]⟩, false, []⟩, ⟨24, ⟨some 130, none, .op .pick [.tmp 126, .tmp 129, .const (.bool false)]⟩, false, []⟩, ⟨25, ⟨some 131, none, .op .mv [.tmp 130]⟩, false, []⟩, ⟨26, ⟨some 132, some (131, true), .op .mv [.tmp 20]⟩, false, []⟩, ⟨27, ⟨some 133, some (131, true), .op (.bin .eql) [.tmp 132, .const (.int .i64 4)]⟩, false, []⟩, ⟨28, ⟨some 134, none, .op .pick [.tmp 131, .tmp 133, .const (.bool false)]⟩, false, []⟩, ⟨29, ⟨some 135, none, .op .mv [.tmp 134]⟩, false, []⟩, ⟨30, ⟨some 136, some (135, true), .op .mv [.tmp 21]⟩, false, []⟩, ⟨31, ⟨some 137, some (135, true), .op .mv [.tmp 12]⟩, false, []⟩, ⟨32, ⟨some 138, some (135, true), .op (.bin .add) [.tmp 137, .const (.int .i64 1)]⟩, false, []⟩, ⟨33, ⟨some 139, some (135, true), .op (.bin .eql) [.tmp 136, .tmp 138]⟩, false, []⟩, ⟨34, ⟨some 140, none, .op .pick [.tmp 135, .tmp 139, .const (.bool false)]⟩, false, []⟩, ⟨35, ⟨some 141, none, .op .mv [.tmp 140]⟩, false, []⟩, ⟨36, ⟨some 142, some (141, true), .op (.ldn 20) [.tmp 19]⟩, false, []⟩, ⟨37, ⟨some 143, some (141, true), .call 9 []⟩, true, [⟨some 142, some (141, true), .op (.ldn 20) [.tmp 19]⟩]⟩, ⟨38, ⟨some 144, some (141, true), .fl (.binOp .eql 24 (.tmp 142) (.tmp 143) 24) 4⟩, false, []⟩, ⟨39, ⟨some 145, none, .op .pick [.tmp 141, .tmp 144, .const (.bool false)]⟩, false, []⟩, ⟨40, ⟨some 6, none, .op .mv [.tmp 145]⟩, false, []⟩]) (.ret))))))))))))⟩
theorem c6 : compF Go.Proofs.Tryd.prog Go.Proofs.Tryd.f6 = some ir6 := by kernel_rfl
/-- spinnaker/spinnakerref1.Default -/
def ir9 : FI :=
  ⟨2, [.cell 0 24], .seq (.reg [⟨some 0, none, .op (.new 24 (.agg #[(.int .i64 0), (.int .i64 0), (.int .i64 0), (.int .i64 0), (.int .i64 0), (.int .i64 0), (.int .i64 0), (.int .i64 0), (.int .i64 0), (.int .i64 0), (.int .i64 0), (.int .i64 0), (.int .i64 0), (.int .i64 0), (.int .i64 0), (.int .i64 0), (.int .i64 0), (.int .i64 0), (.int .i64 0), (.int .i64 0)])) []⟩]) (.seq (.reg [⟨some 1, none, .op (.bld #[(.int .i64 0), (.int .i64 0), (.int .i64 0), (.int .i64 0), (.int .i64 0), (.int .i64 0), (.int .i64 0), (.int .i64 0), (.int .i64 0), (.int .i64 0), (.int .i64 0), (.int .i64 0), (.int .i64 0), (.int .i64 0), (.int .i64 0), (.int .i64 0), (.int .i64 0), (.int .i64 0), (.int .i64 0), (.int .i64 0)] [(0, 1), (1, 1), (2, 1), (3, 1), (4, 1), (5, 1), (6, 1), (7, 1), (8, 1), (9, 1), (10, 1), (11, 1), (12, 1), (13, 1), (14, 1), (15, 1), (16, 1), (17, 1), (18, 1), (19, 1)] [0, 1, 2, 3, 4, 5, 6, 7, 10, 11, 13, 14, 15, 16, 17]) [.const (.int .i64 10000), .const (.int .i64 700), .const (.int .i64 60), .const (.int .i64 6), .const (.int .i64 1), .const (.int .i64 2000), .const (.int .i64 10000), .const (.int .i64 2000), .const (.int .i64 1), .const (.int .i64 30), .const (.int .i64 20000), .const (.int .i64 10), .const (.int .i64 100), .const (.int .i64 60), .const (.int .i64 3)]⟩, ⟨none, none, .op (.st 20) [.tmp 0, .tmp 1]⟩]) (.ret))⟩
theorem c9 : compF Go.Proofs.Tryd.prog Go.Proofs.Tryd.f9 = some ir9 := by kernel_rfl
/-- spinnaker/text.Parse -/
def ir10 : FI :=
  ⟨75, [.cell 4 24, .tmp 5, .tmp 6], .seq (.reg [⟨some 2, none, .op (.box 24) [.tmp 0]⟩, ⟨some 4, none, .op (.new 24 (.agg #[(.int .i64 0), (.int .i64 0), (.int .i64 0), (.int .i64 0), (.int .i64 0), (.int .i64 0), (.int .i64 0), (.int .i64 0), (.int .i64 0), (.int .i64 0), (.int .i64 0), (.int .i64 0), (.int .i64 0), (.int .i64 0), (.int .i64 0), (.int .i64 0), (.int .i64 0), (.int .i64 0), (.int .i64 0), (.int .i64 0)])) []⟩, ⟨some 5, none, .op .mv [.const (.int .i64 0)]⟩, ⟨some 6, none, .op .mv [.const (.int .i64 0)]⟩]) (.seq (.reg [⟨some 17, none, .op (.ldn 20) [.tmp 2]⟩, ⟨some 18, none, .op .mkm []⟩, ⟨some 7, none, .op (.new 24 (.agg #[(.int .i64 0), (.int .i64 0), (.int .i64 0), (.int .i64 0), (.int .i64 0), (.int .i64 0), (.int .i64 0), (.int .i64 0), (.int .i64 0), (.int .i64 0), (.int .i64 0), (.int .i64 0), (.int .i64 0), (.int .i64 0), (.int .i64 0), (.int .i64 0), (.int .i64 0), (.int .i64 0), (.int .i64 0), (.int .i64 0)])) []⟩, ⟨none, none, .op (.st 20) [.tmp 7, .tmp 17]⟩, ⟨some 8, none, .op .mv [.tmp 18]⟩]) (.seq (.seq (.reg [⟨some 19, none, .op .mv [.tmp 1]⟩, ⟨some 20, none, .call 22 [.tmp 19, .const (.string ⟨#[10]⟩)]⟩, ⟨some 21, none, .op .len [.tmp 20]⟩, ⟨some 22, none, .op .mv [.const (.int .i64 0)]⟩]) (.block 0 (.loop (.seq (.reg [⟨some 23, none, .op (.bin .lss) [.tmp 22, .tmp 21]⟩]) (.seq (.cond (.tmp 23) (.skip) (.exit 0)) (.seq (.block 1 (.seq (.reg [⟨some 24, none, .op .mv [.tmp 22]⟩, ⟨some 25, none, .op (.iad 1) [.tmp 20, .tmp 22]⟩, ⟨some 26, none, .op .ld1 [.tmp 25]⟩, ⟨some 9, none, .op .mv [.tmp 24]⟩, ⟨some 10, none, .op .mv [.tmp 26]⟩]) (.seq (.reg [⟨some 27, none, .op .mv [.tmp 10]⟩, ⟨some 28, none, .call 23 [.tmp 27, .const (.string ⟨#[32]⟩)]⟩, ⟨some 10, none, .op .mv [.tmp 28]⟩]) (.seq (.seq (.reg [⟨some 29, none, .op .mv [.tmp 10]⟩, ⟨some 30, none, .op (.bin .eql) [.tmp 29, .const (.string ⟨#[]⟩)]⟩, ⟨some 31, none, .op .mv [.tmp 30]⟩, ⟨some 32, some (31, false), .op .mv [.tmp 10]⟩, ⟨some 33, some (31, false), .op .ixs [.tmp 32, .const (.int .i64 0)]⟩, ⟨some 34, some (31, false), .op (.bin .eql) [.tmp 33, .const (.int .u8 35)]⟩, ⟨some 35, none, .op .pick [.tmp 31, .const (.bool true), .tmp 34]⟩]) (.cond (.tmp 35) (.exit 1) (.skip))) (.seq (.reg [⟨some 37, none, .op .mv [.tmp 10]⟩, ⟨some 38, none, .call 24 [.tmp 37, .const (.string ⟨#[58, 32]⟩)]⟩, ⟨some 36, none, .op .mv [.tmp 38]⟩, ⟨some 39, none, .op (.ext 0) [.tmp 36]⟩, ⟨some 40, none, .op (.ext 1) [.tmp 36]⟩, ⟨some 41, none, .op (.ext 2) [.tmp 36]⟩, ⟨some 11, none, .op .mv [.tmp 39]⟩, ⟨some 12, none, .op .mv [.tmp 40]⟩, ⟨some 13, none, .op .mv [.tmp 41]⟩]) (.seq (.reg [⟨some 14, none, .op .mv [.const (.bool false)]⟩]) (.seq (.seq (.reg [⟨some 42, none, .call 25 [.tmp 7]⟩, ⟨some 43, none, .op .len [.tmp 42]⟩, ⟨some 44, none, .op .mv [.const (.int .i64 0)]⟩]) (.block 2 (.loop (.seq (.reg [⟨some 45, none, .op (.bin .lss) [.tmp 44, .tmp 43]⟩]) (.seq (.cond (.tmp 45) (.skip) (.exit 2)) (.seq (.block 3 (.seq (.reg [⟨some 46, none, .op (.iad 2) [.tmp 42, .tmp 44]⟩, ⟨some 47, none, .op (.ldn 2) [.tmp 46]⟩, ⟨some 16, none, .op (.new 51 (.agg #[(.string ⟨#[]⟩), .nilIface])) []⟩, ⟨none, none, .op (.st 2) [.tmp 16, .tmp 47]⟩]) (.seq (.reg [⟨some 48, none, .op (.fad 0) [.tmp 16]⟩, ⟨some 49, none, .op .ld1 [.tmp 48]⟩, ⟨some 50, none, .op .mv [.tmp 11]⟩, ⟨some 51, none, .op (.bin .eql) [.tmp 49, .tmp 50]⟩, ⟨some 52, none, .op .mv [.tmp 51]⟩, ⟨some 53, some (52, true), .op .mv [.tmp 8]⟩, ⟨some 54, some (52, true), .op .mv [.tmp 11]⟩, ⟨some 55, some (52, true), .op (.mlk (.bool false) false) [.tmp 53, .tmp 54]⟩, ⟨some 56, some (52, true), .op .not [.tmp 55]⟩, ⟨some 57, none, .op .pick [.tmp 52, .tmp 56, .const (.bool false)]⟩]) (.cond (.tmp 57) (.reg [⟨some 58, none, .op (.ldn 2) [.tmp 16]⟩, ⟨some 59, none, .op .mv [.tmp 12]⟩, ⟨some 60, none, .call 26 [.tmp 58, .tmp 59]⟩, ⟨some 14, none, .op .mv [.tmp 60]⟩]) (.skip))))) (.reg [⟨some 61, none, .op (.bin .add) [.tmp 44, .const (.int .i64 1)]⟩, ⟨some 44, none, .op .mv [.tmp 61]⟩]))))))) (.seq (.reg [⟨some 62, none, .op .mv [.tmp 8]⟩, ⟨some 63, none, .op .mv [.tmp 11]⟩, ⟨none, none, .op .mup [.tmp 62, .tmp 63, .const (.bool true)]⟩]) (.seq (.reg [⟨some 64, none, .op .mv [.tmp 14]⟩, ⟨some 65, none, .op .not [.tmp 64]⟩]) (.cond (.tmp 65) (.seq (.reg [⟨some 66, none, .op (.ldn 20) [.tmp 2]⟩, ⟨some 67, none, .op .mv [.tmp 9]⟩, ⟨some 68, none, .op (.bin .add) [.tmp 67, .const (.int .i64 1)]⟩, ⟨none, none, .op (.st 20) [.tmp 4, .tmp 66]⟩, ⟨some 5, none, .op .mv [.const (.int .i64 4)]⟩, ⟨some 6, none, .op .mv [.tmp 68]⟩]) (.ret)) (.skip))))))))))) (.reg [⟨some 69, none, .op (.bin .add) [.tmp 22, .const (.int .i64 1)]⟩, ⟨some 22, none, .op .mv [.tmp 69]⟩]))))))) (.seq (.seq (.reg [⟨some 70, none, .op (.ldn 20) [.tmp 7]⟩, ⟨some 71, none, .call 27 [.tmp 70]⟩, ⟨some 72, none, .op .not [.tmp 71]⟩]) (.cond (.tmp 72) (.seq (.reg [⟨some 73, none, .op (.ldn 20) [.tmp 2]⟩, ⟨none, none, .op (.st 20) [.tmp 4, .tmp 73]⟩, ⟨some 5, none, .op .mv [.const (.int .i64 5)]⟩, ⟨some 6, none, .op .mv [.const (.int .i64 0)]⟩]) (.ret)) (.skip))) (.seq (.reg [⟨some 74, none, .op (.ldn 20) [.tmp 7]⟩, ⟨none, none, .op (.st 20) [.tmp 4, .tmp 74]⟩, ⟨some 5, none, .op .mv [.const (.int .i64 0)]⟩, ⟨some 6, none, .op .mv [.const (.int .i64 0)]⟩]) (.ret)))))⟩
theorem c10 : compF Go.Proofs.Tryd.prog Go.Proofs.Tryd.f10 = some ir10 := by kernel_rfl
/-- spinnaker/spinnakerlaw4.told -/
def ir11 : FI :=
  ⟨182, [.tmp 0], .seq (.reg [⟨some 0, none, .op .mv [.const (.bool false)]⟩]) (.seq (.reg [⟨some 28, none, .call 12 [.const (.string ⟨#[45, 49, 46, 48, 53]⟩)]⟩, ⟨some 27, none, .op .mv [.tmp 28]⟩, ⟨some 29, none, .op (.ext 0) [.tmp 27]⟩, ⟨some 30, none, .op (.ext 1) [.tmp 27]⟩, ⟨some 1, none, .op .mv [.tmp 29]⟩, ⟨some 2, none, .op .mv [.tmp 30]⟩]) (.seq (.reg [⟨some 32, none, .call 12 [.const (.string ⟨#[49, 46]⟩)]⟩, ⟨some 31, none, .op .mv [.tmp 32]⟩, ⟨some 33, none, .op (.ext 0) [.tmp 31]⟩, ⟨some 34, none, .op (.ext 1) [.tmp 31]⟩, ⟨some 3, none, .op .mv [.tmp 33]⟩, ⟨some 4, none, .op .mv [.tmp 34]⟩]) (.seq (.reg [⟨some 36, none, .call 9 []⟩, ⟨some 37, none, .call 10 [.tmp 36, .const (.string ⟨#[35, 32, 120, 10, 32, 32, 116, 97, 114, 103, 101, 116, 58, 32, 53, 46, 53, 32, 10, 10, 109, 105, 110, 58, 32, 50]⟩)]⟩, ⟨some 35, none, .op .mv [.tmp 37]⟩, ⟨some 38, none, .op (.ext 0) [.tmp 35]⟩, ⟨some 39, none, .op (.ext 1) [.tmp 35]⟩, ⟨some 40, none, .op (.ext 2) [.tmp 35]⟩, ⟨some 5, none, .op (.new 24 (.agg #[(.int .i64 0), (.int .i64 0), (.int .i64 0), (.int .i64 0), (.int .i64 0), (.int .i64 0), (.int .i64 0), (.int .i64 0), (.int .i64 0), (.int .i64 0), (.int .i64 0), (.int .i64 0), (.int .i64 0), (.int .i64 0), (.int .i64 0), (.int .i64 0), (.int .i64 0), (.int .i64 0), (.int .i64 0), (.int .i64 0)])) []⟩, ⟨none, none, .op (.st 20) [.tmp 5, .tmp 38]⟩, ⟨some 6, none, .op .mv [.tmp 39]⟩, ⟨some 7, none, .op .mv [.tmp 40]⟩]) (.seq (.reg [⟨some 42, none, .op (.ldn 20) [.tmp 5]⟩, ⟨some 43, none, .call 10 [.tmp 42, .const (.string ⟨#[109, 105, 110, 58, 32, 50, 10, 109, 105, 110, 58, 32, 51]⟩)]⟩, ⟨some 41, none, .op .mv [.tmp 43]⟩, ⟨some 44, none, .op (.ext 0) [.tmp 41]⟩, ⟨some 45, none, .op (.ext 1) [.tmp 41]⟩, ⟨some 46, none, .op (.ext 2) [.tmp 41]⟩, ⟨some 8, none, .op (.new 24 (.agg #[(.int .i64 0), (.int .i64 0), (.int .i64 0), (.int .i64 0), (.int .i64 0), (.int .i64 0), (.int .i64 0), (.int .i64 0), (.int .i64 0), (.int .i64 0), (.int .i64 0), (.int .i64 0), (.int .i64 0), (.int .i64 0), (.int .i64 0), (.int .i64 0), (.int .i64 0), (.int .i64 0), (.int .i64 0), (.int .i64 0)])) []⟩, ⟨none, none, .op (.st 20) [.tmp 8, .tmp 44]⟩, ⟨some 9, none, .op .mv [.tmp 45]⟩, ⟨some 10, none, .op .mv [.tmp 46]⟩]) (.seq (.reg [⟨some 48, none, .op (.ldn 20) [.tmp 5]⟩, ⟨some 49, none, .call 10 [.tmp 48, .const (.string ⟨#[117, 112, 58, 32, 48, 46, 53]⟩)]⟩, ⟨some 47, none, .op .mv [.tmp 49]⟩, ⟨some 50, none, .op (.ext 0) [.tmp 47]⟩, ⟨some 51, none, .op (.ext 1) [.tmp 47]⟩, ⟨some 52, none, .op (.ext 2) [.tmp 47]⟩, ⟨some 11, none, .op (.new 24 (.agg #[(.int .i64 0), (.int .i64 0), (.int .i64 0), (.int .i64 0), (.int .i64 0), (.int .i64 0), (.int .i64 0), (.int .i64 0), (.int .i64 0), (.int .i64 0), (.int .i64 0), (.int .i64 0), (.int .i64 0), (.int .i64 0), (.int .i64 0), (.int .i64 0), (.int .i64 0), (.int .i64 0), (.int .i64 0), (.int .i64 0)])) []⟩, ⟨none, none, .op (.st 20) [.tmp 11, .tmp 50]⟩, ⟨some 12, none, .op .mv [.tmp 51]⟩, ⟨some 13, none, .op .mv [.tmp 52]⟩]) (.seq (.reg [⟨some 54, none, .op (.ldn 20) [.tmp 5]⟩, ⟨some 55, none, .call 15 [.tmp 54]⟩, ⟨some 53, none, .op .mv [.tmp 55]⟩, ⟨some 56, none, .op (.ext 0) [.tmp 53]⟩, ⟨some 57, none, .op (.ext 1) [.tmp 53]⟩, ⟨some 14, none, .op .mv [.tmp 56]⟩, ⟨some 15, none, .op .mv [.tmp 57]⟩]) (.seq (.reg [⟨some 59, none, .call 12 [.const (.string ⟨#[49, 50, 51, 52, 53, 54, 55, 56, 57, 48]⟩)]⟩, ⟨some 58, none, .op .mv [.tmp 59]⟩, ⟨some 60, none, .op (.ext 0) [.tmp 58]⟩, ⟨some 61, none, .op (.ext 1) [.tmp 58]⟩, ⟨some 16, none, .op .mv [.tmp 60]⟩, ⟨some 17, none, .op .mv [.tmp 61]⟩]) (.seq (.reg [⟨some 63, none, .op (.ldn 20) [.tmp 5]⟩, ⟨some 64, none, .call 10 [.tmp 63, .const (.string ⟨#[103, 114, 97, 99, 101, 58, 32, 48, 48, 48, 48, 48, 48, 55]⟩)]⟩, ⟨some 62, none, .op .mv [.tmp 64]⟩, ⟨some 65, none, .op (.ext 0) [.tmp 62]⟩, ⟨some 66, none, .op (.ext 1) [.tmp 62]⟩, ⟨some 67, none, .op (.ext 2) [.tmp 62]⟩, ⟨some 18, none, .op (.new 24 (.agg #[(.int .i64 0), (.int .i64 0), (.int .i64 0), (.int .i64 0), (.int .i64 0), (.int .i64 0), (.int .i64 0), (.int .i64 0), (.int .i64 0), (.int .i64 0), (.int .i64 0), (.int .i64 0), (.int .i64 0), (.int .i64 0), (.int .i64 0), (.int .i64 0), (.int .i64 0), (.int .i64 0), (.int .i64 0), (.int .i64 0)])) []⟩, ⟨none, none, .op (.st 20) [.tmp 18, .tmp 65]⟩, ⟨some 19, none, .op .mv [.tmp 66]⟩, ⟨some 20, none, .op .mv [.tmp 67]⟩]) (.seq (.reg [⟨some 69, none, .op (.ldn 20) [.tmp 5]⟩, ⟨some 70, none, .call 10 [.tmp 69, .const (.string ⟨#[9, 109, 105, 110, 58, 32, 50]⟩)]⟩, ⟨some 68, none, .op .mv [.tmp 70]⟩, ⟨some 71, none, .op (.ext 0) [.tmp 68]⟩, ⟨some 72, none, .op (.ext 1) [.tmp 68]⟩, ⟨some 73, none, .op (.ext 2) [.tmp 68]⟩, ⟨some 21, none, .op (.new 24 (.agg #[(.int .i64 0), (.int .i64 0), (.int .i64 0), (.int .i64 0), (.int .i64 0), (.int .i64 0), (.int .i64 0), (.int .i64 0), (.int .i64 0), (.int .i64 0), (.int .i64 0), (.int .i64 0), (.int .i64 0), (.int .i64 0), (.int .i64 0), (.int .i64 0), (.int .i64 0), (.int .i64 0), (.int .i64 0), (.int .i64 0)])) []⟩, ⟨none, none, .op (.st 20) [.tmp 21, .tmp 71]⟩, ⟨some 22, none, .op .mv [.tmp 72]⟩, ⟨some 23, none, .op .mv [.tmp 73]⟩]) (.seq (.reg [⟨some 75, none, .op (.ldn 20) [.tmp 5]⟩, ⟨some 76, none, .call 10 [.tmp 75, .const (.string ⟨#[109, 105, 110, 58, 32, 50, 32, 35, 32, 120]⟩)]⟩, ⟨some 74, none, .op .mv [.tmp 76]⟩, ⟨some 77, none, .op (.ext 0) [.tmp 74]⟩, ⟨some 78, none, .op (.ext 1) [.tmp 74]⟩, ⟨some 79, none, .op (.ext 2) [.tmp 74]⟩, ⟨some 24, none, .op (.new 24 (.agg #[(.int .i64 0), (.int .i64 0), (.int .i64 0), (.int .i64 0), (.int .i64 0), (.int .i64 0), (.int .i64 0), (.int .i64 0), (.int .i64 0), (.int .i64 0), (.int .i64 0), (.int .i64 0), (.int .i64 0), (.int .i64 0), (.int .i64 0), (.int .i64 0), (.int .i64 0), (.int .i64 0), (.int .i64 0), (.int .i64 0)])) []⟩, ⟨none, none, .op (.st 20) [.tmp 24, .tmp 77]⟩, ⟨some 25, none, .op .mv [.tmp 78]⟩, ⟨some 26, none, .op .mv [.tmp 79]⟩]) (.seq (.reg [⟨some 80, none, .op .mv [.tmp 17]⟩, ⟨some 81, none, .op .not [.tmp 80]⟩, ⟨some 82, none, .op .mv [.tmp 81]⟩, ⟨some 83, some (82, true), .op .mv [.tmp 19]⟩, ⟨some 84, some (82, true), .op (.bin .eql) [.tmp 83, .const (.int .i64 4)]⟩, ⟨some 85, none, .op .pick [.tmp 82, .tmp 84, .const (.bool false)]⟩, ⟨some 86, none, .op .mv [.tmp 85]⟩, ⟨some 87, some (86, true), .op .mv [.tmp 20]⟩, ⟨some 88, some (86, true), .op (.bin .eql) [.tmp 87, .const (.int .i64 1)]⟩, ⟨some 89, none, .op .pick [.tmp 86, .tmp 88, .const (.bool false)]⟩, ⟨some 90, none, .op .mv [.tmp 89]⟩, ⟨some 91, some (90, true), .op .mv [.tmp 22]⟩, ⟨some 92, some (90, true), .op (.bin .eql) [.tmp 91, .const (.int .i64 4)]⟩, ⟨some 93, none, .op .pick [.tmp 90, .tmp 92, .const (.bool false)]⟩, ⟨some 94, none, .op .mv [.tmp 93]⟩, ⟨some 95, some (94, true), .op .mv [.tmp 23]⟩, ⟨some 96, some (94, true), .op (.bin .eql) [.tmp 95, .const (.int .i64 1)]⟩, ⟨some 97, none, .op .pick [.tmp 94, .tmp 96, .const (.bool false)]⟩, ⟨some 98, none, .op .mv [.tmp 97]⟩, ⟨some 99, some (98, true), .op .mv [.tmp 25]⟩, ⟨some 100, some (98, true), .op (.bin .eql) [.tmp 99, .const (.int .i64 4)]⟩, ⟨some 101, none, .op .pick [.tmp 98, .tmp 100, .const (.bool false)]⟩, ⟨some 102, none, .op .mv [.tmp 101]⟩, ⟨some 103, some (102, true), .op .mv [.tmp 26]⟩, ⟨some 104, some (102, true), .op (.bin .eql) [.tmp 103, .const (.int .i64 1)]⟩, ⟨some 105, none, .op .pick [.tmp 102, .tmp 104, .const (.bool false)]⟩, ⟨some 106, none, .op .mv [.tmp 105]⟩, ⟨some 107, some (106, true), .op .mv [.tmp 1]⟩, ⟨some 108, some (106, true), .op (.bin .eql) [.tmp 107, .const (.int .i64 (-1050))]⟩, ⟨some 109, none, .op .pick [.tmp 106, .tmp 108, .const (.bool false)]⟩, ⟨some 110, none, .op .mv [.tmp 109]⟩, ⟨some 111, some (110, true), .op .mv [.tmp 2]⟩, ⟨some 112, none, .op .pick [.tmp 110, .tmp 111, .const (.bool false)]⟩, ⟨some 113, none, .op .mv [.tmp 112]⟩, ⟨some 114, some (113, true), .op .mv [.tmp 4]⟩, ⟨some 115, some (113, true), .op .not [.tmp 114]⟩, ⟨some 116, none, .op .pick [.tmp 113, .tmp 115, .const (.bool false)]⟩, ⟨some 117, none, .op .mv [.tmp 116]⟩, ⟨some 118, some (117, true), .call 17 [.const (.int .i64 1500)]⟩, ⟨some 119, some (117, true), .op (.bin .eql) [.tmp 118, .const (.string ⟨#[49, 46, 53]⟩)]⟩, ⟨some 120, none, .op .pick [.tmp 117, .tmp 119, .const (.bool false)]⟩, ⟨some 121, none, .op .mv [.tmp 120]⟩, ⟨some 122, some (121, true), .call 17 [.const (.int .i64 (-50))]⟩, ⟨some 123, some (121, true), .op (.bin .eql) [.tmp 122, .const (.string ⟨#[45, 48, 46, 48, 53]⟩)]⟩, ⟨some 124, none, .op .pick [.tmp 121, .tmp 123, .const (.bool false)]⟩, ⟨some 125, none, .op .mv [.tmp 124]⟩, ⟨some 126, some (125, true), .call 17 [.const (.int .i64 0)]⟩, ⟨some 127, some (125, true), .op (.bin .eql) [.tmp 126, .const (.string ⟨#[48]⟩)]⟩, ⟨some 128, none, .op .pick [.tmp 125, .tmp 127, .const (.bool false)]⟩, ⟨some 129, none, .op .mv [.tmp 128]⟩, ⟨some 130, some (129, true), .op .mv [.tmp 6]⟩, ⟨some 131, some (129, true), .op (.bin .eql) [.tmp 130, .const (.int .i64 0)]⟩, ⟨some 132, none, .op .pick [.tmp 129, .tmp 131, .const (.bool false)]⟩, ⟨some 133, none, .op .mv [.tmp 132]⟩, ⟨some 134, some (133, true), .op .mv [.tmp 7]⟩, ⟨some 135, some (133, true), .op (.bin .eql) [.tmp 134, .const (.int .i64 0)]⟩, ⟨some 136, none, .op .pick [.tmp 133, .tmp 135, .const (.bool false)]⟩, ⟨some 137, none, .op .mv [.tmp 136]⟩, ⟨some 138, some (137, true), .op (.fad 0) [.tmp 5]⟩, ⟨some 139, some (137, true), .op .ld1 [.tmp 138]⟩, ⟨some 140, some (137, true), .op (.bin .eql) [.tmp 139, .const (.int .i64 5500)]⟩, ⟨some 141, none, .op .pick [.tmp 137, .tmp 140, .const (.bool false)]⟩, ⟨some 142, none, .op .mv [.tmp 141]⟩, ⟨some 143, some (142, true), .op (.fad 8) [.tmp 5]⟩, ⟨some 144, some (142, true), .op .ld1 [.tmp 143]⟩, ⟨some 145, some (142, true), .op (.bin .eql) [.tmp 144, .const (.int .i64 2)]⟩, ⟨some 146, none, .op .pick [.tmp 142, .tmp 145, .const (.bool false)]⟩, ⟨some 147, none, .op .mv [.tmp 146]⟩, ⟨some 148, some (147, true), .op .mv [.tmp 9]⟩, ⟨some 149, some (147, true), .op (.bin .eql) [.tmp 148, .const (.int .i64 4)]⟩, ⟨some 150, none, .op .pick [.tmp 147, .tmp 149, .const (.bool false)]⟩, ⟨some 151, none, .op .mv [.tmp 150]⟩, ⟨some 152, some (151, true), .op .mv [.tmp 10]⟩, ⟨some 153, some (151, true), .op (.bin .eql) [.tmp 152, .const (.int .i64 2)]⟩, ⟨some 154, none, .op .pick [.tmp 151, .tmp 153, .const (.bool false)]⟩, ⟨some 155, none, .op .mv [.tmp 154]⟩, ⟨some 156, some (155, true), .op .mv [.tmp 12]⟩, ⟨some 157, some (155, true), .op (.bin .eql) [.tmp 156, .const (.int .i64 5)]⟩, ⟨some 158, none, .op .pick [.tmp 155, .tmp 157, .const (.bool false)]⟩, ⟨some 159, none, .op .mv [.tmp 158]⟩, ⟨some 160, some (159, true), .op .mv [.tmp 13]⟩, ⟨some 161, some (159, true), .op (.bin .eql) [.tmp 160, .const (.int .i64 0)]⟩, ⟨some 162, none, .op .pick [.tmp 159, .tmp 161, .const (.bool false)]⟩, ⟨some 163, none, .op .mv [.tmp 162]⟩, ⟨some 164, some (163, true), .op (.ldn 20) [.tmp 11]⟩, ⟨some 165, some (163, true), .op (.ldn 20) [.tmp 5]⟩, ⟨some 166, some (163, true), .fl (.binOp .eql 24 (.tmp 164) (.tmp 165) 24) 4⟩, ⟨some 167, none, .op .pick [.tmp 163, .tmp 166, .const (.bool false)]⟩, ⟨some 168, none, .op .mv [.tmp 167]⟩, ⟨some 169, some (168, true), .op .mv [.tmp 15]⟩, ⟨some 170, some (168, true), .op (.bin .eql) [.tmp 169, .const (.int .i64 0)]⟩, ⟨some 171, none, .op .pick [.tmp 168, .tmp 170, .const (.bool false)]⟩, ⟨some 172, none, .op .mv [.tmp 171]⟩, ⟨some 173, some (172, true), .op .mv [.tmp 14]⟩, ⟨some 174, some (172, true), .op .lens [.tmp 173]⟩, ⟨some 175, some (172, true), .op (.bin .gtr) [.tmp 174, .const (.int .i64 13)]⟩, ⟨some 176, none, .op .pick [.tmp 172, .tmp 175, .const (.bool false)]⟩, ⟨some 177, none, .op .mv [.tmp 176]⟩, ⟨some 178, some (177, true), .op .mv [.tmp 14]⟩, ⟨some 179, some (177, true), .op (.sls false true) [.tmp 178, .const (.int .i64 12)]⟩, ⟨some 180, some (177, true), .op (.bin .eql) [.tmp 179, .const (.string ⟨#[116, 97, 114, 103, 101, 116, 58, 32, 53, 46, 53, 10]⟩)]⟩, ⟨some 181, none, .op .pick [.tmp 177, .tmp 180, .const (.bool false)]⟩, ⟨some 0, none, .op .mv [.tmp 181]⟩]) (.ret))))))))))))⟩
theorem c11 : compF Go.Proofs.Tryd.prog Go.Proofs.Tryd.f11 = some ir11 := by kernel_rfl
/-- spinnaker/text.Number -/
def ir12 : FI :=
  ⟨55, [.tmp 2, .tmp 3], .seq (.reg [⟨some 2, none, .op .mv [.const (.int .i64 0)]⟩, ⟨some 3, none, .op .mv [.const (.bool false)]⟩]) (.seq (.reg [⟨some 13, none, .op .mv [.tmp 0]⟩, ⟨some 14, none, .call 28 [.tmp 13, .const (.string ⟨#[45]⟩)]⟩, ⟨some 12, none, .op .mv [.tmp 14]⟩, ⟨some 15, none, .op (.ext 0) [.tmp 12]⟩, ⟨some 16, none, .op (.ext 1) [.tmp 12]⟩, ⟨some 0, none, .op .mv [.tmp 15]⟩, ⟨some 4, none, .op .mv [.tmp 16]⟩]) (.seq (.reg [⟨some 18, none, .op .mv [.tmp 0]⟩, ⟨some 19, none, .call 24 [.tmp 18, .const (.string ⟨#[46]⟩)]⟩, ⟨some 17, none, .op .mv [.tmp 19]⟩, ⟨some 20, none, .op (.ext 0) [.tmp 17]⟩, ⟨some 21, none, .op (.ext 1) [.tmp 17]⟩, ⟨some 22, none, .op (.ext 2) [.tmp 17]⟩, ⟨some 5, none, .op .mv [.tmp 20]⟩, ⟨some 6, none, .op .mv [.tmp 21]⟩, ⟨some 7, none, .op .mv [.tmp 22]⟩]) (.seq (.reg [⟨some 24, none, .op .mv [.tmp 5]⟩, ⟨some 25, none, .call 29 [.tmp 24, .const (.int .i64 9)]⟩, ⟨some 23, none, .op .mv [.tmp 25]⟩, ⟨some 26, none, .op (.ext 0) [.tmp 23]⟩, ⟨some 27, none, .op (.ext 1) [.tmp 23]⟩, ⟨some 8, none, .op .mv [.tmp 26]⟩, ⟨some 9, none, .op .mv [.tmp 27]⟩]) (.seq (.seq (.reg [⟨some 28, none, .op .mv [.tmp 9]⟩, ⟨some 29, none, .op .not [.tmp 28]⟩]) (.cond (.tmp 29) (.seq (.reg [⟨some 2, none, .op .mv [.const (.int .i64 0)]⟩, ⟨some 3, none, .op .mv [.const (.bool false)]⟩]) (.ret)) (.skip))) (.seq (.reg [⟨some 30, none, .op .mv [.tmp 8]⟩, ⟨some 31, none, .op (.bin .mul) [.tmp 30, .const (.int .i64 1000)]⟩, ⟨some 8, none, .op .mv [.tmp 31]⟩]) (.seq (.seq (.reg [⟨some 32, none, .op .mv [.tmp 7]⟩]) (.cond (.tmp 32) (.seq (.reg [⟨some 34, none, .op .mv [.tmp 6]⟩, ⟨some 35, none, .call 29 [.tmp 34, .const (.int .i64 3)]⟩, ⟨some 33, none, .op .mv [.tmp 35]⟩, ⟨some 36, none, .op (.ext 0) [.tmp 33]⟩, ⟨some 37, none, .op (.ext 1) [.tmp 33]⟩, ⟨some 10, none, .op .mv [.tmp 36]⟩, ⟨some 11, none, .op .mv [.tmp 37]⟩]) (.seq (.seq (.reg [⟨some 38, none, .op .mv [.tmp 11]⟩, ⟨some 39, none, .op .not [.tmp 38]⟩]) (.cond (.tmp 39) (.seq (.reg [⟨some 2, none, .op .mv [.const (.int .i64 0)]⟩, ⟨some 3, none, .op .mv [.const (.bool false)]⟩]) (.ret)) (.skip))) (.seq (.seq (.reg [⟨some 40, none, .op .mv [.tmp 6]⟩, ⟨some 41, none, .op .lens [.tmp 40]⟩, ⟨some 42, none, .op (.bin .sub) [.const (.int .i64 3), .tmp 41]⟩, ⟨some 43, none, .op .mv [.const (.int .i64 0)]⟩]) (.block 0 (.loop (.seq (.reg [⟨some 44, none, .op (.bin .lss) [.tmp 43, .tmp 42]⟩]) (.seq (.cond (.tmp 44) (.skip) (.exit 0)) (.seq (.block 1 (.reg [⟨some 45, none, .op .mv [.tmp 10]⟩, ⟨some 46, none, .op (.bin .mul) [.tmp 45, .const (.int .i64 10)]⟩, ⟨some 10, none, .op .mv [.tmp 46]⟩])) (.reg [⟨some 47, none, .op (.bin .add) [.tmp 43, .const (.int .i64 1)]⟩, ⟨some 43, none, .op .mv [.tmp 47]⟩]))))))) (.reg [⟨some 48, none, .op .mv [.tmp 8]⟩, ⟨some 49, none, .op .mv [.tmp 10]⟩, ⟨some 50, none, .op (.bin .add) [.tmp 48, .tmp 49]⟩, ⟨some 8, none, .op .mv [.tmp 50]⟩])))) (.skip))) (.seq (.seq (.reg [⟨some 51, none, .op .mv [.tmp 4]⟩]) (.cond (.tmp 51) (.reg [⟨some 52, none, .op .mv [.tmp 8]⟩, ⟨some 53, none, .op .neg [.tmp 52]⟩, ⟨some 8, none, .op .mv [.tmp 53]⟩]) (.skip))) (.seq (.reg [⟨some 54, none, .op .mv [.tmp 8]⟩, ⟨some 2, none, .op .mv [.tmp 54]⟩, ⟨some 3, none, .op .mv [.const (.bool true)]⟩]) (.ret)))))))))⟩
theorem c12 : compF Go.Proofs.Tryd.prog Go.Proofs.Tryd.f12 = some ir12 := by kernel_rfl
/-- spinnaker/spinnakerref1.Number -/
def ir13 : FI :=
  ⟨72, [.tmp 2, .tmp 3], .seq (.reg [⟨some 2, none, .op .mv [.const (.int .i64 0)]⟩, ⟨some 3, none, .op .mv [.const (.bool false)]⟩]) (.seq (.reg [⟨some 10, none, .op .mv [.tmp 0]⟩, ⟨some 11, none, .op .lens [.tmp 10]⟩, ⟨some 12, none, .op (.bin .gtr) [.tmp 11, .const (.int .i64 0)]⟩, ⟨some 13, none, .op .mv [.tmp 12]⟩, ⟨some 14, some (13, true), .op .mv [.tmp 0]⟩, ⟨some 15, some (13, true), .op .ixs [.tmp 14, .const (.int .i64 0)]⟩, ⟨some 16, some (13, true), .op (.bin .eql) [.tmp 15, .const (.int .u8 45)]⟩, ⟨some 17, none, .op .pick [.tmp 13, .tmp 16, .const (.bool false)]⟩, ⟨some 4, none, .op .mv [.tmp 17]⟩]) (.seq (.seq (.reg [⟨some 18, none, .op .mv [.tmp 4]⟩]) (.cond (.tmp 18) (.reg [⟨some 19, none, .op .mv [.tmp 0]⟩, ⟨some 20, none, .op (.sls true false) [.tmp 19, .const (.int .i64 1)]⟩, ⟨some 0, none, .op .mv [.tmp 20]⟩]) (.skip))) (.seq (.reg [⟨some 21, none, .op .mv [.tmp 0]⟩, ⟨some 22, none, .op .lens [.tmp 21]⟩, ⟨some 5, none, .op .mv [.tmp 22]⟩]) (.seq (.seq (.reg [⟨some 6, none, .op .mv [.const (.int .i64 0)]⟩]) (.block 0 (.loop (.seq (.seq (.reg [⟨some 23, none, .op .mv [.tmp 6]⟩, ⟨some 24, none, .op .mv [.tmp 0]⟩, ⟨some 25, none, .op .lens [.tmp 24]⟩, ⟨some 26, none, .op (.bin .lss) [.tmp 23, .tmp 25]⟩, ⟨some 27, none, .op .mv [.tmp 26]⟩, ⟨some 28, some (27, true), .op .mv [.tmp 5]⟩, ⟨some 29, some (27, true), .op .mv [.tmp 0]⟩, ⟨some 30, some (27, true), .op .lens [.tmp 29]⟩, ⟨some 31, some (27, true), .op (.bin .eql) [.tmp 28, .tmp 30]⟩, ⟨some 32, none, .op .pick [.tmp 27, .tmp 31, .const (.bool false)]⟩]) (.cond (.tmp 32) (.skip) (.exit 0))) (.seq (.block 1 (.seq (.reg [⟨some 35, none, .op .mv [.tmp 0]⟩, ⟨some 36, none, .op .mv [.tmp 6]⟩, ⟨some 37, none, .op .ixs [.tmp 35, .tmp 36]⟩, ⟨some 38, none, .op (.bin .eql) [.tmp 37, .const (.int .u8 46)]⟩]) (.cond (.tmp 38) (.reg [⟨some 39, none, .op .mv [.tmp 6]⟩, ⟨some 5, none, .op .mv [.tmp 39]⟩]) (.skip)))) (.reg [⟨some 33, none, .op .mv [.tmp 6]⟩, ⟨some 34, none, .op (.bin .add) [.tmp 33, .const (.int .i64 1)]⟩, ⟨some 6, none, .op .mv [.tmp 34]⟩])))))) (.seq (.reg [⟨some 40, none, .op .mv [.tmp 0]⟩, ⟨some 41, none, .op .mv [.tmp 5]⟩, ⟨some 42, none, .op (.sls false true) [.tmp 40, .tmp 41]⟩, ⟨some 43, none, .call 30 [.tmp 42, .const (.int .i64 9)]⟩, ⟨some 7, none, .op .mv [.tmp 43]⟩]) (.seq (.reg [⟨some 8, none, .op .mv [.const (.int .i64 0)]⟩]) (.seq (.seq (.reg [⟨some 44, none, .op .mv [.tmp 5]⟩, ⟨some 45, none, .op .mv [.tmp 0]⟩, ⟨some 46, none, .op .lens [.tmp 45]⟩, ⟨some 47, none, .op (.bin .lss) [.tmp 44, .tmp 46]⟩]) (.cond (.tmp 47) (.seq (.reg [⟨some 48, none, .op .mv [.tmp 0]⟩, ⟨some 49, none, .op .mv [.tmp 5]⟩, ⟨some 50, none, .op (.bin .add) [.tmp 49, .const (.int .i64 1)]⟩, ⟨some 51, none, .op (.sls true false) [.tmp 48, .tmp 50]⟩, ⟨some 9, none, .op .mv [.tmp 51]⟩]) (.seq (.seq (.reg [⟨some 52, none, .op .mv [.tmp 9]⟩, ⟨some 53, none, .call 30 [.tmp 52, .const (.int .i64 3)]⟩, ⟨some 54, none, .op (.bin .lss) [.tmp 53, .const (.int .i64 0)]⟩]) (.cond (.tmp 54) (.seq (.reg [⟨some 2, none, .op .mv [.const (.int .i64 0)]⟩, ⟨some 3, none, .op .mv [.const (.bool false)]⟩]) (.ret)) (.skip))) (.seq (.block 2 (.loop (.seq (.seq (.reg [⟨some 55, none, .op .mv [.tmp 9]⟩, ⟨some 56, none, .op .lens [.tmp 55]⟩, ⟨some 57, none, .op (.bin .lss) [.tmp 56, .const (.int .i64 3)]⟩]) (.cond (.tmp 57) (.skip) (.exit 2))) (.block 3 (.reg [⟨some 58, none, .op .mv [.tmp 9]⟩, ⟨some 59, none, .op (.bin .add) [.tmp 58, .const (.string ⟨#[48]⟩)]⟩, ⟨some 9, none, .op .mv [.tmp 59]⟩]))))) (.reg [⟨some 60, none, .op .mv [.tmp 9]⟩, ⟨some 61, none, .call 30 [.tmp 60, .const (.int .i64 3)]⟩, ⟨some 8, none, .op .mv [.tmp 61]⟩])))) (.skip))) (.seq (.seq (.reg [⟨some 62, none, .op .mv [.tmp 7]⟩, ⟨some 63, none, .op (.bin .lss) [.tmp 62, .const (.int .i64 0)]⟩]) (.cond (.tmp 63) (.seq (.reg [⟨some 2, none, .op .mv [.const (.int .i64 0)]⟩, ⟨some 3, none, .op .mv [.const (.bool false)]⟩]) (.ret)) (.skip))) (.seq (.reg [⟨some 64, none, .op .mv [.tmp 7]⟩, ⟨some 65, none, .op (.bin .mul) [.tmp 64, .const (.int .i64 1000)]⟩, ⟨some 66, none, .op .mv [.tmp 8]⟩, ⟨some 67, none, .op (.bin .add) [.tmp 65, .tmp 66]⟩, ⟨some 7, none, .op .mv [.tmp 67]⟩]) (.seq (.seq (.reg [⟨some 68, none, .op .mv [.tmp 4]⟩]) (.cond (.tmp 68) (.reg [⟨some 69, none, .op .mv [.tmp 7]⟩, ⟨some 70, none, .op .neg [.tmp 69]⟩, ⟨some 7, none, .op .mv [.tmp 70]⟩]) (.skip))) (.seq (.reg [⟨some 71, none, .op .mv [.tmp 7]⟩, ⟨some 2, none, .op .mv [.tmp 71]⟩, ⟨some 3, none, .op .mv [.const (.bool true)]⟩]) (.ret))))))))))))⟩
theorem c13 : compF Go.Proofs.Tryd.prog Go.Proofs.Tryd.f13 = some ir13 := by kernel_rfl
/-- spinnaker/spinnakerref1.Parse -/
def ir14 : FI :=
  ⟨108, [.cell 4 24, .tmp 5, .tmp 6], .seq (.reg [⟨some 2, none, .op (.box 24) [.tmp 0]⟩, ⟨some 4, none, .op (.new 24 (.agg #[(.int .i64 0), (.int .i64 0), (.int .i64 0), (.int .i64 0), (.int .i64 0), (.int .i64 0), (.int .i64 0), (.int .i64 0), (.int .i64 0), (.int .i64 0), (.int .i64 0), (.int .i64 0), (.int .i64 0), (.int .i64 0), (.int .i64 0), (.int .i64 0), (.int .i64 0), (.int .i64 0), (.int .i64 0), (.int .i64 0)])) []⟩, ⟨some 5, none, .op .mv [.const (.int .i64 0)]⟩, ⟨some 6, none, .op .mv [.const (.int .i64 0)]⟩]) (.seq (.reg [⟨some 17, none, .op (.ldn 20) [.tmp 2]⟩, ⟨some 18, none, .call 31 [.tmp 17]⟩, ⟨some 7, none, .op .mv [.tmp 18]⟩]) (.seq (.reg [⟨some 19, none, .op .mv [.tmp 7]⟩, ⟨some 20, none, .op .len [.tmp 19]⟩, ⟨some 21, none, .op (.mks 4 1 1 #[(.bool false)]) [.tmp 20, .tmp 20]⟩, ⟨some 8, none, .op .mv [.tmp 21]⟩]) (.seq (.reg [⟨some 9, none, .op .mv [.const (.int .i64 0)]⟩, ⟨some 10, none, .op .mv [.const (.int .i64 0)]⟩]) (.seq (.seq (.reg [⟨some 11, none, .op .mv [.const (.int .i64 0)]⟩]) (.block 0 (.loop (.seq (.seq (.reg [⟨some 22, none, .op .mv [.tmp 11]⟩, ⟨some 23, none, .op .mv [.tmp 1]⟩, ⟨some 24, none, .op .lens [.tmp 23]⟩, ⟨some 25, none, .op (.bin .leq) [.tmp 22, .tmp 24]⟩]) (.cond (.tmp 25) (.skip) (.exit 0))) (.seq (.block 1 (.seq (.seq (.reg [⟨some 28, none, .op .mv [.tmp 11]⟩, ⟨some 29, none, .op .mv [.tmp 1]⟩, ⟨some 30, none, .op .lens [.tmp 29]⟩, ⟨some 31, none, .op (.bin .lss) [.tmp 28, .tmp 30]⟩, ⟨some 32, none, .op .mv [.tmp 31]⟩, ⟨some 33, some (32, true), .op .mv [.tmp 1]⟩, ⟨some 34, some (32, true), .op .mv [.tmp 11]⟩, ⟨some 35, some (32, true), .op .ixs [.tmp 33, .tmp 34]⟩, ⟨some 36, some (32, true), .op (.bin .neq) [.tmp 35, .const (.int .u8 10)]⟩, ⟨some 37, none, .op .pick [.tmp 32, .tmp 36, .const (.bool false)]⟩]) (.cond (.tmp 37) (.exit 1) (.skip))) (.seq (.reg [⟨some 38, none, .op .mv [.tmp 10]⟩, ⟨some 39, none, .op (.bin .add) [.tmp 38, .const (.int .i64 1)]⟩, ⟨some 10, none, .op .mv [.tmp 39]⟩]) (.seq (.reg [⟨some 40, none, .op .mv [.tmp 9]⟩, ⟨some 41, none, .op .mv [.tmp 11]⟩, ⟨some 12, none, .op .mv [.tmp 40]⟩, ⟨some 13, none, .op .mv [.tmp 41]⟩]) (.seq (.block 2 (.loop (.seq (.seq (.reg [⟨some 42, none, .op .mv [.tmp 12]⟩, ⟨some 43, none, .op .mv [.tmp 13]⟩, ⟨some 44, none, .op (.bin .lss) [.tmp 42, .tmp 43]⟩, ⟨some 45, none, .op .mv [.tmp 44]⟩, ⟨some 46, some (45, true), .op .mv [.tmp 1]⟩, ⟨some 47, some (45, true), .op .mv [.tmp 12]⟩, ⟨some 48, some (45, true), .op .ixs [.tmp 46, .tmp 47]⟩, ⟨some 49, some (45, true), .op (.bin .eql) [.tmp 48, .const (.int .u8 32)]⟩, ⟨some 50, none, .op .pick [.tmp 45, .tmp 49, .const (.bool false)]⟩]) (.cond (.tmp 50) (.skip) (.exit 2))) (.block 3 (.reg [⟨some 51, none, .op .mv [.tmp 12]⟩, ⟨some 52, none, .op (.bin .add) [.tmp 51, .const (.int .i64 1)]⟩, ⟨some 12, none, .op .mv [.tmp 52]⟩]))))) (.seq (.block 4 (.loop (.seq (.seq (.reg [⟨some 53, none, .op .mv [.tmp 13]⟩, ⟨some 54, none, .op .mv [.tmp 12]⟩, ⟨some 55, none, .op (.bin .gtr) [.tmp 53, .tmp 54]⟩, ⟨some 56, none, .op .mv [.tmp 55]⟩, ⟨some 57, some (56, true), .op .mv [.tmp 1]⟩, ⟨some 58, some (56, true), .op .mv [.tmp 13]⟩, ⟨some 59, some (56, true), .op (.bin .sub) [.tmp 58, .const (.int .i64 1)]⟩, ⟨some 60, some (56, true), .op .ixs [.tmp 57, .tmp 59]⟩, ⟨some 61, some (56, true), .op (.bin .eql) [.tmp 60, .const (.int .u8 32)]⟩, ⟨some 62, none, .op .pick [.tmp 56, .tmp 61, .const (.bool false)]⟩]) (.cond (.tmp 62) (.skip) (.exit 4))) (.block 5 (.reg [⟨some 63, none, .op .mv [.tmp 13]⟩, ⟨some 64, none, .op (.bin .sub) [.tmp 63, .const (.int .i64 1)]⟩, ⟨some 13, none, .op .mv [.tmp 64]⟩]))))) (.seq (.seq (.reg [⟨some 65, none, .op .mv [.tmp 12]⟩, ⟨some 66, none, .op .mv [.tmp 13]⟩, ⟨some 67, none, .op (.bin .lss) [.tmp 65, .tmp 66]⟩, ⟨some 68, none, .op .mv [.tmp 67]⟩, ⟨some 69, some (68, true), .op .mv [.tmp 1]⟩, ⟨some 70, some (68, true), .op .mv [.tmp 12]⟩, ⟨some 71, some (68, true), .op .ixs [.tmp 69, .tmp 70]⟩, ⟨some 72, some (68, true), .op (.bin .neq) [.tmp 71, .const (.int .u8 35)]⟩, ⟨some 73, none, .op .pick [.tmp 68, .tmp 72, .const (.bool false)]⟩]) (.cond (.tmp 73) (.seq (.reg [⟨some 75, none, .op .mv [.tmp 1]⟩, ⟨some 76, none, .op .mv [.tmp 12]⟩, ⟨some 77, none, .op .mv [.tmp 13]⟩, ⟨some 78, none, .op (.sls true true) [.tmp 75, .tmp 76, .tmp 77]⟩, ⟨some 79, none, .call 32 [.tmp 78]⟩, ⟨some 74, none, .op .mv [.tmp 79]⟩, ⟨some 80, none, .op (.ext 0) [.tmp 74]⟩, ⟨some 81, none, .op (.ext 1) [.tmp 74]⟩, ⟨some 14, none, .op .mv [.tmp 80]⟩, ⟨some 15, none, .op .mv [.tmp 81]⟩]) (.seq (.seq (.reg [⟨some 82, none, .op .mv [.tmp 14]⟩, ⟨some 83, none, .op (.bin .lss) [.tmp 82, .const (.int .i64 0)]⟩, ⟨some 84, none, .op .mv [.tmp 83]⟩, ⟨some 85, some (84, false), .op .mv [.tmp 8]⟩, ⟨some 86, some (84, false), .op .mv [.tmp 14]⟩, ⟨some 87, some (84, false), .op (.iad 1) [.tmp 85, .tmp 86]⟩, ⟨some 88, some (84, false), .op .ld1 [.tmp 87]⟩, ⟨some 89, none, .op .pick [.tmp 84, .const (.bool true), .tmp 88]⟩]) (.cond (.tmp 89) (.seq (.reg [⟨some 90, none, .op (.ldn 20) [.tmp 2]⟩, ⟨some 91, none, .op .mv [.tmp 10]⟩, ⟨none, none, .op (.st 20) [.tmp 4, .tmp 90]⟩, ⟨some 5, none, .op .mv [.const (.int .i64 4)]⟩, ⟨some 6, none, .op .mv [.tmp 91]⟩]) (.ret)) (.skip))) (.reg [⟨some 92, none, .op .mv [.tmp 7]⟩, ⟨some 93, none, .op .mv [.tmp 14]⟩, ⟨some 94, none, .op .mv [.tmp 8]⟩, ⟨some 95, none, .op .mv [.tmp 14]⟩, ⟨some 96, none, .op .mv [.tmp 15]⟩, ⟨some 97, none, .op (.iad 1) [.tmp 92, .tmp 93]⟩, ⟨none, none, .op (.st 1) [.tmp 97, .tmp 96]⟩, ⟨some 98, none, .op (.iad 1) [.tmp 94, .tmp 95]⟩, ⟨none, none, .op (.st 1) [.tmp 98, .const (.bool true)]⟩]))) (.skip))) (.reg [⟨some 99, none, .op .mv [.tmp 11]⟩, ⟨some 100, none, .op (.bin .add) [.tmp 99, .const (.int .i64 1)]⟩, ⟨some 9, none, .op .mv [.tmp 100]⟩])))))))) (.reg [⟨some 26, none, .op .mv [.tmp 11]⟩, ⟨some 27, none, .op (.bin .add) [.tmp 26, .const (.int .i64 1)]⟩, ⟨some 11, none, .op .mv [.tmp 27]⟩])))))) (.seq (.reg [⟨some 101, none, .op .mv [.tmp 7]⟩, ⟨some 102, none, .call 33 [.tmp 101]⟩, ⟨some 16, none, .op (.new 24 (.agg #[(.int .i64 0), (.int .i64 0), (.int .i64 0), (.int .i64 0), (.int .i64 0), (.int .i64 0), (.int .i64 0), (.int .i64 0), (.int .i64 0), (.int .i64 0), (.int .i64 0), (.int .i64 0), (.int .i64 0), (.int .i64 0), (.int .i64 0), (.int .i64 0), (.int .i64 0), (.int .i64 0), (.int .i64 0), (.int .i64 0)])) []⟩, ⟨none, none, .op (.st 20) [.tmp 16, .tmp 102]⟩]) (.seq (.seq (.reg [⟨some 103, none, .op (.ldn 20) [.tmp 16]⟩, ⟨some 104, none, .call 19 [.tmp 103]⟩, ⟨some 105, none, .op .not [.tmp 104]⟩]) (.cond (.tmp 105) (.seq (.reg [⟨some 106, none, .op (.ldn 20) [.tmp 2]⟩, ⟨none, none, .op (.st 20) [.tmp 4, .tmp 106]⟩, ⟨some 5, none, .op .mv [.const (.int .i64 5)]⟩, ⟨some 6, none, .op .mv [.const (.int .i64 0)]⟩]) (.ret)) (.skip))) (.seq (.reg [⟨some 107, none, .op (.ldn 20) [.tmp 16]⟩, ⟨none, none, .op (.st 20) [.tmp 4, .tmp 107]⟩, ⟨some 5, none, .op .mv [.const (.int .i64 0)]⟩, ⟨some 6, none, .op .mv [.const (.int .i64 0)]⟩]) (.ret))))))))⟩
theorem c14 : compF Go.Proofs.Tryd.prog Go.Proofs.Tryd.f14 = some ir14 := by kernel_rfl
/-- spinnaker/text.Print -/
def ir15 : FI :=
  ⟨45, [.tmp 2, .tmp 3], .seq (.reg [⟨some 1, none, .op (.box 24) [.tmp 0]⟩, ⟨some 2, none, .op .mv [.const (.string ⟨#[]⟩)]⟩, ⟨some 3, none, .op .mv [.const (.int .i64 0)]⟩]) (.seq (.seq (.reg [⟨some 9, none, .op (.ldn 20) [.tmp 1]⟩, ⟨some 10, none, .call 27 [.tmp 9]⟩, ⟨some 11, none, .op .not [.tmp 10]⟩]) (.cond (.tmp 11) (.seq (.reg [⟨some 2, none, .op .mv [.const (.string ⟨#[]⟩)]⟩, ⟨some 3, none, .op .mv [.const (.int .i64 1)]⟩]) (.ret)) (.skip))) (.seq (.reg [⟨some 4, none, .op (.newB 66 (.agg #[(.pointer none), (.slice none 0 0)])) []⟩]) (.seq (.seq (.reg [⟨some 12, none, .call 25 [.tmp 1]⟩, ⟨some 13, none, .op .len [.tmp 12]⟩, ⟨some 14, none, .op .mv [.const (.int .i64 0)]⟩]) (.block 0 (.loop (.seq (.reg [⟨some 15, none, .op (.bin .lss) [.tmp 14, .tmp 13]⟩]) (.seq (.cond (.tmp 15) (.skip) (.exit 0)) (.seq (.block 1 (.seq (.reg [⟨some 16, none, .op (.iad 2) [.tmp 12, .tmp 14]⟩, ⟨some 17, none, .op (.ldn 2) [.tmp 16]⟩, ⟨some 6, none, .op (.new 51 (.agg #[(.string ⟨#[]⟩), .nilIface])) []⟩, ⟨none, none, .op (.st 2) [.tmp 6, .tmp 17]⟩]) (.seq (.reg [⟨some 18, none, .op (.fad 0) [.tmp 6]⟩, ⟨some 19, none, .op .ld1 [.tmp 18]⟩, ⟨some 20, none, .op (.bin .add) [.tmp 19, .const (.string ⟨#[58, 32]⟩)]⟩, ⟨some 21, none, .call 34 [.tmp 4, .tmp 20]⟩]) (.seq (.seq (.reg [⟨some 23, none, .op (.fad 1) [.tmp 6]⟩, ⟨some 24, none, .op .ld1 [.tmp 23]⟩, ⟨some 25, none, .op (.tas 71 true (.pointer none)) [.tmp 24]⟩, ⟨some 22, none, .op .mv [.tmp 25]⟩, ⟨some 26, none, .op (.ext 0) [.tmp 22]⟩, ⟨some 27, none, .op (.ext 1) [.tmp 22]⟩, ⟨some 7, none, .op .mv [.tmp 26]⟩, ⟨some 8, none, .op .mv [.tmp 27]⟩]) (.seq (.reg [⟨some 28, none, .op .mv [.tmp 8]⟩]) (.cond (.tmp 28) (.seq (.reg [⟨some 29, none, .op .mv [.tmp 7]⟩, ⟨some 30, none, .op .nck [.tmp 29]⟩, ⟨some 31, none, .op .ld1 [.tmp 30]⟩, ⟨some 32, none, .call 17 [.tmp 31]⟩, ⟨some 33, none, .op (.bin .add) [.tmp 32, .const (.string ⟨#[10]⟩)]⟩, ⟨some 34, none, .call 34 [.tmp 4, .tmp 33]⟩]) (.exit 1)) (.skip)))) (.reg [⟨some 35, none, .op (.fad 1) [.tmp 6]⟩, ⟨some 36, none, .op .ld1 [.tmp 35]⟩, ⟨some 37, none, .op (.tas 74 false .nilIface) [.tmp 36]⟩, ⟨some 38, none, .op .nck [.tmp 37]⟩, ⟨some 39, none, .op .ld1 [.tmp 38]⟩, ⟨some 40, none, .call 35 [.tmp 39]⟩, ⟨some 41, none, .op (.bin .add) [.tmp 40, .const (.string ⟨#[10]⟩)]⟩, ⟨some 42, none, .call 34 [.tmp 4, .tmp 41]⟩]))))) (.reg [⟨some 43, none, .op (.bin .add) [.tmp 14, .const (.int .i64 1)]⟩, ⟨some 14, none, .op .mv [.tmp 43]⟩]))))))) (.seq (.reg [⟨some 44, none, .call 36 [.tmp 4]⟩, ⟨some 2, none, .op .mv [.tmp 44]⟩, ⟨some 3, none, .op .mv [.const (.int .i64 0)]⟩]) (.ret)))))⟩
theorem c15 : compF Go.Proofs.Tryd.prog Go.Proofs.Tryd.f15 = some ir15 := by kernel_rfl
/-- spinnaker/text.Show -/
def ir17 : FI :=
  ⟨28, [.tmp 2], .seq (.reg [⟨some 2, none, .op .mv [.const (.string ⟨#[]⟩)]⟩]) (.seq (.reg [⟨some 3, none, .op .mv [.const (.string ⟨#[]⟩)]⟩]) (.seq (.seq (.reg [⟨some 5, none, .op .mv [.tmp 0]⟩, ⟨some 6, none, .op (.bin .lss) [.tmp 5, .const (.int .i64 0)]⟩]) (.cond (.tmp 6) (.seq (.reg [⟨some 7, none, .op .mv [.tmp 0]⟩, ⟨some 8, none, .op (.mm true) [.tmp 7, .const (.int .i64 (-9223372036854775807))]⟩, ⟨some 9, none, .op .neg [.tmp 8]⟩, ⟨some 0, none, .op .mv [.tmp 9]⟩]) (.reg [⟨some 3, none, .op .mv [.const (.string ⟨#[45]⟩)]⟩])) (.skip))) (.seq (.reg [⟨some 10, none, .op .mv [.tmp 3]⟩, ⟨some 11, none, .op .mv [.tmp 0]⟩, ⟨some 12, none, .op (.bin .quo) [.tmp 11, .const (.int .i64 1000)]⟩, ⟨some 13, none, .call 38 [.tmp 12, .const (.int .i64 10)]⟩, ⟨some 14, none, .op (.bin .add) [.tmp 10, .tmp 13]⟩, ⟨some 4, none, .op .mv [.tmp 14]⟩]) (.seq (.seq (.reg [⟨some 15, none, .op .mv [.tmp 0]⟩, ⟨some 16, none, .op (.bin .rem) [.tmp 15, .const (.int .i64 1000)]⟩, ⟨some 17, none, .op (.bin .eql) [.tmp 16, .const (.int .i64 0)]⟩]) (.cond (.tmp 17) (.seq (.reg [⟨some 18, none, .op .mv [.tmp 4]⟩, ⟨some 2, none, .op .mv [.tmp 18]⟩]) (.ret)) (.skip))) (.seq (.reg [⟨some 19, none, .op .mv [.tmp 4]⟩, ⟨some 20, none, .op (.bin .add) [.tmp 19, .const (.string ⟨#[46]⟩)]⟩, ⟨some 21, none, .op .mv [.tmp 0]⟩, ⟨some 22, none, .op (.bin .rem) [.tmp 21, .const (.int .i64 1000)]⟩, ⟨some 23, none, .op (.bin .add) [.const (.int .i64 1000), .tmp 22]⟩, ⟨some 24, none, .call 38 [.tmp 23, .const (.int .i64 10)]⟩, ⟨some 25, none, .op (.sls true false) [.tmp 24, .const (.int .i64 1)]⟩, ⟨some 26, none, .call 39 [.tmp 25, .const (.string ⟨#[48]⟩)]⟩, ⟨some 27, none, .op (.bin .add) [.tmp 20, .tmp 26]⟩, ⟨some 2, none, .op .mv [.tmp 27]⟩]) (.ret))))))⟩
theorem c17 : compF Go.Proofs.Tryd.prog Go.Proofs.Tryd.f17 = some ir17 := by kernel_rfl
/-- spinnaker/spinnakerref1.Show -/
def ir18 : FI :=
  ⟨39, [.tmp 2], .seq (.reg [⟨some 2, none, .op .mv [.const (.string ⟨#[]⟩)]⟩]) (.seq (.reg [⟨some 3, none, .op .mv [.const (.string ⟨#[]⟩)]⟩]) (.seq (.seq (.reg [⟨some 5, none, .op .mv [.tmp 0]⟩, ⟨some 6, none, .op (.bin .lss) [.tmp 5, .const (.int .i64 0)]⟩]) (.cond (.tmp 6) (.reg [⟨some 7, none, .op .mv [.tmp 0]⟩, ⟨some 8, none, .op (.mm true) [.tmp 7, .const (.int .i64 (-9223372036854775807))]⟩, ⟨some 9, none, .op .neg [.tmp 8]⟩, ⟨some 3, none, .op .mv [.const (.string ⟨#[45]⟩)]⟩, ⟨some 0, none, .op .mv [.tmp 9]⟩]) (.skip))) (.seq (.reg [⟨some 10, none, .op .mv [.tmp 3]⟩, ⟨some 11, none, .op .mv [.tmp 0]⟩, ⟨some 12, none, .op (.bin .quo) [.tmp 11, .const (.int .i64 1000)]⟩, ⟨some 13, none, .call 20 [.tmp 12]⟩, ⟨some 14, none, .op (.bin .add) [.tmp 10, .tmp 13]⟩, ⟨some 3, none, .op .mv [.tmp 14]⟩]) (.seq (.seq (.reg [⟨some 15, none, .op .mv [.tmp 0]⟩, ⟨some 16, none, .op (.bin .rem) [.tmp 15, .const (.int .i64 1000)]⟩, ⟨some 17, none, .op (.bin .eql) [.tmp 16, .const (.int .i64 0)]⟩]) (.cond (.tmp 17) (.seq (.reg [⟨some 18, none, .op .mv [.tmp 3]⟩, ⟨some 2, none, .op .mv [.tmp 18]⟩]) (.ret)) (.skip))) (.seq (.reg [⟨some 19, none, .op .mv [.tmp 0]⟩, ⟨some 20, none, .op (.bin .rem) [.tmp 19, .const (.int .i64 1000)]⟩, ⟨some 21, none, .op (.bin .add) [.const (.int .i64 1000), .tmp 20]⟩, ⟨some 22, none, .call 20 [.tmp 21]⟩, ⟨some 23, none, .op (.sls true false) [.tmp 22, .const (.int .i64 1)]⟩, ⟨some 4, none, .op .mv [.tmp 23]⟩]) (.seq (.block 0 (.loop (.seq (.seq (.reg [⟨some 24, none, .op .mv [.tmp 4]⟩, ⟨some 25, none, .op .mv [.tmp 4]⟩, ⟨some 26, none, .op .lens [.tmp 25]⟩, ⟨some 27, none, .op (.bin .sub) [.tmp 26, .const (.int .i64 1)]⟩, ⟨some 28, none, .op .ixs [.tmp 24, .tmp 27]⟩, ⟨some 29, none, .op (.bin .eql) [.tmp 28, .const (.int .u8 48)]⟩]) (.cond (.tmp 29) (.skip) (.exit 0))) (.block 1 (.reg [⟨some 30, none, .op .mv [.tmp 4]⟩, ⟨some 31, none, .op .mv [.tmp 4]⟩, ⟨some 32, none, .op .lens [.tmp 31]⟩, ⟨some 33, none, .op (.bin .sub) [.tmp 32, .const (.int .i64 1)]⟩, ⟨some 34, none, .op (.sls false true) [.tmp 30, .tmp 33]⟩, ⟨some 4, none, .op .mv [.tmp 34]⟩]))))) (.seq (.reg [⟨some 35, none, .op .mv [.tmp 3]⟩, ⟨some 36, none, .op (.bin .add) [.tmp 35, .const (.string ⟨#[46]⟩)]⟩, ⟨some 37, none, .op .mv [.tmp 4]⟩, ⟨some 38, none, .op (.bin .add) [.tmp 36, .tmp 37]⟩, ⟨some 2, none, .op .mv [.tmp 38]⟩]) (.ret))))))))⟩
theorem c18 : compF Go.Proofs.Tryd.prog Go.Proofs.Tryd.f18 = some ir18 := by kernel_rfl
/-- spinnaker/spinnakerref1.May -/
def ir19 : FI :=
  ⟨6, [.tmp 2], .seq (.reg [⟨some 1, none, .op (.box 24) [.tmp 0]⟩, ⟨some 2, none, .op .mv [.const (.bool false)]⟩]) (.seq (.reg [⟨some 3, none, .op (.ldn 20) [.tmp 1]⟩, ⟨some 4, none, .call 40 [.tmp 3]⟩, ⟨some 5, none, .op (.bin .eql) [.tmp 4, .const (.string ⟨#[]⟩)]⟩, ⟨some 2, none, .op .mv [.tmp 5]⟩]) (.ret))⟩
theorem c19 : compF Go.Proofs.Tryd.prog Go.Proofs.Tryd.f19 = some ir19 := by kernel_rfl
/-- spinnaker/spinnakerref1.Decimal -/
def ir20 : FI :=
  ⟨22, [.tmp 2], .seq (.reg [⟨some 2, none, .op .mv [.const (.string ⟨#[]⟩)]⟩]) (.seq (.reg [⟨some 3, none, .op .mv [.const (.string ⟨#[]⟩)]⟩]) (.seq (.block 0 (.loop (.seq (.seq (.reg [⟨some 4, none, .op .mv [.tmp 0]⟩, ⟨some 5, none, .op (.bin .gtr) [.tmp 4, .const (.int .i64 9)]⟩]) (.cond (.tmp 5) (.skip) (.exit 0))) (.block 1 (.seq (.reg [⟨some 6, none, .op .mv [.tmp 0]⟩, ⟨some 7, none, .op (.bin .rem) [.tmp 6, .const (.int .i64 10)]⟩, ⟨some 8, none, .op .mv [.tmp 0]⟩, ⟨some 9, none, .op (.bin .rem) [.tmp 8, .const (.int .i64 10)]⟩, ⟨some 10, none, .op (.bin .add) [.tmp 9, .const (.int .i64 1)]⟩, ⟨some 11, none, .op (.sls true true) [.const (.string ⟨#[48, 49, 50, 51, 52, 53, 54, 55, 56, 57]⟩), .tmp 7, .tmp 10]⟩, ⟨some 12, none, .op .mv [.tmp 3]⟩, ⟨some 13, none, .op (.bin .add) [.tmp 11, .tmp 12]⟩, ⟨some 3, none, .op .mv [.tmp 13]⟩]) (.reg [⟨some 14, none, .op .mv [.tmp 0]⟩, ⟨some 15, none, .op (.bin .quo) [.tmp 14, .const (.int .i64 10)]⟩, ⟨some 0, none, .op .mv [.tmp 15]⟩])))))) (.seq (.reg [⟨some 16, none, .op .mv [.tmp 0]⟩, ⟨some 17, none, .op .mv [.tmp 0]⟩, ⟨some 18, none, .op (.bin .add) [.tmp 17, .const (.int .i64 1)]⟩, ⟨some 19, none, .op (.sls true true) [.const (.string ⟨#[48, 49, 50, 51, 52, 53, 54, 55, 56, 57]⟩), .tmp 16, .tmp 18]⟩, ⟨some 20, none, .op .mv [.tmp 3]⟩, ⟨some 21, none, .op (.bin .add) [.tmp 19, .tmp 20]⟩, ⟨some 2, none, .op .mv [.tmp 21]⟩]) (.ret))))⟩
theorem c20 : compF Go.Proofs.Tryd.prog Go.Proofs.Tryd.f20 = some ir20 := by kernel_rfl
/-- spinnaker/spinnakerref1.Names -/
def ir21 : FI :=
  ⟨2, [.tmp 0], .seq (.reg [⟨some 0, none, .op .mv [.const (.slice none 0 0)]⟩]) (.seq (.reg [⟨some 1, none, .op (.bsl 9 1 20 #[(.string ⟨#[]⟩), (.string ⟨#[]⟩), (.string ⟨#[]⟩), (.string ⟨#[]⟩), (.string ⟨#[]⟩), (.string ⟨#[]⟩), (.string ⟨#[]⟩), (.string ⟨#[]⟩), (.string ⟨#[]⟩), (.string ⟨#[]⟩), (.string ⟨#[]⟩), (.string ⟨#[]⟩), (.string ⟨#[]⟩), (.string ⟨#[]⟩), (.string ⟨#[]⟩), (.string ⟨#[]⟩), (.string ⟨#[]⟩), (.string ⟨#[]⟩), (.string ⟨#[]⟩), (.string ⟨#[]⟩)] [0, 1, 2, 3, 4, 5, 6, 7, 8, 9, 10, 11, 12, 13, 14, 15, 16, 17, 18, 19]) [.const (.string ⟨#[116, 97, 114, 103, 101, 116]⟩), .const (.string ⟨#[117, 116, 105, 108]⟩), .const (.string ⟨#[115, 116, 97, 98, 108, 101]⟩), .const (.string ⟨#[112, 97, 110, 105, 99]⟩), .const (.string ⟨#[103, 114, 97, 105, 110]⟩), .const (.string ⟨#[116, 104, 114, 101, 115, 104, 111, 108, 100]⟩), .const (.string ⟨#[117, 112]⟩), .const (.string ⟨#[100, 111, 119, 110]⟩), .const (.string ⟨#[109, 105, 110]⟩), .const (.string ⟨#[109, 97, 120]⟩), .const (.string ⟨#[105, 110, 105, 116, 105, 97, 108]⟩), .const (.string ⟨#[103, 114, 97, 99, 101]⟩), .const (.string ⟨#[100, 101, 108, 97, 121]⟩), .const (.string ⟨#[98, 117, 114, 115, 116]⟩), .const (.string ⟨#[108, 105, 109, 105, 116]⟩), .const (.string ⟨#[113, 117, 101, 117, 101]⟩), .const (.string ⟨#[116, 105, 109, 101, 111, 117, 116]⟩), .const (.string ⟨#[114, 101, 97, 100, 121]⟩), .const (.string ⟨#[115, 117, 98, 115, 101, 116]⟩), .const (.string ⟨#[115, 97, 109, 112, 108, 101]⟩)]⟩, ⟨some 0, none, .op .mv [.tmp 1]⟩]) (.ret))⟩
theorem c21 : compF Go.Proofs.Tryd.prog Go.Proofs.Tryd.f21 = some ir21 := by kernel_rfl
/-- strings.Split -/
def ir22 : FI :=
  ⟨8, [.tmp 4], .seq (.reg [⟨some 4, none, .op .mv [.const (.slice none 0 0)]⟩]) (.seq (.reg [⟨some 5, none, .op .mv [.tmp 0]⟩, ⟨some 6, none, .op .mv [.tmp 1]⟩, ⟨some 7, none, .call 41 [.tmp 5, .tmp 6, .const (.int .i64 0), .const (.int .i64 (-1))]⟩, ⟨some 4, none, .op .mv [.tmp 7]⟩]) (.ret))⟩
theorem c22 : compF Go.Proofs.Tryd.prog Go.Proofs.Tryd.f22 = some ir22 := by kernel_rfl
/-- strings.Trim -/
def ir23 : FI :=
  ⟨43, [.tmp 4], .seq (.reg [⟨some 4, none, .op .mv [.const (.string ⟨#[]⟩)]⟩]) (.seq (.seq (.reg [⟨some 7, none, .op .mv [.tmp 0]⟩, ⟨some 8, none, .op (.bin .eql) [.tmp 7, .const (.string ⟨#[]⟩)]⟩, ⟨some 9, none, .op .mv [.tmp 8]⟩, ⟨some 10, some (9, false), .op .mv [.tmp 1]⟩, ⟨some 11, some (9, false), .op (.bin .eql) [.tmp 10, .const (.string ⟨#[]⟩)]⟩, ⟨some 12, none, .op .pick [.tmp 9, .const (.bool true), .tmp 11]⟩]) (.cond (.tmp 12) (.seq (.reg [⟨some 13, none, .op .mv [.tmp 0]⟩, ⟨some 4, none, .op .mv [.tmp 13]⟩]) (.ret)) (.skip))) (.seq (.seq (.reg [⟨some 14, none, .op .mv [.tmp 1]⟩, ⟨some 15, none, .op .lens [.tmp 14]⟩, ⟨some 16, none, .op (.bin .eql) [.tmp 15, .const (.int .i64 1)]⟩, ⟨some 17, none, .op .mv [.tmp 16]⟩, ⟨some 18, some (17, true), .op .mv [.tmp 1]⟩, ⟨some 19, some (17, true), .op .ixs [.tmp 18, .const (.int .i64 0)]⟩, ⟨some 20, some (17, true), .op (.bin .lss) [.tmp 19, .const (.int .u8 128)]⟩, ⟨some 21, none, .op .pick [.tmp 17, .tmp 20, .const (.bool false)]⟩]) (.cond (.tmp 21) (.seq (.drw [⟨0, ⟨some 22, none, .op .mv [.tmp 0]⟩, false, []⟩, ⟨1, ⟨some 23, none, .op .mv [.tmp 1]⟩, false, []⟩, ⟨2, ⟨some 24, none, .op .ixs [.tmp 23, .const (.int .i64 0)]⟩, false, []⟩, ⟨4, ⟨some 26, none, .op .mv [.tmp 1]⟩, false, []⟩, ⟨5, ⟨some 27, none, .op .ixs [.tmp 26, .const (.int .i64 0)]⟩, false, []⟩, ⟨3, ⟨some 25, none, .call 43 [.tmp 22, .tmp 24]⟩, true, []⟩, ⟨6, ⟨some 28, none, .call 42 [.tmp 25, .tmp 27]⟩, true, []⟩, ⟨7, ⟨some 4, none, .op .mv [.tmp 28]⟩, false, []⟩]) (.ret)) (.skip))) (.seq (.seq (.reg [⟨some 30, none, .op .mv [.tmp 1]⟩, ⟨some 31, none, .call 44 [.tmp 30]⟩, ⟨some 29, none, .op .mv [.tmp 31]⟩, ⟨some 32, none, .op (.ext 0) [.tmp 29]⟩, ⟨some 33, none, .op (.ext 1) [.tmp 29]⟩, ⟨some 5, none, .op (.new 82 (.agg #[(.bool false), (.bool false), (.bool false), (.bool false), (.bool false), (.bool false), (.bool false), (.bool false), (.bool false), (.bool false), (.bool false), (.bool false), (.bool false), (.bool false), (.bool false), (.bool false), (.bool false), (.bool false), (.bool false), (.bool false), (.bool false), (.bool false), (.bool false), (.bool false), (.bool false), (.bool false), (.bool false), (.bool false), (.bool false), (.bool false), (.bool false), (.bool false), (.bool false), (.bool false), (.bool false), (.bool false), (.bool false), (.bool false), (.bool false), (.bool false), (.bool false), (.bool false), (.bool false), (.bool false), (.bool false), (.bool false), (.bool false), (.bool false), (.bool false), (.bool false), (.bool false), (.bool false), (.bool false), (.bool false), (.bool false), (.bool false), (.bool false), (.bool false), (.bool false), (.bool false), (.bool false), (.bool false), (.bool false), (.bool false), (.bool false), (.bool false), (.bool false), (.bool false), (.bool false), (.bool false), (.bool false), (.bool false), (.bool false), (.bool false), (.bool false), (.bool false), (.bool false), (.bool false), (.bool false), (.bool false), (.bool false), (.bool false), (.bool false), (.bool false), (.bool false), (.bool false), (.bool false), (.bool false), (.bool false), (.bool false), (.bool false), (.bool false), (.bool false), (.bool false), (.bool false), (.bool false), (.bool false), (.bool false), (.bool false), (.bool false), (.bool false), (.bool false), (.bool false), (.bool false), (.bool false), (.bool false), (.bool false), (.bool false), (.bool false), (.bool false), (.bool false), (.bool false), (.bool false), (.bool false), (.bool false), (.bool false), (.bool false), (.bool false), (.bool false), (.bool false), (.bool false), (.bool false), (.bool false), (.bool false), (.bool false), (.bool false), (.bool false), (.bool false), (.bool false), (.bool false), (.bool false), (.bool false), (.bool false), (.bool false), (.bool false), (.bool false), (.bool false), (.bool false), (.bool false), (.bool false), (.bool false), (.bool false), (.bool false), (.bool false), (.bool false), (.bool false), (.bool false), (.bool false), (.bool false), (.bool false), (.bool false), (.bool false), (.bool false), (.bool false), (.bool false), (.bool false), (.bool false), (.bool false), (.bool false), (.bool false), (.bool false), (.bool false), (.bool false), (.bool false), (.bool false), (.bool false), (.bool false), (.bool false), (.bool false), (.bool false), (.bool false), (.bool false), (.bool false), (.bool false), (.bool false), (.bool false), (.bool false), (.bool false), (.bool false), (.bool false), (.bool false), (.bool false), (.bool false), (.bool false), (.bool false), (.bool false), (.bool false), (.bool false), (.bool false), (.bool false), (.bool false), (.bool false), (.bool false), (.bool false), (.bool false), (.bool false), (.bool false), (.bool false), (.bool false), (.bool false), (.bool false), (.bool false), (.bool false), (.bool false), (.bool false), (.bool false), (.bool false), (.bool false), (.bool false), (.bool false), (.bool false), (.bool false), (.bool false), (.bool false), (.bool false), (.bool false), (.bool false), (.bool false), (.bool false), (.bool false), (.bool false), (.bool false), (.bool false), (.bool false), (.bool false), (.bool false), (.bool false), (.bool false), (.bool false), (.bool false), (.bool false), (.bool false), (.bool false), (.bool false), (.bool false), (.bool false), (.bool false), (.bool false), (.bool false), (.bool false), (.bool false), (.bool false), (.bool false), (.bool false), (.bool false), (.bool false), (.bool false), (.bool false), (.bool false), (.bool false), (.bool false), (.bool false), (.bool false), (.bool false), (.bool false), (.bool false)])) []⟩, ⟨none, none, .op (.st 256) [.tmp 5, .tmp 32]⟩, ⟨some 6, none, .op .mv [.tmp 33]⟩]) (.seq (.reg [⟨some 34, none, .op .mv [.tmp 6]⟩]) (.cond (.tmp 34) (.seq (.reg [⟨some 35, none, .op .mv [.tmp 0]⟩, ⟨some 36, none, .call 46 [.tmp 35, .tmp 5]⟩, ⟨some 37, none, .call 45 [.tmp 36, .tmp 5]⟩, ⟨some 4, none, .op .mv [.tmp 37]⟩]) (.ret)) (.skip)))) (.seq (.reg [⟨some 38, none, .op .mv [.tmp 0]⟩, ⟨some 39, none, .op .mv [.tmp 1]⟩, ⟨some 40, none, .call 48 [.tmp 38, .tmp 39]⟩, ⟨some 41, none, .op .mv [.tmp 1]⟩, ⟨some 42, none, .call 47 [.tmp 40, .tmp 41]⟩, ⟨some 4, none, .op .mv [.tmp 42]⟩]) (.ret)))))⟩
theorem c23 : compF Go.Proofs.Tryd.prog Go.Proofs.Tryd.f23 = some ir23 := by kernel_rfl
/-- strings.Cut -/
def ir24 : FI :=
  ⟨13, [.tmp 4, .tmp 5, .tmp 6], .seq (.reg [⟨some 4, none, .op .mv [.const (.string ⟨#[]⟩)]⟩, ⟨some 5, none, .op .mv [.const (.string ⟨#[]⟩)]⟩, ⟨some 6, none, .op .mv [.const (.bool false)]⟩]) (.seq (.reg [⟨some 7, none, .op .mv [.tmp 0]⟩, ⟨some 8, none, .op .mv [.tmp 1]⟩, ⟨some 9, none, .call 49 [.tmp 7, .tmp 8]⟩, ⟨some 10, none, .op (.ext 0) [.tmp 9]⟩, ⟨some 11, none, .op (.ext 1) [.tmp 9]⟩, ⟨some 12, none, .op (.ext 2) [.tmp 9]⟩, ⟨some 4, none, .op .mv [.tmp 10]⟩, ⟨some 5, none, .op .mv [.tmp 11]⟩, ⟨some 6, none, .op .mv [.tmp 12]⟩]) (.ret))⟩
theorem c24 : compF Go.Proofs.Tryd.prog Go.Proofs.Tryd.f24 = some ir24 := by kernel_rfl
/-- spinnaker/text.parts -/
def ir25 : FI :=
  ⟨104, [.tmp 2], .seq (.reg [⟨some 2, none, .op .mv [.const (.slice none 0 0)]⟩]) (.seq (.drw [⟨0, ⟨some 3, none, .op .mv [.tmp 0]⟩, false, []⟩, ⟨1, ⟨some 4, none, .op .nck [.tmp 3]⟩, false, []⟩, ⟨2, ⟨some 5, none, .op (.fad 0) [.tmp 4]⟩, false, []⟩, ⟨3, ⟨some 6, none, .op (.ifc 71) [.tmp 5]⟩, false, []⟩, ⟨4, ⟨some 7, none, .op (.bld #[(.string ⟨#[]⟩), .nilIface] [(0, 1), (1, 1)] [0, 1]) [.const (.string ⟨#[116, 97, 114, 103, 101, 116]⟩), .tmp 6]⟩, false, []⟩, ⟨5, ⟨some 8, none, .op .mv [.tmp 0]⟩, false, []⟩, ⟨6, ⟨some 9, none, .op .nck [.tmp 8]⟩, false, []⟩, ⟨7, ⟨some 10, none, .op (.fad 1) [.tmp 9]⟩, false, []⟩, ⟨8, ⟨some 11, none, .op (.ifc 71) [.tmp 10]⟩, false, []⟩, ⟨9, ⟨some 12, none, .op (.bld #[(.string ⟨#[]⟩), .nilIface] [(0, 1), (1, 1)] [0, 1]) [.const (.string ⟨#[117, 116, 105, 108]⟩), .tmp 11]⟩, false, []⟩, ⟨10, ⟨some 13, none, .op .mv [.tmp 0]⟩, false, []⟩, ⟨11, ⟨some 14, none, .op .nck [.tmp 13]⟩, false, []⟩, ⟨12, ⟨some 15, none, .op (.fad 2) [.tmp 14]⟩, false, []⟩, ⟨13, ⟨some 16, none, .op (.ifc 74) [.tmp 15]⟩, false, []⟩, ⟨14, ⟨some 17, none, .op (.bld #[(.string ⟨#[]⟩), .nilIface] [(0, 1), (1, 1)] [0, 1]) [.const (.string ⟨#[115, 116, 97, 98, 108, 101]⟩), .tmp 16]⟩, false, []⟩, ⟨15, ⟨some 18, none, .op .mv [.tmp 0]⟩, false, []⟩, ⟨16, ⟨some 19, none, .op .nck [.tmp 18]⟩, false, []⟩, ⟨17, ⟨some 20, none, .op (.fad 3) [.tmp 19]⟩, false, []⟩, ⟨18, ⟨some 21, none, .op (.ifc 74) [.tmp 20]⟩, false, []⟩, ⟨19, ⟨some 22, none, .op (.bld #[(.string ⟨#[]⟩), .nilIface] [(0, 1), (1, 1)] [0, 1]) [.const (.string ⟨#[112, 97, 110, 105, 99]⟩), .tmp 21]⟩, false, []⟩, ⟨20, ⟨some 23, none, .op .mv [.tmp 0]⟩, false, []⟩, ⟨21, ⟨some 24, none, .op .nck [.tmp 23]⟩, false, []⟩, ⟨22, ⟨some 25, none, .op (.fad 4) [.tmp 24]⟩, false, []⟩, ⟨23, ⟨some 26, none, .op (.ifc 74) [.tmp 25]⟩, false, []⟩, ⟨24, ⟨some 27, none, .op (.bld #[(.string ⟨#[]⟩), .nilIface] [(0, 1), (1, 1)] [0, 1]) [.const (.string ⟨#[103, 114, 97, 105, 110]⟩), .tmp 26]⟩, false, []⟩, ⟨25, ⟨some 28, none, .op .mv [.tmp 0]⟩, false, []⟩, ⟨26, ⟨some 29, none, .op .nck [.tmp 28]⟩, false, []⟩, ⟨27, ⟨some 30, none, .op (.fad 5) [.tmp 29]⟩, false, []⟩, ⟨28, ⟨some 31, none, .op (.ifc 71) [.tmp 30]⟩, false, []⟩, ⟨29, ⟨some 32, none, .op (.bld #[(.string ⟨#[]⟩), .nilIface] [(0, 1), (1, 1)] [0, 1]) [.const (.string ⟨#[116, 104, 114, 101, 115, 104, 111, 108, 100]⟩), .tmp 31]⟩, false, []⟩, ⟨30, ⟨some 33, none, .op .mv [.tmp 0]⟩, false, []⟩, ⟨31, ⟨some 34, none, .op .nck [.tmp 33]⟩, false, []⟩, ⟨32, ⟨some 35, none, .op (.fad 6) [.tmp 34]⟩, false, []⟩, ⟨33, ⟨some 36, none, .op (.ifc 71) [.tmp 35]⟩, false, []⟩, ⟨34, ⟨some 37, none, .op (.bld #[(.string ⟨#[]⟩), .nilIface] [(0, 1), (1, 1)] [0, 1]) [.const (.string ⟨#[117, 112]⟩), .tmp 36]⟩, false, []⟩, ⟨35, ⟨some 38, none, .op .mv [.tmp 0]⟩, false, []⟩, ⟨36, ⟨some 39, none, .op .nck [.tmp 38]⟩, false, []⟩, ⟨37, ⟨some 40, none, .op (.fad 7) [.tmp 39]⟩, false, []⟩, ⟨38, ⟨some 41, none, .op (.ifc 71) [.tmp 40]⟩, false, []⟩, ⟨39, ⟨some 42, none, .op (.bld #[(.string ⟨#[]⟩), .nilIface] [(0, 1), (1, 1)] [0, 1]) [.const (.string ⟨#[100, 111, 119, 110]⟩), .tmp 41]⟩, false, []⟩, ⟨40, ⟨some 43, none, .op .mv [.tmp 0]⟩, false, []⟩, ⟨41, ⟨some 44, none, .op .nck [.tmp 43]⟩, false, []⟩, ⟨42, ⟨some 45, none, .op (.fad 8) [.tmp 44]⟩, false, []⟩, ⟨43, ⟨some 46, none, .op (.ifc 74) [.tmp 45]⟩, false, []⟩, ⟨44, ⟨some 47, none, .op (.bld #[(.string ⟨#[]⟩), .nilIface] [(0, 1), (1, 1)] [0, 1]) [.const (.string ⟨#[109, 105, 110]⟩), .tmp 46]⟩, false, []⟩, ⟨45, ⟨some 48, none, .op .mv [.tmp 0]⟩, false, []⟩, ⟨46, ⟨some 49, none, .op .nck [.tmp 48]⟩, false, []⟩, ⟨47, ⟨some 50, none, .op (.fad 9) [.tmp 49]⟩, false, []⟩, ⟨48, ⟨some 51, none, .op (.ifc 74) [.tmp 50]⟩, false, []⟩, ⟨49, ⟨some 52, none, .op (.bld #[(.string ⟨#[]⟩), .nilIface] [(0, 1), (1, 1)] [0, 1]) [.const (.string ⟨#[109, 97, 120]⟩), .tmp 51]⟩, false, []⟩, ⟨50, ⟨some 53, none, .op .mv [.tmp 0]⟩, false, []⟩, ⟨51, ⟨some 54, none, .op .nck [.tmp 53]⟩, false, []⟩, ⟨52, ⟨some 55, none, .op (.fad 10) [.tmp 54]⟩, false, []⟩, ⟨53, ⟨some 56, none, .op (.ifc 74) [.tmp 55]⟩, false, []⟩, ⟨54, ⟨some 57, none, .op (.bld #[(.string ⟨#[]⟩), .nilIface] [(0, 1), (1, 1)] [0, 1]) [.const (.string ⟨#[105, 110, 105, 116, 105, 97, 108]⟩), .tmp 56]⟩, false, []⟩, ⟨55, ⟨some 58, none, .op .mv [.tmp 0]⟩, false, []⟩, ⟨56, ⟨some 59, none, .op .nck [.tmp 58]⟩, false, []⟩, ⟨57, ⟨some 60, none, .op (.fad 11) [.tmp 59]⟩, false, []⟩, ⟨58, ⟨some 61, none, .op (.ifc 74) [.tmp 60]⟩, false, []⟩, ⟨59, ⟨some 62, none, .op (.bld #[(.string ⟨#[]⟩), .nilIface] [(0, 1), (1, 1)] [0, 1]) [.const (.string ⟨#[103, 114, 97, 99, 101]⟩), .tmp 61]⟩, false, []⟩, ⟨60, ⟨some 63, none, .op .mv [.tmp 0]⟩, false, []⟩, ⟨61, ⟨some 64, none, .op .nck [.tmp 63]⟩, false, []⟩, ⟨62, ⟨some 65, none, .op (.fad 12) [.tmp 64]⟩, false, []⟩, ⟨63, ⟨some 66, none, .op (.ifc 74) [.tmp 65]⟩, false, []⟩, ⟨64, ⟨some 67, none, .op (.bld #[(.string ⟨#[]⟩), .nilIface] [(0, 1), (1, 1)] [0, 1]) [.const (.string ⟨#[100, 101, 108, 97, 121]⟩), .tmp 66]⟩, false, []⟩, ⟨65, ⟨some 68, none, .op .mv [.tmp 0]⟩, false, []⟩, ⟨66, ⟨some 69, none, .op .nck [.tmp 68]⟩, false, []⟩, ⟨67, ⟨some 70, none, .op (.fad 13) [.tmp 69]⟩, false, []⟩, ⟨68, ⟨some 71, none, .op (.ifc 71) [.tmp 70]⟩, false, []⟩, ⟨69, ⟨some 72, none, .op (.bld #[(.string ⟨#[]⟩), .nilIface] [(0, 1), (1, 1)] [0, 1]) [.const (.string ⟨#[98, 117, 114, 115, 116]⟩), .tmp 71]⟩, false, []⟩, ⟨70, ⟨some 73, none, .op .mv [.tmp 0]⟩, false, []⟩, ⟨71, ⟨some 74, none, .op .nck [.tmp 73]⟩, false, []⟩, ⟨72, ⟨some 75, none, .op (.fad 14) [.tmp 74]⟩, false, []⟩, ⟨73, ⟨some 76, none, .op (.ifc 74) [.tmp 75]⟩, false, []⟩, ⟨74, ⟨some 77, none, .op (.bld #[(.string ⟨#[]⟩), .nilIface] [(0, 1), (1, 1)] [0, 1]) [.const (.string ⟨#[108, 105, 109, 105, 116]⟩), .tmp 76]⟩, false, []⟩, ⟨75, ⟨some 78, none, .op .mv [.tmp 0]⟩, false, []⟩, ⟨76, ⟨some 79, none, .op .nck [.tmp 78]⟩, false, []⟩, ⟨77, ⟨some 80, none, .op (.fad 15) [.tmp 79]⟩, false, []⟩, ⟨78, ⟨some 81, none, .op (.ifc 74) [.tmp 80]⟩, false, []⟩, ⟨79, ⟨some 82, none, .op (.bld #[(.string ⟨#[]⟩), .nilIface] [(0, 1), (1, 1)] [0, 1]) [.const (.string ⟨#[113, 117, 101, 117, 101]⟩), .tmp 81]⟩, false, []⟩, ⟨80, ⟨some 83, none, .op .mv [.tmp 0]⟩, false, []⟩, ⟨81, ⟨some 84, none, .op .nck [.tmp 83]⟩, false, []⟩, ⟨82, ⟨some 85, none, .op (.fad 16) [.tmp 84]⟩, false, []⟩, ⟨83, ⟨some 86, none, .op (.ifc 74) [.tmp 85]⟩, false, []⟩, ⟨84, ⟨some 87, none, .op (.bld #[(.string ⟨#[]⟩), .nilIface] [(0, 1), (1, 1)] [0, 1]) [.const (.string ⟨#[116, 105, 109, 101, 111, 117, 116]⟩), .tmp 86]⟩, false, []⟩, ⟨85, ⟨some 88, none, .op .mv [.tmp 0]⟩, false, []⟩, ⟨86, ⟨some 89, none, .op .nck [.tmp 88]⟩, false, []⟩, ⟨87, ⟨some 90, none, .op (.fad 17) [.tmp 89]⟩, false, []⟩, ⟨88, ⟨some 91, none, .op (.ifc 74) [.tmp 90]⟩, false, []⟩, ⟨89, ⟨some 92, none, .op (.bld #[(.string ⟨#[]⟩), .nilIface] [(0, 1), (1, 1)] [0, 1]) [.const (.string ⟨#[114, 101, 97, 100, 121]⟩), .tmp 91]⟩, false, []⟩, ⟨90, ⟨some 93, none, .op .mv [.tmp 0]⟩, false, []⟩, ⟨91, ⟨some 94, none, .op .nck [.tmp 93]⟩, false, []⟩, ⟨92, ⟨some 95, none, .op (.fad 18) [.tmp 94]⟩, false, []⟩, ⟨93, ⟨some 96, none, .op (.ifc 74) [.tmp 95]⟩, false, []⟩, ⟨94, ⟨some 97, none, .op (.bld #[(.string ⟨#[]⟩), .nilIface] [(0, 1), (1, 1)] [0, 1]) [.const (.string ⟨#[115, 117, 98, 115, 101, 116]⟩), .tmp 96]⟩, false, []⟩, ⟨95, ⟨some 98, none, .op .mv [.tmp 0]⟩, false, []⟩, ⟨96, ⟨some 99, none, .op .nck [.tmp 98]⟩, false, []⟩, ⟨97, ⟨some 100, none, .op (.fad 19) [.tmp 99]⟩, false, []⟩, ⟨98, ⟨some 101, none, .op (.ifc 74) [.tmp 100]⟩, false, []⟩, ⟨99, ⟨some 102, none, .op (.bld #[(.string ⟨#[]⟩), .nilIface] [(0, 1), (1, 1)] [0, 1]) [.const (.string ⟨#[115, 97, 109, 112, 108, 101]⟩), .tmp 101]⟩, false, []⟩, ⟨100, ⟨some 103, none, .op (.bsl 51 2 20 #[(.string ⟨#[]⟩), .nilIface, (.string ⟨#[]⟩), .nilIface, (.string ⟨#[]⟩), .nilIface, (.string ⟨#[]⟩), .nilIface, (.string ⟨#[]⟩), .nilIface, (.string ⟨#[]⟩), .nilIface, (.string ⟨#[]⟩), .nilIface, (.string ⟨#[]⟩), .nilIface, (.string ⟨#[]⟩), .nilIface, (.string ⟨#[]⟩), .nilIface, (.string ⟨#[]⟩), .nilIface, (.string ⟨#[]⟩), .nilIface, (.string ⟨#[]⟩), .nilIface, (.string ⟨#[]⟩), .nilIface, (.string ⟨#[]⟩), .nilIface, (.string ⟨#[]⟩), .nilIface, (.string ⟨#[]⟩), .nilIface, (.string ⟨#[]⟩), .nilIface, (.string ⟨#[]⟩), .nilIface, (.string ⟨#[]⟩), .nilIface] [0, 1, 2, 3, 4, 5, 6, 7, 8, 9, 10, 11, 12, 13, 14, 15, 16, 17, 18, 19]) [.tmp 7, .tmp 12, .tmp 17, .tmp 22, .tmp 27, .tmp 32, .tmp 37, .tmp 42, .tmp 47, .tmp 52, .tmp 57, .tmp 62, .tmp 67, .tmp 72, .tmp 77, .tmp 82, .tmp 87, .tmp 92, .tmp 97, .tmp 102]⟩, true, []⟩, ⟨101, ⟨some 2, none, .op .mv [.tmp 103]⟩, false, []⟩]) (.ret))⟩
theorem c25 : compF Go.Proofs.Tryd.prog Go.Proofs.Tryd.f25 = some ir25 := by kernel_rfl
/-- (spinnaker/text.part).set -/
def ir26 : FI :=
  ⟨40, [.tmp 4], .seq (.reg [⟨some 2, none, .op (.box 51) [.tmp 0]⟩, ⟨some 4, none, .op .mv [.const (.bool false)]⟩]) (.seq (.seq (.reg [⟨some 12, none, .op (.fad 1) [.tmp 2]⟩, ⟨some 13, none, .op .ld1 [.tmp 12]⟩, ⟨some 14, none, .op (.tas 71 true (.pointer none)) [.tmp 13]⟩, ⟨some 11, none, .op .mv [.tmp 14]⟩, ⟨some 15, none, .op (.ext 0) [.tmp 11]⟩, ⟨some 16, none, .op (.ext 1) [.tmp 11]⟩, ⟨some 5, none, .op .mv [.tmp 15]⟩, ⟨some 6, none, .op .mv [.tmp 16]⟩]) (.seq (.reg [⟨some 17, none, .op .mv [.tmp 6]⟩]) (.cond (.tmp 17) (.seq (.reg [⟨some 19, none, .op .mv [.tmp 1]⟩, ⟨some 20, none, .call 12 [.tmp 19]⟩, ⟨some 18, none, .op .mv [.tmp 20]⟩, ⟨some 21, none, .op (.ext 0) [.tmp 18]⟩, ⟨some 22, none, .op (.ext 1) [.tmp 18]⟩, ⟨some 7, none, .op .mv [.tmp 21]⟩, ⟨some 8, none, .op .mv [.tmp 22]⟩]) (.seq (.seq (.reg [⟨some 23, none, .op .mv [.tmp 8]⟩]) (.cond (.tmp 23) (.reg [⟨some 24, none, .op .mv [.tmp 5]⟩, ⟨some 25, none, .op .mv [.tmp 7]⟩, ⟨some 26, none, .op .nck [.tmp 24]⟩, ⟨none, none, .op (.st 1) [.tmp 26, .tmp 25]⟩]) (.skip))) (.seq (.reg [⟨some 27, none, .op .mv [.tmp 8]⟩, ⟨some 4, none, .op .mv [.tmp 27]⟩]) (.ret)))) (.skip)))) (.seq (.reg [⟨some 29, none, .op .mv [.tmp 1]⟩, ⟨some 30, none, .call 29 [.tmp 29, .const (.int .i64 6)]⟩, ⟨some 28, none, .op .mv [.tmp 30]⟩, ⟨some 31, none, .op (.ext 0) [.tmp 28]⟩, ⟨some 32, none, .op (.ext 1) [.tmp 28]⟩, ⟨some 9, none, .op .mv [.tmp 31]⟩, ⟨some 10, none, .op .mv [.tmp 32]⟩]) (.seq (.seq (.reg [⟨some 33, none, .op .mv [.tmp 10]⟩]) (.cond (.tmp 33) (.reg [⟨some 34, none, .op (.fad 1) [.tmp 2]⟩, ⟨some 35, none, .op .ld1 [.tmp 34]⟩, ⟨some 36, none, .op (.tas 74 false .nilIface) [.tmp 35]⟩, ⟨some 37, none, .op .mv [.tmp 9]⟩, ⟨some 38, none, .op .nck [.tmp 36]⟩, ⟨none, none, .op (.st 1) [.tmp 38, .tmp 37]⟩]) (.skip))) (.seq (.reg [⟨some 39, none, .op .mv [.tmp 10]⟩, ⟨some 4, none, .op .mv [.tmp 39]⟩]) (.ret)))))⟩
theorem c26 : compF Go.Proofs.Tryd.prog Go.Proofs.Tryd.f26 = some ir26 := by kernel_rfl
/-- spinnaker/conf.May -/
def ir27 : FI :=
  ⟨6, [.tmp 2], .seq (.reg [⟨some 1, none, .op (.box 24) [.tmp 0]⟩, ⟨some 2, none, .op .mv [.const (.bool false)]⟩]) (.seq (.reg [⟨some 3, none, .op (.ldn 20) [.tmp 1]⟩, ⟨some 4, none, .call 50 [.tmp 3]⟩, ⟨some 5, none, .op (.bin .eql) [.tmp 4, .const (.string ⟨#[]⟩)]⟩, ⟨some 2, none, .op .mv [.tmp 5]⟩]) (.ret))⟩
theorem c27 : compF Go.Proofs.Tryd.prog Go.Proofs.Tryd.f27 = some ir27 := by kernel_rfl
/-- strings.CutPrefix -/
def ir28 : FI :=
  ⟨11, [.tmp 4, .tmp 5], .seq (.reg [⟨some 4, none, .op .mv [.const (.string ⟨#[]⟩)]⟩, ⟨some 5, none, .op .mv [.const (.bool false)]⟩]) (.seq (.reg [⟨some 6, none, .op .mv [.tmp 0]⟩, ⟨some 7, none, .op .mv [.tmp 1]⟩, ⟨some 8, none, .call 51 [.tmp 6, .tmp 7]⟩, ⟨some 9, none, .op (.ext 0) [.tmp 8]⟩, ⟨some 10, none, .op (.ext 1) [.tmp 8]⟩, ⟨some 4, none, .op .mv [.tmp 9]⟩, ⟨some 5, none, .op .mv [.tmp 10]⟩]) (.ret))⟩
theorem c28 : compF Go.Proofs.Tryd.prog Go.Proofs.Tryd.f28 = some ir28 := by kernel_rfl
/-- spinnaker/text.digits -/
def ir29 : FI :=
  ⟨28, [.tmp 4, .tmp 5], .seq (.reg [⟨some 4, none, .op .mv [.const (.int .i64 0)]⟩, ⟨some 5, none, .op .mv [.const (.bool false)]⟩]) (.seq (.seq (.reg [⟨some 8, none, .op .mv [.tmp 0]⟩, ⟨some 9, none, .op .lens [.tmp 8]⟩, ⟨some 10, none, .op (.bin .lss) [.tmp 9, .const (.int .i64 1)]⟩, ⟨some 11, none, .op .mv [.tmp 10]⟩, ⟨some 12, some (11, false), .op .mv [.tmp 0]⟩, ⟨some 13, some (11, false), .op .lens [.tmp 12]⟩, ⟨some 14, some (11, false), .op .mv [.tmp 1]⟩, ⟨some 15, some (11, false), .op (.bin .gtr) [.tmp 13, .tmp 14]⟩, ⟨some 16, none, .op .pick [.tmp 11, .const (.bool true), .tmp 15]⟩, ⟨some 17, none, .op .mv [.tmp 16]⟩, ⟨some 18, some (17, false), .op .mv [.tmp 0]⟩, ⟨some 19, some (17, false), .call 23 [.tmp 18, .const (.string ⟨#[48, 49, 50, 51, 52, 53, 54, 55, 56, 57]⟩)]⟩, ⟨some 20, some (17, false), .op (.bin .neq) [.tmp 19, .const (.string ⟨#[]⟩)]⟩, ⟨some 21, none, .op .pick [.tmp 17, .const (.bool true), .tmp 20]⟩]) (.cond (.tmp 21) (.seq (.reg [⟨some 4, none, .op .mv [.const (.int .i64 0)]⟩, ⟨some 5, none, .op .mv [.const (.bool false)]⟩]) (.ret)) (.skip))) (.seq (.reg [⟨some 23, none, .op .mv [.tmp 0]⟩, ⟨some 24, none, .call 52 [.tmp 23, .const (.int .i64 10), .const (.int .i64 64)]⟩, ⟨some 22, none, .op .mv [.tmp 24]⟩, ⟨some 25, none, .op (.ext 0) [.tmp 22]⟩, ⟨some 26, none, .op (.ext 1) [.tmp 22]⟩, ⟨some 6, none, .op .mv [.tmp 25]⟩, ⟨some 7, none, .op .mv [.tmp 26]⟩]) (.seq (.reg [⟨some 27, none, .op .mv [.tmp 6]⟩, ⟨some 4, none, .op .mv [.tmp 27]⟩, ⟨some 5, none, .op .mv [.const (.bool true)]⟩]) (.ret))))⟩
theorem c29 : compF Go.Proofs.Tryd.prog Go.Proofs.Tryd.f29 = some ir29 := by kernel_rfl
/-- spinnaker/spinnakerref1.digits -/
def ir30 : FI :=
  ⟨41, [.tmp 4], .seq (.reg [⟨some 4, none, .op .mv [.const (.int .i64 0)]⟩]) (.seq (.seq (.reg [⟨some 7, none, .op .mv [.tmp 0]⟩, ⟨some 8, none, .op .lens [.tmp 7]⟩, ⟨some 9, none, .op (.bin .lss) [.tmp 8, .const (.int .i64 1)]⟩, ⟨some 10, none, .op .mv [.tmp 9]⟩, ⟨some 11, some (10, false), .op .mv [.tmp 0]⟩, ⟨some 12, some (10, false), .op .lens [.tmp 11]⟩, ⟨some 13, some (10, false), .op .mv [.tmp 1]⟩, ⟨some 14, some (10, false), .op (.bin .gtr) [.tmp 12, .tmp 13]⟩, ⟨some 15, none, .op .pick [.tmp 10, .const (.bool true), .tmp 14]⟩]) (.cond (.tmp 15) (.seq (.reg [⟨some 4, none, .op .mv [.const (.int .i64 (-1))]⟩]) (.ret)) (.skip))) (.seq (.reg [⟨some 5, none, .op .mv [.const (.int .i64 0)]⟩]) (.seq (.seq (.reg [⟨some 6, none, .op .mv [.const (.int .i64 0)]⟩]) (.block 0 (.loop (.seq (.seq (.reg [⟨some 16, none, .op .mv [.tmp 6]⟩, ⟨some 17, none, .op .mv [.tmp 0]⟩, ⟨some 18, none, .op .lens [.tmp 17]⟩, ⟨some 19, none, .op (.bin .lss) [.tmp 16, .tmp 18]⟩]) (.cond (.tmp 19) (.skip) (.exit 0))) (.seq (.block 1 (.seq (.seq (.reg [⟨some 22, none, .op .mv [.tmp 0]⟩, ⟨some 23, none, .op .mv [.tmp 6]⟩, ⟨some 24, none, .op .ixs [.tmp 22, .tmp 23]⟩, ⟨some 25, none, .op (.bin .lss) [.tmp 24, .const (.int .u8 48)]⟩, ⟨some 26, none, .op .mv [.tmp 25]⟩, ⟨some 27, some (26, false), .op .mv [.tmp 0]⟩, ⟨some 28, some (26, false), .op .mv [.tmp 6]⟩, ⟨some 29, some (26, false), .op .ixs [.tmp 27, .tmp 28]⟩, ⟨some 30, some (26, false), .op (.bin .gtr) [.tmp 29, .const (.int .u8 57)]⟩, ⟨some 31, none, .op .pick [.tmp 26, .const (.bool true), .tmp 30]⟩]) (.cond (.tmp 31) (.seq (.reg [⟨some 4, none, .op .mv [.const (.int .i64 (-1))]⟩]) (.ret)) (.skip))) (.reg [⟨some 32, none, .op .mv [.tmp 5]⟩, ⟨some 33, none, .op (.bin .mul) [.tmp 32, .const (.int .i64 10)]⟩, ⟨some 34, none, .op .mv [.tmp 0]⟩, ⟨some 35, none, .op .mv [.tmp 6]⟩, ⟨some 36, none, .op .ixs [.tmp 34, .tmp 35]⟩, ⟨some 37, none, .op (.bin .sub) [.tmp 36, .const (.int .u8 48)]⟩, ⟨some 38, none, .op (.cvt .i64) [.tmp 37]⟩, ⟨some 39, none, .op (.bin .add) [.tmp 33, .tmp 38]⟩, ⟨some 5, none, .op .mv [.tmp 39]⟩]))) (.reg [⟨some 20, none, .op .mv [.tmp 6]⟩, ⟨some 21, none, .op (.bin .add) [.tmp 20, .const (.int .i64 1)]⟩, ⟨some 6, none, .op .mv [.tmp 21]⟩])))))) (.seq (.reg [⟨some 40, none, .op .mv [.tmp 5]⟩, ⟨some 4, none, .op .mv [.tmp 40]⟩]) (.ret)))))⟩
theorem c30 : compF Go.Proofs.Tryd.prog Go.Proofs.Tryd.f30 = some ir30 := by kernel_rfl
/-- spinnaker/spinnakerref1.Values -/
def ir31 : FI :=
  ⟨44, [.tmp 2], .seq (.reg [⟨some 1, none, .op (.box 24) [.tmp 0]⟩, ⟨some 2, none, .op .mv [.const (.slice none 0 0)]⟩]) (.seq (.reg [⟨some 3, none, .op (.fad 0) [.tmp 1]⟩, ⟨some 4, none, .op .ld1 [.tmp 3]⟩, ⟨some 5, none, .op (.fad 1) [.tmp 1]⟩, ⟨some 6, none, .op .ld1 [.tmp 5]⟩, ⟨some 7, none, .op (.fad 2) [.tmp 1]⟩, ⟨some 8, none, .op .ld1 [.tmp 7]⟩, ⟨some 9, none, .op (.fad 3) [.tmp 1]⟩, ⟨some 10, none, .op .ld1 [.tmp 9]⟩, ⟨some 11, none, .op (.fad 4) [.tmp 1]⟩, ⟨some 12, none, .op .ld1 [.tmp 11]⟩, ⟨some 13, none, .op (.fad 5) [.tmp 1]⟩, ⟨some 14, none, .op .ld1 [.tmp 13]⟩, ⟨some 15, none, .op (.fad 6) [.tmp 1]⟩, ⟨some 16, none, .op .ld1 [.tmp 15]⟩, ⟨some 17, none, .op (.fad 7) [.tmp 1]⟩, ⟨some 18, none, .op .ld1 [.tmp 17]⟩, ⟨some 19, none, .op (.fad 8) [.tmp 1]⟩, ⟨some 20, none, .op .ld1 [.tmp 19]⟩, ⟨some 21, none, .op (.fad 9) [.tmp 1]⟩, ⟨some 22, none, .op .ld1 [.tmp 21]⟩, ⟨some 23, none, .op (.fad 10) [.tmp 1]⟩, ⟨some 24, none, .op .ld1 [.tmp 23]⟩, ⟨some 25, none, .op (.fad 11) [.tmp 1]⟩, ⟨some 26, none, .op .ld1 [.tmp 25]⟩, ⟨some 27, none, .op (.fad 12) [.tmp 1]⟩, ⟨some 28, none, .op .ld1 [.tmp 27]⟩, ⟨some 29, none, .op (.fad 13) [.tmp 1]⟩, ⟨some 30, none, .op .ld1 [.tmp 29]⟩, ⟨some 31, none, .op (.fad 14) [.tmp 1]⟩, ⟨some 32, none, .op .ld1 [.tmp 31]⟩, ⟨some 33, none, .op (.fad 15) [.tmp 1]⟩, ⟨some 34, none, .op .ld1 [.tmp 33]⟩, ⟨some 35, none, .op (.fad 16) [.tmp 1]⟩, ⟨some 36, none, .op .ld1 [.tmp 35]⟩, ⟨some 37, none, .op (.fad 17) [.tmp 1]⟩, ⟨some 38, none, .op .ld1 [.tmp 37]⟩, ⟨some 39, none, .op (.fad 18) [.tmp 1]⟩, ⟨some 40, none, .op .ld1 [.tmp 39]⟩, ⟨some 41, none, .op (.fad 19) [.tmp 1]⟩, ⟨some 42, none, .op .ld1 [.tmp 41]⟩, ⟨some 43, none, .op (.bsl 2 1 20 #[(.int .i64 0), (.int .i64 0), (.int .i64 0), (.int .i64 0), (.int .i64 0), (.int .i64 0), (.int .i64 0), (.int .i64 0), (.int .i64 0), (.int .i64 0), (.int .i64 0), (.int .i64 0), (.int .i64 0), (.int .i64 0), (.int .i64 0), (.int .i64 0), (.int .i64 0), (.int .i64 0), (.int .i64 0), (.int .i64 0)] [0, 1, 2, 3, 4, 5, 6, 7, 8, 9, 10, 11, 12, 13, 14, 15, 16, 17, 18, 19]) [.tmp 4, .tmp 6, .tmp 8, .tmp 10, .tmp 12, .tmp 14, .tmp 16, .tmp 18, .tmp 20, .tmp 22, .tmp 24, .tmp 26, .tmp 28, .tmp 30, .tmp 32, .tmp 34, .tmp 36, .tmp 38, .tmp 40, .tmp 42]⟩, ⟨some 2, none, .op .mv [.tmp 43]⟩]) (.ret))⟩
theorem c31 : compF Go.Proofs.Tryd.prog Go.Proofs.Tryd.f31 = some ir31 := by kernel_rfl
/-- spinnaker/spinnakerref1.line -/
def ir32 : FI :=
  ⟨55, [.tmp 2, .tmp 3], .seq (.reg [⟨some 2, none, .op .mv [.const (.int .i64 0)]⟩, ⟨some 3, none, .op .mv [.const (.int .i64 0)]⟩]) (.seq (.seq (.reg [⟨some 4, none, .op .mv [.const (.int .i64 0)]⟩]) (.block 0 (.loop (.seq (.seq (.reg [⟨some 9, none, .op .mv [.tmp 4]⟩, ⟨some 10, none, .call 21 []⟩, ⟨some 11, none, .op .len [.tmp 10]⟩, ⟨some 12, none, .op (.bin .lss) [.tmp 9, .tmp 11]⟩]) (.cond (.tmp 12) (.skip) (.exit 0))) (.seq (.block 1 (.seq (.reg [⟨some 15, none, .call 21 []⟩, ⟨some 16, none, .op .mv [.tmp 4]⟩, ⟨some 17, none, .op (.iad 1) [.tmp 15, .tmp 16]⟩, ⟨some 18, none, .op .ld1 [.tmp 17]⟩, ⟨some 19, none, .op (.bin .add) [.tmp 18, .const (.string ⟨#[58, 32]⟩)]⟩, ⟨some 5, none, .op .mv [.tmp 19]⟩]) (.seq (.seq (.reg [⟨some 20, none, .op .mv [.tmp 0]⟩, ⟨some 21, none, .op .lens [.tmp 20]⟩, ⟨some 22, none, .op .mv [.tmp 5]⟩, ⟨some 23, none, .op .lens [.tmp 22]⟩, ⟨some 24, none, .op (.bin .lss) [.tmp 21, .tmp 23]⟩, ⟨some 25, none, .op .mv [.tmp 24]⟩, ⟨some 26, some (25, false), .op .mv [.tmp 0]⟩, ⟨some 27, some (25, false), .op .mv [.tmp 5]⟩, ⟨some 28, some (25, false), .op .lens [.tmp 27]⟩, ⟨some 29, some (25, false), .op (.sls false true) [.tmp 26, .tmp 28]⟩, ⟨some 30, some (25, false), .op .mv [.tmp 5]⟩, ⟨some 31, some (25, false), .op (.bin .neq) [.tmp 29, .tmp 30]⟩, ⟨some 32, none, .op .pick [.tmp 25, .const (.bool true), .tmp 31]⟩]) (.cond (.tmp 32) (.exit 1) (.skip))) (.seq (.seq (.reg [⟨some 33, none, .op .mv [.tmp 4]⟩, ⟨some 34, none, .call 37 [.tmp 33]⟩]) (.cond (.tmp 34) (.seq (.reg [⟨some 36, none, .op .mv [.tmp 0]⟩, ⟨some 37, none, .op .mv [.tmp 5]⟩, ⟨some 38, none, .op .lens [.tmp 37]⟩, ⟨some 39, none, .op (.sls true false) [.tmp 36, .tmp 38]⟩, ⟨some 40, none, .call 13 [.tmp 39]⟩, ⟨some 35, none, .op .mv [.tmp 40]⟩, ⟨some 41, none, .op (.ext 0) [.tmp 35]⟩, ⟨some 42, none, .op (.ext 1) [.tmp 35]⟩, ⟨some 6, none, .op .mv [.tmp 41]⟩, ⟨some 7, none, .op .mv [.tmp 42]⟩]) (.seq (.seq (.reg [⟨some 43, none, .op .mv [.tmp 7]⟩]) (.cond (.tmp 43) (.seq (.reg [⟨some 44, none, .op .mv [.tmp 4]⟩, ⟨some 45, none, .op .mv [.tmp 6]⟩, ⟨some 2, none, .op .mv [.tmp 44]⟩, ⟨some 3, none, .op .mv [.tmp 45]⟩]) (.ret)) (.skip))) (.seq (.reg [⟨some 2, none, .op .mv [.const (.int .i64 (-1))]⟩, ⟨some 3, none, .op .mv [.const (.int .i64 0)]⟩]) (.ret)))) (.skip))) (.seq (.reg [⟨some 46, none, .op .mv [.tmp 0]⟩, ⟨some 47, none, .op .mv [.tmp 5]⟩, ⟨some 48, none, .op .lens [.tmp 47]⟩, ⟨some 49, none, .op (.sls true false) [.tmp 46, .tmp 48]⟩, ⟨some 50, none, .call 30 [.tmp 49, .const (.int .i64 6)]⟩, ⟨some 8, none, .op .mv [.tmp 50]⟩]) (.seq (.reg [⟨some 51, none, .op .mv [.tmp 8]⟩, ⟨some 52, none, .op (.bin .geq) [.tmp 51, .const (.int .i64 0)]⟩]) (.cond (.tmp 52) (.seq (.reg [⟨some 53, none, .op .mv [.tmp 4]⟩, ⟨some 54, none, .op .mv [.tmp 8]⟩, ⟨some 2, none, .op .mv [.tmp 53]⟩, ⟨some 3, none, .op .mv [.tmp 54]⟩]) (.ret)) (.skip)))))))) (.reg [⟨some 13, none, .op .mv [.tmp 4]⟩, ⟨some 14, none, .op (.bin .add) [.tmp 13, .const (.int .i64 1)]⟩, ⟨some 4, none, .op .mv [.tmp 14]⟩])))))) (.seq (.reg [⟨some 2, none, .op .mv [.const (.int .i64 (-1))]⟩, ⟨some 3, none, .op .mv [.const (.int .i64 0)]⟩]) (.ret)))⟩
theorem c32 : compF Go.Proofs.Tryd.prog Go.Proofs.Tryd.f32 = some ir32 := by kernel_rfl
/-- spinnaker/spinnakerref1.Made -/
def ir33 : FI :=
  ⟨64, [.cell 2 24], .seq (.reg [⟨some 2, none, .op (.new 24 (.agg #[(.int .i64 0), (.int .i64 0), (.int .i64 0), (.int .i64 0), (.int .i64 0), (.int .i64 0), (.int .i64 0), (.int .i64 0), (.int .i64 0), (.int .i64 0), (.int .i64 0), (.int .i64 0), (.int .i64 0), (.int .i64 0), (.int .i64 0), (.int .i64 0), (.int .i64 0), (.int .i64 0), (.int .i64 0), (.int .i64 0)])) []⟩]) (.seq (.drw [⟨0, ⟨some 3, none, .op .mv [.tmp 0]⟩, false, []⟩, ⟨1, ⟨some 4, none, .op (.iad 1) [.tmp 3, .const (.int .i64 0)]⟩, false, []⟩, ⟨2, ⟨some 5, none, .op .ld1 [.tmp 4]⟩, false, []⟩, ⟨3, ⟨some 6, none, .op .mv [.tmp 0]⟩, false, []⟩, ⟨4, ⟨some 7, none, .op (.iad 1) [.tmp 6, .const (.int .i64 1)]⟩, false, []⟩, ⟨5, ⟨some 8, none, .op .ld1 [.tmp 7]⟩, false, []⟩, ⟨6, ⟨some 9, none, .op .mv [.tmp 0]⟩, false, []⟩, ⟨7, ⟨some 10, none, .op (.iad 1) [.tmp 9, .const (.int .i64 2)]⟩, false, []⟩, ⟨8, ⟨some 11, none, .op .ld1 [.tmp 10]⟩, false, []⟩, ⟨9, ⟨some 12, none, .op .mv [.tmp 0]⟩, false, []⟩, ⟨10, ⟨some 13, none, .op (.iad 1) [.tmp 12, .const (.int .i64 3)]⟩, false, []⟩, ⟨11, ⟨some 14, none, .op .ld1 [.tmp 13]⟩, false, []⟩, ⟨12, ⟨some 15, none, .op .mv [.tmp 0]⟩, false, []⟩, ⟨13, ⟨some 16, none, .op (.iad 1) [.tmp 15, .const (.int .i64 4)]⟩, false, []⟩, ⟨14, ⟨some 17, none, .op .ld1 [.tmp 16]⟩, false, []⟩, ⟨15, ⟨some 18, none, .op .mv [.tmp 0]⟩, false, []⟩, ⟨16, ⟨some 19, none, .op (.iad 1) [.tmp 18, .const (.int .i64 5)]⟩, false, []⟩, ⟨17, ⟨some 20, none, .op .ld1 [.tmp 19]⟩, false, []⟩, ⟨18, ⟨some 21, none, .op .mv [.tmp 0]⟩, false, []⟩, ⟨19, ⟨some 22, none, .op (.iad 1) [.tmp 21, .const (.int .i64 6)]⟩, false, []⟩, ⟨20, ⟨some 23, none, .op .ld1 [.tmp 22]⟩, false, []⟩, ⟨21, ⟨some 24, none, .op .mv [.tmp 0]⟩, false, []⟩, ⟨22, ⟨some 25, none, .op (.iad 1) [.tmp 24, .const (.int .i64 7)]⟩, false, []⟩, ⟨23, ⟨some 26, none, .op .ld1 [.tmp 25]⟩, false, []⟩, ⟨24, ⟨some 27, none, .op .mv [.tmp 0]⟩, false, []⟩, ⟨25, ⟨some 28, none, .op (.iad 1) [.tmp 27, .const (.int .i64 8)]⟩, false, []⟩, ⟨26, ⟨some 29, none, .op .ld1 [.tmp 28]⟩, false, []⟩, ⟨27, ⟨some 30, none, .op .mv [.tmp 0]⟩, false, []⟩, ⟨28, ⟨some 31, none, .op (.iad 1) [.tmp 30, .const (.int .i64 9)]⟩, false, []⟩, ⟨29, ⟨some 32, none, .op .ld1 [.tmp 31]⟩, false, []⟩, ⟨30, ⟨some 33, none, .op .mv [.tmp 0]⟩, false, []⟩, ⟨31, ⟨some 34, none, .op (.iad 1) [.tmp 33, .const (.int .i64 10)]⟩, false, []⟩, ⟨32, ⟨some 35, none, .op .ld1 [.tmp 34]⟩, false, []⟩, ⟨33, ⟨some 36, none, .op .mv [.tmp 0]⟩, false, []⟩, ⟨34, ⟨some 37, none, .op (.iad 1) [.tmp 36, .const (.int .i64 11)]⟩, false, []⟩, ⟨35, ⟨some 38, none, .op .ld1 [.tmp 37]⟩, false, []⟩, ⟨36, ⟨some 39, none, .op .mv [.tmp 0]⟩, false, []⟩, ⟨37, ⟨some 40, none, .op (.iad 1) [.tmp 39, .const (.int .i64 12)]⟩, false, []⟩, ⟨38, ⟨some 41, none, .op .ld1 [.tmp 40]⟩, false, []⟩, ⟨39, ⟨some 42, none, .op .mv [.tmp 0]⟩, false, []⟩, ⟨40, ⟨some 43, none, .op (.iad 1) [.tmp 42, .const (.int .i64 13)]⟩, false, []⟩, ⟨41, ⟨some 44, none, .op .ld1 [.tmp 43]⟩, false, []⟩, ⟨42, ⟨some 45, none, .op .mv [.tmp 0]⟩, false, []⟩, ⟨43, ⟨some 46, none, .op (.iad 1) [.tmp 45, .const (.int .i64 14)]⟩, false, []⟩, ⟨44, ⟨some 47, none, .op .ld1 [.tmp 46]⟩, false, []⟩, ⟨45, ⟨some 48, none, .op .mv [.tmp 0]⟩, false, []⟩, ⟨46, ⟨some 49, none, .op (.iad 1) [.tmp 48, .const (.int .i64 15)]⟩, false, []⟩, ⟨47, ⟨some 50, none, .op .ld1 [.tmp 49]⟩, false, []⟩, ⟨48, ⟨some 51, none, .op .mv [.tmp 0]⟩, false, []⟩, ⟨49, ⟨some 52, none, .op (.iad 1) [.tmp 51, .const (.int .i64 16)]⟩, false, []⟩, ⟨50, ⟨some 53, none, .op .ld1 [.tmp 52]⟩, false, []⟩, ⟨51, ⟨some 54, none, .op .mv [.tmp 0]⟩, false, []⟩, ⟨52, ⟨some 55, none, .op (.iad 1) [.tmp 54, .const (.int .i64 17)]⟩, false, []⟩, ⟨53, ⟨some 56, none, .op .ld1 [.tmp 55]⟩, false, []⟩, ⟨54, ⟨some 57, none, .op .mv [.tmp 0]⟩, false, []⟩, ⟨55, ⟨some 58, none, .op (.iad 1) [.tmp 57, .const (.int .i64 18)]⟩, false, []⟩, ⟨56, ⟨some 59, none, .op .ld1 [.tmp 58]⟩, false, []⟩, ⟨57, ⟨some 60, none, .op .mv [.tmp 0]⟩, false, []⟩, ⟨58, ⟨some 61, none, .op (.iad 1) [.tmp 60, .const (.int .i64 19)]⟩, false, []⟩, ⟨59, ⟨some 62, none, .op .ld1 [.tmp 61]⟩, false, []⟩, ⟨60, ⟨some 63, none, .op (.bld #[(.int .i64 0), (.int .i64 0), (.int .i64 0), (.int .i64 0), (.int .i64 0), (.int .i64 0), (.int .i64 0), (.int .i64 0), (.int .i64 0), (.int .i64 0), (.int .i64 0), (.int .i64 0), (.int .i64 0), (.int .i64 0), (.int .i64 0), (.int .i64 0), (.int .i64 0), (.int .i64 0), (.int .i64 0), (.int .i64 0)] [(0, 1), (1, 1), (2, 1), (3, 1), (4, 1), (5, 1), (6, 1), (7, 1), (8, 1), (9, 1), (10, 1), (11, 1), (12, 1), (13, 1), (14, 1), (15, 1), (16, 1), (17, 1), (18, 1), (19, 1)] [0, 1, 2, 3, 4, 5, 6, 7, 8, 9, 10, 11, 12, 13, 14, 15, 16, 17, 18, 19]) [.tmp 5, .tmp 8, .tmp 11, .tmp 14, .tmp 17, .tmp 20, .tmp 23, .tmp 26, .tmp 29, .tmp 32, .tmp 35, .tmp 38, .tmp 41, .tmp 44, .tmp 47, .tmp 50, .tmp 53, .tmp 56, .tmp 59, .tmp 62]⟩, false, []⟩, ⟨61, ⟨none, none, .op (.st 20) [.tmp 2, .tmp 63]⟩, true, []⟩]) (.ret))⟩
theorem c33 : compF Go.Proofs.Tryd.prog Go.Proofs.Tryd.f33 = some ir33 := by kernel_rfl
/-- (*strings.Builder).WriteString -/
def ir34 : FI :=
  ⟨19, [.tmp 4, .tmp 5], .seq (.reg [⟨some 4, none, .op .mv [.const (.int .i64 0)]⟩, ⟨some 5, none, .op .mv [.const .nilIface]⟩]) (.seq (.reg [⟨some 6, none, .op .mv [.tmp 0]⟩, ⟨some 7, none, .call 53 [.tmp 6]⟩]) (.seq (.reg [⟨some 8, none, .op .mv [.tmp 0]⟩, ⟨some 9, none, .op .mv [.tmp 0]⟩, ⟨some 10, none, .op .nck [.tmp 9]⟩, ⟨some 11, none, .op (.fad 1) [.tmp 10]⟩, ⟨some 12, none, .op .ld1 [.tmp 11]⟩, ⟨some 13, none, .op .mv [.tmp 1]⟩, ⟨some 14, none, .op (.aps 5) [.tmp 12, .tmp 13]⟩, ⟨some 15, none, .op .nck [.tmp 8]⟩, ⟨some 16, none, .op (.fad 1) [.tmp 15]⟩, ⟨none, none, .op (.st 1) [.tmp 16, .tmp 14]⟩]) (.seq (.reg [⟨some 17, none, .op .mv [.tmp 1]⟩, ⟨some 18, none, .op .lens [.tmp 17]⟩, ⟨some 4, none, .op .mv [.tmp 18]⟩, ⟨some 5, none, .op .mv [.const .nilIface]⟩]) (.ret))))⟩
theorem c34 : compF Go.Proofs.Tryd.prog Go.Proofs.Tryd.f34 = some ir34 := by kernel_rfl
/-- strconv.Itoa -/
def ir35 : FI :=
  ⟨5, [.tmp 2], .seq (.reg [⟨some 2, none, .op .mv [.const (.string ⟨#[]⟩)]⟩]) (.seq (.reg [⟨some 3, none, .op .mv [.tmp 0]⟩, ⟨some 4, none, .call 54 [.tmp 3]⟩, ⟨some 2, none, .op .mv [.tmp 4]⟩]) (.ret))⟩
theorem c35 : compF Go.Proofs.Tryd.prog Go.Proofs.Tryd.f35 = some ir35 := by kernel_rfl
/-- (*strings.Builder).String -/
def ir36 : FI :=
  ⟨14, [.tmp 2], .seq (.reg [⟨some 2, none, .op .mv [.const (.string ⟨#[]⟩)]⟩]) (.seq (.drw [⟨0, ⟨some 3, none, .op .mv [.tmp 0]⟩, false, []⟩, ⟨1, ⟨some 4, none, .op .nck [.tmp 3]⟩, false, []⟩, ⟨2, ⟨some 5, none, .op (.fad 1) [.tmp 4]⟩, false, []⟩, ⟨3, ⟨some 6, none, .op .ld1 [.tmp 5]⟩, false, []⟩, ⟨5, ⟨some 8, none, .op .mv [.tmp 0]⟩, false, []⟩, ⟨6, ⟨some 9, none, .op .nck [.tmp 8]⟩, false, []⟩, ⟨7, ⟨some 10, none, .op (.fad 1) [.tmp 9]⟩, false, []⟩, ⟨8, ⟨some 11, none, .op .ld1 [.tmp 10]⟩, false, []⟩, ⟨9, ⟨some 12, none, .op .len [.tmp 11]⟩, false, []⟩, ⟨4, ⟨some 7, none, .op .sdt [.tmp 6]⟩, true, [⟨some 11, none, .op .ld1 [.tmp 10]⟩]⟩, ⟨10, ⟨some 13, none, .op (.ust 5) [.tmp 7, .tmp 12]⟩, true, []⟩, ⟨11, ⟨some 2, none, .op .mv [.tmp 13]⟩, false, []⟩]) (.ret))⟩
theorem c36 : compF Go.Proofs.Tryd.prog Go.Proofs.Tryd.f36 = some ir36 := by kernel_rfl
/-- spinnaker/spinnakerref1.Thin -/
def ir37 : FI :=
  ⟨25, [.tmp 2], .seq (.reg [⟨some 2, none, .op .mv [.const (.bool false)]⟩]) (.seq (.reg [⟨some 3, none, .op .mv [.tmp 0]⟩, ⟨some 4, none, .op (.bin .eql) [.tmp 3, .const (.int .i64 0)]⟩, ⟨some 5, none, .op .mv [.tmp 4]⟩, ⟨some 6, some (5, false), .op .mv [.tmp 0]⟩, ⟨some 7, some (5, false), .op (.bin .eql) [.tmp 6, .const (.int .i64 1)]⟩, ⟨some 8, none, .op .pick [.tmp 5, .const (.bool true), .tmp 7]⟩, ⟨some 9, none, .op .mv [.tmp 8]⟩, ⟨some 10, some (9, false), .op .mv [.tmp 0]⟩, ⟨some 11, some (9, false), .op (.bin .eql) [.tmp 10, .const (.int .i64 5)]⟩, ⟨some 12, none, .op .pick [.tmp 9, .const (.bool true), .tmp 11]⟩, ⟨some 13, none, .op .mv [.tmp 12]⟩, ⟨some 14, some (13, false), .op .mv [.tmp 0]⟩, ⟨some 15, some (13, false), .op (.bin .eql) [.tmp 14, .const (.int .i64 6)]⟩, ⟨some 16, none, .op .pick [.tmp 13, .const (.bool true), .tmp 15]⟩, ⟨some 17, none, .op .mv [.tmp 16]⟩, ⟨some 18, some (17, false), .op .mv [.tmp 0]⟩, ⟨some 19, some (17, false), .op (.bin .eql) [.tmp 18, .const (.int .i64 7)]⟩, ⟨some 20, none, .op .pick [.tmp 17, .const (.bool true), .tmp 19]⟩, ⟨some 21, none, .op .mv [.tmp 20]⟩, ⟨some 22, some (21, false), .op .mv [.tmp 0]⟩, ⟨some 23, some (21, false), .op (.bin .eql) [.tmp 22, .const (.int .i64 13)]⟩, ⟨some 24, none, .op .pick [.tmp 21, .const (.bool true), .tmp 23]⟩, ⟨some 2, none, .op .mv [.tmp 24]⟩]) (.ret))⟩
theorem c37 : compF Go.Proofs.Tryd.prog Go.Proofs.Tryd.f37 = some ir37 := by kernel_rfl
/-- strconv.FormatInt -/
def ir38 : FI :=
  ⟨8, [.tmp 4], .seq (.reg [⟨some 4, none, .op .mv [.const (.string ⟨#[]⟩)]⟩]) (.seq (.reg [⟨some 5, none, .op .mv [.tmp 0]⟩, ⟨some 6, none, .op .mv [.tmp 1]⟩, ⟨some 7, none, .call 55 [.tmp 5, .tmp 6]⟩, ⟨some 4, none, .op .mv [.tmp 7]⟩]) (.ret))⟩
theorem c38 : compF Go.Proofs.Tryd.prog Go.Proofs.Tryd.f38 = some ir38 := by kernel_rfl
/-- strings.TrimRight -/
def ir39 : FI :=
  ⟨37, [.tmp 4], .seq (.reg [⟨some 4, none, .op .mv [.const (.string ⟨#[]⟩)]⟩]) (.seq (.seq (.reg [⟨some 7, none, .op .mv [.tmp 0]⟩, ⟨some 8, none, .op (.bin .eql) [.tmp 7, .const (.string ⟨#[]⟩)]⟩, ⟨some 9, none, .op .mv [.tmp 8]⟩, ⟨some 10, some (9, false), .op .mv [.tmp 1]⟩, ⟨some 11, some (9, false), .op (.bin .eql) [.tmp 10, .const (.string ⟨#[]⟩)]⟩, ⟨some 12, none, .op .pick [.tmp 9, .const (.bool true), .tmp 11]⟩]) (.cond (.tmp 12) (.seq (.reg [⟨some 13, none, .op .mv [.tmp 0]⟩, ⟨some 4, none, .op .mv [.tmp 13]⟩]) (.ret)) (.skip))) (.seq (.seq (.reg [⟨some 14, none, .op .mv [.tmp 1]⟩, ⟨some 15, none, .op .lens [.tmp 14]⟩, ⟨some 16, none, .op (.bin .eql) [.tmp 15, .const (.int .i64 1)]⟩, ⟨some 17, none, .op .mv [.tmp 16]⟩, ⟨some 18, some (17, true), .op .mv [.tmp 1]⟩, ⟨some 19, some (17, true), .op .ixs [.tmp 18, .const (.int .i64 0)]⟩, ⟨some 20, some (17, true), .op (.bin .lss) [.tmp 19, .const (.int .u8 128)]⟩, ⟨some 21, none, .op .pick [.tmp 17, .tmp 20, .const (.bool false)]⟩]) (.cond (.tmp 21) (.seq (.reg [⟨some 22, none, .op .mv [.tmp 0]⟩, ⟨some 23, none, .op .mv [.tmp 1]⟩, ⟨some 24, none, .op .ixs [.tmp 23, .const (.int .i64 0)]⟩, ⟨some 25, none, .call 43 [.tmp 22, .tmp 24]⟩, ⟨some 4, none, .op .mv [.tmp 25]⟩]) (.ret)) (.skip))) (.seq (.seq (.reg [⟨some 27, none, .op .mv [.tmp 1]⟩, ⟨some 28, none, .call 44 [.tmp 27]⟩, ⟨some 26, none, .op .mv [.tmp 28]⟩, ⟨some 29, none, .op (.ext 0) [.tmp 26]⟩, ⟨some 30, none, .op (.ext 1) [.tmp 26]⟩, ⟨some 5, none, .op (.new 82 (.agg #[(.bool false), (.bool false), (.bool false), (.bool false), (.bool false), (.bool false), (.bool false), (.bool false), (.bool false), (.bool false), (.bool false), (.bool false), (.bool false), (.bool false), (.bool false), (.bool false), (.bool false), (.bool false), (.bool false), (.bool false), (.bool false), (.bool false), (.bool false), (.bool false), (.bool false), (.bool false), (.bool false), (.bool false), (.bool false), (.bool false), (.bool false), (.bool false), (.bool false), (.bool false), (.bool false), (.bool false), (.bool false), (.bool false), (.bool false), (.bool false), (.bool false), (.bool false), (.bool false), (.bool false), (.bool false), (.bool false), (.bool false), (.bool false), (.bool false), (.bool false), (.bool false), (.bool false), (.bool false), (.bool false), (.bool false), (.bool false), (.bool false), (.bool false), (.bool false), (.bool false), (.bool false), (.bool false), (.bool false), (.bool false), (.bool false), (.bool false), (.bool false), (.bool false), (.bool false), (.bool false), (.bool false), (.bool false), (.bool false), (.bool false), (.bool false), (.bool false), (.bool false), (.bool false), (.bool false), (.bool false), (.bool false), (.bool false), (.bool false), (.bool false), (.bool false), (.bool false), (.bool false), (.bool false), (.bool false), (.bool false), (.bool false), (.bool false), (.bool false), (.bool false), (.bool false), (.bool false), (.bool false), (.bool false), (.bool false), (.bool false), (.bool false), (.bool false), (.bool false), (.bool false), (.bool false), (.bool false), (.bool false), (.bool false), (.bool false), (.bool false), (.bool false), (.bool false), (.bool false), (.bool false), (.bool false), (.bool false), (.bool false), (.bool false), (.bool false), (.bool false), (.bool false), (.bool false), (.bool false), (.bool false), (.bool false), (.bool false), (.bool false), (.bool false), (.bool false), (.bool false), (.bool false), (.bool false), (.bool false), (.bool false), (.bool false), (.bool false), (.bool false), (.bool false), (.bool false), (.bool false), (.bool false), (.bool false), (.bool false), (.bool false), (.bool false), (.bool false), (.bool false), (.bool false), (.bool false), (.bool false), (.bool false), (.bool false), (.bool false), (.bool false), (.bool false), (.bool false), (.bool false), (.bool false), (.bool false), (.bool false), (.bool false), (.bool false), (.bool false), (.bool false), (.bool false), (.bool false), (.bool false), (.bool false), (.bool false), (.bool false), (.bool false), (.bool false), (.bool false), (.bool false), (.bool false), (.bool false), (.bool false), (.bool false), (.bool false), (.bool false), (.bool false), (.bool false), (.bool false), (.bool false), (.bool false), (.bool false), (.bool false), (.bool false), (.bool false), (.bool false), (.bool false), (.bool false), (.bool false), (.bool false), (.bool false), (.bool false), (.bool false), (.bool false), (.bool false), (.bool false), (.bool false), (.bool false), (.bool false), (.bool false), (.bool false), (.bool false), (.bool false), (.bool false), (.bool false), (.bool false), (.bool false), (.bool false), (.bool false), (.bool false), (.bool false), (.bool false), (.bool false), (.bool false), (.bool false), (.bool false), (.bool false), (.bool false), (.bool false), (.bool false), (.bool false), (.bool false), (.bool false), (.bool false), (.bool false), (.bool false), (.bool false), (.bool false), (.bool false), (.bool false), (.bool false), (.bool false), (.bool false), (.bool false), (.bool false), (.bool false), (.bool false), (.bool false), (.bool false), (.bool false), (.bool false), (.bool false), (.bool false), (.bool false), (.bool false), (.bool false), (.bool false), (.bool false), (.bool false), (.bool false), (.bool false), (.bool false)])) []⟩, ⟨none, none, .op (.st 256) [.tmp 5, .tmp 29]⟩, ⟨some 6, none, .op .mv [.tmp 30]⟩]) (.seq (.reg [⟨some 31, none, .op .mv [.tmp 6]⟩]) (.cond (.tmp 31) (.seq (.reg [⟨some 32, none, .op .mv [.tmp 0]⟩, ⟨some 33, none, .call 46 [.tmp 32, .tmp 5]⟩, ⟨some 4, none, .op .mv [.tmp 33]⟩]) (.ret)) (.skip)))) (.seq (.reg [⟨some 34, none, .op .mv [.tmp 0]⟩, ⟨some 35, none, .op .mv [.tmp 1]⟩, ⟨some 36, none, .call 48 [.tmp 34, .tmp 35]⟩, ⟨some 4, none, .op .mv [.tmp 36]⟩]) (.ret)))))⟩
theorem c39 : compF Go.Proofs.Tryd.prog Go.Proofs.Tryd.f39 = some ir39 := by kernel_rfl
/-- spinnaker/spinnakerref1.Wrong -/
def ir40 : FI :=
  ⟨133, [.tmp 2], .seq (.reg [⟨some 1, none, .op (.box 24) [.tmp 0]⟩, ⟨some 2, none, .op .mv [.const (.string ⟨#[]⟩)]⟩]) (.seq (.reg [⟨some 7, none, .op (.ldn 20) [.tmp 1]⟩, ⟨some 8, none, .call 31 [.tmp 7]⟩, ⟨some 3, none, .op .mv [.tmp 8]⟩]) (.seq (.reg [⟨some 4, none, .op .mv [.const (.int .i64 100)]⟩]) (.seq (.seq (.reg [⟨some 9, none, .op (.fad 9) [.tmp 1]⟩, ⟨some 10, none, .op .ld1 [.tmp 9]⟩, ⟨some 11, none, .op (.bin .gtr) [.tmp 10, .const (.int .i64 0)]⟩]) (.cond (.tmp 11) (.reg [⟨some 12, none, .op (.fad 9) [.tmp 1]⟩, ⟨some 13, none, .op .ld1 [.tmp 12]⟩, ⟨some 4, none, .op .mv [.tmp 13]⟩]) (.skip))) (.seq (.drw [⟨0, ⟨some 14, none, .op .mv [.tmp 3]⟩, false, []⟩, ⟨1, ⟨some 15, none, .op (.iad 1) [.tmp 14, .const (.int .i64 0)]⟩, false, []⟩, ⟨2, ⟨some 16, none, .op .ld1 [.tmp 15]⟩, false, []⟩, ⟨4, ⟨some 18, none, .op .mv [.tmp 3]⟩, false, []⟩, ⟨5, ⟨some 19, none, .op (.iad 1) [.tmp 18, .const (.int .i64 1)]⟩, false, []⟩, ⟨6, ⟨some 20, none, .op .ld1 [.tmp 19]⟩, false, []⟩, ⟨8, ⟨some 22, none, .op .mv [.tmp 3]⟩, false, []⟩, ⟨9, ⟨some 23, none, .op (.iad 1) [.tmp 22, .const (.int .i64 2)]⟩, false, []⟩, ⟨10, ⟨some 24, none, .op .ld1 [.tmp 23]⟩, false, []⟩, ⟨12, ⟨some 26, none, .op .mv [.tmp 3]⟩, false, []⟩, ⟨13, ⟨some 27, none, .op (.iad 1) [.tmp 26, .const (.int .i64 3)]⟩, false, []⟩, ⟨14, ⟨some 28, none, .op .ld1 [.tmp 27]⟩, false, []⟩, ⟨15, ⟨some 29, none, .op .mv [.tmp 3]⟩, false, []⟩, ⟨16, ⟨some 30, none, .op (.iad 1) [.tmp 29, .const (.int .i64 2)]⟩, false, []⟩, ⟨17, ⟨some 31, none, .op .ld1 [.tmp 30]⟩, false, []⟩, ⟨19, ⟨some 33, none, .op .mv [.tmp 3]⟩, false, []⟩, ⟨20, ⟨some 34, none, .op (.iad 1) [.tmp 33, .const (.int .i64 4)]⟩, false, []⟩, ⟨21, ⟨some 35, none, .op .ld1 [.tmp 34]⟩, false, []⟩, ⟨22, ⟨some 36, none, .op .mv [.tmp 3]⟩, false, []⟩, ⟨23, ⟨some 37, none, .op (.iad 1) [.tmp 36, .const (.int .i64 3)]⟩, false, []⟩, ⟨24, ⟨some 38, none, .op .ld1 [.tmp 37]⟩, false, []⟩, ⟨26, ⟨some 40, none, .op .mv [.tmp 3]⟩, false, []⟩, ⟨27, ⟨some 41, none, .op (.iad 1) [.tmp 40, .const (.int .i64 5)]⟩, false, []⟩, ⟨28, ⟨some 42, none, .op .ld1 [.tmp 41]⟩, false, []⟩, ⟨30, ⟨some 44, none, .op .mv [.tmp 3]⟩, false, []⟩, ⟨31, ⟨some 45, none, .op (.iad 1) [.tmp 44, .const (.int .i64 6)]⟩, false, []⟩, ⟨32, ⟨some 46, none, .op .ld1 [.tmp 45]⟩, false, []⟩, ⟨34, ⟨some 48, none, .op .mv [.tmp 3]⟩, false, []⟩, ⟨35, ⟨some 49, none, .op (.iad 1) [.tmp 48, .const (.int .i64 7)]⟩, false, []⟩, ⟨36, ⟨some 50, none, .op .ld1 [.tmp 49]⟩, false, []⟩, ⟨38, ⟨some 52, none, .op .mv [.tmp 3]⟩, false, []⟩, ⟨39, ⟨some 53, none, .op (.iad 1) [.tmp 52, .const (.int .i64 8)]⟩, false, []⟩, ⟨40, ⟨some 54, none, .op .ld1 [.tmp 53]⟩, false, []⟩, ⟨42, ⟨some 56, none, .op .mv [.tmp 3]⟩, false, []⟩, ⟨43, ⟨some 57, none, .op (.iad 1) [.tmp 56, .const (.int .i64 9)]⟩, false, []⟩, ⟨44, ⟨some 58, none, .op .ld1 [.tmp 57]⟩, false, []⟩, ⟨45, ⟨some 59, none, .op (.bin .eql) [.tmp 58, .const (.int .i64 0)]⟩, false, []⟩, ⟨56, ⟨some 70, none, .op .mv [.tmp 3]⟩, false, []⟩, ⟨57, ⟨some 71, none, .op (.iad 1) [.tmp 70, .const (.int .i64 10)]⟩, false, []⟩, ⟨58, ⟨some 72, none, .op .ld1 [.tmp 71]⟩, false, []⟩, ⟨59, ⟨some 73, none, .op .mv [.tmp 4]⟩, false, []⟩, ⟨61, ⟨some 75, none, .op .mv [.tmp 3]⟩, false, []⟩, ⟨62, ⟨some 76, none, .op (.iad 1) [.tmp 75, .const (.int .i64 11)]⟩, false, []⟩, ⟨63, ⟨some 77, none, .op .ld1 [.tmp 76]⟩, false, []⟩, ⟨65, ⟨some 79, none, .op .mv [.tmp 3]⟩, false, []⟩, ⟨66, ⟨some 80, none, .op (.iad 1) [.tmp 79, .const (.int .i64 12)]⟩, false, []⟩, ⟨67, ⟨some 81, none, .op .ld1 [.tmp 80]⟩, false, []⟩, ⟨69, ⟨some 83, none, .op .mv [.tmp 3]⟩, false, []⟩, ⟨70, ⟨some 84, none, .op (.iad 1) [.tmp 83, .const (.int .i64 13)]⟩, false, []⟩, ⟨71, ⟨some 85, none, .op .ld1 [.tmp 84]⟩, false, []⟩, ⟨72, ⟨some 86, none, .op (.bin .eql) [.tmp 85, .const (.int .i64 (-1000))]⟩, false, []⟩, ⟨79, ⟨some 93, none, .op .mv [.tmp 3]⟩, false, []⟩, ⟨80, ⟨some 94, none, .op (.iad 1) [.tmp 93, .const (.int .i64 14)]⟩, false, []⟩, ⟨81, ⟨some 95, none, .op .ld1 [.tmp 94]⟩, false, []⟩, ⟨83, ⟨some 97, none, .op .mv [.tmp 3]⟩, false, []⟩, ⟨84, ⟨some 98, none, .op (.iad 1) [.tmp 97, .const (.int .i64 15)]⟩, false, []⟩, ⟨85, ⟨some 99, none, .op .ld1 [.tmp 98]⟩, false, []⟩, ⟨87, ⟨some 101, none, .op .mv [.tmp 3]⟩, false, []⟩, ⟨88, ⟨some 102, none, .op (.iad 1) [.tmp 101, .const (.int .i64 16)]⟩, false, []⟩, ⟨89, ⟨some 103, none, .op .ld1 [.tmp 102]⟩, false, []⟩, ⟨91, ⟨some 105, none, .op .mv [.tmp 3]⟩, false, []⟩, ⟨92, ⟨some 106, none, .op (.iad 1) [.tmp 105, .const (.int .i64 17)]⟩, false, []⟩, ⟨93, ⟨some 107, none, .op .ld1 [.tmp 106]⟩, false, []⟩, ⟨95, ⟨some 109, none, .op .mv [.tmp 3]⟩, false, []⟩, ⟨96, ⟨some 110, none, .op (.iad 1) [.tmp 109, .const (.int .i64 18)]⟩, false, []⟩, ⟨97, ⟨some 111, none, .op .ld1 [.tmp 110]⟩, false, []⟩, ⟨99, ⟨some 113, none, .op .mv [.tmp 3]⟩, false, []⟩, ⟨100, ⟨some 114, none, .op (.iad 1) [.tmp 113, .const (.int .i64 19)]⟩, false, []⟩, ⟨101, ⟨some 115, none, .op .ld1 [.tmp 114]⟩, false, []⟩, ⟨3, ⟨some 17, none, .call 56 [.tmp 16, .const (.int .i64 10), .const (.int .i64 1000000)]⟩, true, [⟨some 20, none, .op .ld1 [.tmp 19]⟩, ⟨some 24, none, .op .ld1 [.tmp 23]⟩, ⟨some 28, none, .op .ld1 [.tmp 27]⟩, ⟨some 31, none, .op .ld1 [.tmp 30]⟩, ⟨some 35, none, .op .ld1 [.tmp 34]⟩, ⟨some 38, none, .op .ld1 [.tmp 37]⟩, ⟨some 42, none, .op .ld1 [.tmp 41]⟩, ⟨some 46, none, .op .ld1 [.tmp 45]⟩, ⟨some 50, none, .op .ld1 [.tmp 49]⟩, ⟨some 54, none, .op .ld1 [.tmp 53]⟩, ⟨some 58, none, .op .ld1 [.tmp 57]⟩, ⟨some 72, none, .op .ld1 [.tmp 71]⟩, ⟨some 77, none, .op .ld1 [.tmp 76]⟩, ⟨some 81, none, .op .ld1 [.tmp 80]⟩, ⟨some 85, none, .op .ld1 [.tmp 84]⟩, ⟨some 95, none, .op .ld1 [.tmp 94]⟩, ⟨some 99, none, .op .ld1 [.tmp 98]⟩, ⟨some 103, none, .op .ld1 [.tmp 102]⟩, ⟨some 107, none, .op .ld1 [.tmp 106]⟩, ⟨some 111, none, .op .ld1 [.tmp 110]⟩, ⟨some 115, none, .op .ld1 [.tmp 114]⟩]⟩, ⟨7, ⟨some 21, none, .call 56 [.tmp 20, .const (.int .i64 100), .const (.int .i64 1000)]⟩, true, [⟨some 24, none, .op .ld1 [.tmp 23]⟩, ⟨some 28, none, .op .ld1 [.tmp 27]⟩, ⟨some 31, none, .op .ld1 [.tmp 30]⟩, ⟨some 35, none, .op .ld1 [.tmp 34]⟩, ⟨some 38, none, .op .ld1 [.tmp 37]⟩, ⟨some 42, none, .op .ld1 [.tmp 41]⟩, ⟨some 46, none, .op .ld1 [.tmp 45]⟩, ⟨some 50, none, .op .ld1 [.tmp 49]⟩, ⟨some 54, none, .op .ld1 [.tmp 53]⟩, ⟨some 58, none, .op .ld1 [.tmp 57]⟩, ⟨some 72, none, .op .ld1 [.tmp 71]⟩, ⟨some 77, none, .op .ld1 [.tmp 76]⟩, ⟨some 81, none, .op .ld1 [.tmp 80]⟩, ⟨some 85, none, .op .ld1 [.tmp 84]⟩, ⟨some 95, none, .op .ld1 [.tmp 94]⟩, ⟨some 99, none, .op .ld1 [.tmp 98]⟩, ⟨some 103, none, .op .ld1 [.tmp 102]⟩, ⟨some 107, none, .op .ld1 [.tmp 106]⟩, ⟨some 111, none, .op .ld1 [.tmp 110]⟩, ⟨some 115, none, .op .ld1 [.tmp 114]⟩]⟩, ⟨11, ⟨some 25, none, .call 56 [.tmp 24, .const (.int .i64 6), .const (.int .i64 600)]⟩, true, [⟨some 28, none, .op .ld1 [.tmp 27]⟩, ⟨some 31, none, .op .ld1 [.tmp 30]⟩, ⟨some 35, none, .op .ld1 [.tmp 34]⟩, ⟨some 38, none, .op .ld1 [.tmp 37]⟩, ⟨some 42, none, .op .ld1 [.tmp 41]⟩, ⟨some 46, none, .op .ld1 [.tmp 45]⟩, ⟨some 50, none, .op .ld1 [.tmp 49]⟩, ⟨some 54, none, .op .ld1 [.tmp 53]⟩, ⟨some 58, none, .op .ld1 [.tmp 57]⟩, ⟨some 72, none, .op .ld1 [.tmp 71]⟩, ⟨some 77, none, .op .ld1 [.tmp 76]⟩, ⟨some 81, none, .op .ld1 [.tmp 80]⟩, ⟨some 85, none, .op .ld1 [.tmp 84]⟩, ⟨some 95, none, .op .ld1 [.tmp 94]⟩, ⟨some 99, none, .op .ld1 [.tmp 98]⟩, ⟨some 103, none, .op .ld1 [.tmp 102]⟩, ⟨some 107, none, .op .ld1 [.tmp 106]⟩, ⟨some 111, none, .op .ld1 [.tmp 110]⟩, ⟨some 115, none, .op .ld1 [.tmp 114]⟩]⟩, ⟨18, ⟨some 32, none, .call 56 [.tmp 28, .const (.int .i64 1), .tmp 31]⟩, true, [⟨some 35, none, .op .ld1 [.tmp 34]⟩, ⟨some 38, none, .op .ld1 [.tmp 37]⟩, ⟨some 42, none, .op .ld1 [.tmp 41]⟩, ⟨some 46, none, .op .ld1 [.tmp 45]⟩, ⟨some 50, none, .op .ld1 [.tmp 49]⟩, ⟨some 54, none, .op .ld1 [.tmp 53]⟩, ⟨some 58, none, .op .ld1 [.tmp 57]⟩, ⟨some 72, none, .op .ld1 [.tmp 71]⟩, ⟨some 77, none, .op .ld1 [.tmp 76]⟩, ⟨some 81, none, .op .ld1 [.tmp 80]⟩, ⟨some 85, none, .op .ld1 [.tmp 84]⟩, ⟨some 95, none, .op .ld1 [.tmp 94]⟩, ⟨some 99, none, .op .ld1 [.tmp 98]⟩, ⟨some 103, none, .op .ld1 [.tmp 102]⟩, ⟨some 107, none, .op .ld1 [.tmp 106]⟩, ⟨some 111, none, .op .ld1 [.tmp 110]⟩, ⟨some 115, none, .op .ld1 [.tmp 114]⟩]⟩, ⟨25, ⟨some 39, none, .call 56 [.tmp 35, .const (.int .i64 1), .tmp 38]⟩, true, [⟨some 42, none, .op .ld1 [.tmp 41]⟩, ⟨some 46, none, .op .ld1 [.tmp 45]⟩, ⟨some 50, none, .op .ld1 [.tmp 49]⟩, ⟨some 54, none, .op .ld1 [.tmp 53]⟩, ⟨some 58, none, .op .ld1 [.tmp 57]⟩, ⟨some 72, none, .op .ld1 [.tmp 71]⟩, ⟨some 77, none, .op .ld1 [.tmp 76]⟩, ⟨some 81, none, .op .ld1 [.tmp 80]⟩, ⟨some 85, none, .op .ld1 [.tmp 84]⟩, ⟨some 95, none, .op .ld1 [.tmp 94]⟩, ⟨some 99, none, .op .ld1 [.tmp 98]⟩, ⟨some 103, none, .op .ld1 [.tmp 102]⟩, ⟨some 107, none, .op .ld1 [.tmp 106]⟩, ⟨some 111, none, .op .ld1 [.tmp 110]⟩, ⟨some 115, none, .op .ld1 [.tmp 114]⟩]⟩, ⟨29, ⟨some 43, none, .call 56 [.tmp 42, .const (.int .i64 1100), .const (.int .i64 10000)]⟩, true, [⟨some 46, none, .op .ld1 [.tmp 45]⟩, ⟨some 50, none, .op .ld1 [.tmp 49]⟩, ⟨some 54, none, .op .ld1 [.tmp 53]⟩, ⟨some 58, none, .op .ld1 [.tmp 57]⟩, ⟨some 72, none, .op .ld1 [.tmp 71]⟩, ⟨some 77, none, .op .ld1 [.tmp 76]⟩, ⟨some 81, none, .op .ld1 [.tmp 80]⟩, ⟨some 85, none, .op .ld1 [.tmp 84]⟩, ⟨some 95, none, .op .ld1 [.tmp 94]⟩, ⟨some 99, none, .op .ld1 [.tmp 98]⟩, ⟨some 103, none, .op .ld1 [.tmp 102]⟩, ⟨some 107, none, .op .ld1 [.tmp 106]⟩, ⟨some 111, none, .op .ld1 [.tmp 110]⟩, ⟨some 115, none, .op .ld1 [.tmp 114]⟩]⟩, ⟨33, ⟨some 47, none, .call 56 [.tmp 46, .const (.int .i64 1001), .const (.int .i64 1000000)]⟩, true, [⟨some 50, none, .op .ld1 [.tmp 49]⟩, ⟨some 54, none, .op .ld1 [.tmp 53]⟩, ⟨some 58, none, .op .ld1 [.tmp 57]⟩, ⟨some 72, none, .op .ld1 [.tmp 71]⟩, ⟨some 77, none, .op .ld1 [.tmp 76]⟩, ⟨some 81, none, .op .ld1 [.tmp 80]⟩, ⟨some 85, none, .op .ld1 [.tmp 84]⟩, ⟨some 95, none, .op .ld1 [.tmp 94]⟩, ⟨some 99, none, .op .ld1 [.tmp 98]⟩, ⟨some 103, none, .op .ld1 [.tmp 102]⟩, ⟨some 107, none, .op .ld1 [.tmp 106]⟩, ⟨some 111, none, .op .ld1 [.tmp 110]⟩, ⟨some 115, none, .op .ld1 [.tmp 114]⟩]⟩, ⟨37, ⟨some 51, none, .call 56 [.tmp 50, .const (.int .i64 1001), .const (.int .i64 1000000)]⟩, true, [⟨some 54, none, .op .ld1 [.tmp 53]⟩, ⟨some 58, none, .op .ld1 [.tmp 57]⟩, ⟨some 72, none, .op .ld1 [.tmp 71]⟩, ⟨some 77, none, .op .ld1 [.tmp 76]⟩, ⟨some 81, none, .op .ld1 [.tmp 80]⟩, ⟨some 85, none, .op .ld1 [.tmp 84]⟩, ⟨some 95, none, .op .ld1 [.tmp 94]⟩, ⟨some 99, none, .op .ld1 [.tmp 98]⟩, ⟨some 103, none, .op .ld1 [.tmp 102]⟩, ⟨some 107, none, .op .ld1 [.tmp 106]⟩, ⟨some 111, none, .op .ld1 [.tmp 110]⟩, ⟨some 115, none, .op .ld1 [.tmp 114]⟩]⟩, ⟨41, ⟨some 55, none, .call 56 [.tmp 54, .const (.int .i64 0), .const (.int .i64 100)]⟩, true, [⟨some 58, none, .op .ld1 [.tmp 57]⟩, ⟨some 72, none, .op .ld1 [.tmp 71]⟩, ⟨some 77, none, .op .ld1 [.tmp 76]⟩, ⟨some 81, none, .op .ld1 [.tmp 80]⟩, ⟨some 85, none, .op .ld1 [.tmp 84]⟩, ⟨some 95, none, .op .ld1 [.tmp 94]⟩, ⟨some 99, none, .op .ld1 [.tmp 98]⟩, ⟨some 103, none, .op .ld1 [.tmp 102]⟩, ⟨some 107, none, .op .ld1 [.tmp 106]⟩, ⟨some 111, none, .op .ld1 [.tmp 110]⟩, ⟨some 115, none, .op .ld1 [.tmp 114]⟩]⟩, ⟨46, ⟨some 60, none, .op .mv [.tmp 59]⟩, false, []⟩, ⟨47, ⟨some 61, some (60, false), .op .mv [.tmp 3]⟩, false, []⟩, ⟨48, ⟨some 62, some (60, false), .op (.iad 1) [.tmp 61, .const (.int .i64 9)]⟩, false, []⟩, ⟨49, ⟨some 63, some (60, false), .op .ld1 [.tmp 62]⟩, false, []⟩, ⟨50, ⟨some 64, some (60, false), .op .mv [.tmp 3]⟩, false, []⟩, ⟨51, ⟨some 65, some (60, false), .op (.iad 1) [.tmp 64, .const (.int .i64 8)]⟩, false, []⟩, ⟨52, ⟨some 66, some (60, false), .op .ld1 [.tmp 65]⟩, false, []⟩, ⟨53, ⟨some 67, some (60, false), .op (.mm true) [.tmp 66, .const (.int .i64 1)]⟩, false, []⟩, ⟨54, ⟨some 68, some (60, false), .call 56 [.tmp 63, .tmp 67, .const (.int .i64 100)]⟩, true, [⟨some 72, none, .op .ld1 [.tmp 71]⟩, ⟨some 77, none, .op .ld1 [.tmp 76]⟩, ⟨some 81, none, .op .ld1 [.tmp 80]⟩, ⟨some 85, none, .op .ld1 [.tmp 84]⟩, ⟨some 95, none, .op .ld1 [.tmp 94]⟩, ⟨some 99, none, .op .ld1 [.tmp 98]⟩, ⟨some 103, none, .op .ld1 [.tmp 102]⟩, ⟨some 107, none, .op .ld1 [.tmp 106]⟩, ⟨some 111, none, .op .ld1 [.tmp 110]⟩, ⟨some 115, none, .op .ld1 [.tmp 114]⟩]⟩, ⟨55, ⟨some 69, none, .op .pick [.tmp 60, .const (.bool true), .tmp 68]⟩, false, []⟩, ⟨60, ⟨some 74, none, .call 56 [.tmp 72, .const (.int .i64 0), .tmp 73]⟩, true, [⟨some 77, none, .op .ld1 [.tmp 76]⟩, ⟨some 81, none, .op .ld1 [.tmp 80]⟩, ⟨some 85, none, .op .ld1 [.tmp 84]⟩, ⟨some 95, none, .op .ld1 [.tmp 94]⟩, ⟨some 99, none, .op .ld1 [.tmp 98]⟩, ⟨some 103, none, .op .ld1 [.tmp 102]⟩, ⟨some 107, none, .op .ld1 [.tmp 106]⟩, ⟨some 111, none, .op .ld1 [.tmp 110]⟩, ⟨some 115, none, .op .ld1 [.tmp 114]⟩]⟩, ⟨64, ⟨some 78, none, .call 56 [.tmp 77, .const (.int .i64 0), .const (.int .i64 600)]⟩, true, [⟨some 81, none, .op .ld1 [.tmp 80]⟩, ⟨some 85, none, .op .ld1 [.tmp 84]⟩, ⟨some 95, none, .op .ld1 [.tmp 94]⟩, ⟨some 99, none, .op .ld1 [.tmp 98]⟩, ⟨some 103, none, .op .ld1 [.tmp 102]⟩, ⟨some 107, none, .op .ld1 [.tmp 106]⟩, ⟨some 111, none, .op .ld1 [.tmp 110]⟩, ⟨some 115, none, .op .ld1 [.tmp 114]⟩]⟩, ⟨68, ⟨some 82, none, .call 56 [.tmp 81, .const (.int .i64 0), .const (.int .i64 600)]⟩, true, [⟨some 85, none, .op .ld1 [.tmp 84]⟩, ⟨some 95, none, .op .ld1 [.tmp 94]⟩, ⟨some 99, none, .op .ld1 [.tmp 98]⟩, ⟨some 103, none, .op .ld1 [.tmp 102]⟩, ⟨some 107, none, .op .ld1 [.tmp 106]⟩, ⟨some 111, none, .op .ld1 [.tmp 110]⟩, ⟨some 115, none, .op .ld1 [.tmp 114]⟩]⟩, ⟨73, ⟨some 87, none, .op .mv [.tmp 86]⟩, false, []⟩, ⟨74, ⟨some 88, some (87, false), .op .mv [.tmp 3]⟩, false, []⟩, ⟨75, ⟨some 89, some (87, false), .op (.iad 1) [.tmp 88, .const (.int .i64 13)]⟩, false, []⟩, ⟨76, ⟨some 90, some (87, false), .op .ld1 [.tmp 89]⟩, false, []⟩, ⟨77, ⟨some 91, some (87, false), .call 56 [.tmp 90, .const (.int .i64 0), .const (.int .i64 100000000)]⟩, true, [⟨some 95, none, .op .ld1 [.tmp 94]⟩, ⟨some 99, none, .op .ld1 [.tmp 98]⟩, ⟨some 103, none, .op .ld1 [.tmp 102]⟩, ⟨some 107, none, .op .ld1 [.tmp 106]⟩, ⟨some 111, none, .op .ld1 [.tmp 110]⟩, ⟨some 115, none, .op .ld1 [.tmp 114]⟩]⟩, ⟨78, ⟨some 92, none, .op .pick [.tmp 87, .const (.bool true), .tmp 91]⟩, false, []⟩, ⟨82, ⟨some 96, none, .call 56 [.tmp 95, .const (.int .i64 1), .const (.int .i64 1000)]⟩, true, [⟨some 99, none, .op .ld1 [.tmp 98]⟩, ⟨some 103, none, .op .ld1 [.tmp 102]⟩, ⟨some 107, none, .op .ld1 [.tmp 106]⟩, ⟨some 111, none, .op .ld1 [.tmp 110]⟩, ⟨some 115, none, .op .ld1 [.tmp 114]⟩]⟩, ⟨86, ⟨some 100, none, .call 56 [.tmp 99, .const (.int .i64 0), .const (.int .i64 200)]⟩, true, [⟨some 103, none, .op .ld1 [.tmp 102]⟩, ⟨some 107, none, .op .ld1 [.tmp 106]⟩, ⟨some 111, none, .op .ld1 [.tmp 110]⟩, ⟨some 115, none, .op .ld1 [.tmp 114]⟩]⟩, ⟨90, ⟨some 104, none, .call 56 [.tmp 103, .const (.int .i64 1), .const (.int .i64 10000)]⟩, true, [⟨some 107, none, .op .ld1 [.tmp 106]⟩, ⟨some 111, none, .op .ld1 [.tmp 110]⟩, ⟨some 115, none, .op .ld1 [.tmp 114]⟩]⟩, ⟨94, ⟨some 108, none, .call 56 [.tmp 107, .const (.int .i64 0), .const (.int .i64 100)]⟩, true, [⟨some 111, none, .op .ld1 [.tmp 110]⟩, ⟨some 115, none, .op .ld1 [.tmp 114]⟩]⟩, ⟨98, ⟨some 112, none, .call 56 [.tmp 111, .const (.int .i64 0), .const (.int .i64 100)]⟩, true, [⟨some 115, none, .op .ld1 [.tmp 114]⟩]⟩, ⟨102, ⟨some 116, none, .call 56 [.tmp 115, .const (.int .i64 0), .const (.int .i64 100)]⟩, true, []⟩, ⟨103, ⟨some 117, none, .op (.bsl 4 1 20 #[(.bool false), (.bool false), (.bool false), (.bool false), (.bool false), (.bool false), (.bool false), (.bool false), (.bool false), (.bool false), (.bool false), (.bool false), (.bool false), (.bool false), (.bool false), (.bool false), (.bool false), (.bool false), (.bool false), (.bool false)] [0, 1, 2, 3, 4, 5, 6, 7, 8, 9, 10, 11, 12, 13, 14, 15, 16, 17, 18, 19]) [.tmp 17, .tmp 21, .tmp 25, .tmp 32, .tmp 39, .tmp 43, .tmp 47, .tmp 51, .tmp 55, .tmp 69, .tmp 74, .tmp 78, .tmp 82, .tmp 92, .tmp 96, .tmp 100, .tmp 104, .tmp 108, .tmp 112, .tmp 116]⟩, true, []⟩, ⟨104, ⟨some 5, none, .op .mv [.tmp 117]⟩, false, []⟩]) (.seq (.seq (.reg [⟨some 6, none, .op .mv [.const (.int .i64 0)]⟩]) (.block 0 (.loop (.seq (.seq (.reg [⟨some 118, none, .op .mv [.tmp 6]⟩, ⟨some 119, none, .op .mv [.tmp 5]⟩, ⟨some 120, none, .op .len [.tmp 119]⟩, ⟨some 121, none, .op (.bin .lss) [.tmp 118, .tmp 120]⟩]) (.cond (.tmp 121) (.skip) (.exit 0))) (.seq (.block 1 (.seq (.reg [⟨some 124, none, .op .mv [.tmp 5]⟩, ⟨some 125, none, .op .mv [.tmp 6]⟩, ⟨some 126, none, .op (.iad 1) [.tmp 124, .tmp 125]⟩, ⟨some 127, none, .op .ld1 [.tmp 126]⟩, ⟨some 128, none, .op .not [.tmp 127]⟩]) (.cond (.tmp 128) (.seq (.reg [⟨some 129, none, .call 21 []⟩, ⟨some 130, none, .op .mv [.tmp 6]⟩, ⟨some 131, none, .op (.iad 1) [.tmp 129, .tmp 130]⟩, ⟨some 132, none, .op .ld1 [.tmp 131]⟩, ⟨some 2, none, .op .mv [.tmp 132]⟩]) (.ret)) (.skip)))) (.reg [⟨some 122, none, .op .mv [.tmp 6]⟩, ⟨some 123, none, .op (.bin .add) [.tmp 122, .const (.int .i64 1)]⟩, ⟨some 6, none, .op .mv [.tmp 123]⟩])))))) (.seq (.reg [⟨some 2, none, .op .mv [.const (.string ⟨#[]⟩)]⟩]) (.ret)))))))⟩
theorem c40 : compF Go.Proofs.Tryd.prog Go.Proofs.Tryd.f40 = some ir40 := by kernel_rfl
/-- spinnaker/conf.Wrong -/
def ir50 : FI :=
  ⟨141, [.tmp 2], .seq (.reg [⟨some 1, none, .op (.box 24) [.tmp 0]⟩, ⟨some 2, none, .op .mv [.const (.string ⟨#[]⟩)]⟩]) (.seq (.reg [⟨some 3, none, .op .mv [.const (.int .i64 100)]⟩]) (.seq (.seq (.reg [⟨some 6, none, .op (.fad 9) [.tmp 1]⟩, ⟨some 7, none, .op .ld1 [.tmp 6]⟩, ⟨some 8, none, .op (.bin .neq) [.tmp 7, .const (.int .i64 0)]⟩]) (.cond (.tmp 8) (.reg [⟨some 9, none, .op (.fad 9) [.tmp 1]⟩, ⟨some 10, none, .op .ld1 [.tmp 9]⟩, ⟨some 3, none, .op .mv [.tmp 10]⟩]) (.skip))) (.seq (.seq (.drw [⟨0, ⟨some 11, none, .op (.fad 0) [.tmp 1]⟩, false, []⟩, ⟨1, ⟨some 12, none, .op .ld1 [.tmp 11]⟩, false, []⟩, ⟨2, ⟨some 13, none, .op (.ifc 2) [.tmp 12]⟩, false, []⟩, ⟨5, ⟨some 16, none, .op (.fad 1) [.tmp 1]⟩, false, []⟩, ⟨6, ⟨some 17, none, .op .ld1 [.tmp 16]⟩, false, []⟩, ⟨7, ⟨some 18, none, .op (.ifc 2) [.tmp 17]⟩, false, []⟩, ⟨10, ⟨some 21, none, .op (.fad 2) [.tmp 1]⟩, false, []⟩, ⟨11, ⟨some 22, none, .op .ld1 [.tmp 21]⟩, false, []⟩, ⟨12, ⟨some 23, none, .op (.ifc 3) [.tmp 22]⟩, false, []⟩, ⟨15, ⟨some 26, none, .op (.fad 3) [.tmp 1]⟩, false, []⟩, ⟨16, ⟨some 27, none, .op .ld1 [.tmp 26]⟩, false, []⟩, ⟨17, ⟨some 28, none, .op (.ifc 3) [.tmp 27]⟩, false, []⟩, ⟨18, ⟨some 29, none, .op (.fad 2) [.tmp 1]⟩, false, []⟩, ⟨19, ⟨some 30, none, .op .ld1 [.tmp 29]⟩, false, []⟩, ⟨22, ⟨some 33, none, .op (.fad 4) [.tmp 1]⟩, false, []⟩, ⟨23, ⟨some 34, none, .op .ld1 [.tmp 33]⟩, false, []⟩, ⟨24, ⟨some 35, none, .op (.ifc 3) [.tmp 34]⟩, false, []⟩, ⟨25, ⟨some 36, none, .op (.fad 3) [.tmp 1]⟩, false, []⟩, ⟨26, ⟨some 37, none, .op .ld1 [.tmp 36]⟩, false, []⟩, ⟨29, ⟨some 40, none, .op (.fad 5) [.tmp 1]⟩, false, []⟩, ⟨30, ⟨some 41, none, .op .ld1 [.tmp 40]⟩, false, []⟩, ⟨31, ⟨some 42, none, .op (.ifc 2) [.tmp 41]⟩, false, []⟩, ⟨34, ⟨some 45, none, .op (.fad 6) [.tmp 1]⟩, false, []⟩, ⟨35, ⟨some 46, none, .op .ld1 [.tmp 45]⟩, false, []⟩, ⟨36, ⟨some 47, none, .op (.ifc 2) [.tmp 46]⟩, false, []⟩, ⟨39, ⟨some 50, none, .op (.fad 7) [.tmp 1]⟩, false, []⟩, ⟨40, ⟨some 51, none, .op .ld1 [.tmp 50]⟩, false, []⟩, ⟨41, ⟨some 52, none, .op (.ifc 2) [.tmp 51]⟩, false, []⟩, ⟨44, ⟨some 55, none, .op (.fad 8) [.tmp 1]⟩, false, []⟩, ⟨45, ⟨some 56, none, .op .ld1 [.tmp 55]⟩, false, []⟩, ⟨46, ⟨some 57, none, .op (.ifc 3) [.tmp 56]⟩, false, []⟩, ⟨49, ⟨some 60, none, .op (.fad 9) [.tmp 1]⟩, false, []⟩, ⟨50, ⟨some 61, none, .op .ld1 [.tmp 60]⟩, false, []⟩, ⟨51, ⟨some 62, none, .op (.bin .eql) [.tmp 61, .const (.int .i64 0)]⟩, false, []⟩, ⟨62, ⟨some 73, none, .op (.fad 10) [.tmp 1]⟩, false, []⟩, ⟨63, ⟨some 74, none, .op .ld1 [.tmp 73]⟩, false, []⟩, ⟨64, ⟨some 75, none, .op (.ifc 3) [.tmp 74]⟩, false, []⟩, ⟨65, ⟨some 76, none, .op .mv [.tmp 3]⟩, false, []⟩, ⟨68, ⟨some 79, none, .op (.fad 11) [.tmp 1]⟩, false, []⟩, ⟨69, ⟨some 80, none, .op .ld1 [.tmp 79]⟩, false, []⟩, ⟨70, ⟨some 81, none, .op (.ifc 3) [.tmp 80]⟩, false, []⟩, ⟨73, ⟨some 84, none, .op (.fad 12) [.tmp 1]⟩, false, []⟩, ⟨74, ⟨some 85, none, .op .ld1 [.tmp 84]⟩, false, []⟩, ⟨75, ⟨some 86, none, .op (.ifc 3) [.tmp 85]⟩, false, []⟩, ⟨78, ⟨some 89, none, .op (.fad 13) [.tmp 1]⟩, false, []⟩, ⟨79, ⟨some 90, none, .op .ld1 [.tmp 89]⟩, false, []⟩, ⟨80, ⟨some 91, none, .op (.bin .eql) [.tmp 90, .const (.int .i64 (-1000))]⟩, false, []⟩, ⟨88, ⟨some 99, none, .op (.fad 14) [.tmp 1]⟩, false, []⟩, ⟨89, ⟨some 100, none, .op .ld1 [.tmp 99]⟩, false, []⟩, ⟨90, ⟨some 101, none, .op (.ifc 3) [.tmp 100]⟩, false, []⟩, ⟨93, ⟨some 104, none, .op (.fad 15) [.tmp 1]⟩, false, []⟩, ⟨94, ⟨some 105, none, .op .ld1 [.tmp 104]⟩, false, []⟩, ⟨95, ⟨some 106, none, .op (.ifc 3) [.tmp 105]⟩, false, []⟩, ⟨98, ⟨some 109, none, .op (.fad 16) [.tmp 1]⟩, false, []⟩, ⟨99, ⟨some 110, none, .op .ld1 [.tmp 109]⟩, false, []⟩, ⟨100, ⟨some 111, none, .op (.ifc 3) [.tmp 110]⟩, false, []⟩, ⟨103, ⟨some 114, none, .op (.fad 17) [.tmp 1]⟩, false, []⟩, ⟨104, ⟨some 115, none, .op .ld1 [.tmp 114]⟩, false, []⟩, ⟨105, ⟨some 116, none, .op (.ifc 3) [.tmp 115]⟩, false, []⟩, ⟨108, ⟨some 119, none, .op (.fad 18) [.tmp 1]⟩, false, []⟩, ⟨109, ⟨some 120, none, .op .ld1 [.tmp 119]⟩, false, []⟩, ⟨110, ⟨some 121, none, .op (.ifc 3) [.tmp 120]⟩, false, []⟩, ⟨113, ⟨some 124, none, .op (.fad 19) [.tmp 1]⟩, false, []⟩, ⟨114, ⟨some 125, none, .op .ld1 [.tmp 124]⟩, false, []⟩, ⟨115, ⟨some 126, none, .op (.ifc 3) [.tmp 125]⟩, false, []⟩, ⟨120, ⟨some 131, none, .op .mv [.const (.int .i64 0)]⟩, false, []⟩, ⟨3, ⟨some 14, none, .call 65 [.tmp 13, .const (.int .i64 10), .const (.int .i64 1000000)]⟩, true, [⟨some 17, none, .op .ld1 [.tmp 16]⟩, ⟨some 22, none, .op .ld1 [.tmp 21]⟩, ⟨some 27, none, .op .ld1 [.tmp 26]⟩, ⟨some 30, none, .op .ld1 [.tmp 29]⟩, ⟨some 34, none, .op .ld1 [.tmp 33]⟩, ⟨some 37, none, .op .ld1 [.tmp 36]⟩, ⟨some 41, none, .op .ld1 [.tmp 40]⟩, ⟨some 46, none, .op .ld1 [.tmp 45]⟩, ⟨some 51, none, .op .ld1 [.tmp 50]⟩, ⟨some 56, none, .op .ld1 [.tmp 55]⟩, ⟨some 61, none, .op .ld1 [.tmp 60]⟩, ⟨some 74, none, .op .ld1 [.tmp 73]⟩, ⟨some 80, none, .op .ld1 [.tmp 79]⟩, ⟨some 85, none, .op .ld1 [.tmp 84]⟩, ⟨some 90, none, .op .ld1 [.tmp 89]⟩, ⟨some 100, none, .op .ld1 [.tmp 99]⟩, ⟨some 105, none, .op .ld1 [.tmp 104]⟩, ⟨some 110, none, .op .ld1 [.tmp 109]⟩, ⟨some 115, none, .op .ld1 [.tmp 114]⟩, ⟨some 120, none, .op .ld1 [.tmp 119]⟩, ⟨some 125, none, .op .ld1 [.tmp 124]⟩]⟩, ⟨4, ⟨some 15, none, .op (.bld #[(.string ⟨#[]⟩), (.bool false)] [(0, 1), (1, 1)] [0, 1]) [.const (.string ⟨#[116, 97, 114, 103, 101, 116]⟩), .tmp 14]⟩, false, []⟩, ⟨8, ⟨some 19, none, .call 65 [.tmp 18, .const (.int .i64 100), .const (.int .i64 1000)]⟩, true, [⟨some 22, none, .op .ld1 [.tmp 21]⟩, ⟨some 27, none, .op .ld1 [.tmp 26]⟩, ⟨some 30, none, .op .ld1 [.tmp 29]⟩, ⟨some 34, none, .op .ld1 [.tmp 33]⟩, ⟨some 37, none, .op .ld1 [.tmp 36]⟩, ⟨some 41, none, .op .ld1 [.tmp 40]⟩, ⟨some 46, none, .op .ld1 [.tmp 45]⟩, ⟨some 51, none, .op .ld1 [.tmp 50]⟩, ⟨some 56, none, .op .ld1 [.tmp 55]⟩, ⟨some 61, none, .op .ld1 [.tmp 60]⟩, ⟨some 74, none, .op .ld1 [.tmp 73]⟩, ⟨some 80, none, .op .ld1 [.tmp 79]⟩, ⟨some 85, none, .op .ld1 [.tmp 84]⟩, ⟨some 90, none, .op .ld1 [.tmp 89]⟩, ⟨some 100, none, .op .ld1 [.tmp 99]⟩, ⟨some 105, none, .op .ld1 [.tmp 104]⟩, ⟨some 110, none, .op .ld1 [.tmp 109]⟩, ⟨some 115, none, .op .ld1 [.tmp 114]⟩, ⟨some 120, none, .op .ld1 [.tmp 119]⟩, ⟨some 125, none, .op .ld1 [.tmp 124]⟩]⟩, ⟨9, ⟨some 20, none, .op (.bld #[(.string ⟨#[]⟩), (.bool false)] [(0, 1), (1, 1)] [0, 1]) [.const (.string ⟨#[117, 116, 105, 108]⟩), .tmp 19]⟩, false, []⟩, ⟨13, ⟨some 24, none, .call 65 [.tmp 23, .const (.int .i64 6), .const (.int .i64 600)]⟩, true, [⟨some 27, none, .op .ld1 [.tmp 26]⟩, ⟨some 30, none, .op .ld1 [.tmp 29]⟩, ⟨some 34, none, .op .ld1 [.tmp 33]⟩, ⟨some 37, none, .op .ld1 [.tmp 36]⟩, ⟨some 41, none, .op .ld1 [.tmp 40]⟩, ⟨some 46, none, .op .ld1 [.tmp 45]⟩, ⟨some 51, none, .op .ld1 [.tmp 50]⟩, ⟨some 56, none, .op .ld1 [.tmp 55]⟩, ⟨some 61, none, .op .ld1 [.tmp 60]⟩, ⟨some 74, none, .op .ld1 [.tmp 73]⟩, ⟨some 80, none, .op .ld1 [.tmp 79]⟩, ⟨some 85, none, .op .ld1 [.tmp 84]⟩, ⟨some 90, none, .op .ld1 [.tmp 89]⟩, ⟨some 100, none, .op .ld1 [.tmp 99]⟩, ⟨some 105, none, .op .ld1 [.tmp 104]⟩, ⟨some 110, none, .op .ld1 [.tmp 109]⟩, ⟨some 115, none, .op .ld1 [.tmp 114]⟩, ⟨some 120, none, .op .ld1 [.tmp 119]⟩, ⟨some 125, none, .op .ld1 [.tmp 124]⟩]⟩, ⟨14, ⟨some 25, none, .op (.bld #[(.string ⟨#[]⟩), (.bool false)] [(0, 1), (1, 1)] [0, 1]) [.const (.string ⟨#[115, 116, 97, 98, 108, 101]⟩), .tmp 24]⟩, false, []⟩, ⟨20, ⟨some 31, none, .call 65 [.tmp 28, .const (.int .i64 1), .tmp 30]⟩, true, [⟨some 34, none, .op .ld1 [.tmp 33]⟩, ⟨some 37, none, .op .ld1 [.tmp 36]⟩, ⟨some 41, none, .op .ld1 [.tmp 40]⟩, ⟨some 46, none, .op .ld1 [.tmp 45]⟩, ⟨some 51, none, .op .ld1 [.tmp 50]⟩, ⟨some 56, none, .op .ld1 [.tmp 55]⟩, ⟨some 61, none, .op .ld1 [.tmp 60]⟩, ⟨some 74, none, .op .ld1 [.tmp 73]⟩, ⟨some 80, none, .op .ld1 [.tmp 79]⟩, ⟨some 85, none, .op .ld1 [.tmp 84]⟩, ⟨some 90, none, .op .ld1 [.tmp 89]⟩, ⟨some 100, none, .op .ld1 [.tmp 99]⟩, ⟨some 105, none, .op .ld1 [.tmp 104]⟩, ⟨some 110, none, .op .ld1 [.tmp 109]⟩, ⟨some 115, none, .op .ld1 [.tmp 114]⟩, ⟨some 120, none, .op .ld1 [.tmp 119]⟩, ⟨some 125, none, .op .ld1 [.tmp 124]⟩]⟩, ⟨21, ⟨some 32, none, .op (.bld #[(.string ⟨#[]⟩), (.bool false)] [(0, 1), (1, 1)] [0, 1]) [.const (.string ⟨#[112, 97, 110, 105, 99]⟩), .tmp 31]⟩, false, []⟩, ⟨27, ⟨some 38, none, .call 65 [.tmp 35, .const (.int .i64 1), .tmp 37]⟩, true, [⟨some 41, none, .op .ld1 [.tmp 40]⟩, ⟨some 46, none, .op .ld1 [.tmp 45]⟩, ⟨some 51, none, .op .ld1 [.tmp 50]⟩, ⟨some 56, none, .op .ld1 [.tmp 55]⟩, ⟨some 61, none, .op .ld1 [.tmp 60]⟩, ⟨some 74, none, .op .ld1 [.tmp 73]⟩, ⟨some 80, none, .op .ld1 [.tmp 79]⟩, ⟨some 85, none, .op .ld1 [.tmp 84]⟩, ⟨some 90, none, .op .ld1 [.tmp 89]⟩, ⟨some 100, none, .op .ld1 [.tmp 99]⟩, ⟨some 105, none, .op .ld1 [.tmp 104]⟩, ⟨some 110, none, .op .ld1 [.tmp 109]⟩, ⟨some 115, none, .op .ld1 [.tmp 114]⟩, ⟨some 120, none, .op .ld1 [.tmp 119]⟩, ⟨some 125, none, .op .ld1 [.tmp 124]⟩]⟩, ⟨28, ⟨some 39, none, .op (.bld #[(.string ⟨#[]⟩), (.bool false)] [(0, 1), (1, 1)] [0, 1]) [.const (.string ⟨#[103, 114, 97, 105, 110]⟩), .tmp 38]⟩, false, []⟩, ⟨32, ⟨some 43, none, .call 65 [.tmp 42, .const (.int .i64 1100), .const (.int .i64 10000)]⟩, true, [⟨some 46, none, .op .ld1 [.tmp 45]⟩, ⟨some 51, none, .op .ld1 [.tmp 50]⟩, ⟨some 56, none, .op .ld1 [.tmp 55]⟩, ⟨some 61, none, .op .ld1 [.tmp 60]⟩, ⟨some 74, none, .op .ld1 [.tmp 73]⟩, ⟨some 80, none, .op .ld1 [.tmp 79]⟩, ⟨some 85, none, .op .ld1 [.tmp 84]⟩, ⟨some 90, none, .op .ld1 [.tmp 89]⟩, ⟨some 100, none, .op .ld1 [.tmp 99]⟩, ⟨some 105, none, .op .ld1 [.tmp 104]⟩, ⟨some 110, none, .op .ld1 [.tmp 109]⟩, ⟨some 115, none, .op .ld1 [.tmp 114]⟩, ⟨some 120, none, .op .ld1 [.tmp 119]⟩, ⟨some 125, none, .op .ld1 [.tmp 124]⟩]⟩, ⟨33, ⟨some 44, none, .op (.bld #[(.string ⟨#[]⟩), (.bool false)] [(0, 1), (1, 1)] [0, 1]) [.const (.string ⟨#[116, 104, 114, 101, 115, 104, 111, 108, 100]⟩), .tmp 43]⟩, false, []⟩, ⟨37, ⟨some 48, none, .call 65 [.tmp 47, .const (.int .i64 1001), .const (.int .i64 1000000)]⟩, true, [⟨some 51, none, .op .ld1 [.tmp 50]⟩, ⟨some 56, none, .op .ld1 [.tmp 55]⟩, ⟨some 61, none, .op .ld1 [.tmp 60]⟩, ⟨some 74, none, .op .ld1 [.tmp 73]⟩, ⟨some 80, none, .op .ld1 [.tmp 79]⟩, ⟨some 85, none, .op .ld1 [.tmp 84]⟩, ⟨some 90, none, .op .ld1 [.tmp 89]⟩, ⟨some 100, none, .op .ld1 [.tmp 99]⟩, ⟨some 105, none, .op .ld1 [.tmp 104]⟩, ⟨some 110, none, .op .ld1 [.tmp 109]⟩, ⟨some 115, none, .op .ld1 [.tmp 114]⟩, ⟨some 120, none, .op .ld1 [.tmp 119]⟩, ⟨some 125, none, .op .ld1 [.tmp 124]⟩]⟩, ⟨38, ⟨some 49, none, .op (.bld #[(.string ⟨#[]⟩), (.bool false)] [(0, 1), (1, 1)] [0, 1]) [.const (.string ⟨#[117, 112]⟩), .tmp 48]⟩, false, []⟩, ⟨42, ⟨some 53, none, .call 65 [.tmp 52, .const (.int .i64 1001), .const (.int .i64 1000000)]⟩, true, [⟨some 56, none, .op .ld1 [.tmp 55]⟩, ⟨some 61, none, .op .ld1 [.tmp 60]⟩, ⟨some 74, none, .op .ld1 [.tmp 73]⟩, ⟨some 80, none, .op .ld1 [.tmp 79]⟩, ⟨some 85, none, .op .ld1 [.tmp 84]⟩, ⟨some 90, none, .op .ld1 [.tmp 89]⟩, ⟨some 100, none, .op .ld1 [.tmp 99]⟩, ⟨some 105, none, .op .ld1 [.tmp 104]⟩, ⟨some 110, none, .op .ld1 [.tmp 109]⟩, ⟨some 115, none, .op .ld1 [.tmp 114]⟩, ⟨some 120, none, .op .ld1 [.tmp 119]⟩, ⟨some 125, none, .op .ld1 [.tmp 124]⟩]⟩, ⟨43, ⟨some 54, none, .op (.bld #[(.string ⟨#[]⟩), (.bool false)] [(0, 1), (1, 1)] [0, 1]) [.const (.string ⟨#[100, 111, 119, 110]⟩), .tmp 53]⟩, false, []⟩, ⟨47, ⟨some 58, none, .call 65 [.tmp 57, .const (.int .i64 0), .const (.int .i64 100)]⟩, true, [⟨some 61, none, .op .ld1 [.tmp 60]⟩, ⟨some 74, none, .op .ld1 [.tmp 73]⟩, ⟨some 80, none, .op .ld1 [.tmp 79]⟩, ⟨some 85, none, .op .ld1 [.tmp 84]⟩, ⟨some 90, none, .op .ld1 [.tmp 89]⟩, ⟨some 100, none, .op .ld1 [.tmp 99]⟩, ⟨some 105, none, .op .ld1 [.tmp 104]⟩, ⟨some 110, none, .op .ld1 [.tmp 109]⟩, ⟨some 115, none, .op .ld1 [.tmp 114]⟩, ⟨some 120, none, .op .ld1 [.tmp 119]⟩, ⟨some 125, none, .op .ld1 [.tmp 124]⟩]⟩, ⟨48, ⟨some 59, none, .op (.bld #[(.string ⟨#[]⟩), (.bool false)] [(0, 1), (1, 1)] [0, 1]) [.const (.string ⟨#[109, 105, 110]⟩), .tmp 58]⟩, false, []⟩, ⟨52, ⟨some 63, none, .op .mv [.tmp 62]⟩, false, []⟩, ⟨53, ⟨some 64, some (63, false), .op (.fad 9) [.tmp 1]⟩, false, []⟩, ⟨54, ⟨some 65, some (63, false), .op .ld1 [.tmp 64]⟩, false, []⟩, ⟨55, ⟨some 66, some (63, false), .op (.ifc 3) [.tmp 65]⟩, false, []⟩, ⟨56, ⟨some 67, some (63, false), .op (.fad 8) [.tmp 1]⟩, false, []⟩, ⟨57, ⟨some 68, some (63, false), .op .ld1 [.tmp 67]⟩, false, []⟩, ⟨58, ⟨some 69, some (63, false), .op (.mm true) [.tmp 68, .const (.int .i64 1)]⟩, false, []⟩, ⟨59, ⟨some 70, some (63, false), .call 65 [.tmp 66, .tmp 69, .const (.int .i64 100)]⟩, true, [⟨some 74, none, .op .ld1 [.tmp 73]⟩, ⟨some 80, none, .op .ld1 [.tmp 79]⟩, ⟨some 85, none, .op .ld1 [.tmp 84]⟩, ⟨some 90, none, .op .ld1 [.tmp 89]⟩, ⟨some 100, none, .op .ld1 [.tmp 99]⟩, ⟨some 105, none, .op .ld1 [.tmp 104]⟩, ⟨some 110, none, .op .ld1 [.tmp 109]⟩, ⟨some 115, none, .op .ld1 [.tmp 114]⟩, ⟨some 120, none, .op .ld1 [.tmp 119]⟩, ⟨some 125, none, .op .ld1 [.tmp 124]⟩]⟩, ⟨60, ⟨some 71, none, .op .pick [.tmp 63, .const (.bool true), .tmp 70]⟩, false, []⟩, ⟨61, ⟨some 72, none, .op (.bld #[(.string ⟨#[]⟩), (.bool false)] [(0, 1), (1, 1)] [0, 1]) [.const (.string ⟨#[109, 97, 120]⟩), .tmp 71]⟩, false, []⟩, ⟨66, ⟨some 77, none, .call 65 [.tmp 75, .const (.int .i64 0), .tmp 76]⟩, true, [⟨some 80, none, .op .ld1 [.tmp 79]⟩, ⟨some 85, none, .op .ld1 [.tmp 84]⟩, ⟨some 90, none, .op .ld1 [.tmp 89]⟩, ⟨some 100, none, .op .ld1 [.tmp 99]⟩, ⟨some 105, none, .op .ld1 [.tmp 104]⟩, ⟨some 110, none, .op .ld1 [.tmp 109]⟩, ⟨some 115, none, .op .ld1 [.tmp 114]⟩, ⟨some 120, none, .op .ld1 [.tmp 119]⟩, ⟨some 125, none, .op .ld1 [.tmp 124]⟩]⟩, ⟨67, ⟨some 78, none, .op (.bld #[(.string ⟨#[]⟩), (.bool false)] [(0, 1), (1, 1)] [0, 1]) [.const (.string ⟨#[105, 110, 105, 116, 105, 97, 108]⟩), .tmp 77]⟩, false, []⟩, ⟨71, ⟨some 82, none, .call 65 [.tmp 81, .const (.int .i64 0), .const (.int .i64 600)]⟩, true, [⟨some 85, none, .op .ld1 [.tmp 84]⟩, ⟨some 90, none, .op .ld1 [.tmp 89]⟩, ⟨some 100, none, .op .ld1 [.tmp 99]⟩, ⟨some 105, none, .op .ld1 [.tmp 104]⟩, ⟨some 110, none, .op .ld1 [.tmp 109]⟩, ⟨some 115, none, .op .ld1 [.tmp 114]⟩, ⟨some 120, none, .op .ld1 [.tmp 119]⟩, ⟨some 125, none, .op .ld1 [.tmp 124]⟩]⟩, ⟨72, ⟨some 83, none, .op (.bld #[(.string ⟨#[]⟩), (.bool false)] [(0, 1), (1, 1)] [0, 1]) [.const (.string ⟨#[103, 114, 97, 99, 101]⟩), .tmp 82]⟩, false, []⟩, ⟨76, ⟨some 87, none, .call 65 [.tmp 86, .const (.int .i64 0), .const (.int .i64 600)]⟩, true, [⟨some 90, none, .op .ld1 [.tmp 89]⟩, ⟨some 100, none, .op .ld1 [.tmp 99]⟩, ⟨some 105, none, .op .ld1 [.tmp 104]⟩, ⟨some 110, none, .op .ld1 [.tmp 109]⟩, ⟨some 115, none, .op .ld1 [.tmp 114]⟩, ⟨some 120, none, .op .ld1 [.tmp 119]⟩, ⟨some 125, none, .op .ld1 [.tmp 124]⟩]⟩, ⟨77, ⟨some 88, none, .op (.bld #[(.string ⟨#[]⟩), (.bool false)] [(0, 1), (1, 1)] [0, 1]) [.const (.string ⟨#[100, 101, 108, 97, 121]⟩), .tmp 87]⟩, false, []⟩, ⟨81, ⟨some 92, none, .op .mv [.tmp 91]⟩, false, []⟩, ⟨82, ⟨some 93, some (92, false), .op (.fad 13) [.tmp 1]⟩, false, []⟩, ⟨83, ⟨some 94, some (92, false), .op .ld1 [.tmp 93]⟩, false, []⟩, ⟨84, ⟨some 95, some (92, false), .op (.ifc 2) [.tmp 94]⟩, false, []⟩, ⟨85, ⟨some 96, some (92, false), .call 65 [.tmp 95, .const (.int .i64 0), .const (.int .i64 100000000)]⟩, true, [⟨some 100, none, .op .ld1 [.tmp 99]⟩, ⟨some 105, none, .op .ld1 [.tmp 104]⟩, ⟨some 110, none, .op .ld1 [.tmp 109]⟩, ⟨some 115, none, .op .ld1 [.tmp 114]⟩, ⟨some 120, none, .op .ld1 [.tmp 119]⟩, ⟨some 125, none, .op .ld1 [.tmp 124]⟩]⟩, ⟨86, ⟨some 97, none, .op .pick [.tmp 92, .const (.bool true), .tmp 96]⟩, false, []⟩, ⟨87, ⟨some 98, none, .op (.bld #[(.string ⟨#[]⟩), (.bool false)] [(0, 1), (1, 1)] [0, 1]) [.const (.string ⟨#[98, 117, 114, 115, 116]⟩), .tmp 97]⟩, false, []⟩, ⟨91, ⟨some 102, none, .call 65 [.tmp 101, .const (.int .i64 1), .const (.int .i64 1000)]⟩, true, [⟨some 105, none, .op .ld1 [.tmp 104]⟩, ⟨some 110, none, .op .ld1 [.tmp 109]⟩, ⟨some 115, none, .op .ld1 [.tmp 114]⟩, ⟨some 120, none, .op .ld1 [.tmp 119]⟩, ⟨some 125, none, .op .ld1 [.tmp 124]⟩]⟩, ⟨92, ⟨some 103, none, .op (.bld #[(.string ⟨#[]⟩), (.bool false)] [(0, 1), (1, 1)] [0, 1]) [.const (.string ⟨#[108, 105, 109, 105, 116]⟩), .tmp 102]⟩, false, []⟩, ⟨96, ⟨some 107, none, .call 65 [.tmp 106, .const (.int .i64 0), .const (.int .i64 200)]⟩, true, [⟨some 110, none, .op .ld1 [.tmp 109]⟩, ⟨some 115, none, .op .ld1 [.tmp 114]⟩, ⟨some 120, none, .op .ld1 [.tmp 119]⟩, ⟨some 125, none, .op .ld1 [.tmp 124]⟩]⟩, ⟨97, ⟨some 108, none, .op (.bld #[(.string ⟨#[]⟩), (.bool false)] [(0, 1), (1, 1)] [0, 1]) [.const (.string ⟨#[113, 117, 101, 117, 101]⟩), .tmp 107]⟩, false, []⟩, ⟨101, ⟨some 112, none, .call 65 [.tmp 111, .const (.int .i64 1), .const (.int .i64 10000)]⟩, true, [⟨some 115, none, .op .ld1 [.tmp 114]⟩, ⟨some 120, none, .op .ld1 [.tmp 119]⟩, ⟨some 125, none, .op .ld1 [.tmp 124]⟩]⟩, ⟨102, ⟨some 113, none, .op (.bld #[(.string ⟨#[]⟩), (.bool false)] [(0, 1), (1, 1)] [0, 1]) [.const (.string ⟨#[116, 105, 109, 101, 111, 117, 116]⟩), .tmp 112]⟩, false, []⟩, ⟨106, ⟨some 117, none, .call 65 [.tmp 116, .const (.int .i64 0), .const (.int .i64 100)]⟩, true, [⟨some 120, none, .op .ld1 [.tmp 119]⟩, ⟨some 125, none, .op .ld1 [.tmp 124]⟩]⟩, ⟨107, ⟨some 118, none, .op (.bld #[(.string ⟨#[]⟩), (.bool false)] [(0, 1), (1, 1)] [0, 1]) [.const (.string ⟨#[114, 101, 97, 100, 121]⟩), .tmp 117]⟩, false, []⟩, ⟨111, ⟨some 122, none, .call 65 [.tmp 121, .const (.int .i64 0), .const (.int .i64 100)]⟩, true, [⟨some 125, none, .op .ld1 [.tmp 124]⟩]⟩, ⟨112, ⟨some 123, none, .op (.bld #[(.string ⟨#[]⟩), (.bool false)] [(0, 1), (1, 1)] [0, 1]) [.const (.string ⟨#[115, 117, 98, 115, 101, 116]⟩), .tmp 122]⟩, false, []⟩, ⟨116, ⟨some 127, none, .call 65 [.tmp 126, .const (.int .i64 0), .const (.int .i64 100)]⟩, true, []⟩, ⟨117, ⟨some 128, none, .op (.bld #[(.string ⟨#[]⟩), (.bool false)] [(0, 1), (1, 1)] [0, 1]) [.const (.string ⟨#[115, 97, 109, 112, 108, 101]⟩), .tmp 127]⟩, false, []⟩, ⟨118, ⟨some 129, none, .op (.bsl 99 2 20 #[(.string ⟨#[]⟩), (.bool false), (.string ⟨#[]⟩), (.bool false), (.string ⟨#[]⟩), (.bool false), (.string ⟨#[]⟩), (.bool false), (.string ⟨#[]⟩), (.bool false), (.string ⟨#[]⟩), (.bool false), (.string ⟨#[]⟩), (.bool false), (.string ⟨#[]⟩), (.bool false), (.string ⟨#[]⟩), (.bool false), (.string ⟨#[]⟩), (.bool false), (.string ⟨#[]⟩), (.bool false), (.string ⟨#[]⟩), (.bool false), (.string ⟨#[]⟩), (.bool false), (.string ⟨#[]⟩), (.bool false), (.string ⟨#[]⟩), (.bool false), (.string ⟨#[]⟩), (.bool false), (.string ⟨#[]⟩), (.bool false), (.string ⟨#[]⟩), (.bool false), (.string ⟨#[]⟩), (.bool false), (.string ⟨#[]⟩), (.bool false)] [0, 1, 2, 3, 4, 5, 6, 7, 8, 9, 10, 11, 12, 13, 14, 15, 16, 17, 18, 19]) [.tmp 15, .tmp 20, .tmp 25, .tmp 32, .tmp 39, .tmp 44, .tmp 49, .tmp 54, .tmp 59, .tmp 72, .tmp 78, .tmp 83, .tmp 88, .tmp 98, .tmp 103, .tmp 108, .tmp 113, .tmp 118, .tmp 123, .tmp 128]⟩, true, []⟩, ⟨119, ⟨some 130, none, .op .len [.tmp 129]⟩, false, []⟩]) (.block 0 (.loop (.seq (.reg [⟨some 132, none, .op (.bin .lss) [.tmp 131, .tmp 130]⟩]) (.seq (.cond (.tmp 132) (.skip) (.exit 0)) (.seq (.block 1 (.seq (.reg [⟨some 133, none, .op (.iad 2) [.tmp 129, .tmp 131]⟩, ⟨some 134, none, .op (.ldn 2) [.tmp 133]⟩, ⟨some 5, none, .op (.new 99 (.agg #[(.string ⟨#[]⟩), (.bool false)])) []⟩, ⟨none, none, .op (.st 2) [.tmp 5, .tmp 134]⟩]) (.seq (.reg [⟨some 135, none, .op (.fad 1) [.tmp 5]⟩, ⟨some 136, none, .op .ld1 [.tmp 135]⟩, ⟨some 137, none, .op .not [.tmp 136]⟩]) (.cond (.tmp 137) (.seq (.reg [⟨some 138, none, .op (.fad 0) [.tmp 5]⟩, ⟨some 139, none, .op .ld1 [.tmp 138]⟩, ⟨some 2, none, .op .mv [.tmp 139]⟩]) (.ret)) (.skip))))) (.reg [⟨some 140, none, .op (.bin .add) [.tmp 131, .const (.int .i64 1)]⟩, ⟨some 131, none, .op .mv [.tmp 140]⟩]))))))) (.seq (.reg [⟨some 2, none, .op .mv [.const (.string ⟨#[]⟩)]⟩]) (.ret)))))⟩
theorem c50 : compF Go.Proofs.Tryd.prog Go.Proofs.Tryd.f50 = some ir50 := by kernel_rfl
/-- strconv.ParseInt -/
def ir52 : FI :=
  ⟨25, [.tmp 6, .tmp 7], .seq (.reg [⟨some 6, none, .op .mv [.const (.int .i64 0)]⟩, ⟨some 7, none, .op .mv [.const .nilIface]⟩]) (.seq (.reg [⟨some 10, none, .op .mv [.tmp 0]⟩, ⟨some 11, none, .op .mv [.tmp 1]⟩, ⟨some 12, none, .op .mv [.tmp 2]⟩, ⟨some 13, none, .call 67 [.tmp 10, .tmp 11, .tmp 12]⟩, ⟨some 9, none, .op .mv [.tmp 13]⟩, ⟨some 14, none, .op (.ext 0) [.tmp 9]⟩, ⟨some 15, none, .op (.ext 1) [.tmp 9]⟩, ⟨some 8, none, .op .mv [.tmp 14]⟩, ⟨some 7, none, .op .mv [.tmp 15]⟩]) (.seq (.seq (.reg [⟨some 16, none, .op .mv [.tmp 7]⟩, ⟨some 17, none, .op (.isn true) [.tmp 16, .const .nilIface]⟩]) (.cond (.tmp 17) (.seq (.reg [⟨some 18, none, .op .mv [.tmp 8]⟩, ⟨some 19, none, .op .mv [.tmp 0]⟩, ⟨some 20, none, .op .mv [.tmp 1]⟩, ⟨some 21, none, .op .mv [.tmp 2]⟩, ⟨some 22, none, .op .mv [.tmp 7]⟩, ⟨some 23, none, .call 68 [.const (.string ⟨#[80, 97, 114, 115, 101, 73, 110, 116]⟩), .tmp 19, .tmp 20, .tmp 21, .tmp 22]⟩, ⟨some 6, none, .op .mv [.tmp 18]⟩, ⟨some 7, none, .op .mv [.tmp 23]⟩]) (.ret)) (.skip))) (.seq (.reg [⟨some 24, none, .op .mv [.tmp 8]⟩, ⟨some 6, none, .op .mv [.tmp 24]⟩, ⟨some 7, none, .op .mv [.const .nilIface]⟩]) (.ret))))⟩
theorem c52 : compF Go.Proofs.Tryd.prog Go.Proofs.Tryd.f52 = some ir52 := by kernel_rfl
/-- spinnaker/spinnakerref1.in -/
def ir56 : FI :=
  ⟨15, [.tmp 6], .seq (.reg [⟨some 6, none, .op .mv [.const (.bool false)]⟩]) (.seq (.reg [⟨some 7, none, .op .mv [.tmp 0]⟩, ⟨some 8, none, .op .mv [.tmp 1]⟩, ⟨some 9, none, .op (.bin .geq) [.tmp 7, .tmp 8]⟩, ⟨some 10, none, .op .mv [.tmp 9]⟩, ⟨some 11, some (10, true), .op .mv [.tmp 0]⟩, ⟨some 12, some (10, true), .op .mv [.tmp 2]⟩, ⟨some 13, some (10, true), .op (.bin .leq) [.tmp 11, .tmp 12]⟩, ⟨some 14, none, .op .pick [.tmp 10, .tmp 13, .const (.bool false)]⟩, ⟨some 6, none, .op .mv [.tmp 14]⟩]) (.ret))⟩
theorem c56 : compF Go.Proofs.Tryd.prog Go.Proofs.Tryd.f56 = some ir56 := by kernel_rfl
/-- spinnaker/conf.within -/
def ir65 : FI :=
  ⟨41, [.tmp 6], .seq (.reg [⟨some 6, none, .op .mv [.const (.bool false)]⟩]) (.seq (.seq (.reg [⟨some 12, none, .op .mv [.tmp 0]⟩, ⟨some 13, none, .op (.tas 2 true (.int .i64 0)) [.tmp 12]⟩, ⟨some 11, none, .op .mv [.tmp 13]⟩, ⟨some 14, none, .op (.ext 0) [.tmp 11]⟩, ⟨some 15, none, .op (.ext 1) [.tmp 11]⟩, ⟨some 7, none, .op .mv [.tmp 14]⟩, ⟨some 8, none, .op .mv [.tmp 15]⟩]) (.seq (.reg [⟨some 16, none, .op .mv [.tmp 8]⟩]) (.cond (.tmp 16) (.seq (.reg [⟨some 17, none, .op .mv [.tmp 7]⟩, ⟨some 18, none, .op .mv [.tmp 1]⟩, ⟨some 19, none, .op (.bin .geq) [.tmp 17, .tmp 18]⟩, ⟨some 20, none, .op .mv [.tmp 19]⟩, ⟨some 21, some (20, true), .op .mv [.tmp 7]⟩, ⟨some 22, some (20, true), .op .mv [.tmp 2]⟩, ⟨some 23, some (20, true), .op (.bin .leq) [.tmp 21, .tmp 22]⟩, ⟨some 24, none, .op .pick [.tmp 20, .tmp 23, .const (.bool false)]⟩, ⟨some 6, none, .op .mv [.tmp 24]⟩]) (.ret)) (.skip)))) (.seq (.reg [⟨some 26, none, .op .mv [.tmp 0]⟩, ⟨some 27, none, .op (.tas 3 true (.int .i64 0)) [.tmp 26]⟩, ⟨some 25, none, .op .mv [.tmp 27]⟩, ⟨some 28, none, .op (.ext 0) [.tmp 25]⟩, ⟨some 29, none, .op (.ext 1) [.tmp 25]⟩, ⟨some 9, none, .op .mv [.tmp 28]⟩, ⟨some 10, none, .op .mv [.tmp 29]⟩]) (.seq (.reg [⟨some 30, none, .op .mv [.tmp 10]⟩, ⟨some 31, none, .op .mv [.tmp 30]⟩, ⟨some 32, some (31, true), .op .mv [.tmp 9]⟩, ⟨some 33, some (31, true), .op .mv [.tmp 1]⟩, ⟨some 34, some (31, true), .op (.bin .geq) [.tmp 32, .tmp 33]⟩, ⟨some 35, none, .op .pick [.tmp 31, .tmp 34, .const (.bool false)]⟩, ⟨some 36, none, .op .mv [.tmp 35]⟩, ⟨some 37, some (36, true), .op .mv [.tmp 9]⟩, ⟨some 38, some (36, true), .op .mv [.tmp 2]⟩, ⟨some 39, some (36, true), .op (.bin .leq) [.tmp 37, .tmp 38]⟩, ⟨some 40, none, .op .pick [.tmp 36, .tmp 39, .const (.bool false)]⟩, ⟨some 6, none, .op .mv [.tmp 40]⟩]) (.ret))))⟩
theorem c65 : compF Go.Proofs.Tryd.prog Go.Proofs.Tryd.f65 = some ir65 := by kernel_rfl
end Go.Proofs.YtapbmmlgmcmpnaaDoorW.Am
