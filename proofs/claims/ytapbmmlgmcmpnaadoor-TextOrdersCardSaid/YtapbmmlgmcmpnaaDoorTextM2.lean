/- Regions whose order is open: the order that stands for all, reckoned and checked. -/
import Derived.Test.YtapbmmlgmcmpnaaDoorTextM1
import Derived.ChangeSlices
import Derived.OpenShut
import Derived.ChangeArms
import Derived.DataReads
namespace Go.Proofs.YtapbmmlgmcmpnaaDoorW.Am
open Go Go.RowKit

/-- Of each operation: which ones come ahead of it in every order (bits). -/
def maskOf (acc : List Nat) (o : Oper) : Nat := o.after.toList.foldl (fun s e => if Region.binds .any e then s ||| 2 ^ e.on ||| acc.getD e.on 0 else s) 0
def masksGo : List Oper → List Nat → List Nat
  | [], acc => acc
  | o :: r, acc => masksGo r (acc ++ [maskOf acc o])
def masks (ops : Array Oper) : List Nat := masksGo ops.toList []
def readyNow (ops : Array Oper) (done : List Nat) (i : Nat) : Bool :=
  match ops[i]? with
  | some o => o.after.all fun e => !Region.binds .any e || done.contains e.on
  | none => false
/-- Reads as early as they may be; then the next write. -/
def eagerGo (ops : Array Oper) (eff : Nat → Bool) : Nat → List Nat → List Nat → List Nat
  | 0, _, done => done
  | fuel + 1, left, done =>
    match left.find? (fun i => !eff i && readyNow ops done i) with
    | some i => eagerGo ops eff fuel (left.erase i) (done ++ [i])
    | none => match left.find? (fun i => readyNow ops done i) with
      | some i => eagerGo ops eff fuel (left.erase i) (done ++ [i])
      | none => done
/-- Does the instruction write a slot that one ahead of it (in the text) reads or writes? -/
def warOf (ins : List In) (ix : Nat) : Bool := match ins[ix]? with
  | some i => match i.d with
    | some d => (ins.take ix).any fun y => (looks y).contains d || y.d == some d
    | none => false
  | none => false
def triples (P : Program) (n : Nat) (ops : Array Oper) : List Nat → Option (List (Nat × In))
  | [] => some []
  | ix :: r => match ops[ix]? with
    | some o => match compIn P n ops o, triples P n ops r with
      | some i, some ts => some ((ix, i) :: ts)
      | _, _ => none
    | none => none
def buildL (mk : Nat → Nat) (ef : Nat → Bool) (p : List DE) : List (Nat × In) → List DE
  | [] => []
  | (ix, i) :: r =>
    let x : DE := ⟨ix, i, effIn i || ef ix, if effIn i then (p.filter fun y => !y.eff && !pureIn y.i && !(mk ix).testBit y.ix).map (·.i) else []⟩
    x :: buildL mk ef (p ++ [x]) r
def chkOne (mk : Nat → Nat) (ops : Array Oper) (p : List DE) (x : DE) (q : List DE) : Bool :=
  (match ops[x.ix]? with
    | some o => (o.after.toList.all fun e => !Region.binds .any e || (p.map (·.ix)).contains e.on) &&
      (p.all fun y => y.eff || match y.i.d with
        | some d => !(looks x.i).contains d || o.after.toList.any fun e => Region.binds .any e && e.on == y.ix
        | none => true)
    | none => false) &&
  (x.eff || match x.i.d with | some d => !(looks x.i).contains d | none => true) &&
  (q.all fun y => match y.i.d with
    | some d => (!(looks x.i).contains d && x.i.d != some d) || (y.eff && (mk y.ix).testBit x.ix)
    | none => true) &&
  (x.eff || pureIn x.i || x.i.d.isSome)
def chkL (mk : Nat → Nat) (ops : Array Oper) (p : List DE) : List DE → Bool
  | [] => true
  | x :: q => chkOne mk ops p x q && chkL mk ops (p ++ [x]) q
def drawL (P : Program) (n : Nat) (ops : Array Oper) : Option (List DE) :=
  let mk := masks ops
  match compIns P n ops ops.toList with
  | none => none
  | some ins =>
    let order := eagerGo ops (fun i => (match ins[i]? with | some x => effIn x | none => true) || warOf ins i) ops.size (List.range ops.size) []
    match triples P n ops order with
    | none => none
    | some ts =>
      let L := buildL (fun i => mk.getD i 0) (warOf ins) [] ts
      if (decide (L.length = ops.size) && decide (L.map (·.ix)).Nodup && ((List.range ops.size).all fun i => (L.map (·.ix)).contains i) && eagerOk (fun i => mk.getD i 0) none L && chkL (fun i => mk.getD i 0) ops [] L) = true then some L else none

section
variable {P : Program} {n : Nat} {ops : Array Oper} {mk : Nat → Nat}

theorem fold_bit {acc : List Nat} {j : Nat} : ∀ (l : List Edge) (s : Nat), (l.foldl (fun s e => if Region.binds .any e then s ||| 2 ^ e.on ||| acc.getD e.on 0 else s) s).testBit j = true →
    s.testBit j = true ∨ ∃ e ∈ l, Region.binds .any e = true ∧ (e.on = j ∨ (acc.getD e.on 0).testBit j = true) := by
  intro l
  induction l with
  | nil => intro s h; exact .inl h
  | cons e l ih =>
    intro s h
    simp only [List.foldl_cons] at h
    rcases ih _ h with h1 | ⟨e', he', hh⟩
    · split at h1
      · next hb =>
        rw [Nat.testBit_or, Nat.testBit_or, Bool.or_eq_true, Bool.or_eq_true] at h1
        rcases h1 with (h1 | h1) | h1
        · exact .inl h1
        · refine .inr ⟨e, by simp, hb, .inl ?_⟩
          rw [Nat.testBit_two_pow] at h1
          simpa using h1
        · exact .inr ⟨e, by simp, hb, .inr h1⟩
      · exact .inl h1
    · exact .inr ⟨e', by simp [he'], hh⟩

theorem masksGo_get : ∀ (l : List Oper) (acc : List Nat) (i : Nat), (masksGo l acc)[i]? = if i < acc.length then acc[i]? else (match l[i - acc.length]? with | some o => some (maskOf ((masksGo l acc).take i) o) | none => none) := by
  intro l
  induction l with
  | nil =>
    intro acc i
    simp only [masksGo]
    split
    · rfl
    · next h => rw [List.getElem?_eq_none (by omega)]; simp
  | cons o l ih =>
    intro acc i
    simp only [masksGo]
    rw [ih]
    simp only [List.length_append, List.length_cons, List.length_nil]
    by_cases h1 : i < acc.length
    · rw [if_pos (by omega), if_pos h1, List.getElem?_append_left h1]
    · rw [if_neg h1]
      by_cases h2 : i = acc.length
      · subst h2
        rw [if_pos (by omega)]
        simp only [Nat.sub_self, List.getElem?_cons_zero]
        rw [List.getElem?_append_right (Nat.le_refl _)]
        simp only [Nat.sub_self, List.getElem?_cons_zero]
        have : (masksGo l (acc ++ [maskOf acc o])).take acc.length = acc := by
          refine List.ext_getElem? fun j => ?_
          rw [List.getElem?_take]
          split
          · next hj => rw [ih, if_pos (by simp; omega), List.getElem?_append_left hj]
          · next hj => rw [List.getElem?_eq_none (by omega)]
        rw [this]
      · rw [if_neg (by omega), show i - acc.length = (i - (acc.length + (0 + 1))) + 1 by omega]
        simp only [List.getElem?_cons_succ]

theorem mask_closed (D : Nat → Prop) (hD : ∀ (i : Nat) (o : Oper), ops[i]? = some o → D i → ∀ e ∈ o.after, Region.binds .any e = true → D e.on) :
    ∀ (i : Nat) (o : Oper), ops[i]? = some o → (∀ e ∈ o.after, Region.binds .any e = true → D e.on) → ∀ j, (((masks ops).getD i 0).testBit j = true) → D j := by
  intro i
  induction i using Nat.strongRecOn with
  | _ i ih =>
    intro o ho hp j hj
    have hg := masksGo_get ops.toList [] i
    simp only [List.length_nil, Nat.not_lt_zero, if_false, Nat.sub_zero] at hg
    have hoL : ops.toList[i]? = some o := by rw [Array.getElem?_toList]; exact ho
    simp only [hoL] at hg
    unfold masks at hj
    rw [List.getD_eq_getElem?_getD, hg, Option.getD_some] at hj
    unfold maskOf at hj
    rcases fold_bit _ _ hj with h | ⟨e, he, hb, h⟩
    · simp at h
    · have hDe := hp e (by simpa using he) hb
      rcases h with rfl | h
      · exact hDe
      · rw [List.getD_eq_getElem?_getD, List.getElem?_take] at h
        split at h
        · next hlt =>
          cases hoe : ops[e.on]? with
          | none =>
            have hl := masksGo_get ops.toList [] e.on
            simp only [List.length_nil, Nat.not_lt_zero, if_false, Nat.sub_zero] at hl
            have hoL : ops.toList[e.on]? = none := by rw [Array.getElem?_toList]; exact hoe
            simp only [hoL] at hl
            rw [hl] at h
            simp at h
          | some oe =>
            refine ih e.on hlt oe hoe (fun e2 h2 hb2 => hD e.on oe hoe hDe e2 h2 hb2) j ?_
            unfold masks
            rw [List.getD_eq_getElem?_getD]
            exact h
        · simp at h

theorem triples_of : ∀ {ixs : List Nat} {ts : List (Nat × In)}, triples P n ops ixs = some ts → ∀ p ∈ ts, ∃ o, ops[p.1]? = some o ∧ compIn P n ops o = some p.2 := by
  intro ixs
  induction ixs with
  | nil => intro ts e p hp; cases e; cases hp
  | cons ix ixs ih =>
    intro ts e p hp
    simp only [triples] at e
    split at e
    case h_2 => cases e
    case h_1 o ho =>
    split at e
    case h_2 => cases e
    case h_1 i ts' hi hts =>
    cases e
    rcases List.mem_cons.1 hp with rfl | hp
    · exact ⟨o, ho, hi⟩
    · exact ih hts p hp
theorem buildL_mem {ef : Nat → Bool} : ∀ {ts : List (Nat × In)} {p : List DE} {x : DE}, x ∈ buildL mk ef p ts → (x.ix, x.i) ∈ ts ∧ x.eff = (effIn x.i || ef x.ix) := by
  intro ts
  induction ts with
  | nil => intro p x hx; cases hx
  | cons t ts ih =>
    intro p x hx
    obtain ⟨ix, i⟩ := t
    simp only [buildL] at hx
    rcases List.mem_cons.1 hx with rfl | hx
    · exact ⟨by simp, rfl⟩
    · obtain ⟨h1, h2⟩ := ih hx
      exact ⟨by simp [h1], h2⟩
theorem buildL_re {ef : Nat → Bool} : ∀ {ts : List (Nat × In)} {p0 p q : List DE} {x : DE}, buildL mk ef p0 ts = p ++ x :: q → x.re = if effIn x.i then ((p0 ++ p).filter fun y => !y.eff && !pureIn y.i && !(mk x.ix).testBit y.ix).map (·.i) else [] := by
  intro ts
  induction ts with
  | nil => intro p0 p q x e; simp [buildL] at e
  | cons t ts ih =>
    intro p0 p q x e
    obtain ⟨ix, i⟩ := t
    simp only [buildL] at e
    cases p with
    | nil =>
      simp only [List.nil_append, List.cons.injEq] at e
      obtain ⟨rfl, _⟩ := e
      simp
    | cons y p =>
      simp only [List.cons_append, List.cons.injEq] at e
      obtain ⟨rfl, e⟩ := e
      have := ih e
      simpa using this
theorem chkL_at : ∀ {l p0 p q : List DE} {x : DE}, chkL mk ops p0 l = true → l = p ++ x :: q → chkOne mk ops (p0 ++ p) x q = true := by
  intro l
  induction l with
  | nil => intro p0 p q x _ e; simp at e
  | cons y l ih =>
    intro p0 p q x hc e
    simp only [chkL, Bool.and_eq_true] at hc
    cases p with
    | nil =>
      simp only [List.nil_append, List.cons.injEq] at e
      obtain ⟨rfl, rfl⟩ := e
      simpa using hc.1
    | cons z p =>
      simp only [List.cons_append, List.cons.injEq] at e
      obtain ⟨rfl, e⟩ := e
      have := ih hc.2 e
      simpa using this

theorem fine_of {L : List DE} (e : drawL P n ops = some L) : Fine P n ops (fun i => (masks ops).getD i 0) L := by
  unfold drawL at e
  simp only at e
  split at e
  · cases e
  next ins hins =>
  split at e
  · cases e
  next ts hts =>
  split at e
  case isFalse => cases e
  case isTrue hc =>
  cases e
  simp only [Bool.and_eq_true, decide_eq_true_eq] at hc
  obtain ⟨⟨⟨⟨_, h1⟩, h2⟩, h3⟩, h4⟩ := hc
  refine ⟨?_, h1, ?_, ?_, ?_, ?_, h3, ?_, ?_, fun D hD => mask_closed D hD⟩
  · intro x hx
    obtain ⟨g1, g2⟩ := buildL_mem hx
    obtain ⟨o, ho, hi⟩ := triples_of hts _ g1
    refine ⟨o, ho, hi, fun hq => ?_⟩
    rw [g2, Bool.or_eq_false_iff] at hq
    have hq := hq.1
    cases hp : pureIn x.i with
    | true => exact .inl rfl
    | false => right; simpa [effIn, hp] using hq
  · intro i hi
    rw [List.all_eq_true] at h2
    have := h2 i (by simpa using hi)
    simpa using this
  · intro p x q hL o ho e he hb
    have hk := chkL_at h4 hL
    simp only [chkOne, ho, List.nil_append, Bool.and_eq_true] at hk
    have := List.all_eq_true.1 hk.1.1.1.1 e (by simpa using he)
    rw [hb] at this
    simpa using this
  · intro p x q hL
    have hk := chkL_at h4 hL
    simp only [chkOne, Bool.and_eq_true] at hk
    refine ⟨fun hxe d hd => ?_, fun y hy d hd => ?_⟩
    · have := hk.1.1.2
      rw [hd, hxe] at this
      simpa using this
    · have := List.all_eq_true.1 hk.1.2 y hy
      rw [hd] at this
      simp only [Bool.or_eq_true, Bool.and_eq_true] at this
      rcases this with h | h
      · exact .inl (by simpa using h)
      · exact .inr h
  · intro p x q hL y hy hye d hd hm
    have hk := chkL_at h4 hL
    simp only [chkOne, List.nil_append, Bool.and_eq_true] at hk
    have hk1 := hk.1.1.1
    split at hk1
    · next o ho =>
      simp only [Bool.and_eq_true] at hk1
      have := List.all_eq_true.1 hk1.2 y hy
      rw [hd, hye] at this
      simp only [Bool.false_or, Bool.or_eq_true] at this
      rcases this with this | this
      · simp [hm] at this
      · obtain ⟨e, he, hh⟩ := List.any_eq_true.1 this
        simp only [Bool.and_eq_true, beq_iff_eq] at hh
        exact ⟨o, e, ho, by simpa using he, hh.1, hh.2⟩
    · cases hk1
  · intro p x q hL hx hxe y hy hye hyp hb
    have := buildL_re hL
    rw [if_pos hxe] at this
    rw [this]
    refine List.mem_map_of_mem (List.mem_filter.2 ⟨by simpa using hy, ?_⟩)
    rw [hye, hyp, hb]; rfl
  · intro x hx hxe hxp
    obtain ⟨p, q, hL⟩ := List.append_of_mem hx
    have hk := chkL_at h4 hL
    simp only [chkOne, Bool.and_eq_true] at hk
    have := hk.2
    rw [hxe, hxp] at this
    simpa using this

/-- The order that is reckoned stands for all. -/
theorem draw_sound {base : Nat} {w0 w : World} {m : Mu} {h : Hp} {env : Env} {L : List DE} {Q : Env → Hp → Prop} {Q' : Exit → Act → World → Prop} {a : Act} (e : drawL P n ops = some L) (r : REnv m n env a.tmps) (hd : a.defers = []) (s : Sim base w0 m h w) (hw : wpD P (ACall P) L env h Q)
    (hq : ∀ m' env' h' a' w', m.le m' → REnv m' n env' a'.tmps → a'.defers = [] → Sim base w0 m' h' w' → Q env' h' → Q' .normal a' w') :
    wpAny P .any ops Q' ops.size (Array.replicate ops.size false) a w := by
  have F := fine_of e
  have hlen : L.length = ops.size := by
    unfold drawL at e
    simp only at e
    split at e
    · cases e
    split at e
    · cases e
    split at e
    case isFalse => cases e
    case isTrue hc =>
    cases e
    simp only [Bool.and_eq_true, decide_eq_true_eq] at hc
    exact hc.1.1.1.1
  refine Inv.run F (m0 := m) hq ops.size _ [] L [] none m env h a w (by simp) (by simpa using hlen) ⟨rfl, List.Sublist.refl _, by simp, hw, ?_, ?_, ?_, F.eager, by simp, ⟨r.1, fun t v ev _ => r.2 t v ev⟩, hd, s, m.le_refl⟩
  · intro i hi
    constructor
    · intro hx; simp [hi] at hx
    · rintro ⟨h1, _⟩; exact absurd (F.all i hi) h1
  · intro i hx
    have := (Array.getElem?_eq_some_iff.1 hx).1
    simpa using this
  · intro i o _ hx
    have hi := (Array.getElem?_eq_some_iff.1 hx).1
    simp at hi
    simp [hi] at hx
end
end Go.Proofs.YtapbmmlgmcmpnaaDoorW.Am
/- Code: what is to be shown of it over abstract heaps, and the rules. -/
namespace Go.Proofs.YtapbmmlgmcmpnaaDoorW.Am
open Go Go.RowKit

inductive IC
  | skip
  | reg (ins : List In)
  | drw (L : List DE)
  | seq (a b : IC)
  | cond (c : Operand) (a b : IC)
  | block (id : Nat) (a : IC)
  | loop (a : IC)
  | exit (id : Nat)
  | ret

/-- Code as instructions. A region whose order is open stays as it is. -/
def compC (P : Program) (n : Nat) : Code → Option IC
  | .skip => some .skip
  | .region _ ops draw => if draw then (drawL P n ops).map .drw else (compIns P n ops ops.toList).map .reg
  | .seq a b => match compC P n a, compC P n b with
    | some x, some y => some (.seq x y)
    | _, _ => none
  | .cond c a b => match compC P n a, compC P n b with
    | some x, some y => some (.cond c x y)
    | _, _ => none
  | .block id a => (compC P n a).map (.block id)
  | .loop a => (compC P n a).map .loop
  | .exit id => some (.exit id)
  | .ret => some .ret
  | _ => none

/-- What is to be shown of code. -/
def AW (P : Program) (n : Nat) (c : Code) (env : Env) (h : Hp) (Q : Exit → Env → Hp → Prop) : Prop :=
  ∀ base w0 m a w, REnv m n env a.tmps → a.defers = [] → Sim base w0 m h w →
    c.wp P (fun ex a' w' => ∃ m' env' h', m.le m' ∧ REnv m' n env' a'.tmps ∧ a'.defers = [] ∧ Sim base w0 m' h' w' ∧ Q ex env' h') a w
def AI (P : Program) (n : Nat) (c : IC) (env : Env) (h : Hp) (Q : Exit → Env → Hp → Prop) : Prop :=
  ∀ d, compC P n d = some c → AW P n d env h Q

def thenQ (P : Program) (n : Nat) (b : IC) (Q : Exit → Env → Hp → Prop) : Exit → Env → Hp → Prop
  | .normal, env, h => AI P n b env h Q
  | e, env, h => Q e env h
def blockQ (id : Nat) (Q : Exit → Env → Hp → Prop) : Exit → Env → Hp → Prop
  | .exit j, env, h => if j = id then Q .normal env h else Q (.exit j) env h
  | e, env, h => Q e env h

theorem exists_least {p : Nat → Prop} : ∀ k, p k → ∃ n, p n ∧ ∀ j, p j → n ≤ j := by
  intro k
  induction k using Nat.strongRecOn with
  | _ k ih =>
    intro hk
    by_cases h : ∃ j, j < k ∧ p j
    · obtain ⟨j, hj, pj⟩ := h
      exact ih j hj pj
    · exact ⟨k, hk, fun j pj => Nat.le_of_not_lt fun hlt => h ⟨j, hlt, pj⟩⟩
noncomputable def least (p : Nat → Prop) : Nat := open Classical in if h : ∃ n, p n ∧ ∀ j, p j → n ≤ j then Classical.choose h else 0
theorem least_spec {p : Nat → Prop} {k : Nat} (hk : p k) : p (least p) ∧ ∀ j, p j → least p ≤ j := by
  have h := exists_least k hk
  unfold least
  rw [dif_pos h]
  exact Classical.choose_spec h

section
variable {P : Program} {n : Nat} {env : Env} {h : Hp} {Q : Exit → Env → Hp → Prop}

theorem AW.mono {c : Code} {Q' : Exit → Env → Hp → Prop} (a : AW P n c env h Q) (hq : ∀ e env h, Q e env h → Q' e env h) : AW P n c env h Q' :=
  fun base w0 m ac w r hd s => wp_mono (a base w0 m ac w r hd s) fun _ _ _ ⟨m', env', h', h1, h2, h3, h4, h5⟩ => ⟨m', env', h', h1, h2, h3, h4, hq _ _ _ h5⟩
theorem AI.mono {c : IC} {Q' : Exit → Env → Hp → Prop} (a : AI P n c env h Q) (hq : ∀ e env h, Q e env h → Q' e env h) : AI P n c env h Q' :=
  fun d hd => (a d hd).mono hq

def EnvLe (a b : Env) : Prop := ∀ t v, a.get t = some v → b.get t = some v
/-- Less may be known of the frame. -/
theorem AI.weak {c : IC} {env' : Env} (hl : EnvLe env' env) (a : AI P n c env' h Q) : AI P n c env h Q :=
  fun d hd base w0 m ac w r hdf s => a d hd base w0 m ac w ⟨r.1, fun t v e => r.2 t v (hl t v e)⟩ hdf s

theorem ai_skip (hq : Q .normal env h) : AI P n .skip env h Q := by
  intro d hd base w0 m a w r hdf s
  cases d <;> simp only [compC, reduceCtorEq] at hd
  · exact wp_skip ⟨m, env, h, m.le_refl, r, hdf, s, hq⟩
  all_goals (first | (split at hd <;> simp at hd; done) | simp at hd)

theorem ai_ret (hq : Q .ret env h) : AI P n .ret env h Q := by
  intro d hd base w0 m a w r hdf s
  cases d <;> simp only [compC, reduceCtorEq] at hd
  case ret => exact wp_ret ⟨m, env, h, m.le_refl, r, hdf, s, hq⟩
  all_goals (first | (split at hd <;> simp at hd; done) | simp at hd)

theorem ai_exit {id : Nat} (hq : Q (.exit id) env h) : AI P n (.exit id) env h Q := by
  intro d hd base w0 m a w r hdf s
  cases d <;> simp only [compC, reduceCtorEq, Option.some.injEq, IC.exit.injEq] at hd
  case exit j => subst hd; exact wp_exit ⟨m, env, h, m.le_refl, r, hdf, s, hq⟩
  all_goals (first | (split at hd <;> simp at hd; done) | simp at hd)

theorem ai_seq {x y : IC} (hx : AI P n x env h (thenQ P n y Q)) : AI P n (.seq x y) env h Q := by
  intro d hd base w0 m a w r hdf s
  cases d <;> simp only [compC, reduceCtorEq] at hd
  case seq c1 c2 =>
    split at hd
    case h_2 => cases hd
    case h_1 x' y' h1 h2 =>
    cases hd
    refine wp_seq (wp_mono (hx c1 h1 base w0 m a w r hdf s) ?_)
    rintro ex a' w' ⟨m', env', h', g1, g2, g3, g4, g5⟩
    cases ex with
    | normal =>
      refine wp_mono (g5 c2 h2 base w0 m' a' w' g2 g3 g4) ?_
      rintro ex a2 w2 ⟨m2, env2, h2, k1, k2⟩
      exact ⟨m2, env2, h2, Mu.le_trans g1 k1, k2⟩
    | exit j => exact ⟨m', env', h', g1, g2, g3, g4, g5⟩
    | goto l => exact ⟨m', env', h', g1, g2, g3, g4, g5⟩
    | ret => exact ⟨m', env', h', g1, g2, g3, g4, g5⟩
    | panic ch => exact ⟨m', env', h', g1, g2, g3, g4, g5⟩
    | outgrown => exact ⟨m', env', h', g1, g2, g3, g4, g5⟩
  all_goals (first | (split at hd <;> simp at hd; done) | simp at hd)

theorem ai_block {id : Nat} {x : IC} (hx : AI P n x env h (blockQ id Q)) : AI P n (.block id x) env h Q := by
  intro d hd base w0 m a w r hdf s
  cases d <;> simp only [compC, reduceCtorEq] at hd
  case block j c =>
    simp only [Option.map_eq_some_iff, IC.block.injEq] at hd
    obtain ⟨x', h1, rfl, rfl⟩ := hd
    refine wp_block (wp_mono (hx c h1 base w0 m a w r hdf s) ?_)
    rintro ex a' w' ⟨m', env', h', g1, g2, g3, g4, g5⟩
    cases ex with
    | exit i =>
      simp only [blockQ] at g5
      simp only [Exit.inBlock]
      split
      · next hi => rw [if_pos hi] at g5; exact ⟨m', env', h', g1, g2, g3, g4, g5⟩
      · next hi => rw [if_neg hi] at g5; exact ⟨m', env', h', g1, g2, g3, g4, g5⟩
    | normal => exact ⟨m', env', h', g1, g2, g3, g4, g5⟩
    | goto l => exact ⟨m', env', h', g1, g2, g3, g4, g5⟩
    | ret => exact ⟨m', env', h', g1, g2, g3, g4, g5⟩
    | panic ch => exact ⟨m', env', h', g1, g2, g3, g4, g5⟩
    | outgrown => exact ⟨m', env', h', g1, g2, g3, g4, g5⟩
  all_goals (first | (split at hd <;> simp at hd; done) | simp at hd)

theorem ai_cond {c : Operand} {x y : IC} {b : Bool} (hc : evA env c = some (.bool b)) (hx : b = true → AI P n x env h Q) (hy : b = false → AI P n y env h Q) : AI P n (.cond c x y) env h Q := by
  intro d hd base w0 m a w r hdf s
  cases d <;> simp only [compC, reduceCtorEq] at hd
  case cond c' c1 c2 =>
    split at hd
    case h_2 => cases hd
    case h_1 x' y' h1 h2 =>
    cases hd
    have hv := (r.eval hc).scalar_bool
    exact wp_cond_split hv (fun hb => hx hb c1 h1 base w0 m a w r hdf s) (fun hb => hy hb c2 h2 base w0 m a w r hdf s)
  all_goals (first | (split at hd <;> simp at hd; done) | simp at hd)

theorem ai_reg {ins : List In} (hx : wpS P (ACall P) ins env h (fun env' h' => Q .normal env' h')) : AI P n (.reg ins) env h Q := by
  intro d hd base w0 m a w r hdf s
  cases d <;> simp only [compC, reduceCtorEq] at hd
  case region id ops draw =>
    split at hd
    · simp at hd
    · next hdr =>
      simp only [Option.map_eq_some_iff, IC.reg.injEq] at hd
      obtain ⟨is, h1, rfl⟩ := hd
      have hdr : draw = false := by simpa using hdr
      subst hdr
      refine wp_region ?_
      have := wpS_sound (P := P) (Q := fun env' h' => Q .normal env' h') (Q' := fun ex a' w' => ∃ m' env' h', m.le m' ∧ REnv m' n env' a'.tmps ∧ a'.defers = [] ∧ Sim base w0 m' h' w' ∧ Q ex env' h') ops.toList [] is m env h a w (by simp) h1 r hdf s hx
        (fun m' env' h' a' w' g1 g2 g3 g4 g5 => ⟨m', env', h', g1, g2, g3, g4, g5⟩)
      simpa [List.range_eq_range'] using this
  all_goals (first | (split at hd <;> simp at hd; done) | simp at hd)

theorem ai_drw {L : List DE} (hm : P.follows .mixedOrders = true) (hx : wpD P (ACall P) L env h (fun env' h' => Q .normal env' h')) : AI P n (.drw L) env h Q := by
  intro d hd base w0 m a w r hdf s
  cases d <;> simp only [compC, reduceCtorEq] at hd
  case region id ops draw =>
    split at hd
    · next hdr =>
      simp only [Option.map_eq_some_iff, IC.drw.injEq] at hd
      obtain ⟨L', h1, rfl⟩ := hd
      subst hdr
      refine wp_region_any hm ?_
      exact draw_sound h1 r hdf (s.drawn _ (by omega)) hx (fun m' env' h' a' w' g1 g2 g3 g4 g5 => ⟨m', env', h', g1, g2, g3, g4, g5⟩)
    · simp at hd
  all_goals (first | (split at hd <;> simp at hd; done) | simp at hd)

/-- What a round of a loop leaves. -/
def roundQ (I : Env → Hp → Nat → Prop) (k : Nat) (Q : Exit → Env → Hp → Prop) : Exit → Env → Hp → Prop
  | .normal, env, h => ∃ j, j < k ∧ I env h j
  | e, env, h => Q e env h
/-- A loop: what holds at each round's head (with a number that falls). -/
theorem ai_loop {x : IC} (I : Env → Hp → Nat → Prop) {k0 : Nat} (h0 : I env h k0) (round : ∀ env h k, I env h k → AI P n x env h (roundQ I k Q)) : AI P n (.loop x) env h Q := by
  intro d hd base w0 m a w r hdf s
  cases d <;> simp only [compC, reduceCtorEq] at hd
  case loop c =>
    simp only [Option.map_eq_some_iff, IC.loop.injEq] at hd
    obtain ⟨x', h1, rfl⟩ := hd
    let J : Act → World → Nat → Prop := fun a w k => ∃ m' env' h', m.le m' ∧ REnv m' n env' a.tmps ∧ a.defers = [] ∧ Sim base w0 m' h' w ∧ I env' h' k
    refine wp_loop (fun a w => ∃ k, J a w k) (fun a w => least (J a w)) ⟨k0, m, env, h, m.le_refl, r, hdf, s, h0⟩ ?_
    rintro a1 w1 ⟨k, hk⟩
    obtain ⟨⟨m1, env1, hp1, g1, g2, g3, g4, g5⟩, _⟩ := least_spec hk
    refine wp_mono (round env1 hp1 _ g5 c h1 base w0 m1 a1 w1 g2 g3 g4) ?_
    rintro ex a2 w2 ⟨m2, env2, hp2, k1, k2, k3, k4, k5⟩
    cases ex with
    | normal =>
      obtain ⟨j, hj, hI⟩ := k5
      have hJ : J a2 w2 j := ⟨m2, env2, hp2, Mu.le_trans g1 k1, k2, k3, k4, hI⟩
      exact ⟨⟨j, hJ⟩, Nat.lt_of_le_of_lt ((least_spec hJ).2 j hJ) hj⟩
    | exit i => exact ⟨m2, env2, hp2, Mu.le_trans g1 k1, k2, k3, k4, k5⟩
    | goto l => exact ⟨m2, env2, hp2, Mu.le_trans g1 k1, k2, k3, k4, k5⟩
    | ret => exact ⟨m2, env2, hp2, Mu.le_trans g1 k1, k2, k3, k4, k5⟩
    | panic ch => exact ⟨m2, env2, hp2, Mu.le_trans g1 k1, k2, k3, k4, k5⟩
    | outgrown => exact ⟨m2, env2, hp2, Mu.le_trans g1 k1, k2, k3, k4, k5⟩
  all_goals (first | (split at hd <;> simp at hd; done) | simp at hd)

/-- A function's results, out of its frame (slots alone) and memory. -/
def resOne (P : Program) (env : Env) (h : Hp) : ResultVar → Option Value
  | .tmp t => env.get t
  | .cell a t => match env.get a with
    | some (.pointer (some ⟨i, o, none⟩)) => match P.underlying t, P.info? t with
      | some d, some ti => if isAggD d then (h.rd i o ti.size).map fun vs => .agg ⟨vs⟩ else match h.rd i o 1 with
        | some [v] => some v
        | _ => none
      | _, _ => none
    | _ => none
def resAll (P : Program) (env : Env) (h : Hp) : List ResultVar → Option (List Value)
  | [] => some []
  | x :: r => match resOne P env h x, resAll P env h r with
    | some v, some vs => some (v :: vs)
    | _, _ => none
def pack : List Value → Value
  | [v] => v
  | vs => .tuple ⟨vs⟩

def resSem (tmps : Array Value) : ResultVar → Sem Value
  | .tmp t => pure (tmps.getD t undef)
  | .cell b t => do loadVar t (← asAddr (tmps.getD b undef))

theorem resOne_sound {base : Nat} {w0 w : World} {m : Mu} {a : Act} (r : REnv m n env a.tmps) (s : Sim base w0 m h w) {x : ResultVar} {v : Value} (e : resOne P env h x = some v) :
    ∃ v', (resSem a.tmps x).run P w = .ok v' w ∧ RV m v v' := by
  cases x with
  | tmp t =>
    obtain ⟨v', h1, h2⟩ := r.2 t v e
    refine ⟨v', ?_, h2⟩
    simp [resSem, Array.getD_eq_getD_getElem?, h1]
  | cell b t =>
    simp only [resOne] at e
    split at e
    case h_2 => cases e
    case h_1 i o hb =>
    split at e
    case h_2 => cases e
    case h_1 d ti hu hi =>
    obtain ⟨v', h1, h2⟩ := r.2 b _ hb
    have hg : a.tmps.getD b undef = v' := by simp [Array.getD_eq_getD_getElem?, h1]
    have hla : ∀ v2, (Instr.loadAt t v').run P w = .ok v2 w → (do loadVar t (← asAddr (a.tmps.getD b undef)) : Sem Value).run P w = .ok v2 w := by
      intro v2 hl
      rw [hg]
      cases h2 with
      | ptr hl2 => exact hl
    split at e
    · next hd =>
      simp only [Option.map_eq_some_iff] at e
      obtain ⟨vs, hrd, he⟩ := e
      subst he
      obtain ⟨v2, k1, k2⟩ := run_loadn (P := P) s hu hd hi rfl h2 hrd
      exact ⟨v2, hla v2 k1, k2⟩
    · next hd =>
      split at e
      · next v0 hrd =>
        cases e
        obtain ⟨v2, k1, k2⟩ := run_load1 (P := P) s hu (by simpa using hd) h2 hrd
        exact ⟨v2, hla v2 k1, k2⟩
      · cases e

theorem resAll_sound {base : Nat} {w0 w : World} {m : Mu} {a : Act} (r : REnv m n env a.tmps) (s : Sim base w0 m h w) : ∀ {xs : List ResultVar} {vs : List Value}, resAll P env h xs = some vs →
    ∃ vs', (xs.mapM (resSem a.tmps)).run P w = .ok vs' w ∧ RVs m vs vs' := by
  intro xs
  induction xs with
  | nil => intro vs e; cases e; exact ⟨[], rfl, RVs.nil m⟩
  | cons x xs ih =>
    intro vs e
    simp only [resAll] at e
    split at e
    case h_2 => cases e
    case h_1 v us hv hus =>
    cases e
    obtain ⟨v', h1, h2⟩ := resOne_sound r s hv
    obtain ⟨vs', h3, h4⟩ := ih hus
    refine ⟨v' :: vs', ?_, RVs.cons h2 h4⟩
    simp only [List.mapM_cons, Sem.run_bind, h1, Result.andThen_ok, h3]
    rfl

theorem results_sound {base : Nat} {w0 w : World} {m : Mu} {a : Act} {fn : Func} (r : REnv m n env a.tmps) (s : Sim base w0 m h w) {vs : List Value} (e : resAll P env h fn.results.toList = some vs) :
    ∃ v', (results fn a.tmps).run P w = .ok v' w ∧ RV m (pack vs) v' := by
  obtain ⟨vs', h1, h2⟩ := resAll_sound r s e
  have hrun : (results fn a.tmps).run P w = .ok (if h : (vs'.toArray).size = 1 then (vs'.toArray)[0] else .tuple vs'.toArray) w := by
    unfold results
    rw [Array.mapM_eq_mapM_toList]
    simp only [Sem.run_bind, Sem.run_map]
    erw [h1]
    rfl
  refine ⟨_, hrun, ?_⟩
  cases vs with
  | nil =>
    obtain rfl := h2.cases_nil
    simp [pack]
    exact .tuple rfl (by simp)
  | cons v vs =>
    obtain ⟨v', us, rfl, r1, r2⟩ := h2.cases_cons
    cases vs with
    | nil =>
      obtain rfl := r2.cases_nil
      simpa [pack] using r1
    | cons u vs =>
      obtain ⟨u', us, rfl, r3, r4⟩ := r2.cases_cons
      simp [pack]
      exact .tuple h2.1 h2.2

/-- The frame at a call's begin. -/
def envOf : Nat → List Value → Env
  | _, [] => []
  | k, v :: r => (k, v) :: envOf (k + 1) r
theorem envOf_get : ∀ (l : List Value) (k t : Nat) (v : Value), (envOf k l).get t = some v → k ≤ t ∧ l[t - k]? = some v := by
  intro l
  induction l with
  | nil => intro k t v e; cases e
  | cons x l ih =>
    intro k t v e
    simp only [envOf, Env.get] at e
    split at e
    · next hk => subst hk; cases e; exact ⟨Nat.le_refl _, by simp⟩
    · next hk =>
      obtain ⟨h1, h2⟩ := ih (k + 1) t v e
      refine ⟨by omega, ?_⟩
      rw [show t - k = (t - (k + 1)) + 1 by omega]
      simpa using h2

structure FI where
  n : Nat
  res : List ResultVar
  body : IC
def compF (P : Program) (fn : Func) : Option FI :=
  match fn.body with
  | some c => match compC P fn.ntmps c with
    | some ic => if fn.name = "runtime.NumGoroutine" then none else some ⟨fn.ntmps, fn.results.toList, ic⟩
    | none => none
  | none => none

/-- What a function's body leaves. -/
def endQ (P : Program) (res : List ResultVar) (R : Value → Hp → Prop) : Exit → Env → Hp → Prop
  | .normal, env, h | .ret, env, h => ∃ vs, resAll P env h res = some vs ∧ R (pack vs) h
  | _, _, _ => False

/-- A function is what its body is. -/
theorem acall {f : FuncId} {fn : Func} {fi : FI} {args : List Value} {R : Value → Hp → Prop} (hf : P.funcs[f]? = some fn) (hc : compF P fn = some fi) (hn : args.length ≤ fi.n) (hb : AI P fi.n fi.body (envOf 0 args) h (endQ P fi.res R)) : ACall P f args h R := by
  unfold compF at hc
  split at hc
  case h_2 => cases hc
  case h_1 c hbody =>
  split at hc
  case h_2 => cases hc
  case h_1 ic hic =>
  split at hc
  · cases hc
  next hname =>
  cases hc
  refine ⟨⟨fn, hf, by simp [hbody], hname⟩, ?_⟩
  intro base w0 m w args' ra s
  refine calls_of_wp hf hbody (wp_mono (hb c hic base w0 m _ w ⟨?_, ?_⟩ rfl s) ?_)
  · have := ra.1
    simp at hn ⊢
    omega
  · intro t v e
    obtain ⟨_, h1⟩ := envOf_get args 0 t v e
    obtain ⟨v', h2, h3⟩ := ra.get h1
    refine ⟨v', ?_, h3⟩
    have hlt := (List.getElem?_eq_some_iff.1 h2).1
    simp only [Nat.sub_zero] at h2 hlt
    rw [Array.getElem?_append_left (by simpa using hlt)]
    simpa using h2
  · rintro ex a' w' ⟨m', env', h', g1, g2, g3, g4, g5⟩
    cases ex with
    | normal =>
      obtain ⟨vs, e1, e2⟩ := g5
      obtain ⟨v', e3, e4⟩ := results_sound g2 g4 e1
      exact ⟨g3, v', e3, m', _, v', h', rfl, g1, e4, g4, e2⟩
    | ret =>
      obtain ⟨vs, e1, e2⟩ := g5
      obtain ⟨v', e3, e4⟩ := results_sound g2 g4 e1
      exact ⟨g3, v', e3, m', _, v', h', rfl, g1, e4, g4, e2⟩
    | exit i => exact g5.elim
    | goto l => exact g5.elim
    | panic ch => exact g5.elim
    | outgrown => exact g5.elim
end
end Go.Proofs.YtapbmmlgmcmpnaaDoorW.Am
/- For use: what the steps come to, in small lemmas. -/
namespace Go.Proofs.YtapbmmlgmcmpnaaDoorW.Am
open Go Go.RowKit
section
variable {P : Program} {CT : CTy} {r : List In} {env : Env} {h h' : Hp} {Q : Env → Hp → Prop} {d : Option Nat} {k : K} {xs : List Operand} {vs : List Value} {v : Value}

theorem flat_int (k : IntKind) (n : Int) : flat (.int k n) = true := rfl
theorem flat_bool (b : Bool) : flat (.bool b) = true := rfl
theorem flat_string (s : ByteArray) : flat (.string s) = true := rfl
theorem flat_nils (n c : Nat) : flat (.slice none n c) = true := rfl
theorem flat_nilp : flat (.pointer none) = true := rfl
theorem flat_nili : flat .nilIface = true := rfl
theorem flat_nilf : flat .nilFunc = true := rfl
theorem flat_nilm : flat (.map none) = true := rfl

/-- One operation. -/
def opS (env : Env) (k : K) (xs : List Operand) (h : Hp) : Option (Value × Hp) :=
  match mapE env xs with
  | some vs => stepK k vs h
  | none => none
theorem st (e : opS env k xs h = some (v, h')) (n : wpS P CT r (env.put d v) h' Q) : wpS P CT (⟨d, none, .op k xs⟩ :: r) env h Q := by
  unfold opS at e
  unfold wpS wpIn
  simp only [wanted]
  split at e
  · next vs hv => simp only [hv, e]; exact n
  · cases e
theorem stT {t : Nat} {b c : Bool} (g : env.get t = some (.bool c)) (hc : (c == b) = true) (e : opS env k xs h = some (v, h')) (n : wpS P CT r (env.put d v) h' Q) : wpS P CT (⟨d, some (t, b), .op k xs⟩ :: r) env h Q := by
  unfold opS at e
  unfold wpS wpIn
  simp only [wanted, g, hc]
  split at e
  · next vs hv => simp only [hv, e]; exact n
  · cases e
theorem stF {t : Nat} {b c : Bool} {ik : IK} (g : env.get t = some (.bool c)) (hc : (c == b) = false) (n : wpS P CT r (env.put d undef) h Q) : wpS P CT (⟨d, some (t, b), ik⟩ :: r) env h Q := by
  unfold wpS wpIn
  simp only [wanted, g, hc]
  exact n
theorem stU {t : Nat} {b : Bool} {ik : IK} (g : env.get t = some undef) (n : wpS P CT r (env.put d undef) h Q) : wpS P CT (⟨d, some (t, b), ik⟩ :: r) env h Q := by
  unfold wpS wpIn
  simp only [wanted, g, undef]
  exact n
theorem stC {f : FuncId} (e : mapE env xs = some vs) (c : CT f vs h fun v h' => wpS P CT r (env.put d v) h' Q) : wpS P CT (⟨d, none, .call f xs⟩ :: r) env h Q := by
  unfold wpS wpIn
  simp only [wanted, e]
  exact c
theorem stCT {f : FuncId} {t : Nat} {b c : Bool} (g : env.get t = some (.bool c)) (hc : (c == b) = true) (e : mapE env xs = some vs) (c : CT f vs h fun v h' => wpS P CT r (env.put d v) h' Q) : wpS P CT (⟨d, some (t, b), .call f xs⟩ :: r) env h Q := by
  unfold wpS wpIn
  simp only [wanted, g, hc, e]
  exact c

theorem thenQ_n {P : Program} {n : Nat} {b : IC} {Q : Exit → Env → Hp → Prop} {env : Env} {h : Hp} : thenQ P n b Q .normal env h = AI P n b env h Q := rfl
theorem thenQ_x {P : Program} {n : Nat} {b : IC} {Q : Exit → Env → Hp → Prop} {env : Env} {h : Hp} {i : Nat} : thenQ P n b Q (.exit i) env h = Q (.exit i) env h := rfl
theorem thenQ_r {P : Program} {n : Nat} {b : IC} {Q : Exit → Env → Hp → Prop} {env : Env} {h : Hp} : thenQ P n b Q .ret env h = Q .ret env h := rfl
theorem blockQ_n {j : Nat} {Q : Exit → Env → Hp → Prop} {env : Env} {h : Hp} : blockQ j Q .normal env h = Q .normal env h := rfl
theorem blockQ_x {j i : Nat} {Q : Exit → Env → Hp → Prop} {env : Env} {h : Hp} : blockQ j Q (.exit i) env h = if i = j then Q .normal env h else Q (.exit i) env h := rfl
theorem blockQ_r {j : Nat} {Q : Exit → Env → Hp → Prop} {env : Env} {h : Hp} : blockQ j Q .ret env h = Q .ret env h := rfl
theorem roundQ_n {I : Env → Hp → Nat → Prop} {k : Nat} {Q : Exit → Env → Hp → Prop} {env : Env} {h : Hp} : roundQ I k Q .normal env h = ∃ j, j < k ∧ I env h j := rfl
theorem roundQ_x {I : Env → Hp → Nat → Prop} {k i : Nat} {Q : Exit → Env → Hp → Prop} {env : Env} {h : Hp} : roundQ I k Q (.exit i) env h = Q (.exit i) env h := rfl
theorem roundQ_r {I : Env → Hp → Nat → Prop} {k : Nat} {Q : Exit → Env → Hp → Prop} {env : Env} {h : Hp} : roundQ I k Q .ret env h = Q .ret env h := rfl
theorem end_one {P : Program} {t : Nat} {R : Value → Hp → Prop} {env : Env} {h : Hp} {v : Value} (e : env.get t = some v) (r : R v h) : endQ P [.tmp t] R .ret env h := ⟨[v], by simp [resAll, resOne, e], r⟩
theorem end_two {P : Program} {t u : Nat} {R : Value → Hp → Prop} {env : Env} {h : Hp} {v w : Value} (e : env.get t = some v) (e2 : env.get u = some w) (r : R (.tuple #[v, w]) h) : endQ P [.tmp t, .tmp u] R .ret env h := ⟨[v, w], by simp [resAll, resOne, e, e2], r⟩
theorem end_oneN {P : Program} {t : Nat} {R : Value → Hp → Prop} {env : Env} {h : Hp} {v : Value} (e : env.get t = some v) (r : R v h) : endQ P [.tmp t] R .normal env h := ⟨[v], by simp [resAll, resOne, e], r⟩
end
end Go.Proofs.YtapbmmlgmcmpnaaDoorW.Am
/- For use, second part: numbers, slices that are read, rows that grow, loops. -/
namespace Go.Proofs.YtapbmmlgmcmpnaaDoorW.Am
open Go Go.RowKit
section
variable {P : Program} {CT : CTy} {r : List In} {env : Env} {h h' : Hp} {Q : Env → Hp → Prop} {d : Option Nat} {k : K} {xs : List Operand} {vs : List Value} {v : Value}

theorem st_v {v2 : Value} (e : opS env k xs h = some (v, h')) (hv : v = v2) (n : wpS P CT r (env.put d v2) h' Q) : wpS P CT (⟨d, none, .op k xs⟩ :: r) env h Q := by subst hv; exact st e n
theorem wrap_i64' {x : Int} (h1 : -9223372036854775808 ≤ x) (h2 : x ≤ 9223372036854775807) : IntKind.i64.wrap x = x := by rw [IntKind.wrap_i64]; omega
theorem wrap_u64' {x : Int} (h1 : 0 ≤ x) (h2 : x ≤ 18446744073709551615) : IntKind.u64.wrap x = x := by
  unfold IntKind.wrap
  simp only [IntKind.bits, IntKind.signed]
  simp
  omega
/-- A sum, a product, a conversion within 64 bits. -/
theorem st_w {x : Int} (e : opS env k xs h = some (.int .i64 (IntKind.i64.wrap x), h')) (hx : -9223372036854775808 ≤ x ∧ x ≤ 9223372036854775807) (n : wpS P CT r (env.put d (.int .i64 x)) h' Q) : wpS P CT (⟨d, none, .op k xs⟩ :: r) env h Q :=
  st_v e (by rw [wrap_i64' hx.1 hx.2]) n
theorem st_wu {x : Int} (e : opS env k xs h = some (.int .u64 (IntKind.u64.wrap x), h')) (hx : 0 ≤ x ∧ x ≤ 18446744073709551615) (n : wpS P CT r (env.put d (.int .u64 x)) h' Q) : wpS P CT (⟨d, none, .op k xs⟩ :: r) env h Q :=
  st_v e (by rw [wrap_u64' hx.1 hx.2]) n
theorem st_rem {kk : IntKind} {a b : Int} (e : mapE env xs = some [.int kk a, .int kk b]) (ha : 0 ≤ a) (hb : 0 < b) (n : wpS P CT r (env.put d (.int kk (a % b))) h Q) : wpS P CT (⟨d, none, .op (.bin .rem) xs⟩ :: r) env h Q := by
  refine st (v := .int kk (a % b)) (h' := h) ?_ n
  unfold opS
  rw [e]
  have : kk = kk ∧ b ≠ 0 := ⟨rfl, by omega⟩
  show (if kk = kk ∧ b ≠ 0 then some (Value.int kk (a.tmod b)) else none).map (·, h) = _
  rw [if_pos this, Int.tmod_eq_emod_of_nonneg ha]
  rfl
theorem st_quo {a b : Int} (e : mapE env xs = some [.int .i64 a, .int .i64 b]) (ha : 0 ≤ a) (ha2 : a ≤ 9223372036854775807) (hb : 0 < b) (n : wpS P CT r (env.put d (.int .i64 (a / b))) h Q) : wpS P CT (⟨d, none, .op (.bin .quo) xs⟩ :: r) env h Q := by
  refine st (v := .int .i64 (a / b)) (h' := h) ?_ n
  unfold opS
  rw [e]
  have : IntKind.i64 = IntKind.i64 ∧ b ≠ 0 := ⟨rfl, by omega⟩
  have h1 : 0 ≤ a / b := Int.ediv_nonneg ha (by omega)
  have h2 : a / b ≤ a := Int.ediv_le_self _ ha
  show (if IntKind.i64 = IntKind.i64 ∧ b ≠ 0 then some (Value.int .i64 (IntKind.i64.wrap (a.tdiv b))) else none).map (·, h) = _
  rw [if_pos this, Int.tdiv_eq_ediv_of_nonneg ha, wrap_i64' (by omega) (by omega)]
  rfl
theorem st_iad {i o len cap : Nat} {sp : Option Nat} {kk : IntKind} {x : Int} {esz : Nat} (e : mapE env xs = some [.slice (some ⟨i, o, sp⟩) len cap, .int kk x]) (hx : 0 ≤ x ∧ x < len) (n : wpS P CT r (env.put d (.pointer (some ⟨i, o + x.toNat * esz, none⟩))) h Q) :
    wpS P CT (⟨d, none, .op (.iad esz) xs⟩ :: r) env h Q := by
  refine st (v := .pointer (some ⟨i, o + x.toNat * esz, none⟩)) (h' := h) ?_ n
  unfold opS
  rw [e]
  simp only [stepK, if_pos hx]
theorem st_iaa {i o len : Nat} {kk : IntKind} {x : Int} {esz : Nat} (e : mapE env xs = some [.pointer (some ⟨i, o, none⟩), .int kk x]) (hx : 0 ≤ x ∧ x < len) (n : wpS P CT r (env.put d (.pointer (some ⟨i, o + x.toNat * esz, none⟩))) h Q) :
    wpS P CT (⟨d, none, .op (.iaa len esz) xs⟩ :: r) env h Q := by
  refine st (v := .pointer (some ⟨i, o + x.toNat * esz, none⟩)) (h' := h) ?_ n
  unfold opS
  rw [e]
  simp only [stepK, if_pos hx]
theorem st_ld {i o : Nat} (e : mapE env xs = some [.pointer (some ⟨i, o, none⟩)]) (hr : h.rd i o 1 = some [v]) (n : wpS P CT r (env.put d v) h Q) : wpS P CT (⟨d, none, .op .ld1 xs⟩ :: r) env h Q := by
  refine st (v := v) (h' := h) ?_ n
  unfold opS
  rw [e]
  simp only [stepK, hr]
theorem st_ldn {i o c : Nat} {us : List Value} (e : mapE env xs = some [.pointer (some ⟨i, o, none⟩)]) (hr : h.rd i o c = some us) (n : wpS P CT r (env.put d (.agg ⟨us⟩)) h Q) : wpS P CT (⟨d, none, .op (.ldn c) xs⟩ :: r) env h Q := by
  refine st (v := .agg ⟨us⟩) (h' := h) ?_ n
  unfold opS
  rw [e]
  simp only [stepK, hr, Option.map_some]
theorem st_st {i o c : Nat} {u : Value} (e : mapE env xs = some [.pointer (some ⟨i, o, none⟩), u]) (hs : u.cells.size = c) (hw : h.wr i o u.cells.toList = some h') (n : wpS P CT r (env.put d undef) h' Q) : wpS P CT (⟨d, none, .op (.st c) xs⟩ :: r) env h Q := by
  refine st (v := undef) (h' := h') ?_ n
  unfold opS
  rw [e]
  simp only [stepK, hs, if_true, hw, Option.map_some]

/-- Known slots of a frame, by a list. -/
theorem le_nil : EnvLe [] env := fun t v e => by cases e
theorem le_cons {t : Nat} {u : Value} {l : Env} (e : env.get t = some u) (hl : EnvLe l env) : EnvLe ((t, u) :: l) env := by
  intro s v hs
  simp only [Env.get] at hs
  split at hs
  · next hts => subst hts; cases hs; exact e
  · exact hl s v hs

theorem rd_at {i o n x : Nat} {us : List Value} (e : h.rd i o n = some us) (hx : x < n) : ∃ (hl : x < us.length), h.rd i (o + x) 1 = some [us[x]] := by
  obtain ⟨ob, hob, hn, rfl⟩ := Hp.rd_some e
  have hl : x < ((ob.cells.drop o).take n).length := by simp; omega
  refine ⟨hl, ?_⟩
  unfold Hp.rd
  simp only [hob]
  rw [if_pos (by omega)]
  have hlt : o + x < ob.cells.length := by omega
  have e3 : (ob.cells.drop (o + x)).take 1 = [ob.cells[o + x]] := by rw [List.drop_eq_getElem_cons hlt]; rfl
  rw [e3, List.getElem_take, List.getElem_drop]
theorem rd_len {i o n : Nat} {us : List Value} (e : h.rd i o n = some us) : us.length = n := by
  obtain ⟨ob, hob, hn, rfl⟩ := Hp.rd_some e
  simp; omega

/-- Of what was there nothing has turned. -/
def Ext (h0 h : Hp) : Prop := h0.nx ≤ h.nx ∧ ∀ k, k < h0.nx → h.get k = h0.get k
theorem Ext.refl (h : Hp) : Ext h h := ⟨Nat.le_refl _, fun _ _ => rfl⟩
theorem Ext.trans {a b c : Hp} (x : Ext a b) (y : Ext b c) : Ext a c := ⟨Nat.le_trans x.1 y.1, fun k hk => (y.2 k (Nat.lt_of_lt_of_le hk x.1)).trans (x.2 k hk)⟩
theorem Ext.rd {h0 h : Hp} (x : Ext h0 h) {i o n : Nat} (hi : i < h0.nx) : h.rd i o n = h0.rd i o n := by unfold Hp.rd; rw [x.2 i hi]
theorem Ext.new (h : Hp) (o : Ob) : Ext h (h.new o) := ⟨by simp [Hp.new], fun k hk => by simp only [Hp.new]; rw [if_neg (by omega)]⟩

/-- A row that a call has made, and may append to (elements of one cell): the slice, what it holds; its object's number is from N on. -/
def Ow (N : Nat) (h : Hp) (s : Value) (us : List Value) : Prop :=
  (s = .slice none 0 0 ∧ us = []) ∨ ∃ i, N ≤ i ∧ i < h.nx ∧ s = .slice (some ⟨i, 0, some 0⟩) us.length us.length ∧ h.get i = some ⟨us, true, 1⟩ ∧ us ≠ [] ∧ us.all one = true
theorem Ow.nil (N : Nat) (h : Hp) : Ow N h (.slice none 0 0) [] := .inl ⟨rfl, rfl⟩
theorem Ow.mono {N M : Nat} {s : Value} {us : List Value} (o : Ow N h s us) (hm : M ≤ N) : Ow M h s us := by
  rcases o with o | ⟨i, h1, h2⟩
  · exact .inl o
  · exact .inr ⟨i, Nat.le_trans hm h1, h2⟩
theorem Ow.move {N : Nat} {s : Value} {us : List Value} {h2 : Hp} (o : Ow N h s us) (x : Ext h h2) : Ow N h2 s us := by
  rcases o with o | ⟨i, h1, h2', h3, h4, h5⟩
  · exact .inl o
  · exact .inr ⟨i, h1, Nat.lt_of_lt_of_le h2' x.1, h3, (x.2 i h2').trans h4, h5⟩
/-- append(l, v): the one-element slice in its own new object, then the append. -/
theorem Ow.push {N e e2 bytes : Nat} {h0 : Hp} {s : Value} {us : List Value} (o : Ow N h s us) (hN : h0.nx = N) (x : Ext h0 h) {u : Value} (hu : one u = true) (hb : (us.length + 1) * bytes ≤ 140737488355328) (hl : us.length + 1 ≤ 140737488355328) :
    ∃ s' h2, stepK (.app e 1 bytes) [s, .slice (some ⟨h.nx, 0, none⟩) 1 1] (h.new ⟨[u], true, e2⟩) = some (s', h2) ∧ Ow N h2 s' (us ++ [u]) ∧ Ext h0 h2 := by
  have hrd : rdS (h.new ⟨[u], true, e2⟩) (some ⟨h.nx, 0, none⟩) (1 * 1) = some [u] := by
    simp [rdS, Hp.rd, Hp.new]
  have hall : [u].all one = true := by simp [hu]
  rcases o with ⟨rfl, rfl⟩ | ⟨i, h1, h2, rfl, h4, h5, h6⟩
  · refine ⟨.slice (some ⟨h.nx + 1, 0, some 0⟩) 1 1, (h.new ⟨[u], true, e2⟩).new ⟨[u], true, 1⟩, ?_, .inr ⟨h.nx + 1, ?_, ?_, rfl, ?_, by simp, hall⟩, ?_⟩
    · simp only [stepK, hrd]
      simp only [List.length_nil, Nat.zero_add] at hb hl
      have hb2 : bytes ≤ 140737488355328 := by simpa using hb
      simp [appA, hu, hb2, Hp.new]
    · have := x.1; omega
    · simp [Hp.new]
    · simp [Hp.new]
    · exact x.trans ((Ext.new _ _).trans (Ext.new _ _))
  · have hne : i ≠ h.nx := by omega
    have hlen : us.length ≠ 0 := fun hz => h5 (List.eq_nil_of_length_eq_zero hz)
    have hold : (h.new ⟨[u], true, e2⟩).rd i 0 (us.length * 1) = some us := by
      simp [Hp.rd, Hp.new, hne, h4]
    refine ⟨.slice (some ⟨h.nx + 1, 0, some 0⟩) (us.length + 1) (us.length + 1), (((h.new ⟨[u], true, e2⟩)).del i).new ⟨us ++ [u], true, 1⟩, ?_, .inr ⟨h.nx + 1, ?_, ?_, ?_, ?_, by simp, by simp [hu, h6]⟩, ?_⟩
    · simp only [stepK, hrd]
      have hg : (h.new ⟨[u], true, e2⟩).get i = some ⟨us, true, 1⟩ := by simp [Hp.new, hne, h4]
      simp only [appA]
      rw [if_pos ⟨by simp, hall, by omega, hb, hl⟩]
      simp only [Nat.one_ne_zero, if_false, show ¬ (us.length + 1 ≤ us.length) by omega, if_neg hlen, hold, hg]
      simp [h6, Hp.del, Hp.new]
    · have := x.1; omega
    · simp [Hp.new, Hp.del]
    · simp
    · simp [Hp.new, Hp.del]
    · refine ⟨by have := x.1; simp [Hp.new, Hp.del]; omega, fun k hk => ?_⟩
      have := x.1
      have e1 : ¬ k = h.nx + 1 := by omega
      have e2 : ¬ k = i := by omega
      have e3 : ¬ k = h.nx := by omega
      simp only [Hp.new, Hp.del, e1, e2, e3, if_false]
      exact x.2 k hk

/-- A loop whose frame at each round's head is known by a list of slots. -/
def roundE {γ : Type} (E : γ → Env) (H : γ → Hp → Prop) (mu : γ → Nat) (k : Nat) (Q : Exit → Env → Hp → Prop) : Exit → Env → Hp → Prop
  | .normal, env, h => ∃ g, EnvLe (E g) env ∧ H g h ∧ mu g < k
  | e, env, h => Q e env h
theorem ai_loopE {n : Nat} {x : IC} {Q : Exit → Env → Hp → Prop} {γ : Type} (E : γ → Env) (H : γ → Hp → Prop) (mu : γ → Nat) (g0 : γ) (hE : EnvLe (E g0) env) (hH : H g0 h) (round : ∀ g h, H g h → AI P n x (E g) h (roundE E H mu (mu g) Q)) : AI P n (.loop x) env h Q := by
  refine ai_loop (fun env h k => ∃ g, EnvLe (E g) env ∧ H g h ∧ mu g = k) (k0 := mu g0) ⟨g0, hE, hH, rfl⟩ ?_
  rintro env h k ⟨g, h1, h2, rfl⟩
  refine (AI.weak h1 (round g h h2)).mono ?_
  intro e env' h' q
  cases e with
  | normal => obtain ⟨g', k1, k2, k3⟩ := q; exact ⟨mu g', k3, g', k1, k2, rfl⟩
  | exit i => exact q
  | goto i => exact q
  | ret => exact q
  | panic c => exact q
  | outgrown => exact q
/-- Ways that meet again: what is known there. -/
theorem ai_join {n : Nat} {x y : IC} {Q : Exit → Env → Hp → Prop} {γ : Type} (L : γ → Env) (H : γ → Hp → Prop) (h1 : AI P n x env h (fun e env' h' => e = .normal ∧ ∃ g, EnvLe (L g) env' ∧ H g h')) (h2 : ∀ g h', H g h' → AI P n y (L g) h' Q) : AI P n (.seq x y) env h Q := by
  refine ai_seq (h1.mono ?_)
  rintro e env' h' ⟨rfl, g, hl, hH⟩
  exact AI.weak hl (h2 g h' hH)
theorem ai_seq_skip {n : Nat} {x : IC} {Q : Exit → Env → Hp → Prop} (a : AI P n x env h Q) : AI P n (.seq .skip x) env h Q := ai_seq (ai_skip a)
/-! What one operation comes to, for an operation with a guard as well. -/
theorem o_v {v2 : Value} (e : opS env k xs h = some (v, h')) (hv : v = v2) : opS env k xs h = some (v2, h') := by subst hv; exact e
theorem o_w {x : Int} (e : opS env k xs h = some (.int .i64 (IntKind.i64.wrap x), h')) (hx : -9223372036854775808 ≤ x ∧ x ≤ 9223372036854775807) : opS env k xs h = some (.int .i64 x, h') := o_v e (by rw [wrap_i64' hx.1 hx.2])
theorem o_iad {i o len cap : Nat} {sp : Option Nat} {kk : IntKind} {x : Int} {esz : Nat} (e : mapE env xs = some [.slice (some ⟨i, o, sp⟩) len cap, .int kk x]) (hx : 0 ≤ x ∧ x < len) :
    opS env (.iad esz) xs h = some (.pointer (some ⟨i, o + x.toNat * esz, none⟩), h) := by
  unfold opS
  rw [e]
  simp only [stepK, if_pos hx]
theorem o_iaa {i o len : Nat} {kk : IntKind} {x : Int} {esz : Nat} (e : mapE env xs = some [.pointer (some ⟨i, o, none⟩), .int kk x]) (hx : 0 ≤ x ∧ x < len) :
    opS env (.iaa len esz) xs h = some (.pointer (some ⟨i, o + x.toNat * esz, none⟩), h) := by
  unfold opS
  rw [e]
  simp only [stepK, if_pos hx]
theorem o_ld {i o : Nat} (e : mapE env xs = some [.pointer (some ⟨i, o, none⟩)]) (hr : h.rd i o 1 = some [v]) : opS env .ld1 xs h = some (v, h) := by
  unfold opS
  rw [e]
  simp only [stepK, hr]
theorem o_ldn {i o c : Nat} {us : List Value} (e : mapE env xs = some [.pointer (some ⟨i, o, none⟩)]) (hr : h.rd i o c = some us) : opS env (.ldn c) xs h = some (.agg ⟨us⟩, h) := by
  unfold opS
  rw [e]
  simp only [stepK, hr, Option.map_some]
theorem o_st {i o c : Nat} {u : Value} (e : mapE env xs = some [.pointer (some ⟨i, o, none⟩), u]) (hs : u.cells.size = c) (hw : h.wr i o u.cells.toList = some h') : opS env (.st c) xs h = some (undef, h') := by
  unfold opS
  rw [e]
  simp only [stepK, hs, if_true, hw, Option.map_some]
theorem o_rem {kk : IntKind} {a b : Int} (e : mapE env xs = some [.int kk a, .int kk b]) (ha : 0 ≤ a) (hb : 0 < b) : opS env (.bin .rem) xs h = some (.int kk (a % b), h) := by
  unfold opS
  rw [e]
  have : kk = kk ∧ b ≠ 0 := ⟨rfl, by omega⟩
  show (if kk = kk ∧ b ≠ 0 then some (Value.int kk (a.tmod b)) else none).map (·, h) = _
  rw [if_pos this, Int.tmod_eq_emod_of_nonneg ha]
  rfl
/-- In a region whose order is open: one operation, with nothing to be made again. -/
theorem dr {ix : Nat} {eff : Bool} {L : List DE} (e : opS env k xs h = some (v, h')) (n : wpD P CT L (env.put d v) h' Q) : wpD P CT (⟨ix, ⟨d, none, .op k xs⟩, eff, []⟩ :: L) env h Q := by
  unfold opS at e
  unfold wpD wpIn
  simp only [wanted]
  split at e
  · next vs hv => simp only [hv, e]; exact ⟨trivial, n⟩
  · cases e
theorem drT {ix t : Nat} {b c : Bool} {eff : Bool} {L : List DE} (g : env.get t = some (.bool c)) (hc : (c == b) = true) (e : opS env k xs h = some (v, h')) (n : wpD P CT L (env.put d v) h' Q) : wpD P CT (⟨ix, ⟨d, some (t, b), .op k xs⟩, eff, []⟩ :: L) env h Q := by
  unfold opS at e
  unfold wpD wpIn
  simp only [wanted, g, hc]
  split at e
  · next vs hv => simp only [hv, e]; exact ⟨trivial, n⟩
  · cases e
theorem drF {ix t : Nat} {b c : Bool} {eff : Bool} {ik : IK} {L : List DE} (g : env.get t = some (.bool c)) (hc : (c == b) = false) (n : wpD P CT L (env.put d undef) h Q) : wpD P CT (⟨ix, ⟨d, some (t, b), ik⟩, eff, []⟩ :: L) env h Q := by
  unfold wpD wpIn
  simp only [wanted, g, hc]
  exact ⟨trivial, n⟩
/-- A call of which no read is to be made again. -/
theorem drC {ix : Nat} {eff : Bool} {f : FuncId} {L : List DE} (e : mapE env xs = some vs) (c : CT f vs h fun v h' => wpD P CT L (env.put d v) h' Q) (hm : ∀ (R R' : Value → Hp → Prop), (∀ v h', R v h' → R' v h') → CT f vs h R → CT f vs h R') : wpD P CT (⟨ix, ⟨d, none, .call f xs⟩, eff, []⟩ :: L) env h Q := by
  unfold wpD wpIn
  simp only [wanted, e]
  exact hm _ _ (fun v h' n => ⟨trivial, n⟩) c
/-- Nothing is known of memory: the empty abstract heap. -/
def Hp.empty : Hp := ⟨fun _ => none, 0⟩
theorem Sim.empty (W : World) (t : Tb W.heap.size W) : Sim W.heap.size W ⟨fun _ => none, fun _ => none⟩ Hp.empty W :=
  ⟨Bel.refl t, Nat.le_refl _, fun _ _ => rfl, fun _ _ e => (by cases e), MS.empty _ _ _ _, fun _ _ e _ => (by cases e), fun _ _ _ _ _ _ e => (by cases e)⟩
/-- A law of numbers: from its contract over the empty heap to the true call. -/
theorem law_plain {f : FuncId} {args : List Value} (c : ACall P f args Hp.empty (fun v _ => v = .bool true)) (hf : flatL args = true) (W : World) (t : Tb W.heap.size W := by first | exact fun _ _ => trivial | assumption) :
    Calls P f args.toArray W fun e W' => e = .returned (.bool true) ∧ Below W.heap.size W W' := by
  refine (c.2 W.heap.size W ⟨fun _ => none, fun _ => none⟩ W args (RVs.of_flat hf) (Sim.empty W t)).mono ?_
  rintro e W' ⟨m', v, v', h', rfl, _, rv, s, rfl⟩
  cases rv
  exact ⟨rfl, s.below.bl⟩
end
end Go.Proofs.YtapbmmlgmcmpnaaDoorW.Am
/- Words on memory that several laws share: cells of known objects, rows that are read, what turns; and from a law's contract to its row where an argument is a row of numbers. -/
namespace Go.Proofs.YtapbmmlgmcmpnaaDoorW.Am
open Go Go.RowKit
abbrev nI : Int → Value := Value.int .i64
abbrev ptr (q : Nat) : Value := .pointer (some ⟨q, 0, none⟩)
theorem rd_f {h : Hp} {i : Nat} {us : List Value} {b : Bool} {e : Nat} (hg : h.get i = some ⟨us, b, e⟩) {x : Nat} {v : Value} (hx : us[x]? = some v) : h.rd i (0 + x) 1 = some [v] := by
  have hl := (List.getElem?_eq_some_iff.1 hx).1
  unfold Hp.rd
  simp only [hg, Nat.zero_add]
  rw [if_pos (by omega), List.drop_eq_getElem_cons hl]
  rw [List.getElem?_eq_getElem hl] at hx
  cases hx
  rfl
theorem wr_f {h : Hp} {i : Nat} {us : List Value} {e : Nat} (hg : h.get i = some ⟨us, true, e⟩) {x : Nat} (hx : x < us.length) {v : Value} (hv : one v = true) : h.wr i (0 + x) [v] = some (h.put i ⟨us.set x v, true, e⟩) := by
  unfold Hp.wr
  simp only [hg, Nat.zero_add]
  rw [if_pos ⟨trivial, by simp; omega, by simp [hv]⟩]
  rfl
theorem hput_same (h : Hp) (i : Nat) (o : Ob) : (h.put i o).get i = some o := by simp [Hp.put]
theorem hput_ne (h : Hp) {i j : Nat} (o : Ob) (hij : j ≠ i) : (h.put i o).get j = h.get j := by simp [Hp.put, hij]
theorem hput_nx (h : Hp) (i : Nat) (o : Ob) : (h.put i o).nx = h.nx := rfl
/-- What turns: the queue and its row alone. -/
def Mod (q j : Nat) (h h' : Hp) : Prop := h.nx ≤ h'.nx ∧ ∀ k, k < h.nx → k ≠ q → k ≠ j → h'.get k = h.get k
theorem Mod.refl (q j : Nat) (h : Hp) : Mod q j h h := ⟨Nat.le_refl _, fun _ _ _ _ => rfl⟩
theorem rd_app {h : Hp} {j : Nat} {xs us : List Value} {b : Bool} {e : Nat} (hg : h.get j = some ⟨xs ++ us, b, e⟩) {x : Nat} {v : Value} (hx : us[x]? = some v) : h.rd j (xs.length + x * 1) 1 = some [v] := by
  have hl := (List.getElem?_eq_some_iff.1 hx).1
  have hx2 : (xs ++ us)[xs.length + x]? = some v := by rw [List.getElem?_append_right (by omega)]; simpa using hx
  have := rd_f hg (x := xs.length + x) hx2
  simpa using this
/-- A row that is read. -/
def Rd (h : Hp) (s : Value) (us : List Value) : Prop :=
  (s = .slice none 0 0 ∧ us = []) ∨ ∃ i o sp c, s = .slice (some ⟨i, o, sp⟩) us.length c ∧ ∀ x v, us[x]? = some v → h.rd i (o + x * 1) 1 = some [v]
theorem Ow.rdd {N : Nat} {h : Hp} {s : Value} {us : List Value} (a : Ow N h s us) : Rd h s us := by
  rcases a with a | ⟨i, _, _, rfl, hg, _⟩
  · exact .inl a
  · exact .inr ⟨i, _, _, _, rfl, fun x v hx => by have := rd_f hg hx; simpa using this⟩
theorem Rd.len {h : Hp} {s : Value} {us : List Value} (a : Rd h s us) : ∃ x c, s = .slice x us.length c := by
  rcases a with ⟨rfl, rfl⟩ | ⟨i, o, sp, c, rfl, _⟩ <;> exact ⟨_, _, rfl⟩
theorem Rd.ext {h h' : Hp} {s : Value} {us : List Value} (a : Rd h s us) (e : ∀ i o sp n c, s = .slice (some ⟨i, o, sp⟩) n c → h'.get i = h.get i) : Rd h' s us := by
  rcases a with a | ⟨i, o, sp, c, rfl, hr⟩
  · exact .inl a
  · refine .inr ⟨i, o, sp, c, rfl, fun x v hx => ?_⟩
    have := hr x v hx
    unfold Hp.rd at this ⊢
    rw [e i o sp _ _ rfl]
    exact this
theorem Ow.put {N : Nat} {h : Hp} {s : Value} {us : List Value} (a : Ow N h s us) {q : Nat} (hq : q < N) (o : Ob) : Ow N (h.put q o) s us := by
  rcases a with a | ⟨i, h1, h2, h3, h4, h5⟩
  · exact .inl a
  · exact .inr ⟨i, h1, h2, h3, (hput_ne _ _ (by omega)).trans h4, h5⟩
theorem Ext.mod {h h1 h2 : Hp} {q j : Nat} (x : Ext h h1) (m : Mod q j h1 h2) (hq : h.nx ≤ q) (hj : h.nx ≤ j) : Ext h h2 :=
  ⟨Nat.le_trans x.1 m.1, fun k hk => (m.2 k (Nat.lt_of_lt_of_le hk x.1) (by omega) (by omega)).trans (x.2 k hk)⟩
theorem Ow.mod {N : Nat} {h h' : Hp} {s : Value} {us : List Value} (a : Ow N h s us) {q j : Nat} (hq : q < N) (hj : j < N) (m : Mod q j h h') : Ow N h' s us := by
  rcases a with a | ⟨i, h1, h2, h3, h4, h5⟩
  · exact .inl a
  · exact .inr ⟨i, h1, Nat.lt_of_lt_of_le h2 m.1, h3, (m.2 i h2 (by omega) (by omega)).trans h4, h5⟩
theorem u64_rng (n : Int) : 0 ≤ IntKind.u64.wrap n ∧ IntKind.u64.wrap n ≤ 18446744073709551615 := by
  unfold IntKind.wrap
  simp only [IntKind.bits, IntKind.signed]
  simp
  omega
/-- The abstract heap at a law's call: its one row, which is read alone. -/
def roHp (us : List Value) : Hp := ⟨fun j => if j = 0 then some ⟨us, false, 0⟩ else none, 1⟩
def roMu (l : Loc) : Mu := ⟨fun j => if j = 0 then some l else none, fun _ => none⟩
theorem roHp_rd (us : List Int) {len cap : Nat} (hle : len ≤ us.length) : Rd (roHp (us.map nI)) (.slice (some ⟨0, 0, none⟩) len cap) ((us.take len).map nI) := by
  refine .inr ⟨0, 0, none, cap, by simp [Nat.min_eq_left hle], fun x v hx => ?_⟩
  have hx2 : (us.map nI)[x]? = some v := by
    rw [List.getElem?_map, List.getElem?_take] at hx
    rw [List.getElem?_map]
    split at hx
    · exact hx
    · cases hx
  have := rd_f (h := roHp (us.map nI)) (i := 0) (b := false) (e := 0) (by simp [roHp]) hx2
  simpa using this
theorem roSim {W : World} {a : Addr} {zs : List Int} (hs : a.spot = none) (hb : a.block < W.heap.size) (hc : ∀ i, i < zs.length → W.cell? (a.add i) = some (.int .i64 (zs.getD i 0))) (t : Tb W.heap.size W) :
    Sim W.heap.size W (roMu ⟨a.block, a.off, 0⟩) (roHp (zs.map nI)) W := by
  obtain ⟨b, off, sp⟩ := a
  subst hs
  refine ⟨Bel.refl t, Nat.le_refl _, fun i hi => ?_, fun i l e => ?_, MS.empty _ _ _ _, fun i ob e _ => ?_, fun i j x y l l' e e' hij hrw => ?_⟩
  · have : i ≠ 0 := by simp [roHp] at hi; omega
    simp [roMu, this]
  · simp only [roMu] at e
    split at e
    · cases e; exact hb
    · cases e
  · simp only [roHp] at e
    split at e
    · next hi =>
      cases e
      refine ⟨⟨b, off, 0⟩, by simp [roMu, hi], fun j v hv => ?_, fun h => by cases h⟩
      rw [List.getElem?_map] at hv
      cases hz : zs[j]? with
      | none => rw [hz] at hv; cases hv
      | some z =>
        rw [hz] at hv
        cases hv
        have hj := (List.getElem?_eq_some_iff.1 hz).1
        refine ⟨.int .i64 z, ?_, .int _ _⟩
        have := hc j hj
        rw [Go.WideShapes.add_plain] at this
        rw [this, List.getD_eq_getElem?_getD, hz]
        rfl
    · cases e
  · simp only [roHp] at e
    split at e
    · cases e; cases hrw
    · cases e
/-- A law whose first argument is a row of numbers, the others numbers. -/
theorem law_ints {P : Program} {f : FuncId} {W : World} {a : Addr} {len cap : Nat} {zs : List Int} {rest : List Value} (hs : a.spot = none) (hb : a.block < W.heap.size) (hc : ∀ i, i < zs.length → W.cell? (a.add i) = some (.int .i64 (zs.getD i 0))) (hf : flatL rest = true)
    (c : ACall P f (.slice (some ⟨0, 0, none⟩) len cap :: rest) (roHp (zs.map nI)) (fun v _ => v = .bool true)) (t : Tb W.heap.size W := by first | exact fun _ _ => trivial | assumption) :
    Calls P f (Value.slice (some a) len cap :: rest).toArray W fun e W' => e = .returned (.bool true) ∧ Below W.heap.size W W' := by
  have s := roSim hs hb hc t
  obtain ⟨b, off, sp⟩ := a
  subst hs
  refine (c.2 W.heap.size W _ W _ (RVs.cons (RV.slice (l := ⟨b, off, 0⟩) (by simp [roMu])) (RVs.of_flat hf)) s).mono ?_
  rintro e W' ⟨m', v, v', h', rfl, _, rv, s, rfl⟩
  cases rv
  exact ⟨rfl, s.below.bl⟩
theorem law_nil {P : Program} {f : FuncId} {W : World} {rest : List Value} (hf : flatL rest = true)
    (c : ACall P f (.slice none 0 0 :: rest) Hp.empty (fun v _ => v = .bool true)) (t : Tb W.heap.size W := by first | exact fun _ _ => trivial | assumption) :
    Calls P f (Value.slice none 0 0 :: rest).toArray W fun e W' => e = .returned (.bool true) ∧ Below W.heap.size W W' := by
  refine (c.2 W.heap.size W ⟨fun _ => none, fun _ => none⟩ W _ (RVs.cons (RV.nils 0 0) (RVs.of_flat hf)) (Sim.empty W t)).mono ?_
  rintro e W' ⟨m', v, v', h', rfl, _, rv, s, rfl⟩
  cases rv
  exact ⟨rfl, s.below.bl⟩
theorem okWide_at {P : Program} {w : World} {base : Nat} {t e : TypeId} {a : Addr} {len cap : Nat} (ht : P.underlying t = some (.slice e)) (h : Value.okWide P w .any base t (.slice (some a) len cap)) : a.spot = none ∧ a.block < w.heap.size := by
  unfold Value.okWide at h
  rw [ht] at h
  unfold Cell.okWide at h
  rw [ht] at h
  unfold Cell.ok at h
  rw [ht] at h
  obtain ⟨_, _, _, hsp, row, cells, hsh, _⟩ := h
  refine ⟨hsp, ?_⟩
  by_cases hlt : a.block < w.heap.size
  · exact hlt
  · exfalso
    unfold World.shape? at hsh
    simp [Array.getElem?_eq_none (Nat.le_of_not_lt hlt)] at hsh
section
variable {P : Program} {CT : CTy} {env : Env} {h : Hp} {Q : Env → Hp → Prop} {d : Option Nat} {xs : List Operand} {vs : List Value}
/-- In a region whose order is open: a call, behind which reads are made again. -/
theorem drCR {ix : Nat} {eff : Bool} {f : FuncId} {re : List In} {L : List DE} (e : mapE env xs = some vs) (c : CT f vs h fun v h' => allAgain re env h' ∧ wpD P CT L (env.put d v) h' Q) : wpD P CT (⟨ix, ⟨d, none, .call f xs⟩, eff, re⟩ :: L) env h Q := by
  unfold wpD wpIn
  simp only [wanted, e]
  exact c
theorem ag_ld {d t i o : Nat} {v : Value} (g1 : env.get t = some (.pointer (some ⟨i, o, none⟩))) (g2 : env.get d = some v) (hr : h.rd i o 1 = some [v]) : again ⟨some d, none, .op .ld1 [.tmp t]⟩ env h := by
  unfold again
  simp only [wanted, mapE, evA, g1, g2, stepK, hr]
end
end Go.Proofs.YtapbmmlgmcmpnaaDoorW.Am
/- From a law's contract to its row, where some arguments are rows that are read alone. -/
namespace Go.Proofs.YtapbmmlgmcmpnaaDoorW.Am
open Go Go.RowKit
abbrev Ro := Option (Loc × List Value)
/-- Plain cells that stand in the world. -/
def RoC (W : World) (l : Loc) (cs : List Value) : Prop := l.blk < W.heap.size ∧ ∀ (i : Nat) v, cs[i]? = some v → W.cell? ⟨l.blk, l.off + i, none⟩ = some v ∧ flat v = true
def roN (rs : List Ro) : Hp := ⟨fun j => match rs[j]? with | some (some (_, cs)) => some ⟨cs, false, 0⟩ | _ => none, rs.length⟩
def roM (rs : List Ro) : Mu := ⟨fun j => match rs[j]? with | some (some (l, _)) => some l | _ => none, fun _ => none⟩
theorem roN_get {rs : List Ro} {j : Nat} {l : Loc} {cs : List Value} (h : rs[j]? = some (some (l, cs))) : (roN rs).get j = some ⟨cs, false, 0⟩ ∧ roM rs j = some l := by simp [roN, roM, h]
theorem roN_of {rs : List Ro} {j : Nat} {ob : Ob} (h : (roN rs).get j = some ob) : ∃ l, rs[j]? = some (some (l, ob.cells)) ∧ ob.rw = false := by
  simp only [roN] at h
  split at h
  · next l cs hj => cases h; exact ⟨l, hj, rfl⟩
  · cases h
theorem roN_sim {W : World} {rs : List Ro} (h : ∀ (j : Nat) l cs, rs[j]? = some (some (l, cs)) → RoC W l cs) (t : Tb W.heap.size W) : Sim W.heap.size W (roM rs) (roN rs) W := by
  refine ⟨Bel.refl t, Nat.le_refl _, fun i hi => ?_, fun i l e => ?_, MS.empty _ _ _ _, fun i ob e _ => ?_, fun i j x y l l' e e' hij hrw => ?_⟩
  · have : rs[i]? = none := List.getElem?_eq_none hi
    simp [roM, this]
  · simp only [roM] at e
    split at e
    · next l' cs hj => cases e; exact (h _ _ _ hj).1
    · cases e
  · obtain ⟨l, hj, hw⟩ := roN_of e
    refine ⟨l, (roN_get hj).2, fun k v hv => ?_, fun hr => by rw [hw] at hr; cases hr⟩
    obtain ⟨h1, h2⟩ := (h _ _ _ hj).2 k v hv
    exact ⟨v, h1, RV.of_flat _ _ h2⟩
  · obtain ⟨_, _, hw⟩ := roN_of e
    rw [hw] at hrw; cases hrw
theorem law_ro {P : Program} {f : FuncId} {W : World} {rs : List Ro} {args args' : List Value} (h : ∀ (j : Nat) l cs, rs[j]? = some (some (l, cs)) → RoC W l cs) (ra : RVs (roM rs) args args') (c : ACall P f args (roN rs) (fun v _ => v = .bool true)) (t : Tb W.heap.size W := by first | exact fun _ _ => trivial | assumption) :
    Calls P f args'.toArray W fun e W' => e = .returned (.bool true) ∧ Below W.heap.size W W' := by
  refine (c.2 W.heap.size W _ W _ ra (roN_sim h t)).mono ?_
  rintro e W' ⟨m', v, v', h', rfl, _, rv, s, rfl⟩
  cases rv
  exact ⟨rfl, s.below.bl⟩
theorem ro_all {W : World} {rs : List Ro} (h : ∀ r ∈ rs, ∀ l cs, r = some (l, cs) → RoC W l cs) : ∀ (j : Nat) l cs, rs[j]? = some (some (l, cs)) → RoC W l cs := fun _ _ _ e => h _ (List.mem_of_getElem? e) _ _ rfl
/-- An argument that is a row of numbers. -/
structure RowArg (W : World) (j : Nat) (v : Value) (r : Ro) (s : Value) (us : List Int) : Prop where
  cells : ∀ l cs, r = some (l, cs) → RoC W l cs
  rel : ∀ rs, rs[j]? = some r → RV (roM rs) s v
  rd : ∀ rs, rs[j]? = some r → Rd (roN rs) s (us.map nI)
  lt : ∀ rs : List Ro, rs[j]? = some r → ∀ i o sp n c, s = .slice (some ⟨i, o, sp⟩) n c → i < (roN rs).nx
  wf : ∀ n ∈ us, (Lit.int .i64 n).wf = true
  pl : ∀ i o sp n c, s = .slice (some ⟨i, o, sp⟩) n c → sp.getD 0 = 0
theorem row_arg {H : Type} {enc : TypeId × Value → H} {P : Program} {W : World} {base : Nat} {spare : Nat → Bool} {held : Bool} {fuel : Nat} {t e : TypeId} {v : Value} {x : DataW H × List MemPlace} (ht : P.underlying t = some (.slice e)) (he : P.underlying e = some (.int .i64)) (hc : P.cellsOf e = 1) (hv : Value.okWide P W .any base t v)
    (h : DataW.trod enc P W 0 spare held fuel t v.cells.toList = some x) (j : Nat) : ∃ r s us, RowArg W j v r s us := by
  obtain ⟨a0, len0, cap0, rfl⟩ := Go.WideShapes.okWide_slice ht hv
  rcases Go.ChangeShapes.open_ints ht he hc h with ⟨hcs, _⟩ | ⟨a, len, cap, zs, hcs, _, hle, _, hzl, _, hcell, hwf⟩
  · obtain ⟨rfl, rfl, rfl⟩ : a0 = none ∧ len0 = 0 ∧ cap0 = 0 := by simpa using (show [Value.slice a0 len0 cap0] = _ from hcs)
    exact ⟨none, .slice none 0 0, [], (fun _ _ e => by cases e), (fun _ _ => .nils 0 0), (fun _ _ => .inl ⟨rfl, rfl⟩), (fun _ _ i o sp n c e => by cases e), (by simp), (fun i o sp n c e => by cases e)⟩
  · obtain ⟨rfl, rfl, rfl⟩ : a0 = some a ∧ len0 = len ∧ cap0 = cap := by simpa using (show [Value.slice a0 len0 cap0] = _ from hcs)
    obtain ⟨hs, hb⟩ := okWide_at ht hv
    obtain ⟨b, off, sp⟩ := a
    have hs : sp = none := hs
    subst hs
    have hlz : len0 ≤ zs.length := by rw [hzl]; split <;> omega
    refine ⟨some (⟨b, off, 0⟩, zs.map nI), .slice (some ⟨j, 0, none⟩) len0 cap0, zs.take len0, ?_, fun rs hj => ?_, fun rs hj => ?_, fun rs hj i o sp n c e => ?_, fun n hn => hwf n (List.mem_of_mem_take hn), fun i o sp n c e => by cases e; rfl⟩
    · intro l cs e
      cases e
      refine ⟨hb, fun i v hv => ?_⟩
      rw [List.getElem?_map] at hv
      cases hz : zs[i]? with
      | none => rw [hz] at hv; cases hv
      | some z =>
        rw [hz] at hv
        cases hv
        have hi := (List.getElem?_eq_some_iff.1 hz).1
        have := hcell i hi
        rw [Go.WideShapes.add_plain] at this
        exact ⟨by rw [this, List.getD_eq_getElem?_getD, hz]; rfl, rfl⟩
    · exact .slice (roN_get hj).2
    · refine .inr ⟨j, 0, none, cap0, by simp [Nat.min_eq_left hlz], fun x v hx => ?_⟩
      have hx2 : (zs.map nI)[x]? = some v := by
        rw [List.getElem?_map, List.getElem?_take] at hx
        rw [List.getElem?_map]
        split at hx
        · exact hx
        · cases hx
      have := rd_f (roN_get hj).1 hx2
      simpa using this
    · cases e
      have := (List.getElem?_eq_some_iff.1 hj).1
      simpa [roN] using this
end Go.Proofs.YtapbmmlgmcmpnaaDoorW.Am
/- An evaluator over abstract heaps: a closed call is run by reckoning alone; what was shown over the empty heap holds over each one. -/
namespace Go.Proofs.YtapbmmlgmcmpnaaDoorW.Am
open Go Go.RowKit

/-- Equal, as far as looked into. -/
def eqN : Nat → Value → Value → Bool
  | 0, _, _ => false
  | n + 1, x, y => match x, y with
    | .bool a, .bool b => a == b
    | .int k a, .int l b => decide (k = l) && decide (a = b)
    | .string a, .string b => decide (a.data = b.data)
    | .pointer a, .pointer b => decide (a = b)
    | .slice a i j, .slice b k l => decide (a = b) && decide (i = k) && decide (j = l)
    | .map none, .map none => true
    | .nilFunc, .nilFunc => true
    | .nilIface, .nilIface => true
    | .iface t v, .iface u w => decide (t = u) && eqN n v w
    | .agg ⟨a⟩, .agg ⟨b⟩ => decide (a.length = b.length) && (a.zip b).all fun p => eqN n p.1 p.2
    | .tuple ⟨a⟩, .tuple ⟨b⟩ => decide (a.length = b.length) && (a.zip b).all fun p => eqN n p.1 p.2
    | _, _ => false
theorem zip_eq {p : Value → Value → Bool} : ∀ {a b : List Value}, a.length = b.length → ((a.zip b).all fun q => p q.1 q.2) = true → (∀ x y, p x y = true → x = y) → a = b
  | [], [], _, _, _ => rfl
  | [], _ :: _, h, _, _ => by cases h
  | _ :: _, [], h, _, _ => by cases h
  | x :: a, y :: b, h, k, q => by
    simp only [List.zip_cons_cons, List.all_cons, Bool.and_eq_true] at k
    rw [q x y k.1, zip_eq (by simpa using h) k.2 q]
theorem eqN_eq : ∀ (n : Nat) (x y : Value), eqN n x y = true → x = y := by
  intro n
  induction n with
  | zero => intro x y h; cases h
  | succ n ih =>
    intro x y h
    cases x <;> cases y <;> simp only [eqN, Bool.false_eq_true] at h
    case bool.bool a b => rw [eq_of_beq h]
    case int.int k a l b => simp at h; rw [h.1, h.2]
    case string.string a b => obtain ⟨a⟩ := a; obtain ⟨b⟩ := b; simp at h; rw [h]
    case pointer.pointer a b => simp at h; rw [h]
    case slice.slice a i j b k l => simp at h; rw [h.1.1, h.1.2, h.2]
    case map.map a b => cases a <;> cases b <;> simp_all
    case nilFunc.nilFunc => rfl
    case nilIface.nilIface => rfl
    case iface.iface t v u w => simp at h; rw [h.1, ih v w h.2]
    case agg.agg a b =>
      obtain ⟨a⟩ := a; obtain ⟨b⟩ := b
      simp only [Bool.and_eq_true, decide_eq_true_eq] at h
      rw [zip_eq h.1 h.2 ih]
    case tuple.tuple a b =>
      obtain ⟨a⟩ := a; obtain ⟨b⟩ := b
      simp only [Bool.and_eq_true, decide_eq_true_eq] at h
      rw [zip_eq h.1 h.2 ih]

def selB : Op → Bool
  | .select _ _ => true
  | _ => false
/-- Slots by the bits of their numbers. -/
inductive Tr (α : Type)
  | leaf
  | node (l : Tr α) (v : Option α) (r : Tr α)
def Tr.get {α : Type} : Tr α → Nat → Option α
  | .leaf, _ => none
  | .node l v r, n => match n with
    | 0 => v
    | n + 1 => match Nat.beq (n % 2) 0 with
      | true => l.get (n / 2)
      | false => r.get (n / 2)
def Tr.one {α : Type} (v : α) : Nat → Nat → Tr α
  | 0, _ => .leaf
  | k + 1, n => match n with
    | 0 => .node .leaf (some v) .leaf
    | n + 1 => match Nat.beq (n % 2) 0 with
      | true => .node (Tr.one v k (n / 2)) none .leaf
      | false => .node .leaf none (Tr.one v k (n / 2))
def Tr.set {α : Type} (v : α) : Tr α → Nat → Tr α
  | .leaf, n => Tr.one v 20 n
  | .node l x r, n => match n with
    | 0 => .node l (some v) r
    | n + 1 => match Nat.beq (n % 2) 0 with
      | true => .node (l.set v (n / 2)) x r
      | false => .node l x (r.set v (n / 2))
theorem Tr.one_get {α : Type} (v : α) : ∀ (k n m : Nat) (u : α), (Tr.one v k n).get m = some u → m = n ∧ u = v := by
  intro k
  induction k with
  | zero => intro n m u e; cases e
  | succ k ih =>
    intro n m u e
    cases n with
    | zero =>
      cases m with
      | zero => simp only [Tr.one, Tr.get, Option.some.injEq] at e; exact ⟨rfl, e.symm⟩
      | succ m => simp only [Tr.one, Tr.get] at e; split at e <;> cases e
    | succ n =>
      simp only [Tr.one] at e
      cases hb : Nat.beq (n % 2) 0 <;> rw [hb] at e <;> cases m <;> simp only [Tr.get, reduceCtorEq] at e
      · next m =>
        cases hm : Nat.beq (m % 2) 0 <;> rw [hm] at e <;> simp only [reduceCtorEq] at e
        obtain ⟨h1, h2⟩ := ih _ _ _ e
        have a1 := Nat.ne_of_beq_eq_false hb
        have a2 := Nat.ne_of_beq_eq_false hm
        exact ⟨by omega, h2⟩
      · next m =>
        cases hm : Nat.beq (m % 2) 0 <;> rw [hm] at e <;> simp only [reduceCtorEq] at e
        obtain ⟨h1, h2⟩ := ih _ _ _ e
        have a1 := Nat.eq_of_beq_eq_true hb
        have a2 := Nat.eq_of_beq_eq_true hm
        exact ⟨by omega, h2⟩
theorem Tr.set_get {α : Type} (v : α) : ∀ (t : Tr α) (n m : Nat) (u : α), (t.set v n).get m = some u → (m = n ∧ u = v) ∨ (m ≠ n ∧ t.get m = some u) := by
  intro t
  induction t with
  | leaf => intro n m u e; exact .inl (Tr.one_get v _ _ _ _ e)
  | node l x r ihl ihr =>
    intro n m u e
    cases n with
    | zero =>
      cases m with
      | zero => simp only [Tr.set, Tr.get, Option.some.injEq] at e; exact .inl ⟨rfl, e.symm⟩
      | succ m => exact .inr ⟨by omega, e⟩
    | succ n =>
      simp only [Tr.set] at e
      cases hb : Nat.beq (n % 2) 0 <;> rw [hb] at e <;> cases m
      · exact .inr ⟨by omega, e⟩
      · next m =>
        simp only [Tr.get] at e ⊢
        have a1 := Nat.ne_of_beq_eq_false hb
        cases hm : Nat.beq (m % 2) 0 <;> rw [hm] at e <;> simp only at e ⊢
        · have a2 := Nat.ne_of_beq_eq_false hm
          rcases ihr _ _ _ e with ⟨h1, h2⟩ | ⟨h1, h2⟩
          · exact .inl ⟨by omega, h2⟩
          · exact .inr ⟨by intro h3; cases h3; exact h1 rfl, h2⟩
        · have a2 := Nat.eq_of_beq_eq_true hm
          exact .inr ⟨by intro h3; cases h3; exact a1 a2, e⟩
      · exact .inr ⟨by omega, e⟩
      · next m =>
        simp only [Tr.get] at e ⊢
        have a1 := Nat.eq_of_beq_eq_true hb
        cases hm : Nat.beq (m % 2) 0 <;> rw [hm] at e <;> simp only at e ⊢
        · have a2 := Nat.ne_of_beq_eq_false hm
          exact .inr ⟨by intro h3; cases h3; exact a2 a1, e⟩
        · have a2 := Nat.eq_of_beq_eq_true hm
          rcases ihl _ _ _ e with ⟨h1, h2⟩ | ⟨h1, h2⟩
          · exact .inl ⟨by omega, h2⟩
          · exact .inr ⟨by intro h3; cases h3; exact h1 rfl, h2⟩
abbrev ET := Tr Value
/-- The slots told, out of all. -/
def few (t : ET) : List Nat → Env
  | [] => []
  | s :: r => match t.get s with
    | some v => (s, v) :: few t r
    | none => few t r
theorem few_get {t : ET} : ∀ {l : List Nat} {s : Nat} {v : Value}, Env.get (few t l) s = some v → t.get s = some v
  | [], s, v, e => by cases e
  | a :: l, s, v, e => by
    simp only [few] at e
    split at e
    · next u hu =>
      simp only [Env.get] at e
      split at e
      · next h => subst h; rw [hu]; exact e
      · exact few_get e
    · exact few_get e
abbrev Cf := FuncId → List Value → Hp → Option (Value × Hp)
def evIn (P : Program) (cf : Cf) (i : In) (env : Env) (h : Hp) : Option (Value × Hp) :=
  match wanted i.g env with
  | none => none
  | some false => some (undef, h)
  | some true => match i.k with
    | .op k xs => match mapE env xs with
      | none => none
      | some vs => stepK k vs h
    | .fl op ty => if selB op then none else match flatStep P env op ty with
      | none => none
      | some v => some (v, h)
    | .call f xs => match mapE env xs with
      | none => none
      | some vs => cf f vs h
    | .callv x xs => match evA env x, mapE env xs with
      | some (.func (.func f) a b), some vs => cf f (a.toList ++ vs ++ b.toList) h
      | _, _ => none
def putE (t : ET) (d : Option Nat) (v : Value) : ET :=
  match d with
  | some d => t.set v d
  | none => t
def evS (P : Program) (cf : Cf) : List In → ET → Hp → Option (ET × Hp)
  | [], t, h => some (t, h)
  | i :: r, t, h => match evIn P cf i (few t (looks i)) h with
    | some (v, h') => evS P cf r (putE t i.d v) h'
    | none => none
/-- A read that is made again finds what it found. -/
def agB (i : In) (env : Env) (h : Hp) : Bool :=
  match wanted i.g env, i.k, i.d with
  | some false, _, _ => true
  | some true, .op .ld1 xs, some d => match mapE env xs with
    | some vs => match env.get d, stepK .ld1 vs h with
      | some v, some (u, _) => eqN 8 u v
      | _, _ => false
    | none => false
  | some true, .op (.ldn c) xs, some d => match mapE env xs with
    | some vs => match env.get d, stepK (.ldn c) vs h with
      | some v, some (u, _) => eqN 8 u v
      | _, _ => false
    | none => false
  | _, _, _ => false
def dOf (i : In) : List Nat := match i.d with | some d => d :: looks i | none => looks i
def evD (P : Program) (cf : Cf) : List DE → ET → Hp → Option (ET × Hp)
  | [], t, h => some (t, h)
  | x :: r, t, h => match evIn P cf x.i (few t (looks x.i)) h with
    | some (v, h') => if (x.re.all fun i => agB i (few t (dOf i)) h') = true then evD P cf r (putE t x.i.d v) h' else none
    | none => none
def resT : List ResultVar → List Nat
  | [] => []
  | .tmp t :: r => t :: resT r
  | .cell a _ :: r => a :: resT r
def argT : Nat → List Value → ET → ET
  | _, [], t => t
  | k, v :: r, t => argT (k + 1) r (t.set v k)
def evC (P : Program) (F : Nat → Option FI) : Nat → IC → ET → Hp → Option (Exit × ET × Hp)
  | 0, _, _, _ => none
  | k + 1, c, t, h =>
    let cf : Cf := fun f args h => match F f with
      | some fi => if args.length ≤ fi.n then (match evC P F k fi.body (argT 0 args .leaf) h with
        | some (.normal, e, h') | some (.ret, e, h') => match resAll P (few e (resT fi.res)) h' fi.res with
          | some vs => some (pack vs, h')
          | none => none
        | _ => none) else none
      | none => none
    match c with
    | .skip => some (.normal, t, h)
    | .reg ins => match evS P cf ins t h with
      | some (e, h') => some (.normal, e, h')
      | none => none
    | .drw L => match evD P cf L t h with
      | some (e, h') => some (.normal, e, h')
      | none => none
    | .seq a b => match evC P F k a t h with
      | some (.normal, e, h') => evC P F k b e h'
      | r => r
    | .cond x a b => match evA (few t (tmpsOf [x])) x with
      | some (.bool true) => evC P F k a t h
      | some (.bool false) => evC P F k b t h
      | _ => none
    | .block id a => match evC P F k a t h with
      | some (.exit j, e, h') => if j = id then some (.normal, e, h') else some (.exit j, e, h')
      | r => r
    | .loop a => match evC P F k a t h with
      | some (.normal, e, h') => evC P F k (.loop a) e h'
      | r => r
    | .exit id => some (.exit id, t, h)
    | .ret => some (.ret, t, h)
/-- A closed call. -/
def run (P : Program) (F : Nat → Option FI) (k : Nat) (f : FuncId) (args : List Value) (h : Hp) : Option (Value × Hp) :=
  match F f with
  | some fi => if args.length ≤ fi.n then (match evC P F k fi.body (argT 0 args .leaf) h with
    | some (.normal, e, h') | some (.ret, e, h') => match resAll P (few e (resT fi.res)) h' fi.res with
      | some vs => some (pack vs, h')
      | none => none
    | _ => none) else none
  | none => none

/-- What is told of the slots is so. -/
def TLe (t : ET) (env : Env) : Prop := ∀ s v, t.get s = some v → env.get s = some v
theorem TLe.few {t : ET} {env : Env} (h : TLe t env) (l : List Nat) : EnvLe (few t l) env := fun s v e => h s v (few_get e)
theorem TLe.put {t : ET} {env : Env} (h : TLe t env) (d : Option Nat) (v : Value) : TLe (putE t d v) (env.put d v) := by
  intro s u e
  cases d with
  | none => exact h _ _ e
  | some d =>
    simp only [putE] at e
    simp only [Env.put, Env.get]
    rcases Tr.set_get v t d s u e with ⟨rfl, rfl⟩ | ⟨h1, h2⟩
    · rw [if_pos rfl]
    · rw [if_neg (fun h3 => h1 h3.symm)]; exact h _ _ h2
theorem argT_le : ∀ (args : List Value) (k : Nat) (t : ET), (∀ s v, t.get s = some v → s < k) → ∀ s v, (argT k args t).get s = some v → (s < k ∧ t.get s = some v) ∨ (k ≤ s ∧ args[s - k]? = some v) := by
  intro args
  induction args with
  | nil => intro k t ht s v e; exact .inl ⟨ht s v e, e⟩
  | cons a args ih =>
    intro k t ht s v e
    have h1 : ∀ s v, (t.set a k).get s = some v → s < k + 1 := by
      intro s v e
      rcases Tr.set_get a t k s v e with ⟨rfl, _⟩ | ⟨_, h2⟩
      · omega
      · have := ht s v h2; omega
    rcases ih (k + 1) _ h1 s v e with ⟨h2, h3⟩ | ⟨h2, h3⟩
    · rcases Tr.set_get a t k s v h3 with ⟨rfl, rfl⟩ | ⟨h4, h5⟩
      · exact .inr ⟨Nat.le_refl _, by simp⟩
      · exact .inl ⟨by omega, h5⟩
    · exact .inr ⟨by omega, by rw [show s - k = (s - (k + 1)) + 1 by omega]; simpa using h3⟩
theorem envOf_at : ∀ (l : List Value) (k s : Nat) (v : Value), k ≤ s → l[s - k]? = some v → (envOf k l).get s = some v
  | [], _, _, _, _, e => by simp at e
  | a :: l, k, s, v, hk, e => by
    simp only [envOf, Env.get]
    by_cases h : k = s
    · subst h; simp at e; rw [if_pos rfl, e]
    · rw [if_neg h]
      refine envOf_at l (k + 1) s v (by omega) ?_
      rw [show s - k = (s - (k + 1)) + 1 by omega] at e
      simpa using e
theorem argT_TLe (args : List Value) : TLe (argT 0 args .leaf) (envOf 0 args) := by
  intro s v e
  rcases argT_le args 0 .leaf (by intro s v e; cases e) s v e with ⟨h, _⟩ | ⟨h1, h2⟩
  · omega
  · exact envOf_at args 0 s v h1 h2

section
variable {P : Program} {cf : Cf} {env env' : Env} {h h' : Hp}
theorem evA_le (hl : EnvLe env env') {x : Operand} {v : Value} (e : evA env x = some v) : evA env' x = some v := by
  cases x <;> simp only [evA] at e ⊢ <;> first | exact hl _ _ e | exact e
theorem mapE_le (hl : EnvLe env env') : ∀ {xs : List Operand} {vs : List Value}, mapE env xs = some vs → mapE env' xs = some vs := by
  intro xs
  induction xs with
  | nil => intro vs e; exact e
  | cons x xs ih =>
    intro vs e
    simp only [mapE] at e
    split at e
    case h_2 => cases e
    case h_1 v hv =>
    split at e
    case h_2 => cases e
    case h_1 us hus =>
    cases e
    simp only [mapE, evA_le hl hv, ih hus]
theorem wanted_le (hl : EnvLe env env') {g : Option (Nat × Bool)} {b : Bool} (e : wanted g env = some b) : wanted g env' = some b := by
  cases g with
  | none => exact e
  | some p =>
    obtain ⟨t, c⟩ := p
    simp only [wanted] at e ⊢
    split at e
    · next x hx => rw [hl _ _ hx]; exact e
    · next hx => rw [hl _ _ hx]; exact e
    · cases e
theorem flatStep_le (hl : EnvLe env env') {op : Op} {ty : TypeId} {v : Value} (hs : ∀ cs b, op ≠ .select cs b) (e : flatStep P env op ty = some v) : flatStep P env' op ty = some v := by
  have h0 := e
  unfold flatStep at h0
  split at h0
  case isFalse => cases h0
  case isTrue ha =>
  rw [← e]
  refine (flatStep_congr hs fun t ht => ?_).symm
  unfold allFlat at ha
  rw [List.all_eq_true] at ha
  have hm : Operand.tmp t ∈ op.operands.toList := by
    have : ∀ {xs : List Operand}, t ∈ tmpsOf xs → Operand.tmp t ∈ xs := by
      intro xs
      induction xs with
      | nil => intro h; cases h
      | cons x xs ih => intro h; cases x <;> simp [tmpsOf] at h <;> first | (rcases h with rfl | h; exact List.mem_cons_self; exact List.mem_cons_of_mem _ (ih h)) | exact List.mem_cons_of_mem _ (ih h)
    exact this ht
  have := ha _ hm
  simp only [evA] at this
  cases hg : env.get t with
  | none => rw [hg] at this; cases this
  | some u => exact (hl _ _ hg).symm
theorem wpS_mono {ins : List In} {Q Q' : Env → Hp → Prop} (hq : ∀ e h, Q e h → Q' e h) : ∀ {env : Env} {h : Hp}, wpS P (ACall P) ins env h Q → wpS P (ACall P) ins env h Q' := by
  induction ins with
  | nil => intro env h a; exact hq _ _ a
  | cons i r ih => intro env h a; exact wpIn_mono a fun _ _ => ih
theorem wpD_mono {L : List DE} {Q Q' : Env → Hp → Prop} (hq : ∀ e h, Q e h → Q' e h) : ∀ {env : Env} {h : Hp}, wpD P (ACall P) L env h Q → wpD P (ACall P) L env h Q' := by
  induction L with
  | nil => intro env h a; exact hq _ _ a
  | cons i r ih => intro env h a; exact wpIn_mono a fun _ _ ⟨h1, h2⟩ => ⟨h1, ih h2⟩
theorem evIn_sound (hc : ∀ f vs h v h', cf f vs h = some (v, h') → ACall P f vs h (fun u g => u = v ∧ g = h')) (hl : EnvLe env env') {i : In} {v : Value} {R : Value → Hp → Prop} (e : evIn P cf i env h = some (v, h')) (r : R v h') : wpIn P (ACall P) i env' h R := by
  unfold evIn at e
  unfold wpIn
  split at e
  · cases e
  · next hw => cases e; simp only [wanted_le hl hw]; exact r
  · next hw =>
    simp only [wanted_le hl hw]
    split at e
    · next k xs hik =>
      split at e
      · cases e
      · next vs hv => simp only [hik, mapE_le hl hv, e]; exact r
    · next op ty hik =>
      split at e
      · cases e
      next hns =>
      split at e
      · cases e
      · next u hv =>
        cases e
        simp only [hik, flatStep_le hl (by rintro cs b rfl; exact hns rfl) hv]; exact r
    · next hik =>
      split at e
      · cases e
      · next vs hv =>
        simp only [hik, mapE_le hl hv]
        exact (hc _ _ _ _ _ e).mono fun _ _ ⟨h1, h2⟩ => by rw [h1, h2]; exact r
    · next hik =>
      split at e
      · next h1 h2 =>
        simp only [hik, evA_le hl h1, mapE_le hl h2]
        exact (hc _ _ _ _ _ e).mono fun _ _ ⟨h1, h2⟩ => by rw [h1, h2]; exact r
      · cases e
theorem evS_sound (hc : ∀ f vs h v h', cf f vs h = some (v, h') → ACall P f vs h (fun u g => u = v ∧ g = h')) : ∀ {ins : List In} {env : ET} {env' : Env} {h : Hp} {e : ET} {h' : Hp}, TLe env env' → evS P cf ins env h = some (e, h') → wpS P (ACall P) ins env' h (fun e2 h2 => TLe e e2 ∧ h2 = h') := by
  intro ins
  induction ins with
  | nil => intro env env' h e h' hl ev; cases ev; exact ⟨hl, rfl⟩
  | cons i r ih =>
    intro env env' h e h' hl ev
    simp only [evS] at ev
    split at ev
    · next v h1 hv => exact evIn_sound hc (hl.few _) hv (ih (hl.put _ _) ev)
    · cases ev
theorem agB_sound (hl : EnvLe env env') {i : In} (e : agB i env h = true) : again i env' h := by
  unfold agB at e
  unfold again
  split at e
  · next hw => rw [wanted_le hl hw]; trivial
  · next xs d hw hik hid =>
    rw [wanted_le hl hw, hik, hid]
    simp only
    split at e
    · next vs hv =>
      simp only [mapE_le hl hv]
      split at e
      · next v u h2 hd hs =>
        simp only [hl _ _ hd]
        rw [hs, readK_step rfl hs, eqN_eq _ _ _ e]
      · cases e
    · cases e
  · next c xs d hw hik hid =>
    rw [wanted_le hl hw, hik, hid]
    simp only
    split at e
    · next vs hv =>
      simp only [mapE_le hl hv]
      split at e
      · next v u h2 hd hs =>
        simp only [hl _ _ hd]
        rw [hs, readK_step rfl hs, eqN_eq _ _ _ e]
      · cases e
    · cases e
  · cases e
theorem agAll_sound {t : ET} (hl : TLe t env') : ∀ {l : List In}, (l.all fun i => agB i (few t (dOf i)) h) = true → allAgain l env' h := by
  intro l
  induction l with
  | nil => intro _; trivial
  | cons i r ih =>
    intro e
    simp only [List.all_cons, Bool.and_eq_true] at e
    exact ⟨agB_sound (hl.few _) e.1, ih e.2⟩
theorem evD_sound (hc : ∀ f vs h v h', cf f vs h = some (v, h') → ACall P f vs h (fun u g => u = v ∧ g = h')) : ∀ {L : List DE} {env : ET} {env' : Env} {h : Hp} {e : ET} {h' : Hp}, TLe env env' → evD P cf L env h = some (e, h') → wpD P (ACall P) L env' h (fun e2 h2 => TLe e e2 ∧ h2 = h') := by
  intro L
  induction L with
  | nil => intro env env' h e h' hl ev; cases ev; exact ⟨hl, rfl⟩
  | cons x r ih =>
    intro env env' h e h' hl ev
    simp only [evD] at ev
    split at ev
    · next v h1 hv =>
      split at ev
      · next ha => exact evIn_sound hc (hl.few _) hv ⟨agAll_sound hl ha, ih (hl.put _ _) ev⟩
      · cases ev
    · cases ev
end
/-- The functions are the program's. -/
def Have (P : Program) (F : Nat → Option FI) : Prop := ∀ f fi, F f = some fi → ∃ fn, P.funcs[f]? = some fn ∧ compF P fn = some fi
/-- A loop whose frame is told by slots. -/
theorem ai_loopT {P : Program} {n : Nat} {x : IC} {env : Env} {h : Hp} {Q : Exit → Env → Hp → Prop} {γ : Type} (E : γ → ET) (H : γ → Hp → Prop) (mu : γ → Nat) (g0 : γ) (hE : TLe (E g0) env) (hH : H g0 h)
    (round : ∀ g env h, TLe (E g) env → H g h → AI P n x env h (fun e env' h' => match e with | .normal => ∃ g', TLe (E g') env' ∧ H g' h' ∧ mu g' < mu g | e => Q e env' h')) : AI P n (.loop x) env h Q := by
  refine ai_loop (fun env h k => ∃ g, TLe (E g) env ∧ H g h ∧ mu g = k) (k0 := mu g0) ⟨g0, hE, hH, rfl⟩ ?_
  rintro env h k ⟨g, h1, h2, rfl⟩
  refine (round g env h h1 h2).mono ?_
  intro e env' h' q
  cases e with
  | normal => obtain ⟨g', k1, k2, k3⟩ := q; exact ⟨mu g', k3, g', k1, k2, rfl⟩
  | exit i => exact q
  | goto i => exact q
  | ret => exact q
  | panic c => exact q
  | outgrown => exact q
theorem run_of {P : Program} {F : Nat → Option FI} (hF : Have P F) {k : Nat} (ih : ∀ {n : Nat} {c : IC} {env : ET} {env' : Env} {h : Hp} {x : Exit} {e : ET} {h' : Hp}, TLe env env' → evC P F k c env h = some (x, e, h') → AI P n c env' h (fun x2 e2 h2 => x2 = x ∧ TLe e e2 ∧ h2 = h'))
    {f : FuncId} {vs : List Value} {h : Hp} {v : Value} {h' : Hp} (hv : run P F k f vs h = some (v, h')) : ACall P f vs h (fun u g => u = v ∧ g = h') := by
  unfold run at hv
  split at hv
  case h_2 => cases hv
  case h_1 fi hfi =>
  split at hv
  case isFalse => cases hv
  case isTrue hn =>
  obtain ⟨fn, hf, hcf⟩ := hF f fi hfi
  have fin : ∀ x2 e h2 vs2, (x2 = .normal ∨ x2 = .ret) → evC P F k fi.body (argT 0 vs .leaf) h = some (x2, e, h2) → resAll P (few e (resT fi.res)) h2 fi.res = some vs2 → ACall P f vs h (fun u g => u = pack vs2 ∧ g = h2) := by
    intro x2 e h2 vs2 hx hev hres
    refine acall hf hcf hn ((ih (argT_TLe vs) hev).mono ?_)
    rintro x3 e3 h3 ⟨rfl, hle, rfl⟩
    have : resAll P e3 h3 fi.res = some vs2 := by
      rw [← hres]
      have hone : ∀ (y : ResultVar) (v : Value), resOne P (few e (resT fi.res)) h3 y = some v → resOne P e3 h3 y = some v := by
        intro y v hy
        cases y with
        | tmp t => exact hle.few _ _ _ hy
        | cell a t =>
          simp only [resOne] at hy ⊢
          split at hy
          · next hg => rw [hle.few _ _ _ hg]; exact hy
          · cases hy
      have hall : ∀ (l : List ResultVar) (vs : List Value), resAll P (few e (resT fi.res)) h3 l = some vs → resAll P e3 h3 l = some vs := by
        intro l
        induction l with
        | nil => intro vs hv; exact hv
        | cons y l ihl =>
          intro vs hv
          simp only [resAll] at hv ⊢
          split at hv
          · next h1 h2 => rw [hone _ _ h1, ihl _ h2]; exact hv
          · cases hv
      rw [hres]
      exact hall _ _ hres
    rcases hx with rfl | rfl
    · exact ⟨vs2, this, rfl, rfl⟩
    · exact ⟨vs2, this, rfl, rfl⟩
  split at hv
  · next e2 h2 hev =>
    split at hv
    · next vs2 hres => cases hv; exact fin _ _ _ _ (.inl rfl) hev hres
    · cases hv
  · next e2 h2 hev =>
    split at hv
    · next vs2 hres => cases hv; exact fin _ _ _ _ (.inr rfl) hev hres
    · cases hv
  · cases hv
theorem evC_sound {P : Program} {F : Nat → Option FI} (hF : Have P F) (hm : P.follows .mixedOrders = true) : ∀ (k : Nat) {n : Nat} {c : IC} {env : ET} {env' : Env} {h : Hp} {x : Exit} {e : ET} {h' : Hp}, TLe env env' → evC P F k c env h = some (x, e, h') →
    AI P n c env' h (fun x2 e2 h2 => x2 = x ∧ TLe e e2 ∧ h2 = h') := by
  intro k
  induction k using Nat.strongRecOn with
  | _ k ih =>
    intro n c env env' h x e h' hl ev
    cases k with
    | zero => cases ev
    | succ k =>
      have hc : ∀ f vs h v h', run P F k f vs h = some (v, h') → ACall P f vs h (fun u g => u = v ∧ g = h') := fun f vs h v h' hv => run_of hF (fun hl hev => ih k (Nat.lt_succ_self k) hl hev) hv
      cases c with
      | skip => simp only [evC] at ev; cases ev; exact ai_skip ⟨rfl, hl, rfl⟩
      | exit id => simp only [evC] at ev; cases ev; exact ai_exit ⟨rfl, hl, rfl⟩
      | ret => simp only [evC] at ev; cases ev; exact ai_ret ⟨rfl, hl, rfl⟩
      | reg ins =>
        simp only [evC] at ev
        split at ev
        · next hev =>
          cases ev
          refine ai_reg ?_
          exact wpS_mono (fun _ _ ⟨h1, h2⟩ => ⟨rfl, h1, h2⟩) (evS_sound (cf := run P F k) hc hl hev)
        · cases ev
      | drw L =>
        simp only [evC] at ev
        split at ev
        · next hev =>
          cases ev
          refine ai_drw hm ?_
          exact wpD_mono (fun _ _ ⟨h1, h2⟩ => ⟨rfl, h1, h2⟩) (evD_sound (cf := run P F k) hc hl hev)
        · cases ev
      | seq a b =>
        simp only [evC] at ev
        split at ev
        · next e1 h1 hev =>
          refine ai_seq ((ih k (Nat.lt_succ_self k) hl hev).mono ?_)
          rintro x2 e2 h2 ⟨rfl, hle, rfl⟩
          exact ih k (Nat.lt_succ_self k) hle ev
        · next hne =>
          refine ai_seq ((ih k (Nat.lt_succ_self k) hl ev).mono ?_)
          rintro x2 e2 h2 ⟨rfl, hle, rfl⟩
          cases x2 with
          | normal => exact absurd ev (hne _ _)
          | _ => exact ⟨rfl, hle, rfl⟩
      | cond y a b =>
        simp only [evC] at ev
        split at ev
        · next hy => exact ai_cond (evA_le (hl.few _) hy) (fun _ => ih k (Nat.lt_succ_self k) hl ev) (fun hb => by cases hb)
        · next hy => exact ai_cond (evA_le (hl.few _) hy) (fun hb => by cases hb) (fun _ => ih k (Nat.lt_succ_self k) hl ev)
        · cases ev
      | block id a =>
        simp only [evC] at ev
        split at ev
        · next j e1 h1 hev =>
          refine ai_block ((ih k (Nat.lt_succ_self k) hl hev).mono ?_)
          rintro x2 e2 h2 ⟨rfl, hle, rfl⟩
          simp only [blockQ]
          split at ev
          · next hj => rw [if_pos hj]; cases ev; exact ⟨rfl, hle, rfl⟩
          · next hj => rw [if_neg hj]; cases ev; exact ⟨rfl, hle, rfl⟩
        · next hne =>
          refine ai_block ((ih k (Nat.lt_succ_self k) hl ev).mono ?_)
          rintro x2 e2 h2 ⟨rfl, hle, rfl⟩
          cases x2 with
          | exit j => exact absurd ev (hne _ _ _)
          | _ => exact ⟨rfl, hle, rfl⟩
      | loop a =>
        refine ai_loopT (γ := ET × Nat) (fun g => g.1) (fun g h1 => g.2 ≤ k + 1 ∧ evC P F g.2 (.loop a) g.1 h1 = some (x, e, h')) (fun g => g.2) (env, k + 1) hl ⟨Nat.le_refl _, ev⟩ ?_
        rintro ⟨e1, j⟩ env1 h1 hl1 ⟨hj, ev1⟩
        dsimp only at hj ev1 hl1 ⊢
        cases j with
        | zero => cases ev1
        | succ j =>
          simp only [evC] at ev1
          split at ev1
          · next e2 h2 hev =>
            refine (ih j (by omega) hl1 hev).mono ?_
            rintro x3 e3 h3 ⟨rfl, hle, rfl⟩
            exact ⟨(e2, j), hle, ⟨by dsimp only; omega, ev1⟩, by dsimp only; omega⟩
          · next hne =>
            refine (ih j (by omega) hl1 ev1).mono ?_
            rintro x3 e3 h3 ⟨rfl, hle, rfl⟩
            cases x3 with
            | normal => exact absurd ev1 (hne _ _)
            | _ => exact ⟨rfl, hle, rfl⟩
theorem run_sound {P : Program} {F : Nat → Option FI} (hF : Have P F) (hm : P.follows .mixedOrders = true) {k : Nat} {f : FuncId} {args : List Value} {h : Hp} {v : Value} {h' : Hp} (e : run P F k f args h = some (v, h')) : ACall P f args h (fun u g => u = v ∧ g = h') :=
  run_of hF (fun hl hev => evC_sound hF hm k hl hev) e
/-- Is the answer true? -/
def yes : Option (Value × Hp) → Bool
  | some (.bool true, _) => true
  | _ => false
theorem yes_of {r : Option (Value × Hp)} (e : yes r = true) : ∃ h, r = some (.bool true, h) := by
  unfold yes at e
  split at e
  · exact ⟨_, rfl⟩
  · cases e
/-- What is shown over the empty heap holds over each one, for arguments without addresses. -/
theorem acall_frame {P : Program} {f : FuncId} {args : List Value} {R : Value → Prop} (h : Hp) (hf : flatL args = true) (hv : ∀ v, R v → flat v = true) (c : ACall P f args Hp.empty (fun v _ => R v)) : ACall P f args h (fun v g => R v ∧ h = g) := by
  refine ⟨c.1, fun base w0 m w args' ra s => ?_⟩
  have ea : args' = args := ra.flat_eq hf
  subst ea
  refine (c.2 w.heap.size w ⟨fun _ => none, fun _ => none⟩ w args' (RVs.of_flat hf) (Sim.empty w (s.below.tb.of s.below.bl s.big))).mono ?_
  rintro e w' ⟨m', v, v', h', rfl, _, rv, s', hr⟩
  have ev := rv.flat_eq (hv v hr)
  subst ev
  refine ⟨m, v', v', h, rfl, m.le_refl, RV.of_flat m v' (hv v' hr), ?_, hr, rfl⟩
  have hlt : ∀ b, b < w.heap.size → w'.heap[b]? = w.heap[b]? := s'.below.bl.block
  refine s.world ⟨s'.below.bl.os, s'.below.bl.tape, s'.below.bl.output, s'.below.bl.size, fun b hb => hlt b (Nat.lt_of_lt_of_le hb s.big)⟩ s'.below.dr s'.below.bl.size (fun b es ck hb => hlt b (Array.getElem?_eq_some_iff.1 hb).1) fun i l ob _ hm => hlt _ (s.lt i l hm)
/-- Functions by their numbers. -/
def look : List (Nat × FI) → Nat → Option FI
  | [], _ => none
  | (k, x) :: r, f => if Nat.beq k f = true then some x else look r f
theorem have_nil (P : Program) : Have P (look []) := fun _ _ e => by cases e
theorem have_cons {P : Program} {l : List (Nat × FI)} {k : Nat} {x : FI} {fn : Func} (hf : P.funcs[k]? = some fn) (hc : compF P fn = some x) (h : Have P (look l)) : Have P (look ((k, x) :: l)) := by
  intro f fi e
  simp only [look] at e
  split at e
  · next hk => cases e; rw [← Nat.eq_of_beq_eq_true hk]; exact ⟨fn, hf, hc⟩
  · exact h f fi e
/-- A closed function that answers true does so over every heap. -/
theorem closed_true {P : Program} {F : Nat → Option FI} (hF : Have P F) (hm : P.follows .mixedOrders = true) (k : Nat) {f : FuncId} {args : List Value} (hf : flatL args = true) (e : yes (run P F k f args Hp.empty) = true) (h : Hp) : ACall P f args h (fun v g => v = .bool true ∧ h = g) := by
  obtain ⟨h1, e1⟩ := yes_of e
  exact acall_frame (R := fun v => v = .bool true) h hf (by rintro v rfl; rfl) ((run_sound hF hm e1).mono fun _ _ ⟨h2, _⟩ => h2)
/-- A closed function with a plain answer. -/
theorem closed_val {P : Program} {F : Nat → Option FI} (hF : Have P F) (hm : P.follows .mixedOrders = true) (k : Nat) {f : FuncId} {args : List Value} {v : Value} (hf : flatL args = true) (hv : flat v = true) (e : (run P F k f args Hp.empty).map (·.1) = some v) (h : Hp) : ACall P f args h (fun u g => u = v ∧ h = g) := by
  cases hr : run P F k f args Hp.empty with
  | none => rw [hr] at e; cases e
  | some r =>
    obtain ⟨u, h1⟩ := r
    rw [hr] at e
    cases e
    exact acall_frame (R := fun u' => u' = u) h hf (by rintro _ rfl; exact hv) ((run_sound hF hm hr).mono fun _ _ ⟨h2, _⟩ => h2)
end Go.Proofs.YtapbmmlgmcmpnaaDoorW.Am
/- Steps that are tried one after the other, without a look at the place: what one instruction comes to. -/
namespace Go.Proofs.YtapbmmlgmcmpnaaDoorW.Am
open Go Go.RowKit
/-- One instruction (as a structure of its own: the steps below are told apart by its look alone). -/
structure WI (P : Program) (CT : CTy) (i : In) (env : Env) (h : Hp) (R : Value → Hp → Prop) : Prop where
  out : wpIn P CT i env h R
/-! Looking up in a frame, with less to reckon. -/
def getF : Env → Nat → Option Value
  | [], _ => none
  | (k, v) :: r, t => match Nat.beq k t with
    | true => some v
    | false => getF r t
theorem getF_eq : ∀ (env : Env) (t : Nat), getF env t = env.get t
  | [], _ => rfl
  | (k, v) :: r, t => by
    simp only [getF, Env.get]
    cases h : Nat.beq k t
    · rw [if_neg (Nat.ne_of_beq_eq_false h)]; exact getF_eq r t
    · rw [if_pos (Nat.eq_of_beq_eq_true h)]
def evF (env : Env) : Operand → Option Value
  | .tmp t => getF env t
  | .const v => if flat v then some v else none
  | .func f => some (.func (.func f) #[] #[])
  | .global _ => none
theorem evF_eq (env : Env) (x : Operand) : evF env x = evA env x := by cases x <;> first | exact getF_eq _ _ | rfl
def mapF (env : Env) : List Operand → Option (List Value)
  | [] => some []
  | x :: r => match evF env x with
    | some v => match mapF env r with
      | some vs => some (v :: vs)
      | none => none
    | none => none
theorem mapF_eq (env : Env) : ∀ xs, mapF env xs = mapE env xs
  | [] => rfl
  | x :: r => by simp only [mapF, mapE, evF_eq, mapF_eq env r]; rfl
def opF (env : Env) (k : K) (xs : List Operand) (h : Hp) : Option (Value × Hp) :=
  match mapF env xs with
  | some vs => stepK k vs h
  | none => none
theorem opF_eq (env : Env) (k : K) (xs : List Operand) (h : Hp) : opF env k xs h = opS env k xs h := by unfold opF opS; rw [mapF_eq]; first | done | rfl
theorem le_consF {env : Env} {t : Nat} {u : Value} {l : Env} (e : getF env t = some u) (hl : EnvLe l env) : EnvLe ((t, u) :: l) env := le_cons ((getF_eq _ _).symm.trans e) hl
theorem ai_condF {P : Program} {n : Nat} {env : Env} {h : Hp} {Q : Exit → Env → Hp → Prop} {c : Operand} {x y : IC} {b : Bool} (hc : evF env c = some (.bool b)) (hx : b = true → AI P n x env h Q) (hy : b = false → AI P n y env h Q) : AI P n (.cond c x y) env h Q := ai_cond ((evF_eq _ _).symm.trans hc) hx hy
/-- Operations that the steps below have no word for. -/
def okK : K → Bool
  | .bin _ | .cvt _ | .neg | .ld1 | .ldn _ | .st _ | .iad _ | .iaa _ _ | .mm _ | .ext _ => false
  | .bsl _ e n _ _ => Nat.ble (e * n) 4
  | .bld _ _ ix => Nat.ble ix.length 3
  | _ => true
section
variable {P : Program} {CT : CTy} {env : Env} {h h' : Hp} {d : Option Nat} {k : K} {xs : List Operand} {vs : List Value} {v : Value} {R : Value → Hp → Prop} {ik : IK} {a b : Int} {kk : IntKind}
/-- Regions, as structures of their own. -/
structure SR (P : Program) (CT : CTy) (ins : List In) (env : Env) (h : Hp) (Q : Env → Hp → Prop) : Prop where
  out : wpS P CT ins env h Q
structure SD (P : Program) (CT : CTy) (L : List DE) (env : Env) (h : Hp) (Q : Env → Hp → Prop) : Prop where
  out : wpD P CT L env h Q
theorem ai_regW {n : Nat} {ins : List In} {Q : Exit → Env → Hp → Prop} (a : SR P (ACall P) ins env h fun e g => Q .normal e g) : AI P n (.reg ins) env h Q := ai_reg a.out
theorem ai_drwW {n : Nat} {L : List DE} {Q : Exit → Env → Hp → Prop} (hm : P.follows .mixedOrders = true) (a : SD P (ACall P) L env h fun e g => Q .normal e g) : AI P n (.drw L) env h Q := ai_drw hm a.out
theorem sE {Q : Env → Hp → Prop} (n : Q env h) : SR P CT [] env h Q := ⟨n⟩
theorem dE {Q : Env → Hp → Prop} (n : Q env h) : SD P CT [] env h Q := ⟨n⟩
theorem w_op0 (e : opF env k xs h = some (v, h')) (n : R v h') : wpIn P CT ⟨d, none, .op k xs⟩ env h R := by
  rw [opF_eq] at e
  unfold opS at e
  unfold wpIn
  simp only [wanted]
  split at e
  · next vs hv => simp only [hv, e]; exact n
  · cases e
theorem w_op (e : opF env k xs h = some (v, h')) (n : R v h') : WI P CT ⟨d, none, .op k xs⟩ env h R := ⟨w_op0 e n⟩
theorem w_v {v2 : Value} (e : opF env k xs h = some (v, h')) (hv : v = v2) (n : R v2 h') : WI P CT ⟨d, none, .op k xs⟩ env h R := by subst hv; exact w_op e n
theorem w_gT {t : Nat} {b c : Bool} (g : getF env t = some (.bool c)) (hc : (c == b) = true) (n : WI P CT ⟨d, none, ik⟩ env h R) : WI P CT ⟨d, some (t, b), ik⟩ env h R := by
  rw [getF_eq] at g
  refine ⟨?_⟩
  have n := n.out
  unfold wpIn at n ⊢
  simp only [wanted, g, hc] at n ⊢
  exact n
theorem w_gF {t : Nat} {b c : Bool} (g : getF env t = some (.bool c)) (hc : (c == b) = false) (n : R undef h) : WI P CT ⟨d, some (t, b), ik⟩ env h R := by
  rw [getF_eq] at g
  refine ⟨?_⟩
  unfold wpIn
  simp only [wanted, g, hc]
  exact n
theorem w_gU {t : Nat} {b : Bool} (g : getF env t = some undef) (n : R undef h) : WI P CT ⟨d, some (t, b), ik⟩ env h R := by
  rw [getF_eq] at g
  refine ⟨?_⟩
  unfold wpIn
  simp only [wanted, g, undef]
  exact n
theorem w_call {f : FuncId} (e : mapF env xs = some vs) (c : CT f vs h R) : WI P CT ⟨d, none, .call f xs⟩ env h R := by
  rw [mapF_eq] at e
  refine ⟨?_⟩
  unfold wpIn
  simp only [wanted, e]
  exact c
theorem w_callv {x : Operand} {f : FuncId} {a b : Array Value} (e : evF env x = some (.func (.func f) a b)) (e2 : mapF env xs = some vs) (c : CT f (a.toList ++ vs ++ b.toList) h R) : WI P CT ⟨d, none, .callv x xs⟩ env h R := by
  rw [evF_eq] at e
  rw [mapF_eq] at e2
  refine ⟨?_⟩
  unfold wpIn
  simp only [wanted, e, e2]
  exact c
/-- One instruction of a region; of a region whose order is open, with nothing to be made again, or with something. -/
theorem w_imp {i : In} {R' : Value → Hp → Prop} (n : wpIn P CT i env h R) (hm : ∀ (f : FuncId) (vs : List Value) (g : Hp) (S S' : Value → Hp → Prop), (∀ v h', S v h' → S' v h') → CT f vs g S → CT f vs g S') (hr : ∀ v h', R v h' → R' v h') : wpIn P CT i env h R' := by
  unfold wpIn at n ⊢
  split at n
  · exact n
  · next hw => exact hr _ _ n
  · split at n
    · split at n
      · exact n.elim
      · split at n
        · exact n.elim
        · exact hr _ _ n
    · split at n
      · exact n.elim
      · exact hr _ _ n
    · split at n
      · exact n.elim
      · exact hm _ _ _ _ _ hr n
    · split at n
      · exact hm _ _ _ _ _ hr n
      · exact n.elim
theorem sS {s : Nat} {g : Option (Nat × Bool)} {r : List In} {Q : Env → Hp → Prop} (n : WI P (ACall P) ⟨some s, g, ik⟩ env h fun v h' => SR P (ACall P) r ((s, v) :: env) h' Q) : SR P (ACall P) (⟨some s, g, ik⟩ :: r) env h Q :=
  ⟨w_imp (CT := ACall P) n.out (fun _ _ _ _ _ hr c => c.mono hr) fun _ _ n => n.out⟩
theorem sSn {g : Option (Nat × Bool)} {r : List In} {Q : Env → Hp → Prop} (n : WI P (ACall P) ⟨none, g, ik⟩ env h fun _ h' => SR P (ACall P) r env h' Q) : SR P (ACall P) (⟨none, g, ik⟩ :: r) env h Q :=
  ⟨w_imp (CT := ACall P) n.out (fun _ _ _ _ _ hr c => c.mono hr) fun _ _ n => n.out⟩
theorem dS {ix s : Nat} {g : Option (Nat × Bool)} {eff : Bool} {L : List DE} {Q : Env → Hp → Prop} (n : WI P (ACall P) ⟨some s, g, ik⟩ env h fun v h' => SD P (ACall P) L ((s, v) :: env) h' Q) : SD P (ACall P) (⟨ix, ⟨some s, g, ik⟩, eff, []⟩ :: L) env h Q :=
  ⟨w_imp (CT := ACall P) n.out (fun _ _ _ _ _ hr c => c.mono hr) fun _ _ n => ⟨trivial, n.out⟩⟩
theorem dSn {ix : Nat} {g : Option (Nat × Bool)} {eff : Bool} {L : List DE} {Q : Env → Hp → Prop} (n : WI P (ACall P) ⟨none, g, ik⟩ env h fun _ h' => SD P (ACall P) L env h' Q) : SD P (ACall P) (⟨ix, ⟨none, g, ik⟩, eff, []⟩ :: L) env h Q :=
  ⟨w_imp (CT := ACall P) n.out (fun _ _ _ _ _ hr c => c.mono hr) fun _ _ n => ⟨trivial, n.out⟩⟩
theorem dSR {ix s : Nat} {g : Option (Nat × Bool)} {eff : Bool} {re : List In} {L : List DE} {Q : Env → Hp → Prop} (n : WI P (ACall P) ⟨some s, g, ik⟩ env h fun v h' => allAgain re env h' ∧ SD P (ACall P) L ((s, v) :: env) h' Q) : SD P (ACall P) (⟨ix, ⟨some s, g, ik⟩, eff, re⟩ :: L) env h Q :=
  ⟨w_imp (CT := ACall P) n.out (fun _ _ _ _ _ hr c => c.mono hr) fun _ _ n => ⟨n.1, n.2.out⟩⟩
theorem dSRn {ix : Nat} {g : Option (Nat × Bool)} {eff : Bool} {re : List In} {L : List DE} {Q : Env → Hp → Prop} (n : WI P (ACall P) ⟨none, g, ik⟩ env h fun _ h' => allAgain re env h' ∧ SD P (ACall P) L env h' Q) : SD P (ACall P) (⟨ix, ⟨none, g, ik⟩, eff, re⟩ :: L) env h Q :=
  ⟨w_imp (CT := ACall P) n.out (fun _ _ _ _ _ hr c => c.mono hr) fun _ _ n => ⟨n.1, n.2.out⟩⟩
theorem agS {re : List In} {L : List DE} {env' : Env} {Q : Env → Hp → Prop} (a : allAgain re env h) (n : SD P CT L env' h Q) : allAgain re env h ∧ SD P CT L env' h Q := ⟨a, n⟩
theorem ag_nil : allAgain [] env h := trivial
theorem ag_cons {i : In} {r : List In} (a : again i env h) (n : allAgain r env h) : allAgain (i :: r) env h := ⟨a, n⟩
theorem ag_l {d' t i o : Nat} (g1 : getF env t = some (.pointer (some ⟨i, o, none⟩))) (g2 : getF env d' = some v) (hr : h.rd i o 1 = some [v]) : again ⟨some d', none, .op .ld1 [.tmp t]⟩ env h := ag_ld ((getF_eq _ _).symm.trans g1) ((getF_eq _ _).symm.trans g2) hr
theorem ag_ln {d' t i o c : Nat} {us : List Value} (g1 : getF env t = some (.pointer (some ⟨i, o, none⟩))) (g2 : getF env d' = some (.agg ⟨us⟩)) (hr : h.rd i o c = some us) : again ⟨some d', none, .op (.ldn c) [.tmp t]⟩ env h := by
  rw [getF_eq] at g1 g2
  unfold again
  simp only [wanted, mapE, evA, g1, g2, stepK, hr, Option.map_some]
theorem ag_gT {t : Nat} {b c : Bool} (g : getF env t = some (.bool c)) (hc : (c == b) = true) (n : again ⟨d, none, ik⟩ env h) : again ⟨d, some (t, b), ik⟩ env h := by
  rw [getF_eq] at g
  unfold again at n ⊢
  simp only [wanted, g, hc] at n ⊢
  exact n
theorem ag_gF {t : Nat} {b c : Bool} (g : getF env t = some (.bool c)) (hc : (c == b) = false) : again ⟨d, some (t, b), ik⟩ env h := by
  rw [getF_eq] at g
  unfold again
  simp only [wanted, g, hc]
/-- Under a guard that is not told: the slot holds what it would, or nothing. -/
theorem w_gB {t : Nat} {b c : Bool} (g : getF env t = some (.bool c)) (e : (c == b) = true → opF env k xs h = some (v, h)) (n : R (if (c == b) = true then v else undef) h) : WI P CT ⟨d, some (t, b), .op k xs⟩ env h R := by
  cases hc : c == b
  · rw [hc] at n
    exact w_gF g hc n
  · rw [hc] at n
    exact w_gT g hc (w_op (e hc) n)
theorem w_gBc {f : FuncId} {t : Nat} {b c : Bool} (g : getF env t = some (.bool c)) (hm : ∀ (S S' : Value → Hp → Prop), (∀ v h', S v h' → S' v h') → CT f vs h S → CT f vs h S') (e : (c == b) = true → mapF env xs = some vs) (cl : CT f vs h fun u g => u = v ∧ h = g) (n : R (if (c == b) = true then v else undef) h) : WI P CT ⟨d, some (t, b), .call f xs⟩ env h R := by
  cases hc : c == b
  · rw [hc] at n
    exact w_gF g hc n
  · rw [hc] at n
    exact w_gT g hc (w_call (e hc) (hm _ _ (fun u g' hu => by rw [hu.1, ← hu.2]; exact n) cl))
def okN : K → Bool
  | .new _ _ | .box _ | .bsl _ _ _ _ _ | .bld _ _ _ => false
  | k => okK k
theorem w_opk (_ : okK k = true) (e : opF env k xs h = some (v, h')) (n : R v h') : WI P CT ⟨d, none, .op k xs⟩ env h R := w_op e n
theorem w_mv {x : Operand} (e : evF env x = some v) (n : R v h) : WI P CT ⟨d, none, .op .mv [x]⟩ env h R :=
  w_op (v := v) (h' := h) (by unfold opF; simp only [mapF, e, stepK]) n
theorem w_add (e : mapF env xs = some [.int .i64 a, .int .i64 b]) (hx : -9223372036854775808 ≤ a + b ∧ a + b ≤ 9223372036854775807) (n : R (.int .i64 (a + b)) h) : WI P CT ⟨d, none, .op (.bin .add) xs⟩ env h R :=
  w_v (v := .int .i64 (IntKind.i64.wrap (a + b))) (by unfold opF; rw [e]; rfl) (by rw [wrap_i64' hx.1 hx.2]) n
theorem w_sub (e : mapF env xs = some [.int .i64 a, .int .i64 b]) (hx : -9223372036854775808 ≤ a - b ∧ a - b ≤ 9223372036854775807) (n : R (.int .i64 (a - b)) h) : WI P CT ⟨d, none, .op (.bin .sub) xs⟩ env h R :=
  w_v (v := .int .i64 (IntKind.i64.wrap (a - b))) (by unfold opF; rw [e]; rfl) (by rw [wrap_i64' hx.1 hx.2]) n
theorem w_mul (e : mapF env xs = some [.int .i64 a, .int .i64 b]) (hx : -9223372036854775808 ≤ a * b ∧ a * b ≤ 9223372036854775807) (n : R (.int .i64 (a * b)) h) : WI P CT ⟨d, none, .op (.bin .mul) xs⟩ env h R :=
  w_v (v := .int .i64 (IntKind.i64.wrap (a * b))) (by unfold opF; rw [e]; rfl) (by rw [wrap_i64' hx.1 hx.2]) n
theorem w_addu (e : mapF env xs = some [.int .u64 a, .int .u64 b]) (hx : 0 ≤ a + b ∧ a + b ≤ 18446744073709551615) (n : R (.int .u64 (a + b)) h) : WI P CT ⟨d, none, .op (.bin .add) xs⟩ env h R :=
  w_v (v := .int .u64 (IntKind.u64.wrap (a + b))) (by unfold opF; rw [e]; rfl) (by rw [wrap_u64' hx.1 hx.2]) n
theorem w_mulu (e : mapF env xs = some [.int .u64 a, .int .u64 b]) (hx : 0 ≤ a * b ∧ a * b ≤ 18446744073709551615) (n : R (.int .u64 (a * b)) h) : WI P CT ⟨d, none, .op (.bin .mul) xs⟩ env h R :=
  w_v (v := .int .u64 (IntKind.u64.wrap (a * b))) (by unfold opF; rw [e]; rfl) (by rw [wrap_u64' hx.1 hx.2]) n
theorem w_neg (e : mapF env xs = some [.int .i64 a]) (hx : -9223372036854775808 ≤ -a ∧ -a ≤ 9223372036854775807) (n : R (.int .i64 (-a)) h) : WI P CT ⟨d, none, .op .neg xs⟩ env h R :=
  w_v (v := .int .i64 (IntKind.i64.wrap (0 - a))) (by unfold opF; rw [e]; rfl) (by rw [show 0 - a = -a by omega, wrap_i64' hx.1 hx.2]) n
theorem w_ci (e : mapF env xs = some [.int kk a]) (hx : -9223372036854775808 ≤ a ∧ a ≤ 9223372036854775807) (n : R (.int .i64 a) h) : WI P CT ⟨d, none, .op (.cvt .i64) xs⟩ env h R :=
  w_v (v := .int .i64 (IntKind.i64.wrap a)) (by unfold opF; rw [e]; rfl) (by rw [wrap_i64' hx.1 hx.2]) n
theorem w_cu (e : mapF env xs = some [.int kk a]) (hx : 0 ≤ a ∧ a ≤ 18446744073709551615) (n : R (.int .u64 a) h) : WI P CT ⟨d, none, .op (.cvt .u64) xs⟩ env h R :=
  w_v (v := .int .u64 (IntKind.u64.wrap a)) (by unfold opF; rw [e]; rfl) (by rw [wrap_u64' hx.1 hx.2]) n
theorem w_adduw (e : mapF env xs = some [.int .u64 a, .int .u64 b]) (n : R (.int .u64 (IntKind.u64.wrap (a + b))) h) : WI P CT ⟨d, none, .op (.bin .add) xs⟩ env h R :=
  w_op (v := .int .u64 (IntKind.u64.wrap (a + b))) (h' := h) (by unfold opF; rw [e]; rfl) n
/-- A number of which nothing is told. -/
theorem w_and (e : mapF env xs = some [.int kk a, .int kk b]) (n : ∀ x : Int, R (.int kk x) h) : WI P CT ⟨d, none, .op (.bin .and) xs⟩ env h R := by
  refine w_op (v := .int kk (kk.wrap (BitVec.ofInt kk.bits a &&& BitVec.ofInt kk.bits b).toNat)) (h' := h) ?_ (n _)
  unfold opF
  rw [e]
  show (if kk = kk then some (Value.int kk (kk.wrap (BitVec.ofInt kk.bits a &&& BitVec.ofInt kk.bits b).toNat)) else none).map (·, h) = _
  rw [if_pos rfl]
  rfl
theorem w_max (e : mapF env xs = some [.int kk a, .int kk b]) (n : R (.int kk (max a b)) h) : WI P CT ⟨d, none, .op (.mm true) xs⟩ env h R := by
  refine w_op (v := .int kk (max a b)) (h' := h) ?_ n
  unfold opF
  rw [e]
  show (if kk = kk then some (Value.int kk (if b > a then b else a)) else none).map (·, h) = _
  rw [if_pos rfl, show (if b > a then b else a) = max a b by rw [Int.max_def]; split <;> split <;> omega]
  rfl
theorem w_min (e : mapF env xs = some [.int kk a, .int kk b]) (n : R (.int kk (min a b)) h) : WI P CT ⟨d, none, .op (.mm false) xs⟩ env h R := by
  refine w_op (v := .int kk (min a b)) (h' := h) ?_ n
  unfold opF
  rw [e]
  show (if kk = kk then some (Value.int kk (if b < a then b else a)) else none).map (·, h) = _
  rw [if_pos rfl, show (if b < a then b else a) = min a b by rw [Int.min_def]; split <;> split <;> omega]
  rfl
theorem w_cuw (e : mapF env xs = some [.int kk a]) (n : R (.int .u64 (IntKind.u64.wrap a)) h) : WI P CT ⟨d, none, .op (.cvt .u64) xs⟩ env h R :=
  w_op (v := .int .u64 (IntKind.u64.wrap a)) (h' := h) (by unfold opF; rw [e]; rfl) n
theorem fill_all : ∀ (vs pre z : List Value) (pl : Nat → Option (Nat × Nat)), (∀ i, i < vs.length → pl (pre.length + i) = some (pre.length + i, 1)) → z.length = vs.length → vs.all one = true → Instr.fill pl ⟨pre ++ z⟩ ((List.range' pre.length vs.length).zip vs) = some ⟨pre ++ vs⟩
  | [], pre, z, pl, _, hz, _ => by
    have : z = [] := List.eq_nil_of_length_eq_zero hz
    subst this
    simp [Instr.fill]
  | v :: vs, pre, z, pl, hp, hz, ho => by
    cases z with
    | nil => simp at hz
    | cons a z =>
      simp only [List.all_cons, Bool.and_eq_true] at ho
      have hc : v.cells = #[v] := by cases v <;> first | rfl | exact absurd ho.1 Bool.false_ne_true
      simp only [List.length_cons, List.range'_succ, List.zip_cons_cons, Instr.fill]
      have h0 := hp 0 (by simp)
      rw [Nat.add_zero] at h0
      rw [h0]
      simp only [hc]
      have ih := fill_all vs (pre ++ [v]) z pl (fun i hi => by have := hp (i + 1) (by simp; omega); simpa [Nat.add_assoc, Nat.add_comm 1 i] using this) (by simpa using hz) ho.2
      simp only [List.length_append, List.length_cons, List.length_nil, Nat.zero_add, List.append_assoc, List.cons_append, List.nil_append] at ih
      rw [if_neg (by simp)]
      rw [← ih]
      congr 1
      simp
/-- A literal of a struct with all its parts. -/
theorem w_bldF {z : Array Value} {pl : List (Nat × Nat)} {ix : List Nat} (e : mapF env xs = some vs) (hx : ix = List.range' 0 vs.length) (hz : z.size = vs.length) (hp : pl = (List.range vs.length).map fun i => (i, 1)) (ho : vs.all one = true) (n : R (.agg ⟨vs⟩) h) : WI P CT ⟨d, none, .op (.bld z pl ix) xs⟩ env h R := by
  refine w_op (v := .agg ⟨vs⟩) (h' := h) ?_ n
  unfold opF
  rw [e]
  have hl : ix.length = vs.length := by rw [hx]; simp
  simp only [stepK, hl, if_true]
  have := fill_all vs [] z.toList (fun i => pl[i]?) (fun i hi => by rw [hp]; simp [hi]) (by simpa using hz) ho
  simp only [List.nil_append, List.length_nil] at this
  rw [hx, show (⟨z.toList⟩ : Array Value) = z from rfl] at *
  rw [this]
  rfl
theorem new_get (h : Hp) (o : Ob) : (h.new o).get h.nx = some o := by simp [Hp.new]
theorem fold_at (off : Nat) : ∀ (cs pre z : List Value) (j : Nat), pre.length = off + j → cs.length ≤ z.length → (cs.zipIdx j).foldl (fun (a : Array Value) (p : Value × Nat) => a.setIfInBounds (off + p.2) p.1) ⟨pre ++ z⟩ = ⟨pre ++ cs ++ z.drop cs.length⟩
  | [], pre, z, j, _, _ => by simp
  | c :: cs, pre, z, j, hj, hl => by
    cases z with
    | nil => simp at hl
    | cons a z =>
      simp only [List.zipIdx_cons, List.foldl_cons]
      have hs : (⟨pre ++ a :: z⟩ : Array Value).setIfInBounds (off + j) c = ⟨(pre ++ [c]) ++ z⟩ := by
        apply Array.ext'
        rw [Array.toList_setIfInBounds, ← hj]
        simp
      rw [hs, fold_at off cs (pre ++ [c]) z (j + 1) (by simp; omega) (by simpa using hl)]
      simp
theorem fill_rows (esz : Nat) : ∀ (vs : List Value) (k : Nat) (pre z : List Value), pre.length = k * esz → z.length = vs.length * esz → (vs.all fun v => decide (v.cells.size = esz)) = true →
    Instr.fill (fun i => some (i * esz, esz)) ⟨pre ++ z⟩ ((List.range' k vs.length).zip vs) = some ⟨pre ++ vs.flatMap fun v => v.cells.toList⟩
  | [], k, pre, z, _, hz, _ => by
    have : z = [] := List.eq_nil_of_length_eq_zero (by simpa using hz)
    subst this
    simp [Instr.fill]
  | v :: vs, k, pre, z, hp, hz, ho => by
    simp only [List.all_cons, Bool.and_eq_true, decide_eq_true_eq] at ho
    have hvl : v.cells.toList.length = esz := by simpa using ho.1
    have hz2 : z.length = esz + vs.length * esz := by rw [hz]; simp [Nat.add_mul]; omega
    simp only [List.length_cons, List.range'_succ, List.zip_cons_cons, Instr.fill]
    rw [if_neg (by simp [ho.1]; omega)]
    have hf := fold_at (k * esz) v.cells.toList pre z 0 (by omega) (by omega)
    have hf2 : v.cells.zipIdx.foldl (fun cs x => cs.setIfInBounds (k * esz + x.2) x.1) (⟨pre ++ z⟩ : Array Value) = ⟨(pre ++ v.cells.toList) ++ z.drop esz⟩ := by
      rw [hvl] at hf
      rw [← Array.foldl_toList, Array.toList_zipIdx]
      exact hf
    rw [hf2, fill_rows esz vs (k + 1) (pre ++ v.cells.toList) (z.drop esz) (by simp [hp, ho.1, Nat.add_mul]) (by simp; omega) ho.2]
    simp
/-- A literal of a slice with all its parts: a new row. -/
theorem w_bslF {t : TypeId} {esz len : Nat} {z : Array Value} {ix : List Nat} (e : mapF env xs = some vs) (hl : vs.length = len) (hx : ix = List.range' 0 len) (hz : z.size = len * esz) (ho : (vs.all fun v => decide (v.cells.size = esz)) = true)
    (n : ∀ g, Ext h g → g.get h.nx = some ⟨vs.flatMap fun v => v.cells.toList, true, esz⟩ → h.nx < g.nx → R (.slice (some ⟨h.nx, 0, none⟩) len len) g) : WI P CT ⟨d, none, .op (.bsl t esz len z ix) xs⟩ env h R := by
  refine w_op (v := .slice (some ⟨h.nx, 0, none⟩) len len) (h' := h.new ⟨vs.flatMap fun v => v.cells.toList, true, esz⟩) ?_ (n _ (Ext.new _ _) (new_get _ _) (by simp [Hp.new]))
  unfold opF
  rw [e]
  have hl2 : ix.length = vs.length := by rw [hx, hl]; simp
  simp only [stepK, hl2, if_true]
  have := fill_rows esz vs 0 [] z.toList (by simp) (by simpa [hl] using hz) ho
  simp only [List.nil_append] at this
  rw [hx, ← hl]
  rw [show (⟨z.toList⟩ : Array Value) = z from rfl] at this
  rw [this]
  rfl
theorem w_ext {i : Nat} {us : List Value} (e : mapF env xs = some [.tuple ⟨us⟩]) (hv : us[i]? = some v) (n : R v h) : WI P CT ⟨d, none, .op (.ext i) xs⟩ env h R := by
  refine w_op (v := v) (h' := h) ?_ n
  unfold opF
  rw [e]
  simp only [stepK]
  have : (⟨us⟩ : Array Value)[i]? = some v := by simpa using hv
  rw [this]
  rfl
theorem w_ixa {len esz m : Nat} {us : List Value} {x : Int} (e : mapF env xs = some [.agg ⟨us⟩, .int kk x]) (hx : 0 ≤ x ∧ x < len) (hv : us[x.toNat * esz]? = some v) (n : R v h) : WI P CT ⟨d, none, .op (.ixa len esz m false) xs⟩ env h R := by
  refine w_op (v := v) (h' := h) ?_ n
  unfold opF
  rw [e]
  simp only [stepK, if_pos hx]
  have : (⟨us⟩ : Array Value)[x.toNat * esz]? = some v := by simpa using hv
  rw [this]
  rfl
theorem w_pickT {x y : Value} (e : mapF env xs = some [.bool true, x, y]) (n : R x h) : WI P CT ⟨d, none, .op .pick xs⟩ env h R :=
  w_op (v := x) (h' := h) (by unfold opF; rw [e]; rfl) n
theorem w_pickF {x y : Value} (e : mapF env xs = some [.bool false, x, y]) (n : R y h) : WI P CT ⟨d, none, .op .pick xs⟩ env h R :=
  w_op (v := y) (h' := h) (by unfold opF; rw [e]; rfl) n
theorem w_rem (e : mapF env xs = some [.int kk a, .int kk b]) (ha : 0 ≤ a) (hb : 0 < b) (n : R (.int kk (a % b)) h) : WI P CT ⟨d, none, .op (.bin .rem) xs⟩ env h R := w_op ((opF_eq _ _ _ _).trans (o_rem ((mapF_eq _ _).symm.trans e) ha hb)) n
theorem w_quo (e : mapF env xs = some [.int .i64 a, .int .i64 b]) (ha : 0 ≤ a ∧ a ≤ 9223372036854775807) (hb : 0 < b) (n : R (.int .i64 (a / b)) h) : WI P CT ⟨d, none, .op (.bin .quo) xs⟩ env h R := by
  refine w_op (v := .int .i64 (a / b)) (h' := h) ?_ n
  unfold opF
  rw [e]
  have : IntKind.i64 = IntKind.i64 ∧ b ≠ 0 := ⟨rfl, by omega⟩
  have h1 : 0 ≤ a / b := Int.ediv_nonneg ha.1 (by omega)
  have h2 : a / b ≤ a := Int.ediv_le_self _ ha.1
  show (if IntKind.i64 = IntKind.i64 ∧ b ≠ 0 then some (Value.int .i64 (IntKind.i64.wrap (a.tdiv b))) else none).map (·, h) = _
  rw [if_pos this, Int.tdiv_eq_ediv_of_nonneg ha.1, wrap_i64' (by omega) (by omega)]
  rfl
theorem w_quou (e : mapF env xs = some [.int .u64 a, .int .u64 b]) (ha : 0 ≤ a ∧ a ≤ 18446744073709551615) (hb : 0 < b) (n : R (.int .u64 (a / b)) h) : WI P CT ⟨d, none, .op (.bin .quo) xs⟩ env h R := by
  refine w_op (v := .int .u64 (a / b)) (h' := h) ?_ n
  unfold opF
  rw [e]
  have : IntKind.u64 = IntKind.u64 ∧ b ≠ 0 := ⟨rfl, by omega⟩
  have h1 : 0 ≤ a / b := Int.ediv_nonneg ha.1 (by omega)
  have h2 : a / b ≤ a := Int.ediv_le_self _ ha.1
  show (if IntKind.u64 = IntKind.u64 ∧ b ≠ 0 then some (Value.int .u64 (IntKind.u64.wrap (a.tdiv b))) else none).map (·, h) = _
  rw [if_pos this, Int.tdiv_eq_ediv_of_nonneg ha.1, wrap_u64' (by omega) (by omega)]
  rfl
/-- A comparison whose answer is told. -/
theorem w_cmp {op : BinOp} {c c2 : Bool} (e : opF env (.bin op) xs h = some (.bool c, h')) (hc : c = c2) (n : R (.bool c2) h') : WI P CT ⟨d, none, .op (.bin op) xs⟩ env h R := by subst hc; exact w_op e n
theorem w_iad {i o len cap : Nat} {sp : Option Nat} {x : Int} {esz : Nat} (e : mapF env xs = some [.slice (some ⟨i, o, sp⟩) len cap, .int kk x]) (hx : 0 ≤ x ∧ x < len) (n : R (.pointer (some ⟨i, o + x.toNat * esz, none⟩)) h) :
    WI P CT ⟨d, none, .op (.iad esz) xs⟩ env h R := w_op ((opF_eq _ _ _ _).trans (o_iad ((mapF_eq _ _).symm.trans e) hx)) n
theorem w_iaa {i o len : Nat} {x : Int} {esz : Nat} (e : mapF env xs = some [.pointer (some ⟨i, o, none⟩), .int kk x]) (hx : 0 ≤ x ∧ x < len) (n : R (.pointer (some ⟨i, o + x.toNat * esz, none⟩)) h) :
    WI P CT ⟨d, none, .op (.iaa len esz) xs⟩ env h R := w_op ((opF_eq _ _ _ _).trans (o_iaa ((mapF_eq _ _).symm.trans e) hx)) n
theorem w_ld {i o : Nat} (e : mapF env xs = some [.pointer (some ⟨i, o, none⟩)]) (hr : h.rd i o 1 = some [v]) (n : R v h) : WI P CT ⟨d, none, .op .ld1 xs⟩ env h R := w_op ((opF_eq _ _ _ _).trans (o_ld ((mapF_eq _ _).symm.trans e) hr)) n
theorem w_ldn {i o c : Nat} {us : List Value} (e : mapF env xs = some [.pointer (some ⟨i, o, none⟩)]) (hr : h.rd i o c = some us) (n : R (.agg ⟨us⟩) h) : WI P CT ⟨d, none, .op (.ldn c) xs⟩ env h R := w_op ((opF_eq _ _ _ _).trans (o_ldn ((mapF_eq _ _).symm.trans e) hr)) n
theorem w_st {i o c : Nat} {u : Value} (e : mapF env xs = some [.pointer (some ⟨i, o, none⟩), u]) (hs : u.cells.size = c) (hw : h.wr i o u.cells.toList = some h') (n : R undef h') : WI P CT ⟨d, none, .op (.st c) xs⟩ env h R := w_op ((opF_eq _ _ _ _).trans (o_st ((mapF_eq _ _).symm.trans e) hs hw)) n
theorem roundE_r {γ : Type} {E : γ → Env} {H : γ → Hp → Prop} {mu : γ → Nat} {k : Nat} {Q : Exit → Env → Hp → Prop} : roundE E H mu k Q .ret env h = Q .ret env h := rfl
theorem rd_g {h : Hp} {i o : Nat} {v : Value} {us : List Value} {b : Bool} {e : Nat} (hg : h.get i = some ⟨us, b, e⟩) (hx : us[o]? = some v) : h.rd i o 1 = some [v] := by
  have := rd_f hg hx
  rwa [Nat.zero_add] at this
theorem rd_new {h : Hp} {o : Nat} {v : Value} {us : List Value} {b : Bool} {e : Nat} (hx : us[o]? = some v) : (h.new ⟨us, b, e⟩).rd h.nx o 1 = some [v] := rd_g (new_get h _) hx
theorem rd_newn {h : Hp} {n : Nat} {us : List Value} {b : Bool} {e : Nat} (hn : us.length = n) : (h.new ⟨us, b, e⟩).rd h.nx 0 n = some us := by
  unfold Hp.rd
  simp only [new_get]
  rw [if_pos (by omega)]
  simp [← hn]
/-- A new object: of what was there nothing turns. -/
theorem w_box {t : TypeId} {x : Operand} (e : evF env x = some v) (n : ∀ g, Ext h g → g.get h.nx = some ⟨v.cells.toList, true, 0⟩ → h.nx < g.nx → R (.pointer (some ⟨h.nx, 0, none⟩)) g) : WI P CT ⟨d, none, .op (.box t) [x]⟩ env h R := by
  refine w_op (v := .pointer (some ⟨h.nx, 0, none⟩)) (h' := h.new ⟨v.cells.toList, true, 0⟩) ?_ (n _ (Ext.new _ _) (new_get _ _) (by simp [Hp.new]))
  unfold opF
  simp only [mapF, e, stepK, putPtr]
theorem w_new {t : TypeId} {z : Value} (n : ∀ g, Ext h g → g.get h.nx = some ⟨z.cells.toList, true, 0⟩ → h.nx < g.nx → R (.pointer (some ⟨h.nx, 0, none⟩)) g) : WI P CT ⟨d, none, .op (.new t z) []⟩ env h R := by
  refine w_op (v := .pointer (some ⟨h.nx, 0, none⟩)) (h' := h.new ⟨z.cells.toList, true, 0⟩) ?_ (n _ (Ext.new _ _) (new_get _ _) (by simp [Hp.new]))
  unfold opF
  simp only [mapF, stepK, putPtr]
/-- A store into an object of one's own. -/
theorem w_stn {i c : Nat} {u : Value} {us : List Value} {m : Nat} (e : mapF env xs = some [.pointer (some ⟨i, 0, none⟩), u]) (hs : u.cells.size = c) (hg : h.get i = some ⟨us, true, m⟩) (hl : us.length = c) (ho : u.cells.toList.all one = true) (n : R undef (h.put i ⟨u.cells.toList, true, m⟩)) : WI P CT ⟨d, none, .op (.st c) xs⟩ env h R := by
  refine w_st (h' := h.put i ⟨u.cells.toList, true, m⟩) e hs ?_ n
  unfold Hp.wr
  simp only [hg]
  rw [if_pos ⟨trivial, by simp; omega, ho⟩]
  have hz : ∀ (vs cs : List Value), cs.length = vs.length → splice cs 0 vs = vs := by
    intro vs
    induction vs with
    | nil => intro cs hc; cases cs with
      | nil => rfl
      | cons a b => simp at hc
    | cons v vs ih =>
      intro cs hc
      cases cs with
      | nil => simp at hc
      | cons a b =>
        have hset : ∀ (vs : List Value) (cs : List Value) (k : Nat) (x : Value), splice (x :: cs) (k + 1) vs = x :: splice cs k vs := by
          intro vs
          induction vs with
          | nil => intro cs k x; rfl
          | cons v vs ih => intro cs k x; simp only [splice, List.set_cons_succ]; exact ih _ _ _
        simp only [splice, List.set_cons_zero, Nat.zero_add]
        rw [hset vs b 0 v, ih b (by simpa using hc)]
  congr 2
  exact congrArg (Ob.mk · true m) (hz _ _ (by simp; omega))
theorem o_ldF {i o : Nat} (e : mapF env xs = some [.pointer (some ⟨i, o, none⟩)]) (hr : h.rd i o 1 = some [v]) : opF env .ld1 xs h = some (v, h) := (opF_eq _ _ _ _).trans (o_ld ((mapF_eq _ _).symm.trans e) hr)
theorem Ext.own {h g g' : Hp} (x : Ext h g) (m : ∀ k, k ≠ h.nx → g'.get k = g.get k) (n : g'.nx = g.nx) : Ext h g' := ⟨by rw [n]; exact x.1, fun k hk => (m k (by omega)).trans (x.2 k hk)⟩
theorem w_stN {i c : Nat} {u : Value} {us : List Value} {m : Nat} (e : mapF env xs = some [.pointer (some ⟨i, 0, none⟩), u]) (hs : u.cells.size = c) (hg : h.get i = some ⟨us, true, m⟩) (hl : us.length = c) (ho : u.cells.toList.all one = true)
    (n : ∀ g, (∀ k, k ≠ i → g.get k = h.get k) → g.get i = some ⟨u.cells.toList, true, m⟩ → g.nx = h.nx → R undef g) : WI P CT ⟨d, none, .op (.st c) xs⟩ env h R :=
  w_stn e hs hg hl ho (n _ (fun _ hk => hput_ne _ _ hk) (hput_same _ _ _) rfl)
/-- A store into one cell of an object of one's own. -/
theorem w_st1 {i o : Nat} {u : Value} {us : List Value} {m : Nat} (e : mapF env xs = some [.pointer (some ⟨i, o, none⟩), u]) (hs : u.cells = #[u]) (hg : h.get i = some ⟨us, true, m⟩) (hl : o < us.length) (ho : one u = true)
    (n : ∀ g, (∀ k, k ≠ i → g.get k = h.get k) → g.get i = some ⟨us.set o u, true, m⟩ → g.nx = h.nx → R undef g) : WI P CT ⟨d, none, .op (.st 1) xs⟩ env h R := by
  have hw := wr_f hg hl ho
  rw [Nat.zero_add] at hw
  exact w_st e (by rw [hs]; rfl) (by rw [hs]; exact hw) (n _ (fun _ hk => hput_ne _ _ hk) (hput_same _ _ _) rfl)
theorem Ext.put_new {h g : Hp} (x : Ext h g) (o : Ob) : Ext h (g.put h.nx o) := ⟨x.1, fun k hk => (hput_ne _ _ (by omega)).trans (x.2 k hk)⟩
theorem is_okk (_ : okK k = true) (n : WI P CT ⟨d, none, .op k xs⟩ env h R) : WI P CT ⟨d, none, .op k xs⟩ env h R := n
theorem is_okn (_ : okN k = true) (n : WI P CT ⟨d, none, .op k xs⟩ env h R) : WI P CT ⟨d, none, .op k xs⟩ env h R := n
theorem is_ld (n : WI P CT ⟨d, none, .op .ld1 xs⟩ env h R) : WI P CT ⟨d, none, .op .ld1 xs⟩ env h R := n
theorem is_ldn {c : Nat} (n : WI P CT ⟨d, none, .op (.ldn c) xs⟩ env h R) : WI P CT ⟨d, none, .op (.ldn c) xs⟩ env h R := n
theorem rd_f0 {h : Hp} {i : Nat} {u : Value} {us : List Value} {b : Bool} {e : Nat} (hg : h.get i = some ⟨u :: us, b, e⟩) : h.rd i 0 1 = some [u] := rd_f (x := 0) hg rfl
theorem rd_row {h : Hp} {i : Nat} {us : List Value} {b : Bool} {e : Nat} (hg : h.get i = some ⟨us, b, e⟩) {x : Nat} {v : Value} (hx : us[x]? = some v) : h.rd i (0 + x * 1) 1 = some [v] := by
  rw [Nat.mul_one]; exact rd_f hg hx
theorem rd_all {h : Hp} {i n : Nat} {us : List Value} {b : Bool} {e : Nat} (hg : h.get i = some ⟨us, b, e⟩) (hn : us.length = n) : h.rd i 0 n = some us := by
  unfold Hp.rd
  simp only [hg]
  rw [if_pos (by omega)]
  simp [← hn]
/-- A result that stands in a cell of its own. -/
theorem end_cell1 {a i n m : Nat} {t : TypeId} {dd : TypeDesc} {us : List Value} {b : Bool} (e : getF env a = some (.pointer (some ⟨i, 0, none⟩))) (hg : h.get i = some ⟨us, b, m⟩) (hu : P.underlying t = some dd) (hd : isAggD dd = true) (hi : (P.info? t).map (·.size) = some n) (hl : us.length = n) (r : R (.agg ⟨us⟩) h) : endQ P [.cell a t] R .ret env h := by
  refine ⟨[.agg ⟨us⟩], ?_, r⟩
  rw [getF_eq] at e
  cases hti : P.info? t with
  | none => rw [hti] at hi; cases hi
  | some ti =>
  rw [hti] at hi
  have hn : ti.size = n := Option.some.inj hi
  have : h.rd i 0 ti.size = some us := rd_all hg (by rw [hl, hn])
  simp [resAll, resOne, e, hu, hd, hti, this]
end
end Go.Proofs.YtapbmmlgmcmpnaaDoorW.Am
/- Rows of elements of some cells each: rows that grow, rows that are read; append as one step. -/
namespace Go.Proofs.YtapbmmlgmcmpnaaDoorW.Am
open Go Go.RowKit
theorem one_cells {v : Value} (h : one v = true) : v.cells = #[v] := by cases v <;> first | rfl | (simp [one] at h)
/-- Elements of k plain cells each. -/
def Els (k : Nat) (us : List (List Value)) : Prop := ∀ u ∈ us, u.length = k ∧ u.all one = true
theorem Els.nil (k : Nat) : Els k [] := fun _ h => by cases h
theorem Els.app {k : Nat} {us vs : List (List Value)} (a : Els k us) (b : Els k vs) : Els k (us ++ vs) := fun u hu => (List.mem_append.1 hu).elim (a u) (b u)
theorem Els.one {k : Nat} {u : List Value} (a : u.length = k) (b : u.all one = true) : Els k [u] := fun x hx => by rw [List.mem_singleton.1 hx]; exact ⟨a, b⟩
theorem Els.len {k : Nat} : ∀ {us : List (List Value)}, Els k us → us.flatten.length = us.length * k
  | [], _ => by simp
  | u :: us, h => by
    rw [List.flatten_cons, List.length_append, Els.len (us := us) (fun x hx => h x (List.mem_cons_of_mem _ hx)), (h u (List.mem_cons_self ..)).1, List.length_cons, Nat.add_mul, Nat.one_mul, Nat.add_comm]
theorem Els.all {k : Nat} : ∀ {us : List (List Value)}, Els k us → us.flatten.all Am.one = true
  | [], _ => rfl
  | u :: us, h => by
    rw [List.flatten_cons, List.all_append, (h u (List.mem_cons_self ..)).2, Els.all (us := us) (fun x hx => h x (List.mem_cons_of_mem _ hx))]; rfl
theorem Els.drop {k : Nat} : ∀ {us : List (List Value)}, Els k us → ∀ i, us.flatten.drop (i * k) = (us.drop i).flatten
  | us, _, 0 => by simp
  | [], _, i + 1 => by simp
  | u :: us, h, i + 1 => by
    have hu := (h u (List.mem_cons_self ..)).1
    rw [List.flatten_cons, List.drop_succ_cons, ← Els.drop (us := us) (fun x hx => h x (List.mem_cons_of_mem _ hx)) i]
    rw [show (i + 1) * k = u.length + i * k by rw [hu, Nat.add_mul, Nat.one_mul, Nat.add_comm], List.drop_append, List.drop_of_length_le (by omega), Nat.add_sub_cancel_left, List.nil_append]
theorem rd_row2 {h : Hp} {i k : Nat} {us : List (List Value)} {tl : List Value} {b : Bool} {e : Nat} (hg : h.get i = some ⟨us.flatten ++ tl, b, e⟩) (he : Els k us) {x : Nat} {u : List Value} (hx : us[x]? = some u) : h.rd i (0 + x * k) k = some u := by
  obtain ⟨hl, rfl⟩ := List.getElem?_eq_some_iff.1 hx
  have hn := he.len
  have hm := (he _ (List.getElem_mem hl)).1
  have hmul : x * k + k ≤ us.length * k := by rw [← Nat.succ_mul]; exact Nat.mul_le_mul_right _ hl
  unfold Hp.rd
  simp only [hg, Nat.zero_add]
  rw [if_pos (by rw [List.length_append]; omega)]
  rw [List.drop_append_of_le_length (by omega), he.drop, List.drop_eq_getElem_cons hl, List.flatten_cons, List.append_assoc]
  rw [List.take_left' hm]
/-- One cell of one element is written. -/
theorem Els.set {k : Nat} : ∀ {us : List (List Value)}, Els k us → ∀ {w : Nat} {u : List Value}, us[w]? = some u → ∀ {f : Nat}, f < k → ∀ v, us.flatten.set (w * k + f) v = (us.set w (u.set f v)).flatten
  | [], _, _, _, hw, _, _, _ => by cases hw
  | x :: us, h, 0, u, hw, f, hf, v => by
    cases hw
    have hx := (h x (List.mem_cons_self ..)).1
    rw [List.flatten_cons, List.set_cons_zero, List.flatten_cons, Nat.zero_mul, Nat.zero_add, List.set_append_left _ _ (by omega)]
  | x :: us, h, w + 1, u, hw, f, hf, v => by
    have hx := (h x (List.mem_cons_self ..)).1
    rw [List.flatten_cons, List.set_cons_succ, List.flatten_cons, List.set_append_right _ _ (by rw [Nat.add_mul, Nat.one_mul]; omega)]
    rw [show (w + 1) * k + f - x.length = w * k + f by rw [Nat.add_mul, Nat.one_mul]; omega]
    rw [Els.set (us := us) (fun x hx => h x (List.mem_cons_of_mem _ hx)) (by simpa using hw) hf v]
theorem Els.put {k : Nat} {us : List (List Value)} (h : Els k us) {w : Nat} {u : List Value} (hu : u.length = k) (ho : u.all Am.one = true) : Els k (us.set w u) := fun x hx => by
  rcases List.mem_or_eq_of_mem_set hx with hx | rfl
  · exact h x hx
  · exact ⟨hu, ho⟩
/-- A row that has grown (elements of k cells): its object's number is from N on. -/
def GR (k N : Nat) (h : Hp) (s : Value) (us : List (List Value)) : Prop :=
  (s = .slice none 0 0 ∧ us = []) ∨ ∃ i, N ≤ i ∧ i < h.nx ∧ s = .slice (some ⟨i, 0, some 0⟩) us.length us.length ∧ h.get i = some ⟨us.flatten, true, k⟩ ∧ us ≠ [] ∧ Els k us
/-- A row that is read. -/
def RR (k : Nat) (h : Hp) (s : Value) (us : List (List Value)) : Prop :=
  (s = .slice none 0 0 ∧ us = []) ∨ ∃ i o sp c, s = .slice (some ⟨i, o, sp⟩) us.length c ∧ i < h.nx ∧ (us ≠ [] → sp.getD 0 = 0) ∧ ∀ (x : Nat) u, us[x]? = some u → h.rd i (o + x * k) k = some u
/-- All stays but a row's own object. -/
def Xo (s : Value) (h g : Hp) : Prop := ∀ j, j < h.nx → (∀ a n c, s = .slice (some a) n c → j ≠ a.block) → g.get j = h.get j
theorem GR.blk {k N : Nat} {h : Hp} {s : Value} {us : List (List Value)} (r : GR k N h s us) {a : Addr} {n c : Nat} (e : s = .slice (some a) n c) : N ≤ a.block ∧ a.block < h.nx := by
  rcases r with ⟨rfl, _⟩ | ⟨i, h1, h2, rfl, _⟩
  · cases e
  · cases e; exact ⟨h1, h2⟩
theorem Xo.get {k N : Nat} {g0 h g : Hp} {s : Value} {us : List (List Value)} (x : Xo s h g) (r : GR k N g0 s us) {j : Nat} (hj : j < h.nx) (h0 : j < N ∨ g0.nx ≤ j) : g.get j = h.get j :=
  x j hj fun a n c e => by have := r.blk e; omega
/-- What is below N stays. -/
def Xt (N : Nat) (h g : Hp) : Prop := h.nx ≤ g.nx ∧ ∀ j, j < N → g.get j = h.get j
theorem Xt.refl (N : Nat) (h : Hp) : Xt N h h := ⟨Nat.le_refl _, fun _ _ => rfl⟩
theorem Xt.trans {N : Nat} {a b c : Hp} (x : Xt N a b) (y : Xt N b c) : Xt N a c := ⟨Nat.le_trans x.1 y.1, fun j hj => (y.2 j hj).trans (x.2 j hj)⟩
theorem Ext.xt {N : Nat} {a b : Hp} (x : Ext a b) (hN : N ≤ a.nx) : Xt N a b := ⟨x.1, fun j hj => x.2 j (Nat.lt_of_lt_of_le hj hN)⟩
theorem Xt.mono {N M : Nat} {a b : Hp} (x : Xt N a b) (h : M ≤ N) : Xt M a b := ⟨x.1, fun j hj => x.2 j (Nat.lt_of_lt_of_le hj h)⟩
theorem Xt.ext {a b : Hp} (x : Xt a.nx a b) : Ext a b := ⟨x.1, x.2⟩
theorem Ext.xtr {N : Nat} {a b c : Hp} (x : Ext a b) (y : Xt N b c) (hN : a.nx ≤ N) : Ext a c := ⟨Nat.le_trans x.1 y.1, fun j hj => (y.2 j (Nat.lt_of_lt_of_le hj hN)).trans (x.2 j hj)⟩
/-- A store into an object from N on. -/
theorem Xt.own {N i : Nat} {a b c : Hp} (x : Xt N a b) (hi : N ≤ i) (m : ∀ k, k ≠ i → c.get k = b.get k) (n : c.nx = b.nx) : Xt N a c := ⟨by rw [n]; exact x.1, fun j hj => (m j (by omega)).trans (x.2 j hj)⟩
theorem GR.nil (k N : Nat) (h : Hp) : GR k N h (.slice none 0 0) [] := .inl ⟨rfl, rfl⟩
theorem GR.rr {k N : Nat} {h : Hp} {s : Value} {us : List (List Value)} (a : GR k N h s us) : RR k h s us := by
  rcases a with a | ⟨i, _, h2, rfl, hg, _, he⟩
  · exact .inl a
  · exact .inr ⟨i, 0, some 0, _, rfl, h2, fun _ => rfl, fun x u hx => rd_row2 (tl := []) (by rw [List.append_nil]; exact hg) he hx⟩
theorem GR.len {k N : Nat} {h : Hp} {s : Value} {us : List (List Value)} (a : GR k N h s us) : ∃ x c, s = .slice x us.length c := by
  rcases a with ⟨rfl, rfl⟩ | ⟨i, _, _, rfl, _⟩ <;> exact ⟨_, _, rfl⟩
theorem RR.len {k : Nat} {h : Hp} {s : Value} {us : List (List Value)} (a : RR k h s us) : ∃ x c, s = .slice x us.length c := by
  rcases a with ⟨rfl, rfl⟩ | ⟨i, o, sp, c, rfl, _⟩ <;> exact ⟨_, _, rfl⟩
theorem RR.one {k : Nat} {h : Hp} {s : Value} {us : List (List Value)} (a : RR k h s us) : Am.one s = true := by
  rcases a with ⟨rfl, rfl⟩ | ⟨i, o, sp, c, rfl, _⟩ <;> rfl
theorem GR.keep {k N : Nat} {h g : Hp} {s : Value} {us : List (List Value)} (a : GR k N h s us) (hn : h.nx ≤ g.nx) (hk : ∀ i, N ≤ i → i < h.nx → g.get i = h.get i) : GR k N g s us := by
  rcases a with a | ⟨i, h1, h2, h3, h4, h5⟩
  · exact .inl a
  · exact .inr ⟨i, h1, by omega, h3, (hk i h1 h2).trans h4, h5⟩
theorem GR.ext {k N : Nat} {h g : Hp} {s : Value} {us : List (List Value)} (a : GR k N h s us) (x : Ext h g) : GR k N g s us := a.keep x.1 fun i _ hi => x.2 i hi
theorem GR.mono {k N M : Nat} {h : Hp} {s : Value} {us : List (List Value)} (a : GR k N h s us) (hm : M ≤ N) : GR k M h s us := by
  rcases a with a | ⟨i, h1, h2⟩
  · exact .inl a
  · exact .inr ⟨i, Nat.le_trans hm h1, h2⟩
theorem RR.ext {k : Nat} {h g : Hp} {s : Value} {us : List (List Value)} (a : RR k h s us) (x : Ext h g) : RR k g s us := by
  rcases a with a | ⟨i, o, sp, c, h1, h2, h3⟩
  · exact .inl a
  · exact .inr ⟨i, o, sp, c, h1, Nat.lt_of_lt_of_le h2 x.1, h3.1, fun j u hu => by rw [x.rd h2]; exact h3.2 j u hu⟩
theorem RR.keep {k : Nat} {h g : Hp} {s : Value} {us : List (List Value)} (a : RR k h s us) (hn : h.nx ≤ g.nx) (hk : ∀ a n c, s = .slice (some a) n c → g.get a.block = h.get a.block) : RR k g s us := by
  rcases a with a | ⟨i, o, sp, c, rfl, h2, h3⟩
  · exact .inl a
  · exact .inr ⟨i, o, sp, c, rfl, Nat.lt_of_lt_of_le h2 hn, h3.1, fun j u hu => by
      have := h3.2 j u hu
      unfold Hp.rd at this ⊢
      rw [hk _ _ _ rfl]
      exact this⟩
/-- An element of a row that is read. -/
theorem RR.at {k : Nat} {h : Hp} {x : Option Addr} {n c : Nat} {us : List (List Value)} (a : RR k h (.slice x n c) us) {j : Nat} {u : List Value} (hj : us[j]? = some u) :
    ∃ i o sp, x = some ⟨i, o, sp⟩ ∧ i < h.nx ∧ h.rd i (o + ((j : Nat) : Int).toNat * k) k = some u := by
  rcases a with ⟨_, rfl⟩ | ⟨i, o, sp, c, e, hi, _, hr⟩
  · cases hj
  · cases e
    exact ⟨i, o, sp, rfl, hi, by rw [Int.toNat_natCast]; exact hr j u hj⟩
/-- One cell of an element. -/
theorem rd_part {h : Hp} {i o k : Nat} {u : List Value} (e : h.rd i o k = some u) {f : Nat} {v : Value} (hf : u[f]? = some v) : h.rd i (o + f) 1 = some [v] := by
  have hl := rd_len e
  obtain ⟨h1, rfl⟩ := List.getElem?_eq_some_iff.1 hf
  obtain ⟨h2, h3⟩ := rd_at e (x := f) (by omega)
  exact h3
theorem rd_join {h : Hp} {i o k m : Nat} {a b : List Value} (e1 : h.rd i o k = some a) (e2 : h.rd i (o + k) m = some b) : h.rd i o (k + m) = some (a ++ b) := by
  obtain ⟨ob, hob, hn, rfl⟩ := Hp.rd_some e1
  obtain ⟨ob2, hob2, hn2, rfl⟩ := Hp.rd_some e2
  rw [hob] at hob2; cases hob2
  unfold Hp.rd
  simp only [hob]
  rw [if_pos (by omega), List.take_add, List.drop_drop]
theorem rd_zero {h : Hp} {i o : Nat} {ob : Ob} (hg : h.get i = some ob) (ho : o ≤ ob.cells.length) : h.rd i o 0 = some [] := by
  unfold Hp.rd
  simp only [hg]
  rw [if_pos (by omega)]
  rfl
theorem rd_els {h : Hp} {i k : Nat} : ∀ {us : List (List Value)} {o : Nat}, us ≠ [] → (∀ (x : Nat) u, us[x]? = some u → h.rd i (o + x * k) k = some u) → h.rd i o (us.length * k) = some us.flatten
  | [], _, h0, _ => absurd rfl h0
  | [u], o, _, hr => by
    have := hr 0 u rfl
    simpa using this
  | u :: v :: us, o, _, hr => by
    have h1 := hr 0 u rfl
    rw [Nat.zero_mul, Nat.add_zero] at h1
    have h2 := rd_els (us := v :: us) (o := o + k) (by simp) fun x w hw => by
      have := hr (x + 1) w (by simpa using hw)
      rw [Nat.add_mul, Nat.one_mul] at this
      rw [show o + k + x * k = o + (x * k + k) by omega]
      exact this
    have := rd_join h1 h2
    rw [show (u :: v :: us).length * k = k + (v :: us).length * k by rw [List.length_cons, Nat.add_mul, Nat.one_mul, Nat.add_comm]]
    exact this
/-- The whole of a row that is read. -/
theorem RR.all {k : Nat} {h : Hp} {x : Option Addr} {n c : Nat} {us : List (List Value)} (a : RR k h (.slice x n c) us) (h0 : us ≠ []) : ∃ i o sp, x = some ⟨i, o, sp⟩ ∧ n = us.length ∧ sp.getD 0 = 0 ∧ h.rd i o (us.length * k) = some us.flatten := by
  rcases a with ⟨_, rfl⟩ | ⟨i, o, sp, c, e, hi, hs, hr⟩
  · exact absurd rfl h0
  · cases e
    exact ⟨i, o, sp, rfl, rfl, hs h0, rd_els h0 hr⟩
/-- A row of whole numbers. -/
def rI (l : List Int) : List (List Value) := l.map fun a => [nI a]
theorem rI_els (l : List Int) : Els 1 (rI l) := fun u hu => by
  obtain ⟨a, _, rfl⟩ := List.mem_map.1 hu
  exact ⟨rfl, rfl⟩
theorem rI_len (l : List Int) : (rI l).length = l.length := by simp [rI]
theorem rI_get {l : List Int} {i : Nat} {a : Int} (h : l[i]? = some a) : (rI l)[i]? = some [nI a] := by simp [rI, h]
theorem rI_app (l m : List Int) : rI (l ++ m) = rI l ++ rI m := by simp [rI]
/-- The row is none of those that were. -/
def New (N : Nat) (s : Value) : Prop := ∀ a n c, s = .slice (some a) n c → N ≤ a.block
theorem GR.new {k N : Nat} {h : Hp} {s : Value} {us : List (List Value)} (r : GR k N h s us) : New N s := fun _ _ _ e => (r.blk e).1
theorem get_eq_of {l m : List Int} (hl : l.length = m.length) (h : ∀ (i : Nat) a b, l[i]? = some a → m[i]? = some b → a = b) : l = m := by
  refine List.ext_getElem hl fun i h1 h2 => ?_
  exact h i _ _ (List.getElem?_eq_getElem h1) (List.getElem?_eq_getElem h2)
theorem Rd.rr {h : Hp} {s : Value} {l : List Int} (r : Rd h s (l.map nI)) (hi : ∀ i o sp n c, s = .slice (some ⟨i, o, sp⟩) n c → i < h.nx ∧ sp.getD 0 = 0) : RR 1 h s (rI l) := by
  rcases r with ⟨rfl, e⟩ | ⟨i, o, sp, c, rfl, hr⟩
  · rw [List.map_eq_nil_iff] at e
    exact .inl ⟨rfl, by rw [e]; rfl⟩
  · refine .inr ⟨i, o, sp, c, by rw [rI_len, List.length_map], (hi _ _ _ _ _ rfl).1, fun _ => (hi _ _ _ _ _ rfl).2, fun x u hu => ?_⟩
    simp only [rI, List.getElem?_map, Option.map_eq_some_iff] at hu
    obtain ⟨a, ha, rfl⟩ := hu
    exact hr x _ (by rw [List.getElem?_map, ha]; rfl)
section
variable {P : Program} {CT : CTy} {env : Env} {h : Hp} {d : Option Nat} {xs : List Operand} {R : Value → Hp → Prop}
theorem getne {h : Hp} {i j : Nat} {o : Ob} (e : ¬ j = i) : (if j = i then some o else h.get j) = h.get j := if_neg e
/-- append(l, v): v in a row of its own (one element, as the program makes it). -/
theorem w_app1 {N k bytes : Nat} {t : TypeId} {s : Value} {us : List (List Value)} {u : List Value} {q m : Nat} {b : Bool} (e : mapF env xs = some [s, .slice (some ⟨q, 0, none⟩) 1 1]) (r : GR k N h s us) (hq : h.get q = some ⟨u, b, m⟩) (hu : u.length = k) (ho : u.all one = true) (hk : 0 < k)
    (hb : (us.length + 1) * bytes ≤ 140737488355328) (hl : us.length + 1 ≤ 140737488355328) (hN : N ≤ h.nx)
    (n : ∀ s' g, GR k N g s' (us ++ [u]) → Xt N h g → Xo s h g → R s' g) : WI P CT ⟨d, none, .op (.app t k bytes) xs⟩ env h R := by
  have hrd : rdS h (some ⟨q, 0, none⟩) (1 * k) = some u := by
    simp only [rdS, Nat.one_mul]
    rw [if_neg (by omega)]
    simp only [Option.getD_none, if_true]
    exact rd_all hq hu
  have key : ∃ s' g, stepK (.app t k bytes) [s, .slice (some ⟨q, 0, none⟩) 1 1] h = some (s', g) ∧ GR k N g s' (us ++ [u]) ∧ Xt N h g ∧ Xo s h g := by
    rcases r with ⟨rfl, rfl⟩ | ⟨i, h1, h2, rfl, h4, h5, h6⟩
    · refine ⟨.slice (some ⟨h.nx, 0, some 0⟩) 1 1, h.new ⟨u, true, k⟩, ?_, .inr ⟨h.nx, hN, by simp [Hp.new], rfl, by simp [Hp.new], by simp, Els.one hu ho⟩, (Ext.new _ _).xt hN, fun j hj _ => (Ext.new h _).2 j hj⟩
      simp only [stepK, hrd, appA]
      simp only [List.length_nil, Nat.zero_add] at hb hl
      rw [if_pos ⟨by omega, ho, hk, by simpa using hb, by omega⟩]
      simp
    · have hn0 : us.length ≠ 0 := fun hz => h5 (List.eq_nil_of_length_eq_zero hz)
      have hold : h.rd i 0 (us.length * k) = some us.flatten := rd_all h4 h6.len
      refine ⟨.slice (some ⟨h.nx, 0, some 0⟩) (us.length + 1) (us.length + 1), (h.del i).new ⟨us.flatten ++ u, true, k⟩, ?_, .inr ⟨h.nx, hN, by simp [Hp.new, Hp.del], by simp, by simp [Hp.new, Hp.del], by simp, h6.app (Els.one hu ho)⟩, ⟨by simp [Hp.new, Hp.del], fun j hj => ?_⟩, fun j hj hne => ?_⟩
      · simp only [stepK, hrd, appA]
        rw [if_pos ⟨by omega, ho, hk, hb, hl⟩]
        simp only [Nat.one_ne_zero, if_false, show ¬ (us.length + 1 ≤ us.length) by omega, if_neg hn0, hold, h4]
        rw [if_pos ⟨trivial, trivial, by rw [h6.len]; omega, Nat.le_refl _, h6.all⟩]
      · have e1 : ¬ j = h.nx := by omega
        have e2 : ¬ j = i := by omega
        simp [Hp.new, Hp.del, e1, e2]
      · have e1 : ¬ j = h.nx := by omega
        have e2 : ¬ j = i := hne _ _ _ rfl
        simp [Hp.new, Hp.del, e1, e2]
  obtain ⟨s', g, hs, h1, h2, h3⟩ := key
  exact w_op (v := s') (h' := g) (by unfold opF; rw [e]; exact hs) (n s' g h1 h2 h3)
/-- append(literal, one): a literal that is not empty has no room. -/
theorem w_app0 {k bytes n0 i : Nat} {t : TypeId} {us : List (List Value)} {u : List Value} {q m m' : Nat} {b b' : Bool} (e : mapF env xs = some [.slice (some ⟨i, 0, none⟩) n0 n0, .slice (some ⟨q, 0, none⟩) 1 1]) (hn : n0 = us.length) (hi : h.get i = some ⟨us.flatten, b', m'⟩) (he : Els k us) (h0 : us ≠ []) (hq : h.get q = some ⟨u, b, m⟩) (hu : u.length = k) (ho : u.all one = true) (hk : 0 < k)
    (hb : (us.length + 1) * bytes ≤ 140737488355328) (hl : us.length + 1 ≤ 140737488355328)
    (n : ∀ s' g, GR k h.nx g s' (us ++ [u]) → Ext h g → R s' g) : WI P CT ⟨d, none, .op (.app t k bytes) xs⟩ env h R := by
  subst hn
  have hrd : rdS h (some ⟨q, 0, none⟩) (1 * k) = some u := by
    simp only [rdS, Nat.one_mul]
    rw [if_neg (by omega)]
    simp only [Option.getD_none, if_true]
    exact rd_all hq hu
  have hn0 : us.length ≠ 0 := fun hz => h0 (List.eq_nil_of_length_eq_zero hz)
  have hold : h.rd i 0 (us.length * k) = some us.flatten := rd_all hi he.len
  refine w_op (v := .slice (some ⟨h.nx, 0, some 0⟩) (us.length + 1) (us.length + 1)) (h' := h.new ⟨us.flatten ++ u, true, k⟩) ?_ (n _ _ (.inr ⟨h.nx, Nat.le_refl _, by simp [Hp.new], by simp, by simp [Hp.new], by simp, he.app (Els.one hu ho)⟩) (Ext.new _ _))
  unfold opF
  rw [e]
  simp only [stepK, hrd, appA]
  rw [if_pos ⟨by omega, ho, hk, hb, hl⟩]
  simp only [Nat.one_ne_zero, if_false, show ¬ (us.length + 1 ≤ us.length) by omega, if_neg hn0, hold]
/-- append([]T{}, l...): a copy of a row that is not empty. -/
theorem w_appc {k bytes c o : Nat} {t : TypeId} {us : List (List Value)} {q i : Nat} {sp : Option Nat} (e : mapF env xs = some [.slice (some ⟨q, 0, none⟩) 0 0, .slice (some ⟨i, o, sp⟩) us.length c]) (hr : rdS h (some ⟨i, o, sp⟩) (us.length * k) = some us.flatten) (he : Els k us) (h0 : us ≠ []) (hk : 0 < k)
    (hb : us.length * bytes ≤ 140737488355328) (hl : us.length ≤ 140737488355328)
    (n : ∀ g, g.get h.nx = some ⟨us.flatten, true, k⟩ → Ext h g → h.nx < g.nx → R (.slice (some ⟨h.nx, 0, some 0⟩) us.length us.length) g) : WI P CT ⟨d, none, .op (.app t k bytes) xs⟩ env h R := by
  have hn0 : us.length ≠ 0 := fun hz => h0 (List.eq_nil_of_length_eq_zero hz)
  refine w_op (v := .slice (some ⟨h.nx, 0, some 0⟩) us.length us.length) (h' := h.new ⟨us.flatten, true, k⟩) ?_ (n _ (by simp [Hp.new]) (Ext.new _ _) (by simp [Hp.new]))
  unfold opF
  rw [e]
  simp only [stepK, hr, appA, Nat.zero_add]
  rw [if_pos ⟨he.len, he.all, hk, hb, hl⟩]
  simp only [if_neg hn0, show ¬ us.length ≤ 0 by omega, if_true, if_false, List.nil_append]
/-- append([]T{}, l...), of whatever row. -/
theorem w_clone {k bytes : Nat} {t : TypeId} {us : List (List Value)} {q : Nat} {x : Option Addr} {n0 c : Nat} (e : mapF env xs = some [.slice (some ⟨q, 0, none⟩) 0 0, .slice x n0 c]) (r : RR k h (.slice x n0 c) us) (he : Els k us) (hq : q < h.nx) (hk : 0 < k)
    (hb : us.length * bytes ≤ 140737488355328) (hl : us.length ≤ 140737488355328)
    (n : ∀ v g, RR k g v us → Ext h g → (∀ a m c, v = .slice (some a) m c → q ≤ a.block) → R v g) : WI P CT ⟨d, none, .op (.app t k bytes) xs⟩ env h R := by
  by_cases h0 : us = []
  · subst h0
    obtain ⟨x', c', e'⟩ := r.len
    cases e'
    refine w_op (v := .slice (some ⟨q, 0, none⟩) 0 0) (h' := h) ?_ (n _ _ (.inr ⟨q, 0, none, 0, rfl, hq, fun hc => absurd rfl hc, fun x u hu => by cases hu⟩) (Ext.refl _) fun a m c e => by cases e; exact Nat.le_refl _)
    unfold opF
    rw [e]
    have hrd : rdS h x (([] : List (List Value)).length * k) = some [] := by
      simp only [List.length_nil, Nat.zero_mul]
      unfold rdS
      cases x <;> simp
    simp only [stepK, hrd, appA]
    simp [hk]
  · obtain ⟨i, o, sp, rfl, rfl, hsp, hr⟩ := r.all h0
    have hlen : us.length ≠ 0 := fun hz => h0 (List.eq_nil_of_length_eq_zero hz)
    have hmul : us.length * k ≠ 0 := Nat.mul_ne_zero hlen (by omega)
    refine w_appc e (by simp only [rdS, if_neg hmul, hsp, if_true]; exact hr) he h0 hk hb hl fun g hg x hn => ?_
    exact n _ g (GR.rr (N := h.nx) (.inr ⟨h.nx, Nat.le_refl _, hn, rfl, hg, h0, he⟩)) x fun a m c e => by cases e; exact Nat.le_of_lt hq
/-- l[:m]. -/
theorem w_pre {i n c m esz : Nat} (e : mapF env xs = some [.slice (some ⟨i, 0, some 0⟩) n c, .int .i64 (m : Int)]) (hm : m ≤ c) (h0 : 0 < c) (r : R (.slice (some ⟨i, 0, some 0⟩) m c) h) : WI P CT ⟨d, none, .op (.slc esz false true false) xs⟩ env h R := by
  refine w_op (v := .slice (some ⟨i, 0, some 0⟩) m c) (h' := h) ?_ r
  unfold opF
  rw [e]
  have hm2 : (0 : Int) ≤ (m : Int) ∧ (m : Int) ≤ c := by omega
  simp only [stepK, get3, takeB, sliceA, bounds, bnd, if_pos hm2]
  have h1 : (0 : Nat) ≤ m := Nat.zero_le _
  have h2 : ¬ c = 0 := by omega
  simp [h2]
/-- A row that may be appended to: a grown one, or an empty literal. -/
def G0 (k N : Nat) (h : Hp) (s : Value) (us : List (List Value)) : Prop := GR k N h s us ∨ ∃ q, s = .slice (some ⟨q, 0, none⟩) 0 0 ∧ us = [] ∧ N ≤ q ∧ q < h.nx
theorem G0.rr {k N : Nat} {h : Hp} {s : Value} {us : List (List Value)} (a : G0 k N h s us) : RR k h s us := by
  rcases a with a | ⟨q, rfl, rfl, _, hq⟩
  · exact a.rr
  · exact .inr ⟨q, 0, none, 0, rfl, hq, fun hc => absurd rfl hc, fun x u hu => by cases hu⟩
theorem G0.new {k N : Nat} {h : Hp} {s : Value} {us : List (List Value)} (a : G0 k N h s us) : New N s := by
  rcases a with a | ⟨q, rfl, rfl, hN, _⟩
  · exact a.new
  · intro a n c e; cases e; exact hN
theorem G0.ext {k N : Nat} {h g : Hp} {s : Value} {us : List (List Value)} (a : G0 k N h s us) (x : Ext h g) : G0 k N g s us := by
  rcases a with a | ⟨q, rfl, rfl, hN, hq⟩
  · exact .inl (a.ext x)
  · exact .inr ⟨q, rfl, rfl, hN, Nat.lt_of_lt_of_le hq x.1⟩
/-- append(l, m...). -/
theorem w_appR {N k bytes : Nat} {t : TypeId} {s : Value} {us vs : List (List Value)} {x : Option Addr} {n0 c : Nat} (e : mapF env xs = some [s, .slice x n0 c]) (r : G0 k N h s us) (r2 : RR k h (.slice x n0 c) vs) (he : Els k vs) (hk : 0 < k)
    (hb : (us.length + vs.length) * bytes ≤ 140737488355328) (hl : us.length + vs.length ≤ 140737488355328) (hN : N ≤ h.nx)
    (n : ∀ s' g, G0 k N g s' (us ++ vs) → Xt N h g → R s' g) : WI P CT ⟨d, none, .op (.app t k bytes) xs⟩ env h R := by
  obtain ⟨_, c', e'⟩ := r2.len
  cases e'
  have key : ∃ s' g, stepK (.app t k bytes) [s, .slice x vs.length c] h = some (s', g) ∧ G0 k N g s' (us ++ vs) ∧ Xt N h g := by
    by_cases h0 : vs = []
    · subst h0
      have hrd : rdS h x 0 = some [] := by
        unfold rdS
        cases x <;> simp
      rw [List.append_nil]
      simp only [stepK, appA]
      simp only [List.length_nil, Nat.add_zero] at hb hl ⊢
      rcases r with r | ⟨q, rfl, rfl, h1, h2⟩
      · rcases r with ⟨rfl, rfl⟩ | ⟨i, h1, h2, rfl, h4⟩
        · refine ⟨.slice none 0 0, h, ?_, .inl (.nil _ _ _), Xt.refl _ _⟩
          simp [hk, hrd]
        · refine ⟨.slice (some ⟨i, 0, some 0⟩) us.length us.length, h, ?_, .inl (.inr ⟨i, h1, h2, rfl, h4⟩), Xt.refl _ _⟩
          simp [hk, hb, hl, hrd]
      · refine ⟨.slice (some ⟨q, 0, none⟩) 0 0, h, ?_, .inr ⟨q, rfl, rfl, h1, h2⟩, Xt.refl _ _⟩
        simp [hk, hrd]
    · obtain ⟨i2, o2, sp2, rfl, _, hsp, hr⟩ := r2.all h0
      have hlen : vs.length ≠ 0 := fun hz => h0 (List.eq_nil_of_length_eq_zero hz)
      have hmul : vs.length * k ≠ 0 := Nat.mul_ne_zero hlen (by omega)
      have hrd : rdS h (some ⟨i2, o2, sp2⟩) (vs.length * k) = some vs.flatten := by simp only [rdS, if_neg hmul, hsp, if_true]; exact hr
      have hc1 : vs.flatten.length = vs.length * k ∧ vs.flatten.all Am.one = true ∧ 0 < k ∧ (us.length + vs.length) * bytes ≤ 140737488355328 ∧ us.length + vs.length ≤ 140737488355328 := ⟨he.len, he.all, hk, hb, hl⟩
      have fresh : ∀ n1, n1 = vs.length → us = [] → GR k N (h.new ⟨vs.flatten, true, k⟩) (.slice (some ⟨h.nx, 0, some 0⟩) n1 n1) (us ++ vs) := by
        rintro _ rfl rfl
        exact .inr ⟨h.nx, hN, by simp [Hp.new], rfl, by simp [Hp.new], h0, he⟩
      rcases r with r | ⟨q, rfl, rfl, h1, h2⟩
      · rcases r with ⟨rfl, rfl⟩ | ⟨i, h1, h2, rfl, h4, h5, h6⟩
        · refine ⟨.slice (some ⟨h.nx, 0, some 0⟩) vs.length vs.length, h.new ⟨vs.flatten, true, k⟩, ?_, .inl (fresh _ rfl rfl), (Ext.new _ _).xt hN⟩
          simp only [List.length_nil, Nat.zero_add] at hc1
          simp only [stepK, hrd, appA, Nat.zero_add, if_pos hc1]
          simp [hlen]
        · have hn0 : us.length ≠ 0 := fun hz => h5 (List.eq_nil_of_length_eq_zero hz)
          have hold : h.rd i 0 (us.length * k) = some us.flatten := rd_all h4 h6.len
          refine ⟨.slice (some ⟨h.nx, 0, some 0⟩) (us.length + vs.length) (us.length + vs.length), (h.del i).new ⟨us.flatten ++ vs.flatten, true, k⟩, ?_, .inl (.inr ⟨h.nx, hN, by simp [Hp.new, Hp.del], by simp, by simp [Hp.new, Hp.del], by simp [h0], h6.app he⟩), ⟨by simp [Hp.new, Hp.del], fun j hj => ?_⟩⟩
          · simp only [stepK, hrd, appA, if_pos hc1, if_neg hlen, show ¬ (us.length + vs.length ≤ us.length) by omega, if_false, if_neg hn0, hold, h4]
            rw [if_pos ⟨trivial, trivial, by rw [h6.len]; omega, Nat.le_refl _, h6.all⟩]
          · have e1 : ¬ j = h.nx := by omega
            have e2 : ¬ j = i := by omega
            simp [Hp.new, Hp.del, e1, e2]
      · refine ⟨.slice (some ⟨h.nx, 0, some 0⟩) vs.length vs.length, h.new ⟨vs.flatten, true, k⟩, ?_, .inl (fresh _ rfl rfl), (Ext.new _ _).xt hN⟩
        simp only [List.length_nil, Nat.zero_add] at hc1
        simp only [stepK, hrd, appA, Nat.zero_add, if_pos hc1, if_neg hlen, show ¬ (vs.length ≤ 0) by omega, if_false, if_true, List.nil_append]
  obtain ⟨s', g, hs, h1, h2⟩ := key
  exact w_op (v := s') (h' := g) (by unfold opF; rw [e]; exact hs) (n s' g h1 h2)
/-- l[m:]. -/
theorem w_suf {N k l : Nat} {s : Value} {us : List (List Value)} (e : mapF env xs = some [s, .int .i64 (l : Int)]) (r : GR k N h s us) (h0 : us ≠ []) (hl : l ≤ us.length) (n : ∀ s', RR k h s' (us.drop l) → R s' h) : WI P CT ⟨d, none, .op (.slc k true false false) xs⟩ env h R := by
  rcases r with ⟨_, e0⟩ | ⟨i, h1, h2, rfl, h4, h5, h6⟩
  · exact absurd e0 h0
  refine w_op (v := .slice (some ⟨i, 0 + l * k, some (if us.length = l then 1 else 0)⟩) (us.length - l) (us.length - l)) (h' := h) ?_ (n _ (.inr ⟨i, 0 + l * k, _, _, by rw [List.length_drop], h2, fun hc => ?_, fun x u hx => ?_⟩))
  · unfold opF
    rw [e]
    have hm2 : (0 : Int) ≤ (l : Int) ∧ (l : Int) ≤ us.length := by omega
    simp only [stepK, get3, takeB, sliceA, bounds, bnd]
    simp [hm2]
  · rw [if_neg (fun he => hc (by rw [← he]; exact List.drop_length))]
    rfl
  · have := rd_row2 (tl := []) (by rw [List.append_nil]; exact h4) h6 (x := l + x) (u := u) (by rw [List.getElem?_drop] at hx; exact hx)
    rw [Nat.add_mul] at this
    rw [show 0 + l * k + x * k = 0 + (l * k + x * k) by omega]
    exact this
/-- l[:m], read. -/
theorem w_prR {N k m : Nat} {s : Value} {us : List (List Value)} (e : mapF env xs = some [s, .int .i64 (m : Int)]) (r : GR k N h s us) (h0 : us ≠ []) (hm : m ≤ us.length) (n : ∀ s', RR k h s' (us.take m) → R s' h) : WI P CT ⟨d, none, .op (.slc k false true false) xs⟩ env h R := by
  rcases r with ⟨_, e0⟩ | ⟨i, h1, h2, rfl, h4, h5, h6⟩
  · exact absurd e0 h0
  have hpos : 0 < us.length := List.length_pos_iff.2 h0
  refine w_pre e hm hpos (n _ (.inr ⟨i, 0, some 0, _, by rw [List.length_take, Nat.min_eq_left hm], h2, fun _ => rfl, fun x u hx => ?_⟩))
  rw [List.getElem?_take] at hx
  split at hx
  · exact rd_row2 (tl := []) (by rw [List.append_nil]; exact h4) h6 hx
  · cases hx
end
end Go.Proofs.YtapbmmlgmcmpnaaDoorW.Am
/- Arguments of plain types of any depth (numbers, strings, structs, arrays, slices), opened. -/
namespace Go.Proofs.YtapbmmlgmcmpnaaDoorW.Am
open Go Go.RowKit
/-- Parts, one behind the other. -/
def Fld (T : TypeId → List Value → Prop) : List TypeId → List Value → Prop
  | [], cs => cs = []
  | t :: r, cs => ∃ a b, cs = a ++ b ∧ T t a ∧ Fld T r b
/-- What a value of a plain type is, over an abstract heap. -/
def Tv (P : Program) (h : Hp) : Nat → TypeId → List Value → Prop
  | 0, _, _ => False
  | n + 1, t, cs => match P.underlying t with
    | some .bool => ∃ b, cs = [.bool b]
    | some (.int k) => ∃ x, cs = [.int k x] ∧ (Lit.int k x).wf = true
    | some .string => ∃ s, cs = [.string s] ∧ s.size ≤ maxLen
    | some (.slice e) => ∃ s us, cs = [s] ∧ RR (P.cellsOf e) h s us ∧ (∀ u ∈ us, Tv P h n e u) ∧ us.length ≤ maxLen ∧ ∃ x c, s = .slice x us.length c ∧ us.length ≤ c
    | some (.struct fs) => Fld (Tv P h n) (fs.toList.map (·.type)) cs
    | some (.array m e) => ∃ us : List (List Value), cs = us.flatten ∧ us.length = m ∧ ∀ u ∈ us, Tv P h n e u
    | _ => False
def offs (P : Program) (pl : TypeId → Bool) : Nat → List Field → Nat → Bool
  | o, [], z => o == z
  | o, f :: r, z => f.offset == o && pl f.type && offs P pl (o + P.cellsOf f.type) r z
/-- Which types are plain. -/
def plT (P : Program) : Nat → TypeId → Bool
  | 0, _ => false
  | n + 1, t => match P.underlying t with
    | some .bool | some (.int _) | some .string => true
    | some (.slice e) => decide (0 < P.cellsOf e) && plT P n e
    | some (.struct fs) => offs P (plT P n) 0 fs.toList (P.cellsOf t)
    | some (.array m e) => decide (P.cellsOf t = m * P.cellsOf e) && plT P n e
    | _ => false
theorem Fld.mono {T T' : TypeId → List Value → Prop} (h : ∀ t cs, T t cs → T' t cs) : ∀ {l : List TypeId} {cs : List Value}, Fld T l cs → Fld T' l cs
  | [], _, e => e
  | _ :: _, _, ⟨a, b, e, x, y⟩ => ⟨a, b, e, h _ _ x, Fld.mono h y⟩
theorem Tv.ext {P : Program} {h g : Hp} (x : Ext h g) : ∀ {n : Nat} {t : TypeId} {cs : List Value}, Tv P h n t cs → Tv P g n t cs
  | 0, _, _, e => e
  | n + 1, t, cs, e => by
    unfold Tv at e ⊢
    split at e
    · exact e
    · exact e
    · exact e
    · obtain ⟨s, us, e1, e2, e3, e4⟩ := e
      exact ⟨s, us, e1, e2.ext x, fun u hu => (e3 u hu).ext x, e4⟩
    · exact e.mono fun _ _ y => y.ext x
    · obtain ⟨us, e1, e2, e3⟩ := e
      exact ⟨us, e1, e2, fun u hu => (e3 u hu).ext x⟩
    · exact e
theorem Fld.one {T : TypeId → List Value → Prop} (h : ∀ t cs, T t cs → cs.all Am.one = true) : ∀ {l : List TypeId} {cs : List Value}, Fld T l cs → cs.all Am.one = true
  | [], _, e => by subst e; rfl
  | _ :: _, _, ⟨a, b, e, x, y⟩ => by subst e; rw [List.all_append, h _ _ x, Fld.one h y]; rfl
theorem flat_one {us : List (List Value)} (h : ∀ u ∈ us, u.all one = true) : us.flatten.all one = true := by
  rw [List.all_eq_true]
  intro v hv
  obtain ⟨u, hu, hv⟩ := List.mem_flatten.1 hv
  exact List.all_eq_true.1 (h u hu) v hv
theorem Tv.one {P : Program} {h : Hp} : ∀ {n : Nat} {t : TypeId} {cs : List Value}, Tv P h n t cs → cs.all Am.one = true
  | 0, _, _, e => e.elim
  | n + 1, t, cs, e => by
    unfold Tv at e
    split at e
    · obtain ⟨b, rfl⟩ := e; rfl
    · obtain ⟨b, rfl, _⟩ := e; rfl
    · obtain ⟨b, rfl, _⟩ := e; rfl
    · obtain ⟨s, us, rfl, e2, _⟩ := e
      simp [e2.one]
    · exact e.one fun _ _ y => y.one
    · obtain ⟨us, rfl, _, e3⟩ := e
      exact flat_one fun u hu => (e3 u hu).one
    · exact e.elim
/-- Windows of the world, each a row of abstract cells. -/
def Wn (W : World) (rs : List Ro) : Prop := ∀ (j : Nat) l cs, rs[j]? = some (some (l, cs)) → l.blk < W.heap.size ∧ ∀ (i : Nat) v, cs[i]? = some v → ∃ v', W.cell? ⟨l.blk, l.off + i, none⟩ = some v' ∧ RV (roM rs) v v'
theorem Wn.nil (W : World) : Wn W [] := fun _ _ _ h => by simp at h
theorem roM_app (rs ms : List Ro) : (roM rs).le (roM (rs ++ ms)) := by
  refine ⟨fun i l e => ?_, fun i b e => by simp [roM] at e⟩
  simp only [roM] at e ⊢
  split at e
  · next l' cs hj =>
    have hi := (List.getElem?_eq_some_iff.1 hj).1
    rw [List.getElem?_append_left hi, hj]
    exact e
  · cases e
theorem roN_app (rs ms : List Ro) : Ext (roN rs) (roN (rs ++ ms)) := by
  refine ⟨by simp [roN], fun i hi => ?_⟩
  have hi : i < rs.length := hi
  simp only [roN]
  rw [List.getElem?_append_left hi]
theorem Wn.snoc {W : World} {rs : List Ro} (w : Wn W rs) {l : Loc} {cs : List Value} (hb : l.blk < W.heap.size) (hc : ∀ (i : Nat) v, cs[i]? = some v → ∃ v', W.cell? ⟨l.blk, l.off + i, none⟩ = some v' ∧ RV (roM rs) v v') : Wn W (rs ++ [some (l, cs)]) := by
  intro j l' cs' hj
  have hm := roM_app rs [some (l, cs)]
  by_cases hjl : j < rs.length
  · rw [List.getElem?_append_left hjl] at hj
    obtain ⟨h1, h2⟩ := w j l' cs' hj
    exact ⟨h1, fun i v hv => by obtain ⟨v', e1, e2⟩ := h2 i v hv; exact ⟨v', e1, e2.mono hm⟩⟩
  · rw [List.getElem?_append_right (by omega)] at hj
    have h0 : j - rs.length = 0 := by
      have := (List.getElem?_eq_some_iff.1 hj).1
      simp at this
      omega
    rw [h0] at hj
    cases hj
    exact ⟨hb, fun i v hv => by obtain ⟨v', e1, e2⟩ := hc i v hv; exact ⟨v', e1, e2.mono hm⟩⟩
theorem wn_sim {W : World} {rs : List Ro} (h : Wn W rs) (t : Tb W.heap.size W) : Sim W.heap.size W (roM rs) (roN rs) W := by
  refine ⟨Bel.refl t, Nat.le_refl _, fun i hi => ?_, fun i l e => ?_, MS.empty _ _ _ _, fun i ob e _ => ?_, fun i j x y l l' e e' hij hrw => ?_⟩
  · have : rs[i]? = none := List.getElem?_eq_none hi
    simp [roM, this]
  · simp only [roM] at e
    split at e
    · next l' cs hj => cases e; exact (h _ _ _ hj).1
    · cases e
  · obtain ⟨l, hj, hw⟩ := roN_of e
    exact ⟨l, (roN_get hj).2, fun k v hv => (h _ _ _ hj).2 k v hv, fun hr => by rw [hw] at hr; cases hr⟩
  · obtain ⟨_, _, hw⟩ := roN_of e
    rw [hw] at hrw; cases hrw
theorem law_op {P : Program} {f : FuncId} {W : World} {rs : List Ro} {args args' : List Value} (h : Wn W rs) (ra : RVs (roM rs) args args') (c : ACall P f args (roN rs) (fun v _ => v = .bool true)) (t : Tb W.heap.size W := by first | exact fun _ _ => trivial | assumption) :
    Calls P f args'.toArray W fun e W' => e = .returned (.bool true) ∧ Below W.heap.size W W' := by
  refine (c.2 W.heap.size W _ W _ ra (wn_sim h t)).mono ?_
  rintro e W' ⟨m', v, v', h', rfl, _, rv, s, rfl⟩
  cases rv
  exact ⟨rfl, s.below.bl⟩
/-- Rows of cells, part by part. -/
def R2 (m : Mu) (us cs : List (List Value)) : Prop := us.length = cs.length ∧ ∀ (i : Nat) u c, us[i]? = some u → cs[i]? = some c → RVs m u c
theorem R2.cons {m : Mu} {u c : List Value} {us cs : List (List Value)} (a : RVs m u c) (b : R2 m us cs) : R2 m (u :: us) (c :: cs) := by
  refine ⟨by simp [b.1], fun i => ?_⟩
  cases i with
  | zero => intro x y e e'; simp at e e'; subst e e'; exact a
  | succ i => intro x y e e'; simp at e e'; exact b.2 i x y e e'
theorem R2.flat {m : Mu} : ∀ {us cs : List (List Value)}, R2 m us cs → RVs m us.flatten cs.flatten
  | [], [], _ => RVs.nil m
  | [], _ :: _, h => by have := h.1; simp at this
  | _ :: _, [], h => by have := h.1; simp at this
  | u :: us, c :: cs, h => by
    rw [List.flatten_cons, List.flatten_cons]
    exact (h.2 0 u c rfl rfl).append (R2.flat ⟨by have := h.1; simpa using this, fun i x y e e' => h.2 (i + 1) x y (by simpa using e) (by simpa using e')⟩)
theorem flat_get {α : Type} {k : Nat} : ∀ {css : List (List α)}, (∀ c ∈ css, c.length = k) → ∀ i, i < css.length * k → css.flatten[i]? = (css[i / k]?).bind (·[i % k]?)
  | [], _, i, h => by simp at h
  | c :: r, hc, i, h => by
    have hl := hc c List.mem_cons_self
    rw [List.length_cons, Nat.add_mul, Nat.one_mul] at h
    rw [List.flatten_cons]
    by_cases hi : i < k
    · rw [List.getElem?_append_left (by omega), Nat.div_eq_of_lt hi, Nat.mod_eq_of_lt hi]
      rfl
    · have hk : 0 < k := by
        rcases Nat.eq_zero_or_pos k with e | e
        · subst e; simp at h
        · exact e
      have hki : k ≤ i := by omega
      have e1 : i / k = (i - k) / k + 1 := Nat.div_eq_sub_div hk hki
      have e2 : i % k = (i - k) % k := Nat.mod_eq_sub_mod hki
      rw [List.getElem?_append_right (by omega), hl, flat_get (fun x hx => hc x (List.mem_cons_of_mem _ hx)) (i - k) (by omega), e1, e2, List.getElem?_cons_succ]
theorem add_add (a : Addr) (x y : Nat) : (a.add x).add y = a.add (x + y) := by
  by_cases hx : x = 0 <;> by_cases hy : y = 0 <;> simp [Addr.add, hx, hy, Nat.add_assoc]
theorem cell_at {W : World} {a : Addr} {v : Value} (h : W.cell? a = some v) : a.spot = none ∧ a.block < W.heap.size := by
  unfold World.cell? at h
  split at h
  · next hb =>
    refine ⟨?_, (Array.getElem?_eq_some_iff.1 hb).1⟩
    split at h
    · cases h
    · next hs => simpa using hs
  · cases h
theorem flat_len {α : Type} {k : Nat} : ∀ {css : List (List α)}, (∀ c ∈ css, c.length = k) → css.flatten.length = css.length * k
  | [], _ => by simp
  | c :: r, h => by
    rw [List.flatten_cons, List.length_append, flat_len fun x hx => h x (List.mem_cons_of_mem _ hx), h c List.mem_cons_self, List.length_cons, Nat.add_mul, Nat.one_mul, Nat.add_comm]
theorem chunks {α : Type} {k : Nat} : ∀ (n : Nat) (cs : List α), cs.length = n * k → ((List.range n).map fun i => (cs.drop (i * k)).take k).flatten = cs
  | 0, cs, h => by
    rw [Nat.zero_mul] at h
    rw [List.eq_nil_of_length_eq_zero h]
    rfl
  | n + 1, cs, h => by
    have e : ((List.range n).map fun i => (cs.drop ((i + 1) * k)).take k) = ((List.range n).map fun i => ((cs.drop k).drop (i * k)).take k) := by
      refine List.map_congr_left fun i _ => ?_
      rw [List.drop_drop, Nat.add_mul, Nat.one_mul, Nat.add_comm]
    have h' := h
    rw [Nat.add_mul, Nat.one_mul] at h'
    have ih := chunks (k := k) n (cs.drop k) (by rw [List.length_drop]; omega)
    rw [List.range_succ_eq_map, List.map_cons, List.map_map, List.flatten_cons]
    show (cs.drop (0 * k)).take k ++ ((List.range n).map fun i => (cs.drop ((i + 1) * k)).take k).flatten = cs
    rw [e, ih, Nat.zero_mul, List.drop_zero, List.take_append_drop]
theorem open_list {W : World} {T : Hp → List Value → Prop} (mono : ∀ h g cs, Ext h g → T h cs → T g cs) {D : List Value → Prop}
    (ih : ∀ cs rs, D cs → Wn W rs → ∃ more cs', Wn W (rs ++ more) ∧ RVs (roM (rs ++ more)) cs' cs ∧ T (roN (rs ++ more)) cs') :
    ∀ css rs, (∀ c ∈ css, D c) → Wn W rs → ∃ more uss, Wn W (rs ++ more) ∧ R2 (roM (rs ++ more)) uss css ∧ ∀ u ∈ uss, T (roN (rs ++ more)) u
  | [], rs, _, w => ⟨[], [], by simpa using w, ⟨rfl, by simp⟩, by simp⟩
  | c :: r, rs, hd, w => by
    obtain ⟨m1, u, w1, r1, t1⟩ := ih c rs (hd c List.mem_cons_self) w
    obtain ⟨m2, us, w2, r2, t2⟩ := open_list mono ih r (rs ++ m1) (fun x hx => hd x (List.mem_cons_of_mem _ hx)) w1
    refine ⟨m1 ++ m2, u :: us, ?_⟩
    rw [← List.append_assoc]
    refine ⟨w2, R2.cons (r1.mono (roM_app _ _)) r2, fun x hx => ?_⟩
    rcases List.mem_cons.1 hx with rfl | hx
    · exact mono _ _ _ (roN_app _ _) t1
    · exact t2 x hx
theorem offs_le {P : Program} {pl : TypeId → Bool} : ∀ {fs : List Field} {o z : Nat}, offs P pl o fs z = true → o ≤ z ∧ ∀ f ∈ fs, o ≤ f.offset
  | [], o, z, h => by
    have : o = z := by simpa [offs] using h
    exact ⟨by omega, by simp⟩
  | f :: r, o, z, h => by
    simp only [offs, Bool.and_eq_true, beq_iff_eq] at h
    obtain ⟨h1, h2⟩ := offs_le h.2
    refine ⟨by omega, fun g hg => ?_⟩
    rcases List.mem_cons.1 hg with rfl | hg
    · omega
    · have := h2 g hg; omega
theorem open_fld {P : Program} {W : World} {pl : TypeId → Bool} {T : Hp → TypeId → List Value → Prop} (mono : ∀ h g t cs, Ext h g → T h t cs → T g t cs) {D : TypeId → List Value → Prop}
    (ih : ∀ t cs rs, pl t = true → D t cs → Wn W rs → ∃ more cs', Wn W (rs ++ more) ∧ RVs (roM (rs ++ more)) cs' cs ∧ T (roN (rs ++ more)) t cs') :
    ∀ (fs : List Field) (o z : Nat) (cs : List Value) rs, offs P pl o fs z = true → cs.length + o = z → (∀ f ∈ fs, D f.type ((cs.drop (f.offset - o)).take (P.cellsOf f.type))) → Wn W rs →
      ∃ more cs', Wn W (rs ++ more) ∧ RVs (roM (rs ++ more)) cs' cs ∧ Fld (T (roN (rs ++ more))) (fs.map (·.type)) cs'
  | [], o, z, cs, rs, h, hl, _, w => by
    have : o = z := by simpa [offs] using h
    obtain rfl : cs = [] := List.eq_nil_of_length_eq_zero (by omega)
    exact ⟨[], [], by simpa using w, RVs.nil _, rfl⟩
  | f :: r, o, z, cs, rs, h, hl, hd, w => by
    have h' := h
    simp only [offs, Bool.and_eq_true, beq_iff_eq] at h'
    obtain ⟨⟨ho, hp⟩, hr⟩ := h'
    obtain ⟨hz, hge⟩ := offs_le hr
    have hd0 := hd f List.mem_cons_self
    rw [ho, Nat.sub_self, List.drop_zero] at hd0
    obtain ⟨m1, u, w1, r1, t1⟩ := ih f.type _ rs hp hd0 w
    obtain ⟨m2, us, w2, r2, t2⟩ := open_fld mono ih r (o + P.cellsOf f.type) z (cs.drop (P.cellsOf f.type)) (rs ++ m1) hr (by rw [List.length_drop]; omega) (fun g hg => by
      have h1 := hd g (List.mem_cons_of_mem _ hg)
      have h2 := hge g hg
      rw [List.drop_drop, show P.cellsOf f.type + (g.offset - (o + P.cellsOf f.type)) = g.offset - o by omega]
      exact h1) w1
    refine ⟨m1 ++ m2, u ++ us, ?_⟩
    rw [← List.append_assoc]
    refine ⟨w2, ?_, u, us, rfl, mono _ _ _ _ (roN_app _ _) t1, t2⟩
    have := (r1.mono (roM_app (rs ++ m1) m2)).append r2
    rwa [List.take_append_drop] at this
section
variable {P : Program} {CT : FuncId → List Value → Hp → (Value → Hp → Prop) → Prop} {d : Option Nat} {xs : List Operand} {env : Env} {h : Hp} {R : Value → Hp → Prop}
/-- l[:m] of a row that is read. -/
theorem w_slP {k m n c : Nat} {x : Option Addr} {us : List (List Value)} (e : mapF env xs = some [.slice x n c, .int .i64 (m : Int)]) (r : RR k h (.slice x n c) us) (hc : us.length ≤ c) (hm : m ≤ us.length)
    (nx : ∀ s', RR k h s' (us.take m) → R s' h) : WI P CT ⟨d, none, .op (.slc k false true false) xs⟩ env h R := by
  have hbd : bounds us.length c none (some (.int .i64 (m : Int))) none = some (0, m, c) := by
    have : (0 : Int) ≤ m ∧ (m : Int) ≤ c := by omega
    simp [bounds, bnd, this]
  rcases r with ⟨e1, e2⟩ | ⟨i, o, sp, c', e1, hi, hsp, hr⟩
  · cases e1
    subst e2
    have hm0 : m = 0 := by simpa using hm
    subst hm0
    refine w_op (v := .slice none 0 0) (h' := h) ?_ (nx _ (.inl ⟨rfl, rfl⟩))
    unfold opF
    rw [e]
    have hbd : bounds 0 0 none (some (.int .i64 ((0 : Nat) : Int))) none = some (0, 0, 0) := hbd
    simp only [stepK, get3, takeB, sliceA, hbd, Option.map_some]
  · cases e1
    have hrd : ∀ (y : Nat) u, (us.take m)[y]? = some u → h.rd i (o + y * k) k = some u := by
      intro y u hu
      rw [List.getElem?_take] at hu
      split at hu
      · exact hr y u hu
      · cases hu
    have hl : (us.take m).length = m := by rw [List.length_take, Nat.min_eq_left hm]
    rcases sp with _ | _ | sp
    · refine w_op (v := .slice (some ⟨i, o, none⟩) m c) (h' := h) ?_ (nx _ (.inr ⟨i, o, none, c, by rw [hl], hi, fun _ => rfl, hrd⟩))
      unfold opF
      rw [e]
      simp only [stepK, get3, takeB, sliceA, hbd, Option.map_some, Nat.sub_zero]
      simp
    · refine w_op (v := .slice (some ⟨i, o, some (if c = 0 then 1 else 0)⟩) m c) (h' := h) ?_ (nx _ (.inr ⟨i, o, _, c, by rw [hl], hi, fun hne => ?_, hrd⟩))
      · unfold opF
        rw [e]
        simp only [stepK, get3, takeB, sliceA, hbd, Nat.sub_zero]
        simp
      · have hpos := List.length_pos_iff.2 hne
        rw [hl] at hpos
        rw [if_neg (by omega)]
        rfl
    · have hu0 : us = [] := by
        by_cases h0 : us = []
        · exact h0
        · have := hsp h0
          simp at this
      subst hu0
      have hm0 : m = 0 := by simpa using hm
      subst hm0
      refine w_op (v := .slice (some ⟨i, o, some (sp + 1)⟩) 0 c) (h' := h) ?_ (nx _ (.inr ⟨i, o, some (sp + 1), c, rfl, hi, fun h0 => absurd rfl h0, fun y u hu => by cases hu⟩))
      unfold opF
      rw [e]
      simp only [stepK, get3, takeB, sliceA, hbd, Option.map_some, Nat.sub_zero]
/-- l[m:] of a row that is read. -/
theorem w_slS {k m n c : Nat} {x : Option Addr} {us : List (List Value)} (e : mapF env xs = some [.slice x n c, .int .i64 (m : Int)]) (r : RR k h (.slice x n c) us) (hc : us.length ≤ c) (hm : m ≤ us.length)
    (nx : ∀ s', RR k h s' (us.drop m) → R s' h) : WI P CT ⟨d, none, .op (.slc k true false false) xs⟩ env h R := by
  have hbd : bounds us.length c (some (.int .i64 (m : Int))) none none = some (m, us.length, c) := by
    have : (0 : Int) ≤ m ∧ (m : Int) ≤ us.length := by omega
    have h2 : ¬ c < us.length := by omega
    simp [bounds, bnd, this, h2]
  rcases r with ⟨e1, e2⟩ | ⟨i, o, sp, c', e1, hi, hsp, hr⟩
  · cases e1
    subst e2
    have hm0 : m = 0 := by simpa using hm
    subst hm0
    refine w_op (v := .slice none 0 0) (h' := h) ?_ (nx _ (.inl ⟨rfl, rfl⟩))
    unfold opF
    rw [e]
    have hbd : bounds 0 0 (some (.int .i64 ((0 : Nat) : Int))) none none = some (0, 0, 0) := hbd
    simp only [stepK, get3, takeB, sliceA, hbd, Option.map_some]
  · cases e1
    have hrd : ∀ (y : Nat) u, (us.drop m)[y]? = some u → h.rd i (o + m * k + y * k) k = some u := by
      intro y u hu
      rw [List.getElem?_drop] at hu
      have := hr (m + y) u hu
      rwa [Nat.add_mul, ← Nat.add_assoc] at this
    have hl : (us.drop m).length = us.length - m := by rw [List.length_drop]
    rcases sp with _ | _ | sp
    · by_cases hcm : c = m
      · have hum : us.length = m := by omega
        have hd0 : us.drop m = [] := List.eq_nil_of_length_eq_zero (by rw [hl]; omega)
        refine w_op (v := .slice (some ⟨i, o, none⟩) (us.length - m) (c - m)) (h' := h) ?_ (nx _ (.inr ⟨i, o, none, c - m, by rw [hl], hi, fun _ => rfl, fun y u hu => by rw [hd0] at hu; cases hu⟩))
        unfold opF
        rw [e]
        simp only [stepK, get3, takeB, sliceA, hbd, Option.map_some, if_pos hcm]
      · refine w_op (v := .slice (some ⟨i, o + m * k, none⟩) (us.length - m) (c - m)) (h' := h) ?_ (nx _ (.inr ⟨i, o + m * k, none, c - m, by rw [hl], hi, fun _ => rfl, hrd⟩))
        unfold opF
        rw [e]
        simp only [stepK, get3, takeB, sliceA, hbd, Option.map_some, if_neg hcm]
    · refine w_op (v := .slice (some ⟨i, o + m * k, some (if c = m then 1 else 0)⟩) (us.length - m) (c - m)) (h' := h) ?_ (nx _ (.inr ⟨i, o + m * k, _, c - m, by rw [hl], hi, fun hne => ?_, hrd⟩))
      · unfold opF
        rw [e]
        simp only [stepK, get3, takeB, sliceA, hbd]
        simp
      · have hpos := List.length_pos_iff.2 hne
        rw [hl] at hpos
        rw [if_neg (by omega)]
        rfl
    · have hu0 : us = [] := by
        by_cases h0 : us = []
        · exact h0
        · have := hsp h0
          simp at this
      subst hu0
      have hm0 : m = 0 := by simpa using hm
      subst hm0
      refine w_op (v := .slice (some ⟨i, o, some (sp + 1)⟩) (([] : List (List Value)).length - 0) (c - 0)) (h' := h) ?_ (nx _ (.inr ⟨i, o, some (sp + 1), c - 0, rfl, hi, fun h0 => absurd rfl h0, fun y u hu => by cases hu⟩))
      unfold opF
      rw [e]
      simp only [stepK, get3, takeB, sliceA, hbd, Option.map_some]
end
theorem open_gen {H : Type} {enc : TypeId × Value → H} {P : Program} {W : World} {held : Bool} (hz : 0 < W.heap.size) : ∀ (n : Nat) (t : TypeId) (cs : List Value) (x : DataW H × List MemPlace) (fuel : Nat) (rs : List Ro), plT P n t = true →
    DataW.trod enc P W 0 (fun _ => true) held fuel t cs = some x → Wn W rs → ∃ more cs', Wn W (rs ++ more) ∧ RVs (roM (rs ++ more)) cs' cs ∧ Tv P (roN (rs ++ more)) n t cs'
  | 0, _, _, _, _, _, h, _, _ => by simp [plT] at h
  | n + 1, t, cs, x, fuel, rs, hp, hx, w => by
    unfold plT at hp
    unfold Tv
    split at hp
    · next ht =>
      obtain ⟨b, rfl, _⟩ := DataW.trod_bool ht hx
      exact ⟨[], [.bool b], by simpa using w, RVs.cons (.bool b) (RVs.nil _), ⟨b, rfl⟩⟩
    · next k ht =>
      obtain ⟨b, rfl, _, hw⟩ := DataW.trod_int ht hx
      exact ⟨[], [.int k b], by simpa using w, RVs.cons (.int k b) (RVs.nil _), ⟨b, rfl, hw⟩⟩
    · next ht =>
      obtain ⟨b, rfl, _, hw⟩ := DataW.trod_string ht hx
      exact ⟨[], [.string b], by simpa using w, RVs.cons (.string b) (RVs.nil _), ⟨b, rfl, hw⟩⟩
    · next e ht =>
      rw [Bool.and_eq_true, decide_eq_true_eq] at hp
      obtain ⟨hk, hp⟩ := hp
      rcases DataW.trod_slice ht hx with ⟨rfl, _⟩ | ⟨a, len, cap, elems, rest, m, _, rfl, _, _, hlc, hcm, hln, hel, hsp, _⟩
      · exact ⟨[], [.slice none 0 0], by simpa using w, RVs.cons (.nils 0 0) (RVs.nil _), _, [], rfl, .inl ⟨rfl, rfl⟩, by simp, Nat.zero_le _, _, _, rfl, Nat.le_refl _⟩
      obtain ⟨hrl, hrest⟩ := hsp rfl
      by_cases hc : cap = 0
      · obtain rfl : len = 0 := by omega
        subst hc
        exact ⟨[some (⟨0, 0, 0⟩, [])], [.slice (some ⟨rs.length, 0, some 1⟩) 0 0], w.snoc hz (by simp), RVs.cons (.sliceY (l := ⟨0, 0, 0⟩) a (roN_get (cs := []) (by simp)).2) (RVs.nil _), _, [], rfl,
          .inr ⟨rs.length, 0, some 1, 0, rfl, by simp [roN], fun h => absurd rfl h, fun x u hu => by cases hu⟩, by simp, Nat.zero_le _, _, _, rfl, Nat.le_refl _⟩
      have hcs : ∀ i, i < len → ∃ c, W.cells? 0 (a.add (i * P.cellsOf e)) (P.cellsOf e) = some c ∧ ∃ y, DataW.trod enc P W 0 (fun _ => true) held m e c = some y := by
        intro i hi
        have h1 := hel i hi
        rw [List.getElem?_eq_getElem (by omega), Option.bind_eq_some_iff] at h1
        obtain ⟨c, h2, h3⟩ := h1
        exact ⟨c, h2, _, h3⟩
      have h0 : ∃ c, W.cells? 0 (a.add 0) (P.cellsOf e) = some c := by
        by_cases hl : 0 < len
        · obtain ⟨c, h1, _⟩ := hcs 0 hl
          rw [Nat.zero_mul] at h1
          exact ⟨c, h1⟩
        · have h1 := hrest 0 (by omega)
          rw [List.getElem?_eq_getElem (by omega), Option.bind_eq_some_iff, show len + 0 = 0 by omega, Nat.zero_mul] at h1
          exact ⟨_, h1.choose_spec.1⟩
      obtain ⟨c0, h0⟩ := h0
      obtain ⟨_, hl0, hc0⟩ := World.cells?_some h0
      have h00 := hc0 0 hk
      rw [add_add, List.getElem?_eq_getElem (by omega)] at h00
      have hat := cell_at h00
      have hadd : a.add (0 + 0) = a := by simp [Addr.add]
      rw [hadd] at hat
      obtain ⟨b, off, sp⟩ := a
      obtain ⟨hs, hb⟩ := hat
      have hs : sp = none := hs
      subst hs
      have hb : b < W.heap.size := hb
      obtain ⟨more, uss, w1, r2, t2⟩ := open_list (W := W) (T := fun h c => Tv P h n e c) (fun _ _ _ x y => y.ext x) (D := fun c => c.length = P.cellsOf e ∧ ∃ y, DataW.trod enc P W 0 (fun _ => true) held m e c = some y)
        (fun cs rs d w => open_gen hz n e cs _ m rs hp d.2.choose_spec w) ((List.range len).map fun i => (W.cells? 0 ((⟨b, off, none⟩ : Addr).add (i * P.cellsOf e)) (P.cellsOf e)).getD []) rs (fun c hcm => by
          obtain ⟨i, hi, rfl⟩ := List.mem_map.1 hcm
          rw [List.mem_range] at hi
          obtain ⟨c, h1, h2⟩ := hcs i hi
          rw [h1]
          exact ⟨(World.cells?_some h1).2.1, h2⟩) w
      have hlk : ∀ c ∈ ((List.range len).map fun i => (W.cells? 0 ((⟨b, off, none⟩ : Addr).add (i * P.cellsOf e)) (P.cellsOf e)).getD []), c.length = P.cellsOf e := by
        intro c hcm
        obtain ⟨i, hi, rfl⟩ := List.mem_map.1 hcm
        rw [List.mem_range] at hi
        obtain ⟨c, h1, h2⟩ := hcs i hi
        rw [h1]
        exact (World.cells?_some h1).2.1
      have hul : uss.length = len := by rw [r2.1]; simp
      have hels : Els (P.cellsOf e) uss := by
        intro u hu
        refine ⟨?_, (t2 u hu).one⟩
        obtain ⟨i, hi, rfl⟩ := List.getElem_of_mem hu
        have hi2 : i < ((List.range len).map fun i => (W.cells? 0 ((⟨b, off, none⟩ : Addr).add (i * P.cellsOf e)) (P.cellsOf e)).getD []).length := by rw [← r2.1]; exact hi
        have := (r2.2 i _ _ (List.getElem?_eq_getElem hi) (List.getElem?_eq_getElem hi2)).1
        rw [this]
        exact hlk _ (List.getElem_mem hi2)
      refine ⟨more ++ [some (⟨b, off, 0⟩, uss.flatten)], [.slice (some ⟨(rs ++ more).length, 0, none⟩) len cap], ?_⟩
      rw [← List.append_assoc]
      have hJ : (rs ++ more ++ [some (⟨b, off, 0⟩, uss.flatten)])[(rs ++ more).length]? = some (some (⟨b, off, 0⟩, uss.flatten)) := by simp
      refine ⟨w1.snoc hb fun i v hv => ?_, RVs.cons (.slice (roN_get hJ).2) (RVs.nil _), _, uss, rfl, .inr ⟨(rs ++ more).length, 0, none, cap, by rw [hul], by simp [roN], fun _ => rfl, fun x u hu => rd_row2 (tl := []) (by rw [List.append_nil]; exact (roN_get hJ).1) hels hu⟩, fun u hu => (t2 u hu).ext (roN_app _ _), by omega, _, _, by rw [hul], by omega⟩
      obtain ⟨v', hv', rv⟩ := r2.flat.get hv
      refine ⟨v', ?_, rv⟩
      have hi := (List.getElem?_eq_some_iff.1 hv').1
      rw [flat_len hlk] at hi
      rw [flat_get hlk i hi] at hv'
      have hq : i / P.cellsOf e < len := by
        rw [List.length_map, List.length_range] at hi
        exact Nat.div_lt_of_lt_mul (by rw [Nat.mul_comm]; exact hi)
      obtain ⟨c, h1, _⟩ := hcs _ hq
      rw [List.getElem?_map, List.getElem?_range hq, Option.map_some, h1] at hv'
      have hv' : c[i % P.cellsOf e]? = some v' := hv'
      have h2 := (World.cells?_some h1).2.2 (i % P.cellsOf e) (Nat.mod_lt _ hk)
      rw [add_add, Nat.mul_comm, Nat.div_add_mod, hv'] at h2
      rw [← h2]
      unfold Addr.add
      split
      · next e0 => subst e0; rfl
      · rfl
    · next fs ht =>
      obtain ⟨xs, m, _, _, hl, hlen, hf⟩ := DataW.trod_struct ht hx
      exact open_fld (T := fun h => Tv P h n) (fun _ _ _ _ x y => y.ext x) (D := fun t c => ∃ y, DataW.trod enc P W 0 (fun _ => true) held m t c = some y) (fun t cs rs hp d w => open_gen hz n t cs _ m rs hp d.choose_spec w)
        fs.toList 0 _ cs rs hp (by omega) (fun f hfm => by
          obtain ⟨i, hi, rfl⟩ := List.getElem_of_mem hfm
          have hi2 : i < fs.size := by simpa using hi
          have := hf i _ (Array.getElem?_eq_getElem hi2)
          rw [List.getElem?_eq_getElem (by omega)] at this
          exact ⟨_, by simpa using this⟩) w
    · next m' e ht =>
      rw [Bool.and_eq_true, decide_eq_true_eq] at hp
      obtain ⟨xs, m, _, _, hl, hlen, hf⟩ := DataW.trod_array ht hx
      obtain ⟨more, uss, w1, r2, t2⟩ := open_list (W := W) (T := fun h c => Tv P h n e c) (fun _ _ _ x y => y.ext x) (D := fun c => ∃ y, DataW.trod enc P W 0 (fun _ => true) held m e c = some y)
        (fun cs rs d w => open_gen hz n e cs _ m rs hp.2 d.choose_spec w) ((List.range m').map fun i => (cs.drop (i * P.cellsOf e)).take (P.cellsOf e)) rs (fun c hcm => by
          obtain ⟨i, hi, rfl⟩ := List.mem_map.1 hcm
          rw [List.mem_range] at hi
          have := hf i hi
          rw [List.getElem?_eq_getElem (by omega)] at this
          exact ⟨_, this⟩) w
      refine ⟨more, uss.flatten, w1, ?_, uss, rfl, by rw [r2.1]; simp, t2⟩
      have := r2.flat
      rwa [chunks m' cs (by rw [hl, hp.1])] at this
    · cases hp
end Go.Proofs.YtapbmmlgmcmpnaaDoorW.Am
