/- Regions whose order is open: the order that stands for all, reckoned and checked. -/
import Derived.Test.YtnebdnbglggdkaaDoorAmS
namespace Go.Proofs.YtnebdnbglggdkaaDoorW.Am
open Go Go.RowKit

/-- Of each operation: which ones come ahead of it in every order (bits). -/
def maskOf (acc : List Nat) (o : Oper) : Nat := o.after.toList.foldl (fun s e => if Region.binds .any e then s ||| 2 ^ e.on ||| acc.getD e.on 0 else s) 0
def masksGo : List Oper → List Nat → List Nat
  | [], acc => acc
  | o :: r, acc => masksGo r (acc ++ [maskOf acc o])
def masks (ops : Array Oper) : List Nat := masksGo ops.toList []
def readyNow (ops : Array Oper) (done : List Nat) (i : Nat) : Bool :=
  match ops[i]? with
  | some o => o.after.all fun e => !Region.binds .any e || done.contains e.on
  | none => false
/-- Reads as early as they may be; then the next write. -/
def eagerGo (ops : Array Oper) (eff : Nat → Bool) : Nat → List Nat → List Nat → List Nat
  | 0, _, done => done
  | fuel + 1, left, done =>
    match left.find? (fun i => !eff i && readyNow ops done i) with
    | some i => eagerGo ops eff fuel (left.erase i) (done ++ [i])
    | none => match left.find? (fun i => readyNow ops done i) with
      | some i => eagerGo ops eff fuel (left.erase i) (done ++ [i])
      | none => done
/-- Does the instruction write a slot that one ahead of it (in the text) reads or writes? -/
def warOf (ins : List In) (ix : Nat) : Bool := match ins[ix]? with
  | some i => match i.d with
    | some d => (ins.take ix).any fun y => (looks y).contains d || y.d == some d
    | none => false
  | none => false
def triples (P : Program) (n : Nat) (ops : Array Oper) : List Nat → Option (List (Nat × In))
  | [] => some []
  | ix :: r => match ops[ix]? with
    | some o => match compIn P n ops o, triples P n ops r with
      | some i, some ts => some ((ix, i) :: ts)
      | _, _ => none
    | none => none
def buildL (mk : Nat → Nat) (ef : Nat → Bool) (p : List DE) : List (Nat × In) → List DE
  | [] => []
  | (ix, i) :: r =>
    let x : DE := ⟨ix, i, effIn i || ef ix, if effIn i then (p.filter fun y => !y.eff && !pureIn y.i && !(mk ix).testBit y.ix).map (·.i) else []⟩
    x :: buildL mk ef (p ++ [x]) r
def chkOne (mk : Nat → Nat) (ops : Array Oper) (p : List DE) (x : DE) (q : List DE) : Bool :=
  (match ops[x.ix]? with
    | some o => (o.after.toList.all fun e => !Region.binds .any e || (p.map (·.ix)).contains e.on) &&
      (p.all fun y => y.eff || match y.i.d with
        | some d => !(looks x.i).contains d || o.after.toList.any fun e => Region.binds .any e && e.on == y.ix
        | none => true)
    | none => false) &&
  (x.eff || match x.i.d with | some d => !(looks x.i).contains d | none => true) &&
  (q.all fun y => match y.i.d with
    | some d => (!(looks x.i).contains d && x.i.d != some d) || (y.eff && (mk y.ix).testBit x.ix)
    | none => true) &&
  (x.eff || pureIn x.i || x.i.d.isSome)
def chkL (mk : Nat → Nat) (ops : Array Oper) (p : List DE) : List DE → Bool
  | [] => true
  | x :: q => chkOne mk ops p x q && chkL mk ops (p ++ [x]) q
def drawL (P : Program) (n : Nat) (ops : Array Oper) : Option (List DE) :=
  let mk := masks ops
  match compIns P n ops ops.toList with
  | none => none
  | some ins =>
    let order := eagerGo ops (fun i => (match ins[i]? with | some x => effIn x | none => true) || warOf ins i) ops.size (List.range ops.size) []
    match triples P n ops order with
    | none => none
    | some ts =>
      let L := buildL (fun i => mk.getD i 0) (warOf ins) [] ts
      if (decide (L.length = ops.size) && decide (L.map (·.ix)).Nodup && ((List.range ops.size).all fun i => (L.map (·.ix)).contains i) && eagerOk (fun i => mk.getD i 0) none L && chkL (fun i => mk.getD i 0) ops [] L) = true then some L else none

section
variable {P : Program} {n : Nat} {ops : Array Oper} {mk : Nat → Nat}

theorem fold_bit {acc : List Nat} {j : Nat} : ∀ (l : List Edge) (s : Nat), (l.foldl (fun s e => if Region.binds .any e then s ||| 2 ^ e.on ||| acc.getD e.on 0 else s) s).testBit j = true →
    s.testBit j = true ∨ ∃ e ∈ l, Region.binds .any e = true ∧ (e.on = j ∨ (acc.getD e.on 0).testBit j = true) := by
  intro l
  induction l with
  | nil => intro s h; exact .inl h
  | cons e l ih =>
    intro s h
    simp only [List.foldl_cons] at h
    rcases ih _ h with h1 | ⟨e', he', hh⟩
    · split at h1
      · next hb =>
        rw [Nat.testBit_or, Nat.testBit_or, Bool.or_eq_true, Bool.or_eq_true] at h1
        rcases h1 with (h1 | h1) | h1
        · exact .inl h1
        · refine .inr ⟨e, by simp, hb, .inl ?_⟩
          rw [Nat.testBit_two_pow] at h1
          simpa using h1
        · exact .inr ⟨e, by simp, hb, .inr h1⟩
      · exact .inl h1
    · exact .inr ⟨e', by simp [he'], hh⟩

theorem masksGo_get : ∀ (l : List Oper) (acc : List Nat) (i : Nat), (masksGo l acc)[i]? = if i < acc.length then acc[i]? else (match l[i - acc.length]? with | some o => some (maskOf ((masksGo l acc).take i) o) | none => none) := by
  intro l
  induction l with
  | nil =>
    intro acc i
    simp only [masksGo]
    split
    · rfl
    · next h => rw [List.getElem?_eq_none (by omega)]; simp
  | cons o l ih =>
    intro acc i
    simp only [masksGo]
    rw [ih]
    simp only [List.length_append, List.length_cons, List.length_nil]
    by_cases h1 : i < acc.length
    · rw [if_pos (by omega), if_pos h1, List.getElem?_append_left h1]
    · rw [if_neg h1]
      by_cases h2 : i = acc.length
      · subst h2
        rw [if_pos (by omega)]
        simp only [Nat.sub_self, List.getElem?_cons_zero]
        rw [List.getElem?_append_right (Nat.le_refl _)]
        simp only [Nat.sub_self, List.getElem?_cons_zero]
        have : (masksGo l (acc ++ [maskOf acc o])).take acc.length = acc := by
          refine List.ext_getElem? fun j => ?_
          rw [List.getElem?_take]
          split
          · next hj => rw [ih, if_pos (by simp; omega), List.getElem?_append_left hj]
          · next hj => rw [List.getElem?_eq_none (by omega)]
        rw [this]
      · rw [if_neg (by omega), show i - acc.length = (i - (acc.length + (0 + 1))) + 1 by omega]
        simp only [List.getElem?_cons_succ]

theorem mask_closed (D : Nat → Prop) (hD : ∀ (i : Nat) (o : Oper), ops[i]? = some o → D i → ∀ e ∈ o.after, Region.binds .any e = true → D e.on) :
    ∀ (i : Nat) (o : Oper), ops[i]? = some o → (∀ e ∈ o.after, Region.binds .any e = true → D e.on) → ∀ j, (((masks ops).getD i 0).testBit j = true) → D j := by
  intro i
  induction i using Nat.strongRecOn with
  | _ i ih =>
    intro o ho hp j hj
    have hg := masksGo_get ops.toList [] i
    simp only [List.length_nil, Nat.not_lt_zero, if_false, Nat.sub_zero] at hg
    have hoL : ops.toList[i]? = some o := by rw [Array.getElem?_toList]; exact ho
    simp only [hoL] at hg
    unfold masks at hj
    rw [List.getD_eq_getElem?_getD, hg, Option.getD_some] at hj
    unfold maskOf at hj
    rcases fold_bit _ _ hj with h | ⟨e, he, hb, h⟩
    · simp at h
    · have hDe := hp e (by simpa using he) hb
      rcases h with rfl | h
      · exact hDe
      · rw [List.getD_eq_getElem?_getD, List.getElem?_take] at h
        split at h
        · next hlt =>
          cases hoe : ops[e.on]? with
          | none =>
            have hl := masksGo_get ops.toList [] e.on
            simp only [List.length_nil, Nat.not_lt_zero, if_false, Nat.sub_zero] at hl
            have hoL : ops.toList[e.on]? = none := by rw [Array.getElem?_toList]; exact hoe
            simp only [hoL] at hl
            rw [hl] at h
            simp at h
          | some oe =>
            refine ih e.on hlt oe hoe (fun e2 h2 hb2 => hD e.on oe hoe hDe e2 h2 hb2) j ?_
            unfold masks
            rw [List.getD_eq_getElem?_getD]
            exact h
        · simp at h

theorem triples_of : ∀ {ixs : List Nat} {ts : List (Nat × In)}, triples P n ops ixs = some ts → ∀ p ∈ ts, ∃ o, ops[p.1]? = some o ∧ compIn P n ops o = some p.2 := by
  intro ixs
  induction ixs with
  | nil => intro ts e p hp; cases e; cases hp
  | cons ix ixs ih =>
    intro ts e p hp
    simp only [triples] at e
    split at e
    case h_2 => cases e
    case h_1 o ho =>
    split at e
    case h_2 => cases e
    case h_1 i ts' hi hts =>
    cases e
    rcases List.mem_cons.1 hp with rfl | hp
    · exact ⟨o, ho, hi⟩
    · exact ih hts p hp
theorem buildL_mem {ef : Nat → Bool} : ∀ {ts : List (Nat × In)} {p : List DE} {x : DE}, x ∈ buildL mk ef p ts → (x.ix, x.i) ∈ ts ∧ x.eff = (effIn x.i || ef x.ix) := by
  intro ts
  induction ts with
  | nil => intro p x hx; cases hx
  | cons t ts ih =>
    intro p x hx
    obtain ⟨ix, i⟩ := t
    simp only [buildL] at hx
    rcases List.mem_cons.1 hx with rfl | hx
    · exact ⟨by simp, rfl⟩
    · obtain ⟨h1, h2⟩ := ih hx
      exact ⟨by simp [h1], h2⟩
theorem buildL_re {ef : Nat → Bool} : ∀ {ts : List (Nat × In)} {p0 p q : List DE} {x : DE}, buildL mk ef p0 ts = p ++ x :: q → x.re = if effIn x.i then ((p0 ++ p).filter fun y => !y.eff && !pureIn y.i && !(mk x.ix).testBit y.ix).map (·.i) else [] := by
  intro ts
  induction ts with
  | nil => intro p0 p q x e; simp [buildL] at e
  | cons t ts ih =>
    intro p0 p q x e
    obtain ⟨ix, i⟩ := t
    simp only [buildL] at e
    cases p with
    | nil =>
      simp only [List.nil_append, List.cons.injEq] at e
      obtain ⟨rfl, _⟩ := e
      simp
    | cons y p =>
      simp only [List.cons_append, List.cons.injEq] at e
      obtain ⟨rfl, e⟩ := e
      have := ih e
      simpa using this
theorem chkL_at : ∀ {l p0 p q : List DE} {x : DE}, chkL mk ops p0 l = true → l = p ++ x :: q → chkOne mk ops (p0 ++ p) x q = true := by
  intro l
  induction l with
  | nil => intro p0 p q x _ e; simp at e
  | cons y l ih =>
    intro p0 p q x hc e
    simp only [chkL, Bool.and_eq_true] at hc
    cases p with
    | nil =>
      simp only [List.nil_append, List.cons.injEq] at e
      obtain ⟨rfl, rfl⟩ := e
      simpa using hc.1
    | cons z p =>
      simp only [List.cons_append, List.cons.injEq] at e
      obtain ⟨rfl, e⟩ := e
      have := ih hc.2 e
      simpa using this

theorem fine_of {L : List DE} (e : drawL P n ops = some L) : Fine P n ops (fun i => (masks ops).getD i 0) L := by
  unfold drawL at e
  simp only at e
  split at e
  · cases e
  next ins hins =>
  split at e
  · cases e
  next ts hts =>
  split at e
  case isFalse => cases e
  case isTrue hc =>
  cases e
  simp only [Bool.and_eq_true, decide_eq_true_eq] at hc
  obtain ⟨⟨⟨⟨_, h1⟩, h2⟩, h3⟩, h4⟩ := hc
  refine ⟨?_, h1, ?_, ?_, ?_, ?_, h3, ?_, ?_, fun D hD => mask_closed D hD⟩
  · intro x hx
    obtain ⟨g1, g2⟩ := buildL_mem hx
    obtain ⟨o, ho, hi⟩ := triples_of hts _ g1
    refine ⟨o, ho, hi, fun hq => ?_⟩
    rw [g2, Bool.or_eq_false_iff] at hq
    have hq := hq.1
    cases hp : pureIn x.i with
    | true => exact .inl rfl
    | false => right; simpa [effIn, hp] using hq
  · intro i hi
    rw [List.all_eq_true] at h2
    have := h2 i (by simpa using hi)
    simpa using this
  · intro p x q hL o ho e he hb
    have hk := chkL_at h4 hL
    simp only [chkOne, ho, List.nil_append, Bool.and_eq_true] at hk
    have := List.all_eq_true.1 hk.1.1.1.1 e (by simpa using he)
    rw [hb] at this
    simpa using this
  · intro p x q hL
    have hk := chkL_at h4 hL
    simp only [chkOne, Bool.and_eq_true] at hk
    refine ⟨fun hxe d hd => ?_, fun y hy d hd => ?_⟩
    · have := hk.1.1.2
      rw [hd, hxe] at this
      simpa using this
    · have := List.all_eq_true.1 hk.1.2 y hy
      rw [hd] at this
      simp only [Bool.or_eq_true, Bool.and_eq_true] at this
      rcases this with h | h
      · exact .inl (by simpa using h)
      · exact .inr h
  · intro p x q hL y hy hye d hd hm
    have hk := chkL_at h4 hL
    simp only [chkOne, List.nil_append, Bool.and_eq_true] at hk
    have hk1 := hk.1.1.1
    split at hk1
    · next o ho =>
      simp only [Bool.and_eq_true] at hk1
      have := List.all_eq_true.1 hk1.2 y hy
      rw [hd, hye] at this
      simp only [Bool.false_or, Bool.or_eq_true] at this
      rcases this with this | this
      · simp [hm] at this
      · obtain ⟨e, he, hh⟩ := List.any_eq_true.1 this
        simp only [Bool.and_eq_true, beq_iff_eq] at hh
        exact ⟨o, e, ho, by simpa using he, hh.1, hh.2⟩
    · cases hk1
  · intro p x q hL hx hxe y hy hye hyp hb
    have := buildL_re hL
    rw [if_pos hxe] at this
    rw [this]
    refine List.mem_map_of_mem (List.mem_filter.2 ⟨by simpa using hy, ?_⟩)
    rw [hye, hyp, hb]; rfl
  · intro x hx hxe hxp
    obtain ⟨p, q, hL⟩ := List.append_of_mem hx
    have hk := chkL_at h4 hL
    simp only [chkOne, Bool.and_eq_true] at hk
    have := hk.2
    rw [hxe, hxp] at this
    simpa using this

/-- The order that is reckoned stands for all. -/
theorem draw_sound {base : Nat} {w0 w : World} {m : Mu} {h : Hp} {env : Env} {L : List DE} {Q : Env → Hp → Prop} {Q' : Exit → Act → World → Prop} {a : Act} (e : drawL P n ops = some L) (r : REnv m n env a.tmps) (hd : a.defers = []) (s : Sim base w0 m h w) (hw : wpD P (ACall P) L env h Q)
    (hq : ∀ m' env' h' a' w', m.le m' → REnv m' n env' a'.tmps → a'.defers = [] → Sim base w0 m' h' w' → Q env' h' → Q' .normal a' w') :
    wpAny P .any ops Q' ops.size (Array.replicate ops.size false) a w := by
  have F := fine_of e
  have hlen : L.length = ops.size := by
    unfold drawL at e
    simp only at e
    split at e
    · cases e
    split at e
    · cases e
    split at e
    case isFalse => cases e
    case isTrue hc =>
    cases e
    simp only [Bool.and_eq_true, decide_eq_true_eq] at hc
    exact hc.1.1.1.1
  refine Inv.run F (m0 := m) hq ops.size _ [] L [] none m env h a w (by simp) (by simpa using hlen) ⟨rfl, List.Sublist.refl _, by simp, hw, ?_, ?_, ?_, F.eager, by simp, ⟨r.1, fun t v ev _ => r.2 t v ev⟩, hd, s, m.le_refl⟩
  · intro i hi
    constructor
    · intro hx; simp [hi] at hx
    · rintro ⟨h1, _⟩; exact absurd (F.all i hi) h1
  · intro i hx
    have := (Array.getElem?_eq_some_iff.1 hx).1
    simpa using this
  · intro i o _ hx
    have hi := (Array.getElem?_eq_some_iff.1 hx).1
    simp at hi
    simp [hi] at hx
end
end Go.Proofs.YtnebdnbglggdkaaDoorW.Am
