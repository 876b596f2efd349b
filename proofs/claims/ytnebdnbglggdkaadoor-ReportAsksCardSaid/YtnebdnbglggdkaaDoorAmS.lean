/- Regions whose order is open: the proof that one order stands for all. -/
import Derived.Test.YtnebdnbglggdkaaDoorAmR
namespace Go.Proofs.YtnebdnbglggdkaaDoorW.Am
open Go Go.RowKit

/-- What is checked of a region and the order that stands for all. -/
structure Fine (P : Program) (n : Nat) (ops : Array Oper) (mk : Nat → Nat) (L : List DE) : Prop where
  of : ∀ x ∈ L, ∃ o, ops[x.ix]? = some o ∧ compIn P n ops o = some x.i ∧ (x.eff = false → pureIn x.i = true ∨ readIn x.i = true)
  nodup : (L.map (·.ix)).Nodup
  all : ∀ i, i < ops.size → i ∈ L.map (·.ix)
  pred : ∀ p x q, L = p ++ x :: q → ∀ o, ops[x.ix]? = some o → ∀ e ∈ o.after, Region.binds .any e = true → e.on ∈ p.map (·.ix)
  ssa : ∀ p x q, L = p ++ x :: q → (x.eff = false → ∀ d, x.i.d = some d → d ∉ looks x.i) ∧ ∀ y ∈ q, ∀ d, y.i.d = some d → (d ∉ looks x.i ∧ x.i.d ≠ some d) ∨ (y.eff = true ∧ (mk y.ix).testBit x.ix = true)
  data : ∀ p x q, L = p ++ x :: q → ∀ y ∈ p, y.eff = false → ∀ d, y.i.d = some d → d ∈ looks x.i → ∃ o e, ops[x.ix]? = some o ∧ e ∈ o.after ∧ Region.binds .any e = true ∧ e.on = y.ix
  eager : eagerOk mk none L = true
  re : ∀ p x q, L = p ++ x :: q → x.eff = true → effIn x.i = true → ∀ y ∈ p, y.eff = false → pureIn y.i = false → (mk x.ix).testBit y.ix = false → y.i ∈ x.re
  dst : ∀ x ∈ L, x.eff = false → pureIn x.i = false → x.i.d.isSome = true
  mask : ∀ (D : Nat → Prop), (∀ i o, ops[i]? = some o → D i → ∀ e ∈ o.after, Region.binds .any e = true → D e.on) → ∀ i o, ops[i]? = some o → (∀ e ∈ o.after, Region.binds .any e = true → D e.on) → ∀ j, (mk i).testBit j = true → D j

section
variable {P : Program} {base : Nat} {w0 w : World} {m : Mu} {h : Hp} {n : Nat} {env : Env} {ops : Array Oper} {mk : Nat → Nat} {L : List DE}

theorem eager_later : ∀ {r : List DE} {last : Option Nat} {e : Nat} {y : DE}, last = some e → eagerOk mk last r = true → y ∈ r → ∃ e', (e' = e ∨ e' ∈ r.map (·.ix)) ∧ (mk y.ix).testBit e' = true := by
  intro r
  induction r with
  | nil => intro last e y _ _ hy; cases hy
  | cons x r ih =>
    intro last e y hl he hy
    subst hl
    simp only [eagerOk, Bool.and_eq_true] at he
    rcases List.mem_cons.1 hy with rfl | hy
    · exact ⟨e, .inl rfl, he.1⟩
    · by_cases hx : x.eff = true
      · rw [if_pos hx] at he
        obtain ⟨e', h1, h2⟩ := ih rfl he.2 hy
        refine ⟨e', .inr ?_, h2⟩
        rcases h1 with rfl | h1
        · simp
        · simp only [List.map_cons, List.mem_cons]; exact .inr h1
      · rw [if_neg hx] at he
        obtain ⟨e', h1, h2⟩ := ih rfl he.2 hy
        refine ⟨e', ?_, h2⟩
        rcases h1 with rfl | h1
        · exact .inl rfl
        · simp only [List.map_cons, List.mem_cons]; exact .inr (.inr h1)

/-- A read that waits finds, whenever it is made, what it is to find. -/
def Pend (P : Program) (env : Env) (h : Hp) (i : In) : Prop := wpIn P (ACall P) i env h fun v h' => h' = h ∧ ∀ d, i.d = some d → env.get d = some v

/-- What holds while a region is carried out in whatever order: 'done' and 'C' are the order's parts, U what of 'done' has not been carried out yet, D what has. -/
structure Inv (P : Program) (base : Nat) (w0 : World) (n : Nat) (ops : Array Oper) (mk : Nat → Nat) (L : List DE) (Q : Env → Hp → Prop) (m0 : Mu) (D : Nat → Prop) (don C U : List DE) (last : Option Nat) (m : Mu) (env : Env) (h : Hp) (a : Act) (w : World) : Prop where
  split : L = don ++ C
  sub : U.Sublist don
  quiet : ∀ u ∈ U, u.eff = false
  wp : wpD P (ACall P) C env h Q
  dn : ∀ i, i < ops.size → (D i ↔ i ∉ C.map (·.ix) ∧ i ∉ U.map (·.ix))
  lt : ∀ i, D i → i < ops.size
  closed : ∀ i o, ops[i]? = some o → D i → ∀ e ∈ o.after, Region.binds .any e = true → D e.on
  eager : eagerOk mk last C = true
  pend : ∀ u ∈ U, Pend P env h u.i
  tm : a.tmps.size = n ∧ ∀ t v, env.get t = some v → (∀ u ∈ U, u.i.d ≠ some t) → ∃ v', a.tmps[t]? = some v' ∧ RV m v v'
  df : a.defers = []
  sim : Sim base w0 m h w
  le : m0.le m

theorem get_put_ne {env : Env} {d : Option Nat} {v : Value} {t : Nat} (ht : d ≠ some t) : (env.put d v).get t = env.get t := by
  cases d with
  | none => rfl
  | some d => simp only [Env.put, Env.get]; rw [if_neg (fun e => ht (by rw [e]))]
theorem get_put_same {env : Env} {d : Nat} {v : Value} : (env.put (some d) v).get d = some v := by simp [Env.put, Env.get]

theorem dlt_of {o : Oper} {i : In} (hi : compIn P n ops o = some i) : i.d = o.dst ∧ ∀ x, o.dst = some x → x < n := by
  unfold compIn at hi
  split at hi
  · next hd =>
    split at hi
    · cases hi
      exact ⟨rfl, fun x hx => by rw [hx] at hd; simpa [dOk] using hd⟩
    · cases hi
  · cases hi

theorem wpIn_mono {i : In} {env : Env} {h : Hp} {R R' : Value → Hp → Prop} (e : wpIn P (ACall P) i env h R) (hr : ∀ v h', R v h' → R' v h') : wpIn P (ACall P) i env h R' := by
  unfold wpIn at e ⊢
  split at e
  · exact e
  · exact hr _ _ e
  · split at e
    · split at e
      · exact e
      · split at e
        · exact e
        · exact hr _ _ e
    · split at e
      · exact e
      · exact hr _ _ e
    · split at e
      · exact e
      · exact e.mono hr
    · split at e
      · exact e.mono hr
      · exact e

/-- A read further on in the order is taken into account, though it has not been carried out. -/
theorem Inv.advance {Q : Env → Hp → Prop} {m0 : Mu} {D : Nat → Prop} {don C U : List DE} {c : DE} {last : Option Nat} {a : Act} (F : Fine P n ops mk L) (I : Inv P base w0 n ops mk L Q m0 D don (c :: C) U last m env h a w) (hq : c.eff = false) :
    ∃ env', Inv P base w0 n ops mk L Q m0 D (don ++ [c]) C (U ++ [c]) last m env' h a w := by
  obtain ⟨o, ho, hci, hqu⟩ := F.of c (by rw [I.split]; simp)
  have hw := I.wp
  simp only [wpD] at hw
  obtain ⟨v, ⟨_, hR⟩, hv⟩ := quiet_in (hqu hq) hw
  obtain ⟨s1, s2⟩ := F.ssa don c C I.split
  have hns := noSel_of hci
  refine ⟨env.put c.i.d v, ?_⟩
  have keep : ∀ t, t ∈ looks c.i → (env.put c.i.d v).get t = env.get t := fun t ht => get_put_ne fun hd => s1 hq t hd ht
  have keepU : ∀ u ∈ U, ∀ t, (t ∈ looks u.i ∨ u.i.d = some t) → (env.put c.i.d v).get t = env.get t := by
    intro u hu t ht
    refine get_put_ne fun hd => ?_
    obtain ⟨p, q, hpq⟩ := List.append_of_mem (I.sub.subset hu)
    have := ((F.ssa p u (q ++ c :: C) (by rw [I.split, hpq]; simp)).2 c (by simp) t hd).resolve_right (fun h => by rw [hq] at h; cases h.1)
    rcases ht with ht | ht
    · exact this.1 ht
    · exact this.2 ht
  refine ⟨by rw [I.split]; simp, I.sub.append (List.Sublist.refl _), ?_, hR, ?_, I.lt, I.closed, ?_, ?_, ⟨I.tm.1, ?_⟩, I.df, I.sim, I.le⟩
  · intro u hu
    rcases List.mem_append.1 hu with hu | hu
    · exact I.quiet u hu
    · simp at hu; subst hu; exact hq
  · intro i hi
    rw [I.dn i hi]
    simp only [List.map_cons, List.mem_cons, List.map_append, List.mem_append, List.map_nil, List.not_mem_nil, or_false]
    constructor
    · rintro ⟨h1, h2⟩
      exact ⟨fun hc => h1 (.inr hc), fun hu => hu.elim h2 fun hc => h1 (.inl hc)⟩
    · rintro ⟨h1, h2⟩
      exact ⟨fun hc => hc.elim (fun hc => h2 (.inr hc)) h1, fun hu => h2 (.inl hu)⟩
  · have := I.eager
    simp only [eagerOk, Bool.and_eq_true, hq, Bool.false_eq_true, if_false] at this
    exact this.2
  · intro u hu
    rcases List.mem_append.1 hu with hu | hu
    · have hp := I.pend u hu
      obtain ⟨ou, _, hcu, _⟩ := F.of u (by rw [I.split]; exact List.mem_append_left _ (I.sub.subset hu))
      unfold Pend at hp ⊢
      refine wpIn_congr (noSel_of hcu) (fun t ht => (keepU u hu t (.inl ht)).symm) (wpIn_mono hp ?_)
      rintro v2 h2 ⟨rfl, hg⟩
      exact ⟨rfl, fun d hd => by rw [keepU u hu d (.inr hd)]; exact hg d hd⟩
    · simp at hu
      subst hu
      unfold Pend
      refine wpIn_congr hns (fun t ht => (keep t ht).symm) (wpIn_mono hv ?_)
      rintro v2 h2 ⟨rfl, rfl⟩
      exact ⟨rfl, fun d hd => by rw [hd]; exact get_put_same⟩
  · intro t x e hu
    have hne : c.i.d ≠ some t := hu c (by simp)
    rw [get_put_ne hne] at e
    exact I.tm.2 t x e fun u hu' => hu u (List.mem_append_left _ hu')

/-- What is ready is waiting, or is the next write. -/
theorem Inv.settle {Q : Env → Hp → Prop} {m0 : Mu} {D : Nat → Prop} {a : Act} {i : Nat} {o : Oper} (F : Fine P n ops mk L) (ho : ops[i]? = some o) (hr : ∀ e ∈ o.after, Region.binds .any e = true → D e.on) :
    ∀ {C don U : List DE} {last : Option Nat} {env : Env}, Inv P base w0 n ops mk L Q m0 D don C U last m env h a w → (i ∈ C.map (·.ix) ∨ i ∈ U.map (·.ix)) →
    ∃ don' C' U' last' env', Inv P base w0 n ops mk L Q m0 D don' C' U' last' m env' h a w ∧ U'.length + C'.length = U.length + C.length ∧ (i ∈ U'.map (·.ix) ∨ ∃ c C2, C' = c :: C2 ∧ c.ix = i ∧ c.eff = true) := by
  intro C
  induction C with
  | nil =>
    intro don U last env I hi
    rcases hi with hi | hi
    · cases hi
    · exact ⟨don, [], U, last, env, I, rfl, .inl hi⟩
  | cons c C ih =>
    intro don U last env I hi
    by_cases hU : i ∈ U.map (·.ix)
    · exact ⟨don, c :: C, U, last, env, I, rfl, .inl hU⟩
    have hiC : i ∈ (c :: C).map (·.ix) := hi.resolve_right hU
    by_cases hc : c.eff = true
    · by_cases hci : c.ix = i
      · exact ⟨don, c :: C, U, last, env, I, rfl, .inr ⟨c, C, rfl, hci, hc⟩⟩
      · exfalso
        simp only [List.map_cons, List.mem_cons] at hiC
        have hiC := hiC.resolve_left fun e => hci e.symm
        obtain ⟨y, hy, hyi⟩ := List.mem_map.1 hiC
        have he := I.eager
        simp only [eagerOk, Bool.and_eq_true, hc, if_true] at he
        obtain ⟨e', h1, h2⟩ := eager_later rfl he.2 hy
        rw [hyi] at h2
        have hD := F.mask D I.closed i o ho hr e' h2
        have := ((I.dn e' (I.lt e' hD)).1 hD).1
        refine this ?_
        simp only [List.map_cons, List.mem_cons]
        exact h1
    · have hc : c.eff = false := by simpa using hc
      obtain ⟨env', I'⟩ := I.advance F hc
      obtain ⟨don', C', U', last', env2, I2, hl, hh⟩ := ih I' (by
        simp only [List.map_cons, List.mem_cons] at hiC
        rcases hiC with hiC | hiC
        · right; simp [hiC]
        · exact .inl hiC)
      exact ⟨don', C', U', last', env2, I2, by simp at hl ⊢; omega, hh⟩

def keepE (U : List DE) (env : Env) : Env := env.filter fun p => U.all fun u => u.i.d != some p.1
theorem get_keep {U : List DE} : ∀ {env : Env} {t : Nat}, (keepE U env).get t = if (∀ u ∈ U, u.i.d ≠ some t) then env.get t else none := by
  intro env
  induction env with
  | nil => intro t; simp [keepE, Env.get]
  | cons p env ih =>
    intro t
    obtain ⟨k, v⟩ := p
    have ih := ih (t := t)
    unfold keepE at ih ⊢
    by_cases hk : (U.all fun u => u.i.d != some k) = true
    · rw [List.filter_cons_of_pos (p := fun p : Nat × Value => U.all fun u => u.i.d != some p.1) (a := (k, v)) hk]
      simp only [Env.get]
      by_cases hkt : k = t
      · subst hkt
        have : ∀ u ∈ U, u.i.d ≠ some k := by simpa using hk
        rw [if_pos this, if_pos rfl, if_pos rfl]
      · simp only [if_neg hkt]; exact ih
    · rw [List.filter_cons_of_neg (p := fun p : Nat × Value => U.all fun u => u.i.d != some p.1) (a := (k, v)) hk]
      simp only [Env.get]
      by_cases hkt : k = t
      · subst hkt
        have : ¬ ∀ u ∈ U, u.i.d ≠ some k := fun hh => hk (by simpa using hh)
        rw [if_neg this]
        rw [if_neg this] at ih
        exact ih
      · simp only [if_neg hkt]; exact ih

theorem Inv.keep {Q : Env → Hp → Prop} {m0 : Mu} {D : Nat → Prop} {don C U : List DE} {last : Option Nat} {a : Act} (I : Inv P base w0 n ops mk L Q m0 D don C U last m env h a w) : REnv m n (keepE U env) a.tmps := by
  refine ⟨I.tm.1, fun t v e => ?_⟩
  rw [get_keep] at e
  split at e
  · next hu => exact I.tm.2 t v e hu
  · cases e

/-- What is ready looks at nothing that waits. -/
theorem Inv.apart {Q : Env → Hp → Prop} {m0 : Mu} {D : Nat → Prop} {don C U : List DE} {last : Option Nat} {a : Act} {x : DE} {o : Oper} (F : Fine P n ops mk L) (I : Inv P base w0 n ops mk L Q m0 D don C U last m env h a w)
    (hx : x ∈ L) (ho : ops[x.ix]? = some o) (hr : ∀ e ∈ o.after, Region.binds .any e = true → D e.on) : ∀ t ∈ looks x.i, ∀ u ∈ U, u.i.d ≠ some t := by
  intro t ht u hu hd
  obtain ⟨p, q, hL⟩ := List.append_of_mem hx
  have huL : u ∈ L := by rw [I.split]; exact List.mem_append_left _ (I.sub.subset hu)
  rw [hL] at huL
  rcases List.mem_append.1 huL with h1 | h1
  · obtain ⟨o2, e, ho2, he, hb, hon⟩ := F.data p x q hL u h1 (I.quiet u hu) t hd ht
    rw [ho] at ho2
    cases ho2
    have hD := hr e he hb
    rw [hon] at hD
    exact ((I.dn _ (I.lt _ hD)).1 hD).2 (List.mem_map_of_mem hu)
  · rcases List.mem_cons.1 h1 with rfl | h1
    · exact (F.ssa p u q hL).1 (I.quiet u hu) t hd ht
    · exact (((F.ssa p x q hL).2 u h1 t hd).resolve_right (fun h => by rw [I.quiet u hu] at h; cases h.1)).1 ht

theorem setT_get {l : Array Bool} {i j : Nat} (hi : i < l.size) : (l.setIfInBounds i true)[j]? = some true ↔ (l[j]? = some true ∨ j = i) := by
  rw [Array.getElem?_setIfInBounds]
  by_cases h : i = j
  · subst h
    rw [if_pos rfl, if_pos hi]
    simp
  · rw [if_neg h]
    constructor
    · exact .inl
    · rintro (h1 | h1)
      · exact h1
      · exact absurd h1.symm h

theorem ix_inj {L : List DE} (hn : (L.map (·.ix)).Nodup) {x y : DE} (hx : x ∈ L) (hy : y ∈ L) (e : x.ix = y.ix) : x = y := by
  obtain ⟨i, hi⟩ := List.getElem?_of_mem hx
  obtain ⟨j, hj⟩ := List.getElem?_of_mem hy
  have h1 : (L.map (·.ix))[i]? = some x.ix := by simp [hi]
  have h2 : (L.map (·.ix))[j]? = some x.ix := by simp [hj, e]
  have hij := (List.getElem?_inj (by have := (List.getElem?_eq_some_iff.1 h1).1; exact this) hn).1 (h1.trans h2.symm)
  subst hij
  rw [hi] at hj
  exact Option.some.inj hj
theorem apart_of {L p q : List DE} (hn : (L.map (·.ix)).Nodup) (hL : L = p ++ q) {x y : DE} (hx : x ∈ p) (hy : y ∈ q) : x.ix ≠ y.ix := by
  rw [hL, List.map_append, List.nodup_append] at hn
  exact hn.2.2 _ (List.mem_map_of_mem hx) _ (List.mem_map_of_mem hy)
theorem pend_again {i : In} {h2 : Hp} (hr : readIn i = true) (p : Pend P env h i) (a : again i env h2) : Pend P env h2 i := by
  have ha := again_in (P := P) (CT := ACall P) hr a
  unfold Pend at p ⊢
  unfold wpIn at p ha ⊢
  split at p
  · exact p.elim
  · next hw => exact ⟨rfl, p.2⟩
  · next hw =>
    simp only [hw] at ha
    simp only
    split at ha
    · next k xs hk =>
      try simp only [hk]
      split at ha
      · exact ha.elim
      · next vs hvs =>
        try simp only [hvs]
        split at ha
        · exact ha.elim
        · next v h3 hst => exact ⟨ha.1, fun d hd => ha.2 d hd trivial⟩
    · next hk => simp [readIn, hk] at hr
    · next hk => simp [readIn, hk] at hr
    · next hk => simp [readIn, hk] at hr
theorem pend_pure {i : In} {h2 : Hp} (hr : pureIn i = true) (p : Pend P env h i) : Pend P env h2 i := by
  unfold Pend at p ⊢
  obtain ⟨v, ⟨_, hv⟩, hw⟩ := quiet_in (.inl hr) p
  refine wpIn_mono (pure_in (h2 := h2) hr hw) ?_
  rintro v2 h3 ⟨rfl, rfl⟩
  exact ⟨rfl, hv⟩
theorem allAgain_mem {l : List In} {i : In} (a : allAgain l env h) (hi : i ∈ l) : again i env h := by
  induction l with
  | nil => cases hi
  | cons x l ih =>
    simp only [allAgain] at a
    rcases List.mem_cons.1 hi with rfl | hi
    · exact a.1
    · exact ih a.2 hi

/-- The Inv for what comes behind one operation. -/
theorem Inv.run {Q : Env → Hp → Prop} {m0 : Mu} {Q' : Exit → Act → World → Prop} (F : Fine P n ops mk L)
    (hq : ∀ m' env' h' a' w', m0.le m' → REnv m' n env' a'.tmps → a'.defers = [] → Sim base w0 m' h' w' → Q env' h' → Q' .normal a' w') :
    ∀ (fuel : Nat) (listed : Array Bool) (don C U : List DE) (last : Option Nat) (m : Mu) (env : Env) (h : Hp) (a : Act) (w : World), listed.size = ops.size → U.length + C.length = fuel →
      Inv P base w0 n ops mk L Q m0 (fun i => listed[i]? = some true) don C U last m env h a w → wpAny P .any ops Q' fuel listed a w := by
  intro fuel
  induction fuel with
  | zero =>
    intro listed don C U last m env h a w hls hf I
    have hU : U = [] := List.eq_nil_of_length_eq_zero (by omega)
    have hC : C = [] := List.eq_nil_of_length_eq_zero (by omega)
    subst hU hC
    refine ⟨?_, ?_⟩
    · refine List.eq_nil_iff_forall_not_mem.2 fun j hj => ?_
      obtain ⟨h1, o, ho, _⟩ := mem_ready.1 hj
      have hjl := (Array.getElem?_eq_some_iff.1 ho).1
      have := (I.dn j hjl).2 ⟨by simp, by simp⟩
      simp [Array.getD_eq_getD_getElem?, this] at h1
    · refine hq m env h a w I.le ⟨I.tm.1, fun t v e => I.tm.2 t v e (by simp)⟩ I.df I.sim I.wp
  | succ fuel ih =>
    intro listed don C U last m env h a w hls hf I
    refine ⟨fun hnil => ?_, fun i hi => ?_⟩
    · exfalso
      -- what stands first is ready
      have key : ∀ (p q : List DE) (x : DE), L = p ++ x :: q → (∀ y ∈ p, y ∉ C ∧ y ∉ U) → ¬ (listed[x.ix]? = some true) → False := by
        intro p q x hL hp hx
        obtain ⟨o, ho, _⟩ := F.of x (by rw [hL]; simp)
        have hxl := (Array.getElem?_eq_some_iff.1 ho).1
        have : x.ix ∈ Region.ready .any ops listed := by
          rw [mem_ready]
          refine ⟨?_, o, ho, fun e he hb => ?_⟩
          · have hlt : x.ix < listed.size := by rw [hls]; exact hxl
            rw [Array.getElem?_eq_getElem hlt] at hx
            simp [Array.getD_eq_getD_getElem?, Array.getElem?_eq_getElem hlt]
            simpa using hx
          · have hon := F.pred p x q hL o ho e he hb
            obtain ⟨y, hy, hyi⟩ := List.mem_map.1 hon
            have hyL : y ∈ L := by rw [hL]; simp [hy]
            obtain ⟨oy, hoy, _⟩ := F.of y hyL
            have hyl := (Array.getElem?_eq_some_iff.1 hoy).1
            have hny : ∀ (S : List DE), S ⊆ L → y ∉ S → y.ix ∉ S.map (·.ix) := by
              intro S hS hyS hm
              obtain ⟨z, hz, hzi⟩ := List.mem_map.1 hm
              have := ix_inj F.nodup (hS hz) hyL hzi
              exact hyS (this ▸ hz)
            have hD := (I.dn y.ix hyl).2 ⟨hny C (by rw [I.split]; exact List.subset_append_right _ _) (hp y hy).1, hny U (fun z hz => by rw [I.split]; exact List.mem_append_left _ (I.sub.subset hz)) (hp y hy).2⟩
            rw [hyi] at hD
            simp [Array.getD_eq_getD_getElem?, hD]
        rw [hnil] at this
        cases this
      cases U with
      | nil =>
        cases C with
        | nil => simp at hf
        | cons c C =>
          have hnd := F.nodup
          rw [I.split] at hnd
          refine key don C c I.split (fun y hy => ⟨fun hc => ?_, by simp⟩) (fun hD => ?_)
          · rw [List.map_append, List.nodup_append] at hnd
            exact hnd.2.2 _ (List.mem_map_of_mem hy) _ (List.mem_map_of_mem hc) rfl
          · obtain ⟨o, ho, _⟩ := F.of c (by rw [I.split]; simp)
            exact ((I.dn c.ix (Array.getElem?_eq_some_iff.1 ho).1).1 hD).1 (by simp)
      | cons u U =>
        obtain ⟨r1, r2, hr, hu, hsub⟩ := List.cons_sublist_iff.1 I.sub
        obtain ⟨a1, a2, hr1⟩ := List.append_of_mem hu
        have hL : L = a1 ++ u :: (a2 ++ (r2 ++ C)) := by rw [I.split, hr, hr1]; simp
        refine key a1 _ u hL (fun y hy => ⟨fun hc => ?_, fun hc => ?_⟩) (fun hD => ?_)
        · exact apart_of F.nodup hL hy (y := y) (by simp [hc]) rfl
        · rcases List.mem_cons.1 hc with rfl | hc
          · exact apart_of F.nodup hL hy (y := y) (by simp) rfl
          · exact apart_of F.nodup hL hy (y := y) (by simp [hsub.subset hc]) rfl
        · obtain ⟨o, ho, _⟩ := F.of u (by rw [hL]; simp)
          exact ((I.dn u.ix (Array.getElem?_eq_some_iff.1 ho).1).1 hD).2 (by simp)
    · obtain ⟨h1, o, ho, hpred⟩ := mem_ready.1 hi
      have hil := (Array.getElem?_eq_some_iff.1 ho).1
      have hnD : ¬ (listed[i]? = some true) := by
        intro hD
        simp [Array.getD_eq_getD_getElem?, hD] at h1
      have hpr : ∀ e ∈ o.after, Region.binds .any e = true → listed[e.on]? = some true := by
        intro e he hb
        have := hpred e he hb
        cases hx : listed[e.on]? with
        | none => simp [Array.getD_eq_getD_getElem?, hx] at this
        | some b => simp [Array.getD_eq_getD_getElem?, hx] at this; rw [this]
      have hwait : i ∈ C.map (·.ix) ∨ i ∈ U.map (·.ix) := by
        by_cases hc : i ∈ C.map (·.ix)
        · exact .inl hc
        · by_cases hu : i ∈ U.map (·.ix)
          · exact .inr hu
          · exact absurd ((I.dn i hil).2 ⟨hc, hu⟩) hnD
      obtain ⟨don', C', U', last', env', I', hlen, hcase⟩ := I.settle F ho hpr hwait
      have hls' : (listed.setIfInBounds i true).size = ops.size := by simpa using hls
      have hcl : ∀ (j : Nat) (o2 : Oper), ops[j]? = some o2 → (listed.setIfInBounds i true)[j]? = some true → ∀ e ∈ o2.after, Region.binds .any e = true → (listed.setIfInBounds i true)[e.on]? = some true := by
        intro j o2 ho2 hj e he hb
        rw [setT_get (by rw [hls]; exact hil)] at hj ⊢
        rcases hj with hj | rfl
        · exact .inl (I'.closed j o2 ho2 hj e he hb)
        · rw [ho] at ho2; cases ho2
          exact .inl (hpr e he hb)
      have hlt : ∀ j, (listed.setIfInBounds i true)[j]? = some true → j < ops.size := by
        intro j hj
        have := (Array.getElem?_eq_some_iff.1 hj).1
        omega
      rcases hcase with hu | ⟨c, C2, rfl, hci, hceff⟩
      · -- a read that waited
        obtain ⟨u, huU, hui⟩ := List.mem_map.1 hu
        obtain ⟨p, q, hU⟩ := List.append_of_mem huU
        have huL : u ∈ L := by rw [I'.split]; exact List.mem_append_left _ (I'.sub.subset huU)
        obtain ⟨o2, ho2, hcu, _⟩ := F.of u huL
        rw [hui, ho] at ho2
        cases ho2
        have hap := I'.apart F huL (by rw [hui]; exact ho) hpr
        have hpend := I'.pend u huU
        unfold Pend at hpend
        have hpend2 := wpIn_congr (env' := keepE U' env') (noSel_of hcu) (fun t ht => by rw [get_keep, if_pos (hap t ht)]) hpend
        refine wpIn_sound ho hcu I'.keep I'.sim hpend2 ?_
        rintro m2 v v' w2 h2 hm rv s2 ⟨rfl, hv⟩
        obtain ⟨hd1, hd2⟩ := dlt_of hcu
        have hUn : ∀ y ∈ p ++ q, y.ix ≠ u.ix := by
          intro y hy
          have hnU : (U'.map (·.ix)).Nodup := by
            have := F.nodup
            rw [I'.split, List.map_append, List.nodup_append] at this
            exact (I'.sub.map _).nodup this.1
          rw [hU, List.map_append, List.map_cons, List.nodup_append, List.nodup_cons] at hnU
          rcases List.mem_append.1 hy with hy | hy
          · exact hnU.2.2 _ (List.mem_map_of_mem hy) _ (by simp)
          · exact fun e => hnU.2.1.1 (by rw [← e]; exact List.mem_map_of_mem hy)
        refine ih _ don' C' (p ++ q) last' m2 env' h2 _ w2 hls' (by rw [hU] at hlen; simp at hlen ⊢; omega) ⟨I'.split, ?_, ?_, I'.wp, ?_, hlt, hcl, I'.eager, ?_, ⟨by cases o.dst <;> simp [Act.put, I'.tm.1], ?_⟩, ?_, s2, Mu.le_trans I'.le hm⟩
        · exact List.Sublist.trans (by rw [hU]; exact List.Sublist.append (List.Sublist.refl _) (List.sublist_cons_self _ _)) I'.sub
        · intro y hy; exact I'.quiet y (by rw [hU]; rcases List.mem_append.1 hy with h | h <;> simp [h])
        · intro j hj
          rw [setT_get (by rw [hls]; exact hil), I'.dn j hj, hU]
          simp only [List.map_append, List.map_cons, List.mem_append, List.mem_cons]
          constructor
          · rintro (⟨h1, h2⟩ | rfl)
            · exact ⟨h1, fun h => h2 (h.elim .inl fun h => .inr (.inr h))⟩
            · refine ⟨fun hc => ?_, fun hc => ?_⟩
              · obtain ⟨y, hy, hyi⟩ := List.mem_map.1 hc
                exact apart_of F.nodup I'.split (I'.sub.subset huU) hy (by rw [hui, hyi])
              · rcases hc with hc | hc
                · obtain ⟨y, hy, hyi⟩ := List.mem_map.1 hc
                  exact hUn y (List.mem_append_left _ hy) (by rw [hyi, hui])
                · obtain ⟨y, hy, hyi⟩ := List.mem_map.1 hc
                  exact hUn y (List.mem_append_right _ hy) (by rw [hyi, hui])
          · rintro ⟨h1, h2⟩
            by_cases hji : j = i
            · exact .inr hji
            · exact .inl ⟨h1, fun h => h.elim (fun h => h2 (.inl h)) fun h => h.elim (fun h => hji (by rw [h, hui])) fun h => h2 (.inr h)⟩
        · intro y hy; exact I'.pend y (by rw [hU]; rcases List.mem_append.1 hy with h | h <;> simp [h])
        · intro t x e hne
          by_cases hut : u.i.d = some t
          · have hx := hv t hut
            rw [e] at hx
            cases hx
            rw [hd1] at hut
            refine ⟨v', ?_, rv⟩
            simp [hut, Act.put, I'.tm.1, hd2 t hut]
          · obtain ⟨x', h1, h2⟩ := I'.tm.2 t x e (by
              intro y hy
              rw [hU] at hy
              rcases List.mem_append.1 hy with h | h
              · exact hne y (by simp [h])
              · rcases List.mem_cons.1 h with rfl | h
                · exact hut
                · exact hne y (by simp [h]))
            refine ⟨x', ?_, h2.mono hm⟩
            rw [hd1] at hut
            cases hdd : o.dst with
            | none => exact h1
            | some d => simp only [Act.put]; rw [Array.getElem?_setIfInBounds, if_neg (fun e => hut (by rw [hdd, e]))]; exact h1
        · have := I'.df; cases o.dst <;> exact this
      · -- the next write
        have hcL : c ∈ L := by rw [I'.split]; simp
        obtain ⟨o2, ho2, hcu, _⟩ := F.of c hcL
        rw [hci, ho] at ho2
        cases ho2
        have hap := I'.apart F hcL (by rw [hci]; exact ho) hpr
        have hw := I'.wp
        simp only [wpD] at hw
        have hw1 : wpIn P (ACall P) c.i env' h (fun v h' => (allAgain c.re env' h' ∧ wpD P (ACall P) C2 (env'.put c.i.d v) h' Q) ∧ (effIn c.i = false → h' = h)) := by
          by_cases hef : effIn c.i = true
          · exact wpIn_mono hw fun v h' hh => ⟨hh, fun he => by rw [hef] at he; cases he⟩
          · have hqq : pureIn c.i = true ∨ readIn c.i = true := by
              cases hp : pureIn c.i with
              | true => exact .inl rfl
              | false => right; simpa [effIn, hp] using hef
            obtain ⟨v, hR, hv⟩ := quiet_in hqq hw
            refine wpIn_mono hv ?_
            rintro u h' ⟨rfl, rfl⟩
            exact ⟨hR, fun _ => rfl⟩
        have hw2 := wpIn_congr (env' := keepE U' env') (noSel_of hcu) (fun t ht => by rw [get_keep, if_pos (hap t ht)]) hw1
        refine wpIn_sound ho hcu I'.keep I'.sim hw2 ?_
        rintro m2 v v' w2 h2 hm rv s2 ⟨⟨hag, hwD⟩, hsame⟩
        obtain ⟨hd1, hd2⟩ := dlt_of hcu
        have hsp : L = (don' ++ [c]) ++ C2 := by rw [I'.split]; simp
        have keepU : ∀ u ∈ U', ∀ t, (t ∈ looks u.i ∨ u.i.d = some t) → (env'.put c.i.d v).get t = env'.get t := by
          intro u hu t ht
          refine get_put_ne fun hd => ?_
          obtain ⟨p, q, hpq⟩ := List.append_of_mem (I'.sub.subset hu)
          have := ((F.ssa p u (q ++ c :: C2) (by rw [I'.split, hpq]; simp)).2 c (by simp) t hd).resolve_right (fun h => by
            have hb := h.2
            rw [hci] at hb
            have hD := F.mask _ I'.closed i o ho hpr u.ix hb
            have huL : u ∈ L := by rw [I'.split]; exact List.mem_append_left _ (I'.sub.subset hu)
            obtain ⟨ou, hou, _⟩ := F.of u huL
            exact ((I'.dn u.ix (Array.getElem?_eq_some_iff.1 hou).1).1 hD).2 (List.mem_map_of_mem hu))
          rcases ht with ht | ht
          · exact this.1 ht
          · exact this.2 ht
        have he := I'.eager
        simp only [eagerOk, Bool.and_eq_true, hceff, if_true] at he
        refine ih _ (don' ++ [c]) C2 U' (some c.ix) m2 (env'.put c.i.d v) h2 _ w2 hls' (by simp at hlen ⊢; omega) ⟨hsp, List.Sublist.trans I'.sub (List.sublist_append_left _ _), I'.quiet, hwD, ?_, hlt, hcl, he.2, ?_, ⟨by cases o.dst <;> simp [Act.put, I'.tm.1], ?_⟩, ?_, s2, Mu.le_trans I'.le hm⟩
        · intro j hj
          rw [setT_get (by rw [hls]; exact hil), I'.dn j hj]
          simp only [List.map_cons, List.mem_cons]
          constructor
          · rintro (⟨h1, h2⟩ | rfl)
            · exact ⟨fun h => h1 (.inr h), h2⟩
            · refine ⟨fun hc => ?_, fun hc => ?_⟩
              · obtain ⟨y, hy, hyi⟩ := List.mem_map.1 hc
                exact apart_of F.nodup hsp (x := c) (by simp) hy (by rw [hci, hyi])
              · obtain ⟨y, hy, hyi⟩ := List.mem_map.1 hc
                exact apart_of F.nodup I'.split (I'.sub.subset hy) (y := c) (by simp) (by rw [hci, hyi])
          · rintro ⟨h1, h2⟩
            by_cases hji : j = i
            · exact .inr hji
            · exact .inl ⟨fun h => h.elim (fun h => hji (by rw [h, hci])) h1, h2⟩
        · intro u hu
          have huL : u ∈ L := by rw [I'.split]; exact List.mem_append_left _ (I'.sub.subset hu)
          obtain ⟨ou, hou, hcou, hqu⟩ := F.of u huL
          have hp := I'.pend u hu
          have hp2 : Pend P env' h2 u.i := by
            by_cases hpu : pureIn u.i = true
            · exact pend_pure hpu hp
            · have hru : readIn u.i = true := (hqu (I'.quiet u hu)).resolve_left hpu
              by_cases hef : effIn c.i = true
              case neg => rw [hsame (by simpa using hef)]; exact hp
              refine pend_again hru hp (allAgain_mem hag ?_)
              refine F.re don' c C2 I'.split hceff hef u (I'.sub.subset hu) (I'.quiet u hu) (by simpa using hpu) ?_
              cases hb : (mk c.ix).testBit u.ix with
              | false => rfl
              | true =>
                rw [hci] at hb
                have hD := F.mask _ I'.closed i o ho hpr u.ix hb
                exact absurd (List.mem_map_of_mem hu) ((I'.dn u.ix (Array.getElem?_eq_some_iff.1 hou).1).1 hD).2
          unfold Pend at hp2 ⊢
          refine wpIn_congr (noSel_of hcou) (fun t ht => (keepU u hu t (.inl ht)).symm) (wpIn_mono hp2 ?_)
          rintro v2 h3 ⟨rfl, hg⟩
          exact ⟨rfl, fun d hd => by rw [keepU u hu d (.inr hd)]; exact hg d hd⟩
        · intro t x e hne
          by_cases hut : c.i.d = some t
          · rw [hut, get_put_same] at e
            cases e
            rw [hd1] at hut
            refine ⟨v', ?_, rv⟩
            simp [hut, Act.put, I'.tm.1, hd2 t hut]
          · rw [get_put_ne hut] at e
            obtain ⟨x', h1, h2⟩ := I'.tm.2 t x e hne
            refine ⟨x', ?_, h2.mono hm⟩
            rw [hd1] at hut
            cases hdd : o.dst with
            | none => exact h1
            | some d => simp only [Act.put]; rw [Array.getElem?_setIfInBounds, if_neg (fun e => hut (by rw [hdd, e]))]; exact h1
        · have := I'.df; cases o.dst <;> exact this
end
end Go.Proofs.YtnebdnbglggdkaaDoorW.Am
