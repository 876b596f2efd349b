/- Arguments of plain types of any depth (numbers, strings, structs, arrays, slices), opened. -/
import Derived.Test.YtnebdnbglggdkaaDoorAmLw
import Derived.Test.YtnebdnbglggdkaaDoorAmRw
import Derived.OpenShut
import Derived.ChangeArms
import Derived.DataReads
namespace Go.Proofs.YtnebdnbglggdkaaDoorW.Am
open Go Go.RowKit
/-- Parts, one behind the other. -/
def Fld (T : TypeId → List Value → Prop) : List TypeId → List Value → Prop
  | [], cs => cs = []
  | t :: r, cs => ∃ a b, cs = a ++ b ∧ T t a ∧ Fld T r b
/-- What a value of a plain type is, over an abstract heap. -/
def Tv (P : Program) (h : Hp) : Nat → TypeId → List Value → Prop
  | 0, _, _ => False
  | n + 1, t, cs => match P.underlying t with
    | some .bool => ∃ b, cs = [.bool b]
    | some (.int k) => ∃ x, cs = [.int k x] ∧ (Lit.int k x).wf = true
    | some .string => ∃ s, cs = [.string s] ∧ s.size ≤ maxLen
    | some (.slice e) => ∃ s us, cs = [s] ∧ RR (P.cellsOf e) h s us ∧ (∀ u ∈ us, Tv P h n e u) ∧ us.length ≤ maxLen ∧ ∃ x c, s = .slice x us.length c ∧ us.length ≤ c
    | some (.struct fs) => Fld (Tv P h n) (fs.toList.map (·.type)) cs
    | some (.array m e) => ∃ us : List (List Value), cs = us.flatten ∧ us.length = m ∧ ∀ u ∈ us, Tv P h n e u
    | _ => False
def offs (P : Program) (pl : TypeId → Bool) : Nat → List Field → Nat → Bool
  | o, [], z => o == z
  | o, f :: r, z => f.offset == o && pl f.type && offs P pl (o + P.cellsOf f.type) r z
/-- Which types are plain. -/
def plT (P : Program) : Nat → TypeId → Bool
  | 0, _ => false
  | n + 1, t => match P.underlying t with
    | some .bool | some (.int _) | some .string => true
    | some (.slice e) => decide (0 < P.cellsOf e) && plT P n e
    | some (.struct fs) => offs P (plT P n) 0 fs.toList (P.cellsOf t)
    | some (.array m e) => decide (P.cellsOf t = m * P.cellsOf e) && plT P n e
    | _ => false
theorem Fld.mono {T T' : TypeId → List Value → Prop} (h : ∀ t cs, T t cs → T' t cs) : ∀ {l : List TypeId} {cs : List Value}, Fld T l cs → Fld T' l cs
  | [], _, e => e
  | _ :: _, _, ⟨a, b, e, x, y⟩ => ⟨a, b, e, h _ _ x, Fld.mono h y⟩
theorem Tv.ext {P : Program} {h g : Hp} (x : Ext h g) : ∀ {n : Nat} {t : TypeId} {cs : List Value}, Tv P h n t cs → Tv P g n t cs
  | 0, _, _, e => e
  | n + 1, t, cs, e => by
    unfold Tv at e ⊢
    split at e
    · exact e
    · exact e
    · exact e
    · obtain ⟨s, us, e1, e2, e3, e4⟩ := e
      exact ⟨s, us, e1, e2.ext x, fun u hu => (e3 u hu).ext x, e4⟩
    · exact e.mono fun _ _ y => y.ext x
    · obtain ⟨us, e1, e2, e3⟩ := e
      exact ⟨us, e1, e2, fun u hu => (e3 u hu).ext x⟩
    · exact e
theorem Fld.one {T : TypeId → List Value → Prop} (h : ∀ t cs, T t cs → cs.all Am.one = true) : ∀ {l : List TypeId} {cs : List Value}, Fld T l cs → cs.all Am.one = true
  | [], _, e => by subst e; rfl
  | _ :: _, _, ⟨a, b, e, x, y⟩ => by subst e; rw [List.all_append, h _ _ x, Fld.one h y]; rfl
theorem flat_one {us : List (List Value)} (h : ∀ u ∈ us, u.all one = true) : us.flatten.all one = true := by
  rw [List.all_eq_true]
  intro v hv
  obtain ⟨u, hu, hv⟩ := List.mem_flatten.1 hv
  exact List.all_eq_true.1 (h u hu) v hv
theorem Tv.one {P : Program} {h : Hp} : ∀ {n : Nat} {t : TypeId} {cs : List Value}, Tv P h n t cs → cs.all Am.one = true
  | 0, _, _, e => e.elim
  | n + 1, t, cs, e => by
    unfold Tv at e
    split at e
    · obtain ⟨b, rfl⟩ := e; rfl
    · obtain ⟨b, rfl, _⟩ := e; rfl
    · obtain ⟨b, rfl, _⟩ := e; rfl
    · obtain ⟨s, us, rfl, e2, _⟩ := e
      simp [e2.one]
    · exact e.one fun _ _ y => y.one
    · obtain ⟨us, rfl, _, e3⟩ := e
      exact flat_one fun u hu => (e3 u hu).one
    · exact e.elim
/-- Windows of the world, each a row of abstract cells. -/
def Wn (W : World) (rs : List Ro) : Prop := ∀ (j : Nat) l cs, rs[j]? = some (some (l, cs)) → l.blk < W.heap.size ∧ ∀ (i : Nat) v, cs[i]? = some v → ∃ v', W.cell? ⟨l.blk, l.off + i, none⟩ = some v' ∧ RV (roM rs) v v'
theorem Wn.nil (W : World) : Wn W [] := fun _ _ _ h => by simp at h
theorem roM_app (rs ms : List Ro) : (roM rs).le (roM (rs ++ ms)) := by
  refine ⟨fun i l e => ?_, fun i b e => by simp [roM] at e⟩
  simp only [roM] at e ⊢
  split at e
  · next l' cs hj =>
    have hi := (List.getElem?_eq_some_iff.1 hj).1
    rw [List.getElem?_append_left hi, hj]
    exact e
  · cases e
theorem roN_app (rs ms : List Ro) : Ext (roN rs) (roN (rs ++ ms)) := by
  refine ⟨by simp [roN], fun i hi => ?_⟩
  have hi : i < rs.length := hi
  simp only [roN]
  rw [List.getElem?_append_left hi]
theorem Wn.snoc {W : World} {rs : List Ro} (w : Wn W rs) {l : Loc} {cs : List Value} (hb : l.blk < W.heap.size) (hc : ∀ (i : Nat) v, cs[i]? = some v → ∃ v', W.cell? ⟨l.blk, l.off + i, none⟩ = some v' ∧ RV (roM rs) v v') : Wn W (rs ++ [some (l, cs)]) := by
  intro j l' cs' hj
  have hm := roM_app rs [some (l, cs)]
  by_cases hjl : j < rs.length
  · rw [List.getElem?_append_left hjl] at hj
    obtain ⟨h1, h2⟩ := w j l' cs' hj
    exact ⟨h1, fun i v hv => by obtain ⟨v', e1, e2⟩ := h2 i v hv; exact ⟨v', e1, e2.mono hm⟩⟩
  · rw [List.getElem?_append_right (by omega)] at hj
    have h0 : j - rs.length = 0 := by
      have := (List.getElem?_eq_some_iff.1 hj).1
      simp at this
      omega
    rw [h0] at hj
    cases hj
    exact ⟨hb, fun i v hv => by obtain ⟨v', e1, e2⟩ := hc i v hv; exact ⟨v', e1, e2.mono hm⟩⟩
theorem wn_sim {W : World} {rs : List Ro} (h : Wn W rs) (t : Tb W.heap.size W) : Sim W.heap.size W (roM rs) (roN rs) W := by
  refine ⟨Bel.refl t, Nat.le_refl _, fun i hi => ?_, fun i l e => ?_, MS.empty _ _ _ _, fun i ob e _ => ?_, fun i j x y l l' e e' hij hrw => ?_⟩
  · have : rs[i]? = none := List.getElem?_eq_none hi
    simp [roM, this]
  · simp only [roM] at e
    split at e
    · next l' cs hj => cases e; exact (h _ _ _ hj).1
    · cases e
  · obtain ⟨l, hj, hw⟩ := roN_of e
    exact ⟨l, (roN_get hj).2, fun k v hv => (h _ _ _ hj).2 k v hv, fun hr => by rw [hw] at hr; cases hr⟩
  · obtain ⟨_, _, hw⟩ := roN_of e
    rw [hw] at hrw; cases hrw
theorem law_op {P : Program} {f : FuncId} {W : World} {rs : List Ro} {args args' : List Value} (h : Wn W rs) (ra : RVs (roM rs) args args') (c : ACall P f args (roN rs) (fun v _ => v = .bool true)) (t : Tb W.heap.size W := by first | exact fun _ _ => trivial | assumption) :
    Calls P f args'.toArray W fun e W' => e = .returned (.bool true) ∧ Below W.heap.size W W' := by
  refine (c.2 W.heap.size W _ W _ ra (wn_sim h t)).mono ?_
  rintro e W' ⟨m', v, v', h', rfl, _, rv, s, rfl⟩
  cases rv
  exact ⟨rfl, s.below.bl⟩
/-- Rows of cells, part by part. -/
def R2 (m : Mu) (us cs : List (List Value)) : Prop := us.length = cs.length ∧ ∀ (i : Nat) u c, us[i]? = some u → cs[i]? = some c → RVs m u c
theorem R2.cons {m : Mu} {u c : List Value} {us cs : List (List Value)} (a : RVs m u c) (b : R2 m us cs) : R2 m (u :: us) (c :: cs) := by
  refine ⟨by simp [b.1], fun i => ?_⟩
  cases i with
  | zero => intro x y e e'; simp at e e'; subst e e'; exact a
  | succ i => intro x y e e'; simp at e e'; exact b.2 i x y e e'
theorem R2.flat {m : Mu} : ∀ {us cs : List (List Value)}, R2 m us cs → RVs m us.flatten cs.flatten
  | [], [], _ => RVs.nil m
  | [], _ :: _, h => by have := h.1; simp at this
  | _ :: _, [], h => by have := h.1; simp at this
  | u :: us, c :: cs, h => by
    rw [List.flatten_cons, List.flatten_cons]
    exact (h.2 0 u c rfl rfl).append (R2.flat ⟨by have := h.1; simpa using this, fun i x y e e' => h.2 (i + 1) x y (by simpa using e) (by simpa using e')⟩)
theorem flat_get {α : Type} {k : Nat} : ∀ {css : List (List α)}, (∀ c ∈ css, c.length = k) → ∀ i, i < css.length * k → css.flatten[i]? = (css[i / k]?).bind (·[i % k]?)
  | [], _, i, h => by simp at h
  | c :: r, hc, i, h => by
    have hl := hc c List.mem_cons_self
    rw [List.length_cons, Nat.add_mul, Nat.one_mul] at h
    rw [List.flatten_cons]
    by_cases hi : i < k
    · rw [List.getElem?_append_left (by omega), Nat.div_eq_of_lt hi, Nat.mod_eq_of_lt hi]
      rfl
    · have hk : 0 < k := by
        rcases Nat.eq_zero_or_pos k with e | e
        · subst e; simp at h
        · exact e
      have hki : k ≤ i := by omega
      have e1 : i / k = (i - k) / k + 1 := Nat.div_eq_sub_div hk hki
      have e2 : i % k = (i - k) % k := Nat.mod_eq_sub_mod hki
      rw [List.getElem?_append_right (by omega), hl, flat_get (fun x hx => hc x (List.mem_cons_of_mem _ hx)) (i - k) (by omega), e1, e2, List.getElem?_cons_succ]
theorem add_add (a : Addr) (x y : Nat) : (a.add x).add y = a.add (x + y) := by
  by_cases hx : x = 0 <;> by_cases hy : y = 0 <;> simp [Addr.add, hx, hy, Nat.add_assoc]
theorem cell_at {W : World} {a : Addr} {v : Value} (h : W.cell? a = some v) : a.spot = none ∧ a.block < W.heap.size := by
  unfold World.cell? at h
  split at h
  · next hb =>
    refine ⟨?_, (Array.getElem?_eq_some_iff.1 hb).1⟩
    split at h
    · cases h
    · next hs => simpa using hs
  · cases h
theorem flat_len {α : Type} {k : Nat} : ∀ {css : List (List α)}, (∀ c ∈ css, c.length = k) → css.flatten.length = css.length * k
  | [], _ => by simp
  | c :: r, h => by
    rw [List.flatten_cons, List.length_append, flat_len fun x hx => h x (List.mem_cons_of_mem _ hx), h c List.mem_cons_self, List.length_cons, Nat.add_mul, Nat.one_mul, Nat.add_comm]
theorem chunks {α : Type} {k : Nat} : ∀ (n : Nat) (cs : List α), cs.length = n * k → ((List.range n).map fun i => (cs.drop (i * k)).take k).flatten = cs
  | 0, cs, h => by
    rw [Nat.zero_mul] at h
    rw [List.eq_nil_of_length_eq_zero h]
    rfl
  | n + 1, cs, h => by
    have e : ((List.range n).map fun i => (cs.drop ((i + 1) * k)).take k) = ((List.range n).map fun i => ((cs.drop k).drop (i * k)).take k) := by
      refine List.map_congr_left fun i _ => ?_
      rw [List.drop_drop, Nat.add_mul, Nat.one_mul, Nat.add_comm]
    have h' := h
    rw [Nat.add_mul, Nat.one_mul] at h'
    have ih := chunks (k := k) n (cs.drop k) (by rw [List.length_drop]; omega)
    rw [List.range_succ_eq_map, List.map_cons, List.map_map, List.flatten_cons]
    show (cs.drop (0 * k)).take k ++ ((List.range n).map fun i => (cs.drop ((i + 1) * k)).take k).flatten = cs
    rw [e, ih, Nat.zero_mul, List.drop_zero, List.take_append_drop]
theorem open_list {W : World} {T : Hp → List Value → Prop} (mono : ∀ h g cs, Ext h g → T h cs → T g cs) {D : List Value → Prop}
    (ih : ∀ cs rs, D cs → Wn W rs → ∃ more cs', Wn W (rs ++ more) ∧ RVs (roM (rs ++ more)) cs' cs ∧ T (roN (rs ++ more)) cs') :
    ∀ css rs, (∀ c ∈ css, D c) → Wn W rs → ∃ more uss, Wn W (rs ++ more) ∧ R2 (roM (rs ++ more)) uss css ∧ ∀ u ∈ uss, T (roN (rs ++ more)) u
  | [], rs, _, w => ⟨[], [], by simpa using w, ⟨rfl, by simp⟩, by simp⟩
  | c :: r, rs, hd, w => by
    obtain ⟨m1, u, w1, r1, t1⟩ := ih c rs (hd c List.mem_cons_self) w
    obtain ⟨m2, us, w2, r2, t2⟩ := open_list mono ih r (rs ++ m1) (fun x hx => hd x (List.mem_cons_of_mem _ hx)) w1
    refine ⟨m1 ++ m2, u :: us, ?_⟩
    rw [← List.append_assoc]
    refine ⟨w2, R2.cons (r1.mono (roM_app _ _)) r2, fun x hx => ?_⟩
    rcases List.mem_cons.1 hx with rfl | hx
    · exact mono _ _ _ (roN_app _ _) t1
    · exact t2 x hx
theorem offs_le {P : Program} {pl : TypeId → Bool} : ∀ {fs : List Field} {o z : Nat}, offs P pl o fs z = true → o ≤ z ∧ ∀ f ∈ fs, o ≤ f.offset
  | [], o, z, h => by
    have : o = z := by simpa [offs] using h
    exact ⟨by omega, by simp⟩
  | f :: r, o, z, h => by
    simp only [offs, Bool.and_eq_true, beq_iff_eq] at h
    obtain ⟨h1, h2⟩ := offs_le h.2
    refine ⟨by omega, fun g hg => ?_⟩
    rcases List.mem_cons.1 hg with rfl | hg
    · omega
    · have := h2 g hg; omega
theorem open_fld {P : Program} {W : World} {pl : TypeId → Bool} {T : Hp → TypeId → List Value → Prop} (mono : ∀ h g t cs, Ext h g → T h t cs → T g t cs) {D : TypeId → List Value → Prop}
    (ih : ∀ t cs rs, pl t = true → D t cs → Wn W rs → ∃ more cs', Wn W (rs ++ more) ∧ RVs (roM (rs ++ more)) cs' cs ∧ T (roN (rs ++ more)) t cs') :
    ∀ (fs : List Field) (o z : Nat) (cs : List Value) rs, offs P pl o fs z = true → cs.length + o = z → (∀ f ∈ fs, D f.type ((cs.drop (f.offset - o)).take (P.cellsOf f.type))) → Wn W rs →
      ∃ more cs', Wn W (rs ++ more) ∧ RVs (roM (rs ++ more)) cs' cs ∧ Fld (T (roN (rs ++ more))) (fs.map (·.type)) cs'
  | [], o, z, cs, rs, h, hl, _, w => by
    have : o = z := by simpa [offs] using h
    obtain rfl : cs = [] := List.eq_nil_of_length_eq_zero (by omega)
    exact ⟨[], [], by simpa using w, RVs.nil _, rfl⟩
  | f :: r, o, z, cs, rs, h, hl, hd, w => by
    have h' := h
    simp only [offs, Bool.and_eq_true, beq_iff_eq] at h'
    obtain ⟨⟨ho, hp⟩, hr⟩ := h'
    obtain ⟨hz, hge⟩ := offs_le hr
    have hd0 := hd f List.mem_cons_self
    rw [ho, Nat.sub_self, List.drop_zero] at hd0
    obtain ⟨m1, u, w1, r1, t1⟩ := ih f.type _ rs hp hd0 w
    obtain ⟨m2, us, w2, r2, t2⟩ := open_fld mono ih r (o + P.cellsOf f.type) z (cs.drop (P.cellsOf f.type)) (rs ++ m1) hr (by rw [List.length_drop]; omega) (fun g hg => by
      have h1 := hd g (List.mem_cons_of_mem _ hg)
      have h2 := hge g hg
      rw [List.drop_drop, show P.cellsOf f.type + (g.offset - (o + P.cellsOf f.type)) = g.offset - o by omega]
      exact h1) w1
    refine ⟨m1 ++ m2, u ++ us, ?_⟩
    rw [← List.append_assoc]
    refine ⟨w2, ?_, u, us, rfl, mono _ _ _ _ (roN_app _ _) t1, t2⟩
    have := (r1.mono (roM_app (rs ++ m1) m2)).append r2
    rwa [List.take_append_drop] at this
section
variable {P : Program} {CT : FuncId → List Value → Hp → (Value → Hp → Prop) → Prop} {d : Option Nat} {xs : List Operand} {env : Env} {h : Hp} {R : Value → Hp → Prop}
/-- l[:m] of a row that is read. -/
theorem w_slP {k m n c : Nat} {x : Option Addr} {us : List (List Value)} (e : mapF env xs = some [.slice x n c, .int .i64 (m : Int)]) (r : RR k h (.slice x n c) us) (hc : us.length ≤ c) (hm : m ≤ us.length)
    (nx : ∀ s', RR k h s' (us.take m) → R s' h) : WI P CT ⟨d, none, .op (.slc k false true false) xs⟩ env h R := by
  have hbd : bounds us.length c none (some (.int .i64 (m : Int))) none = some (0, m, c) := by
    have : (0 : Int) ≤ m ∧ (m : Int) ≤ c := by omega
    simp [bounds, bnd, this]
  rcases r with ⟨e1, e2⟩ | ⟨i, o, sp, c', e1, hi, hsp, hr⟩
  · cases e1
    subst e2
    have hm0 : m = 0 := by simpa using hm
    subst hm0
    refine w_op (v := .slice none 0 0) (h' := h) ?_ (nx _ (.inl ⟨rfl, rfl⟩))
    unfold opF
    rw [e]
    have hbd : bounds 0 0 none (some (.int .i64 ((0 : Nat) : Int))) none = some (0, 0, 0) := hbd
    simp only [stepK, get3, takeB, sliceA, hbd, Option.map_some]
  · cases e1
    have hrd : ∀ (y : Nat) u, (us.take m)[y]? = some u → h.rd i (o + y * k) k = some u := by
      intro y u hu
      rw [List.getElem?_take] at hu
      split at hu
      · exact hr y u hu
      · cases hu
    have hl : (us.take m).length = m := by rw [List.length_take, Nat.min_eq_left hm]
    rcases sp with _ | _ | sp
    · refine w_op (v := .slice (some ⟨i, o, none⟩) m c) (h' := h) ?_ (nx _ (.inr ⟨i, o, none, c, by rw [hl], hi, fun _ => rfl, hrd⟩))
      unfold opF
      rw [e]
      simp only [stepK, get3, takeB, sliceA, hbd, Option.map_some, Nat.sub_zero]
      simp
    · refine w_op (v := .slice (some ⟨i, o, some (if c = 0 then 1 else 0)⟩) m c) (h' := h) ?_ (nx _ (.inr ⟨i, o, _, c, by rw [hl], hi, fun hne => ?_, hrd⟩))
      · unfold opF
        rw [e]
        simp only [stepK, get3, takeB, sliceA, hbd, Option.map_some, Nat.sub_zero]
        simp
      · have hpos := List.length_pos_iff.2 hne
        rw [hl] at hpos
        rw [if_neg (by omega)]
        rfl
    · have hu0 : us = [] := by
        by_cases h0 : us = []
        · exact h0
        · have := hsp h0
          simp at this
      subst hu0
      have hm0 : m = 0 := by simpa using hm
      subst hm0
      refine w_op (v := .slice (some ⟨i, o, some (sp + 1)⟩) 0 c) (h' := h) ?_ (nx _ (.inr ⟨i, o, some (sp + 1), c, rfl, hi, fun h0 => absurd rfl h0, fun y u hu => by cases hu⟩))
      unfold opF
      rw [e]
      simp only [stepK, get3, takeB, sliceA, hbd, Option.map_some, Nat.sub_zero]
/-- l[m:] of a row that is read. -/
theorem w_slS {k m n c : Nat} {x : Option Addr} {us : List (List Value)} (e : mapF env xs = some [.slice x n c, .int .i64 (m : Int)]) (r : RR k h (.slice x n c) us) (hc : us.length ≤ c) (hm : m ≤ us.length)
    (nx : ∀ s', RR k h s' (us.drop m) → R s' h) : WI P CT ⟨d, none, .op (.slc k true false false) xs⟩ env h R := by
  have hbd : bounds us.length c (some (.int .i64 (m : Int))) none none = some (m, us.length, c) := by
    have : (0 : Int) ≤ m ∧ (m : Int) ≤ us.length := by omega
    have h2 : ¬ c < us.length := by omega
    simp [bounds, bnd, this, h2]
  rcases r with ⟨e1, e2⟩ | ⟨i, o, sp, c', e1, hi, hsp, hr⟩
  · cases e1
    subst e2
    have hm0 : m = 0 := by simpa using hm
    subst hm0
    refine w_op (v := .slice none 0 0) (h' := h) ?_ (nx _ (.inl ⟨rfl, rfl⟩))
    unfold opF
    rw [e]
    have hbd : bounds 0 0 (some (.int .i64 ((0 : Nat) : Int))) none none = some (0, 0, 0) := hbd
    simp only [stepK, get3, takeB, sliceA, hbd, Option.map_some]
  · cases e1
    have hrd : ∀ (y : Nat) u, (us.drop m)[y]? = some u → h.rd i (o + m * k + y * k) k = some u := by
      intro y u hu
      rw [List.getElem?_drop] at hu
      have := hr (m + y) u hu
      rwa [Nat.add_mul, ← Nat.add_assoc] at this
    have hl : (us.drop m).length = us.length - m := by rw [List.length_drop]
    rcases sp with _ | _ | sp
    · by_cases hcm : c = m
      · have hum : us.length = m := by omega
        have hd0 : us.drop m = [] := List.eq_nil_of_length_eq_zero (by rw [hl]; omega)
        refine w_op (v := .slice (some ⟨i, o, none⟩) (us.length - m) (c - m)) (h' := h) ?_ (nx _ (.inr ⟨i, o, none, c - m, by rw [hl], hi, fun _ => rfl, fun y u hu => by rw [hd0] at hu; cases hu⟩))
        unfold opF
        rw [e]
        simp only [stepK, get3, takeB, sliceA, hbd, Option.map_some, if_pos hcm]
      · refine w_op (v := .slice (some ⟨i, o + m * k, none⟩) (us.length - m) (c - m)) (h' := h) ?_ (nx _ (.inr ⟨i, o + m * k, none, c - m, by rw [hl], hi, fun _ => rfl, hrd⟩))
        unfold opF
        rw [e]
        simp only [stepK, get3, takeB, sliceA, hbd, Option.map_some, if_neg hcm]
    · refine w_op (v := .slice (some ⟨i, o + m * k, some (if c = m then 1 else 0)⟩) (us.length - m) (c - m)) (h' := h) ?_ (nx _ (.inr ⟨i, o + m * k, _, c - m, by rw [hl], hi, fun hne => ?_, hrd⟩))
      · unfold opF
        rw [e]
        simp only [stepK, get3, takeB, sliceA, hbd, Option.map_some]
        simp
      · have hpos := List.length_pos_iff.2 hne
        rw [hl] at hpos
        rw [if_neg (by omega)]
        rfl
    · have hu0 : us = [] := by
        by_cases h0 : us = []
        · exact h0
        · have := hsp h0
          simp at this
      subst hu0
      have hm0 : m = 0 := by simpa using hm
      subst hm0
      refine w_op (v := .slice (some ⟨i, o, some (sp + 1)⟩) (([] : List (List Value)).length - 0) (c - 0)) (h' := h) ?_ (nx _ (.inr ⟨i, o, some (sp + 1), c - 0, rfl, hi, fun h0 => absurd rfl h0, fun y u hu => by cases hu⟩))
      unfold opF
      rw [e]
      simp only [stepK, get3, takeB, sliceA, hbd, Option.map_some]
end
theorem open_gen {H : Type} {enc : TypeId × Value → H} {P : Program} {W : World} {held : Bool} (hz : 0 < W.heap.size) : ∀ (n : Nat) (t : TypeId) (cs : List Value) (x : DataW H × List MemPlace) (fuel : Nat) (rs : List Ro), plT P n t = true →
    DataW.trod enc P W 0 (fun _ => true) held fuel t cs = some x → Wn W rs → ∃ more cs', Wn W (rs ++ more) ∧ RVs (roM (rs ++ more)) cs' cs ∧ Tv P (roN (rs ++ more)) n t cs'
  | 0, _, _, _, _, _, h, _, _ => by simp [plT] at h
  | n + 1, t, cs, x, fuel, rs, hp, hx, w => by
    unfold plT at hp
    unfold Tv
    split at hp
    · next ht =>
      obtain ⟨b, rfl, _⟩ := DataW.trod_bool ht hx
      exact ⟨[], [.bool b], by simpa using w, RVs.cons (.bool b) (RVs.nil _), ⟨b, rfl⟩⟩
    · next k ht =>
      obtain ⟨b, rfl, _, hw⟩ := DataW.trod_int ht hx
      exact ⟨[], [.int k b], by simpa using w, RVs.cons (.int k b) (RVs.nil _), ⟨b, rfl, hw⟩⟩
    · next ht =>
      obtain ⟨b, rfl, _, hw⟩ := DataW.trod_string ht hx
      exact ⟨[], [.string b], by simpa using w, RVs.cons (.string b) (RVs.nil _), ⟨b, rfl, hw⟩⟩
    · next e ht =>
      rw [Bool.and_eq_true, decide_eq_true_eq] at hp
      obtain ⟨hk, hp⟩ := hp
      rcases DataW.trod_slice ht hx with ⟨rfl, _⟩ | ⟨a, len, cap, elems, rest, m, _, rfl, _, _, hlc, hcm, hln, hel, hsp, _⟩
      · exact ⟨[], [.slice none 0 0], by simpa using w, RVs.cons (.nils 0 0) (RVs.nil _), _, [], rfl, .inl ⟨rfl, rfl⟩, by simp, Nat.zero_le _, _, _, rfl, Nat.le_refl _⟩
      obtain ⟨hrl, hrest⟩ := hsp rfl
      by_cases hc : cap = 0
      · obtain rfl : len = 0 := by omega
        subst hc
        exact ⟨[some (⟨0, 0, 0⟩, [])], [.slice (some ⟨rs.length, 0, some 1⟩) 0 0], w.snoc hz (by simp), RVs.cons (.sliceY (l := ⟨0, 0, 0⟩) a (roN_get (cs := []) (by simp)).2) (RVs.nil _), _, [], rfl,
          .inr ⟨rs.length, 0, some 1, 0, rfl, by simp [roN], fun h => absurd rfl h, fun x u hu => by cases hu⟩, by simp, Nat.zero_le _, _, _, rfl, Nat.le_refl _⟩
      have hcs : ∀ i, i < len → ∃ c, W.cells? 0 (a.add (i * P.cellsOf e)) (P.cellsOf e) = some c ∧ ∃ y, DataW.trod enc P W 0 (fun _ => true) held m e c = some y := by
        intro i hi
        have h1 := hel i hi
        rw [List.getElem?_eq_getElem (by omega), Option.bind_eq_some_iff] at h1
        obtain ⟨c, h2, h3⟩ := h1
        exact ⟨c, h2, _, h3⟩
      have h0 : ∃ c, W.cells? 0 (a.add 0) (P.cellsOf e) = some c := by
        by_cases hl : 0 < len
        · obtain ⟨c, h1, _⟩ := hcs 0 hl
          rw [Nat.zero_mul] at h1
          exact ⟨c, h1⟩
        · have h1 := hrest 0 (by omega)
          rw [List.getElem?_eq_getElem (by omega), Option.bind_eq_some_iff, show len + 0 = 0 by omega, Nat.zero_mul] at h1
          exact ⟨_, h1.choose_spec.1⟩
      obtain ⟨c0, h0⟩ := h0
      obtain ⟨_, hl0, hc0⟩ := World.cells?_some h0
      have h00 := hc0 0 hk
      rw [add_add, List.getElem?_eq_getElem (by omega)] at h00
      have hat := cell_at h00
      have hadd : a.add (0 + 0) = a := by simp [Addr.add]
      rw [hadd] at hat
      obtain ⟨b, off, sp⟩ := a
      obtain ⟨hs, hb⟩ := hat
      have hs : sp = none := hs
      subst hs
      have hb : b < W.heap.size := hb
      obtain ⟨more, uss, w1, r2, t2⟩ := open_list (W := W) (T := fun h c => Tv P h n e c) (fun _ _ _ x y => y.ext x) (D := fun c => c.length = P.cellsOf e ∧ ∃ y, DataW.trod enc P W 0 (fun _ => true) held m e c = some y)
        (fun cs rs d w => open_gen hz n e cs _ m rs hp d.2.choose_spec w) ((List.range len).map fun i => (W.cells? 0 ((⟨b, off, none⟩ : Addr).add (i * P.cellsOf e)) (P.cellsOf e)).getD []) rs (fun c hcm => by
          obtain ⟨i, hi, rfl⟩ := List.mem_map.1 hcm
          rw [List.mem_range] at hi
          obtain ⟨c, h1, h2⟩ := hcs i hi
          rw [h1]
          exact ⟨(World.cells?_some h1).2.1, h2⟩) w
      have hlk : ∀ c ∈ ((List.range len).map fun i => (W.cells? 0 ((⟨b, off, none⟩ : Addr).add (i * P.cellsOf e)) (P.cellsOf e)).getD []), c.length = P.cellsOf e := by
        intro c hcm
        obtain ⟨i, hi, rfl⟩ := List.mem_map.1 hcm
        rw [List.mem_range] at hi
        obtain ⟨c, h1, h2⟩ := hcs i hi
        rw [h1]
        exact (World.cells?_some h1).2.1
      have hul : uss.length = len := by rw [r2.1]; simp
      have hels : Els (P.cellsOf e) uss := by
        intro u hu
        refine ⟨?_, (t2 u hu).one⟩
        obtain ⟨i, hi, rfl⟩ := List.getElem_of_mem hu
        have hi2 : i < ((List.range len).map fun i => (W.cells? 0 ((⟨b, off, none⟩ : Addr).add (i * P.cellsOf e)) (P.cellsOf e)).getD []).length := by rw [← r2.1]; exact hi
        have := (r2.2 i _ _ (List.getElem?_eq_getElem hi) (List.getElem?_eq_getElem hi2)).1
        rw [this]
        exact hlk _ (List.getElem_mem hi2)
      refine ⟨more ++ [some (⟨b, off, 0⟩, uss.flatten)], [.slice (some ⟨(rs ++ more).length, 0, none⟩) len cap], ?_⟩
      rw [← List.append_assoc]
      have hJ : (rs ++ more ++ [some (⟨b, off, 0⟩, uss.flatten)])[(rs ++ more).length]? = some (some (⟨b, off, 0⟩, uss.flatten)) := by simp
      refine ⟨w1.snoc hb fun i v hv => ?_, RVs.cons (.slice (roN_get hJ).2) (RVs.nil _), _, uss, rfl, .inr ⟨(rs ++ more).length, 0, none, cap, by rw [hul], by simp [roN], fun _ => rfl, fun x u hu => rd_row2 (tl := []) (by rw [List.append_nil]; exact (roN_get hJ).1) hels hu⟩, fun u hu => (t2 u hu).ext (roN_app _ _), by omega, _, _, by rw [hul], by omega⟩
      obtain ⟨v', hv', rv⟩ := r2.flat.get hv
      refine ⟨v', ?_, rv⟩
      have hi := (List.getElem?_eq_some_iff.1 hv').1
      rw [flat_len hlk] at hi
      rw [flat_get hlk i hi] at hv'
      have hq : i / P.cellsOf e < len := by
        rw [List.length_map, List.length_range] at hi
        exact Nat.div_lt_of_lt_mul (by rw [Nat.mul_comm]; exact hi)
      obtain ⟨c, h1, _⟩ := hcs _ hq
      rw [List.getElem?_map, List.getElem?_range hq, Option.map_some, h1] at hv'
      have hv' : c[i % P.cellsOf e]? = some v' := hv'
      have h2 := (World.cells?_some h1).2.2 (i % P.cellsOf e) (Nat.mod_lt _ hk)
      rw [add_add, Nat.mul_comm, Nat.div_add_mod, hv'] at h2
      rw [← h2]
      unfold Addr.add
      split
      · next e0 => subst e0; rfl
      · rfl
    · next fs ht =>
      obtain ⟨xs, m, _, _, hl, hlen, hf⟩ := DataW.trod_struct ht hx
      exact open_fld (T := fun h => Tv P h n) (fun _ _ _ _ x y => y.ext x) (D := fun t c => ∃ y, DataW.trod enc P W 0 (fun _ => true) held m t c = some y) (fun t cs rs hp d w => open_gen hz n t cs _ m rs hp d.choose_spec w)
        fs.toList 0 _ cs rs hp (by omega) (fun f hfm => by
          obtain ⟨i, hi, rfl⟩ := List.getElem_of_mem hfm
          have hi2 : i < fs.size := by simpa using hi
          have := hf i _ (Array.getElem?_eq_getElem hi2)
          rw [List.getElem?_eq_getElem (by omega)] at this
          exact ⟨_, by simpa using this⟩) w
    · next m' e ht =>
      rw [Bool.and_eq_true, decide_eq_true_eq] at hp
      obtain ⟨xs, m, _, _, hl, hlen, hf⟩ := DataW.trod_array ht hx
      obtain ⟨more, uss, w1, r2, t2⟩ := open_list (W := W) (T := fun h c => Tv P h n e c) (fun _ _ _ x y => y.ext x) (D := fun c => ∃ y, DataW.trod enc P W 0 (fun _ => true) held m e c = some y)
        (fun cs rs d w => open_gen hz n e cs _ m rs hp.2 d.choose_spec w) ((List.range m').map fun i => (cs.drop (i * P.cellsOf e)).take (P.cellsOf e)) rs (fun c hcm => by
          obtain ⟨i, hi, rfl⟩ := List.mem_map.1 hcm
          rw [List.mem_range] at hi
          have := hf i hi
          rw [List.getElem?_eq_getElem (by omega)] at this
          exact ⟨_, this⟩) w
      refine ⟨more, uss.flatten, w1, ?_, uss, rfl, by rw [r2.1]; simp, t2⟩
      have := r2.flat
      rwa [chunks m' cs (by rw [hl, hp.1])] at this
    · cases hp
end Go.Proofs.YtnebdnbglggdkaaDoorW.Am
