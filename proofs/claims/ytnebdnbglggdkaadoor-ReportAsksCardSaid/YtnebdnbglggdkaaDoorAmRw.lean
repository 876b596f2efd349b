/- Rows of elements of some cells each: rows that grow, rows that are read; append as one step. -/
import Derived.Test.YtnebdnbglggdkaaDoorAmY
namespace Go.Proofs.YtnebdnbglggdkaaDoorW.Am
open Go Go.RowKit
theorem one_cells {v : Value} (h : one v = true) : v.cells = #[v] := by cases v <;> first | rfl | (simp [one] at h)
/-- Elements of k plain cells each. -/
def Els (k : Nat) (us : List (List Value)) : Prop := ∀ u ∈ us, u.length = k ∧ u.all one = true
theorem Els.nil (k : Nat) : Els k [] := fun _ h => by cases h
theorem Els.app {k : Nat} {us vs : List (List Value)} (a : Els k us) (b : Els k vs) : Els k (us ++ vs) := fun u hu => (List.mem_append.1 hu).elim (a u) (b u)
theorem Els.one {k : Nat} {u : List Value} (a : u.length = k) (b : u.all one = true) : Els k [u] := fun x hx => by rw [List.mem_singleton.1 hx]; exact ⟨a, b⟩
theorem Els.len {k : Nat} : ∀ {us : List (List Value)}, Els k us → us.flatten.length = us.length * k
  | [], _ => by simp
  | u :: us, h => by
    rw [List.flatten_cons, List.length_append, Els.len (us := us) (fun x hx => h x (List.mem_cons_of_mem _ hx)), (h u (List.mem_cons_self ..)).1, List.length_cons, Nat.add_mul, Nat.one_mul, Nat.add_comm]
theorem Els.all {k : Nat} : ∀ {us : List (List Value)}, Els k us → us.flatten.all Am.one = true
  | [], _ => rfl
  | u :: us, h => by
    rw [List.flatten_cons, List.all_append, (h u (List.mem_cons_self ..)).2, Els.all (us := us) (fun x hx => h x (List.mem_cons_of_mem _ hx))]; rfl
theorem Els.drop {k : Nat} : ∀ {us : List (List Value)}, Els k us → ∀ i, us.flatten.drop (i * k) = (us.drop i).flatten
  | us, _, 0 => by simp
  | [], _, i + 1 => by simp
  | u :: us, h, i + 1 => by
    have hu := (h u (List.mem_cons_self ..)).1
    rw [List.flatten_cons, List.drop_succ_cons, ← Els.drop (us := us) (fun x hx => h x (List.mem_cons_of_mem _ hx)) i]
    rw [show (i + 1) * k = u.length + i * k by rw [hu, Nat.add_mul, Nat.one_mul, Nat.add_comm], List.drop_append, List.drop_of_length_le (by omega), Nat.add_sub_cancel_left, List.nil_append]
theorem rd_row2 {h : Hp} {i k : Nat} {us : List (List Value)} {tl : List Value} {b : Bool} {e : Nat} (hg : h.get i = some ⟨us.flatten ++ tl, b, e⟩) (he : Els k us) {x : Nat} {u : List Value} (hx : us[x]? = some u) : h.rd i (0 + x * k) k = some u := by
  obtain ⟨hl, rfl⟩ := List.getElem?_eq_some_iff.1 hx
  have hn := he.len
  have hm := (he _ (List.getElem_mem hl)).1
  have hmul : x * k + k ≤ us.length * k := by rw [← Nat.succ_mul]; exact Nat.mul_le_mul_right _ hl
  unfold Hp.rd
  simp only [hg, Nat.zero_add]
  rw [if_pos (by rw [List.length_append]; omega)]
  rw [List.drop_append_of_le_length (by omega), he.drop, List.drop_eq_getElem_cons hl, List.flatten_cons, List.append_assoc]
  rw [List.take_left' hm]
/-- One cell of one element is written. -/
theorem Els.set {k : Nat} : ∀ {us : List (List Value)}, Els k us → ∀ {w : Nat} {u : List Value}, us[w]? = some u → ∀ {f : Nat}, f < k → ∀ v, us.flatten.set (w * k + f) v = (us.set w (u.set f v)).flatten
  | [], _, _, _, hw, _, _, _ => by cases hw
  | x :: us, h, 0, u, hw, f, hf, v => by
    cases hw
    have hx := (h x (List.mem_cons_self ..)).1
    rw [List.flatten_cons, List.set_cons_zero, List.flatten_cons, Nat.zero_mul, Nat.zero_add, List.set_append_left _ _ (by omega)]
  | x :: us, h, w + 1, u, hw, f, hf, v => by
    have hx := (h x (List.mem_cons_self ..)).1
    rw [List.flatten_cons, List.set_cons_succ, List.flatten_cons, List.set_append_right _ _ (by rw [Nat.add_mul, Nat.one_mul]; omega)]
    rw [show (w + 1) * k + f - x.length = w * k + f by rw [Nat.add_mul, Nat.one_mul]; omega]
    rw [Els.set (us := us) (fun x hx => h x (List.mem_cons_of_mem _ hx)) (by simpa using hw) hf v]
theorem Els.put {k : Nat} {us : List (List Value)} (h : Els k us) {w : Nat} {u : List Value} (hu : u.length = k) (ho : u.all Am.one = true) : Els k (us.set w u) := fun x hx => by
  rcases List.mem_or_eq_of_mem_set hx with hx | rfl
  · exact h x hx
  · exact ⟨hu, ho⟩
/-- A row that has grown (elements of k cells): its object's number is from N on. -/
def GR (k N : Nat) (h : Hp) (s : Value) (us : List (List Value)) : Prop :=
  (s = .slice none 0 0 ∧ us = []) ∨ ∃ i, N ≤ i ∧ i < h.nx ∧ s = .slice (some ⟨i, 0, some 0⟩) us.length us.length ∧ h.get i = some ⟨us.flatten, true, k⟩ ∧ us ≠ [] ∧ Els k us
/-- A row that is read. -/
def RR (k : Nat) (h : Hp) (s : Value) (us : List (List Value)) : Prop :=
  (s = .slice none 0 0 ∧ us = []) ∨ ∃ i o sp c, s = .slice (some ⟨i, o, sp⟩) us.length c ∧ i < h.nx ∧ (us ≠ [] → sp.getD 0 = 0) ∧ ∀ (x : Nat) u, us[x]? = some u → h.rd i (o + x * k) k = some u
/-- All stays but a row's own object. -/
def Xo (s : Value) (h g : Hp) : Prop := ∀ j, j < h.nx → (∀ a n c, s = .slice (some a) n c → j ≠ a.block) → g.get j = h.get j
theorem GR.blk {k N : Nat} {h : Hp} {s : Value} {us : List (List Value)} (r : GR k N h s us) {a : Addr} {n c : Nat} (e : s = .slice (some a) n c) : N ≤ a.block ∧ a.block < h.nx := by
  rcases r with ⟨rfl, _⟩ | ⟨i, h1, h2, rfl, _⟩
  · cases e
  · cases e; exact ⟨h1, h2⟩
theorem Xo.get {k N : Nat} {g0 h g : Hp} {s : Value} {us : List (List Value)} (x : Xo s h g) (r : GR k N g0 s us) {j : Nat} (hj : j < h.nx) (h0 : j < N ∨ g0.nx ≤ j) : g.get j = h.get j :=
  x j hj fun a n c e => by have := r.blk e; omega
/-- What is below N stays. -/
def Xt (N : Nat) (h g : Hp) : Prop := h.nx ≤ g.nx ∧ ∀ j, j < N → g.get j = h.get j
theorem Xt.refl (N : Nat) (h : Hp) : Xt N h h := ⟨Nat.le_refl _, fun _ _ => rfl⟩
theorem Xt.trans {N : Nat} {a b c : Hp} (x : Xt N a b) (y : Xt N b c) : Xt N a c := ⟨Nat.le_trans x.1 y.1, fun j hj => (y.2 j hj).trans (x.2 j hj)⟩
theorem Ext.xt {N : Nat} {a b : Hp} (x : Ext a b) (hN : N ≤ a.nx) : Xt N a b := ⟨x.1, fun j hj => x.2 j (Nat.lt_of_lt_of_le hj hN)⟩
theorem Xt.mono {N M : Nat} {a b : Hp} (x : Xt N a b) (h : M ≤ N) : Xt M a b := ⟨x.1, fun j hj => x.2 j (Nat.lt_of_lt_of_le hj h)⟩
theorem Xt.ext {a b : Hp} (x : Xt a.nx a b) : Ext a b := ⟨x.1, x.2⟩
theorem Ext.xtr {N : Nat} {a b c : Hp} (x : Ext a b) (y : Xt N b c) (hN : a.nx ≤ N) : Ext a c := ⟨Nat.le_trans x.1 y.1, fun j hj => (y.2 j (Nat.lt_of_lt_of_le hj hN)).trans (x.2 j hj)⟩
/-- A store into an object from N on. -/
theorem Xt.own {N i : Nat} {a b c : Hp} (x : Xt N a b) (hi : N ≤ i) (m : ∀ k, k ≠ i → c.get k = b.get k) (n : c.nx = b.nx) : Xt N a c := ⟨by rw [n]; exact x.1, fun j hj => (m j (by omega)).trans (x.2 j hj)⟩
theorem GR.nil (k N : Nat) (h : Hp) : GR k N h (.slice none 0 0) [] := .inl ⟨rfl, rfl⟩
theorem GR.rr {k N : Nat} {h : Hp} {s : Value} {us : List (List Value)} (a : GR k N h s us) : RR k h s us := by
  rcases a with a | ⟨i, _, h2, rfl, hg, _, he⟩
  · exact .inl a
  · exact .inr ⟨i, 0, some 0, _, rfl, h2, fun _ => rfl, fun x u hx => rd_row2 (tl := []) (by rw [List.append_nil]; exact hg) he hx⟩
theorem GR.len {k N : Nat} {h : Hp} {s : Value} {us : List (List Value)} (a : GR k N h s us) : ∃ x c, s = .slice x us.length c := by
  rcases a with ⟨rfl, rfl⟩ | ⟨i, _, _, rfl, _⟩ <;> exact ⟨_, _, rfl⟩
theorem RR.len {k : Nat} {h : Hp} {s : Value} {us : List (List Value)} (a : RR k h s us) : ∃ x c, s = .slice x us.length c := by
  rcases a with ⟨rfl, rfl⟩ | ⟨i, o, sp, c, rfl, _⟩ <;> exact ⟨_, _, rfl⟩
theorem RR.one {k : Nat} {h : Hp} {s : Value} {us : List (List Value)} (a : RR k h s us) : Am.one s = true := by
  rcases a with ⟨rfl, rfl⟩ | ⟨i, o, sp, c, rfl, _⟩ <;> rfl
theorem GR.keep {k N : Nat} {h g : Hp} {s : Value} {us : List (List Value)} (a : GR k N h s us) (hn : h.nx ≤ g.nx) (hk : ∀ i, N ≤ i → i < h.nx → g.get i = h.get i) : GR k N g s us := by
  rcases a with a | ⟨i, h1, h2, h3, h4, h5⟩
  · exact .inl a
  · exact .inr ⟨i, h1, by omega, h3, (hk i h1 h2).trans h4, h5⟩
theorem GR.ext {k N : Nat} {h g : Hp} {s : Value} {us : List (List Value)} (a : GR k N h s us) (x : Ext h g) : GR k N g s us := a.keep x.1 fun i _ hi => x.2 i hi
theorem GR.mono {k N M : Nat} {h : Hp} {s : Value} {us : List (List Value)} (a : GR k N h s us) (hm : M ≤ N) : GR k M h s us := by
  rcases a with a | ⟨i, h1, h2⟩
  · exact .inl a
  · exact .inr ⟨i, Nat.le_trans hm h1, h2⟩
theorem RR.ext {k : Nat} {h g : Hp} {s : Value} {us : List (List Value)} (a : RR k h s us) (x : Ext h g) : RR k g s us := by
  rcases a with a | ⟨i, o, sp, c, h1, h2, h3⟩
  · exact .inl a
  · exact .inr ⟨i, o, sp, c, h1, Nat.lt_of_lt_of_le h2 x.1, h3.1, fun j u hu => by rw [x.rd h2]; exact h3.2 j u hu⟩
theorem RR.keep {k : Nat} {h g : Hp} {s : Value} {us : List (List Value)} (a : RR k h s us) (hn : h.nx ≤ g.nx) (hk : ∀ a n c, s = .slice (some a) n c → g.get a.block = h.get a.block) : RR k g s us := by
  rcases a with a | ⟨i, o, sp, c, rfl, h2, h3⟩
  · exact .inl a
  · exact .inr ⟨i, o, sp, c, rfl, Nat.lt_of_lt_of_le h2 hn, h3.1, fun j u hu => by
      have := h3.2 j u hu
      unfold Hp.rd at this ⊢
      rw [hk _ _ _ rfl]
      exact this⟩
/-- An element of a row that is read. -/
theorem RR.at {k : Nat} {h : Hp} {x : Option Addr} {n c : Nat} {us : List (List Value)} (a : RR k h (.slice x n c) us) {j : Nat} {u : List Value} (hj : us[j]? = some u) :
    ∃ i o sp, x = some ⟨i, o, sp⟩ ∧ i < h.nx ∧ h.rd i (o + ((j : Nat) : Int).toNat * k) k = some u := by
  rcases a with ⟨_, rfl⟩ | ⟨i, o, sp, c, e, hi, _, hr⟩
  · cases hj
  · cases e
    exact ⟨i, o, sp, rfl, hi, by rw [Int.toNat_natCast]; exact hr j u hj⟩
/-- One cell of an element. -/
theorem rd_part {h : Hp} {i o k : Nat} {u : List Value} (e : h.rd i o k = some u) {f : Nat} {v : Value} (hf : u[f]? = some v) : h.rd i (o + f) 1 = some [v] := by
  have hl := rd_len e
  obtain ⟨h1, rfl⟩ := List.getElem?_eq_some_iff.1 hf
  obtain ⟨h2, h3⟩ := rd_at e (x := f) (by omega)
  exact h3
theorem rd_join {h : Hp} {i o k m : Nat} {a b : List Value} (e1 : h.rd i o k = some a) (e2 : h.rd i (o + k) m = some b) : h.rd i o (k + m) = some (a ++ b) := by
  obtain ⟨ob, hob, hn, rfl⟩ := Hp.rd_some e1
  obtain ⟨ob2, hob2, hn2, rfl⟩ := Hp.rd_some e2
  rw [hob] at hob2; cases hob2
  unfold Hp.rd
  simp only [hob]
  rw [if_pos (by omega), List.take_add, List.drop_drop]
theorem rd_zero {h : Hp} {i o : Nat} {ob : Ob} (hg : h.get i = some ob) (ho : o ≤ ob.cells.length) : h.rd i o 0 = some [] := by
  unfold Hp.rd
  simp only [hg]
  rw [if_pos (by omega)]
  rfl
theorem rd_els {h : Hp} {i k : Nat} : ∀ {us : List (List Value)} {o : Nat}, us ≠ [] → (∀ (x : Nat) u, us[x]? = some u → h.rd i (o + x * k) k = some u) → h.rd i o (us.length * k) = some us.flatten
  | [], _, h0, _ => absurd rfl h0
  | [u], o, _, hr => by
    have := hr 0 u rfl
    simpa using this
  | u :: v :: us, o, _, hr => by
    have h1 := hr 0 u rfl
    rw [Nat.zero_mul, Nat.add_zero] at h1
    have h2 := rd_els (us := v :: us) (o := o + k) (by simp) fun x w hw => by
      have := hr (x + 1) w (by simpa using hw)
      rw [Nat.add_mul, Nat.one_mul] at this
      rw [show o + k + x * k = o + (x * k + k) by omega]
      exact this
    have := rd_join h1 h2
    rw [show (u :: v :: us).length * k = k + (v :: us).length * k by rw [List.length_cons, Nat.add_mul, Nat.one_mul, Nat.add_comm]]
    exact this
/-- The whole of a row that is read. -/
theorem RR.all {k : Nat} {h : Hp} {x : Option Addr} {n c : Nat} {us : List (List Value)} (a : RR k h (.slice x n c) us) (h0 : us ≠ []) : ∃ i o sp, x = some ⟨i, o, sp⟩ ∧ n = us.length ∧ sp.getD 0 = 0 ∧ h.rd i o (us.length * k) = some us.flatten := by
  rcases a with ⟨_, rfl⟩ | ⟨i, o, sp, c, e, hi, hs, hr⟩
  · exact absurd rfl h0
  · cases e
    exact ⟨i, o, sp, rfl, rfl, hs h0, rd_els h0 hr⟩
/-- A row of whole numbers. -/
def rI (l : List Int) : List (List Value) := l.map fun a => [nI a]
theorem rI_els (l : List Int) : Els 1 (rI l) := fun u hu => by
  obtain ⟨a, _, rfl⟩ := List.mem_map.1 hu
  exact ⟨rfl, rfl⟩
theorem rI_len (l : List Int) : (rI l).length = l.length := by simp [rI]
theorem rI_get {l : List Int} {i : Nat} {a : Int} (h : l[i]? = some a) : (rI l)[i]? = some [nI a] := by simp [rI, h]
theorem rI_app (l m : List Int) : rI (l ++ m) = rI l ++ rI m := by simp [rI]
/-- The row is none of those that were. -/
def New (N : Nat) (s : Value) : Prop := ∀ a n c, s = .slice (some a) n c → N ≤ a.block
theorem GR.new {k N : Nat} {h : Hp} {s : Value} {us : List (List Value)} (r : GR k N h s us) : New N s := fun _ _ _ e => (r.blk e).1
theorem get_eq_of {l m : List Int} (hl : l.length = m.length) (h : ∀ (i : Nat) a b, l[i]? = some a → m[i]? = some b → a = b) : l = m := by
  refine List.ext_getElem hl fun i h1 h2 => ?_
  exact h i _ _ (List.getElem?_eq_getElem h1) (List.getElem?_eq_getElem h2)
theorem Rd.rr {h : Hp} {s : Value} {l : List Int} (r : Rd h s (l.map nI)) (hi : ∀ i o sp n c, s = .slice (some ⟨i, o, sp⟩) n c → i < h.nx ∧ sp.getD 0 = 0) : RR 1 h s (rI l) := by
  rcases r with ⟨rfl, e⟩ | ⟨i, o, sp, c, rfl, hr⟩
  · rw [List.map_eq_nil_iff] at e
    exact .inl ⟨rfl, by rw [e]; rfl⟩
  · refine .inr ⟨i, o, sp, c, by rw [rI_len, List.length_map], (hi _ _ _ _ _ rfl).1, fun _ => (hi _ _ _ _ _ rfl).2, fun x u hu => ?_⟩
    simp only [rI, List.getElem?_map, Option.map_eq_some_iff] at hu
    obtain ⟨a, ha, rfl⟩ := hu
    exact hr x _ (by rw [List.getElem?_map, ha]; rfl)
section
variable {P : Program} {CT : CTy} {env : Env} {h : Hp} {d : Option Nat} {xs : List Operand} {R : Value → Hp → Prop}
theorem getne {h : Hp} {i j : Nat} {o : Ob} (e : ¬ j = i) : (if j = i then some o else h.get j) = h.get j := if_neg e
/-- append(l, v): v in a row of its own (one element, as the program makes it). -/
theorem w_app1 {N k bytes : Nat} {t : TypeId} {s : Value} {us : List (List Value)} {u : List Value} {q m : Nat} {b : Bool} (e : mapF env xs = some [s, .slice (some ⟨q, 0, none⟩) 1 1]) (r : GR k N h s us) (hq : h.get q = some ⟨u, b, m⟩) (hu : u.length = k) (ho : u.all one = true) (hk : 0 < k)
    (hb : (us.length + 1) * bytes ≤ 140737488355328) (hl : us.length + 1 ≤ 140737488355328) (hN : N ≤ h.nx)
    (n : ∀ s' g, GR k N g s' (us ++ [u]) → Xt N h g → Xo s h g → R s' g) : WI P CT ⟨d, none, .op (.app t k bytes) xs⟩ env h R := by
  have hrd : rdS h (some ⟨q, 0, none⟩) (1 * k) = some u := by
    simp only [rdS, Nat.one_mul]
    rw [if_neg (by omega)]
    simp only [Option.getD_none, if_true]
    exact rd_all hq hu
  have key : ∃ s' g, stepK (.app t k bytes) [s, .slice (some ⟨q, 0, none⟩) 1 1] h = some (s', g) ∧ GR k N g s' (us ++ [u]) ∧ Xt N h g ∧ Xo s h g := by
    rcases r with ⟨rfl, rfl⟩ | ⟨i, h1, h2, rfl, h4, h5, h6⟩
    · refine ⟨.slice (some ⟨h.nx, 0, some 0⟩) 1 1, h.new ⟨u, true, k⟩, ?_, .inr ⟨h.nx, hN, by simp [Hp.new], rfl, by simp [Hp.new], by simp, Els.one hu ho⟩, (Ext.new _ _).xt hN, fun j hj _ => (Ext.new h _).2 j hj⟩
      simp only [stepK, hrd, appA]
      simp only [List.length_nil, Nat.zero_add] at hb hl
      rw [if_pos ⟨by omega, ho, hk, by simpa using hb, by omega⟩]
      simp
    · have hn0 : us.length ≠ 0 := fun hz => h5 (List.eq_nil_of_length_eq_zero hz)
      have hold : h.rd i 0 (us.length * k) = some us.flatten := rd_all h4 h6.len
      refine ⟨.slice (some ⟨h.nx, 0, some 0⟩) (us.length + 1) (us.length + 1), (h.del i).new ⟨us.flatten ++ u, true, k⟩, ?_, .inr ⟨h.nx, hN, by simp [Hp.new, Hp.del], by simp, by simp [Hp.new, Hp.del], by simp, h6.app (Els.one hu ho)⟩, ⟨by simp [Hp.new, Hp.del], fun j hj => ?_⟩, fun j hj hne => ?_⟩
      · simp only [stepK, hrd, appA]
        rw [if_pos ⟨by omega, ho, hk, hb, hl⟩]
        simp only [Nat.one_ne_zero, if_false, show ¬ (us.length + 1 ≤ us.length) by omega, if_neg hn0, hold, h4]
        rw [if_pos ⟨trivial, trivial, by rw [h6.len]; omega, Nat.le_refl _, h6.all⟩]
      · have e1 : ¬ j = h.nx := by omega
        have e2 : ¬ j = i := by omega
        simp [Hp.new, Hp.del, e1, e2]
      · have e1 : ¬ j = h.nx := by omega
        have e2 : ¬ j = i := hne _ _ _ rfl
        simp [Hp.new, Hp.del, e1, e2]
  obtain ⟨s', g, hs, h1, h2, h3⟩ := key
  exact w_op (v := s') (h' := g) (by unfold opF; rw [e]; exact hs) (n s' g h1 h2 h3)
/-- append(literal, one): a literal that is not empty has no room. -/
theorem w_app0 {k bytes n0 i : Nat} {t : TypeId} {us : List (List Value)} {u : List Value} {q m m' : Nat} {b b' : Bool} (e : mapF env xs = some [.slice (some ⟨i, 0, none⟩) n0 n0, .slice (some ⟨q, 0, none⟩) 1 1]) (hn : n0 = us.length) (hi : h.get i = some ⟨us.flatten, b', m'⟩) (he : Els k us) (h0 : us ≠ []) (hq : h.get q = some ⟨u, b, m⟩) (hu : u.length = k) (ho : u.all one = true) (hk : 0 < k)
    (hb : (us.length + 1) * bytes ≤ 140737488355328) (hl : us.length + 1 ≤ 140737488355328)
    (n : ∀ s' g, GR k h.nx g s' (us ++ [u]) → Ext h g → R s' g) : WI P CT ⟨d, none, .op (.app t k bytes) xs⟩ env h R := by
  subst hn
  have hrd : rdS h (some ⟨q, 0, none⟩) (1 * k) = some u := by
    simp only [rdS, Nat.one_mul]
    rw [if_neg (by omega)]
    simp only [Option.getD_none, if_true]
    exact rd_all hq hu
  have hn0 : us.length ≠ 0 := fun hz => h0 (List.eq_nil_of_length_eq_zero hz)
  have hold : h.rd i 0 (us.length * k) = some us.flatten := rd_all hi he.len
  refine w_op (v := .slice (some ⟨h.nx, 0, some 0⟩) (us.length + 1) (us.length + 1)) (h' := h.new ⟨us.flatten ++ u, true, k⟩) ?_ (n _ _ (.inr ⟨h.nx, Nat.le_refl _, by simp [Hp.new], by simp, by simp [Hp.new], by simp, he.app (Els.one hu ho)⟩) (Ext.new _ _))
  unfold opF
  rw [e]
  simp only [stepK, hrd, appA]
  rw [if_pos ⟨by omega, ho, hk, hb, hl⟩]
  simp only [Nat.one_ne_zero, if_false, show ¬ (us.length + 1 ≤ us.length) by omega, if_neg hn0, hold]
/-- append([]T{}, l...): a copy of a row that is not empty. -/
theorem w_appc {k bytes c o : Nat} {t : TypeId} {us : List (List Value)} {q i : Nat} {sp : Option Nat} (e : mapF env xs = some [.slice (some ⟨q, 0, none⟩) 0 0, .slice (some ⟨i, o, sp⟩) us.length c]) (hr : rdS h (some ⟨i, o, sp⟩) (us.length * k) = some us.flatten) (he : Els k us) (h0 : us ≠ []) (hk : 0 < k)
    (hb : us.length * bytes ≤ 140737488355328) (hl : us.length ≤ 140737488355328)
    (n : ∀ g, g.get h.nx = some ⟨us.flatten, true, k⟩ → Ext h g → h.nx < g.nx → R (.slice (some ⟨h.nx, 0, some 0⟩) us.length us.length) g) : WI P CT ⟨d, none, .op (.app t k bytes) xs⟩ env h R := by
  have hn0 : us.length ≠ 0 := fun hz => h0 (List.eq_nil_of_length_eq_zero hz)
  refine w_op (v := .slice (some ⟨h.nx, 0, some 0⟩) us.length us.length) (h' := h.new ⟨us.flatten, true, k⟩) ?_ (n _ (by simp [Hp.new]) (Ext.new _ _) (by simp [Hp.new]))
  unfold opF
  rw [e]
  simp only [stepK, hr, appA, Nat.zero_add]
  rw [if_pos ⟨he.len, he.all, hk, hb, hl⟩]
  simp only [if_neg hn0, show ¬ us.length ≤ 0 by omega, if_true, if_false, List.nil_append]
/-- append([]T{}, l...), of whatever row. -/
theorem w_clone {k bytes : Nat} {t : TypeId} {us : List (List Value)} {q : Nat} {x : Option Addr} {n0 c : Nat} (e : mapF env xs = some [.slice (some ⟨q, 0, none⟩) 0 0, .slice x n0 c]) (r : RR k h (.slice x n0 c) us) (he : Els k us) (hq : q < h.nx) (hk : 0 < k)
    (hb : us.length * bytes ≤ 140737488355328) (hl : us.length ≤ 140737488355328)
    (n : ∀ v g, RR k g v us → Ext h g → (∀ a m c, v = .slice (some a) m c → q ≤ a.block) → R v g) : WI P CT ⟨d, none, .op (.app t k bytes) xs⟩ env h R := by
  by_cases h0 : us = []
  · subst h0
    obtain ⟨x', c', e'⟩ := r.len
    cases e'
    refine w_op (v := .slice (some ⟨q, 0, none⟩) 0 0) (h' := h) ?_ (n _ _ (.inr ⟨q, 0, none, 0, rfl, hq, fun hc => absurd rfl hc, fun x u hu => by cases hu⟩) (Ext.refl _) fun a m c e => by cases e; exact Nat.le_refl _)
    unfold opF
    rw [e]
    have hrd : rdS h x (([] : List (List Value)).length * k) = some [] := by
      simp only [List.length_nil, Nat.zero_mul]
      unfold rdS
      cases x <;> simp
    simp only [stepK, hrd, appA]
    simp [hk]
  · obtain ⟨i, o, sp, rfl, rfl, hsp, hr⟩ := r.all h0
    have hlen : us.length ≠ 0 := fun hz => h0 (List.eq_nil_of_length_eq_zero hz)
    have hmul : us.length * k ≠ 0 := Nat.mul_ne_zero hlen (by omega)
    refine w_appc e (by simp only [rdS, if_neg hmul, hsp, if_true]; exact hr) he h0 hk hb hl fun g hg x hn => ?_
    exact n _ g (GR.rr (N := h.nx) (.inr ⟨h.nx, Nat.le_refl _, hn, rfl, hg, h0, he⟩)) x fun a m c e => by cases e; exact Nat.le_of_lt hq
/-- l[:m]. -/
theorem w_pre {i n c m esz : Nat} (e : mapF env xs = some [.slice (some ⟨i, 0, some 0⟩) n c, .int .i64 (m : Int)]) (hm : m ≤ c) (h0 : 0 < c) (r : R (.slice (some ⟨i, 0, some 0⟩) m c) h) : WI P CT ⟨d, none, .op (.slc esz false true false) xs⟩ env h R := by
  refine w_op (v := .slice (some ⟨i, 0, some 0⟩) m c) (h' := h) ?_ r
  unfold opF
  rw [e]
  have hm2 : (0 : Int) ≤ (m : Int) ∧ (m : Int) ≤ c := by omega
  simp only [stepK, get3, takeB, sliceA, bounds, bnd, if_pos hm2]
  have h1 : (0 : Nat) ≤ m := Nat.zero_le _
  have h2 : ¬ c = 0 := by omega
  simp [h2]
/-- A row that may be appended to: a grown one, or an empty literal. -/
def G0 (k N : Nat) (h : Hp) (s : Value) (us : List (List Value)) : Prop := GR k N h s us ∨ ∃ q, s = .slice (some ⟨q, 0, none⟩) 0 0 ∧ us = [] ∧ N ≤ q ∧ q < h.nx
theorem G0.rr {k N : Nat} {h : Hp} {s : Value} {us : List (List Value)} (a : G0 k N h s us) : RR k h s us := by
  rcases a with a | ⟨q, rfl, rfl, _, hq⟩
  · exact a.rr
  · exact .inr ⟨q, 0, none, 0, rfl, hq, fun hc => absurd rfl hc, fun x u hu => by cases hu⟩
theorem G0.new {k N : Nat} {h : Hp} {s : Value} {us : List (List Value)} (a : G0 k N h s us) : New N s := by
  rcases a with a | ⟨q, rfl, rfl, hN, _⟩
  · exact a.new
  · intro a n c e; cases e; exact hN
theorem G0.ext {k N : Nat} {h g : Hp} {s : Value} {us : List (List Value)} (a : G0 k N h s us) (x : Ext h g) : G0 k N g s us := by
  rcases a with a | ⟨q, rfl, rfl, hN, hq⟩
  · exact .inl (a.ext x)
  · exact .inr ⟨q, rfl, rfl, hN, Nat.lt_of_lt_of_le hq x.1⟩
/-- append(l, m...). -/
theorem w_appR {N k bytes : Nat} {t : TypeId} {s : Value} {us vs : List (List Value)} {x : Option Addr} {n0 c : Nat} (e : mapF env xs = some [s, .slice x n0 c]) (r : G0 k N h s us) (r2 : RR k h (.slice x n0 c) vs) (he : Els k vs) (hk : 0 < k)
    (hb : (us.length + vs.length) * bytes ≤ 140737488355328) (hl : us.length + vs.length ≤ 140737488355328) (hN : N ≤ h.nx)
    (n : ∀ s' g, G0 k N g s' (us ++ vs) → Xt N h g → R s' g) : WI P CT ⟨d, none, .op (.app t k bytes) xs⟩ env h R := by
  obtain ⟨_, c', e'⟩ := r2.len
  cases e'
  have key : ∃ s' g, stepK (.app t k bytes) [s, .slice x vs.length c] h = some (s', g) ∧ G0 k N g s' (us ++ vs) ∧ Xt N h g := by
    by_cases h0 : vs = []
    · subst h0
      have hrd : rdS h x 0 = some [] := by
        unfold rdS
        cases x <;> simp
      rw [List.append_nil]
      simp only [stepK, appA]
      simp only [List.length_nil, Nat.add_zero] at hb hl ⊢
      rcases r with r | ⟨q, rfl, rfl, h1, h2⟩
      · rcases r with ⟨rfl, rfl⟩ | ⟨i, h1, h2, rfl, h4⟩
        · refine ⟨.slice none 0 0, h, ?_, .inl (.nil _ _ _), Xt.refl _ _⟩
          simp [hk, hrd]
        · refine ⟨.slice (some ⟨i, 0, some 0⟩) us.length us.length, h, ?_, .inl (.inr ⟨i, h1, h2, rfl, h4⟩), Xt.refl _ _⟩
          simp [hk, hb, hl, hrd]
      · refine ⟨.slice (some ⟨q, 0, none⟩) 0 0, h, ?_, .inr ⟨q, rfl, rfl, h1, h2⟩, Xt.refl _ _⟩
        simp [hk, hrd]
    · obtain ⟨i2, o2, sp2, rfl, _, hsp, hr⟩ := r2.all h0
      have hlen : vs.length ≠ 0 := fun hz => h0 (List.eq_nil_of_length_eq_zero hz)
      have hmul : vs.length * k ≠ 0 := Nat.mul_ne_zero hlen (by omega)
      have hrd : rdS h (some ⟨i2, o2, sp2⟩) (vs.length * k) = some vs.flatten := by simp only [rdS, if_neg hmul, hsp, if_true]; exact hr
      have hc1 : vs.flatten.length = vs.length * k ∧ vs.flatten.all Am.one = true ∧ 0 < k ∧ (us.length + vs.length) * bytes ≤ 140737488355328 ∧ us.length + vs.length ≤ 140737488355328 := ⟨he.len, he.all, hk, hb, hl⟩
      have fresh : ∀ n1, n1 = vs.length → us = [] → GR k N (h.new ⟨vs.flatten, true, k⟩) (.slice (some ⟨h.nx, 0, some 0⟩) n1 n1) (us ++ vs) := by
        rintro _ rfl rfl
        exact .inr ⟨h.nx, hN, by simp [Hp.new], rfl, by simp [Hp.new], h0, he⟩
      rcases r with r | ⟨q, rfl, rfl, h1, h2⟩
      · rcases r with ⟨rfl, rfl⟩ | ⟨i, h1, h2, rfl, h4, h5, h6⟩
        · refine ⟨.slice (some ⟨h.nx, 0, some 0⟩) vs.length vs.length, h.new ⟨vs.flatten, true, k⟩, ?_, .inl (fresh _ rfl rfl), (Ext.new _ _).xt hN⟩
          simp only [List.length_nil, Nat.zero_add] at hc1
          simp only [stepK, hrd, appA, Nat.zero_add, if_pos hc1]
          simp [hlen]
        · have hn0 : us.length ≠ 0 := fun hz => h5 (List.eq_nil_of_length_eq_zero hz)
          have hold : h.rd i 0 (us.length * k) = some us.flatten := rd_all h4 h6.len
          refine ⟨.slice (some ⟨h.nx, 0, some 0⟩) (us.length + vs.length) (us.length + vs.length), (h.del i).new ⟨us.flatten ++ vs.flatten, true, k⟩, ?_, .inl (.inr ⟨h.nx, hN, by simp [Hp.new, Hp.del], by simp, by simp [Hp.new, Hp.del], by simp [h0], h6.app he⟩), ⟨by simp [Hp.new, Hp.del], fun j hj => ?_⟩⟩
          · simp only [stepK, hrd, appA, if_pos hc1, if_neg hlen, show ¬ (us.length + vs.length ≤ us.length) by omega, if_false, if_neg hn0, hold, h4]
            rw [if_pos ⟨trivial, trivial, by rw [h6.len]; omega, Nat.le_refl _, h6.all⟩]
          · have e1 : ¬ j = h.nx := by omega
            have e2 : ¬ j = i := by omega
            simp [Hp.new, Hp.del, e1, e2]
      · refine ⟨.slice (some ⟨h.nx, 0, some 0⟩) vs.length vs.length, h.new ⟨vs.flatten, true, k⟩, ?_, .inl (fresh _ rfl rfl), (Ext.new _ _).xt hN⟩
        simp only [List.length_nil, Nat.zero_add] at hc1
        simp only [stepK, hrd, appA, Nat.zero_add, if_pos hc1, if_neg hlen, show ¬ (vs.length ≤ 0) by omega, if_false, if_true, List.nil_append]
  obtain ⟨s', g, hs, h1, h2⟩ := key
  exact w_op (v := s') (h' := g) (by unfold opF; rw [e]; exact hs) (n s' g h1 h2)
/-- l[m:]. -/
theorem w_suf {N k l : Nat} {s : Value} {us : List (List Value)} (e : mapF env xs = some [s, .int .i64 (l : Int)]) (r : GR k N h s us) (h0 : us ≠ []) (hl : l ≤ us.length) (n : ∀ s', RR k h s' (us.drop l) → R s' h) : WI P CT ⟨d, none, .op (.slc k true false false) xs⟩ env h R := by
  rcases r with ⟨_, e0⟩ | ⟨i, h1, h2, rfl, h4, h5, h6⟩
  · exact absurd e0 h0
  refine w_op (v := .slice (some ⟨i, 0 + l * k, some (if us.length = l then 1 else 0)⟩) (us.length - l) (us.length - l)) (h' := h) ?_ (n _ (.inr ⟨i, 0 + l * k, _, _, by rw [List.length_drop], h2, fun hc => ?_, fun x u hx => ?_⟩))
  · unfold opF
    rw [e]
    have hm2 : (0 : Int) ≤ (l : Int) ∧ (l : Int) ≤ us.length := by omega
    simp only [stepK, get3, takeB, sliceA, bounds, bnd]
    simp [hm2]
  · rw [if_neg (fun he => hc (by rw [← he]; exact List.drop_length))]
    rfl
  · have := rd_row2 (tl := []) (by rw [List.append_nil]; exact h4) h6 (x := l + x) (u := u) (by rw [List.getElem?_drop] at hx; exact hx)
    rw [Nat.add_mul] at this
    rw [show 0 + l * k + x * k = 0 + (l * k + x * k) by omega]
    exact this
/-- l[:m], read. -/
theorem w_prR {N k m : Nat} {s : Value} {us : List (List Value)} (e : mapF env xs = some [s, .int .i64 (m : Int)]) (r : GR k N h s us) (h0 : us ≠ []) (hm : m ≤ us.length) (n : ∀ s', RR k h s' (us.take m) → R s' h) : WI P CT ⟨d, none, .op (.slc k false true false) xs⟩ env h R := by
  rcases r with ⟨_, e0⟩ | ⟨i, h1, h2, rfl, h4, h5, h6⟩
  · exact absurd e0 h0
  have hpos : 0 < us.length := List.length_pos_iff.2 h0
  refine w_pre e hm hpos (n _ (.inr ⟨i, 0, some 0, _, by rw [List.length_take, Nat.min_eq_left hm], h2, fun _ => rfl, fun x u hx => ?_⟩))
  rw [List.getElem?_take] at hx
  split at hx
  · exact rd_row2 (tl := []) (by rw [List.append_nil]; exact h4) h6 hx
  · cases hx
end
end Go.Proofs.YtnebdnbglggdkaaDoorW.Am
