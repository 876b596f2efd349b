/- Rows of elements of some cells each: rows that grow, rows that are read; append as one step. -/
import Derived.Test.YtapbmmlgmcmpnaaDoorTextNumbersK3
import Derived.Sort.Grow
import Derived.Deep.Draws
import Derived.Shelf.Strings.SlTrimAscii
import Derived.Lib.SmallJoins
import Derived.Lib.IndexLaws
import Derived.Lib.IndexBytes
import Derived.Lib.ItoaLen
import Derived.Lib.SplitLaws
import Derived.Lib.TrimByte
import Derived.Shelf.Strings.Builder1
import Derived.Test.YtapbmmlgmcmpnaaDoorProg
namespace Go.Proofs.YtapbmmlgmcmpnaaDoorW.Am
open Go Go.RowKit
theorem one_cells {v : Value} (h : one v = true) : v.cells = #[v] := by cases v <;> first | rfl | (simp [one] at h)
/-- Elements of k plain cells each. -/
def Els (k : Nat) (us : List (List Value)) : Prop := ∀ u ∈ us, u.length = k ∧ u.all one = true
theorem Els.nil (k : Nat) : Els k [] := fun _ h => by cases h
theorem Els.app {k : Nat} {us vs : List (List Value)} (a : Els k us) (b : Els k vs) : Els k (us ++ vs) := fun u hu => (List.mem_append.1 hu).elim (a u) (b u)
theorem Els.one {k : Nat} {u : List Value} (a : u.length = k) (b : u.all one = true) : Els k [u] := fun x hx => by rw [List.mem_singleton.1 hx]; exact ⟨a, b⟩
theorem Els.len {k : Nat} : ∀ {us : List (List Value)}, Els k us → us.flatten.length = us.length * k
  | [], _ => by simp
  | u :: us, h => by
    rw [List.flatten_cons, List.length_append, Els.len (us := us) (fun x hx => h x (List.mem_cons_of_mem _ hx)), (h u (List.mem_cons_self ..)).1, List.length_cons, Nat.add_mul, Nat.one_mul, Nat.add_comm]
theorem Els.all {k : Nat} : ∀ {us : List (List Value)}, Els k us → us.flatten.all Am.one = true
  | [], _ => rfl
  | u :: us, h => by
    rw [List.flatten_cons, List.all_append, (h u (List.mem_cons_self ..)).2, Els.all (us := us) (fun x hx => h x (List.mem_cons_of_mem _ hx))]; rfl
theorem Els.drop {k : Nat} : ∀ {us : List (List Value)}, Els k us → ∀ i, us.flatten.drop (i * k) = (us.drop i).flatten
  | us, _, 0 => by simp
  | [], _, i + 1 => by simp
  | u :: us, h, i + 1 => by
    have hu := (h u (List.mem_cons_self ..)).1
    rw [List.flatten_cons, List.drop_succ_cons, ← Els.drop (us := us) (fun x hx => h x (List.mem_cons_of_mem _ hx)) i]
    rw [show (i + 1) * k = u.length + i * k by rw [hu, Nat.add_mul, Nat.one_mul, Nat.add_comm], List.drop_append, List.drop_of_length_le (by omega), Nat.add_sub_cancel_left, List.nil_append]
theorem rd_row2 {h : Hp} {i k : Nat} {us : List (List Value)} {tl : List Value} {b : Bool} {e : Nat} (hg : h.get i = some ⟨us.flatten ++ tl, b, e⟩) (he : Els k us) {x : Nat} {u : List Value} (hx : us[x]? = some u) : h.rd i (0 + x * k) k = some u := by
  obtain ⟨hl, rfl⟩ := List.getElem?_eq_some_iff.1 hx
  have hn := he.len
  have hm := (he _ (List.getElem_mem hl)).1
  have hmul : x * k + k ≤ us.length * k := by rw [← Nat.succ_mul]; exact Nat.mul_le_mul_right _ hl
  unfold Hp.rd
  simp only [hg, Nat.zero_add]
  rw [if_pos (by rw [List.length_append]; omega)]
  rw [List.drop_append_of_le_length (by omega), he.drop, List.drop_eq_getElem_cons hl, List.flatten_cons, List.append_assoc]
  rw [List.take_left' hm]
/-- One cell of one element is written. -/
theorem Els.set {k : Nat} : ∀ {us : List (List Value)}, Els k us → ∀ {w : Nat} {u : List Value}, us[w]? = some u → ∀ {f : Nat}, f < k → ∀ v, us.flatten.set (w * k + f) v = (us.set w (u.set f v)).flatten
  | [], _, _, _, hw, _, _, _ => by cases hw
  | x :: us, h, 0, u, hw, f, hf, v => by
    cases hw
    have hx := (h x (List.mem_cons_self ..)).1
    rw [List.flatten_cons, List.set_cons_zero, List.flatten_cons, Nat.zero_mul, Nat.zero_add, List.set_append_left _ _ (by omega)]
  | x :: us, h, w + 1, u, hw, f, hf, v => by
    have hx := (h x (List.mem_cons_self ..)).1
    rw [List.flatten_cons, List.set_cons_succ, List.flatten_cons, List.set_append_right _ _ (by rw [Nat.add_mul, Nat.one_mul]; omega)]
    rw [show (w + 1) * k + f - x.length = w * k + f by rw [Nat.add_mul, Nat.one_mul]; omega]
    rw [Els.set (us := us) (fun x hx => h x (List.mem_cons_of_mem _ hx)) (by simpa using hw) hf v]
theorem Els.put {k : Nat} {us : List (List Value)} (h : Els k us) {w : Nat} {u : List Value} (hu : u.length = k) (ho : u.all Am.one = true) : Els k (us.set w u) := fun x hx => by
  rcases List.mem_or_eq_of_mem_set hx with hx | rfl
  · exact h x hx
  · exact ⟨hu, ho⟩
/-- A row that has grown (elements of k cells): its object's number is from N on. -/
def GR (k N : Nat) (h : Hp) (s : Value) (us : List (List Value)) : Prop :=
  (s = .slice none 0 0 ∧ us = []) ∨ ∃ i, N ≤ i ∧ i < h.nx ∧ s = .slice (some ⟨i, 0, some 0⟩) us.length us.length ∧ h.get i = some ⟨us.flatten, true, k⟩ ∧ us ≠ [] ∧ Els k us
/-- A row that is read. -/
def RR (k : Nat) (h : Hp) (s : Value) (us : List (List Value)) : Prop :=
  (s = .slice none 0 0 ∧ us = []) ∨ ∃ i o sp c, s = .slice (some ⟨i, o, sp⟩) us.length c ∧ i < h.nx ∧ (us ≠ [] → sp.getD 0 = 0) ∧ ∀ (x : Nat) u, us[x]? = some u → h.rd i (o + x * k) k = some u
/-- All stays but a row's own object. -/
def Xo (s : Value) (h g : Hp) : Prop := ∀ j, j < h.nx → (∀ a n c, s = .slice (some a) n c → j ≠ a.block) → g.get j = h.get j
theorem GR.blk {k N : Nat} {h : Hp} {s : Value} {us : List (List Value)} (r : GR k N h s us) {a : Addr} {n c : Nat} (e : s = .slice (some a) n c) : N ≤ a.block ∧ a.block < h.nx := by
  rcases r with ⟨rfl, _⟩ | ⟨i, h1, h2, rfl, _⟩
  · cases e
  · cases e; exact ⟨h1, h2⟩
theorem Xo.get {k N : Nat} {g0 h g : Hp} {s : Value} {us : List (List Value)} (x : Xo s h g) (r : GR k N g0 s us) {j : Nat} (hj : j < h.nx) (h0 : j < N ∨ g0.nx ≤ j) : g.get j = h.get j :=
  x j hj fun a n c e => by have := r.blk e; omega
/-- What is below N stays. -/
def Xt (N : Nat) (h g : Hp) : Prop := h.nx ≤ g.nx ∧ ∀ j, j < N → g.get j = h.get j
theorem Xt.refl (N : Nat) (h : Hp) : Xt N h h := ⟨Nat.le_refl _, fun _ _ => rfl⟩
theorem Xt.trans {N : Nat} {a b c : Hp} (x : Xt N a b) (y : Xt N b c) : Xt N a c := ⟨Nat.le_trans x.1 y.1, fun j hj => (y.2 j hj).trans (x.2 j hj)⟩
theorem Ext.xt {N : Nat} {a b : Hp} (x : Ext a b) (hN : N ≤ a.nx) : Xt N a b := ⟨x.1, fun j hj => x.2 j (Nat.lt_of_lt_of_le hj hN)⟩
theorem Xt.mono {N M : Nat} {a b : Hp} (x : Xt N a b) (h : M ≤ N) : Xt M a b := ⟨x.1, fun j hj => x.2 j (Nat.lt_of_lt_of_le hj h)⟩
theorem Xt.ext {a b : Hp} (x : Xt a.nx a b) : Ext a b := ⟨x.1, x.2⟩
theorem Ext.xtr {N : Nat} {a b c : Hp} (x : Ext a b) (y : Xt N b c) (hN : a.nx ≤ N) : Ext a c := ⟨Nat.le_trans x.1 y.1, fun j hj => (y.2 j (Nat.lt_of_lt_of_le hj hN)).trans (x.2 j hj)⟩
/-- A store into an object from N on. -/
theorem Xt.own {N i : Nat} {a b c : Hp} (x : Xt N a b) (hi : N ≤ i) (m : ∀ k, k ≠ i → c.get k = b.get k) (n : c.nx = b.nx) : Xt N a c := ⟨by rw [n]; exact x.1, fun j hj => (m j (by omega)).trans (x.2 j hj)⟩
theorem GR.nil (k N : Nat) (h : Hp) : GR k N h (.slice none 0 0) [] := .inl ⟨rfl, rfl⟩
theorem GR.rr {k N : Nat} {h : Hp} {s : Value} {us : List (List Value)} (a : GR k N h s us) : RR k h s us := by
  rcases a with a | ⟨i, _, h2, rfl, hg, _, he⟩
  · exact .inl a
  · exact .inr ⟨i, 0, some 0, _, rfl, h2, fun _ => rfl, fun x u hx => rd_row2 (tl := []) (by rw [List.append_nil]; exact hg) he hx⟩
theorem GR.len {k N : Nat} {h : Hp} {s : Value} {us : List (List Value)} (a : GR k N h s us) : ∃ x c, s = .slice x us.length c := by
  rcases a with ⟨rfl, rfl⟩ | ⟨i, _, _, rfl, _⟩ <;> exact ⟨_, _, rfl⟩
theorem RR.len {k : Nat} {h : Hp} {s : Value} {us : List (List Value)} (a : RR k h s us) : ∃ x c, s = .slice x us.length c := by
  rcases a with ⟨rfl, rfl⟩ | ⟨i, o, sp, c, rfl, _⟩ <;> exact ⟨_, _, rfl⟩
theorem RR.one {k : Nat} {h : Hp} {s : Value} {us : List (List Value)} (a : RR k h s us) : Am.one s = true := by
  rcases a with ⟨rfl, rfl⟩ | ⟨i, o, sp, c, rfl, _⟩ <;> rfl
theorem GR.keep {k N : Nat} {h g : Hp} {s : Value} {us : List (List Value)} (a : GR k N h s us) (hn : h.nx ≤ g.nx) (hk : ∀ i, N ≤ i → i < h.nx → g.get i = h.get i) : GR k N g s us := by
  rcases a with a | ⟨i, h1, h2, h3, h4, h5⟩
  · exact .inl a
  · exact .inr ⟨i, h1, by omega, h3, (hk i h1 h2).trans h4, h5⟩
theorem GR.ext {k N : Nat} {h g : Hp} {s : Value} {us : List (List Value)} (a : GR k N h s us) (x : Ext h g) : GR k N g s us := a.keep x.1 fun i _ hi => x.2 i hi
theorem GR.mono {k N M : Nat} {h : Hp} {s : Value} {us : List (List Value)} (a : GR k N h s us) (hm : M ≤ N) : GR k M h s us := by
  rcases a with a | ⟨i, h1, h2⟩
  · exact .inl a
  · exact .inr ⟨i, Nat.le_trans hm h1, h2⟩
theorem RR.ext {k : Nat} {h g : Hp} {s : Value} {us : List (List Value)} (a : RR k h s us) (x : Ext h g) : RR k g s us := by
  rcases a with a | ⟨i, o, sp, c, h1, h2, h3⟩
  · exact .inl a
  · exact .inr ⟨i, o, sp, c, h1, Nat.lt_of_lt_of_le h2 x.1, h3.1, fun j u hu => by rw [x.rd h2]; exact h3.2 j u hu⟩
theorem RR.keep {k : Nat} {h g : Hp} {s : Value} {us : List (List Value)} (a : RR k h s us) (hn : h.nx ≤ g.nx) (hk : ∀ a n c, s = .slice (some a) n c → g.get a.block = h.get a.block) : RR k g s us := by
  rcases a with a | ⟨i, o, sp, c, rfl, h2, h3⟩
  · exact .inl a
  · exact .inr ⟨i, o, sp, c, rfl, Nat.lt_of_lt_of_le h2 hn, h3.1, fun j u hu => by
      have := h3.2 j u hu
      unfold Hp.rd at this ⊢
      rw [hk _ _ _ rfl]
      exact this⟩
/-- An element of a row that is read. -/
theorem RR.at {k : Nat} {h : Hp} {x : Option Addr} {n c : Nat} {us : List (List Value)} (a : RR k h (.slice x n c) us) {j : Nat} {u : List Value} (hj : us[j]? = some u) :
    ∃ i o sp, x = some ⟨i, o, sp⟩ ∧ i < h.nx ∧ h.rd i (o + ((j : Nat) : Int).toNat * k) k = some u := by
  rcases a with ⟨_, rfl⟩ | ⟨i, o, sp, c, e, hi, _, hr⟩
  · cases hj
  · cases e
    exact ⟨i, o, sp, rfl, hi, by rw [Int.toNat_natCast]; exact hr j u hj⟩
/-- One cell of an element. -/
theorem rd_part {h : Hp} {i o k : Nat} {u : List Value} (e : h.rd i o k = some u) {f : Nat} {v : Value} (hf : u[f]? = some v) : h.rd i (o + f) 1 = some [v] := by
  have hl := rd_len e
  obtain ⟨h1, rfl⟩ := List.getElem?_eq_some_iff.1 hf
  obtain ⟨h2, h3⟩ := rd_at e (x := f) (by omega)
  exact h3
theorem rd_join {h : Hp} {i o k m : Nat} {a b : List Value} (e1 : h.rd i o k = some a) (e2 : h.rd i (o + k) m = some b) : h.rd i o (k + m) = some (a ++ b) := by
  obtain ⟨ob, hob, hn, rfl⟩ := Hp.rd_some e1
  obtain ⟨ob2, hob2, hn2, rfl⟩ := Hp.rd_some e2
  rw [hob] at hob2; cases hob2
  unfold Hp.rd
  simp only [hob]
  rw [if_pos (by omega), List.take_add, List.drop_drop]
theorem rd_zero {h : Hp} {i o : Nat} {ob : Ob} (hg : h.get i = some ob) (ho : o ≤ ob.cells.length) : h.rd i o 0 = some [] := by
  unfold Hp.rd
  simp only [hg]
  rw [if_pos (by omega)]
  rfl
theorem rd_els {h : Hp} {i k : Nat} : ∀ {us : List (List Value)} {o : Nat}, us ≠ [] → (∀ (x : Nat) u, us[x]? = some u → h.rd i (o + x * k) k = some u) → h.rd i o (us.length * k) = some us.flatten
  | [], _, h0, _ => absurd rfl h0
  | [u], o, _, hr => by
    have := hr 0 u rfl
    simpa using this
  | u :: v :: us, o, _, hr => by
    have h1 := hr 0 u rfl
    rw [Nat.zero_mul, Nat.add_zero] at h1
    have h2 := rd_els (us := v :: us) (o := o + k) (by simp) fun x w hw => by
      have := hr (x + 1) w (by simpa using hw)
      rw [Nat.add_mul, Nat.one_mul] at this
      rw [show o + k + x * k = o + (x * k + k) by omega]
      exact this
    have := rd_join h1 h2
    rw [show (u :: v :: us).length * k = k + (v :: us).length * k by rw [List.length_cons, Nat.add_mul, Nat.one_mul, Nat.add_comm]]
    exact this
/-- The whole of a row that is read. -/
theorem RR.all {k : Nat} {h : Hp} {x : Option Addr} {n c : Nat} {us : List (List Value)} (a : RR k h (.slice x n c) us) (h0 : us ≠ []) : ∃ i o sp, x = some ⟨i, o, sp⟩ ∧ n = us.length ∧ sp.getD 0 = 0 ∧ h.rd i o (us.length * k) = some us.flatten := by
  rcases a with ⟨_, rfl⟩ | ⟨i, o, sp, c, e, hi, hs, hr⟩
  · exact absurd rfl h0
  · cases e
    exact ⟨i, o, sp, rfl, rfl, hs h0, rd_els h0 hr⟩
/-- A row of whole numbers. -/
def rI (l : List Int) : List (List Value) := l.map fun a => [nI a]
theorem rI_els (l : List Int) : Els 1 (rI l) := fun u hu => by
  obtain ⟨a, _, rfl⟩ := List.mem_map.1 hu
  exact ⟨rfl, rfl⟩
theorem rI_len (l : List Int) : (rI l).length = l.length := by simp [rI]
theorem rI_get {l : List Int} {i : Nat} {a : Int} (h : l[i]? = some a) : (rI l)[i]? = some [nI a] := by simp [rI, h]
theorem rI_app (l m : List Int) : rI (l ++ m) = rI l ++ rI m := by simp [rI]
/-- The row is none of those that were. -/
def New (N : Nat) (s : Value) : Prop := ∀ a n c, s = .slice (some a) n c → N ≤ a.block
theorem GR.new {k N : Nat} {h : Hp} {s : Value} {us : List (List Value)} (r : GR k N h s us) : New N s := fun _ _ _ e => (r.blk e).1
theorem get_eq_of {l m : List Int} (hl : l.length = m.length) (h : ∀ (i : Nat) a b, l[i]? = some a → m[i]? = some b → a = b) : l = m := by
  refine List.ext_getElem hl fun i h1 h2 => ?_
  exact h i _ _ (List.getElem?_eq_getElem h1) (List.getElem?_eq_getElem h2)
theorem Rd.rr {h : Hp} {s : Value} {l : List Int} (r : Rd h s (l.map nI)) (hi : ∀ i o sp n c, s = .slice (some ⟨i, o, sp⟩) n c → i < h.nx ∧ sp.getD 0 = 0) : RR 1 h s (rI l) := by
  rcases r with ⟨rfl, e⟩ | ⟨i, o, sp, c, rfl, hr⟩
  · rw [List.map_eq_nil_iff] at e
    exact .inl ⟨rfl, by rw [e]; rfl⟩
  · refine .inr ⟨i, o, sp, c, by rw [rI_len, List.length_map], (hi _ _ _ _ _ rfl).1, fun _ => (hi _ _ _ _ _ rfl).2, fun x u hu => ?_⟩
    simp only [rI, List.getElem?_map, Option.map_eq_some_iff] at hu
    obtain ⟨a, ha, rfl⟩ := hu
    exact hr x _ (by rw [List.getElem?_map, ha]; rfl)
section
variable {P : Program} {CT : CTy} {env : Env} {h : Hp} {d : Option Nat} {xs : List Operand} {R : Value → Hp → Prop}
theorem getne {h : Hp} {i j : Nat} {o : Ob} (e : ¬ j = i) : (if j = i then some o else h.get j) = h.get j := if_neg e
/-- append(l, v): v in a row of its own (one element, as the program makes it). -/
theorem w_app1 {N k bytes : Nat} {t : TypeId} {s : Value} {us : List (List Value)} {u : List Value} {q m : Nat} {b : Bool} (e : mapF env xs = some [s, .slice (some ⟨q, 0, none⟩) 1 1]) (r : GR k N h s us) (hq : h.get q = some ⟨u, b, m⟩) (hu : u.length = k) (ho : u.all one = true) (hk : 0 < k)
    (hb : (us.length + 1) * bytes ≤ 140737488355328) (hl : us.length + 1 ≤ 140737488355328) (hN : N ≤ h.nx)
    (n : ∀ s' g, GR k N g s' (us ++ [u]) → Xt N h g → Xo s h g → R s' g) : WI P CT ⟨d, none, .op (.app t k bytes) xs⟩ env h R := by
  have hrd : rdS h (some ⟨q, 0, none⟩) (1 * k) = some u := by
    simp only [rdS, Nat.one_mul]
    rw [if_neg (by omega)]
    simp only [Option.getD_none, if_true]
    exact rd_all hq hu
  have key : ∃ s' g, stepK (.app t k bytes) [s, .slice (some ⟨q, 0, none⟩) 1 1] h = some (s', g) ∧ GR k N g s' (us ++ [u]) ∧ Xt N h g ∧ Xo s h g := by
    rcases r with ⟨rfl, rfl⟩ | ⟨i, h1, h2, rfl, h4, h5, h6⟩
    · refine ⟨.slice (some ⟨h.nx, 0, some 0⟩) 1 1, h.new ⟨u, true, k⟩, ?_, .inr ⟨h.nx, hN, by simp [Hp.new], rfl, by simp [Hp.new], by simp, Els.one hu ho⟩, (Ext.new _ _).xt hN, fun j hj _ => (Ext.new h _).2 j hj⟩
      simp only [stepK, hrd, appA]
      simp only [List.length_nil, Nat.zero_add] at hb hl
      rw [if_pos ⟨by omega, ho, hk, by simpa using hb, by omega⟩]
      simp
    · have hn0 : us.length ≠ 0 := fun hz => h5 (List.eq_nil_of_length_eq_zero hz)
      have hold : h.rd i 0 (us.length * k) = some us.flatten := rd_all h4 h6.len
      refine ⟨.slice (some ⟨h.nx, 0, some 0⟩) (us.length + 1) (us.length + 1), (h.del i).new ⟨us.flatten ++ u, true, k⟩, ?_, .inr ⟨h.nx, hN, by simp [Hp.new, Hp.del], by simp, by simp [Hp.new, Hp.del], by simp, h6.app (Els.one hu ho)⟩, ⟨by simp [Hp.new, Hp.del], fun j hj => ?_⟩, fun j hj hne => ?_⟩
      · simp only [stepK, hrd, appA]
        rw [if_pos ⟨by omega, ho, hk, hb, hl⟩]
        simp only [Nat.one_ne_zero, if_false, show ¬ (us.length + 1 ≤ us.length) by omega, if_neg hn0, hold, h4]
        rw [if_pos ⟨trivial, trivial, by rw [h6.len]; omega, Nat.le_refl _, h6.all⟩]
      · have e1 : ¬ j = h.nx := by omega
        have e2 : ¬ j = i := by omega
        simp [Hp.new, Hp.del, e1, e2]
      · have e1 : ¬ j = h.nx := by omega
        have e2 : ¬ j = i := hne _ _ _ rfl
        simp [Hp.new, Hp.del, e1, e2]
  obtain ⟨s', g, hs, h1, h2, h3⟩ := key
  exact w_op (v := s') (h' := g) (by unfold opF; rw [e]; exact hs) (n s' g h1 h2 h3)
/-- append(literal, one): a literal that is not empty has no room. -/
theorem w_app0 {k bytes n0 i : Nat} {t : TypeId} {us : List (List Value)} {u : List Value} {q m m' : Nat} {b b' : Bool} (e : mapF env xs = some [.slice (some ⟨i, 0, none⟩) n0 n0, .slice (some ⟨q, 0, none⟩) 1 1]) (hn : n0 = us.length) (hi : h.get i = some ⟨us.flatten, b', m'⟩) (he : Els k us) (h0 : us ≠ []) (hq : h.get q = some ⟨u, b, m⟩) (hu : u.length = k) (ho : u.all one = true) (hk : 0 < k)
    (hb : (us.length + 1) * bytes ≤ 140737488355328) (hl : us.length + 1 ≤ 140737488355328)
    (n : ∀ s' g, GR k h.nx g s' (us ++ [u]) → Ext h g → R s' g) : WI P CT ⟨d, none, .op (.app t k bytes) xs⟩ env h R := by
  subst hn
  have hrd : rdS h (some ⟨q, 0, none⟩) (1 * k) = some u := by
    simp only [rdS, Nat.one_mul]
    rw [if_neg (by omega)]
    simp only [Option.getD_none, if_true]
    exact rd_all hq hu
  have hn0 : us.length ≠ 0 := fun hz => h0 (List.eq_nil_of_length_eq_zero hz)
  have hold : h.rd i 0 (us.length * k) = some us.flatten := rd_all hi he.len
  refine w_op (v := .slice (some ⟨h.nx, 0, some 0⟩) (us.length + 1) (us.length + 1)) (h' := h.new ⟨us.flatten ++ u, true, k⟩) ?_ (n _ _ (.inr ⟨h.nx, Nat.le_refl _, by simp [Hp.new], by simp, by simp [Hp.new], by simp, he.app (Els.one hu ho)⟩) (Ext.new _ _))
  unfold opF
  rw [e]
  simp only [stepK, hrd, appA]
  rw [if_pos ⟨by omega, ho, hk, hb, hl⟩]
  simp only [Nat.one_ne_zero, if_false, show ¬ (us.length + 1 ≤ us.length) by omega, if_neg hn0, hold]
/-- append([]T{}, l...): a copy of a row that is not empty. -/
theorem w_appc {k bytes c o : Nat} {t : TypeId} {us : List (List Value)} {q i : Nat} {sp : Option Nat} (e : mapF env xs = some [.slice (some ⟨q, 0, none⟩) 0 0, .slice (some ⟨i, o, sp⟩) us.length c]) (hr : rdS h (some ⟨i, o, sp⟩) (us.length * k) = some us.flatten) (he : Els k us) (h0 : us ≠ []) (hk : 0 < k)
    (hb : us.length * bytes ≤ 140737488355328) (hl : us.length ≤ 140737488355328)
    (n : ∀ g, g.get h.nx = some ⟨us.flatten, true, k⟩ → Ext h g → h.nx < g.nx → R (.slice (some ⟨h.nx, 0, some 0⟩) us.length us.length) g) : WI P CT ⟨d, none, .op (.app t k bytes) xs⟩ env h R := by
  have hn0 : us.length ≠ 0 := fun hz => h0 (List.eq_nil_of_length_eq_zero hz)
  refine w_op (v := .slice (some ⟨h.nx, 0, some 0⟩) us.length us.length) (h' := h.new ⟨us.flatten, true, k⟩) ?_ (n _ (by simp [Hp.new]) (Ext.new _ _) (by simp [Hp.new]))
  unfold opF
  rw [e]
  simp only [stepK, hr, appA, Nat.zero_add]
  rw [if_pos ⟨he.len, he.all, hk, hb, hl⟩]
  simp only [if_neg hn0, show ¬ us.length ≤ 0 by omega, if_true, if_false, List.nil_append]
/-- append([]T{}, l...), of whatever row. -/
theorem w_clone {k bytes : Nat} {t : TypeId} {us : List (List Value)} {q : Nat} {x : Option Addr} {n0 c : Nat} (e : mapF env xs = some [.slice (some ⟨q, 0, none⟩) 0 0, .slice x n0 c]) (r : RR k h (.slice x n0 c) us) (he : Els k us) (hq : q < h.nx) (hk : 0 < k)
    (hb : us.length * bytes ≤ 140737488355328) (hl : us.length ≤ 140737488355328)
    (n : ∀ v g, RR k g v us → Ext h g → (∀ a m c, v = .slice (some a) m c → q ≤ a.block) → R v g) : WI P CT ⟨d, none, .op (.app t k bytes) xs⟩ env h R := by
  by_cases h0 : us = []
  · subst h0
    obtain ⟨x', c', e'⟩ := r.len
    cases e'
    refine w_op (v := .slice (some ⟨q, 0, none⟩) 0 0) (h' := h) ?_ (n _ _ (.inr ⟨q, 0, none, 0, rfl, hq, fun hc => absurd rfl hc, fun x u hu => by cases hu⟩) (Ext.refl _) fun a m c e => by cases e; exact Nat.le_refl _)
    unfold opF
    rw [e]
    have hrd : rdS h x (([] : List (List Value)).length * k) = some [] := by
      simp only [List.length_nil, Nat.zero_mul]
      unfold rdS
      cases x <;> simp
    simp only [stepK, hrd, appA]
    simp [hk]
  · obtain ⟨i, o, sp, rfl, rfl, hsp, hr⟩ := r.all h0
    have hlen : us.length ≠ 0 := fun hz => h0 (List.eq_nil_of_length_eq_zero hz)
    have hmul : us.length * k ≠ 0 := Nat.mul_ne_zero hlen (by omega)
    refine w_appc e (by simp only [rdS, if_neg hmul, hsp, if_true]; exact hr) he h0 hk hb hl fun g hg x hn => ?_
    exact n _ g (GR.rr (N := h.nx) (.inr ⟨h.nx, Nat.le_refl _, hn, rfl, hg, h0, he⟩)) x fun a m c e => by cases e; exact Nat.le_of_lt hq
/-- l[:m]. -/
theorem w_pre {i n c m esz : Nat} (e : mapF env xs = some [.slice (some ⟨i, 0, some 0⟩) n c, .int .i64 (m : Int)]) (hm : m ≤ c) (h0 : 0 < c) (r : R (.slice (some ⟨i, 0, some 0⟩) m c) h) : WI P CT ⟨d, none, .op (.slc esz false true false) xs⟩ env h R := by
  refine w_op (v := .slice (some ⟨i, 0, some 0⟩) m c) (h' := h) ?_ r
  unfold opF
  rw [e]
  have hm2 : (0 : Int) ≤ (m : Int) ∧ (m : Int) ≤ c := by omega
  simp only [stepK, get3, takeB, sliceA, bounds, bnd, if_pos hm2]
  have h1 : (0 : Nat) ≤ m := Nat.zero_le _
  have h2 : ¬ c = 0 := by omega
  simp [h2]
/-- A row that may be appended to: a grown one, or an empty literal. -/
def G0 (k N : Nat) (h : Hp) (s : Value) (us : List (List Value)) : Prop := GR k N h s us ∨ ∃ q, s = .slice (some ⟨q, 0, none⟩) 0 0 ∧ us = [] ∧ N ≤ q ∧ q < h.nx
theorem G0.rr {k N : Nat} {h : Hp} {s : Value} {us : List (List Value)} (a : G0 k N h s us) : RR k h s us := by
  rcases a with a | ⟨q, rfl, rfl, _, hq⟩
  · exact a.rr
  · exact .inr ⟨q, 0, none, 0, rfl, hq, fun hc => absurd rfl hc, fun x u hu => by cases hu⟩
theorem G0.new {k N : Nat} {h : Hp} {s : Value} {us : List (List Value)} (a : G0 k N h s us) : New N s := by
  rcases a with a | ⟨q, rfl, rfl, hN, _⟩
  · exact a.new
  · intro a n c e; cases e; exact hN
theorem G0.ext {k N : Nat} {h g : Hp} {s : Value} {us : List (List Value)} (a : G0 k N h s us) (x : Ext h g) : G0 k N g s us := by
  rcases a with a | ⟨q, rfl, rfl, hN, hq⟩
  · exact .inl (a.ext x)
  · exact .inr ⟨q, rfl, rfl, hN, Nat.lt_of_lt_of_le hq x.1⟩
/-- append(l, m...). -/
theorem w_appR {N k bytes : Nat} {t : TypeId} {s : Value} {us vs : List (List Value)} {x : Option Addr} {n0 c : Nat} (e : mapF env xs = some [s, .slice x n0 c]) (r : G0 k N h s us) (r2 : RR k h (.slice x n0 c) vs) (he : Els k vs) (hk : 0 < k)
    (hb : (us.length + vs.length) * bytes ≤ 140737488355328) (hl : us.length + vs.length ≤ 140737488355328) (hN : N ≤ h.nx)
    (n : ∀ s' g, G0 k N g s' (us ++ vs) → Xt N h g → R s' g) : WI P CT ⟨d, none, .op (.app t k bytes) xs⟩ env h R := by
  obtain ⟨_, c', e'⟩ := r2.len
  cases e'
  have key : ∃ s' g, stepK (.app t k bytes) [s, .slice x vs.length c] h = some (s', g) ∧ G0 k N g s' (us ++ vs) ∧ Xt N h g := by
    by_cases h0 : vs = []
    · subst h0
      have hrd : rdS h x 0 = some [] := by
        unfold rdS
        cases x <;> simp
      rw [List.append_nil]
      simp only [stepK, appA]
      simp only [List.length_nil, Nat.add_zero] at hb hl ⊢
      rcases r with r | ⟨q, rfl, rfl, h1, h2⟩
      · rcases r with ⟨rfl, rfl⟩ | ⟨i, h1, h2, rfl, h4⟩
        · refine ⟨.slice none 0 0, h, ?_, .inl (.nil _ _ _), Xt.refl _ _⟩
          simp [hk, hrd]
        · refine ⟨.slice (some ⟨i, 0, some 0⟩) us.length us.length, h, ?_, .inl (.inr ⟨i, h1, h2, rfl, h4⟩), Xt.refl _ _⟩
          simp [hk, hb, hl, hrd]
      · refine ⟨.slice (some ⟨q, 0, none⟩) 0 0, h, ?_, .inr ⟨q, rfl, rfl, h1, h2⟩, Xt.refl _ _⟩
        simp [hk, hrd]
    · obtain ⟨i2, o2, sp2, rfl, _, hsp, hr⟩ := r2.all h0
      have hlen : vs.length ≠ 0 := fun hz => h0 (List.eq_nil_of_length_eq_zero hz)
      have hmul : vs.length * k ≠ 0 := Nat.mul_ne_zero hlen (by omega)
      have hrd : rdS h (some ⟨i2, o2, sp2⟩) (vs.length * k) = some vs.flatten := by simp only [rdS, if_neg hmul, hsp, if_true]; exact hr
      have hc1 : vs.flatten.length = vs.length * k ∧ vs.flatten.all Am.one = true ∧ 0 < k ∧ (us.length + vs.length) * bytes ≤ 140737488355328 ∧ us.length + vs.length ≤ 140737488355328 := ⟨he.len, he.all, hk, hb, hl⟩
      have fresh : ∀ n1, n1 = vs.length → us = [] → GR k N (h.new ⟨vs.flatten, true, k⟩) (.slice (some ⟨h.nx, 0, some 0⟩) n1 n1) (us ++ vs) := by
        rintro _ rfl rfl
        exact .inr ⟨h.nx, hN, by simp [Hp.new], rfl, by simp [Hp.new], h0, he⟩
      rcases r with r | ⟨q, rfl, rfl, h1, h2⟩
      · rcases r with ⟨rfl, rfl⟩ | ⟨i, h1, h2, rfl, h4, h5, h6⟩
        · refine ⟨.slice (some ⟨h.nx, 0, some 0⟩) vs.length vs.length, h.new ⟨vs.flatten, true, k⟩, ?_, .inl (fresh _ rfl rfl), (Ext.new _ _).xt hN⟩
          simp only [List.length_nil, Nat.zero_add] at hc1
          simp only [stepK, hrd, appA, Nat.zero_add, if_pos hc1]
          simp [hlen]
        · have hn0 : us.length ≠ 0 := fun hz => h5 (List.eq_nil_of_length_eq_zero hz)
          have hold : h.rd i 0 (us.length * k) = some us.flatten := rd_all h4 h6.len
          refine ⟨.slice (some ⟨h.nx, 0, some 0⟩) (us.length + vs.length) (us.length + vs.length), (h.del i).new ⟨us.flatten ++ vs.flatten, true, k⟩, ?_, .inl (.inr ⟨h.nx, hN, by simp [Hp.new, Hp.del], by simp, by simp [Hp.new, Hp.del], by simp [h0], h6.app he⟩), ⟨by simp [Hp.new, Hp.del], fun j hj => ?_⟩⟩
          · simp only [stepK, hrd, appA, if_pos hc1, if_neg hlen, show ¬ (us.length + vs.length ≤ us.length) by omega, if_false, if_neg hn0, hold, h4]
            rw [if_pos ⟨trivial, trivial, by rw [h6.len]; omega, Nat.le_refl _, h6.all⟩]
          · have e1 : ¬ j = h.nx := by omega
            have e2 : ¬ j = i := by omega
            simp [Hp.new, Hp.del, e1, e2]
      · refine ⟨.slice (some ⟨h.nx, 0, some 0⟩) vs.length vs.length, h.new ⟨vs.flatten, true, k⟩, ?_, .inl (fresh _ rfl rfl), (Ext.new _ _).xt hN⟩
        simp only [List.length_nil, Nat.zero_add] at hc1
        simp only [stepK, hrd, appA, Nat.zero_add, if_pos hc1, if_neg hlen, show ¬ (vs.length ≤ 0) by omega, if_false, if_true, List.nil_append]
  obtain ⟨s', g, hs, h1, h2⟩ := key
  exact w_op (v := s') (h' := g) (by unfold opF; rw [e]; exact hs) (n s' g h1 h2)
/-- l[m:]. -/
theorem w_suf {N k l : Nat} {s : Value} {us : List (List Value)} (e : mapF env xs = some [s, .int .i64 (l : Int)]) (r : GR k N h s us) (h0 : us ≠ []) (hl : l ≤ us.length) (n : ∀ s', RR k h s' (us.drop l) → R s' h) : WI P CT ⟨d, none, .op (.slc k true false false) xs⟩ env h R := by
  rcases r with ⟨_, e0⟩ | ⟨i, h1, h2, rfl, h4, h5, h6⟩
  · exact absurd e0 h0
  refine w_op (v := .slice (some ⟨i, 0 + l * k, some (if us.length = l then 1 else 0)⟩) (us.length - l) (us.length - l)) (h' := h) ?_ (n _ (.inr ⟨i, 0 + l * k, _, _, by rw [List.length_drop], h2, fun hc => ?_, fun x u hx => ?_⟩))
  · unfold opF
    rw [e]
    have hm2 : (0 : Int) ≤ (l : Int) ∧ (l : Int) ≤ us.length := by omega
    simp only [stepK, get3, takeB, sliceA, bounds, bnd]
    simp [hm2]
  · rw [if_neg (fun he => hc (by rw [← he]; exact List.drop_length))]
    rfl
  · have := rd_row2 (tl := []) (by rw [List.append_nil]; exact h4) h6 (x := l + x) (u := u) (by rw [List.getElem?_drop] at hx; exact hx)
    rw [Nat.add_mul] at this
    rw [show 0 + l * k + x * k = 0 + (l * k + x * k) by omega]
    exact this
/-- l[:m], read. -/
theorem w_prR {N k m : Nat} {s : Value} {us : List (List Value)} (e : mapF env xs = some [s, .int .i64 (m : Int)]) (r : GR k N h s us) (h0 : us ≠ []) (hm : m ≤ us.length) (n : ∀ s', RR k h s' (us.take m) → R s' h) : WI P CT ⟨d, none, .op (.slc k false true false) xs⟩ env h R := by
  rcases r with ⟨_, e0⟩ | ⟨i, h1, h2, rfl, h4, h5, h6⟩
  · exact absurd e0 h0
  have hpos : 0 < us.length := List.length_pos_iff.2 h0
  refine w_pre e hm hpos (n _ (.inr ⟨i, 0, some 0, _, by rw [List.length_take, Nat.min_eq_left hm], h2, fun _ => rfl, fun x u hx => ?_⟩))
  rw [List.getElem?_take] at hx
  split at hx
  · exact rd_row2 (tl := []) (by rw [List.append_nil]; exact h4) h6 hx
  · cases hx
end
end Go.Proofs.YtapbmmlgmcmpnaaDoorW.Am
/- From the kit's contracts of the library to contracts over abstract heaps, and back. -/
namespace Go.Proofs.YtapbmmlgmcmpnaaDoorW.Am
open Go Go.RowKit Go.Sort
theorem enters_comp {P : Program} {f : FuncId} {fn : Func} {fi : FI} (hf : P.funcs[f]? = some fn) (hc : compF P fn = some fi) : Enters P f := by
  unfold compF at hc
  split at hc
  case h_2 => cases hc
  case h_1 c hbody =>
  split at hc
  case h_2 => cases hc
  case h_1 ic hic =>
  split at hc
  · cases hc
  next hname =>
  exact ⟨fn, hf, by simp [hbody], hname⟩
/-- A contract of plain values that leaves what was there. -/
theorem bridge {P : Program} {f : FuncId} {args : List Value} {x : Value} (he : Enters P f) (fa : flatL args = true) (fx : flat x = true)
    (c : ∀ w, TbP w → Calls P f args.toArray w fun e w' => e = .returned x ∧ Below w.heap.size w w' ∧ (DrOn → w.drawn ≤ w'.drawn)) (h : Hp) : ACall P f args h (fun v g => v = x ∧ h = g) := by
  refine ⟨he, fun base w0 m w args' ra s => ?_⟩
  have ea : args' = args := ra.flat_eq fa
  subst ea
  refine (c w (s.below.tb w s.below.bl)).mono ?_
  rintro e w' ⟨rfl, hb, hd⟩
  exact ⟨m, x, x, h, rfl, m.le_refl, RV.of_flat m x fx, s.world (hb.mono s.big) hd hb.size (fun b es ck hm => hb.block _ (Array.getElem?_eq_some_iff.1 hm).1) fun i l ob _ hm => hb.block _ (s.lt i l hm), rfl, rfl⟩
/-- Back: a contract over the empty heap, of plain values, in any world. -/
theorem unbridge {P : Program} {f : FuncId} {args : List Value} {x : Value} (fa : flatL args = true) (fx : flat x = true) (c : ACall P f args Hp.empty (fun v _ => v = x)) (hd : DrOn) (W : World) (t : TbP W → Tb W.heap.size W) (t2 : TbP W) :
    Calls P f args.toArray W fun e W' => e = .returned x ∧ ∃ q os', W' = grow (W.drewN q) os' := by
  refine (c.2 W.heap.size W ⟨fun _ => none, fun _ => none⟩ W args (RVs.of_flat fa) (Sim.empty W (t t2))).mono ?_
  rintro e W' ⟨m', v, v', h', rfl, _, rv, s, rfl⟩
  obtain rfl := rv.flat_eq fx
  refine ⟨rfl, W'.drawn - W.drawn, W'.heap.extract W.heap.size W'.heap.size, ?_⟩
  have b := s.below.bl
  have d := s.below.dr hd
  obtain ⟨h1, t1, d1, o1, u1⟩ := W'
  obtain ⟨h2, t2, d2, o2, u2⟩ := W
  obtain ⟨b1, b2, b3, b4, b5⟩ := b
  dsimp only at b1 b2 b3 b4 b5 d
  subst b1 b2 b3
  unfold grow World.drewN
  have hh : h1 = h2 ++ h1.extract h2.size h1.size := by
    refine Array.ext' ?_
    rw [Array.toList_append, Array.toList_extract, List.extract_eq_take_drop]
    refine List.ext_getElem? fun i => ?_
    rcases Nat.lt_or_ge i h2.size with hi | hi
    · rw [List.getElem?_append_left (by simpa using hi)]
      have := b5 i hi
      simpa using this
    · rw [List.getElem?_append_right (by simpa using hi), List.getElem?_take, List.getElem?_drop]
      have e : h2.size + (i - h2.toList.length) = i := by simp; omega
      rw [e]
      split
      · rfl
      · next hc =>
        rw [List.getElem?_eq_none_iff]
        simp at hc ⊢
        omega
  have e : d1 = d2 + (d1 - d2) := by omega
  show (⟨h1, t1, d1, o1, u1⟩ : World) = ⟨h2 ++ h1.extract h2.size h1.size, t1, d2 + (d1 - d2), o1, u1⟩
  rw [← e, ← hh]
end Go.Proofs.YtapbmmlgmcmpnaaDoorW.Am
/- Texts: the library's calls, and digits. -/
namespace Go.Proofs.YtapbmmlgmcmpnaaDoorW.Am
open Go Go.RowKit
theorem below_drewN (w : World) (k : Nat) : Below w.heap.size w (w.drewN k) := ⟨rfl, rfl, rfl, Nat.le_refl _, fun _ _ => rfl⟩
theorem dr_no : DrOn → False := id
def bs (l : List UInt8) : Value := .string ⟨l.toArray⟩
theorem ba_eta (s : ByteArray) : Value.string s = bs s.data.toList := rfl
theorem hv116 (w : World) : (zeroValue (Go.Proofs.Tryd.lays160_ren.t 116)).run PX w = .ok (.agg (Array.replicate 256 (.bool false))) w := (Go.Proofs.Tryd.zeroValue82 w).trans (by kernel_rfl)
theorem trimD_br (l : List UInt8) (hl : l.length ≤ 1000000) (h : Hp) : ACall PX 23 [bs l, .string ⟨#[48, 49, 50, 51, 52, 53, 54, 55, 56, 57]⟩] h (fun v g => v = bs (Go.Lib.trimS l digB) ∧ h = g) :=
  bridge (enters_comp Go.Proofs.Tryd.func23 c23) rfl rfl (fun w _ => (Any.strings_Trim_ascii Go.Proofs.Tryd.lays160 hv116 (by kernel_rfl) ⟨l.toArray⟩ ⟨#[48, 49, 50, 51, 52, 53, 54, 55, 56, 57]⟩ w (by show l.toArray.size ≤ _; rw [List.size_toArray]; omega) (by decide) (by
    intro j b hb
    have := List.mem_of_getElem? hb
    have h2 : ∀ b ∈ digB, b.toNat < 128 := by decide
    exact h2 b this)).mono (by
    rintro e w' ⟨rfl, hb⟩
    exact ⟨rfl, hb, fun d => (dr_no d).elim⟩)) h
theorem parse_br {l : List UInt8} (h0 : 1 ≤ l.length) (h9 : l.length ≤ 9) (hd : l.all isDig = true) (h : Hp) : ACall PX 52 [bs l, nI 10, nI 64] h (fun v g => v = .tuple #[nI (valA 0 l), .nilIface] ∧ h = g) := by
  have hp : Go.Lib.parseIntB 64 (ByteArray.mk l.toArray).data.toList = .ok ((valA 0 l : Nat) : Int) := by
    rw [show (ByteArray.mk l.toArray).data.toList = l by simp]
    exact parse_ok h0 h9 hd
  exact bridge (enters_comp Go.Proofs.Tryd.func52 c52) rfl rfl (fun w _ => (Go.Proofs.Tryd.strconv_ParseInt_10_at64_ok ⟨l.toArray⟩ (by show l.toArray.size ≤ _; rw [List.size_toArray]; omega) ((valA 0 l : Nat) : Int) hp w).mono (by
    rintro e w' ⟨rfl, hw⟩
    refine ⟨rfl, ?_, fun d => (dr_no d).elim⟩
    rcases hw with rfl | ⟨t, rfl⟩
    · exact Below.refl _ _
    · exact Go.Joins.below_bytesWorld _ _ _ _ (Nat.le_refl _))) h
theorem cutp_br (l : List UInt8) (h : Hp) : ACall PX 28 [bs l, .string ⟨#[45]⟩] h (fun v g => v = .tuple #[bs (Go.Lib.trimPrefix l [45]), .bool (Go.Lib.hasPrefix l [45])] ∧ h = g) :=
  bridge (enters_comp Go.Proofs.Tryd.func28 c28) rfl rfl (fun w _ => (Go.Proofs.Tryd.strings_CutPrefix ⟨l.toArray⟩ ⟨#[45]⟩ w).mono (by
    rintro e w' ⟨rfl, rfl⟩
    exact ⟨rfl, Below.refl _ _, fun d => (dr_no d).elim⟩)) h
theorem cut_br (l p : List UInt8) (hl : l.length ≤ 1000000) (h : Hp) : ACall PX 24 [bs l, bs p] h (fun v g => v = .tuple #[bs (Go.Lib.cut l p).1, bs (Go.Lib.cut l p).2.1, .bool (Go.Lib.cut l p).2.2] ∧ h = g) :=
  bridge (enters_comp Go.Proofs.Tryd.func24 c24) rfl rfl (fun w tb => by
    obtain ⟨m, hm⟩ := tb.2
    refine (Go.Proofs.Tryd.strings_Cut ⟨l.toArray⟩ ⟨p.toArray⟩ m w (by show l.toArray.size < _; rw [List.size_toArray]; omega) hm).mono ?_
    rintro e w' ⟨rfl, n, rfl⟩
    exact ⟨rfl, below_drewN _ _, fun d => (dr_no d).elim⟩) h
section
variable {P : Program} {CT : FuncId → List Value → Hp → (Value → Hp → Prop) → Prop} {d : Option Nat} {xs : List Operand} {env : Env} {h : Hp} {R : Value → Hp → Prop}
theorem w_neB {a b : List UInt8} (e : mapF env xs = some [bs a, bs b]) (n : R (.bool (!(a == b))) h) : WI P CT ⟨d, none, .op (.bin .neq) xs⟩ env h R :=
  w_v (v := .bool !((ByteArray.mk a.toArray).toList == (ByteArray.mk b.toArray).toList)) (by unfold opF; rw [e]; rfl) (by rw [ByteArray.toList_eq, ByteArray.toList_eq]) n
theorem w_eqB {a b : List UInt8} (e : mapF env xs = some [bs a, bs b]) (n : R (.bool (a == b)) h) : WI P CT ⟨d, none, .op (.bin .eql) xs⟩ env h R :=
  w_v (v := .bool ((ByteArray.mk a.toArray).toList == (ByteArray.mk b.toArray).toList)) (by unfold opF; rw [e]; rfl) (by rw [ByteArray.toList_eq, ByteArray.toList_eq]) n
end
theorem sz_mk (l : List UInt8) : (ByteArray.mk l.toArray).size = l.length := by simp [ByteArray.size]
theorem digits_ok (l : List UInt8) (most : Nat) (hm : most ≤ 9) (hl : l.length ≤ 1000000) (h : Hp) : ACall PX 29 [bs l, nI most] h (fun v g => v = .tuple #[nI (((digF l most).getD 0 : Nat) : Int), .bool (digF l most).isSome] ∧ h = g) := by
  have hz := sz_mk l
  unfold digF
  refine acall Go.Proofs.Tryd.func29 c29 (by simp [ir29]) ?_
  unfold ir29
  dsimp only
  by_cases h1 : 1 ≤ l.length
  case neg =>
    rw [if_neg (fun q => h1 q.1)]
    repeat (first | refine sS ?_ | refine sE ?_ | refine w_mv rfl ?_ | refine w_pickT rfl ?_ | (refine is_okn rfl ?_; refine w_op rfl ?_) | refine w_gF rfl rfl ?_ | (refine w_cmp (c2 := true) rfl ?_ ?_; focus (first | exact decide_eq_true (by omega) | (simp; done) | (simp; omega))) | refine ai_seq ?_ | refine ai_regW ?_ | refine ai_condF (b := true) rfl (fun _ => ?_) (fun hb => by cases hb) | (refine ai_ret ?_; repeat (first | rw [thenQ_r] | rw [blockQ_r] | rw [roundE_r])))
    exact ⟨_, rfl, rfl, rfl⟩
  by_cases h2 : l.length ≤ most
  case neg =>
    rw [if_neg (fun q => h2 q.2.1)]
    repeat (first | refine sS ?_ | refine sE ?_ | refine w_mv rfl ?_ | refine w_pickT rfl ?_ | refine w_pickF rfl ?_ | (refine is_okn rfl ?_; refine w_op rfl ?_) | refine w_gT rfl rfl ?_ | refine w_gF rfl rfl ?_ | (refine w_cmp (c2 := true) rfl ?_ ?_; focus (first | exact decide_eq_true (by omega) | (simp; done) | (simp; omega))) | (refine w_cmp (c2 := false) rfl ?_ ?_; focus (first | exact decide_eq_false (by omega) | (simp; done) | (simp; omega))) | refine ai_seq ?_ | refine ai_regW ?_ | refine ai_condF (b := true) rfl (fun _ => ?_) (fun hb => by cases hb) | (refine ai_ret ?_; repeat (first | rw [thenQ_r] | rw [blockQ_r] | rw [roundE_r])))
    exact ⟨_, rfl, rfl, rfl⟩
  repeat (first | refine sS ?_ | refine sE ?_ | refine w_mv rfl ?_ | refine w_pickF rfl ?_ | (refine is_okn rfl ?_; refine w_op rfl ?_) | refine w_gT rfl rfl ?_ | (refine w_cmp (c2 := false) rfl ?_ ?_; focus (first | exact decide_eq_false (by omega) | (simp; done) | (simp; omega))) | (refine w_call rfl ((trimD_br l hl _).mono ?_); rintro _ _ ⟨rfl, rfl⟩) | refine ai_seq ?_ | refine ai_regW ?_)
  refine w_neB (b := []) rfl ?_
  by_cases h3 : l.all isDig = true
  · rw [if_pos ⟨h1, h2, h3⟩, trim_nil l |>.2 h3]
    repeat (first | refine sS ?_ | refine sE ?_ | refine w_mv rfl ?_ | refine w_pickF rfl ?_ | refine ai_seq ?_ | refine ai_regW ?_ | refine ai_condF (b := false) rfl (fun hb => by cases hb) (fun _ => ?_) | refine ai_skip ?_)
    refine w_call rfl ((parse_br h1 (by omega) h3 _).mono ?_)
    rintro _ _ ⟨rfl, rfl⟩
    repeat (first | refine sS ?_ | refine sE ?_ | refine w_mv rfl ?_ | refine w_ext rfl rfl ?_ | refine ai_seq ?_ | refine ai_regW ?_ | (refine ai_ret ?_; repeat (first | rw [thenQ_r] | rw [blockQ_r] | rw [roundE_r])))
    exact ⟨_, rfl, rfl, rfl⟩
  · have hne : (!(Go.Lib.trimS l digB == [])) = true := by
      have : ¬ Go.Lib.trimS l digB = [] := fun q => h3 ((trim_nil l).1 q)
      simpa using this
    rw [if_neg (fun q => h3 q.2.2), hne]
    repeat (first | refine sS ?_ | refine sE ?_ | refine w_mv rfl ?_ | refine w_pickF rfl ?_ | refine ai_seq ?_ | refine ai_regW ?_ | refine ai_condF (b := true) rfl (fun _ => ?_) (fun hb => by cases hb) | (refine ai_ret ?_; repeat (first | rw [thenQ_r] | rw [blockQ_r] | rw [roundE_r])))
    exact ⟨_, rfl, rfl, rfl⟩
end Go.Proofs.YtapbmmlgmcmpnaaDoorW.Am
/- Texts: Number. -/
namespace Go.Proofs.YtapbmmlgmcmpnaaDoorW.Am
open Go Go.RowKit
def sgn (neg : Bool) (n : Int) : Int := if neg = true then -n else n
def numU (t : List UInt8) : Option Nat :=
  match digF (Go.Lib.cut t [46]).1 9 with
  | none => none
  | some n => if (Go.Lib.cut t [46]).2.2 = true then (match digF (Go.Lib.cut t [46]).2.1 3 with
    | none => none
    | some k => some (n * 1000 + k * 10 ^ (3 - (Go.Lib.cut t [46]).2.1.length))) else some (n * 1000)
def numF (l : List UInt8) : Option Int := (numU (Go.Lib.trimPrefix l [45])).map fun n => sgn (Go.Lib.hasPrefix l [45]) n
theorem trimP_len (l p : List UInt8) : (Go.Lib.trimPrefix l p).length ≤ l.length := by
  unfold Go.Lib.trimPrefix
  split
  · rw [List.length_drop]; omega
  · exact Nat.le_refl _
theorem cut_len (l p : List UInt8) : (Go.Lib.cut l p).1.length ≤ l.length ∧ (Go.Lib.cut l p).2.1.length ≤ l.length := by
  unfold Go.Lib.cut
  split
  · exact ⟨by rw [List.length_take]; omega, by rw [List.length_drop]; omega⟩
  · exact ⟨Nat.le_refl _, Nat.zero_le _⟩
theorem digF_some {l : List UInt8} {most n : Nat} (h : digF l most = some n) : 1 ≤ l.length ∧ l.length ≤ most ∧ n < 10 ^ l.length := by
  unfold digF at h
  split at h
  · next hc =>
    cases h
    have := valA_lt l 0 0 hc.2.2 (by decide)
    rw [Nat.zero_add] at this
    exact ⟨hc.1, hc.2.1, this⟩
  · cases h
set_option maxRecDepth 10000 in
set_option maxHeartbeats 1000000 in
theorem number_ok (l : List UInt8) (hl : l.length ≤ 1000000) (h : Hp) : ACall PX 12 [bs l] h (fun v g => v = .tuple #[nI ((numF l).getD 0), .bool (numF l).isSome] ∧ h = g) := by
  have ht := trimP_len l [45]
  have hcl := cut_len (Go.Lib.trimPrefix l [45]) [46]
  obtain ⟨neg, hneg⟩ : ∃ b, Go.Lib.hasPrefix l [45] = b := ⟨_, rfl⟩
  obtain ⟨t, het⟩ : ∃ t, Go.Lib.trimPrefix l [45] = t := ⟨_, rfl⟩
  obtain ⟨⟨a, b, pt⟩, hc⟩ : ∃ c, Go.Lib.cut t [46] = c := ⟨_, rfl⟩
  unfold numF numU
  rw [het] at ht hcl ⊢
  rw [hc] at hcl ⊢
  rw [hneg]
  dsimp only at hcl ⊢
  have hzb := sz_mk b
  have c1 := fun g => cutp_br l g
  simp only [het, hneg] at c1
  have c2 := fun g => cut_br t [46] (by omega) g
  simp only [hc] at c2
  refine acall Go.Proofs.Tryd.func12 c12 (by simp [ir12]) ?_
  unfold ir12
  dsimp only
  repeat (first | refine sS ?_ | refine sE ?_ | refine w_mv rfl ?_ | (refine is_okn rfl ?_; refine w_op rfl ?_) | refine w_ext rfl rfl ?_ | (refine w_call rfl ((c1 _).mono ?_); rintro _ _ ⟨rfl, rfl⟩) | (refine w_call rfl ((c2 _).mono ?_); rintro _ _ ⟨rfl, rfl⟩) | (refine w_call rfl ((digits_ok a 9 (by decide) (by omega) _).mono ?_); rintro _ _ ⟨rfl, rfl⟩) | refine ai_seq ?_ | refine ai_regW ?_)
  cases hA : digF a 9 with
  | none =>
    repeat (first | refine sS ?_ | refine sE ?_ | refine w_mv rfl ?_ | refine ai_seq ?_ | refine ai_regW ?_ | refine ai_condF (b := true) rfl (fun _ => ?_) (fun hb => by cases hb) | (refine ai_ret ?_; repeat (first | rw [thenQ_r] | rw [blockQ_r] | rw [roundE_r])))
    exact ⟨_, rfl, rfl, rfl⟩
  | some n =>
    obtain ⟨a1, a2, a3⟩ := digF_some hA
    have hn9 : n < 10 ^ 9 := Nat.lt_of_lt_of_le a3 (Nat.pow_le_pow_right (by decide) a2)
    simp only [Option.getD_some, Option.isSome_some]
    cases pt
    · repeat (first | refine sS ?_ | refine sE ?_ | refine w_mv rfl ?_ | (refine w_mul rfl ?_ ?_; (focus omega)) | refine ai_seq ?_ | refine ai_regW ?_ | refine ai_condF (b := false) rfl (fun hb => by cases hb) (fun _ => ?_) | refine ai_skip ?_)
      cases neg
      · repeat (first | refine sS ?_ | refine sE ?_ | refine w_mv rfl ?_ | refine ai_seq ?_ | refine ai_regW ?_ | refine ai_condF (b := false) rfl (fun hb => by cases hb) (fun _ => ?_) | refine ai_skip ?_ | (refine ai_ret ?_; repeat (first | rw [thenQ_r] | rw [blockQ_r] | rw [roundE_r])))
        exact ⟨_, rfl, rfl, rfl⟩
      · repeat (first | refine sS ?_ | refine sE ?_ | refine w_mv rfl ?_ | (refine w_neg rfl ?_ ?_; (focus omega)) | refine ai_seq ?_ | refine ai_regW ?_ | refine ai_condF (b := true) rfl (fun _ => ?_) (fun hb => by cases hb) | (refine ai_ret ?_; repeat (first | rw [thenQ_r] | rw [blockQ_r] | rw [roundE_r])))
        exact ⟨_, rfl, rfl, rfl⟩
    · repeat (first | refine sS ?_ | refine sE ?_ | refine w_mv rfl ?_ | (refine is_okn rfl ?_; refine w_op rfl ?_) | refine w_ext rfl rfl ?_ | (refine w_mul rfl ?_ ?_; (focus omega)) | (refine w_call rfl ((digits_ok b 3 (by decide) (by omega) _).mono ?_); rintro _ _ ⟨rfl, rfl⟩) | refine ai_seq ?_ | refine ai_regW ?_ | refine ai_condF (b := true) rfl (fun _ => ?_) (fun hb => by cases hb) | refine ai_condF (b := false) rfl (fun hb => by cases hb) (fun _ => ?_) | refine ai_skip ?_)
      cases hB : digF b 3 with
      | none =>
        repeat (first | refine sS ?_ | refine sE ?_ | refine w_mv rfl ?_ | refine ai_seq ?_ | refine ai_regW ?_ | refine ai_condF (b := true) rfl (fun _ => ?_) (fun hb => by cases hb) | (refine ai_ret ?_; repeat (first | rw [thenQ_r] | rw [blockQ_r] | rw [roundE_r])))
        exact ⟨_, rfl, rfl, rfl⟩
      | some k =>
        obtain ⟨b1, b2, b3⟩ := digF_some hB
        have hk3 : k < 10 ^ 3 := Nat.lt_of_lt_of_le b3 (Nat.pow_le_pow_right (by decide) b2)
        simp only [Option.getD_some, Option.isSome_some]
        repeat (first | refine sS ?_ | refine sE ?_ | refine w_mv rfl ?_ | (refine is_okn rfl ?_; refine w_op rfl ?_) | (refine w_sub rfl ?_ ?_; (focus omega)) | refine ai_seq ?_ | refine ai_regW ?_ | refine ai_condF (b := false) rfl (fun hb => by cases hb) (fun _ => ?_) | refine ai_skip ?_ | refine ai_block ?_)
        refine ai_loopE (γ := Nat × Nat) (fun e => [(4, .bool neg), (8, .int .i64 ((n : Int) * 1000)), (10, nI (e.2 : Nat)), (42, .int .i64 (3 - ((ByteArray.mk b.toArray).size : Int))), (43, nI e.1)])
          (fun e g => h = g ∧ e.1 ≤ 3 - b.length ∧ e.2 = k * 10 ^ e.1) (fun e => 3 - e.1) (0, k)
          (by repeat (first | exact le_nil | refine le_consF rfl ?_)) ⟨rfl, Nat.zero_le _, by simp⟩ ?_
        rintro ⟨j, x⟩ g1 ⟨rfl, hj, hx⟩
        dsimp only at hj hx ⊢
        have hxb : x ≤ 99900 := by
          rcases (show j = 0 ∨ j = 1 ∨ j = 2 by omega) with rfl | rfl | rfl
          · simp at hx; omega
          · simp at hx; omega
          · simp at hx; omega
        by_cases hj2 : j < 3 - b.length
        · repeat (first | refine sS ?_ | refine sE ?_ | refine w_mv rfl ?_ | (refine w_add rfl ?_ ?_; (focus omega)) | (refine w_cmp (c2 := true) rfl ?_ ?_; focus (first | exact decide_eq_true (by omega) | (simp; done) | (simp; omega))) | (refine w_mul rfl ?_ ?_; (focus omega)) | refine ai_seq ?_ | refine ai_regW ?_ | refine ai_condF (b := true) rfl (fun _ => ?_) (fun hb => by cases hb) | refine ai_skip ?_ | refine ai_block ?_)
          exact ⟨(j + 1, x * 10), (by repeat (first | exact le_nil | refine le_consF rfl ?_)), ⟨rfl, by dsimp only; omega, by dsimp only; rw [hx, Nat.pow_succ, Nat.mul_assoc]⟩, by dsimp only; omega⟩
        · obtain rfl : j = 3 - b.length := by omega
          rw [← hx]
          cases neg
          · repeat (first | refine sS ?_ | refine sE ?_ | refine w_mv rfl ?_ | (refine w_add rfl ?_ ?_; (focus omega)) | (refine w_cmp (c2 := false) rfl ?_ ?_; focus (first | exact decide_eq_false (by omega) | (simp; done) | (simp; omega))) | refine ai_seq ?_ | refine ai_regW ?_ | refine ai_condF (b := false) rfl (fun hb => by cases hb) (fun _ => ?_) | refine ai_skip ?_ | refine ai_exit ?_ | (refine ai_ret ?_; repeat (first | rw [thenQ_r] | rw [blockQ_r] | rw [roundE_r])))
            refine ⟨_, rfl, ?_, rfl⟩
            simp [pack, sgn, nI]
          · repeat (first | refine sS ?_ | refine sE ?_ | refine w_mv rfl ?_ | (refine w_add rfl ?_ ?_; (focus omega)) | (refine w_cmp (c2 := false) rfl ?_ ?_; focus (first | exact decide_eq_false (by omega) | (simp; done) | (simp; omega))) | (refine w_neg rfl ?_ ?_; (focus omega)) | refine ai_seq ?_ | refine ai_regW ?_ | refine ai_condF (b := true) rfl (fun _ => ?_) (fun hb => by cases hb) | refine ai_condF (b := false) rfl (fun hb => by cases hb) (fun _ => ?_) | refine ai_exit ?_ | (refine ai_ret ?_; repeat (first | rw [thenQ_r] | rw [blockQ_r] | rw [roundE_r])))
            refine ⟨_, rfl, ?_, rfl⟩
            simp [pack, sgn, nI]
end Go.Proofs.YtapbmmlgmcmpnaaDoorW.Am
/- The program's plain types, as cells: pods, requests, what is seen. -/
namespace Go.Proofs.YtapbmmlgmcmpnaaDoorW.Am
open Go Go.RowKit
/-- A pod: number, state, how many in flight, since when. -/
abbrev Pd := Int × Int × Int × Int
def p4 (v : Pd) : List Value := [nI v.1, nI v.2.1, nI v.2.2.1, nI v.2.2.2]
theorem els4 (l : List Pd) : Els 4 (l.map p4) := fun u hu => by
  obtain ⟨p, _, rfl⟩ := List.mem_map.1 hu
  exact ⟨rfl, rfl⟩
/-- Something that is seen: time, wanted, panic, proxy, pods, waiting, busy, the seven ends, over. -/
structure Vw where
  (t want : Int) (panic proxy : Bool) (pods : Value) (waiting busy e0 e1 e2 e3 e4 e5 e6 : Int) (over : Bool)
def vs15 (v : Vw) : List Value := [nI v.t, nI v.want, .bool v.panic, .bool v.proxy, v.pods, nI v.waiting, nI v.busy, nI v.e0, nI v.e1, nI v.e2, nI v.e3, nI v.e4, nI v.e5, nI v.e6, .bool v.over]
theorem vs15_one {v : Vw} (ho : one v.pods = true) : (vs15 v).all one = true := by simp only [vs15, List.all_cons, List.all_nil, ho]; rfl
/-- A row of what is seen, each with its pods. -/
abbrev VP := Vw × List Pd
structure RV15 (h : Hp) (s : Value) (l : List VP) : Prop where
  row : RR 15 h s (l.map fun p => vs15 p.1)
  pods : ∀ p ∈ l, RR 4 h p.1.pods (p.2.map p4)
theorem RV15.ext {h g : Hp} {s : Value} {l : List VP} (a : RV15 h s l) (x : Ext h g) : RV15 g s l := ⟨a.row.ext x, fun p hp => (a.pods p hp).ext x⟩
theorem take_snoc {α : Type} {l : List α} {i : Nat} {a : α} (h : l[i]? = some a) : l.take (i + 1) = l.take i ++ [a] := by
  obtain ⟨h1, rfl⟩ := List.getElem?_eq_some_iff.1 h
  exact List.take_succ_eq_append_getElem h1
theorem getD_lt {α : Type} {l : List α} {i : Nat} (h : i < l.length) : ∃ a, l[i]? = some a := ⟨_, List.getElem?_eq_getElem h⟩
end Go.Proofs.YtapbmmlgmcmpnaaDoorW.Am
/- Texts: the document's own digits. -/
namespace Go.Proofs.YtapbmmlgmcmpnaaDoorW.Am
open Go Go.RowKit
section
variable {P : Program} {CT : FuncId → List Value → Hp → (Value → Hp → Prop) → Prop} {d : Option Nat} {xs : List Operand} {env : Env} {h : Hp} {R : Value → Hp → Prop}
theorem w_ixs {l : List UInt8} {i : Nat} {k : IntKind} {b : UInt8} (e : mapF env xs = some [bs l, .int k (i : Int)]) (hb : l[i]? = some b) (n : R (.int .u8 b.toNat) h) : WI P CT ⟨d, none, .op .ixs xs⟩ env h R := by
  refine w_op (v := .int .u8 b.toNat) (h' := h) ?_ n
  unfold opF
  rw [e]
  show (if (0 : Int) ≤ (i : Int) then ((ByteArray.mk l.toArray)[((i : Int)).toNat]?).map (fun b => (Value.int .u8 b.toNat, h)) else none) = _
  have hi := (List.getElem?_eq_some_iff.1 hb).1
  have hg : (ByteArray.mk l.toArray)[i]? = some b := by
    rw [getElem?_pos (ByteArray.mk l.toArray) i (by simpa [ByteArray.size] using hi)]
    have : l[i] = b := (List.getElem?_eq_some_iff.1 hb).2
    exact congrArg some this
  rw [if_pos (by omega), Int.toNat_natCast, hg]
  rfl
theorem w_sub8 {a b : Int} (e : mapF env xs = some [.int .u8 a, .int .u8 b]) (hx : 0 ≤ a - b ∧ a - b ≤ 255) (n : R (.int .u8 (a - b)) h) : WI P CT ⟨d, none, .op (.bin .sub) xs⟩ env h R :=
  w_v (v := .int .u8 (IntKind.u8.wrap (a - b))) (by unfold opF; rw [e]; rfl) (by
    have : IntKind.u8.wrap (a - b) = a - b := by
      have e1 : IntKind.u8.wrap (a - b) = (a - b) % 256 := rfl
      rw [e1]; omega
    rw [this]) n
end
theorem valA_snoc : ∀ (l : List UInt8) (a : Nat) (b : UInt8), valA a (l ++ [b]) = valA a l * 10 + (b.toNat - 48)
  | [], _, _ => rfl
  | c :: l, a, b => valA_snoc l (a * 10 + (c.toNat - 48)) b
set_option maxRecDepth 10000 in
set_option maxHeartbeats 1000000 in
theorem rdigits_ok (l : List UInt8) (most : Nat) (hm : most ≤ 9) (hl : l.length ≤ 1000000) (h : Hp) : ACall PX 30 [bs l, nI most] h (fun v g => v = nI (match digF l most with | some n => (n : Int) | none => -1) ∧ h = g) := by
  have hz := sz_mk l
  unfold digF
  refine acall Go.Proofs.Tryd.func30 c30 (by simp [ir30]) ?_
  unfold ir30
  dsimp only
  by_cases h1 : 1 ≤ l.length
  case neg =>
    rw [if_neg (fun q => h1 q.1)]
    repeat (first | refine sS ?_ | refine sE ?_ | refine w_mv rfl ?_ | refine w_pickT rfl ?_ | (refine is_okn rfl ?_; refine w_op rfl ?_) | refine w_gF rfl rfl ?_ | (refine w_cmp (c2 := true) rfl ?_ ?_; focus (first | exact decide_eq_true (by omega) | (simp; done) | (simp; omega))) | refine ai_seq ?_ | refine ai_regW ?_ | refine ai_condF (b := true) rfl (fun _ => ?_) (fun hb => by cases hb) | (refine ai_ret ?_; repeat (first | rw [thenQ_r] | rw [blockQ_r] | rw [roundE_r])))
    exact ⟨_, rfl, rfl, rfl⟩
  by_cases h2 : l.length ≤ most
  case neg =>
    rw [if_neg (fun q => h2 q.2.1)]
    repeat (first | refine sS ?_ | refine sE ?_ | refine w_mv rfl ?_ | refine w_pickF rfl ?_ | (refine is_okn rfl ?_; refine w_op rfl ?_) | refine w_gT rfl rfl ?_ | (refine w_cmp (c2 := true) rfl ?_ ?_; focus (first | exact decide_eq_true (by omega) | (simp; done) | (simp; omega))) | (refine w_cmp (c2 := false) rfl ?_ ?_; focus (first | exact decide_eq_false (by omega) | (simp; done) | (simp; omega))) | refine ai_seq ?_ | refine ai_regW ?_ | refine ai_condF (b := true) rfl (fun _ => ?_) (fun hb => by cases hb) | (refine ai_ret ?_; repeat (first | rw [thenQ_r] | rw [blockQ_r] | rw [roundE_r])))
    exact ⟨_, rfl, rfl, rfl⟩
  repeat (first | refine sS ?_ | refine sE ?_ | refine w_mv rfl ?_ | refine w_pickF rfl ?_ | (refine is_okn rfl ?_; refine w_op rfl ?_) | refine w_gT rfl rfl ?_ | (refine w_cmp (c2 := false) rfl ?_ ?_; focus (first | exact decide_eq_false (by omega) | (simp; done) | (simp; omega))) | refine ai_seq ?_ | refine ai_regW ?_ | refine ai_condF (b := false) rfl (fun hb => by cases hb) (fun _ => ?_) | refine ai_skip ?_ | refine ai_block ?_)
  refine ai_loopE (γ := Nat × Nat) (fun e => [(0, bs l), (5, nI (e.2 : Nat)), (6, nI e.1)])
    (fun e g => h = g ∧ e.1 ≤ l.length ∧ (l.take e.1).all isDig = true ∧ e.2 = valA 0 (l.take e.1)) (fun e => l.length - e.1) (0, 0)
    (by repeat (first | exact le_nil | refine le_consF rfl ?_)) ⟨rfl, Nat.zero_le _, rfl, rfl⟩ ?_
  rintro ⟨i, x⟩ g1 ⟨rfl, hi, hd, hx⟩
  dsimp only at hi hd hx ⊢
  have hb9 : x < 10 ^ 9 := by
    have := valA_lt (l.take i) 0 0 hd (by decide)
    rw [Nat.zero_add, List.length_take] at this
    rw [hx]
    exact Nat.lt_of_lt_of_le this (Nat.pow_le_pow_right (by decide) (by omega))
  by_cases hil : i < l.length
  · obtain ⟨b, hb⟩ := getD_lt hil
    have hv := valA_snoc (l.take i) 0 b
    rw [← take_snoc hb, ← hx] at hv
    have ha : (l.take (i + 1)).all isDig = isDig b := by rw [take_snoc hb, List.all_append, hd]; simp
    have hbt : b.toNat < 256 := b.toNat_lt
    repeat (first | refine sS ?_ | refine sE ?_ | refine w_mv rfl ?_ | (refine is_okn rfl ?_; refine w_op rfl ?_) | (refine w_cmp (c2 := true) rfl ?_ ?_; focus (first | exact decide_eq_true (by omega) | (simp; done) | (simp; omega))) | refine ai_seq ?_ | refine ai_regW ?_ | refine ai_condF (b := true) rfl (fun _ => ?_) (fun hb => by cases hb) | refine ai_skip ?_ | refine ai_block ?_)
    refine w_ixs rfl hb ?_
    by_cases c1 : b.toNat < 48
    · have hnd : ¬ (1 ≤ l.length ∧ l.length ≤ most ∧ l.all isDig = true) := by
        rintro ⟨_, _, q⟩
        have := List.all_eq_true.1 q b (List.mem_of_getElem? hb)
        simp [isDig] at this
        omega
      rw [if_neg hnd]
      repeat (first | refine sS ?_ | refine sE ?_ | refine w_mv rfl ?_ | refine w_pickT rfl ?_ | refine w_gF rfl rfl ?_ | (refine w_cmp (c2 := true) rfl ?_ ?_; focus (first | exact decide_eq_true (by omega) | (simp; done) | (simp; omega))) | refine ai_seq ?_ | refine ai_regW ?_ | refine ai_condF (b := true) rfl (fun _ => ?_) (fun hb => by cases hb) | (refine ai_ret ?_; repeat (first | rw [thenQ_r] | rw [blockQ_r] | rw [roundE_r])))
      exact ⟨_, rfl, rfl, rfl⟩
    · repeat (first | refine sS ?_ | refine w_mv rfl ?_ | refine w_gT rfl rfl ?_ | (refine w_cmp (c2 := false) rfl ?_ ?_; focus (first | exact decide_eq_false (by omega) | (simp; done) | (simp; omega))))
      refine w_ixs rfl hb ?_
      by_cases c2 : 57 < b.toNat
      · have hnd : ¬ (1 ≤ l.length ∧ l.length ≤ most ∧ l.all isDig = true) := by
          rintro ⟨_, _, q⟩
          have := List.all_eq_true.1 q b (List.mem_of_getElem? hb)
          simp [isDig] at this
          omega
        rw [if_neg hnd]
        repeat (first | refine sS ?_ | refine sE ?_ | refine w_mv rfl ?_ | refine w_pickF rfl ?_ | refine w_gT rfl rfl ?_ | (refine w_cmp (c2 := true) rfl ?_ ?_; focus (first | exact decide_eq_true (by omega) | (simp; done) | (simp; omega))) | refine ai_seq ?_ | refine ai_regW ?_ | refine ai_condF (b := true) rfl (fun _ => ?_) (fun hb => by cases hb) | (refine ai_ret ?_; repeat (first | rw [thenQ_r] | rw [blockQ_r] | rw [roundE_r])))
        exact ⟨_, rfl, rfl, rfl⟩
      · repeat (first | refine sS ?_ | refine sE ?_ | refine w_mv rfl ?_ | refine w_pickF rfl ?_ | refine w_gT rfl rfl ?_ | (refine w_cmp (c2 := false) rfl ?_ ?_; focus (first | exact decide_eq_false (by omega) | (simp; done) | (simp; omega))) | (refine w_mul rfl ?_ ?_; (focus omega)) | refine ai_regW ?_ | refine ai_condF (b := false) rfl (fun hb => by cases hb) (fun _ => ?_) | refine ai_skip ?_)
        refine w_ixs rfl hb ?_
        repeat (first | refine sS ?_)
        refine w_sub8 rfl (by omega) ?_
        repeat (first | refine sS ?_ | refine sE ?_ | refine w_mv rfl ?_ | (refine w_add rfl ?_ ?_; (focus omega)) | (refine w_ci rfl ?_ ?_; (focus omega)) | refine ai_regW ?_)
        have hcast : (x : Int) * 10 + ((b.toNat : Int) - 48) = ((x * 10 + (b.toNat - 48) : Nat) : Int) := by omega
        exact ⟨(i + 1, x * 10 + (b.toNat - 48)), (by repeat (first | exact le_nil | refine le_consF (by first | rfl | rw [← hcast]; rfl) ?_)), ⟨rfl, by dsimp only; omega, by dsimp only; rw [ha]; simp [isDig]; omega, by dsimp only; rw [hv]⟩, by dsimp only; omega⟩
  · obtain rfl : i = l.length := by omega
    rw [List.take_length] at hd hx
    rw [if_pos ⟨h1, h2, hd⟩, ← hx]
    repeat (first | refine sS ?_ | refine sE ?_ | refine w_mv rfl ?_ | (refine is_okn rfl ?_; refine w_op rfl ?_) | (refine w_cmp (c2 := false) rfl ?_ ?_; focus (first | exact decide_eq_false (by omega) | (simp; done) | (simp; omega))) | refine ai_seq ?_ | refine ai_regW ?_ | refine ai_condF (b := false) rfl (fun hb => by cases hb) (fun _ => ?_) | refine ai_exit ?_ | (refine ai_ret ?_; repeat (first | rw [thenQ_r] | rw [blockQ_r] | rw [roundE_r])))
    exact ⟨_, rfl, rfl, rfl⟩
end Go.Proofs.YtapbmmlgmcmpnaaDoorW.Am
/- Texts: parts of strings; where a point stands. -/
namespace Go.Proofs.YtapbmmlgmcmpnaaDoorW.Am
open Go Go.RowKit
theorem ex_mk (l : List UInt8) (a b : Nat) : (ByteArray.mk l.toArray).extract a b = ⟨((l.take b).drop a).toArray⟩ := by
  refine ByteArray.ext ?_
  rw [ByteArray.data_extract]
  refine Array.ext' ?_
  rw [Array.toList_extract]
  simp [List.drop_take]
section
variable {P : Program} {CT : FuncId → List Value → Hp → (Value → Hp → Prop) → Prop} {d : Option Nat} {xs : List Operand} {env : Env} {h : Hp} {R : Value → Hp → Prop}
theorem w_slsS {l : List UInt8} {i : Nat} (e : mapF env xs = some [bs l, .int .i64 (i : Int)]) (hi : i ≤ l.length) (n : R (bs (l.drop i)) h) : WI P CT ⟨d, none, .op (.sls true false) xs⟩ env h R := by
  refine w_op (v := bs (l.drop i)) (h' := h) ?_ n
  have hz := sz_mk l
  have hbd : bounds (ByteArray.mk l.toArray).size (ByteArray.mk l.toArray).size (some (.int .i64 (i : Int))) none none = some (i, l.length, l.length) := by
    rw [hz]
    have : (0 : Int) ≤ i ∧ (i : Int) ≤ l.length := by omega
    simp [bounds, bnd, this]
  unfold opF
  rw [e]
  show (bounds (ByteArray.mk l.toArray).size (ByteArray.mk l.toArray).size (some (.int .i64 (i : Int))) none none).map (fun b => (Value.string ((ByteArray.mk l.toArray).extract b.1 b.2.1), h)) = _
  rw [hbd, Option.map_some, ex_mk, List.take_length]
  rfl
theorem w_slsP {l : List UInt8} {i : Nat} (e : mapF env xs = some [bs l, .int .i64 (i : Int)]) (hi : i ≤ l.length) (n : R (bs (l.take i)) h) : WI P CT ⟨d, none, .op (.sls false true) xs⟩ env h R := by
  refine w_op (v := bs (l.take i)) (h' := h) ?_ n
  have hz := sz_mk l
  have hbd : bounds (ByteArray.mk l.toArray).size (ByteArray.mk l.toArray).size none (some (.int .i64 (i : Int))) none = some (0, i, l.length) := by
    rw [hz]
    have : (0 : Int) ≤ i ∧ (i : Int) ≤ l.length := by omega
    simp [bounds, bnd, this]
  unfold opF
  rw [e]
  show (bounds (ByteArray.mk l.toArray).size (ByteArray.mk l.toArray).size none (some (.int .i64 (i : Int))) none).map (fun b => (Value.string ((ByteArray.mk l.toArray).extract b.1 b.2.1), h)) = _
  rw [hbd, Option.map_some, ex_mk, List.drop_zero]
  rfl
end
theorem cut_at {l : List UInt8} {c : UInt8} {i : Nat} (hi : l[i]? = some c) (hn : ∀ k, k < i → l[k]? ≠ some c) : Go.Lib.cut l [c] = (l.take i, l.drop (i + 1), true) := by
  have he : Go.Lib.index l [c] = (i : Int) := by
    rw [Go.Lib.index_one]
    have hge := Go.Lib.indexByte_ge l c
    rcases Int.lt_or_le (Go.Lib.indexByte l c) 0 with h0 | h0
    · exact absurd hi (Go.Lib.indexByte_none (by omega) i)
    · obtain ⟨o, ho⟩ : ∃ o : Nat, Go.Lib.indexByte l c = o := ⟨(Go.Lib.indexByte l c).toNat, by omega⟩
      obtain ⟨h1, h2⟩ := Go.Lib.indexByte_some ho
      rw [ho]
      have a1 : ¬ o < i := fun q => hn o q h1
      have a2 : ¬ i < o := fun q => h2 i q hi
      omega
  unfold Go.Lib.cut
  rw [he, if_pos (by omega), Int.toNat_natCast]
  rfl
theorem cut_no {l : List UInt8} {c : UInt8} (hn : ∀ k : Nat, l[k]? ≠ some c) : Go.Lib.cut l [c] = (l, [], false) := by
  have he : Go.Lib.index l [c] < 0 := by
    rw [Go.Lib.index_one]
    have hge := Go.Lib.indexByte_ge l c
    rcases Int.lt_or_le (Go.Lib.indexByte l c) 0 with h0 | h0
    · exact h0
    · obtain ⟨o, ho⟩ : ∃ o : Nat, Go.Lib.indexByte l c = o := ⟨(Go.Lib.indexByte l c).toNat, by omega⟩
      exact absurd (Go.Lib.indexByte_some ho).1 (hn o)
  unfold Go.Lib.cut
  rw [if_neg (by omega)]
end Go.Proofs.YtapbmmlgmcmpnaaDoorW.Am
/- Texts: the document's own Number. -/
namespace Go.Proofs.YtapbmmlgmcmpnaaDoorW.Am
open Go Go.RowKit
theorem digF_zero {b : List UInt8} {k : Nat} (h : digF b 3 = some k) : ∀ j, b.length + j ≤ 3 → digF (b ++ List.replicate j 48) 3 = some (k * 10 ^ j) := by
  intro j hj
  unfold digF at h ⊢
  split at h
  case isFalse => cases h
  next hc =>
  cases h
  have hall : ∀ j, (b ++ List.replicate j (48 : UInt8)).all isDig = true ∧ valA 0 (b ++ List.replicate j (48 : UInt8)) = valA 0 b * 10 ^ j := by
    intro j
    induction j with
    | zero => simpa using hc.2.2
    | succ j ih =>
      rw [List.replicate_succ', ← List.append_assoc, valA_snoc, ih.2, List.all_append, ih.1]
      refine ⟨by decide, ?_⟩
      rw [Nat.pow_succ, ← Nat.mul_assoc]
      rfl
  rw [if_pos ⟨by rw [List.length_append]; omega, by rw [List.length_append, List.length_replicate]; omega, (hall j).1⟩, (hall j).2]
theorem pre_cons (c : UInt8) (r : List UInt8) : Go.Lib.hasPrefix (c :: r) [45] = (45 == c) := by
  show ([45] : List UInt8).isPrefixOf (c :: r) = _
  simp [List.isPrefixOf]
section
variable {P : Program} {CT : FuncId → List Value → Hp → (Value → Hp → Prop) → Prop} {d : Option Nat} {xs : List Operand} {env : Env} {h : Hp} {R : Value → Hp → Prop}
theorem w_catB {a b : List UInt8} (e : mapF env xs = some [bs a, bs b]) (hl : a.length + b.length ≤ 9223372036854775807) (n : R (bs (a ++ b)) h) : WI P CT ⟨d, none, .op (.bin .add) xs⟩ env h R := by
  refine w_op (v := bs (a ++ b)) (h' := h) ?_ n
  have za := sz_mk a
  have zb := sz_mk b
  unfold opF
  rw [e]
  show Option.map (·, h) (if (ByteArray.mk a.toArray).size + (ByteArray.mk b.toArray).size ≤ 9223372036854775807 then some (Value.string ((ByteArray.mk a.toArray) ++ (ByteArray.mk b.toArray))) else none) = _
  rw [if_pos (by omega)]
  have : ((ByteArray.mk a.toArray) ++ (ByteArray.mk b.toArray)) = ⟨(a ++ b).toArray⟩ := ByteArray.ext (by simp)
  rw [this]
  rfl
end
theorem pre_nil : Go.Lib.hasPrefix [] [45] = false := rfl
set_option maxRecDepth 10000 in
set_option maxHeartbeats 2000000 in
theorem rnumber_ok (l : List UInt8) (hl : l.length ≤ 1000000) (h : Hp) : ACall PX 13 [bs l] h (fun v g => v = .tuple #[nI ((numF l).getD 0), .bool (numF l).isSome] ∧ h = g) := by
  have hz := sz_mk l
  refine acall Go.Proofs.Tryd.func13 c13 (by simp [ir13]) ?_
  unfold ir13
  dsimp only
  repeat (first | rw [thenQ_r] | rw [blockQ_r] | rw [roundE_r])
  refine ai_seq ?_
  repeat (first | refine sS ?_ | refine sE ?_ | refine w_mv rfl ?_ | refine ai_regW ?_)
  repeat (first | rw [thenQ_r] | rw [blockQ_r] | rw [roundE_r])
  refine ai_join (γ := Unit) (fun _ => [(0, bs l), (4, .bool (Go.Lib.hasPrefix l [45]))]) (fun _ g => h = g) ?_ ?_
  · cases l with
    | nil =>
      rw [pre_nil]
      repeat (first | refine sS ?_ | refine w_mv rfl ?_ | (refine is_okn rfl ?_; refine w_op rfl ?_) | refine ai_regW ?_)
      exact ⟨rfl, (), (by repeat (first | exact le_nil | refine le_consF rfl ?_)), rfl⟩
    | cons c r =>
      have h0 : 0 < (c :: r).length := by simp
      rw [pre_cons]
      repeat (first | refine sS ?_ | refine w_mv rfl ?_ | (refine is_okn rfl ?_; refine w_op rfl ?_) | refine w_gT rfl rfl ?_ | (refine w_cmp (c2 := true) rfl ?_ ?_; focus (first | exact decide_eq_true (by omega) | (simp; done) | (simp; omega))) | refine ai_regW ?_)
      refine ⟨rfl, (), le_consF rfl (le_consF ?_ le_nil), rfl⟩
      show some (Value.bool ((c.toNat : Int) == 45)) = _
      have hb : ((c.toNat : Int) == 45) = (45 == c) := by
        by_cases hc : c = 45
        · subst hc; rfl
        · have hc2 : c.toNat ≠ 45 := fun q => hc (UInt8.toNat_inj.1 q)
          rw [show ((45 : UInt8) == c) = false by simpa using fun q => hc q.symm]
          simp
          omega
      rw [hb]
  rintro _ _ rfl
  obtain ⟨neg, hneg⟩ : ∃ b, Go.Lib.hasPrefix l [45] = b := ⟨_, rfl⟩
  obtain ⟨t, het⟩ : ∃ t, Go.Lib.trimPrefix l [45] = t := ⟨_, rfl⟩
  have ht := trimP_len l [45]
  rw [het] at ht
  rw [hneg]
  refine ai_join (γ := Unit) (fun _ => [(0, bs t), (4, .bool neg)]) (fun _ g => h = g) ?_ ?_
  · rw [← het]
    unfold Go.Lib.trimPrefix
    rw [hneg]
    cases neg
    · repeat (first | refine sS ?_ | refine sE ?_ | refine w_mv rfl ?_ | refine ai_seq ?_ | refine ai_regW ?_ | refine ai_condF (b := false) rfl (fun hb => by cases hb) (fun _ => ?_) | refine ai_skip ?_)
      exact ⟨rfl, (), (by repeat (first | exact le_nil | refine le_consF rfl ?_)), rfl⟩
    · have h1 : 1 ≤ l.length := by
        cases l with
        | nil => cases hneg
        | cons c r => simp
      repeat (first | refine sS ?_ | refine sE ?_ | refine w_mv rfl ?_ | refine ai_seq ?_ | refine ai_regW ?_ | refine ai_condF (b := true) rfl (fun _ => ?_) (fun hb => by cases hb))
      refine w_slsS (i := 1) rfl h1 ?_
      repeat (first | refine sS ?_ | refine sE ?_ | refine w_mv rfl ?_)
      exact ⟨rfl, (), (by repeat (first | exact le_nil | refine le_consF rfl ?_)), rfl⟩
  rintro _ _ rfl
  clear hz
  have hz := sz_mk t
  repeat (first | rw [thenQ_r] | rw [blockQ_r] | rw [roundE_r])
  refine ai_seq ?_
  repeat (first | refine sS ?_ | refine sE ?_ | refine w_mv rfl ?_ | (refine is_okn rfl ?_; refine w_op rfl ?_) | refine ai_regW ?_)
  repeat (first | rw [thenQ_r] | rw [blockQ_r] | rw [roundE_r])
  refine ai_join (γ := Nat) (fun p => [(0, bs t), (4, .bool neg), (5, nI p)]) (fun p g => h = g ∧ ((p = t.length ∧ ∀ k : Nat, t[k]? ≠ some 46) ∨ (p < t.length ∧ t[p]? = some 46 ∧ ∀ k, k < p → t[k]? ≠ some 46))) ?_ ?_
  · repeat (first | refine sS ?_ | refine sE ?_ | refine w_mv rfl ?_ | refine ai_seq ?_ | refine ai_regW ?_ | refine ai_block ?_)
    refine ai_loopE (γ := Nat × Nat) (fun e => [(0, bs t), (4, .bool neg), (5, nI e.2), (6, nI e.1)])
      (fun e g => h = g ∧ e.1 ≤ t.length ∧ ((e.2 = t.length ∧ ∀ k, k < e.1 → t[k]? ≠ some 46) ∨ (e.2 < t.length ∧ t[e.2]? = some 46 ∧ ∀ k, k < e.2 → t[k]? ≠ some 46))) (fun e => t.length - e.1) (0, t.length)
      (by repeat (first | exact le_nil | refine le_consF rfl ?_)) ⟨rfl, Nat.zero_le _, .inl ⟨rfl, fun k hk => by omega⟩⟩ ?_
    rintro ⟨i, p⟩ g1 ⟨rfl, hi, hp⟩
    dsimp only at hi hp ⊢
    by_cases hil : i < t.length
    · rcases hp with ⟨rfl, hno⟩ | ⟨hpl, hpa, hpn⟩
      · obtain ⟨b, hb⟩ := getD_lt hil
        repeat (first | refine sS ?_ | refine sE ?_ | refine w_mv rfl ?_ | refine w_pickT rfl ?_ | (refine is_okn rfl ?_; refine w_op rfl ?_) | refine w_gT rfl rfl ?_ | (refine w_cmp (c2 := true) rfl ?_ ?_; focus (first | exact decide_eq_true (by omega) | (simp; done) | (simp; omega))) | refine ai_seq ?_ | refine ai_regW ?_ | refine ai_condF (b := true) rfl (fun _ => ?_) (fun hb => by cases hb) | refine ai_skip ?_ | refine ai_block ?_)
        refine w_ixs rfl hb ?_
        by_cases hc : b = 46
        · subst hc
          repeat (first | refine sS ?_ | refine sE ?_ | refine w_mv rfl ?_ | (refine w_add rfl ?_ ?_; (focus omega)) | (refine w_cmp (c2 := true) rfl ?_ ?_; focus (first | exact decide_eq_true (by omega) | (simp; done) | (simp; omega))) | refine ai_regW ?_ | refine ai_condF (b := true) rfl (fun _ => ?_) (fun hb => by cases hb))
          exact ⟨(i + 1, i), (by repeat (first | exact le_nil | refine le_consF rfl ?_)), ⟨rfl, by dsimp only; omega, .inr ⟨hil, hb, hno⟩⟩, by dsimp only; omega⟩
        · have hc2 : b.toNat ≠ 46 := fun q => hc (UInt8.toNat_inj.1 q)
          repeat (first | refine sS ?_ | refine sE ?_ | refine w_mv rfl ?_ | (refine w_add rfl ?_ ?_; (focus omega)) | (refine w_cmp (c2 := false) rfl ?_ ?_; focus (first | exact decide_eq_false (by omega) | (simp; done) | (simp; omega))) | refine ai_regW ?_ | refine ai_condF (b := false) rfl (fun hb => by cases hb) (fun _ => ?_) | refine ai_skip ?_)
          refine ⟨(i + 1, t.length), (by repeat (first | exact le_nil | refine le_consF rfl ?_)), ⟨rfl, by dsimp only; omega, .inl ⟨rfl, fun k hk => ?_⟩⟩, by dsimp only; omega⟩
          by_cases hk2 : k < i
          · exact hno k hk2
          · obtain rfl : k = i := by dsimp only at hk; omega
            rw [hb]
            exact fun q => hc (Option.some.inj q)
      · repeat (first | refine sS ?_ | refine sE ?_ | refine w_mv rfl ?_ | refine w_pickT rfl ?_ | (refine is_okn rfl ?_; refine w_op rfl ?_) | refine w_gT rfl rfl ?_ | (refine w_cmp (c2 := true) rfl ?_ ?_; focus (first | exact decide_eq_true (by omega) | (simp; done) | (simp; omega))) | (refine w_cmp (c2 := false) rfl ?_ ?_; focus (first | exact decide_eq_false (by omega) | (simp; done) | (simp; omega))) | refine ai_seq ?_ | refine ai_regW ?_ | refine ai_condF (b := false) rfl (fun hb => by cases hb) (fun _ => ?_) | refine ai_exit ?_)
        exact ⟨rfl, p, (by repeat (first | exact le_nil | refine le_consF rfl ?_)), rfl, .inr ⟨hpl, hpa, hpn⟩⟩
    · repeat (first | refine sS ?_ | refine sE ?_ | refine w_mv rfl ?_ | refine w_pickF rfl ?_ | (refine is_okn rfl ?_; refine w_op rfl ?_) | refine w_gF rfl rfl ?_ | (refine w_cmp (c2 := false) rfl ?_ ?_; focus (first | exact decide_eq_false (by omega) | (simp; done) | (simp; omega))) | refine ai_seq ?_ | refine ai_regW ?_ | refine ai_condF (b := false) rfl (fun hb => by cases hb) (fun _ => ?_) | refine ai_exit ?_)
      refine ⟨rfl, p, (by repeat (first | exact le_nil | refine le_consF rfl ?_)), rfl, ?_⟩
      rcases hp with ⟨rfl, hno⟩ | hp
      · refine .inl ⟨rfl, fun k q => ?_⟩
        have := (List.getElem?_eq_some_iff.1 q).1
        exact hno k (by omega) q
      · exact .inr hp
  rintro p _ ⟨rfl, hp⟩
  unfold numF numU
  rw [het, hneg]
  rcases hp with ⟨rfl, hno⟩ | ⟨hpl, hpa, hpn⟩
  · rw [cut_no hno]
    dsimp only
    repeat (first | refine sS ?_ | refine w_mv rfl ?_ | refine ai_seq ?_ | refine ai_regW ?_)
    refine w_slsP rfl (Nat.le_refl _) ?_
    rw [List.take_length]
    repeat (first | refine sS ?_ | refine sE ?_ | refine w_mv rfl ?_ | (refine is_okn rfl ?_; refine w_op rfl ?_) | (refine w_cmp (c2 := false) rfl ?_ ?_; focus (first | exact decide_eq_false (by omega) | (simp; done) | (simp; omega))) | (refine w_call rfl ((rdigits_ok t 9 (by decide) (by omega) _).mono ?_); rintro _ _ ⟨rfl, rfl⟩) | refine ai_seq ?_ | refine ai_regW ?_ | refine ai_condF (b := false) rfl (fun hb => by cases hb) (fun _ => ?_) | refine ai_skip ?_)
    cases hA : digF t 9 with
    | none =>
      repeat (first | refine sS ?_ | refine sE ?_ | refine w_mv rfl ?_ | (refine w_cmp (c2 := true) rfl ?_ ?_; focus (first | exact decide_eq_true (by omega) | (simp; done) | (simp; omega))) | refine ai_seq ?_ | refine ai_regW ?_ | refine ai_condF (b := true) rfl (fun _ => ?_) (fun hb => by cases hb) | (refine ai_ret ?_; repeat (first | rw [thenQ_r] | rw [blockQ_r] | rw [roundE_r])))
      exact ⟨_, rfl, rfl, rfl⟩
    | some n =>
      obtain ⟨a1, a2, a3⟩ := digF_some hA
      have hn9 : n < 10 ^ 9 := Nat.lt_of_lt_of_le a3 (Nat.pow_le_pow_right (by decide) a2)
      dsimp only
      repeat (first | refine sS ?_ | refine sE ?_ | refine w_mv rfl ?_ | (refine w_add rfl ?_ ?_; (focus omega)) | (refine w_cmp (c2 := false) rfl ?_ ?_; focus (first | exact decide_eq_false (by omega) | (simp; done) | (simp; omega))) | (refine w_mul rfl ?_ ?_; (focus omega)) | refine ai_seq ?_ | refine ai_regW ?_ | refine ai_condF (b := false) rfl (fun hb => by cases hb) (fun _ => ?_) | refine ai_skip ?_)
      cases neg
      · repeat (first | refine sS ?_ | refine sE ?_ | refine w_mv rfl ?_ | refine ai_seq ?_ | refine ai_regW ?_ | refine ai_condF (b := false) rfl (fun hb => by cases hb) (fun _ => ?_) | refine ai_skip ?_ | (refine ai_ret ?_; repeat (first | rw [thenQ_r] | rw [blockQ_r] | rw [roundE_r])))
        exact ⟨_, rfl, by simp [pack, sgn, nI], rfl⟩
      · repeat (first | refine sS ?_ | refine sE ?_ | refine w_mv rfl ?_ | (refine w_neg rfl ?_ ?_; (focus omega)) | refine ai_seq ?_ | refine ai_regW ?_ | refine ai_condF (b := true) rfl (fun _ => ?_) (fun hb => by cases hb) | (refine ai_ret ?_; repeat (first | rw [thenQ_r] | rw [blockQ_r] | rw [roundE_r])))
        exact ⟨_, rfl, by simp [pack, sgn, nI], rfl⟩
  · rw [cut_at hpa hpn]
    dsimp only
    repeat (first | refine sS ?_ | refine w_mv rfl ?_ | refine ai_seq ?_ | refine ai_regW ?_)
    refine w_slsP rfl (by omega) ?_
    have htp : (t.take p).length ≤ 1000000 := by rw [List.length_take]; omega
    repeat (first | refine sS ?_ | refine sE ?_ | refine w_mv rfl ?_ | (refine is_okn rfl ?_; refine w_op rfl ?_) | (refine w_add rfl ?_ ?_; (focus omega)) | (refine w_cmp (c2 := true) rfl ?_ ?_; focus (first | exact decide_eq_true (by omega) | (simp; done) | (simp; omega))) | (refine w_call rfl ((rdigits_ok (t.take p) 9 (by decide) htp _).mono ?_); rintro _ _ ⟨rfl, rfl⟩) | refine ai_seq ?_ | refine ai_regW ?_ | refine ai_condF (b := true) rfl (fun _ => ?_) (fun hb => by cases hb))
    refine w_slsS (i := p + 1) rfl (by omega) ?_
    have hbl : (t.drop (p + 1)).length ≤ 1000000 := by rw [List.length_drop]; omega
    generalize t.drop (p + 1) = b at *
    repeat (first | refine sS ?_ | refine sE ?_ | refine w_mv rfl ?_ | (refine w_call rfl ((rdigits_ok b 3 (by decide) hbl _).mono ?_); rintro _ _ ⟨rfl, rfl⟩) | refine ai_seq ?_ | refine ai_regW ?_)
    cases hB : digF b 3 with
    | none =>
      repeat (first | refine sS ?_ | refine sE ?_ | refine w_mv rfl ?_ | (refine w_cmp (c2 := true) rfl ?_ ?_; focus (first | exact decide_eq_true (by omega) | (simp; done) | (simp; omega))) | refine ai_seq ?_ | refine ai_regW ?_ | refine ai_condF (b := true) rfl (fun _ => ?_) (fun hb => by cases hb) | (refine ai_ret ?_; repeat (first | rw [thenQ_r] | rw [blockQ_r] | rw [roundE_r])))
      exact ⟨_, rfl, by cases digF (t.take p) 9 <;> rfl, rfl⟩
    | some k =>
      obtain ⟨b1, b2, b3⟩ := digF_some hB
      dsimp only
      cases hA : digF (t.take p) 9 with
      | none =>
        dsimp only
        repeat (first | refine sE ?_ | (refine w_cmp (c2 := false) rfl ?_ ?_; focus (first | exact decide_eq_false (by omega) | (simp; done) | (simp; omega))) | refine ai_seq ?_ | refine ai_condF (b := false) rfl (fun hb => by cases hb) (fun _ => ?_) | refine ai_skip ?_ | refine ai_block ?_)
        refine ai_loopE (γ := Nat) (fun e => [(4, .bool neg), (7, nI (-1)), (9, bs (b ++ List.replicate e 48))])
          (fun e g => h = g ∧ b.length + e ≤ 3) (fun e => 3 - e) 0
          (by rw [List.replicate_zero, List.append_nil]; exact (by repeat (first | exact le_nil | refine le_consF rfl ?_))) ⟨rfl, by omega⟩ ?_
        rintro e g1 ⟨rfl, he⟩
        have hze := sz_mk (b ++ List.replicate e 48)
        rw [List.length_append, List.length_replicate] at hze
        by_cases h3 : b.length + e < 3
        · repeat (first | refine sS ?_ | refine sE ?_ | refine w_mv rfl ?_ | (refine is_okn rfl ?_; refine w_op rfl ?_) | (refine w_cmp (c2 := true) rfl ?_ ?_; focus (first | exact decide_eq_true (by omega) | (simp; done) | (simp; omega))) | refine ai_seq ?_ | refine ai_regW ?_ | refine ai_condF (b := true) rfl (fun _ => ?_) (fun hb => by cases hb) | refine ai_skip ?_ | refine ai_block ?_)
          refine w_catB (b := [48]) rfl (by rw [List.length_append, List.length_replicate]; simp; omega) ?_
          rw [List.append_assoc, ← List.replicate_succ']
          repeat (first | refine sS ?_ | refine sE ?_ | refine w_mv rfl ?_)
          exact ⟨e + 1, (by repeat (first | exact le_nil | refine le_consF rfl ?_)), ⟨rfl, by omega⟩, by dsimp only; omega⟩
        · obtain rfl : e = 3 - b.length := by omega
          have hbr : (b ++ List.replicate (3 - b.length) (48 : UInt8)).length ≤ 1000000 := by rw [List.length_append, List.length_replicate]; omega
          repeat (first | refine sS ?_ | refine sE ?_ | refine w_mv rfl ?_ | (refine is_okn rfl ?_; refine w_op rfl ?_) | (refine w_cmp (c2 := true) rfl ?_ ?_; focus (first | exact decide_eq_true (by omega) | (simp; done) | (simp; omega))) | (refine w_cmp (c2 := false) rfl ?_ ?_; focus (first | exact decide_eq_false (by omega) | (simp; done) | (simp; omega))) | (refine w_call rfl ((rdigits_ok (b ++ List.replicate (3 - b.length) 48) 3 (by decide) hbr _).mono ?_); rintro _ _ ⟨rfl, rfl⟩) | refine ai_seq ?_ | refine ai_regW ?_ | refine ai_condF (b := true) rfl (fun _ => ?_) (fun hb => by cases hb) | refine ai_condF (b := false) rfl (fun hb => by cases hb) (fun _ => ?_) | refine ai_exit ?_ | (refine ai_ret ?_; repeat (first | rw [thenQ_r] | rw [blockQ_r] | rw [roundE_r])))
          rw [digF_zero hB _ (by omega)]
          dsimp only
          skip
          exact ⟨_, rfl, rfl, rfl⟩
      | some n =>
        obtain ⟨a1, a2, a3⟩ := digF_some hA
        have hn9 : n < 10 ^ 9 := Nat.lt_of_lt_of_le a3 (Nat.pow_le_pow_right (by decide) a2)
        dsimp only
        repeat (first | refine sE ?_ | (refine w_cmp (c2 := false) rfl ?_ ?_; focus (first | exact decide_eq_false (by omega) | (simp; done) | (simp; omega))) | refine ai_seq ?_ | refine ai_condF (b := false) rfl (fun hb => by cases hb) (fun _ => ?_) | refine ai_skip ?_ | refine ai_block ?_)
        refine ai_loopE (γ := Nat) (fun e => [(4, .bool neg), (7, nI n), (9, bs (b ++ List.replicate e 48))])
          (fun e g => h = g ∧ b.length + e ≤ 3) (fun e => 3 - e) 0
          (by rw [List.replicate_zero, List.append_nil]; exact (by repeat (first | exact le_nil | refine le_consF rfl ?_))) ⟨rfl, by omega⟩ ?_
        rintro e g1 ⟨rfl, he⟩
        have hze := sz_mk (b ++ List.replicate e 48)
        rw [List.length_append, List.length_replicate] at hze
        by_cases h3 : b.length + e < 3
        · repeat (first | refine sS ?_ | refine sE ?_ | refine w_mv rfl ?_ | (refine is_okn rfl ?_; refine w_op rfl ?_) | (refine w_cmp (c2 := true) rfl ?_ ?_; focus (first | exact decide_eq_true (by omega) | (simp; done) | (simp; omega))) | refine ai_seq ?_ | refine ai_regW ?_ | refine ai_condF (b := true) rfl (fun _ => ?_) (fun hb => by cases hb) | refine ai_skip ?_ | refine ai_block ?_)
          refine w_catB (b := [48]) rfl (by rw [List.length_append, List.length_replicate]; simp; omega) ?_
          rw [List.append_assoc, ← List.replicate_succ']
          repeat (first | refine sS ?_ | refine sE ?_ | refine w_mv rfl ?_)
          exact ⟨e + 1, (by repeat (first | exact le_nil | refine le_consF rfl ?_)), ⟨rfl, by omega⟩, by dsimp only; omega⟩
        · obtain rfl : e = 3 - b.length := by omega
          have hbr : (b ++ List.replicate (3 - b.length) (48 : UInt8)).length ≤ 1000000 := by rw [List.length_append, List.length_replicate]; omega
          repeat (first | refine sS ?_ | refine sE ?_ | refine w_mv rfl ?_ | (refine is_okn rfl ?_; refine w_op rfl ?_) | (refine w_cmp (c2 := false) rfl ?_ ?_; focus (first | exact decide_eq_false (by omega) | (simp; done) | (simp; omega))) | (refine w_mul rfl ?_ ?_; (focus omega)) | (refine w_call rfl ((rdigits_ok (b ++ List.replicate (3 - b.length) 48) 3 (by decide) hbr _).mono ?_); rintro _ _ ⟨rfl, rfl⟩) | refine ai_seq ?_ | refine ai_regW ?_ | refine ai_condF (b := false) rfl (fun hb => by cases hb) (fun _ => ?_) | refine ai_skip ?_ | refine ai_exit ?_)
          rw [digF_zero hB _ (by omega)]
          dsimp only
          have hx1 : k * 10 ^ (3 - b.length) ≤ 99900 := by
            have hk3 : k < 1000 := Nat.lt_of_lt_of_le b3 (Nat.pow_le_pow_right (by decide) b2)
            rcases (show b.length = 1 ∨ b.length = 2 ∨ b.length = 3 by omega) with q | q | q <;> rw [q] at b3 ⊢ <;> simp at b3 ⊢ <;> omega
          generalize k * 10 ^ (3 - b.length) = x at *
          cases neg
          · repeat (first | refine sS ?_ | refine sE ?_ | refine w_mv rfl ?_ | (refine w_add rfl ?_ ?_; (focus omega)) | refine ai_seq ?_ | refine ai_regW ?_ | refine ai_condF (b := false) rfl (fun hb => by cases hb) (fun _ => ?_) | refine ai_skip ?_ | (refine ai_ret ?_; repeat (first | rw [thenQ_r] | rw [blockQ_r] | rw [roundE_r])))
            exact ⟨_, rfl, by simp [pack, sgn, nI], rfl⟩
          · repeat (first | refine sS ?_ | refine sE ?_ | refine w_mv rfl ?_ | (refine w_add rfl ?_ ?_; (focus omega)) | (refine w_neg rfl ?_ ?_; (focus omega)) | refine ai_seq ?_ | refine ai_regW ?_ | refine ai_condF (b := true) rfl (fun _ => ?_) (fun hb => by cases hb) | (refine ai_ret ?_; repeat (first | rw [thenQ_r] | rw [blockQ_r] | rw [roundE_r])))
            exact ⟨_, rfl, by simp [pack, sgn, nI], rfl⟩
end Go.Proofs.YtapbmmlgmcmpnaaDoorW.Am
/- Texts: Show. -/
namespace Go.Proofs.YtapbmmlgmcmpnaaDoorW.Am
open Go Go.RowKit
def absB (n : Int) : Int := if n < 0 then -(max n (-9223372036854775807)) else n
def fracB (m : Int) : List UInt8 := if m % 1000 = 0 then [] else 46 :: Go.Lib.trimRightB ((Go.Lib.itoa (1000 + m % 1000)).drop 1) 48
def showF (n : Int) : List UInt8 := ((if n < 0 then [45] else []) ++ Go.Lib.itoa (absB n / 1000)) ++ fracB (absB n)
def I64 (n : Int) : Prop := -9223372036854775808 ≤ n ∧ n ≤ 9223372036854775807
theorem fint_br {n : Int} (hn : I64 n) (h : Hp) : ACall PX 38 [nI n, nI 10] h (fun v g => v = bs (Go.Lib.itoa n) ∧ h = g) :=
  bridge (enters_comp Go.Proofs.Tryd.func38 c38) rfl rfl (fun w tb => (Go.Proofs.Tryd.strconv_FormatInt_10 n hn.1 hn.2 w tb.1).mono (by
    rintro e w' ⟨rfl, k, os, rfl⟩
    refine ⟨rfl, ⟨rfl, rfl, rfl, ?_, fun b hb => ?_⟩, fun d => (dr_no d).elim⟩
    · show w.heap.size ≤ (w.heap ++ os).size
      rw [Array.size_append]
      exact Nat.le_add_right _ _
    · show (w.heap ++ os)[b]? = w.heap[b]?
      exact Array.getElem?_append_left hb)) h
theorem trimR_br (l : List UInt8) (hl : l.length ≤ 1000000) (h : Hp) : ACall PX 39 [bs l, .string ⟨#[48]⟩] h (fun v g => v = bs (Go.Lib.trimRightB l 48) ∧ h = g) :=
  bridge (enters_comp Go.Proofs.Tryd.func39 c39) rfl rfl (fun w _ => (Go.Proofs.Tryd.strings_TrimRight_one ⟨l.toArray⟩ 48 (by decide) w (by show l.toArray.size ≤ _; rw [List.size_toArray]; omega)).mono (by
    rintro e w' ⟨rfl, rfl⟩
    exact ⟨rfl, Below.refl _ _, fun d => (dr_no d).elim⟩)) h
theorem dw_len {α : Type} (p : α → Bool) : ∀ l : List α, (l.dropWhile p).length ≤ l.length
  | [] => Nat.le_refl _
  | a :: l => by
    rw [List.dropWhile_cons]
    split
    · exact Nat.le_trans (dw_len p l) (by simp)
    · exact Nat.le_refl _
theorem trimR_len (l : List UInt8) (c : UInt8) : (Go.Lib.trimRightB l c).length ≤ l.length := by
  unfold Go.Lib.trimRightB
  rw [List.length_reverse]
  have := dw_len (fun x => x == c) l.reverse
  rwa [List.length_reverse] at this
theorem itoa_1000 {f : Int} (h : 0 ≤ f ∧ f < 1000) : 1 ≤ (Go.Lib.itoa (1000 + f)).length := by
  unfold Go.Lib.itoa
  rw [if_neg (by omega), Go.Lib.decDigits_length]
  exact Go.Lib.nDigits_pos _
set_option maxHeartbeats 1000000 in
theorem show_ok {n : Int} (hn : I64 n) (h : Hp) : ACall PX 17 [nI n] h (fun v g => v = bs (showF n) ∧ h = g) := by
  obtain ⟨n1, n2⟩ := hn
  have hmr : 0 ≤ absB n ∧ absB n ≤ 9223372036854775807 := by
    unfold absB
    split <;> omega
  obtain ⟨m, hm⟩ : ∃ m, absB n = m := ⟨_, rfl⟩
  rw [hm] at hmr
  have hq : I64 (m / 1000) := ⟨by omega, by omega⟩
  have hl1 := Go.Lib.itoa_length_le (m / 1000) hq.1 hq.2
  have hf : 0 ≤ m % 1000 ∧ m % 1000 < 1000 := by omega
  have hfi : I64 (1000 + m % 1000) := ⟨by omega, by omega⟩
  have hl2 := Go.Lib.itoa_length_le (1000 + m % 1000) hfi.1 hfi.2
  have hl3 := itoa_1000 hf
  have hl4 := trimR_len ((Go.Lib.itoa (1000 + m % 1000)).drop 1) 48
  rw [List.length_drop] at hl4
  have htr : ((Go.Lib.itoa (1000 + m % 1000)).drop 1).length ≤ 1000000 := by rw [List.length_drop]; omega
  unfold showF
  rw [hm]
  refine acall Go.Proofs.Tryd.func17 c17 (by simp [ir17]) ?_
  unfold ir17
  dsimp only
  repeat (first | rw [thenQ_r] | rw [blockQ_r] | rw [roundE_r])
  refine ai_seq ?_
  repeat (first | refine sS ?_ | refine sE ?_ | refine w_mv rfl ?_ | refine ai_regW ?_)
  repeat (first | rw [thenQ_r] | rw [blockQ_r] | rw [roundE_r])
  repeat (first | rw [thenQ_r] | rw [blockQ_r] | rw [roundE_r])
  refine ai_seq ?_
  repeat (first | refine sS ?_ | refine sE ?_ | refine w_mv rfl ?_ | refine ai_regW ?_)
  repeat (first | rw [thenQ_r] | rw [blockQ_r] | rw [roundE_r])
  refine ai_join (γ := Unit) (fun _ => [(0, nI m), (3, bs (if n < 0 then [45] else []))]) (fun _ g => h = g) ?_ ?_
  · by_cases h0 : n < 0
    · rw [if_pos h0]
      have he : -(max n (-9223372036854775807)) = m := by rw [← hm]; unfold absB; rw [if_pos h0]
      repeat (first | refine sS ?_ | refine sE ?_ | refine w_mv rfl ?_ | (refine w_cmp (c2 := true) rfl ?_ ?_; focus (first | exact decide_eq_true (by omega) | (simp; done) | (simp; omega))) | (refine w_neg rfl ?_ ?_; (focus omega)) | refine w_max rfl ?_ | refine ai_seq ?_ | refine ai_regW ?_ | refine ai_condF (b := true) rfl (fun _ => ?_) (fun hb => by cases hb))
      rw [he]
      skip
      exact ⟨rfl, (), (by repeat (first | exact le_nil | refine le_consF rfl ?_)), rfl⟩
    · rw [if_neg h0]
      have he : n = m := by rw [← hm]; unfold absB; rw [if_neg h0]
      subst he
      repeat (first | refine sS ?_ | refine sE ?_ | refine w_mv rfl ?_ | (refine w_cmp (c2 := false) rfl ?_ ?_; focus (first | exact decide_eq_false (by omega) | (simp; done) | (simp; omega))) | refine ai_seq ?_ | refine ai_regW ?_ | refine ai_condF (b := false) rfl (fun hb => by cases hb) (fun _ => ?_) | refine ai_skip ?_)
      exact ⟨rfl, (), (by repeat (first | exact le_nil | refine le_consF rfl ?_)), rfl⟩
  rintro _ _ rfl
  have hsl : (if n < 0 then [45] else [] : List UInt8).length ≤ 1 := by split <;> simp
  generalize (if n < 0 then [45] else [] : List UInt8) = sg at *
  repeat (first | refine sS ?_ | refine w_mv rfl ?_ | (refine w_quo rfl ?_ ?_ ?_; (focus omega); (focus omega)) | (refine w_call rfl ((fint_br hq _).mono ?_); rintro _ _ ⟨rfl, rfl⟩) | refine ai_seq ?_ | refine ai_regW ?_)
  refine w_catB rfl (by omega) ?_
  unfold fracB
  by_cases hz : m % 1000 = 0
  · rw [if_pos hz, List.append_nil]
    repeat (first | refine sS ?_ | refine sE ?_ | refine w_mv rfl ?_ | (refine w_cmp (c2 := true) rfl ?_ ?_; focus (first | exact decide_eq_true (by omega) | (simp; done) | (simp; omega))) | (refine w_rem rfl ?_ ?_ ?_; (focus omega); (focus omega)) | refine ai_seq ?_ | refine ai_regW ?_ | refine ai_condF (b := true) rfl (fun _ => ?_) (fun hb => by cases hb) | (refine ai_ret ?_; repeat (first | rw [thenQ_r] | rw [blockQ_r] | rw [roundE_r])))
    exact ⟨_, rfl, rfl, rfl⟩
  · rw [if_neg hz]
    repeat (first | refine sS ?_ | refine sE ?_ | refine w_mv rfl ?_ | (refine w_cmp (c2 := false) rfl ?_ ?_; focus (first | exact decide_eq_false (by omega) | (simp; done) | (simp; omega))) | (refine w_rem rfl ?_ ?_ ?_; (focus omega); (focus omega)) | refine ai_seq ?_ | refine ai_regW ?_ | refine ai_condF (b := false) rfl (fun hb => by cases hb) (fun _ => ?_) | refine ai_skip ?_)
    refine w_catB (b := [46]) rfl (by rw [List.length_append]; simp; omega) ?_
    repeat (first | refine sS ?_ | refine w_mv rfl ?_ | (refine w_add rfl ?_ ?_; (focus omega)) | (refine w_rem rfl ?_ ?_ ?_; (focus omega); (focus omega)) | (refine w_call rfl ((fint_br hfi _).mono ?_); rintro _ _ ⟨rfl, rfl⟩))
    refine w_slsS (i := 1) rfl hl3 ?_
    repeat (first | refine sS ?_ | (refine w_call rfl ((trimR_br _ htr _).mono ?_); rintro _ _ ⟨rfl, rfl⟩))
    refine w_catB rfl (by rw [List.length_append, List.length_append]; simp only [List.length_cons, List.length_nil]; omega) ?_
    repeat (first | refine sS ?_ | refine sE ?_ | refine w_mv rfl ?_ | (refine ai_ret ?_; repeat (first | rw [thenQ_r] | rw [blockQ_r] | rw [roundE_r])))
    exact ⟨_, rfl, by simp [pack], rfl⟩
end Go.Proofs.YtapbmmlgmcmpnaaDoorW.Am
/- Texts: the document's own numerals. -/
namespace Go.Proofs.YtapbmmlgmcmpnaaDoorW.Am
open Go Go.RowKit
section
variable {P : Program} {CT : FuncId → List Value → Hp → (Value → Hp → Prop) → Prop} {d : Option Nat} {xs : List Operand} {env : Env} {h : Hp} {R : Value → Hp → Prop}
theorem w_cat {a b : ByteArray} (e : mapF env xs = some [.string a, .string b]) (hl : a.size + b.size ≤ 9223372036854775807) (n : R (.string (a ++ b)) h) : WI P CT ⟨d, none, .op (.bin .add) xs⟩ env h R := by
  refine w_op (v := .string (a ++ b)) (h' := h) ?_ n
  unfold opF
  rw [e]
  show Option.map (·, h) (if a.size + b.size ≤ 9223372036854775807 then some (Value.string (a ++ b)) else none) = _
  rw [if_pos hl]
  rfl
end
theorem ba_app (a b : List UInt8) : ((⟨a.toArray⟩ : ByteArray) ++ (⟨b.toArray⟩ : ByteArray)) = ⟨(a ++ b).toArray⟩ := ByteArray.ext (by simp)
def digS : ByteArray := ⟨#[48, 49, 50, 51, 52, 53, 54, 55, 56, 57]⟩
theorem dig_sls (h : Hp) : ∀ d : Nat, d < 10 → stepK (.sls true true) [.string digS, nI d, nI ((d : Int) + 1)] h = some (.string ⟨[UInt8.ofNat (48 + d)].toArray⟩, h) := by
  intro d hd
  have : d = 0 ∨ d = 1 ∨ d = 2 ∨ d = 3 ∨ d = 4 ∨ d = 5 ∨ d = 6 ∨ d = 7 ∨ d = 8 ∨ d = 9 := by omega
  rcases this with rfl | rfl | rfl | rfl | rfl | rfl | rfl | rfl | rfl | rfl <;> rfl
theorem dec_len {N : Nat} (hN : N ≤ 9223372036854775807) : (Go.Lib.decDigits N).length ≤ 21 := by
  have := Go.Lib.itoa_length_le (N : Int) (by omega) (by omega)
  unfold Go.Lib.itoa at this
  rw [if_neg (by omega), Int.toNat_natCast] at this
  exact this
theorem decd_big {n : Nat} (h : 9 < n) : Go.Lib.decDigits n = Go.Lib.decDigits (n / 10) ++ [UInt8.ofNat (48 + n % 10)] := by rw [Go.Lib.decDigits, dif_neg (by omega)]
theorem decd_small {n : Nat} (h : ¬ 9 < n) : Go.Lib.decDigits n = [UInt8.ofNat (48 + n)] := by rw [Go.Lib.decDigits, dif_pos (by omega)]
set_option maxHeartbeats 1000000 in
theorem decimal_ok (N : Nat) (hN : N ≤ 9223372036854775807) (h : Hp) : ACall PX 20 [nI N] h (fun v g => v = .string ⟨(Go.Lib.decDigits N).toArray⟩ ∧ h = g) := by
  have hlen := dec_len hN
  refine acall Go.Proofs.Tryd.func20 c20 (by simp [ir20]) ?_
  unfold ir20
  dsimp only
  repeat (first | refine sS ?_ | refine sE ?_ | refine w_mv rfl ?_ | refine ai_seq ?_ | refine ai_regW ?_ | refine ai_block ?_)
  refine ai_loopE (γ := Nat × List UInt8) (fun e => [(0, nI e.1), (3, .string ⟨e.2.toArray⟩)])
    (fun e g => h = g ∧ e.1 ≤ N ∧ Go.Lib.decDigits N = Go.Lib.decDigits e.1 ++ e.2) (fun e => e.1) (N, [])
    (by repeat (first | exact le_nil | refine le_consF rfl ?_)) ⟨rfl, Nat.le_refl _, by simp⟩ ?_
  rintro ⟨n, s⟩ g1 ⟨rfl, hn, hs⟩
  dsimp only at hn hs ⊢
  have hsl : s.length ≤ 21 := by
    rw [hs, List.length_append] at hlen
    omega
  have hsz : (ByteArray.mk s.toArray).size = s.length := by simp [ByteArray.size]
  by_cases h9 : 9 < n
  · rw [decd_big h9, List.append_assoc] at hs
    obtain ⟨q, hq⟩ : ∃ q, n % 10 = q := ⟨_, rfl⟩
    have hq9 : q < 10 := by omega
    have hqi : (n : Int) % 10 = (q : Int) := by omega
    rw [hq] at hs
    repeat (first | refine sS ?_ | refine sE ?_ | refine w_mv rfl ?_ | (refine w_add rfl ?_ ?_; (focus omega)) | (refine w_cmp (c2 := true) rfl ?_ ?_; focus (first | exact decide_eq_true (by omega) | (simp; done) | (simp; omega))) | (refine w_rem rfl ?_ ?_ ?_; (focus omega); (focus omega)) | refine ai_seq ?_ | refine ai_regW ?_ | refine ai_condF (b := true) rfl (fun _ => ?_) (fun hb => by cases hb) | refine ai_skip ?_ | refine ai_block ?_)
    rw [hqi]
    refine w_op (dig_sls h q hq9) ?_
    repeat (first | refine sS ?_ | refine w_mv rfl ?_)
    refine w_cat rfl (by rw [hsz]; show 1 + s.length ≤ _; omega) ?_
    rw [ba_app]
    repeat (first | refine sS ?_ | refine sE ?_ | refine w_mv rfl ?_ | (refine w_quo rfl ?_ ?_ ?_; (focus omega); (focus omega)) | refine ai_regW ?_)
    exact ⟨(n / 10, UInt8.ofNat (48 + q) :: s), (by repeat (first | exact le_nil | refine le_consF rfl ?_)), ⟨rfl, by dsimp only; omega, hs⟩, by dsimp only; omega⟩
  · rw [decd_small h9] at hs
    repeat (first | refine sS ?_ | refine sE ?_ | refine w_mv rfl ?_ | (refine w_add rfl ?_ ?_; (focus omega)) | (refine w_cmp (c2 := false) rfl ?_ ?_; focus (first | exact decide_eq_false (by omega) | (simp; done) | (simp; omega))) | refine ai_seq ?_ | refine ai_regW ?_ | refine ai_condF (b := false) rfl (fun hb => by cases hb) (fun _ => ?_) | refine ai_exit ?_)
    refine w_op (dig_sls h n (by omega)) ?_
    repeat (first | refine sS ?_ | refine w_mv rfl ?_)
    refine w_cat rfl (by rw [hsz]; show 1 + s.length ≤ _; omega) ?_
    rw [ba_app]
    repeat (first | refine sS ?_ | refine sE ?_ | refine w_mv rfl ?_ | (refine ai_ret ?_; repeat (first | rw [thenQ_r] | rw [blockQ_r] | rw [roundE_r])))
    exact ⟨_, rfl, by rw [hs]; rfl, rfl⟩
end Go.Proofs.YtapbmmlgmcmpnaaDoorW.Am
/- Texts: the document's own Show. -/
namespace Go.Proofs.YtapbmmlgmcmpnaaDoorW.Am
open Go Go.RowKit
theorem trimR_zero (l : List UInt8) (c : UInt8) : Go.Lib.trimRightB (l ++ [c]) c = Go.Lib.trimRightB l c := by
  unfold Go.Lib.trimRightB
  simp
theorem trimR_other (l : List UInt8) {b c : UInt8} (h : b ≠ c) : Go.Lib.trimRightB (l ++ [b]) c = l ++ [b] := by
  unfold Go.Lib.trimRightB
  simp [h]
theorem dec4 {f : Nat} (h : f < 1000) : Go.Lib.decDigits (1000 + f) = [49, UInt8.ofNat (48 + f / 100), UInt8.ofNat (48 + f / 10 % 10), UInt8.ofNat (48 + f % 10)] := by
  rw [decd_big (by omega), decd_big (by omega), decd_big (by omega), decd_small (by omega)]
  rw [show (1000 + f) % 10 = f % 10 by omega, show (1000 + f) / 10 % 10 = f / 10 % 10 by omega, show (1000 + f) / 10 / 10 % 10 = f / 100 by omega, show (1000 + f) / 10 / 10 / 10 = 1 by omega]
  rfl
theorem itoa_nn (n : Nat) : Go.Lib.itoa (n : Int) = Go.Lib.decDigits n := by
  unfold Go.Lib.itoa
  rw [if_neg (by omega), Int.toNat_natCast]
theorem dig_eq {d : Nat} (h : d < 10) (e : UInt8.ofNat (48 + d) = 48) : d = 0 := by
  have := congrArg UInt8.toNat e
  rw [UInt8.toNat_ofNat'] at this
  have h48 : (48 : UInt8).toNat = 48 := rfl
  omega
theorem frac_ne {f : Nat} (h : f < 1000) (h0 : f ≠ 0) : Go.Lib.trimRightB ((Go.Lib.decDigits (1000 + f)).drop 1) 48 ≠ [] := by
  rw [dec4 h]
  show Go.Lib.trimRightB ([UInt8.ofNat (48 + f / 100), UInt8.ofNat (48 + f / 10 % 10)] ++ [UInt8.ofNat (48 + f % 10)]) 48 ≠ []
  by_cases h3 : UInt8.ofNat (48 + f % 10) = 48
  · rw [h3, trimR_zero]
    show Go.Lib.trimRightB ([UInt8.ofNat (48 + f / 100)] ++ [UInt8.ofNat (48 + f / 10 % 10)]) 48 ≠ []
    by_cases h2 : UInt8.ofNat (48 + f / 10 % 10) = 48
    · rw [h2, trimR_zero]
      show Go.Lib.trimRightB ([] ++ [UInt8.ofNat (48 + f / 100)]) 48 ≠ []
      by_cases h1 : UInt8.ofNat (48 + f / 100) = 48
      · have e1 := dig_eq (by omega) h1
        have e2 := dig_eq (by omega) h2
        have e3 := dig_eq (by omega) h3
        omega
      · rw [trimR_other _ h1]; simp
    · rw [trimR_other _ h2]; simp
  · rw [trimR_other _ h3]; simp
set_option maxRecDepth 10000 in
set_option maxHeartbeats 2000000 in
theorem rshow_ok {n : Int} (hn : I64 n) (h : Hp) : ACall PX 18 [nI n] h (fun v g => v = bs (showF n) ∧ h = g) := by
  obtain ⟨n1, n2⟩ := hn
  have hmr : 0 ≤ absB n ∧ absB n ≤ 9223372036854775807 := by
    unfold absB
    split <;> omega
  obtain ⟨M, hm⟩ : ∃ M : Nat, absB n = (M : Int) := ⟨(absB n).toNat, by omega⟩
  rw [hm] at hmr
  have hq : (M : Int) / 1000 = ((M / 1000 : Nat) : Int) := by omega
  have hf : (1000 : Int) + (M : Int) % 1000 = ((1000 + M % 1000 : Nat) : Int) := by omega
  have hl1 := dec_len (N := M / 1000) (by omega)
  have hl2 := dec_len (N := 1000 + M % 1000) (by omega)
  have hd4 := dec4 (f := M % 1000) (by omega)
  have hd5 : 1 ≤ (Go.Lib.decDigits (1000 + M % 1000)).length := by rw [hd4]; simp
  unfold showF fracB
  rw [hm, hf, hq, itoa_nn, itoa_nn]
  refine acall Go.Proofs.Tryd.func18 c18 (by simp [ir18]) ?_
  unfold ir18
  dsimp only
  repeat (first | rw [thenQ_r] | rw [blockQ_r] | rw [roundE_r])
  refine ai_seq ?_
  repeat (first | refine sS ?_ | refine sE ?_ | refine w_mv rfl ?_ | refine ai_regW ?_)
  repeat (first | rw [thenQ_r] | rw [blockQ_r] | rw [roundE_r])
  repeat (first | rw [thenQ_r] | rw [blockQ_r] | rw [roundE_r])
  refine ai_seq ?_
  repeat (first | refine sS ?_ | refine sE ?_ | refine w_mv rfl ?_ | refine ai_regW ?_)
  repeat (first | rw [thenQ_r] | rw [blockQ_r] | rw [roundE_r])
  refine ai_join (γ := Unit) (fun _ => [(0, nI M), (3, bs (if n < 0 then [45] else []))]) (fun _ g => h = g) ?_ ?_
  · by_cases h0 : n < 0
    · rw [if_pos h0]
      have he : -(max n (-9223372036854775807)) = (M : Int) := by rw [← hm]; unfold absB; rw [if_pos h0]
      repeat (first | refine sS ?_ | refine sE ?_ | refine w_mv rfl ?_ | (refine w_cmp (c2 := true) rfl ?_ ?_; focus (first | exact decide_eq_true (by omega) | (simp; done) | (simp; omega))) | (refine w_neg rfl ?_ ?_; (focus omega)) | refine w_max rfl ?_ | refine ai_seq ?_ | refine ai_regW ?_ | refine ai_condF (b := true) rfl (fun _ => ?_) (fun hb => by cases hb))
      rw [he]
      skip
      exact ⟨rfl, (), (by repeat (first | exact le_nil | refine le_consF rfl ?_)), rfl⟩
    · rw [if_neg h0]
      have he : n = (M : Int) := by rw [← hm]; unfold absB; rw [if_neg h0]
      subst he
      repeat (first | refine sS ?_ | refine sE ?_ | refine w_mv rfl ?_ | (refine w_cmp (c2 := false) rfl ?_ ?_; focus (first | exact decide_eq_false (by omega) | (simp; done) | (simp; omega))) | refine ai_seq ?_ | refine ai_regW ?_ | refine ai_condF (b := false) rfl (fun hb => by cases hb) (fun _ => ?_) | refine ai_skip ?_)
      exact ⟨rfl, (), (by repeat (first | exact le_nil | refine le_consF rfl ?_)), rfl⟩
  rintro _ _ rfl
  have hsl : (if n < 0 then [45] else [] : List UInt8).length ≤ 1 := by split <;> simp
  generalize (if n < 0 then [45] else [] : List UInt8) = sg at *
  repeat (first | refine sS ?_ | refine w_mv rfl ?_ | (refine w_quo rfl ?_ ?_ ?_; (focus omega); (focus omega)) | refine ai_seq ?_ | refine ai_regW ?_)
  rw [hq]
  repeat (first | refine sS ?_ | (refine w_call rfl ((decimal_ok (M / 1000) (by omega) _).mono ?_); rintro _ _ ⟨rfl, rfl⟩))
  refine w_catB (a := sg) (b := Go.Lib.decDigits (M / 1000)) rfl (by omega) ?_
  by_cases hz : (M : Int) % 1000 = 0
  · rw [if_pos hz, List.append_nil]
    repeat (first | refine sS ?_ | refine sE ?_ | refine w_mv rfl ?_ | (refine w_cmp (c2 := true) rfl ?_ ?_; focus (first | exact decide_eq_true (by omega) | (simp; done) | (simp; omega))) | (refine w_rem rfl ?_ ?_ ?_; (focus omega); (focus omega)) | refine ai_seq ?_ | refine ai_regW ?_ | refine ai_condF (b := true) rfl (fun _ => ?_) (fun hb => by cases hb) | (refine ai_ret ?_; repeat (first | rw [thenQ_r] | rw [blockQ_r] | rw [roundE_r])))
    exact ⟨_, rfl, rfl, rfl⟩
  · rw [if_neg hz]
    repeat (first | refine sS ?_ | refine sE ?_ | refine w_mv rfl ?_ | (refine w_add rfl ?_ ?_; (focus omega)) | (refine w_cmp (c2 := false) rfl ?_ ?_; focus (first | exact decide_eq_false (by omega) | (simp; done) | (simp; omega))) | (refine w_rem rfl ?_ ?_ ?_; (focus omega); (focus omega)) | refine ai_seq ?_ | refine ai_regW ?_ | refine ai_condF (b := false) rfl (fun hb => by cases hb) (fun _ => ?_) | refine ai_skip ?_)
    rw [hf]
    repeat (first | refine sS ?_ | (refine w_call rfl ((decimal_ok (1000 + M % 1000) (by omega) _).mono ?_); rintro _ _ ⟨rfl, rfl⟩))
    refine w_slsS (l := Go.Lib.decDigits (1000 + M % 1000)) (i := 1) rfl hd5 ?_
    repeat (first | refine sS ?_ | refine sE ?_ | refine w_mv rfl ?_ | refine ai_seq ?_ | refine ai_block ?_)
    have hne := frac_ne (f := M % 1000) (by omega) (by omega)
    have hl3 := trimR_len ((Go.Lib.decDigits (1000 + M % 1000)).drop 1) 48
    rw [List.length_drop] at hl3
    have hl4 : ((Go.Lib.decDigits (1000 + M % 1000)).drop 1).length ≤ 20 := by rw [List.length_drop]; omega
    obtain ⟨T, hT⟩ : ∃ T, (Go.Lib.decDigits (1000 + M % 1000)).drop 1 = T := ⟨_, rfl⟩
    rw [hT] at hne hl3 hl4 ⊢
    obtain ⟨R, hR⟩ : ∃ R, Go.Lib.trimRightB T 48 = R := ⟨_, rfl⟩
    rw [hR] at hne hl3 ⊢
    refine ai_loopE (γ := List UInt8) (fun t => [(3, bs (sg ++ Go.Lib.decDigits (M / 1000))), (4, bs t)])
      (fun t g => h = g ∧ t.length ≤ 20 ∧ Go.Lib.trimRightB t 48 = R) (fun t => t.length) T
      (by repeat (first | exact le_nil | refine le_consF rfl ?_)) ⟨rfl, hl4, hR⟩ ?_
    rintro t g1 ⟨rfl, ht, htr⟩
    have htn : t ≠ [] := by
      rintro rfl
      exact hne htr.symm
    obtain ⟨s, b, rfl⟩ : ∃ s b, t = s ++ [b] := ⟨t.dropLast, t.getLast htn, (List.dropLast_concat_getLast htn).symm⟩
    have hz2 := sz_mk (s ++ [b])
    rw [List.length_append, List.length_singleton] at hz2 ht
    have hi : ((ByteArray.mk (s ++ [b]).toArray).size : Int) - 1 = (s.length : Int) := by omega
    repeat (first | refine sS ?_ | refine w_mv rfl ?_ | (refine is_okn rfl ?_; refine w_op rfl ?_) | (refine w_sub rfl ?_ ?_; (focus omega)) | refine ai_seq ?_ | refine ai_regW ?_)
    rw [hi]
    refine w_ixs (b := b) rfl (by simp) ?_
    by_cases hb : b = 48
    · subst hb
      rw [trimR_zero] at htr
      repeat (first | refine sS ?_ | refine sE ?_ | refine w_mv rfl ?_ | (refine is_okn rfl ?_; refine w_op rfl ?_) | (refine w_sub rfl ?_ ?_; (focus omega)) | (refine w_cmp (c2 := true) rfl ?_ ?_; focus (first | exact decide_eq_true (by omega) | (simp; done) | (simp; omega))) | refine ai_regW ?_ | refine ai_condF (b := true) rfl (fun _ => ?_) (fun hb => by cases hb) | refine ai_skip ?_ | refine ai_block ?_)
      rw [hi]
      refine w_slsP rfl (by simp) ?_
      rw [List.take_left']
      repeat (first | refine sS ?_ | refine sE ?_ | refine w_mv rfl ?_)
      exact ⟨s, (by repeat (first | exact le_nil | refine le_consF rfl ?_)), ⟨rfl, by omega, htr⟩, by simp⟩
      rfl
    · have hb2 : b.toNat ≠ 48 := fun q => hb (UInt8.toNat_inj.1 q)
      rw [trimR_other _ hb] at htr
      repeat (first | refine sS ?_ | refine sE ?_ | refine w_mv rfl ?_ | (refine w_cmp (c2 := false) rfl ?_ ?_; focus (first | exact decide_eq_false (by omega) | (simp; done) | (simp; omega))) | refine ai_seq ?_ | refine ai_regW ?_ | refine ai_condF (b := false) rfl (fun hb => by cases hb) (fun _ => ?_) | refine ai_exit ?_)
      refine w_catB (b := [46]) rfl (by rw [List.length_append]; simp; omega) ?_
      repeat (first | refine sS ?_ | refine w_mv rfl ?_)
      rw [htr]
      refine w_catB rfl (by rw [List.length_append, List.length_append]; simp only [List.length_cons, List.length_nil]; omega) ?_
      repeat (first | refine sS ?_ | refine sE ?_ | refine w_mv rfl ?_ | (refine ai_ret ?_; repeat (first | rw [thenQ_r] | rw [blockQ_r] | rw [roundE_r])))
      exact ⟨_, rfl, by simp [pack], rfl⟩
end Go.Proofs.YtapbmmlgmcmpnaaDoorW.Am
/- Settings over abstract heaps: within, Wrong, May. -/
namespace Go.Proofs.YtapbmmlgmcmpnaaDoorW.Am
open Go Go.RowKit
theorem within_l (h : Hp) (n lo hi : Int) : ACall PX 65 [.iface 2 (nI n), nI lo, nI hi] h (fun v g => v = .bool (decide (lo ≤ n) && decide (n ≤ hi)) ∧ h = g) := by
  refine acall Go.Proofs.Tryd.func65 c65 (by simp [ir65]) ?_
  unfold ir65
  dsimp only
  repeat (first | refine sS ?_ | refine sE ?_ | refine w_mv rfl ?_ | (refine is_okk rfl ?_; refine w_op rfl ?_) | refine w_ext rfl rfl ?_ | refine ai_seq ?_ | refine ai_regW ?_ | refine ai_condF (b := true) rfl (fun _ => ?_) (fun hb => by cases hb))
  by_cases h1 : lo ≤ n
  · rw [decide_eq_true h1, Bool.true_and]
    by_cases h2 : n ≤ hi
    · rw [decide_eq_true h2]
      repeat (first | refine sS ?_ | refine sE ?_ | refine w_mv rfl ?_ | refine w_pickT rfl ?_ | refine w_gT rfl rfl ?_ | (refine w_cmp (c2 := true) rfl ?_ ?_; focus (first | exact decide_eq_true (by omega) | (simp; done) | (simp; omega))) | (refine ai_ret ?_; repeat (first | rw [thenQ_r] | rw [blockQ_r] | rw [roundE_r])))
      exact end_one rfl ⟨rfl, rfl⟩
    · rw [decide_eq_false h2]
      repeat (first | refine sS ?_ | refine sE ?_ | refine w_mv rfl ?_ | refine w_pickT rfl ?_ | refine w_gT rfl rfl ?_ | (refine w_cmp (c2 := true) rfl ?_ ?_; focus (first | exact decide_eq_true (by omega) | (simp; done) | (simp; omega))) | (refine w_cmp (c2 := false) rfl ?_ ?_; focus (first | exact decide_eq_false (by omega) | (simp; done) | (simp; omega))) | (refine ai_ret ?_; repeat (first | rw [thenQ_r] | rw [blockQ_r] | rw [roundE_r])))
      exact end_one rfl ⟨rfl, rfl⟩
  · rw [decide_eq_false h1, Bool.false_and]
    repeat (first | refine sS ?_ | refine sE ?_ | refine w_mv rfl ?_ | refine w_pickF rfl ?_ | refine w_gF rfl rfl ?_ | (refine w_cmp (c2 := false) rfl ?_ ?_; focus (first | exact decide_eq_false (by omega) | (simp; done) | (simp; omega))) | (refine ai_ret ?_; repeat (first | rw [thenQ_r] | rw [blockQ_r] | rw [roundE_r])))
    exact end_one rfl ⟨rfl, rfl⟩
theorem within_i (h : Hp) (n lo hi : Int) : ACall PX 65 [.iface 3 (nI n), nI lo, nI hi] h (fun v g => v = .bool (decide (lo ≤ n) && decide (n ≤ hi)) ∧ h = g) := by
  refine acall Go.Proofs.Tryd.func65 c65 (by simp [ir65]) ?_
  unfold ir65
  dsimp only
  repeat (first | refine sS ?_ | refine sE ?_ | refine w_mv rfl ?_ | (refine is_okk rfl ?_; refine w_op rfl ?_) | refine w_ext rfl rfl ?_ | refine w_gT rfl rfl ?_ | refine ai_seq ?_ | refine ai_regW ?_ | refine ai_condF (b := false) rfl (fun hb => by cases hb) (fun _ => ?_) | refine ai_skip ?_)
  by_cases h1 : lo ≤ n
  · rw [decide_eq_true h1, Bool.true_and]
    by_cases h2 : n ≤ hi
    · rw [decide_eq_true h2]
      repeat (first | refine sS ?_ | refine sE ?_ | refine w_mv rfl ?_ | refine w_pickT rfl ?_ | refine w_gT rfl rfl ?_ | (refine w_cmp (c2 := true) rfl ?_ ?_; focus (first | exact decide_eq_true (by omega) | (simp; done) | (simp; omega))) | (refine ai_ret ?_; repeat (first | rw [thenQ_r] | rw [blockQ_r] | rw [roundE_r])))
      exact end_one rfl ⟨rfl, rfl⟩
    · rw [decide_eq_false h2]
      repeat (first | refine sS ?_ | refine sE ?_ | refine w_mv rfl ?_ | refine w_pickT rfl ?_ | refine w_gT rfl rfl ?_ | (refine w_cmp (c2 := true) rfl ?_ ?_; focus (first | exact decide_eq_true (by omega) | (simp; done) | (simp; omega))) | (refine w_cmp (c2 := false) rfl ?_ ?_; focus (first | exact decide_eq_false (by omega) | (simp; done) | (simp; omega))) | (refine ai_ret ?_; repeat (first | rw [thenQ_r] | rw [blockQ_r] | rw [roundE_r])))
      exact end_one rfl ⟨rfl, rfl⟩
  · rw [decide_eq_false h1, Bool.false_and]
    repeat (first | refine sS ?_ | refine sE ?_ | refine w_mv rfl ?_ | refine w_pickT rfl ?_ | refine w_pickF rfl ?_ | refine w_gF rfl rfl ?_ | (refine w_cmp (c2 := false) rfl ?_ ?_; focus (first | exact decide_eq_false (by omega) | (simp; done) | (simp; omega))) | (refine ai_ret ?_; repeat (first | rw [thenQ_r] | rw [blockQ_r] | rw [roundE_r])))
    exact end_one rfl ⟨rfl, rfl⟩
/-- Settings: twenty numbers. -/
structure Cf20 where
  (target util stable panic grain threshold up down min max initial grace delay burst limit queue timeout ready subset sample : Int)
def cs20 (c : Cf20) : List Value := [nI c.target, nI c.util, nI c.stable, nI c.panic, nI c.grain, nI c.threshold, nI c.up, nI c.down, nI c.min, nI c.max, nI c.initial, nI c.grace, nI c.delay, nI c.burst, nI c.limit, nI c.queue, nI c.timeout, nI c.ready, nI c.subset, nI c.sample]
def inB (n lo hi : Int) : Bool := decide (lo ≤ n) && decide (n ≤ hi)
/-- The parts' names, and whether each may be. -/
def wrB (c : Cf20) (b1 b2 : Bool) : List (ByteArray × Bool) := [(⟨#[116, 97, 114, 103, 101, 116]⟩, inB c.target 10 1000000), (⟨#[117, 116, 105, 108]⟩, inB c.util 100 1000), (⟨#[115, 116, 97, 98, 108, 101]⟩, inB c.stable 6 600), (⟨#[112, 97, 110, 105, 99]⟩, inB c.panic 1 c.stable), (⟨#[103, 114, 97, 105, 110]⟩, inB c.grain 1 c.panic), (⟨#[116, 104, 114, 101, 115, 104, 111, 108, 100]⟩, inB c.threshold 1100 10000), (⟨#[117, 112]⟩, inB c.up 1001 1000000), (⟨#[100, 111, 119, 110]⟩, inB c.down 1001 1000000), (⟨#[109, 105, 110]⟩, inB c.min 0 100), (⟨#[109, 97, 120]⟩, (b1 || inB c.max (if 1 > c.min then 1 else c.min) 100)), (⟨#[105, 110, 105, 116, 105, 97, 108]⟩, inB c.initial 0 (if c.max = 0 then 100 else c.max)), (⟨#[103, 114, 97, 99, 101]⟩, inB c.grace 0 600), (⟨#[100, 101, 108, 97, 121]⟩, inB c.delay 0 600), (⟨#[98, 117, 114, 115, 116]⟩, (b2 || inB c.burst 0 100000000)), (⟨#[108, 105, 109, 105, 116]⟩, inB c.limit 1 1000), (⟨#[113, 117, 101, 117, 101]⟩, inB c.queue 0 200), (⟨#[116, 105, 109, 101, 111, 117, 116]⟩, inB c.timeout 1 10000), (⟨#[114, 101, 97, 100, 121]⟩, inB c.ready 0 100), (⟨#[115, 117, 98, 115, 101, 116]⟩, inB c.subset 0 100), (⟨#[115, 97, 109, 112, 108, 101]⟩, inB c.sample 0 100)]
def wrL (c : Cf20) : List (ByteArray × Bool) := wrB c (c.max == 0) (c.burst == -1000)
def wrongF : List (ByteArray × Bool) → ByteArray
  | [] => ⟨#[]⟩
  | (s, b) :: r => if b = true then wrongF r else s
def rowW (l : List (ByteArray × Bool)) : List Value := l.flatMap fun p => [.string p.1, .bool p.2]
theorem rowW_drop : ∀ (l : List (ByteArray × Bool)) (i : Nat), (rowW l).drop (i * 2) = rowW (l.drop i)
  | l, 0 => by simp
  | [], i + 1 => by simp [rowW]
  | p :: l, i + 1 => by rw [show (i + 1) * 2 = i * 2 + 1 + 1 by omega]; simp only [rowW, List.flatMap_cons, List.cons_append, List.nil_append, List.drop_succ_cons]; exact rowW_drop l i
theorem rowW_len : ∀ l, (rowW l).length = l.length * 2
  | [] => rfl
  | p :: l => by have := rowW_len l; simp only [rowW, List.flatMap_cons, List.length_append, List.length_cons, List.length_nil] at this ⊢; omega
theorem rowW_rd {h : Hp} {j : Nat} {l : List (ByteArray × Bool)} {b : Bool} {e : Nat} (hg : h.get j = some ⟨rowW l, b, e⟩) {i : Nat} {p : ByteArray × Bool} (hi : l[i]? = some p) : h.rd j (0 + ((i : Nat) : Int).toNat * 2) 2 = some [.string p.1, .bool p.2] := by
  obtain ⟨hl, rfl⟩ := List.getElem?_eq_some_iff.1 hi
  have hn := rowW_len l
  unfold Hp.rd
  simp only [hg, Nat.zero_add, Int.toNat_natCast]
  rw [if_pos (by omega), rowW_drop, List.drop_eq_getElem_cons hl]
  rfl
set_option maxHeartbeats 4000000 in
set_option maxRecDepth 10000 in
theorem wrong_ok (h : Hp) (c : Cf20) : ACall PX 50 [.agg ⟨cs20 c⟩] h (fun v g => v = .string (wrongF (wrL c)) ∧ Ext h g) := by
  refine acall Go.Proofs.Tryd.func50 c50 (by simp [ir50]) ?_
  unfold ir50
  dsimp only
  refine ai_seq ?_
  repeat (first | refine sS ?_ | refine sE ?_ | refine w_mv rfl ?_ | (refine is_okk rfl ?_; refine w_op rfl ?_) | refine ai_regW ?_)
  refine ai_seq ?_
  repeat (first | refine sS ?_ | refine sE ?_ | refine w_mv rfl ?_ | refine ai_regW ?_)
  refine ai_join (γ := Unit) (fun _ => [(1, ptr h.nx), (3, nI (if c.max = 0 then 100 else c.max))]) (fun _ g => g = h.new ⟨cs20 c, true, 0⟩) ?_ ?_
  · refine ai_seq ?_
    repeat (first | refine sS ?_ | (refine is_okk rfl ?_; refine w_op rfl ?_) | (refine is_ld ?_; refine w_ld rfl (by first | exact rd_g ‹_› rfl | exact rd_new rfl | assumption) ?_) | refine ai_regW ?_)
    by_cases h0 : c.max = 0
    · rw [if_pos h0]
      repeat (first | refine sE ?_ | (refine w_cmp (c2 := false) rfl ?_ ?_; focus (first | exact decide_eq_false (by omega) | (simp; done) | (simp; omega))) | refine ai_condF (b := false) rfl (fun hb => by cases hb) (fun _ => ?_) | refine ai_skip ?_)
      exact ⟨rfl, (), (by repeat (first | exact le_nil | refine le_consF rfl ?_)), rfl⟩
    · rw [if_neg h0]
      repeat (first | refine sS ?_ | refine sE ?_ | refine w_mv rfl ?_ | (refine is_okk rfl ?_; refine w_op rfl ?_) | (refine is_ld ?_; refine w_ld rfl (by first | exact rd_g ‹_› rfl | exact rd_new rfl | assumption) ?_) | (refine w_cmp (c2 := true) rfl ?_ ?_; focus (first | exact decide_eq_true (by omega) | (simp; done) | (simp; omega))) | refine ai_regW ?_ | refine ai_condF (b := true) rfl (fun _ => ?_) (fun hb => by cases hb))
      exact ⟨rfl, (), (by repeat (first | exact le_nil | refine le_consF rfl ?_)), rfl⟩
  rintro _ _ rfl
  refine ai_seq (ai_seq (ai_drwW (by kernel_rfl) ?_))
  repeat (first | refine dS ?_ | (refine is_okk rfl ?_; refine w_op rfl ?_) | (refine is_ld ?_; refine w_ld rfl (by first | exact rd_g ‹_› rfl | exact rd_new rfl | assumption) ?_))
  refine w_op rfl ?_
  generalize hb1 : (c.max == 0) = b1
  repeat (first | refine dS ?_ | refine w_mv rfl ?_ | (refine is_okk rfl ?_; refine w_op rfl ?_) | (refine is_ld ?_; refine w_ld rfl (by first | exact rd_g ‹_› rfl | exact rd_new rfl | assumption) ?_))
  refine w_op rfl ?_
  generalize hb2 : (c.burst == -1000) = b2
  repeat (first | refine dS ?_ | refine dSR ?_ | (refine agS ?_ ?_; focus (repeat (first | exact ag_nil | refine ag_cons (by first | exact ag_gF rfl rfl | exact ag_l rfl rfl (by first | exact rd_g ‹_› rfl | exact rd_new rfl | assumption) | exact ag_gT rfl rfl (ag_l rfl rfl (by first | exact rd_g ‹_› rfl | exact rd_new rfl | assumption)) | exact ag_ln rfl rfl (by first | exact rd_all ‹_› rfl | exact rd_newn rfl | assumption) | exact ag_gT rfl rfl (ag_ln rfl rfl (by first | exact rd_all ‹_› rfl | exact rd_newn rfl | assumption))) ?_))) | refine w_mv rfl ?_ | refine w_bldF rfl rfl rfl rfl rfl ?_ | (refine is_okk rfl ?_; refine w_op rfl ?_) | (refine is_ld ?_; refine w_ld rfl (by first | exact rd_g ‹_› rfl | exact rd_new rfl | assumption) ?_) | (refine w_call rfl ((within_l _ _ _ _).mono ?_); rintro _ _ ⟨rfl, rfl⟩) | (refine w_call rfl ((within_i _ _ _ _).mono ?_); rintro _ _ ⟨rfl, rfl⟩))
  repeat (first | refine dS ?_ | refine dSR ?_ | refine w_gB rfl (by intro hc; simp at hc; subst hc; first | rfl | exact o_ldF rfl (rd_new rfl)) ?_)
  refine w_gBc rfl (fun _ _ hr c => c.mono hr) (by intro hc; simp at hc; subst hc; rfl) (within_i _ _ _ _) ?_
  refine agS (by repeat (first | exact ag_nil | refine ag_cons (by first | exact ag_gF rfl rfl | exact ag_l rfl rfl (by first | exact rd_g ‹_› rfl | exact rd_new rfl | assumption) | exact ag_gT rfl rfl (ag_l rfl rfl (by first | exact rd_g ‹_› rfl | exact rd_new rfl | assumption)) | exact ag_ln rfl rfl (by first | exact rd_all ‹_› rfl | exact rd_newn rfl | assumption) | exact ag_gT rfl rfl (ag_ln rfl rfl (by first | exact rd_all ‹_› rfl | exact rd_newn rfl | assumption))) ?_)) ?_
  refine dS (w_v rfl (v2 := .bool (b1 || inB c.max (if 1 > c.min then 1 else c.min) 100)) (by cases b1 <;> rfl) ?_)
  repeat (first | refine dS ?_ | refine dSR ?_ | (refine agS ?_ ?_; focus (repeat (first | exact ag_nil | refine ag_cons (by first | exact ag_gF rfl rfl | exact ag_l rfl rfl (by first | exact rd_g ‹_› rfl | exact rd_new rfl | assumption) | exact ag_gT rfl rfl (ag_l rfl rfl (by first | exact rd_g ‹_› rfl | exact rd_new rfl | assumption)) | exact ag_ln rfl rfl (by first | exact rd_all ‹_› rfl | exact rd_newn rfl | assumption) | exact ag_gT rfl rfl (ag_ln rfl rfl (by first | exact rd_all ‹_› rfl | exact rd_newn rfl | assumption))) ?_))) | refine w_mv rfl ?_ | refine w_bldF rfl rfl rfl rfl rfl ?_ | (refine w_call rfl ((within_i _ _ _ _).mono ?_); rintro _ _ ⟨rfl, rfl⟩))
  repeat (first | refine dS ?_ | refine dSR ?_ | refine w_gB rfl (by intro hc; simp at hc; subst hc; first | rfl | exact o_ldF rfl (rd_new rfl)) ?_)
  refine w_gBc rfl (fun _ _ hr c => c.mono hr) (by intro hc; simp at hc; subst hc; rfl) (within_l _ _ _ _) ?_
  refine agS (by repeat (first | exact ag_nil | refine ag_cons (by first | exact ag_gF rfl rfl | exact ag_l rfl rfl (by first | exact rd_g ‹_› rfl | exact rd_new rfl | assumption) | exact ag_gT rfl rfl (ag_l rfl rfl (by first | exact rd_g ‹_› rfl | exact rd_new rfl | assumption)) | exact ag_ln rfl rfl (by first | exact rd_all ‹_› rfl | exact rd_newn rfl | assumption) | exact ag_gT rfl rfl (ag_ln rfl rfl (by first | exact rd_all ‹_› rfl | exact rd_newn rfl | assumption))) ?_)) ?_
  refine dS (w_v rfl (v2 := .bool (b2 || inB c.burst 0 100000000)) (by cases b2 <;> rfl) ?_)
  repeat (first | refine dS ?_ | refine dSR ?_ | (refine agS ?_ ?_; focus (repeat (first | exact ag_nil | refine ag_cons (by first | exact ag_gF rfl rfl | exact ag_l rfl rfl (by first | exact rd_g ‹_› rfl | exact rd_new rfl | assumption) | exact ag_gT rfl rfl (ag_l rfl rfl (by first | exact rd_g ‹_› rfl | exact rd_new rfl | assumption)) | exact ag_ln rfl rfl (by first | exact rd_all ‹_› rfl | exact rd_newn rfl | assumption) | exact ag_gT rfl rfl (ag_ln rfl rfl (by first | exact rd_all ‹_› rfl | exact rd_newn rfl | assumption))) ?_))) | refine w_bldF rfl rfl rfl rfl rfl ?_ | (refine w_call rfl ((within_i _ _ _ _).mono ?_); rintro _ _ ⟨rfl, rfl⟩))
  refine w_bslF rfl rfl rfl rfl rfl ?_
  intro g xg hg hng
  have hg2 : g.get (h.nx + 1) = some ⟨rowW (wrB c b1 b2), true, 2⟩ := hg
  have hw : wrB c b1 b2 = wrL c := by subst hb1 hb2; rfl
  rw [hw] at hg2
  have hng2 : h.nx + 1 < g.nx := hng
  have hl20 : (wrL c).length = 20 := rfl
  have x0 : Ext h g := (Ext.new _ _).trans xg
  clear hg xg hw
  generalize wrL c = l at hg2 hl20 ⊢
  repeat (first | refine dS ?_ | refine dE ?_ | (refine is_okk rfl ?_; refine w_op rfl ?_) | refine ai_block ?_)
  refine ai_loopE (γ := Nat) (fun i => [(129, .slice (some ⟨h.nx + 1, 0, none⟩) 20 20), (130, nI 20), (131, nI i)]) (fun i g' => Ext g g' ∧ i ≤ 20 ∧ wrongF (l.drop i) = wrongF l) (fun i => 20 - i) 0
    (by repeat (first | exact le_nil | refine le_consF rfl ?_)) ⟨Ext.refl _, Nat.zero_le _, rfl⟩ ?_
  rintro i g1 ⟨x1, hi, hwr⟩
  by_cases hi20 : i < 20
  · obtain ⟨p, hp⟩ : ∃ p, l[i]? = some p := ⟨_, List.getElem?_eq_getElem (by omega)⟩
    have hp2 : l.drop i = p :: l.drop (i + 1) := by
      obtain ⟨h1, rfl⟩ := List.getElem?_eq_some_iff.1 hp
      exact List.drop_eq_getElem_cons h1
    rw [hp2] at hwr
    have hrd := rowW_rd ((x1.2 (h.nx + 1) hng2).trans hg2) hp
    refine ai_seq ?_
    repeat (first | refine sS ?_ | refine sE ?_ | (refine w_cmp (c2 := true) rfl ?_ ?_; focus (first | exact decide_eq_true (by omega) | (simp; done) | (simp; omega))) | refine ai_regW ?_)
    refine ai_seq ?_
    repeat (first | refine ai_condF (b := true) rfl (fun _ => ?_) (fun hb => by cases hb) | refine ai_skip ?_)
    refine ai_seq ?_
    repeat (first | refine ai_block ?_)
    refine ai_seq ?_
    refine ai_regW (sS (w_iad rfl (by omega) (sS (w_ldn rfl hrd (sS (w_new ?_))))))
    intro g2 x2 k2 n2
    refine sSn (w_stN rfl rfl k2 rfl rfl fun g3 m3 k3 n3 => sE ?_)
    have x3 := x1.trans (x2.own m3 n3)
    obtain ⟨s, b⟩ := p
    dsimp only [wrongF] at hwr k3
    cases b
    · rw [if_neg (by decide)] at hwr
      repeat (first | refine sS ?_ | refine sE ?_ | refine w_mv rfl ?_ | (refine is_okk rfl ?_; refine w_op rfl ?_) | (refine is_ld ?_; refine w_ld rfl (by first | exact rd_g ‹_› rfl | exact rd_new rfl | assumption) ?_) | refine ai_seq ?_ | refine ai_regW ?_ | refine ai_condF (b := true) rfl (fun _ => ?_) (fun hb => by cases hb) | (refine ai_ret ?_; repeat (first | rw [thenQ_r] | rw [blockQ_r] | rw [roundE_r])))
      exact end_one rfl ⟨by rw [hwr], x0.trans x3⟩
    · rw [if_pos rfl] at hwr
      repeat (first | refine sS ?_ | refine sE ?_ | refine w_mv rfl ?_ | (refine is_okk rfl ?_; refine w_op rfl ?_) | (refine is_ld ?_; refine w_ld rfl (by first | exact rd_g ‹_› rfl | exact rd_new rfl | assumption) ?_) | (refine w_add rfl ?_ ?_; (focus omega)) | refine ai_seq ?_ | refine ai_regW ?_ | refine ai_condF (b := false) rfl (fun hb => by cases hb) (fun _ => ?_) | refine ai_skip ?_)
      exact ⟨i + 1, (by repeat (first | exact le_nil | refine le_consF rfl ?_)), ⟨x3, by omega, hwr⟩, by dsimp only; omega⟩
  · have e20 : i = l.length := by omega
    rw [e20, List.drop_length] at hwr
    repeat (first | refine sS ?_ | refine sE ?_ | refine w_mv rfl ?_ | (refine w_cmp (c2 := false) rfl ?_ ?_; focus (first | exact decide_eq_false (by omega) | (simp; done) | (simp; omega))) | refine ai_seq ?_ | refine ai_regW ?_ | refine ai_condF (b := false) rfl (fun hb => by cases hb) (fun _ => ?_) | refine ai_exit ?_ | (refine ai_ret ?_; repeat (first | rw [thenQ_r] | rw [blockQ_r] | rw [roundE_r])))
    exact end_one rfl ⟨by rw [← hwr]; rfl, x0.trans x1⟩
/-- May the settings be? -/
def mayB (c : Cf20) : Bool := (wrL c).all fun p => p.2
theorem wrong_empty : ∀ (l : List (ByteArray × Bool)), (l.all fun p => decide (p.1.size ≠ 0)) = true → ((wrongF l).toList == (⟨#[]⟩ : ByteArray).toList) = l.all fun p => p.2
  | [], _ => by simp [wrongF]
  | (s, b) :: l, h => by
    simp only [List.all_cons, Bool.and_eq_true, decide_eq_true_eq] at h
    cases b
    · simp only [wrongF, Bool.false_eq_true, if_false, List.all_cons, Bool.false_and]
      rw [beq_eq_false_iff_ne, ByteArray.toList_eq, ByteArray.toList_eq]
      intro e
      have e2 : s.data.toList.length = 0 := by rw [e]; rfl
      exact h.1 (by show s.data.size = 0; simpa using e2)
    · simp only [wrongF, if_true, List.all_cons, Bool.true_and]
      exact wrong_empty l h.2
theorem wrL_names (c : Cf20) : ((wrL c).all fun p => decide (p.1.size ≠ 0)) = true := by kernel_rfl
theorem may_ok (h : Hp) (c : Cf20) : ACall PX 27 [.agg ⟨cs20 c⟩] h (fun v g => v = .bool (mayB c) ∧ Ext h g) := by
  refine acall Go.Proofs.Tryd.func27 c27 (by simp [ir27]) ?_
  unfold ir27
  dsimp only
  refine ai_seq (ai_regW (sS (w_box rfl fun g1 x1 k1 n1 => ?_)))
  repeat (first | refine sS ?_ | refine sE ?_ | refine w_mv rfl ?_ | (refine is_ldn ?_; refine w_ldn rfl (by first | exact rd_all ‹_› rfl | exact rd_newn rfl | assumption) ?_) | refine ai_seq ?_ | refine ai_regW ?_)
  refine w_call rfl ((wrong_ok _ c).mono ?_)
  rintro v g2 ⟨rfl, x2⟩
  repeat (first | refine sS ?_)
  refine w_cmp (c2 := mayB c) rfl (wrong_empty _ (wrL_names c)) ?_
  repeat (first | refine sS ?_ | refine sE ?_ | refine w_mv rfl ?_ | (refine ai_ret ?_; repeat (first | rw [thenQ_r] | rw [blockQ_r] | rw [roundE_r])))
  exact end_one rfl ⟨rfl, x1.trans x2⟩
end Go.Proofs.YtapbmmlgmcmpnaaDoorW.Am
/- The document's own settings: names, values, which are in thousandths, which may be. -/
namespace Go.Proofs.YtapbmmlgmcmpnaaDoorW.Am
open Go Go.RowKit
theorem in_ok (h : Hp) (n lo hi : Int) : ACall PX 56 [nI n, nI lo, nI hi] h (fun v g => v = .bool (inB n lo hi) ∧ h = g) := by
  unfold inB
  refine acall Go.Proofs.Tryd.func56 c56 (by simp [ir56]) ?_
  unfold ir56
  dsimp only
  by_cases h1 : lo ≤ n
  · rw [decide_eq_true h1, Bool.true_and]
    by_cases h2 : n ≤ hi
    · rw [decide_eq_true h2]
      repeat (first | refine sS ?_ | refine sE ?_ | refine w_mv rfl ?_ | refine w_pickT rfl ?_ | refine w_gT rfl rfl ?_ | (refine w_cmp (c2 := true) rfl ?_ ?_; focus (first | exact decide_eq_true (by omega) | (simp; done) | (simp; omega))) | refine ai_seq ?_ | refine ai_regW ?_ | (refine ai_ret ?_; repeat (first | rw [thenQ_r] | rw [blockQ_r] | rw [roundE_r])))
      exact end_one rfl ⟨rfl, rfl⟩
    · rw [decide_eq_false h2]
      repeat (first | refine sS ?_ | refine sE ?_ | refine w_mv rfl ?_ | refine w_pickT rfl ?_ | refine w_gT rfl rfl ?_ | (refine w_cmp (c2 := true) rfl ?_ ?_; focus (first | exact decide_eq_true (by omega) | (simp; done) | (simp; omega))) | (refine w_cmp (c2 := false) rfl ?_ ?_; focus (first | exact decide_eq_false (by omega) | (simp; done) | (simp; omega))) | refine ai_seq ?_ | refine ai_regW ?_ | (refine ai_ret ?_; repeat (first | rw [thenQ_r] | rw [blockQ_r] | rw [roundE_r])))
      exact end_one rfl ⟨rfl, rfl⟩
  · rw [decide_eq_false h1, Bool.false_and]
    repeat (first | refine sS ?_ | refine sE ?_ | refine w_mv rfl ?_ | refine w_pickF rfl ?_ | refine w_gF rfl rfl ?_ | (refine w_cmp (c2 := false) rfl ?_ ?_; focus (first | exact decide_eq_false (by omega) | (simp; done) | (simp; omega))) | refine ai_seq ?_ | refine ai_regW ?_ | (refine ai_ret ?_; repeat (first | rw [thenQ_r] | rw [blockQ_r] | rw [roundE_r])))
    exact end_one rfl ⟨rfl, rfl⟩
/-- The names of the parts. -/
def nmB : List (List UInt8) := [[116, 97, 114, 103, 101, 116], [117, 116, 105, 108], [115, 116, 97, 98, 108, 101], [112, 97, 110, 105, 99], [103, 114, 97, 105, 110], [116, 104, 114, 101, 115, 104, 111, 108, 100], [117, 112], [100, 111, 119, 110], [109, 105, 110], [109, 97, 120], [105, 110, 105, 116, 105, 97, 108], [103, 114, 97, 99, 101], [100, 101, 108, 97, 121], [98, 117, 114, 115, 116], [108, 105, 109, 105, 116], [113, 117, 101, 117, 101], [116, 105, 109, 101, 111, 117, 116], [114, 101, 97, 100, 121], [115, 117, 98, 115, 101, 116], [115, 97, 109, 112, 108, 101]]
def bsV (l : List UInt8) : Value := .string ⟨l.toArray⟩
theorem names_ok (h : Hp) : ACall PX 21 [] h (fun v g => v = .slice (some ⟨h.nx, 0, none⟩) 20 20 ∧ Ext h g ∧ g.get h.nx = some ⟨nmB.map bsV, true, 1⟩ ∧ h.nx < g.nx) := by
  refine acall Go.Proofs.Tryd.func21 c21 (by simp [ir21]) ?_
  unfold ir21
  dsimp only
  repeat (first | refine sS ?_ | refine sE ?_ | refine w_mv rfl ?_ | refine ai_seq ?_ | refine ai_regW ?_)
  refine w_bslF rfl rfl rfl rfl rfl ?_
  intro g xg hg hng
  repeat (first | refine sS ?_ | refine sE ?_ | refine w_mv rfl ?_ | (refine ai_ret ?_; repeat (first | rw [thenQ_r] | rw [blockQ_r] | rw [roundE_r])))
  exact end_one rfl ⟨rfl, xg, hg, hng⟩
theorem values_ok (h : Hp) (c : Cf20) : ACall PX 31 [.agg ⟨cs20 c⟩] h (fun v g => v = .slice (some ⟨h.nx + 1, 0, none⟩) 20 20 ∧ Ext h g ∧ g.get (h.nx + 1) = some ⟨cs20 c, true, 1⟩ ∧ h.nx + 1 < g.nx) := by
  refine acall Go.Proofs.Tryd.func31 c31 (by simp [ir31]) ?_
  unfold ir31
  dsimp only
  repeat (first | refine sS ?_ | refine sE ?_ | refine w_mv rfl ?_ | (refine is_okk rfl ?_; refine w_op rfl ?_) | (refine is_ld ?_; refine w_ld rfl (by first | exact rd_g ‹_› rfl | exact rd_new rfl | assumption) ?_) | refine ai_seq ?_ | refine ai_regW ?_)
  refine w_bslF rfl rfl rfl rfl rfl ?_
  intro g xg hg hng
  repeat (first | refine sS ?_ | refine sE ?_ | refine w_mv rfl ?_ | (refine ai_ret ?_; repeat (first | rw [thenQ_r] | rw [blockQ_r] | rw [roundE_r])))
  exact end_one rfl ⟨rfl, (Ext.new _ _).trans xg, hg, hng⟩
set_option maxRecDepth 10000 in
theorem made_ok (h : Hp) (c : Cf20) {i n e : Nat} {b : Bool} (hg : h.get i = some ⟨cs20 c, b, e⟩) (hi : i < h.nx) : ACall PX 33 [.slice (some ⟨i, 0, none⟩) 20 n] h (fun v g => v = .agg ⟨cs20 c⟩ ∧ Ext h g) := by
  refine acall Go.Proofs.Tryd.func33 c33 (by simp [ir33]) ?_
  unfold ir33
  dsimp only
  refine ai_seq (ai_regW (sS (w_new fun g x k n => sE ?_)))
  have k2 := (x.2 i hi).trans hg
  refine ai_seq ?_
  repeat (first | refine dS ?_ | refine dSn ?_ | refine w_mv rfl ?_ | refine w_bldF rfl rfl rfl rfl rfl ?_ | (refine is_ld ?_; refine w_ld rfl (by first | exact rd_g ‹_› rfl | exact rd_new rfl | assumption) ?_) | (refine w_iad rfl ?_ ?_; focus (first | omega | (simp; done) | (simp; omega))) | refine ai_drwW (by kernel_rfl) ?_)
  refine w_stN rfl rfl k rfl rfl fun g3 m3 k3 n3 => ?_
  repeat (first | refine dE ?_ | (refine ai_ret ?_; repeat (first | rw [thenQ_r] | rw [blockQ_r] | rw [roundE_r])))
  exact end_cell1 rfl k3 Go.Proofs.Tryd.underlying24 rfl (by kernel_rfl) rfl ⟨rfl, x.own m3 n3⟩
/-- Which parts are told in thousandths. -/
def thinK (k : Nat) : Bool := [0, 1, 5, 6, 7, 13].contains k
theorem thin_ok (h : Hp) (k : Nat) : ACall PX 37 [nI k] h (fun v g => v = .bool (thinK k) ∧ h = g) := by
  refine acall Go.Proofs.Tryd.func37 c37 (by simp [ir37]) ?_
  unfold ir37
  dsimp only
  by_cases h0 : k = 0
  · subst h0
    repeat (first | refine sS ?_ | refine sE ?_ | refine w_mv rfl ?_ | refine w_pickT rfl ?_ | refine w_gF rfl rfl ?_ | (refine w_cmp (c2 := true) rfl ?_ ?_; focus (first | exact decide_eq_true (by omega) | (simp; done) | (simp; omega))) | refine ai_seq ?_ | refine ai_regW ?_ | (refine ai_ret ?_; repeat (first | rw [thenQ_r] | rw [blockQ_r] | rw [roundE_r])))
    exact end_one rfl ⟨rfl, rfl⟩
  by_cases h1 : k = 1
  · subst h1
    repeat (first | refine sS ?_ | refine sE ?_ | refine w_mv rfl ?_ | refine w_pickT rfl ?_ | refine w_pickF rfl ?_ | refine w_gT rfl rfl ?_ | refine w_gF rfl rfl ?_ | (refine w_cmp (c2 := true) rfl ?_ ?_; focus (first | exact decide_eq_true (by omega) | (simp; done) | (simp; omega))) | (refine w_cmp (c2 := false) rfl ?_ ?_; focus (first | exact decide_eq_false (by omega) | (simp; done) | (simp; omega))) | refine ai_seq ?_ | refine ai_regW ?_ | (refine ai_ret ?_; repeat (first | rw [thenQ_r] | rw [blockQ_r] | rw [roundE_r])))
    exact end_one rfl ⟨rfl, rfl⟩
  by_cases h5 : k = 5
  · subst h5
    repeat (first | refine sS ?_ | refine sE ?_ | refine w_mv rfl ?_ | refine w_pickT rfl ?_ | refine w_pickF rfl ?_ | refine w_gT rfl rfl ?_ | refine w_gF rfl rfl ?_ | (refine w_cmp (c2 := true) rfl ?_ ?_; focus (first | exact decide_eq_true (by omega) | (simp; done) | (simp; omega))) | (refine w_cmp (c2 := false) rfl ?_ ?_; focus (first | exact decide_eq_false (by omega) | (simp; done) | (simp; omega))) | refine ai_seq ?_ | refine ai_regW ?_ | (refine ai_ret ?_; repeat (first | rw [thenQ_r] | rw [blockQ_r] | rw [roundE_r])))
    exact end_one rfl ⟨rfl, rfl⟩
  by_cases h6 : k = 6
  · subst h6
    repeat (first | refine sS ?_ | refine sE ?_ | refine w_mv rfl ?_ | refine w_pickT rfl ?_ | refine w_pickF rfl ?_ | refine w_gT rfl rfl ?_ | refine w_gF rfl rfl ?_ | (refine w_cmp (c2 := true) rfl ?_ ?_; focus (first | exact decide_eq_true (by omega) | (simp; done) | (simp; omega))) | (refine w_cmp (c2 := false) rfl ?_ ?_; focus (first | exact decide_eq_false (by omega) | (simp; done) | (simp; omega))) | refine ai_seq ?_ | refine ai_regW ?_ | (refine ai_ret ?_; repeat (first | rw [thenQ_r] | rw [blockQ_r] | rw [roundE_r])))
    exact end_one rfl ⟨rfl, rfl⟩
  by_cases h7 : k = 7
  · subst h7
    repeat (first | refine sS ?_ | refine sE ?_ | refine w_mv rfl ?_ | refine w_pickT rfl ?_ | refine w_pickF rfl ?_ | refine w_gT rfl rfl ?_ | refine w_gF rfl rfl ?_ | (refine w_cmp (c2 := true) rfl ?_ ?_; focus (first | exact decide_eq_true (by omega) | (simp; done) | (simp; omega))) | (refine w_cmp (c2 := false) rfl ?_ ?_; focus (first | exact decide_eq_false (by omega) | (simp; done) | (simp; omega))) | refine ai_seq ?_ | refine ai_regW ?_ | (refine ai_ret ?_; repeat (first | rw [thenQ_r] | rw [blockQ_r] | rw [roundE_r])))
    exact end_one rfl ⟨rfl, rfl⟩
  by_cases h13 : k = 13
  · subst h13
    repeat (first | refine sS ?_ | refine sE ?_ | refine w_mv rfl ?_ | refine w_pickF rfl ?_ | refine w_gT rfl rfl ?_ | (refine w_cmp (c2 := true) rfl ?_ ?_; focus (first | exact decide_eq_true (by omega) | (simp; done) | (simp; omega))) | (refine w_cmp (c2 := false) rfl ?_ ?_; focus (first | exact decide_eq_false (by omega) | (simp; done) | (simp; omega))) | refine ai_seq ?_ | refine ai_regW ?_ | (refine ai_ret ?_; repeat (first | rw [thenQ_r] | rw [blockQ_r] | rw [roundE_r])))
    exact end_one rfl ⟨rfl, rfl⟩
  have ht : thinK k = false := by
    unfold thinK
    simp
    omega
  rw [ht]
  repeat (first | refine sS ?_ | refine sE ?_ | refine w_mv rfl ?_ | refine w_pickF rfl ?_ | refine w_gT rfl rfl ?_ | (refine w_cmp (c2 := false) rfl ?_ ?_; focus (first | exact decide_eq_false (by omega) | (simp; done) | (simp; omega))) | refine ai_seq ?_ | refine ai_regW ?_ | (refine ai_ret ?_; repeat (first | rw [thenQ_r] | rw [blockQ_r] | rw [roundE_r])))
  exact end_one rfl ⟨rfl, rfl⟩
/-- The document's own order of the parts, and whether each may be. -/
def wrR (c : Cf20) (b1 b2 : Bool) : List (ByteArray × Bool) := (nmB.map fun l => (⟨l.toArray⟩ : ByteArray)).zip [inB c.target 10 1000000, inB c.util 100 1000, inB c.stable 6 600, inB c.panic 1 c.stable, inB c.grain 1 c.panic, inB c.threshold 1100 10000, inB c.up 1001 1000000, inB c.down 1001 1000000, inB c.min 0 100, (b1 || inB c.max (if 1 > c.min then 1 else c.min) 100), inB c.initial 0 (if 0 < c.max then c.max else 100), inB c.grace 0 600, inB c.delay 0 600, (b2 || inB c.burst 0 100000000), inB c.limit 1 1000, inB c.queue 0 200, inB c.timeout 1 10000, inB c.ready 0 100, inB c.subset 0 100, inB c.sample 0 100]
set_option maxHeartbeats 4000000 in
set_option maxRecDepth 10000 in
theorem rwrong_ok (h : Hp) (c : Cf20) : ACall PX 40 [.agg ⟨cs20 c⟩] h (fun v g => v = .string (wrongF (wrR c (c.max == 0) (c.burst == -1000))) ∧ Ext h g) := by
  refine acall Go.Proofs.Tryd.func40 c40 (by simp [ir40]) ?_
  unfold ir40
  dsimp only
  refine ai_seq (ai_regW (sS (w_box rfl fun g1 x1 k1 n1 => ?_)))
  repeat (first | refine sS ?_ | refine sE ?_ | refine w_mv rfl ?_ | (refine is_ldn ?_; refine w_ldn rfl (by first | exact rd_all ‹_› rfl | exact rd_newn rfl | assumption) ?_) | refine ai_seq ?_ | refine ai_regW ?_)
  refine w_call rfl ((values_ok _ c).mono ?_)
  rintro v g2 ⟨rfl, x2, k2, n2⟩
  have k3 := (x2.2 _ n1).trans k1
  repeat (first | refine sS ?_ | refine sE ?_ | refine w_mv rfl ?_)
  refine ai_seq ?_
  repeat (first | refine sS ?_ | refine sE ?_ | refine w_mv rfl ?_ | refine ai_regW ?_)
  refine ai_join (γ := Unit) (fun _ => [(3, .slice (some ⟨g1.nx + 1, 0, none⟩) 20 20), (4, nI (if 0 < c.max then c.max else 100))]) (fun _ g => g = g2) ?_ ?_
  · refine ai_seq ?_
    repeat (first | refine sS ?_ | (refine is_okk rfl ?_; refine w_op rfl ?_) | (refine is_ld ?_; refine w_ld rfl (by first | exact rd_g ‹_› rfl | exact rd_new rfl | assumption) ?_) | refine ai_regW ?_)
    by_cases h0 : 0 < c.max
    · rw [if_pos h0]
      repeat (first | refine sS ?_ | refine sE ?_ | refine w_mv rfl ?_ | (refine is_okk rfl ?_; refine w_op rfl ?_) | (refine is_ld ?_; refine w_ld rfl (by first | exact rd_g ‹_› rfl | exact rd_new rfl | assumption) ?_) | (refine w_cmp (c2 := true) rfl ?_ ?_; focus (first | exact decide_eq_true (by omega) | (simp; done) | (simp; omega))) | refine ai_regW ?_ | refine ai_condF (b := true) rfl (fun _ => ?_) (fun hb => by cases hb))
      exact ⟨rfl, (), (by repeat (first | exact le_nil | refine le_consF rfl ?_)), rfl⟩
    · rw [if_neg h0]
      repeat (first | refine sE ?_ | (refine w_cmp (c2 := false) rfl ?_ ?_; focus (first | exact decide_eq_false (by omega) | (simp; done) | (simp; omega))) | refine ai_condF (b := false) rfl (fun hb => by cases hb) (fun _ => ?_) | refine ai_skip ?_)
      exact ⟨rfl, (), (by repeat (first | exact le_nil | refine le_consF rfl ?_)), rfl⟩
  rintro _ _ rfl
  have x12 := x1.trans x2
  refine ai_join (γ := Nat) (fun j => [(5, .slice (some ⟨j, 0, none⟩) 20 20)]) (fun j g' => Ext h g' ∧ j < g'.nx ∧ g'.get j = some ⟨(wrR c (c.max == 0) (c.burst == -1000)).map (fun p => .bool p.2), true, 1⟩) ?_ ?_
  · refine ai_drwW (by kernel_rfl) ?_
    repeat (first | refine dS ?_ | refine w_mv rfl ?_ | (refine is_ld ?_; refine w_ld rfl (by first | exact rd_g ‹_› rfl | exact rd_new rfl | assumption) ?_) | (refine w_iad rfl ?_ ?_; focus (first | omega | (simp; done) | (simp; omega))))
    refine w_op rfl ?_
    generalize (c.max == 0) = b1
    repeat (first | refine dS ?_ | refine w_mv rfl ?_ | (refine is_ld ?_; refine w_ld rfl (by first | exact rd_g ‹_› rfl | exact rd_new rfl | assumption) ?_) | (refine w_iad rfl ?_ ?_; focus (first | omega | (simp; done) | (simp; omega))))
    refine w_op rfl ?_
    generalize (c.burst == -1000) = b2
    repeat (first | refine dS ?_ | refine dSR ?_ | (refine agS ?_ ?_; focus (repeat (first | exact ag_nil | refine ag_cons (by first | exact ag_gF rfl rfl | exact ag_l rfl rfl (by first | exact rd_g ‹_› rfl | exact rd_new rfl | assumption) | exact ag_gT rfl rfl (ag_l rfl rfl (by first | exact rd_g ‹_› rfl | exact rd_new rfl | assumption)) | exact ag_ln rfl rfl (by first | exact rd_all ‹_› rfl | exact rd_newn rfl | assumption) | exact ag_gT rfl rfl (ag_ln rfl rfl (by first | exact rd_all ‹_› rfl | exact rd_newn rfl | assumption))) ?_))) | refine w_mv rfl ?_ | (refine is_ld ?_; refine w_ld rfl (by first | exact rd_g ‹_› rfl | exact rd_new rfl | assumption) ?_) | (refine w_iad rfl ?_ ?_; focus (first | omega | (simp; done) | (simp; omega))) | (refine w_call rfl ((in_ok _ _ _ _).mono ?_); rintro _ _ ⟨rfl, rfl⟩))
    repeat (first | refine dS ?_ | refine dSR ?_ | refine w_gB rfl (by intro hc; simp at hc; subst hc; first | rfl | exact o_ldF rfl (rd_g ‹_› rfl)) ?_)
    refine w_gBc rfl (fun _ _ hr c => c.mono hr) (by intro hc; simp at hc; subst hc; rfl) (in_ok _ _ _ _) ?_
    refine agS (by repeat (first | exact ag_nil | refine ag_cons (by first | exact ag_gF rfl rfl | exact ag_l rfl rfl (by first | exact rd_g ‹_› rfl | exact rd_new rfl | assumption) | exact ag_gT rfl rfl (ag_l rfl rfl (by first | exact rd_g ‹_› rfl | exact rd_new rfl | assumption)) | exact ag_ln rfl rfl (by first | exact rd_all ‹_› rfl | exact rd_newn rfl | assumption) | exact ag_gT rfl rfl (ag_ln rfl rfl (by first | exact rd_all ‹_› rfl | exact rd_newn rfl | assumption))) ?_)) ?_
    refine dS (w_v rfl (v2 := .bool (b1 || inB c.max (if 1 > c.min then 1 else c.min) 100)) (by cases b1 <;> rfl) ?_)
    repeat (first | refine dS ?_ | refine dSR ?_ | (refine agS ?_ ?_; focus (repeat (first | exact ag_nil | refine ag_cons (by first | exact ag_gF rfl rfl | exact ag_l rfl rfl (by first | exact rd_g ‹_› rfl | exact rd_new rfl | assumption) | exact ag_gT rfl rfl (ag_l rfl rfl (by first | exact rd_g ‹_› rfl | exact rd_new rfl | assumption)) | exact ag_ln rfl rfl (by first | exact rd_all ‹_› rfl | exact rd_newn rfl | assumption) | exact ag_gT rfl rfl (ag_ln rfl rfl (by first | exact rd_all ‹_› rfl | exact rd_newn rfl | assumption))) ?_))) | refine w_mv rfl ?_ | (refine w_call rfl ((in_ok _ _ _ _).mono ?_); rintro _ _ ⟨rfl, rfl⟩))
    repeat (first | refine dS ?_ | refine dSR ?_ | refine w_gB rfl (by intro hc; simp at hc; subst hc; first | rfl | exact o_ldF rfl (rd_g ‹_› rfl)) ?_)
    refine w_gBc rfl (fun _ _ hr c => c.mono hr) (by intro hc; simp at hc; subst hc; rfl) (in_ok _ _ _ _) ?_
    refine agS (by repeat (first | exact ag_nil | refine ag_cons (by first | exact ag_gF rfl rfl | exact ag_l rfl rfl (by first | exact rd_g ‹_› rfl | exact rd_new rfl | assumption) | exact ag_gT rfl rfl (ag_l rfl rfl (by first | exact rd_g ‹_› rfl | exact rd_new rfl | assumption)) | exact ag_ln rfl rfl (by first | exact rd_all ‹_› rfl | exact rd_newn rfl | assumption) | exact ag_gT rfl rfl (ag_ln rfl rfl (by first | exact rd_all ‹_› rfl | exact rd_newn rfl | assumption))) ?_)) ?_
    refine dS (w_v rfl (v2 := .bool (b2 || inB c.burst 0 100000000)) (by cases b2 <;> rfl) ?_)
    repeat (first | refine dS ?_ | refine dSR ?_ | (refine agS ?_ ?_; focus (repeat (first | exact ag_nil | refine ag_cons (by first | exact ag_gF rfl rfl | exact ag_l rfl rfl (by first | exact rd_g ‹_› rfl | exact rd_new rfl | assumption) | exact ag_gT rfl rfl (ag_l rfl rfl (by first | exact rd_g ‹_› rfl | exact rd_new rfl | assumption)) | exact ag_ln rfl rfl (by first | exact rd_all ‹_› rfl | exact rd_newn rfl | assumption) | exact ag_gT rfl rfl (ag_ln rfl rfl (by first | exact rd_all ‹_› rfl | exact rd_newn rfl | assumption))) ?_))) | (refine w_call rfl ((in_ok _ _ _ _).mono ?_); rintro _ _ ⟨rfl, rfl⟩))
    refine w_bslF rfl rfl rfl rfl rfl ?_
    intro g3 x3 k4 n4
    repeat (first | refine dS ?_ | refine dE ?_ | refine w_mv rfl ?_)
    exact ⟨rfl, _, (by repeat (first | exact le_nil | refine le_consF rfl ?_)), x12.trans x3, n4, k4⟩
  rintro j g3 ⟨x3, nj, kj⟩
  have hn : ((wrR c (c.max == 0) (c.burst == -1000)).map fun p => p.1) = nmB.map fun l => (⟨l.toArray⟩ : ByteArray) := rfl
  have hl20 : (wrR c (c.max == 0) (c.burst == -1000)).length = 20 := rfl
  generalize wrR c (c.max == 0) (c.burst == -1000) = l at kj hl20 hn ⊢
  repeat (first | refine sS ?_ | refine sE ?_ | refine w_mv rfl ?_ | refine ai_seq ?_ | refine ai_regW ?_ | refine ai_block ?_)
  refine ai_loopE (γ := Nat) (fun i => [(5, .slice (some ⟨j, 0, none⟩) 20 20), (6, nI i)]) (fun i g' => Ext g3 g' ∧ i ≤ 20 ∧ wrongF (l.drop i) = wrongF l) (fun i => 20 - i) 0
    (by repeat (first | exact le_nil | refine le_consF rfl ?_)) ⟨Ext.refl _, Nat.zero_le _, rfl⟩ ?_
  rintro i g4 ⟨x4, hi, hwr⟩
  by_cases hi20 : i < 20
  · obtain ⟨p, hp⟩ : ∃ p, l[i]? = some p := ⟨_, List.getElem?_eq_getElem (by omega)⟩
    have hp2 : l.drop i = p :: l.drop (i + 1) := by
      obtain ⟨h1, rfl⟩ := List.getElem?_eq_some_iff.1 hp
      exact List.drop_eq_getElem_cons h1
    rw [hp2] at hwr
    have hrd := rd_row ((x4.2 j nj).trans kj) (x := i) (v := .bool p.2) (by rw [List.getElem?_map, hp]; rfl)
    obtain ⟨s, b⟩ := p
    dsimp only [wrongF] at hwr
    cases b
    · rw [if_neg (by decide)] at hwr
      repeat (first | refine sS ?_ | refine sE ?_ | refine w_mv rfl ?_ | (refine is_okk rfl ?_; refine w_op rfl ?_) | (refine is_ld ?_; refine w_ld rfl (by first | exact rd_g ‹_› rfl | exact rd_new rfl | assumption) ?_) | (refine w_cmp (c2 := true) rfl ?_ ?_; focus (first | exact decide_eq_true (by omega) | (simp; done) | (simp; omega))) | (refine w_iad rfl ?_ ?_; focus (first | omega | (simp; done) | (simp; omega))) | refine ai_seq ?_ | refine ai_regW ?_ | refine ai_condF (b := true) rfl (fun _ => ?_) (fun hb => by cases hb) | refine ai_skip ?_ | refine ai_block ?_)
      refine w_call rfl ((names_ok _).mono ?_)
      rintro v g5 ⟨rfl, x5, k5, n5⟩
      have hs : (nmB.map bsV)[i]? = some (.string s) := by
        have h1 : (l.map fun p => p.1)[i]? = some s := by rw [List.getElem?_map, hp]; rfl
        rw [hn, List.getElem?_map] at h1
        rw [List.getElem?_map]
        cases hq : nmB[i]? with
        | none => rw [hq] at h1; cases h1
        | some q => rw [hq] at h1; exact congrArg some (congrArg Value.string (Option.some.inj h1))
      have hrd2 := rd_row k5 hs
      repeat (first | refine sS ?_ | refine sE ?_ | refine w_mv rfl ?_ | (refine is_ld ?_; refine w_ld rfl (by first | exact rd_g ‹_› rfl | exact rd_new rfl | assumption) ?_) | (refine w_iad rfl ?_ ?_; focus (first | omega | (simp; done) | (simp; omega))) | (refine ai_ret ?_; repeat (first | rw [thenQ_r] | rw [blockQ_r] | rw [roundE_r])))
      exact end_one rfl ⟨by rw [hwr], (x3.trans x4).trans x5⟩
    · rw [if_pos rfl] at hwr
      repeat (first | refine sS ?_ | refine sE ?_ | refine w_mv rfl ?_ | (refine is_okk rfl ?_; refine w_op rfl ?_) | (refine is_ld ?_; refine w_ld rfl (by first | exact rd_g ‹_› rfl | exact rd_new rfl | assumption) ?_) | (refine w_add rfl ?_ ?_; (focus omega)) | (refine w_cmp (c2 := true) rfl ?_ ?_; focus (first | exact decide_eq_true (by omega) | (simp; done) | (simp; omega))) | (refine w_iad rfl ?_ ?_; focus (first | omega | (simp; done) | (simp; omega))) | refine ai_seq ?_ | refine ai_regW ?_ | refine ai_condF (b := true) rfl (fun _ => ?_) (fun hb => by cases hb) | refine ai_condF (b := false) rfl (fun hb => by cases hb) (fun _ => ?_) | refine ai_skip ?_ | refine ai_block ?_)
      exact ⟨i + 1, (by repeat (first | exact le_nil | refine le_consF rfl ?_)), ⟨x4, by omega, hwr⟩, by dsimp only; omega⟩
  · have e20 : i = l.length := by omega
    rw [e20, List.drop_length] at hwr
    repeat (first | refine sS ?_ | refine sE ?_ | refine w_mv rfl ?_ | (refine is_okk rfl ?_; refine w_op rfl ?_) | (refine w_cmp (c2 := false) rfl ?_ ?_; focus (first | exact decide_eq_false (by omega) | (simp; done) | (simp; omega))) | refine ai_seq ?_ | refine ai_regW ?_ | refine ai_condF (b := false) rfl (fun hb => by cases hb) (fun _ => ?_) | refine ai_exit ?_ | (refine ai_ret ?_; repeat (first | rw [thenQ_r] | rw [blockQ_r] | rw [roundE_r])))
    exact end_one rfl ⟨by rw [← hwr]; rfl, x3.trans x4⟩
theorem all_snd : ∀ (l : List (ByteArray × Bool)), (l.all fun p => p.2) = (l.map fun p => p.2).all id
  | [] => rfl
  | p :: l => by rw [List.all_cons, List.map_cons, List.all_cons, all_snd l]; rfl
theorem wrR_may (c : Cf20) : ((wrR c (c.max == 0) (c.burst == -1000)).all fun p => p.2) = mayB c := by
  unfold mayB
  rw [all_snd, all_snd]
  show List.all [inB c.target 10 1000000, inB c.util 100 1000, inB c.stable 6 600, inB c.panic 1 c.stable, inB c.grain 1 c.panic, inB c.threshold 1100 10000, inB c.up 1001 1000000, inB c.down 1001 1000000, inB c.min 0 100, (c.max == 0 || inB c.max (if 1 > c.min then 1 else c.min) 100), inB c.initial 0 (if 0 < c.max then c.max else 100), inB c.grace 0 600, inB c.delay 0 600, (c.burst == -1000 || inB c.burst 0 100000000), inB c.limit 1 1000, inB c.queue 0 200, inB c.timeout 1 10000, inB c.ready 0 100, inB c.subset 0 100, inB c.sample 0 100] id
    = List.all [inB c.target 10 1000000, inB c.util 100 1000, inB c.stable 6 600, inB c.panic 1 c.stable, inB c.grain 1 c.panic, inB c.threshold 1100 10000, inB c.up 1001 1000000, inB c.down 1001 1000000, inB c.min 0 100, (c.max == 0 || inB c.max (if 1 > c.min then 1 else c.min) 100), inB c.initial 0 (if c.max = 0 then 100 else c.max), inB c.grace 0 600, inB c.delay 0 600, (c.burst == -1000 || inB c.burst 0 100000000), inB c.limit 1 1000, inB c.queue 0 200, inB c.timeout 1 10000, inB c.ready 0 100, inB c.subset 0 100, inB c.sample 0 100] id
  by_cases hm : (c.max == 0 || inB c.max (if 1 > c.min then 1 else c.min) 100) = true
  · have he : (if 0 < c.max then c.max else 100) = (if c.max = 0 then 100 else c.max) := by
      simp only [inB, Bool.or_eq_true, beq_iff_eq, Bool.and_eq_true, decide_eq_true_eq] at hm
      split <;> split <;> (try split at hm) <;> omega
    rw [he]
  · have hm2 : (c.max == 0 || inB c.max (if 1 > c.min then 1 else c.min) 100) = false := by simpa using hm
    rw [hm2]
    simp
theorem rmay_ok (h : Hp) (c : Cf20) : ACall PX 19 [.agg ⟨cs20 c⟩] h (fun v g => v = .bool (mayB c) ∧ Ext h g) := by
  refine acall Go.Proofs.Tryd.func19 c19 (by simp [ir19]) ?_
  unfold ir19
  dsimp only
  refine ai_seq (ai_regW (sS (w_box rfl fun g1 x1 k1 n1 => ?_)))
  repeat (first | refine sS ?_ | refine sE ?_ | refine w_mv rfl ?_ | (refine is_ldn ?_; refine w_ldn rfl (by first | exact rd_all ‹_› rfl | exact rd_newn rfl | assumption) ?_) | refine ai_seq ?_ | refine ai_regW ?_)
  refine w_call rfl ((rwrong_ok _ c).mono ?_)
  rintro v g2 ⟨rfl, x2⟩
  repeat (first | refine sS ?_)
  refine w_cmp (c2 := mayB c) rfl ((wrong_empty _ (by kernel_rfl)).trans (wrR_may c)) ?_
  repeat (first | refine sS ?_ | refine sE ?_ | refine w_mv rfl ?_ | (refine ai_ret ?_; repeat (first | rw [thenQ_r] | rw [blockQ_r] | rw [roundE_r])))
  exact end_one rfl ⟨rfl, x1.trans x2⟩
theorem default_ok (h : Hp) : ACall PX 9 [] h (fun v g => v = .agg ⟨[nI 10000, nI 700, nI 60, nI 6, nI 1, nI 2000, nI 10000, nI 2000, nI 0, nI 0, nI 1, nI 30, nI 0, nI 20000, nI 10, nI 100, nI 60, nI 3, nI 0, nI 0]⟩ ∧ Ext h g) := by
  refine acall Go.Proofs.Tryd.func9 c9 (by simp [ir9]) ?_
  unfold ir9
  dsimp only
  refine ai_seq (ai_regW (sS (w_new fun g x k n => sE ?_)))
  refine ai_seq ?_
  repeat (first | refine sS ?_ | refine ai_regW ?_)
  refine w_op rfl ?_
  repeat (first | refine sSn ?_)
  refine w_stN rfl rfl k rfl rfl fun g3 m3 k3 n3 => ?_
  repeat (first | refine sE ?_ | (refine ai_ret ?_; repeat (first | rw [thenQ_r] | rw [blockQ_r] | rw [roundE_r])))
  exact end_cell1 rfl k3 Go.Proofs.Tryd.underlying24 rfl (by kernel_rfl) rfl ⟨rfl, x.own m3 n3⟩
end Go.Proofs.YtapbmmlgmcmpnaaDoorW.Am
/- Texts: the parts of settings, and setting one. -/
namespace Go.Proofs.YtapbmmlgmcmpnaaDoorW.Am
open Go Go.RowKit
def ptT : Bool → TypeId
  | true => 71
  | false => 74
/-- The cells of the row of parts of the settings in an object. -/
def ptC (i : Nat) : List Value := (nmB.zipIdx).flatMap fun p => [bsV p.1, .iface (ptT (thinK p.2)) (.pointer (some ⟨i, p.2, none⟩))]
theorem parts_ok (h : Hp) (i : Nat) : ACall PX 25 [.pointer (some ⟨i, 0, none⟩)] h (fun v g => v = .slice (some ⟨h.nx, 0, none⟩) 20 20 ∧ Ext h g ∧ g.get h.nx = some ⟨ptC i, true, 2⟩ ∧ h.nx < g.nx) := by
  refine acall Go.Proofs.Tryd.func25 c25 (by simp [ir25]) ?_
  unfold ir25
  dsimp only
  repeat (first | refine sS ?_ | refine dS ?_ | refine sE ?_ | refine w_mv rfl ?_ | refine w_bldF rfl rfl rfl rfl rfl ?_ | (refine is_okk rfl ?_; refine w_op rfl ?_) | refine ai_seq ?_ | refine ai_regW ?_ | refine ai_drwW (by kernel_rfl) ?_)
  refine w_bslF rfl rfl rfl rfl rfl ?_
  intro g xg hg hng
  repeat (first | refine dS ?_ | refine dE ?_ | refine w_mv rfl ?_ | (refine ai_ret ?_; repeat (first | rw [thenQ_r] | rw [blockQ_r] | rw [roundE_r])))
  exact end_one rfl ⟨rfl, xg, hg, hng⟩
def setF (k : Nat) (l : List UInt8) : Option Int := if thinK k = true then numF l else (digF l 6).map fun n => (n : Int)
/-- Only one object turns. -/
def Md (i : Nat) (h g : Hp) : Prop := h.nx ≤ g.nx ∧ ∀ j, j < h.nx → j ≠ i → g.get j = h.get j
theorem Md.refl (i : Nat) (h : Hp) : Md i h h := ⟨Nat.le_refl _, fun _ _ _ => rfl⟩
theorem Md.trans {i : Nat} {a b c : Hp} (x : Md i a b) (y : Md i b c) : Md i a c := ⟨Nat.le_trans x.1 y.1, fun j hj hi => (y.2 j (Nat.lt_of_lt_of_le hj x.1) hi).trans (x.2 j hj hi)⟩
theorem Ext.md {i : Nat} {a b : Hp} (x : Ext a b) : Md i a b := ⟨x.1, fun j hj _ => x.2 j hj⟩
theorem Md.put {i : Nat} {a b c : Hp} (x : Md i a b) (m : ∀ k, k ≠ i → c.get k = b.get k) (n : c.nx = b.nx) : Md i a c := ⟨by rw [n]; exact x.1, fun j hj hi => (m j hi).trans (x.2 j hj hi)⟩
set_option maxHeartbeats 1000000 in
theorem set_ok (h : Hp) (nm l : List UInt8) (hl : l.length ≤ 1000000) {i k e : Nat} {us : List Value} (hg : h.get i = some ⟨us, true, e⟩) (hi : i < h.nx) (hk : k < us.length) :
    ACall PX 26 [.agg ⟨[bsV nm, .iface (ptT (thinK k)) (.pointer (some ⟨i, k, none⟩))]⟩, bs l] h (fun v g => v = .bool (setF k l).isSome ∧ Md i h g ∧ g.get i = some ⟨(match setF k l with | some n => us.set k (nI n) | none => us), true, e⟩) := by
  unfold setF
  refine acall Go.Proofs.Tryd.func26 c26 (by simp [ir26]) ?_
  unfold ir26
  dsimp only
  refine ai_seq (ai_regW (sS (w_box rfl fun g1 x1 k1 n1 => ?_)))
  have k2 := (x1.2 i hi).trans hg
  cases ht : thinK k
  · rw [ht] at k1
    simp only [Bool.false_eq_true, if_false]
    repeat (first | refine sS ?_ | refine sE ?_ | refine w_mv rfl ?_ | (refine is_okn rfl ?_; refine w_op rfl ?_) | refine w_ext rfl rfl ?_ | (refine is_ld ?_; refine w_ld rfl (by first | exact rd_g ‹_› rfl | exact rd_new rfl | assumption) ?_) | (refine w_call rfl ((digits_ok l 6 (by decide) hl _).mono ?_); rintro _ _ ⟨rfl, rfl⟩) | refine ai_seq ?_ | refine ai_regW ?_ | refine ai_condF (b := false) rfl (fun hb => by cases hb) (fun _ => ?_) | refine ai_skip ?_)
    cases hd : digF l 6 with
    | none =>
      repeat (first | refine sS ?_ | refine sE ?_ | refine w_mv rfl ?_ | refine ai_seq ?_ | refine ai_regW ?_ | refine ai_condF (b := false) rfl (fun hb => by cases hb) (fun _ => ?_) | refine ai_skip ?_ | (refine ai_ret ?_; repeat (first | rw [thenQ_r] | rw [blockQ_r] | rw [roundE_r])))
      exact end_one rfl ⟨rfl, x1.md, k2⟩
    | some n =>
      repeat (first | refine sS ?_ | refine sSn ?_ | refine w_mv rfl ?_ | (refine is_okn rfl ?_; refine w_op rfl ?_) | (refine is_ld ?_; refine w_ld rfl (by first | exact rd_g ‹_› rfl | exact rd_new rfl | assumption) ?_) | refine ai_regW ?_ | refine ai_condF (b := true) rfl (fun _ => ?_) (fun hb => by cases hb))
      refine w_st1 rfl rfl k2 hk rfl fun g2 m2 k3 n3 => ?_
      repeat (first | refine sS ?_ | refine sE ?_ | refine w_mv rfl ?_ | refine ai_seq ?_ | refine ai_regW ?_ | (refine ai_ret ?_; repeat (first | rw [thenQ_r] | rw [blockQ_r] | rw [roundE_r])))
      exact end_one rfl ⟨rfl, x1.md.put m2 n3, k3⟩
  · rw [ht] at k1
    simp only [if_true]
    repeat (first | refine sS ?_ | refine sE ?_ | refine w_mv rfl ?_ | (refine is_okn rfl ?_; refine w_op rfl ?_) | refine w_ext rfl rfl ?_ | (refine is_ld ?_; refine w_ld rfl (by first | exact rd_g ‹_› rfl | exact rd_new rfl | assumption) ?_) | (refine w_call rfl ((number_ok l hl _).mono ?_); rintro _ _ ⟨rfl, rfl⟩) | refine ai_seq ?_ | refine ai_regW ?_ | refine ai_condF (b := true) rfl (fun _ => ?_) (fun hb => by cases hb))
    cases hd : numF l with
    | none =>
      repeat (first | refine sS ?_ | refine sE ?_ | refine w_mv rfl ?_ | refine ai_seq ?_ | refine ai_regW ?_ | refine ai_condF (b := false) rfl (fun hb => by cases hb) (fun _ => ?_) | refine ai_skip ?_ | (refine ai_ret ?_; repeat (first | rw [thenQ_r] | rw [blockQ_r] | rw [roundE_r])))
      exact end_one rfl ⟨rfl, x1.md, k2⟩
    | some n =>
      repeat (first | refine sS ?_ | refine sSn ?_ | refine w_mv rfl ?_ | (refine is_okn rfl ?_; refine w_op rfl ?_) | refine ai_regW ?_ | refine ai_condF (b := true) rfl (fun _ => ?_) (fun hb => by cases hb))
      refine w_st1 rfl rfl k2 hk rfl fun g2 m2 k3 n3 => ?_
      repeat (first | refine sS ?_ | refine sE ?_ | refine w_mv rfl ?_ | refine ai_seq ?_ | refine ai_regW ?_ | (refine ai_ret ?_; repeat (first | rw [thenQ_r] | rw [blockQ_r] | rw [roundE_r])))
      exact end_one rfl ⟨rfl, x1.md.put m2 n3, k3⟩
end Go.Proofs.YtapbmmlgmcmpnaaDoorW.Am
/- Texts cut into lines, in plain words; which lines are settings; what settings a text is. -/
namespace Go.Proofs.YtapbmmlgmcmpnaaDoorW.Am
open Go
def consH (b : UInt8) : List (List UInt8) → List (List UInt8)
  | [] => [[b]]
  | a :: t => (b :: a) :: t
def linesL : List UInt8 → List (List UInt8)
  | [] => [[]]
  | b :: l => if b = 10 then [] :: linesL l else consH b (linesL l)
theorem splitK_ne {b c : UInt8} (l : List UInt8) (h : b ≠ c) (k : Nat) : Go.Lib.splitK [c] 0 k (b :: l) = consH b (Go.Lib.splitK [c] 0 k l) := by
  cases k with
  | zero => rfl
  | succ k =>
    have hp : ([c] : List UInt8).isPrefixOf (b :: l) = false := by simp [List.isPrefixOf, Ne.symm h]
    have hix : Go.Lib.index (b :: l) [c] = if Go.Lib.index l [c] == -1 then -1 else Go.Lib.index l [c] + 1 := by rw [Go.Lib.index, hp]; simp
    simp only [Go.Lib.splitK]
    by_cases hm : Go.Lib.index l [c] = -1
    · rw [if_pos (by rw [hix, if_pos (beq_iff_eq.2 hm)]; rfl), if_pos (beq_iff_eq.2 hm)]
      rfl
    · have hge := Go.Lib.index_ge l [c]
      obtain ⟨j, hj⟩ : ∃ j : Nat, Go.Lib.index l [c] = j := ⟨(Go.Lib.index l [c]).toNat, by omega⟩
      have hb : ¬ (Go.Lib.index l [c] == -1) = true := fun e => hm (beq_iff_eq.1 e)
      have hix2 : Go.Lib.index (b :: l) [c] = ((j + 1 : Nat) : Int) := by rw [hix, if_neg hb, hj]; omega
      rw [if_neg (by rw [hix2]; intro e; have := beq_iff_eq.1 e; omega), if_neg hb, hix2, hj]
      simp [consH]
theorem splitK_eq (c : UInt8) (l : List UInt8) (k : Nat) : Go.Lib.splitK [c] 0 (k + 1) (c :: l) = [] :: Go.Lib.splitK [c] 0 k l := by
  have hix : Go.Lib.index (c :: l) [c] = ((0 : Nat) : Int) := by rw [Go.Lib.index]; simp [List.isPrefixOf]
  simp only [Go.Lib.splitK]
  rw [if_neg (by rw [hix]; decide), hix]
  simp
theorem lines_split : ∀ l : List UInt8, Go.Lib.splitK [10] 0 (l.count 10) l = linesL l
  | [] => rfl
  | b :: l => by
    by_cases h : b = 10
    · subst h
      rw [List.count_cons_self, splitK_eq, lines_split l]
      rfl
    · rw [List.count_cons_of_ne (by simpa using h), splitK_ne l h, lines_split l]
      simp [linesL, h]
theorem countB_10 (l : List UInt8) : Go.Lib.countB ⟨l.toArray⟩ ⟨#[10]⟩ = l.count 10 := Go.Lib.count_one 10 l
theorem splitB_lines (l : List UInt8) : (Go.Lib.splitB ⟨#[10]⟩ 0 (Go.Lib.countB ⟨l.toArray⟩ ⟨#[10]⟩) ⟨l.toArray⟩).map Value.string = (linesL l).map bsV := by
  have h1 := Go.Lib.splitB_data ⟨#[10]⟩ 0 (Go.Lib.countB ⟨l.toArray⟩ ⟨#[10]⟩) ⟨l.toArray⟩
  have h2 : ((Go.Lib.splitB ⟨#[10]⟩ 0 (Go.Lib.countB ⟨l.toArray⟩ ⟨#[10]⟩) ⟨l.toArray⟩).map (·.data.toList)).map bsV = (Go.Lib.splitB ⟨#[10]⟩ 0 (Go.Lib.countB ⟨l.toArray⟩ ⟨#[10]⟩) ⟨l.toArray⟩).map Value.string := by
    rw [List.map_map]
    rfl
  rw [← h2, h1, countB_10]
  exact congrArg (List.map bsV) (lines_split l)
theorem lines_len (l : List UInt8) : (linesL l).length = Go.Lib.countB ⟨l.toArray⟩ ⟨#[10]⟩ + 1 := by
  have := congrArg List.length (splitB_lines l)
  rw [List.length_map, List.length_map, Go.Lib.splitB_all ⟨#[10]⟩ (Nat.le_refl _) 0 _ _ rfl] at this
  exact this.symm
theorem consH_mem {b : UInt8} {L : List (List UInt8)} {n : Nat} (h : ∀ a ∈ L, a.length ≤ n) : ∀ a ∈ consH b L, a.length ≤ n + 1 := by
  intro a ha
  cases L with
  | nil => simp [consH] at ha; subst ha; simp
  | cons x t =>
    simp [consH] at ha
    rcases ha with rfl | ha
    · have := h x (by simp); simp; omega
    · have := h a (by simp [ha]); omega
theorem lines_short : ∀ (l : List UInt8), ∀ a ∈ linesL l, a.length ≤ l.length
  | [], a, h => by simp [linesL] at h; subst h; simp
  | b :: l, a, h => by
    by_cases hb : b = 10
    · simp [linesL, hb] at h
      rcases h with rfl | h
      · simp
      · have := lines_short l a h; simp; omega
    · simp only [linesL, if_neg hb] at h
      exact consH_mem (lines_short l) a h
def setF' (numF digF6 : List UInt8 → Option Int) (k : Nat) (l : List UInt8) : Option Int := if thinK k = true then numF l else digF6 l
/-- Which part has that name? -/
def findN (nm : List UInt8) : Option Nat := nmB.findIdx? (· == nm)
def blankB : List UInt8 → Bool
  | [] => true
  | b :: _ => b == 35
theorem findN_some {nm : List UInt8} {k : Nat} (h : findN nm = some k) : nmB[k]? = some nm := by
  unfold findN at h
  rw [List.findIdx?_eq_some_iff_getElem] at h
  obtain ⟨hk, h1, _⟩ := h
  rw [List.getElem?_eq_getElem hk]
  exact congrArg some (by simpa using h1)
theorem nm_inj {j k : Nat} {nm : List UInt8} (h1 : nmB[j]? = some nm) (h2 : nmB[k]? = some nm) : j = k := by
  have hj := (List.getElem?_eq_some_iff.1 h1).1
  have hk := (List.getElem?_eq_some_iff.1 h2).1
  have hn : nmB.Nodup := by decide
  have e1 := (List.getElem?_eq_some_iff.1 h1).2
  have e2 := (List.getElem?_eq_some_iff.1 h2).2
  exact (List.getElem_inj hn).1 (e1.trans e2.symm)
theorem findN_at {nm : List UInt8} {k : Nat} (h : nmB[k]? = some nm) : findN nm = some k := by
  cases hf : findN nm with
  | none =>
    unfold findN at hf
    rw [List.findIdx?_eq_none_iff] at hf
    have := hf nm (List.mem_of_getElem? h)
    simp at this
  | some j => rw [nm_inj (findN_some hf) h]
theorem findN_lt {nm : List UInt8} {k : Nat} (h : findN nm = some k) : k < 20 := (List.getElem?_eq_some_iff.1 (findN_some h)).1
section
variable (S : Nat → List UInt8 → Option Int)
/-- Which part a line sets, to what. -/
def lineF (l : List UInt8) : Option (Nat × Int) := (findN (Go.Lib.cut l [58, 32]).1).bind fun k => (S k (Go.Lib.cut l [58, 32]).2.1).map fun n => (k, n)
/-- Lines are read: the number of a wrong one, or the values. -/
def parseL : List (List UInt8) → Nat → List Int → List Nat → Except Nat (List Int)
  | [], _, v, _ => .ok v
  | l :: r, i, v, was => if blankB (Go.Lib.trimB l 32) = true then parseL r (i + 1) v was else match lineF S (Go.Lib.trimB l 32) with
    | none => .error (i + 1)
    | some (k, x) => if was.contains k = true then .error (i + 1) else parseL r (i + 1) (v.set k x) (was ++ [k])
end
def vl (c : Cf20) : List Int := [c.target, c.util, c.stable, c.panic, c.grain, c.threshold, c.up, c.down, c.min, c.max, c.initial, c.grace, c.delay, c.burst, c.limit, c.queue, c.timeout, c.ready, c.subset, c.sample]
theorem cs_vl (c : Cf20) : cs20 c = (vl c).map nI := rfl
theorem vl_of {l : List Int} (h : l.length = 20) : ∃ c, vl c = l := by
  match l, h with
  | [a0, a1, a2, a3, a4, a5, a6, a7, a8, a9, b0, b1, b2, b3, b4, b5, b6, b7, b8, b9], _ => exact ⟨⟨a0, a1, a2, a3, a4, a5, a6, a7, a8, a9, b0, b1, b2, b3, b4, b5, b6, b7, b8, b9⟩, rfl⟩
theorem vl_inj {c d : Cf20} (h : vl c = vl d) : c = d := by
  cases c; cases d
  simp only [vl, List.cons.injEq, and_true] at h
  obtain ⟨rfl, rfl, rfl, rfl, rfl, rfl, rfl, rfl, rfl, rfl, rfl, rfl, rfl, rfl, rfl, rfl, rfl, rfl, rfl, rfl⟩ := h
  rfl
def ofL : List Int → Cf20
  | [a0, a1, a2, a3, a4, a5, a6, a7, a8, a9, b0, b1, b2, b3, b4, b5, b6, b7, b8, b9] => ⟨a0, a1, a2, a3, a4, a5, a6, a7, a8, a9, b0, b1, b2, b3, b4, b5, b6, b7, b8, b9⟩
  | _ => ⟨0, 0, 0, 0, 0, 0, 0, 0, 0, 0, 0, 0, 0, 0, 0, 0, 0, 0, 0, 0⟩
theorem ofL_vl (c : Cf20) : ofL (vl c) = c := rfl
/-- Settings with what a text says: the settings, a code, and the line. -/
def parseF (S : Nat → List UInt8 → Option Int) (c : Cf20) (s : List UInt8) : Cf20 × Int × Int :=
  match parseL S (linesL s) 0 (vl c) [] with
  | .error n => (c, 4, n)
  | .ok v => if mayB (ofL v) = true then (ofL v, 0, 0) else (c, 5, 0)
end Go.Proofs.YtapbmmlgmcmpnaaDoorW.Am
/- Texts: what Parse calls; the map of what was seen. -/
namespace Go.Proofs.YtapbmmlgmcmpnaaDoorW.Am
open Go Go.RowKit
theorem trim_br (l : List UInt8) (hl : l.length ≤ 1000000) (h : Hp) : ACall PX 23 [bs l, .string ⟨#[32]⟩] h (fun v g => v = bs (Go.Lib.trimB l 32) ∧ h = g) :=
  bridge (enters_comp Go.Proofs.Tryd.func23 c23) rfl rfl (fun w _ => (Go.Proofs.Tryd.strings_Trim_one ⟨l.toArray⟩ 32 (by decide) w (by show l.toArray.size ≤ _; rw [List.size_toArray]; omega)).mono (by
    rintro e w' ⟨rfl, hw⟩
    refine ⟨rfl, ?_, fun d => (dr_no d).elim⟩
    rcases hw with rfl | rfl
    · exact Below.refl _ _
    · exact below_drewN w 1)) h
theorem split_br (l : List UInt8) (hl : l.length ≤ 1000000) (h : Hp) : ACall PX 22 [bs l, .string ⟨#[10]⟩] h (fun v g => v = .slice (some ⟨h.nx, 0, none⟩) (linesL l).length (linesL l).length ∧ Ext h g ∧ g.get h.nx = some ⟨(linesL l).map bsV, true, 1⟩ ∧ h.nx < g.nx) := by
  refine ⟨enters_comp Go.Proofs.Tryd.func22 c22, fun base w0 m w args' ra s => ?_⟩
  obtain rfl := ra.flat_eq rfl
  obtain ⟨mm, hm⟩ := (s.below.tb w s.below.bl).2
  refine (Go.Proofs.Tryd.strings_Split ⟨l.toArray⟩ ⟨#[10]⟩ mm w (by show l.toArray.size < _; rw [List.size_toArray]; omega) hm (Nat.le_refl _)).mono ?_
  rintro e w' ⟨rfl, rfl⟩
  rw [splitB_lines, ← lines_len]
  have hr : RVs m ((linesL l).map bsV) ((linesL l).map bsV) := RVs.of_flat (List.all_eq_true.2 (by intro x hx; obtain ⟨b, _, rfl⟩ := List.mem_map.1 hx; rfl))
  obtain ⟨h1, h2⟩ := new_obj s 9 1 hr (fun q => absurd q (by decide))
  refine ⟨_, .slice (some ⟨h.nx, 0, none⟩) (linesL l).length (linesL l).length, _, h.new ⟨(linesL l).map bsV, true, 1⟩, rfl, h1, ?_, h2, rfl, Ext.new _ _, new_get _ _, by simp [Hp.new]⟩
  have := RV.slice (m := m.add h.nx ⟨w.heap.size, 0, 0⟩) (i := h.nx) (o := 0) (n := (linesL l).length) (c := (linesL l).length) (Mu.add_same m h.nx ⟨w.heap.size, 0, 0⟩)
  simpa using this
/-- The cells of the map of the parts that were seen. -/
def mpC (ws : List Nat) : List Value := ws.flatMap fun k => [bsV (nmB.getD k []), .bool true]
def seenB (nm : List UInt8) (ws : List Nat) : Bool := ws.any fun k => nm == nmB.getD k []
theorem baeq (l m : List UInt8) : ((⟨l.toArray⟩ : ByteArray) == ⟨m.toArray⟩) = (l == m) := by
  rw [beq_toListBytes, ByteArray.toList_eq, ByteArray.toList_eq]
theorem seen_cons (nm : List UInt8) (k : Nat) (ws : List Nat) : seenB nm (k :: ws) = (nm == nmB.getD k [] || seenB nm ws) := rfl
theorem mp_cons (k : Nat) (ws : List Nat) : mpC (k :: ws) = .string ⟨(nmB.getD k []).toArray⟩ :: .bool true :: mpC ws := rfl
theorem mfind_mp (nm : List UInt8) : ∀ ws, mfind ⟨nm.toArray⟩ (mpC ws) = some (if seenB nm ws = true then some (.bool true) else none)
  | [] => rfl
  | k :: ws => by
    have ih := mfind_mp nm ws
    rw [mp_cons, seen_cons]
    simp only [mfind, baeq]
    by_cases he : (nm == nmB.getD k []) = true
    · rw [he]; rfl
    · have he2 : (nm == nmB.getD k []) = false := by simpa using he
      rw [he2, if_neg (by simp), Bool.false_or]
      exact ih
theorem mput_new (nm : List UInt8) (x : Value) : ∀ ws, seenB nm ws = false → mput ⟨nm.toArray⟩ x (mpC ws) = some (mpC ws ++ [bsV nm, x])
  | [], _ => rfl
  | k :: ws, h => by
    rw [seen_cons, Bool.or_eq_false_iff] at h
    have ih := mput_new nm x ws h.2
    rw [mp_cons]
    simp only [mput, baeq]
    rw [h.1, ih, if_neg (by simp)]
    rfl
theorem mput_any (nm : List UInt8) (x : Value) : ∀ ws, ∃ c, mput ⟨nm.toArray⟩ x (mpC ws) = some c
  | [] => ⟨_, rfl⟩
  | k :: ws => by
    obtain ⟨c, ih⟩ := mput_any nm x ws
    rw [mp_cons]
    simp only [mput, baeq]
    by_cases he : (nm == nmB.getD k []) = true
    · rw [if_pos he]; exact ⟨_, rfl⟩
    · rw [if_neg he, ih]; exact ⟨_, rfl⟩
theorem seen_mem {nm : List UInt8} {k : Nat} {ws : List Nat} (h : findN nm = some k) (hw : ∀ j ∈ ws, j < 20) : seenB nm ws = ws.contains k := by
  rw [Bool.eq_iff_iff]
  simp only [seenB, List.any_eq_true, List.contains_iff_mem, beq_iff_eq]
  have hk := findN_some h
  constructor
  · rintro ⟨j, hj, e⟩
    have hj2 : nmB[j]? = some nm := by
      rw [e, List.getD_eq_getElem?_getD, List.getElem?_eq_getElem (show j < nmB.length from hw j hj)]
      rfl
    rwa [nm_inj hk hj2]
  · intro hm
    refine ⟨k, hm, ?_⟩
    rw [List.getD_eq_getElem?_getD, hk]
    rfl
section
variable {P : Program} {CT : FuncId → List Value → Hp → (Value → Hp → Prop) → Prop} {d : Option Nat} {xs : List Operand} {env : Env} {h : Hp} {R : Value → Hp → Prop}
theorem w_mlk {i e : Nat} {nm : List UInt8} {ws : List Nat} {b : Bool} (ex : mapF env xs = some [.map (some i), bs nm]) (hg : h.get i = some ⟨mpC ws, b, e⟩) (n : R (.bool (seenB nm ws)) h) : WI P CT ⟨d, none, .op (.mlk (.bool false) false) xs⟩ env h R := by
  refine w_op (v := .bool (seenB nm ws)) (h' := h) ?_ n
  unfold opF
  rw [ex]
  simp only [bs, stepK, hg, mfind_mp]
  cases seenB nm ws <;> rfl
theorem w_mup {i e : Nat} {nm : List UInt8} {x : Value} {us c : List Value} {b : Bool} (ex : mapF env xs = some [.map (some i), bs nm, x]) (hg : h.get i = some ⟨us, b, e⟩) (hf : flat x = true) (hc : mput ⟨nm.toArray⟩ x us = some c)
    (n : ∀ g, (∀ k, k ≠ i → g.get k = h.get k) → g.get i = some ⟨c, b, e⟩ → g.nx = h.nx → R undef g) : WI P CT ⟨d, none, .op .mup xs⟩ env h R := by
  refine w_op (v := undef) (h' := h.put i ⟨c, b, e⟩) ?_ (n _ (fun _ hk => hput_ne _ _ hk) (hput_same _ _ _) rfl)
  unfold opF
  rw [ex]
  simp only [bs, stepK, hg, hf, if_true, hc]
theorem w_mkm (n : ∀ g, Ext h g → g.get h.nx = some ⟨[], false, 0⟩ → h.nx < g.nx → R (.map (some h.nx)) g) : WI P CT ⟨d, none, .op .mkm []⟩ env h R :=
  w_op (v := .map (some h.nx)) (h' := h.new ⟨[], false, 0⟩) rfl (n _ (Ext.new _ _) (new_get _ _) (by simp [Hp.new]))
end
theorem end_cell3 {P : Program} {R : Value → Hp → Prop} {env : Env} {h : Hp} {a x y i n m : Nat} {t : TypeId} {dd : TypeDesc} {us : List Value} {b : Bool} {u v : Value} (e : getF env a = some (.pointer (some ⟨i, 0, none⟩))) (e2 : getF env x = some u) (e3 : getF env y = some v) (hg : h.get i = some ⟨us, b, m⟩) (hu : P.underlying t = some dd) (hd : isAggD dd = true) (hi : (P.info? t).map (·.size) = some n) (hl : us.length = n) (r : R (.tuple #[.agg ⟨us⟩, u, v]) h) : endQ P [.cell a t, .tmp x, .tmp y] R .ret env h := by
  refine ⟨[.agg ⟨us⟩, u, v], ?_, r⟩
  rw [getF_eq] at e e2 e3
  cases hti : P.info? t with
  | none => rw [hti] at hi; cases hi
  | some ti =>
  rw [hti] at hi
  have hn : ti.size = n := Option.some.inj hi
  have : h.rd i 0 ti.size = some us := rd_all hg (by rw [hl, hn])
  simp [resAll, resOne, e, e2, e3, hu, hd, hti, this]
theorem ptC_at (i : Nat) {j : Nat} (hj : j < 20) : ((ptC i).drop (j * 2)).take 2 = [bsV (nmB.getD j []), .iface (ptT (thinK j)) (.pointer (some ⟨i, j, none⟩))] := by
  have : j = 0 ∨ j = 1 ∨ j = 2 ∨ j = 3 ∨ j = 4 ∨ j = 5 ∨ j = 6 ∨ j = 7 ∨ j = 8 ∨ j = 9 ∨ j = 10 ∨ j = 11 ∨ j = 12 ∨ j = 13 ∨ j = 14 ∨ j = 15 ∨ j = 16 ∨ j = 17 ∨ j = 18 ∨ j = 19 := by omega
  rcases this with rfl | rfl | rfl | rfl | rfl | rfl | rfl | rfl | rfl | rfl | rfl | rfl | rfl | rfl | rfl | rfl | rfl | rfl | rfl | rfl <;> rfl
theorem ptC_rd {h : Hp} {q i e : Nat} {b : Bool} (hg : h.get q = some ⟨ptC i, b, e⟩) {j : Nat} (hj : j < 20) : h.rd q (0 + j * 2) 2 = some [bsV (nmB.getD j []), .iface (ptT (thinK j)) (.pointer (some ⟨i, j, none⟩))] := by
  have hl : (ptC i).length = 40 := rfl
  unfold Hp.rd
  simp only [hg, Nat.zero_add]
  rw [if_pos (by omega), ptC_at i hj]
end Go.Proofs.YtapbmmlgmcmpnaaDoorW.Am
/- Texts: Parse walked. -/
namespace Go.Proofs.YtapbmmlgmcmpnaaDoorW.Am
open Go Go.RowKit
theorem trimB_len (l : List UInt8) (c : UInt8) : (Go.Lib.trimB l c).length ≤ l.length := by
  unfold Go.Lib.trimB Go.Lib.trimLeftB
  exact Nat.le_trans (dw_len _ _) (trimR_len l c)
/-- Which part is set by a line, if it was not seen. -/
def hitB (nm : List UInt8) (was : List Nat) : Option Nat := match findN nm with
  | some k => if was.contains k = true then none else some k
  | none => none
def stp (nm val : List UInt8) (v : List Int) (was : List Nat) (j : Nat) : Bool × List Int := match hitB nm was with
  | some k => if k < j then ((setF k val).isSome, match setF k val with | some n => v.set k n | none => v) else (false, v)
  | none => (false, v)
theorem stp_zero (nm val : List UInt8) (v : List Int) (was : List Nat) : stp nm val v was 0 = (false, v) := by
  unfold stp
  split
  · rw [if_neg (Nat.not_lt_zero _)]
  · rfl
theorem stp_miss {nm val : List UInt8} {v : List Int} {was : List Nat} {j : Nat} (h : hitB nm was ≠ some j) : stp nm val v was (j + 1) = stp nm val v was j := by
  unfold stp
  split
  · next k hk =>
    have : k ≠ j := fun e => h (by rw [hk, e])
    by_cases hj : k < j
    · rw [if_pos hj, if_pos (by omega)]
    · rw [if_neg hj, if_neg (by omega)]
  · rfl
theorem stp_at {nm val : List UInt8} {v : List Int} {was : List Nat} {j : Nat} (h : hitB nm was = some j) : stp nm val v was j = (false, v) ∧ stp nm val v was (j + 1) = ((setF j val).isSome, match setF j val with | some n => v.set j n | none => v) := by
  unfold stp
  rw [h]
  simp
theorem stp_no {nm val : List UInt8} {v : List Int} {was : List Nat} (h : (stp nm val v was 20).1 = false) : ∀ k n, findN nm = some k → setF k val = some n → was.contains k = true := by
  intro k n hk hn
  cases hc : was.contains k
  · exfalso
    have hh : hitB nm was = some k := by
      unfold hitB
      rw [hk]
      simp only [hc]
      rfl
    unfold stp at h
    rw [hh] at h
    simp only [if_pos (findN_lt hk), hn] at h
    cases h
  · rfl
theorem stp_yes {nm val : List UInt8} {v us : List Int} {was : List Nat} (h : stp nm val v was 20 = (true, us)) : ∃ k n, findN nm = some k ∧ setF k val = some n ∧ was.contains k = false ∧ us = v.set k n := by
  unfold stp at h
  split at h
  · next k hk =>
    unfold hitB at hk
    split at hk
    · next k2 hf =>
      split at hk
      · cases hk
      · next hc =>
        cases hk
        rw [if_pos (findN_lt hf)] at h
        cases hn : setF k val with
        | none => rw [hn] at h; cases h
        | some n => rw [hn] at h; cases h; exact ⟨k, n, hf, hn, by simpa using hc, rfl⟩
    · cases hk
  · cases h
/-- Two objects turn, no other one. -/
def Md2 (x m : Nat) (h g : Hp) : Prop := h.nx ≤ g.nx ∧ ∀ j, j < h.nx → j ≠ x → j ≠ m → g.get j = h.get j
theorem Md2.refl (x m : Nat) (h : Hp) : Md2 x m h h := ⟨Nat.le_refl _, fun _ _ _ _ => rfl⟩
theorem Md2.trans {x m : Nat} {a b c : Hp} (p : Md2 x m a b) (q : Md2 x m b c) : Md2 x m a c := ⟨Nat.le_trans p.1 q.1, fun j hj h1 h2 => (q.2 j (Nat.lt_of_lt_of_le hj p.1) h1 h2).trans (p.2 j hj h1 h2)⟩
theorem Md.two {x m : Nat} {a b : Hp} (p : Md x a b) : Md2 x m a b := ⟨p.1, fun j hj h1 _ => p.2 j hj h1⟩
theorem Md.two' {x m : Nat} {a b : Hp} (p : Md m a b) : Md2 x m a b := ⟨p.1, fun j hj _ h2 => p.2 j hj h2⟩
theorem u8_eq (b c : UInt8) : ((b.toNat : Int) == (c.toNat : Int)) = (b == c) := by
  by_cases h : b = c
  · subst h; simp
  · have h2 : b.toNat ≠ c.toNat := fun q => h (UInt8.toNat_inj.1 q)
    rw [show (b == c) = false by simpa using h]
    simp
    omega
theorem map_set (v : List Int) (k : Nat) (n : Int) : (v.map nI).set k (nI n) = (v.set k n).map nI := by rw [List.map_set]
theorem Md.trans' {i k : Nat} {a b c : Hp} (p : Md i a b) (m : ∀ j, j ≠ k → c.get j = b.get j) (n : c.nx = b.nx) (hk : a.nx ≤ k) : Md i a c := ⟨by rw [n]; exact p.1, fun j hj hi => (m j (by omega)).trans (p.2 j hj hi)⟩
theorem Ext.own' {h a b : Hp} {i : Nat} (x : Ext h a) (m : ∀ k, k ≠ i → b.get k = a.get k) (n : b.nx = a.nx) (hi : h.nx ≤ i) : Ext h b := ⟨by rw [n]; exact x.1, fun k hk => (m k (by omega)).trans (x.2 k hk)⟩
set_option maxRecDepth 10000 in
set_option maxHeartbeats 8000000 in
theorem tparse_ok (c : Cf20) (s : List UInt8) (hs : s.length ≤ 1000000) (h : Hp) : ACall PX 10 [.agg ⟨cs20 c⟩, bs s] h (fun v g => v = .tuple #[.agg ⟨cs20 (parseF setF c s).1⟩, nI (parseF setF c s).2.1, nI (parseF setF c s).2.2] ∧ Ext h g) := by
  obtain ⟨R0, hR0⟩ : ∃ r, parseF setF c s = r := ⟨_, rfl⟩
  rw [hR0]
  unfold parseF at hR0
  obtain ⟨P0, hP0⟩ : ∃ p, parseL setF (linesL s) 0 (vl c) [] = p := ⟨_, rfl⟩
  rw [hP0] at hR0
  have hshort := lines_short s
  have hln := lines_len s
  have hc10 := Go.Lib.countB_le ⟨#[10]⟩ (Nat.le_refl _) _ ⟨s.toArray⟩ (Nat.le_refl _)
  have hsz := sz_mk s
  refine acall Go.Proofs.Tryd.func10 c10 (by simp [ir10]) ?_
  unfold ir10
  dsimp only
  refine ai_seq (ai_regW (sS (w_box rfl fun g1 x1 k1 n1 => sS (w_new fun g2 x2 k2 n2 => ?_))))
  have q1 := (x2.2 _ n1).trans k1
  repeat (first | refine sS ?_ | refine sE ?_ | refine w_mv rfl ?_ | (refine is_okn rfl ?_; refine w_op rfl ?_) | (refine is_ldn ?_; refine w_ldn rfl (by first | exact rd_all ‹_› rfl | exact rd_newn rfl | assumption) ?_) | refine ai_seq ?_ | refine ai_regW ?_)
  have x3 : Ext g2 (g2.new ⟨[], false, 0⟩) := Ext.new _ _
  have k3 : (g2.new ⟨[], false, 0⟩).get g2.nx = some ⟨[], false, 0⟩ := new_get _ _
  have n3 : g2.nx < (g2.new ⟨[], false, 0⟩).nx := by simp [Hp.new]
  generalize g2.new ⟨[], false, 0⟩ = g3 at x3 k3 n3 ⊢
  have q13 := (x3.2 _ (Nat.lt_of_lt_of_le n1 x2.1)).trans q1
  have q23 := (x3.2 _ n2).trans k2
  refine w_new fun g4 x4 k4 n4 => ?_
  repeat (first | refine sSn ?_)
  refine w_stN rfl rfl k4 rfl rfl fun g5 m5 k5 n5 => ?_
  have l1 := Nat.lt_of_lt_of_le n1 x2.1
  have l13 := Nat.lt_of_lt_of_le l1 x3.1
  have l23 := Nat.lt_of_lt_of_le n2 x3.1
  have q15 := (m5 _ (Nat.ne_of_lt l13)).trans ((x4.2 _ l13).trans q13)
  have q25 := (m5 _ (Nat.ne_of_lt l23)).trans ((x4.2 _ l23).trans q23)
  have q35 := (m5 _ (Nat.ne_of_lt n3)).trans ((x4.2 _ n3).trans k3)
  have x05 : Ext h g5 := ((x1.trans x2).trans (x3.trans x4)).own' m5 n5 (by have := x1.1; have := x2.1; have := x3.1; omega)
  repeat (first | refine sS ?_ | refine sE ?_ | refine w_mv rfl ?_ | refine ai_seq ?_ | refine ai_regW ?_)
  refine w_call rfl ((split_br s hs _).mono ?_)
  rintro _ g6 ⟨rfl, x6, k6, n6⟩
  have p1 : h.nx < g5.nx := by rw [n5]; exact Nat.lt_of_lt_of_le l13 x4.1
  have p2 : g1.nx < g5.nx := by rw [n5]; exact Nat.lt_of_lt_of_le l23 x4.1
  have p3 : g2.nx < g5.nx := by rw [n5]; exact Nat.lt_of_lt_of_le n3 x4.1
  have p4 : g3.nx < g5.nx := by rw [n5]; exact n4
  have q16 := (x6.2 _ p1).trans q15
  have q26 := (x6.2 _ p2).trans q25
  have q36 := (x6.2 _ p3).trans q35
  have q46 := (x6.2 _ p4).trans k5
  have x06 := x05.trans x6
  have l6 := x6.1
  have o1 : h.nx < g1.nx := n1
  have o2 : g1.nx < g2.nx := n2
  have o3 : g2.nx < g3.nx := n3
  clear k1 k2 k3 k4 k5 q1 q13 q23 q15 q25 q35 m5 x1 x2 x3 x4 x05 x6
  obtain ⟨L, hL⟩ : ∃ L, linesL s = L := ⟨_, rfl⟩
  rw [hL] at hP0 hshort hln k6 ⊢
  repeat (first | refine sS ?_ | refine sE ?_ | refine w_mv rfl ?_ | (refine is_okn rfl ?_; refine w_op rfl ?_) | refine ai_block ?_)
  refine ai_loopE (γ := Nat × List Int × List Nat) (fun e => [(2, .pointer (some ⟨h.nx, 0, none⟩)), (4, .pointer (some ⟨g1.nx, 0, none⟩)), (7, .pointer (some ⟨g3.nx, 0, none⟩)), (8, .map (some g2.nx)), (20, .slice (some ⟨g5.nx, 0, none⟩) L.length L.length), (21, nI L.length), (22, nI e.1)])
    (fun e g => Md2 g3.nx g2.nx g6 g ∧ g.get g3.nx = some ⟨e.2.1.map nI, true, 0⟩ ∧ g.get g2.nx = some ⟨mpC e.2.2, false, 0⟩ ∧ e.1 ≤ L.length ∧ e.2.1.length = 20 ∧ (∀ j ∈ e.2.2, j < 20) ∧ parseL setF (L.drop e.1) e.1 e.2.1 e.2.2 = P0) (fun e => L.length - e.1) (0, vl c, [])
    (by repeat (first | exact le_nil | refine le_consF rfl ?_)) ⟨Md2.refl _ _ _, q46, q36, Nat.zero_le _, rfl, by simp, hP0⟩ ?_
  clear q46 q36 hP0
  rintro ⟨i, v, was⟩ g ⟨md, kx, km, hi, hv, hw, hp⟩
  dsimp only at kx km hi hv hw hp ⊢
  have hmn := md.1
  have r1 := (md.2 h.nx (by omega) (by omega) (by omega)).trans q16
  have r2 := (md.2 g1.nx (by omega) (by omega) (by omega)).trans q26
  have r6 := (md.2 g5.nx n6 (by omega) (by omega)).trans k6
  by_cases hil : i < L.length
  · obtain ⟨ln, hlni⟩ : ∃ ln, L[i]? = some ln := ⟨_, List.getElem?_eq_getElem hil⟩
    have hdr : L.drop i = ln :: L.drop (i + 1) := by
      obtain ⟨h1, rfl⟩ := List.getElem?_eq_some_iff.1 hlni
      exact List.drop_eq_getElem_cons h1
    rw [hdr] at hp
    simp only [parseL] at hp
    have hlnl := hshort ln (List.mem_of_getElem? hlni)
    have htl := trimB_len ln 32
    have hrd := rd_row r6 (x := i) (v := bsV ln) (by rw [List.getElem?_map, hlni]; rfl)
    repeat (first | refine sS ?_ | refine sE ?_ | refine w_mv rfl ?_ | (refine is_ld ?_; refine w_ld rfl (by first | exact rd_g ‹_› rfl | exact rd_new rfl | assumption) ?_) | (refine w_cmp (c2 := true) rfl ?_ ?_; focus (first | exact decide_eq_true (by omega) | (simp; done) | (simp; omega))) | (refine w_iad rfl ?_ ?_; focus (first | omega | (simp; done) | (simp; omega))) | refine ai_seq ?_ | refine ai_regW ?_ | refine ai_condF (b := true) rfl (fun _ => ?_) (fun hb => by cases hb) | refine ai_skip ?_ | refine ai_block ?_)
    refine w_call rfl ((trim_br ln (by omega) _).mono ?_)
    rintro _ _ ⟨rfl, rfl⟩
    repeat (first | refine sS ?_ | refine sE ?_ | refine w_mv rfl ?_ | refine ai_seq ?_ | refine ai_regW ?_)
    refine w_eqB (a := Go.Lib.trimB ln 32) (b := []) rfl ?_
    generalize Go.Lib.trimB ln 32 = t at hp htl ⊢
    cases t with
    | nil =>
      rw [if_pos (c := blankB [] = true) rfl] at hp
      repeat (first | refine sS ?_ | refine sE ?_ | refine w_mv rfl ?_ | refine w_pickT rfl ?_ | refine w_gF rfl rfl ?_ | (refine w_add rfl ?_ ?_; (focus omega)) | refine ai_regW ?_ | refine ai_condF (b := true) rfl (fun _ => ?_) (fun hb => by cases hb) | refine ai_exit ?_)
      exact ⟨(i + 1, v, was), (by repeat (first | exact le_nil | refine le_consF rfl ?_)), ⟨md, kx, km, by dsimp only; omega, hv, hw, hp⟩, by dsimp only; omega⟩
    | cons b r =>
      repeat (first | refine sS ?_ | refine w_mv rfl ?_ | (refine is_okn rfl ?_; refine w_op rfl ?_) | refine w_gT rfl rfl ?_)
      refine w_cmp (c2 := (b == 35)) rfl (u8_eq b 35) ?_
      by_cases hb : b = 35
      · subst hb
        rw [if_pos (c := blankB (35 :: r) = true) rfl] at hp
        repeat (first | refine sS ?_ | refine sE ?_ | refine w_mv rfl ?_ | refine w_pickF rfl ?_ | (refine w_add rfl ?_ ?_; (focus omega)) | refine ai_regW ?_ | refine ai_condF (b := true) rfl (fun _ => ?_) (fun hb => by cases hb) | refine ai_exit ?_)
        exact ⟨(i + 1, v, was), (by repeat (first | exact le_nil | refine le_consF rfl ?_)), ⟨md, kx, km, by dsimp only; omega, hv, hw, hp⟩, by dsimp only; omega⟩
      · have hb2 : (b == 35) = false := by simpa using hb
        rw [hb2]
        rw [if_neg (by simpa [blankB] using hb)] at hp
        repeat (first | refine sS ?_ | refine sE ?_ | refine w_mv rfl ?_ | refine w_pickF rfl ?_ | refine ai_seq ?_ | refine ai_regW ?_ | refine ai_condF (b := false) rfl (fun hb => by cases hb) (fun _ => ?_) | refine ai_skip ?_)
        have htl2 : (b :: r).length ≤ 1000000 := by omega
        have hcl := cut_len (b :: r) [58, 32]
        unfold lineF at hp
        obtain ⟨⟨nm, val, pt⟩, hc⟩ : ∃ c, Go.Lib.cut (b :: r) [58, 32] = c := ⟨_, rfl⟩
        rw [hc] at hp hcl
        dsimp only at hp hcl
        have cb := fun g => cut_br (b :: r) [58, 32] htl2 g
        simp only [hc] at cb
        repeat (first | refine sS ?_ | refine sE ?_ | refine w_mv rfl ?_ | refine w_ext rfl rfl ?_ | (refine w_call rfl ((cb _).mono ?_); rintro _ _ ⟨rfl, rfl⟩) | refine ai_seq ?_ | refine ai_regW ?_)
        refine w_call rfl ((parts_ok _ g3.nx).mono ?_)
        rintro _ g7 ⟨rfl, x7, k7, n7⟩
        have hvl : val.length ≤ 1000000 := by omega
        have kx7 := (x7.2 _ (by omega)).trans kx
        have hx7 := x7.1
        repeat (first | refine sS ?_ | refine sE ?_ | refine w_mv rfl ?_ | (refine is_okn rfl ?_; refine w_op rfl ?_) | refine ai_block ?_)
        refine ai_loopE (γ := Nat × Bool × List Int) (fun e => [(2, .pointer (some ⟨h.nx, 0, none⟩)), (4, .pointer (some ⟨g1.nx, 0, none⟩)), (7, .pointer (some ⟨g3.nx, 0, none⟩)), (8, .map (some g2.nx)), (9, nI i), (11, bs nm), (12, bs val), (14, .bool e.2.1), (20, .slice (some ⟨g5.nx, 0, none⟩) L.length L.length), (21, nI L.length), (22, nI i), (42, .slice (some ⟨g.nx, 0, none⟩) 20 20), (43, nI 20), (44, nI e.1)])
          (fun e g' => Md g3.nx g7 g' ∧ g'.get g3.nx = some ⟨e.2.2.map nI, true, 0⟩ ∧ e.1 ≤ 20 ∧ e.2.2.length = 20 ∧ (e.2.1, e.2.2) = stp nm val v was e.1) (fun e => 20 - e.1) (0, false, v)
          (by repeat (first | exact le_nil | refine le_consF rfl ?_)) ⟨Md.refl _ _, kx7, Nat.zero_le _, hv, (stp_zero _ _ _ _).symm⟩ ?_
        rintro ⟨j, good, us⟩ g8 ⟨md8, kx8, hj, hul, hst⟩
        dsimp only at kx8 hj hul hst ⊢
        have hx8 := md8.1
        have km8 := (md8.2 g2.nx (by omega) (by omega)).trans ((x7.2 _ (by omega)).trans km)
        have kp8 := (md8.2 g.nx (by omega) (by omega)).trans k7
        by_cases hj20 : j < 20
        · have hrd2 := ptC_rd kp8 hj20
          repeat (first | refine sS ?_ | refine sE ?_ | (refine is_ldn ?_; refine w_ldn rfl (by first | exact rd_all ‹_› rfl | exact rd_newn rfl | assumption) ?_) | (refine w_cmp (c2 := true) rfl ?_ ?_; focus (first | exact decide_eq_true (by omega) | (simp; done) | (simp; omega))) | (refine w_iad rfl ?_ ?_; focus (first | omega | (simp; done) | (simp; omega))) | refine ai_seq ?_ | refine ai_regW ?_ | refine ai_condF (b := true) rfl (fun _ => ?_) (fun hb => by cases hb) | refine ai_skip ?_ | refine ai_block ?_)
          refine w_new fun g9 x9 k9 n9 => ?_
          repeat (first | refine sSn ?_)
          refine w_stN rfl rfl k9 rfl rfl fun ga ma ka na => ?_
          have kxa := (ma _ (by have := x9.1; omega)).trans ((x9.2 _ (by omega)).trans kx8)
          have kma := (ma _ (by have := x9.1; omega)).trans ((x9.2 _ (by omega)).trans km8)
          have mda : Md g3.nx g7 ga := (md8.trans x9.md).trans' ma na (by omega)
          repeat (first | refine sS ?_ | refine sE ?_ | refine w_mv rfl ?_ | (refine is_okn rfl ?_; refine w_op rfl ?_) | (refine is_ld ?_; refine w_ld rfl (by first | exact rd_g ‹_› rfl | exact rd_new rfl | assumption) ?_) | refine ai_seq ?_ | refine ai_regW ?_)
          refine w_eqB (a := nmB.getD j []) (b := nm) rfl ?_
          have hjn : nmB[j]? = some (nmB.getD j []) := by
            rw [List.getD_eq_getElem?_getD, List.getElem?_eq_getElem (show j < nmB.length from hj20)]
            rfl
          have hnga : g8.nx ≤ ga.nx := by rw [na]; exact x9.1
          by_cases hnm : nmB.getD j [] = nm
          · have hnb : (nmB.getD j [] == nm) = true := by simpa using hnm
            have hjm := hjn
            rw [hnm] at hjm
            have hfn := findN_at hjm
            rw [hnb]
            repeat (first | refine sS ?_ | refine w_mv rfl ?_ | refine w_gT rfl rfl ?_)
            refine w_mlk rfl kma ?_
            rw [seen_mem hfn hw]
            cases hwas : was.contains j
            · have hit : hitB nm was = some j := by
                unfold hitB
                rw [hfn]
                simp only [hwas]
                rfl
              obtain ⟨st1, st2⟩ := stp_at (val := val) (v := v) hit
              rw [st1] at hst
              cases hst
              repeat (first | refine sS ?_ | refine sE ?_ | refine w_mv rfl ?_ | refine w_pickT rfl ?_ | (refine is_okn rfl ?_; refine w_op rfl ?_) | refine w_gT rfl rfl ?_ | (refine is_ldn ?_; refine w_ldn rfl (by first | exact rd_all ‹_› rfl | exact rd_newn rfl | assumption) ?_) | refine ai_regW ?_ | refine ai_condF (b := true) rfl (fun _ => ?_) (fun hb => by cases hb))
              refine w_call rfl ((set_ok _ (nmB.getD j []) val hvl (i := g3.nx) (k := j) kxa (by omega) (by rw [List.length_map]; omega)).mono ?_)
              rintro _ gb ⟨rfl, mdb, kxb⟩
              repeat (first | refine sS ?_ | refine sE ?_ | refine w_mv rfl ?_ | (refine w_add rfl ?_ ?_; (focus omega)) | refine ai_regW ?_)
              refine ⟨(j + 1, (setF j val).isSome, (match setF j val with | some n => v.set j n | none => v)), (by repeat (first | exact le_nil | refine le_consF rfl ?_)), ⟨mda.trans mdb, ?_, by dsimp only; omega, ?_, st2.symm⟩, by dsimp only; omega⟩
              · rw [kxb]
                cases setF j val with
                | none => rfl
                | some n =>
                  show some (Ob.mk ((v.map nI).set j (nI n)) true 0) = _
                  rw [map_set]
              · cases setF j val with
                | none => exact hv
                | some n => show (v.set j n).length = 20; rw [List.length_set]; exact hv
            · have hit : hitB nm was ≠ some j := by
                unfold hitB
                rw [hfn]
                simp only [hwas]
                simp
              repeat (first | refine sS ?_ | refine sE ?_ | refine w_mv rfl ?_ | refine w_pickT rfl ?_ | (refine is_okn rfl ?_; refine w_op rfl ?_) | refine w_gT rfl rfl ?_ | (refine w_add rfl ?_ ?_; (focus omega)) | refine ai_regW ?_ | refine ai_condF (b := false) rfl (fun hb => by cases hb) (fun _ => ?_) | refine ai_skip ?_)
              exact ⟨(j + 1, good, us), (by repeat (first | exact le_nil | refine le_consF rfl ?_)), ⟨mda, kxa, by dsimp only; omega, hul, by rw [stp_miss hit]; exact hst⟩, by dsimp only; omega⟩
          · have hnb : (nmB.getD j [] == nm) = false := by simpa using hnm
            have hit : hitB nm was ≠ some j := by
              intro e
              unfold hitB at e
              split at e
              · next k hk =>
                split at e
                · cases e
                · cases e
                  have := findN_some hk
                  rw [hjn] at this
                  exact hnm (Option.some.inj this)
              · cases e
            rw [hnb]
            repeat (first | refine sS ?_ | refine sE ?_ | refine w_mv rfl ?_ | refine w_pickF rfl ?_ | refine w_gF rfl rfl ?_ | (refine w_add rfl ?_ ?_; (focus omega)) | refine ai_regW ?_ | refine ai_condF (b := false) rfl (fun hb => by cases hb) (fun _ => ?_) | refine ai_skip ?_)
            exact ⟨(j + 1, good, us), (by repeat (first | exact le_nil | refine le_consF rfl ?_)), ⟨mda, kxa, by dsimp only; omega, hul, by rw [stp_miss hit]; exact hst⟩, by dsimp only; omega⟩
        · obtain rfl : j = 20 := by omega
          repeat (first | refine sS ?_ | refine sSn ?_ | refine sE ?_ | refine w_mv rfl ?_ | (refine w_cmp (c2 := false) rfl ?_ ?_; focus (first | exact decide_eq_false (by omega) | (simp; done) | (simp; omega))) | refine ai_seq ?_ | refine ai_regW ?_ | refine ai_condF (b := false) rfl (fun hb => by cases hb) (fun _ => ?_) | refine ai_exit ?_)
          obtain ⟨cm, hcm⟩ := mput_any nm (.bool true) was
          refine w_mup rfl km8 rfl hcm fun ga ma ka na => ?_
          have kxa := (ma _ (by omega)).trans kx8
          have mga : Md2 g3.nx g2.nx g8 ga := ⟨Nat.le_of_eq na.symm, fun j _ _ hm => ma j hm⟩
          have md6 : Md2 g3.nx g2.nx g6 ga := ((md.trans x7.md.two).trans md8.two).trans mga
          have hnga := md6.1
          cases good
          · have hpe := stp_no (nm := nm) (val := val) (v := v) (was := was) (by rw [← hst])
            have hpe2 : P0 = .error (i + 1) := by
              rw [← hp]
              cases hk : findN nm with
              | none => rfl
              | some k =>
                cases hn : setF k val with
                | none => simp [hn]
                | some n =>
                  have h1 := hpe k n hk hn
                  simp only [Option.bind_some, hn, Option.map_some, h1, if_true]
            have ra := (md6.2 h.nx (by omega) (by omega) (by omega)).trans q16
            have rb := (md6.2 g1.nx (by omega) (by omega) (by omega)).trans q26
            repeat (first | refine sS ?_ | refine sSn ?_ | refine sE ?_ | refine w_mv rfl ?_ | (refine is_okn rfl ?_; refine w_op rfl ?_) | (refine is_ldn ?_; refine w_ldn rfl (by first | exact rd_all ‹_› rfl | exact rd_newn rfl | assumption) ?_) | (refine w_add rfl ?_ ?_; (focus omega)) | refine ai_seq ?_ | refine ai_regW ?_ | refine ai_condF (b := true) rfl (fun _ => ?_) (fun hb => by cases hb))
            refine w_stN rfl rfl rb rfl rfl fun gb mb kb nb => ?_
            repeat (first | refine sS ?_ | refine sE ?_ | refine w_mv rfl ?_ | (refine ai_ret ?_; repeat (first | rw [thenQ_r] | rw [blockQ_r] | rw [roundE_r])))
            refine end_cell3 rfl rfl rfl kb Go.Proofs.Tryd.underlying24 rfl (by kernel_rfl) rfl ⟨?_, ?_⟩
            · rw [hpe2] at hR0
              rw [← hR0]
              rfl
            · exact ⟨by rw [nb]; have := x06.1; omega, fun q hq => (mb q (by omega)).trans ((md6.2 q (by omega) (by omega) (by omega)).trans (x06.2 q hq))⟩
          · obtain ⟨k, n, e1, e2, e3, rfl⟩ := stp_yes hst.symm
            rw [e1] at hp
            simp only [Option.bind_some, e2, Option.map_some, e3, Bool.false_eq_true, if_false] at hp
            have hsn : seenB nm was = false := by rw [seen_mem e1 hw]; exact e3
            have hcm2 := mput_new nm (.bool true) was hsn
            rw [hcm] at hcm2
            cases hcm2
            have hnk : nmB.getD k [] = nm := by rw [List.getD_eq_getElem?_getD, findN_some e1]; rfl
            have hmp : mpC was ++ [bsV nm, .bool true] = mpC (was ++ [k]) := by
              unfold mpC
              rw [List.flatMap_append]
              show _ = _ ++ [bsV (nmB.getD k []), .bool true]
              rw [hnk]
            rw [hmp] at ka
            repeat (first | refine sS ?_ | refine sE ?_ | refine w_mv rfl ?_ | (refine is_okn rfl ?_; refine w_op rfl ?_) | (refine w_add rfl ?_ ?_; (focus omega)) | refine ai_seq ?_ | refine ai_regW ?_ | refine ai_condF (b := false) rfl (fun hb => by cases hb) (fun _ => ?_) | refine ai_skip ?_)
            refine ⟨(i + 1, v.set k n, was ++ [k]), (by repeat (first | exact le_nil | refine le_consF rfl ?_)), ⟨md6, kxa, ka, by dsimp only; omega, by dsimp only; rw [List.length_set]; exact hv, ?_, hp⟩, by dsimp only; omega⟩
            intro q hq
            rcases List.mem_append.1 hq with hq | hq
            · exact hw q hq
            · rw [List.mem_singleton.1 hq]; exact findN_lt e1
  · obtain rfl : i = L.length := by omega
    rw [List.drop_length] at hp
    obtain ⟨d, rfl⟩ := vl_of hv
    have hp2 : P0 = .ok (vl d) := hp.symm
    rw [hp2] at hR0
    replace hR0 : (if mayB d = true then (d, (0 : Int), (0 : Int)) else (c, 5, 0)) = R0 := hR0
    repeat (first | refine sS ?_ | refine sE ?_ | (refine is_ldn ?_; refine w_ldn rfl (by first | exact rd_all ‹_› rfl | exact rd_newn rfl | assumption) ?_) | (refine w_cmp (c2 := false) rfl ?_ ?_; focus (first | exact decide_eq_false (by omega) | (simp; done) | (simp; omega))) | refine ai_seq ?_ | refine ai_regW ?_ | refine ai_condF (b := false) rfl (fun hb => by cases hb) (fun _ => ?_) | refine ai_exit ?_)
    refine w_call rfl ((may_ok _ d).mono ?_)
    rintro _ g7 ⟨rfl, x7⟩
    have hn7 := x7.1
    have ra := (x7.2 h.nx (by omega)).trans r1
    have rb := (x7.2 g1.nx (by omega)).trans r2
    have rx := (x7.2 g3.nx (by omega)).trans kx
    have xf : ∀ gb, (∀ k, k ≠ g1.nx → gb.get k = g7.get k) → gb.nx = g7.nx → Ext h gb := fun gb mb nb => ⟨by rw [nb]; have := x06.1; omega, fun q hq => (mb q (by omega)).trans ((x7.2 q (by omega)).trans ((md.2 q (by omega) (by omega) (by omega)).trans (x06.2 q hq)))⟩
    obtain ⟨mb, hm⟩ : ∃ b, mayB d = b := ⟨_, rfl⟩
    rw [hm] at hR0 ⊢
    cases mb
    · rw [← hR0]
      repeat (first | refine sS ?_ | refine sSn ?_ | refine sE ?_ | (refine is_okn rfl ?_; refine w_op rfl ?_) | (refine is_ldn ?_; refine w_ldn rfl (by first | exact rd_all ‹_› rfl | exact rd_newn rfl | assumption) ?_) | refine ai_seq ?_ | refine ai_regW ?_ | refine ai_condF (b := true) rfl (fun _ => ?_) (fun hb => by cases hb))
      refine w_stN rfl rfl rb rfl rfl fun gb mb kb nb => ?_
      repeat (first | refine sS ?_ | refine sE ?_ | refine w_mv rfl ?_ | (refine ai_ret ?_; repeat (first | rw [thenQ_r] | rw [blockQ_r] | rw [roundE_r])))
      exact end_cell3 rfl rfl rfl kb Go.Proofs.Tryd.underlying24 rfl (by kernel_rfl) rfl ⟨rfl, xf gb mb nb⟩
    · rw [← hR0]
      repeat (first | refine sS ?_ | refine sSn ?_ | refine sE ?_ | (refine is_okn rfl ?_; refine w_op rfl ?_) | (refine is_ldn ?_; refine w_ldn rfl (by first | exact rd_all ‹_› rfl | exact rd_newn rfl | assumption) ?_) | refine ai_seq ?_ | refine ai_regW ?_ | refine ai_condF (b := false) rfl (fun hb => by cases hb) (fun _ => ?_) | refine ai_skip ?_)
      refine w_stN rfl rfl rb rfl rfl fun gb mb kb nb => ?_
      repeat (first | refine sS ?_ | refine sE ?_ | refine w_mv rfl ?_ | (refine ai_ret ?_; repeat (first | rw [thenQ_r] | rw [blockQ_r] | rw [roundE_r])))
      exact end_cell3 rfl rfl rfl kb Go.Proofs.Tryd.underlying24 rfl (by kernel_rfl) rfl ⟨rfl, xf gb mb nb⟩
end Go.Proofs.YtapbmmlgmcmpnaaDoorW.Am
/- Texts: the document's own lines. -/
namespace Go.Proofs.YtapbmmlgmcmpnaaDoorW.Am
open Go Go.RowKit
theorem index_app : ∀ (nm r : List UInt8), (∀ b ∈ nm, b ≠ 58) → Go.Lib.index (nm ++ 58 :: 32 :: r) [58, 32] = (nm.length : Int)
  | [], r, _ => by rw [List.nil_append, Go.Lib.index]; simp [List.isPrefixOf]
  | a :: nm, r, h => by
    have ih := index_app nm r (fun b hb => h b (by simp [hb]))
    have ha := h a (by simp)
    have hp : ([58, 32] : List UInt8).isPrefixOf (a :: (nm ++ 58 :: 32 :: r)) = false := by simp [List.isPrefixOf, Ne.symm ha]
    rw [List.cons_append, Go.Lib.index, hp, ih]
    have : ¬ ((nm.length : Int) == -1) = true := fun e => by have := beq_iff_eq.1 e; omega
    simp only [Bool.false_eq_true, if_false]
    rw [if_neg this]
    simp
theorem cut_app {nm r : List UInt8} (h : ∀ b ∈ nm, b ≠ 58) : Go.Lib.cut (nm ++ 58 :: 32 :: r) [58, 32] = (nm, r, true) := by
  unfold Go.Lib.cut
  rw [index_app nm r h, if_pos (by omega), Int.toNat_natCast]
  simp
theorem index_pre : ∀ (l : List UInt8) (i : Nat), Go.Lib.index l [58, 32] = (i : Int) → l = l.take i ++ 58 :: 32 :: l.drop (i + 2)
  | [], i, h => by
    rw [Go.Lib.index] at h
    simp at h
  | a :: l, i, h => by
    rw [Go.Lib.index] at h
    cases hp : ([58, 32] : List UInt8).isPrefixOf (a :: l)
    · rw [hp] at h
      simp only [Bool.false_eq_true, if_false] at h
      by_cases hm : (Go.Lib.index l [58, 32] == -1) = true
      · rw [if_pos hm] at h; omega
      · rw [if_neg hm] at h
        cases i with
        | zero => have := Go.Lib.index_ge l [58, 32]; have : ¬ Go.Lib.index l [58, 32] = -1 := fun e => hm (beq_iff_eq.2 e); omega
        | succ i =>
          have ih := index_pre l i (by omega)
          simp only [List.take_succ_cons, List.cons_append]
          have e2 : (a :: l).drop (i + 1 + 2) = l.drop (i + 2) := rfl
          rw [e2, ← ih]
    · rw [hp] at h
      simp at h
      have : i = 0 := by omega
      subst this
      cases l with
      | nil => simp [List.isPrefixOf] at hp
      | cons b l =>
        simp [List.isPrefixOf] at hp
        obtain ⟨h1, h2⟩ := hp
        subst h1 h2
        rfl
theorem nm_58 : ∀ nm ∈ nmB, ∀ b ∈ nm, b ≠ 58 := by decide
theorem setF_nil (k : Nat) : setF k [] = none := by
  unfold setF
  split
  · rfl
  · rfl
/-- The part whose name a line begins with. -/
def hitR (l : List UInt8) : Option Nat := if (Go.Lib.cut l [58, 32]).2.2 = true then findN (Go.Lib.cut l [58, 32]).1 else none
theorem hitR_pre {l : List UInt8} {k : Nat} {nm : List UInt8} (hk : nmB[k]? = some nm) : hitR l = some k ↔ l.take (nm.length + 2) = nm ++ [58, 32] := by
  have h58 := nm_58 nm (List.mem_of_getElem? hk)
  constructor
  · intro h
    unfold hitR at h
    split at h
    · next hf =>
      have hn := findN_some h
      rw [hk] at hn
      have hnm := Option.some.inj hn
      unfold Go.Lib.cut at hf hnm
      split at hf
      · next h0 =>
        rw [if_pos h0] at hnm
        obtain ⟨i, hi⟩ : ∃ i : Nat, Go.Lib.index l [58, 32] = i := ⟨(Go.Lib.index l [58, 32]).toNat, by omega⟩
        rw [hi, Int.toNat_natCast] at hnm
        have hl := index_pre l i hi
        have hle : i ≤ l.length := by
          have := congrArg List.length hl
          simp at this
          omega
        have hnl : nm.length = i := by rw [hnm]; simp [hle]
        dsimp only at hnm
        rw [← hnm] at hl
        rw [hl, hnl]
        have : i + 2 = (nm ++ [58, 32]).length := by simp [hnl]
        rw [show nm ++ 58 :: 32 :: List.drop (i + 2) l = (nm ++ [58, 32]) ++ List.drop (i + 2) l by simp, this, List.take_left']
        rfl
      · cases hf
    · cases h
  · intro h
    have hl : l = nm ++ 58 :: 32 :: l.drop (nm.length + 2) := by
      have := List.take_append_drop (nm.length + 2) l
      rw [h] at this
      rw [← this]
      simp
    unfold hitR
    rw [hl, cut_app h58]
    exact findN_at hk
theorem lineF_hit {S : Nat → List UInt8 → Option Int} (h0 : ∀ k, S k [] = none) {l : List UInt8} : lineF S l = (hitR l).bind fun k => (S k (Go.Lib.cut l [58, 32]).2.1).map fun n => (k, n) := by
  unfold lineF hitR
  split
  · rfl
  · next hf =>
    have : (Go.Lib.cut l [58, 32]).2.1 = [] := by
      unfold Go.Lib.cut at hf ⊢
      split
      · next h0 => rw [if_pos h0] at hf; exact absurd rfl hf
      · rfl
    rw [this]
    cases findN (Go.Lib.cut l [58, 32]).1 with
    | none => rfl
    | some k => simp [h0]
theorem hitR_rest {l : List UInt8} {k : Nat} {nm : List UInt8} (hk : nmB[k]? = some nm) (h : hitR l = some k) : (Go.Lib.cut l [58, 32]).2.1 = l.drop (nm.length + 2) := by
  have h58 := nm_58 nm (List.mem_of_getElem? hk)
  have ht := (hitR_pre hk).1 h
  have hl : l = nm ++ 58 :: 32 :: l.drop (nm.length + 2) := by
    have := List.take_append_drop (nm.length + 2) l
    rw [ht] at this
    rw [← this]
    simp
  rw [hl, cut_app h58]
  dsimp only
  rw [← hl]
theorem nm_len : ∀ nm ∈ nmB, nm.length ≤ 20 := by decide
def rlineF (l : List UInt8) : Int × Int := match lineF setF l with
  | some (k, n) => ((k : Int), n)
  | none => (-1, 0)
set_option maxHeartbeats 4000000 in
theorem rline_ok (l : List UInt8) (hl : l.length ≤ 1000000) (h : Hp) : ACall PX 32 [bs l] h (fun v g => v = .tuple #[nI (rlineF l).1, nI (rlineF l).2] ∧ Ext h g) := by
  have hz := sz_mk l
  refine acall Go.Proofs.Tryd.func32 c32 (by simp [ir32]) ?_
  unfold ir32
  dsimp only
  repeat (first | refine sS ?_ | refine sE ?_ | refine w_mv rfl ?_ | refine ai_seq ?_ | refine ai_regW ?_ | refine ai_block ?_)
  refine ai_loopE (γ := Nat) (fun k => [(0, bs l), (4, nI k)]) (fun k g => Ext h g ∧ k ≤ 20 ∧ ∀ j, j < k → hitR l = some j → setF j (Go.Lib.cut l [58, 32]).2.1 = none) (fun k => 20 - k) 0
    (by repeat (first | exact le_nil | refine le_consF rfl ?_)) ⟨Ext.refl _, Nat.zero_le _, fun j hj => absurd hj (Nat.not_lt_zero _)⟩ ?_
  rintro k g ⟨x, hk, hno⟩
  repeat (first | refine sS ?_ | refine w_mv rfl ?_ | refine ai_seq ?_ | refine ai_regW ?_)
  refine w_call rfl ((names_ok _).mono ?_)
  rintro _ g1 ⟨rfl, x1, k1, n1⟩
  by_cases hk20 : k < 20
  · obtain ⟨nm, hnm⟩ : ∃ nm, nmB[k]? = some nm := ⟨_, List.getElem?_eq_getElem (show k < nmB.length from hk20)⟩
    have hnl := nm_len nm (List.mem_of_getElem? hnm)
    repeat (first | refine sS ?_ | refine sE ?_ | (refine is_okn rfl ?_; refine w_op rfl ?_) | (refine w_cmp (c2 := true) rfl ?_ ?_; focus (first | exact decide_eq_true (by omega) | (simp; done) | (simp; omega))) | refine ai_seq ?_ | refine ai_regW ?_ | refine ai_condF (b := true) rfl (fun _ => ?_) (fun hb => by cases hb) | refine ai_skip ?_ | refine ai_block ?_)
    refine w_call rfl ((names_ok _).mono ?_)
    rintro _ g2 ⟨rfl, x2, k2, n2⟩
    have hrd := rd_row k2 (x := k) (v := bsV nm) (by rw [List.getElem?_map, hnm]; rfl)
    repeat (first | refine sS ?_ | refine w_mv rfl ?_ | (refine is_ld ?_; refine w_ld rfl (by first | exact rd_g ‹_› rfl | exact rd_new rfl | assumption) ?_) | (refine w_iad rfl ?_ ?_; focus (first | omega | (simp; done) | (simp; omega))))
    refine w_catB (a := nm) (b := [58, 32]) rfl (by simp; omega) ?_
    have hz2 := sz_mk (nm ++ [58, 32])
    rw [List.length_append] at hz2
    have hz3 : ((ByteArray.mk (nm ++ [58, 32]).toArray).size : Int) = ((nm.length + 2 : Nat) : Int) := by rw [hz2]; rfl
    have hx := (x.trans x1).trans x2
    by_cases hlt : l.length < nm.length + 2
    · have hne : hitR l ≠ some k := fun e => by
        have := congrArg List.length ((hitR_pre hnm).1 e)
        simp at this
        omega
      repeat (first | refine sS ?_ | refine sE ?_ | refine w_mv rfl ?_ | refine w_pickT rfl ?_ | (refine is_okn rfl ?_; refine w_op rfl ?_) | refine w_gF rfl rfl ?_ | (refine w_add rfl ?_ ?_; (focus omega)) | (refine w_cmp (c2 := true) rfl ?_ ?_; focus (first | exact decide_eq_true (by omega) | (simp; done) | (simp; omega))) | refine ai_seq ?_ | refine ai_regW ?_ | refine ai_condF (b := true) rfl (fun _ => ?_) (fun hb => by cases hb) | refine ai_exit ?_)
      exact ⟨k + 1, (by repeat (first | exact le_nil | refine le_consF rfl ?_)), ⟨hx, by omega, fun j hj hh => by
        by_cases hjk : j < k
        · exact hno j hjk hh
        · obtain rfl : j = k := by omega
          exact absurd hh hne⟩, by dsimp only; omega⟩
    · repeat (first | refine sS ?_ | refine sE ?_ | refine w_mv rfl ?_ | (refine is_okn rfl ?_; refine w_op rfl ?_) | refine w_gT rfl rfl ?_ | (refine w_cmp (c2 := false) rfl ?_ ?_; focus (first | exact decide_eq_false (by omega) | (simp; done) | (simp; omega))) | refine ai_seq ?_ | refine ai_regW ?_)
      rw [hz3]
      refine w_slsP rfl (by omega) ?_
      repeat (first | refine sS ?_ | refine w_mv rfl ?_ | refine w_gT rfl rfl ?_)
      refine w_neB (a := l.take (nm.length + 2)) (b := nm ++ [58, 32]) rfl ?_
      by_cases heq : l.take (nm.length + 2) = nm ++ [58, 32]
      · have hit := (hitR_pre hnm).2 heq
        have hrest := hitR_rest hnm hit
        rw [show (!(l.take (nm.length + 2) == nm ++ [58, 32])) = false by simpa using heq]
        have hdl : (l.drop (nm.length + 2)).length ≤ 1000000 := by rw [List.length_drop]; omega
        have hval : ∀ q, setF k (l.drop (nm.length + 2)) = q → rlineF l = match q with | some n => ((k : Int), n) | none => (-1, 0) := by
          rintro q rfl
          unfold rlineF
          rw [lineF_hit setF_nil, hit]
          simp only [Option.bind_some, hrest]
          cases setF k (l.drop (nm.length + 2)) <;> rfl
        repeat (first | refine sS ?_ | refine sE ?_ | refine w_mv rfl ?_ | refine w_pickF rfl ?_ | (refine w_call rfl ((thin_ok _ k).mono ?_); rintro _ _ ⟨rfl, rfl⟩) | refine ai_seq ?_ | refine ai_regW ?_ | refine ai_condF (b := false) rfl (fun hb => by cases hb) (fun _ => ?_) | refine ai_skip ?_)
        unfold setF at hval
        cases ht : thinK k
        · rw [ht] at hval
          repeat (first | refine sS ?_ | refine w_mv rfl ?_ | (refine is_okn rfl ?_; refine w_op rfl ?_) | refine ai_seq ?_ | refine ai_regW ?_ | refine ai_condF (b := false) rfl (fun hb => by cases hb) (fun _ => ?_) | refine ai_skip ?_)
          rw [hz3]
          refine w_slsS rfl (by omega) ?_
          generalize hrr : l.drop (nm.length + 2) = rr at hval hdl hrest ⊢
          repeat (first | refine sS ?_ | refine sE ?_ | refine w_mv rfl ?_ | (refine w_call rfl ((rdigits_ok rr 6 (by decide) hdl _).mono ?_); rintro _ _ ⟨rfl, rfl⟩) | refine ai_seq ?_ | refine ai_regW ?_)
          cases hd : digF rr 6 with
          | none =>
            repeat (first | refine sS ?_ | refine sE ?_ | refine w_mv rfl ?_ | (refine w_add rfl ?_ ?_; (focus omega)) | (refine w_cmp (c2 := false) rfl ?_ ?_; focus (first | exact decide_eq_false (by omega) | (simp; done) | (simp; omega))) | refine ai_regW ?_ | refine ai_condF (b := false) rfl (fun hb => by cases hb) (fun _ => ?_) | refine ai_skip ?_)
            exact ⟨k + 1, (by repeat (first | exact le_nil | refine le_consF rfl ?_)), ⟨hx, by omega, fun j hj hh => by
              by_cases hjk : j < k
              · exact hno j hjk hh
              · obtain rfl : j = k := by omega
                rw [hrest]
                unfold setF
                rw [ht, hd]
                rfl⟩, by dsimp only; omega⟩
          | some n =>
            have hv := hval (some (n : Int)) (by rw [hd]; rfl)
            dsimp only at hv
            repeat (first | refine sS ?_ | refine sE ?_ | refine w_mv rfl ?_ | (refine w_cmp (c2 := true) rfl ?_ ?_; focus (first | exact decide_eq_true (by omega) | (simp; done) | (simp; omega))) | refine ai_seq ?_ | refine ai_regW ?_ | refine ai_condF (b := true) rfl (fun _ => ?_) (fun hb => by cases hb) | (refine ai_ret ?_; repeat (first | rw [thenQ_r] | rw [blockQ_r] | rw [roundE_r])))
            exact ⟨_, rfl, by rw [hv]; rfl, hx⟩
        · rw [ht] at hval
          repeat (first | refine sS ?_ | refine w_mv rfl ?_ | (refine is_okn rfl ?_; refine w_op rfl ?_) | refine ai_seq ?_ | refine ai_regW ?_ | refine ai_condF (b := true) rfl (fun _ => ?_) (fun hb => by cases hb))
          rw [hz3]
          refine w_slsS rfl (by omega) ?_
          generalize hrr : l.drop (nm.length + 2) = rr at hval hdl hrest ⊢
          repeat (first | refine sS ?_ | refine sE ?_ | refine w_mv rfl ?_ | refine w_ext rfl rfl ?_ | (refine w_call rfl ((rnumber_ok rr hdl _).mono ?_); rintro _ _ ⟨rfl, rfl⟩) | refine ai_seq ?_ | refine ai_regW ?_)
          cases hd : numF rr with
          | none =>
            have hv := hval none (by rw [hd]; rfl)
            dsimp only at hv
            repeat (first | refine sS ?_ | refine sE ?_ | refine w_mv rfl ?_ | refine ai_seq ?_ | refine ai_regW ?_ | refine ai_condF (b := false) rfl (fun hb => by cases hb) (fun _ => ?_) | refine ai_skip ?_ | (refine ai_ret ?_; repeat (first | rw [thenQ_r] | rw [blockQ_r] | rw [roundE_r])))
            exact ⟨_, rfl, by rw [hv]; rfl, hx⟩
          | some n =>
            have hv := hval (some n) (by rw [hd]; rfl)
            dsimp only at hv
            repeat (first | refine sS ?_ | refine sE ?_ | refine w_mv rfl ?_ | refine ai_seq ?_ | refine ai_regW ?_ | refine ai_condF (b := true) rfl (fun _ => ?_) (fun hb => by cases hb) | (refine ai_ret ?_; repeat (first | rw [thenQ_r] | rw [blockQ_r] | rw [roundE_r])))
            exact ⟨_, rfl, by rw [hv]; rfl, hx⟩
      · have hne : hitR l ≠ some k := fun e => heq ((hitR_pre hnm).1 e)
        rw [show (!(l.take (nm.length + 2) == nm ++ [58, 32])) = true by simpa using heq]
        repeat (first | refine sS ?_ | refine sE ?_ | refine w_mv rfl ?_ | refine w_pickF rfl ?_ | (refine w_add rfl ?_ ?_; (focus omega)) | refine ai_regW ?_ | refine ai_condF (b := true) rfl (fun _ => ?_) (fun hb => by cases hb) | refine ai_exit ?_)
        exact ⟨k + 1, (by repeat (first | exact le_nil | refine le_consF rfl ?_)), ⟨hx, by omega, fun j hj hh => by
          by_cases hjk : j < k
          · exact hno j hjk hh
          · obtain rfl : j = k := by omega
            exact absurd hh hne⟩, by dsimp only; omega⟩
  · obtain rfl : k = 20 := by omega
    have hv : rlineF l = (-1, 0) := by
      unfold rlineF
      rw [lineF_hit setF_nil]
      cases hh : hitR l with
      | none => rfl
      | some j =>
        have hj : j < 20 := by
          unfold hitR at hh
          split at hh
          · exact findN_lt hh
          · cases hh
        simp only [Option.bind_some, hno j hj hh, Option.map_none]
    repeat (first | refine sS ?_ | refine sE ?_ | refine w_mv rfl ?_ | (refine is_okn rfl ?_; refine w_op rfl ?_) | (refine w_cmp (c2 := false) rfl ?_ ?_; focus (first | exact decide_eq_false (by omega) | (simp; done) | (simp; omega))) | refine ai_seq ?_ | refine ai_regW ?_ | refine ai_condF (b := false) rfl (fun hb => by cases hb) (fun _ => ?_) | refine ai_exit ?_ | (refine ai_ret ?_; repeat (first | rw [thenQ_r] | rw [blockQ_r] | rw [roundE_r])))
    exact ⟨_, rfl, by rw [hv]; rfl, x.trans x1⟩
end Go.Proofs.YtapbmmlgmcmpnaaDoorW.Am
/- Texts: the document's own Parse. -/
namespace Go.Proofs.YtapbmmlgmcmpnaaDoorW.Am
open Go Go.RowKit
theorem lines_no : ∀ (l : List UInt8), (∀ q : Nat, l[q]? ≠ some 10) → linesL l = [l]
  | [], _ => rfl
  | b :: l, h => by
    have hb : b ≠ 10 := fun e => h 0 (by simp [e])
    have ih := lines_no l (fun q => by have := h (q + 1); simpa using this)
    simp [linesL, hb, ih, consH]
theorem lines_at : ∀ (l : List UInt8) (p : Nat), l[p]? = some 10 → (∀ q, q < p → l[q]? ≠ some 10) → linesL l = l.take p :: linesL (l.drop (p + 1))
  | [], p, h, _ => by simp at h
  | b :: l, 0, h, _ => by
    have hb : b = 10 := by simpa using h
    simp [linesL, hb]
  | b :: l, p + 1, h, hn => by
    have hb : b ≠ 10 := fun e => hn 0 (by omega) (by simp [e])
    have ih := lines_at l p (by simpa using h) (fun q hq => by have := hn (q + 1) (by omega); simpa using this)
    simp [linesL, hb, ih, consH]
theorem trimR_rep (l : List UInt8) (c : UInt8) : ∀ n, Go.Lib.trimRightB (l ++ List.replicate n c) c = Go.Lib.trimRightB l c
  | 0 => by simp
  | n + 1 => by rw [List.replicate_succ', ← List.append_assoc, trimR_zero, trimR_rep l c n]
theorem dw_rep (c : UInt8) (l : List UInt8) : ∀ n, (List.replicate n c ++ l).dropWhile (· == c) = l.dropWhile (· == c)
  | 0 => by simp
  | n + 1 => by rw [List.replicate_succ, List.cons_append, List.dropWhile_cons]; simp [dw_rep c l n]
theorem all_rep {s : List UInt8} {c : UInt8} {a b : Nat} (hab : a ≤ b) (_ : b ≤ s.length) (h : ∀ q, a ≤ q → q < b → s[q]? = some c) : (s.take b).drop a = List.replicate (b - a) c := by
  refine List.ext_getElem? fun i => ?_
  rw [List.getElem?_drop, List.getElem?_take, List.getElem?_replicate]
  by_cases hi : a + i < b
  · rw [if_pos hi, if_pos (by omega), h _ (by omega) hi]
  · rw [if_neg hi, if_neg (by omega)]
theorem cut3 (s : List UInt8) {f a b i : Nat} (h1 : f ≤ a) (h2 : a ≤ b) (h3 : b ≤ i) (h4 : i ≤ s.length) : (s.take i).drop f = (s.take a).drop f ++ ((s.take b).drop a ++ (s.take i).drop b) := by
  refine List.ext_getElem? fun j => ?_
  have l1 : ((s.take a).drop f).length = a - f := by simp; omega
  have l2 : ((s.take b).drop a).length = b - a := by simp; omega
  rw [List.getElem?_append, List.getElem?_append]
  simp only [l1, l2, List.getElem?_drop, List.getElem?_take]
  by_cases c1 : j < a - f
  · rw [if_pos c1, if_pos (by omega), if_pos (by omega)]
  · rw [if_neg c1]
    by_cases c2 : j - (a - f) < b - a
    · rw [if_pos c2, if_pos (by omega), if_pos (by omega)]
      congr 1; omega
    · rw [if_neg c2]
      by_cases c3 : f + j < i
      · rw [if_pos c3, if_pos (by omega)]
        congr 1; omega
      · rw [if_neg c3, if_neg (by omega)]
theorem trim_abs {s : List UInt8} {f a b i : Nat} (h1 : f ≤ a) (h2 : a ≤ b) (h3 : b ≤ i) (h4 : i ≤ s.length) (hA : ∀ q, f ≤ q → q < a → s[q]? = some 32) (hB : ∀ q, b ≤ q → q < i → s[q]? = some 32)
    (hC : a < b → s[a]? ≠ some 32 ∧ s[b - 1]? ≠ some 32) : Go.Lib.trimB ((s.take i).drop f) 32 = (s.take b).drop a := by
  rw [cut3 s h1 h2 h3 h4, all_rep h1 (by omega) hA, all_rep h3 h4 hB]
  unfold Go.Lib.trimB Go.Lib.trimLeftB
  rw [← List.append_assoc, trimR_rep]
  by_cases hab : a < b
  · obtain ⟨c1, c2⟩ := hC hab
    have hl : (s.take b).drop a = (s.take (b - 1)).drop a ++ [s[b - 1]'(by omega)] := by
      refine List.ext_getElem? fun j => ?_
      have l1 : ((s.take (b - 1)).drop a).length = b - 1 - a := by simp; omega
      rw [List.getElem?_append]
      simp only [l1, List.getElem?_drop, List.getElem?_take]
      by_cases c1 : j < b - 1 - a
      · rw [if_pos c1, if_pos (by omega), if_pos (by omega)]
      · rw [if_neg c1]
        by_cases c2 : a + j < b
        · obtain rfl : j = b - 1 - a := by omega
          rw [if_pos c2, Nat.sub_self, show a + (b - 1 - a) = b - 1 by omega, List.getElem?_eq_getElem (show b - 1 < s.length by omega)]
          rfl
        · rw [if_neg c2, List.getElem?_eq_none_iff.2 (by simp; omega)]
    have hne : s[b - 1]'(by omega) ≠ 32 := fun e => c2 (by rw [List.getElem?_eq_getElem (show b - 1 < s.length by omega), e])
    rw [hl, ← List.append_assoc, trimR_other _ hne, List.append_assoc, ← hl, dw_rep]
    have hh : (s.take b).drop a = s[a]'(by omega) :: (s.take b).drop (a + 1) := by
      have : a < (s.take b).length := by simp; omega
      rw [List.drop_eq_getElem_cons this]
      simp
    have hne2 : s[a]'(by omega) ≠ 32 := fun e => c1 (by rw [List.getElem?_eq_getElem (show a < s.length by omega), e])
    rw [hh, List.dropWhile_cons]
    simp [hne2]
  · obtain rfl : a = b := by omega
    have he : (s.take a).drop a = [] := by simp
    rw [he, List.append_nil]
    have := trimR_rep [] 32 (a - f)
    rw [List.nil_append] at this
    rw [this]
    rfl
def joinQ {γ : Type} (L : γ → Env) (H : γ → Hp → Prop) (Q : Exit → Env → Hp → Prop) : Exit → Env → Hp → Prop
  | .normal, env, h => ∃ g, EnvLe (L g) env ∧ H g h
  | e, env, h => Q e env h
theorem ai_joinE {P : Program} {env : Env} {h : Hp} {n : Nat} {x y : IC} {Q : Exit → Env → Hp → Prop} {γ : Type} (L : γ → Env) (H : γ → Hp → Prop) (h1 : AI P n x env h (joinQ L H Q)) (h2 : ∀ g h', H g h' → AI P n y (L g) h' Q) : AI P n (.seq x y) env h Q := by
  refine ai_seq (h1.mono ?_)
  intro e env' h' q
  cases e with
  | normal => obtain ⟨g, hl, hH⟩ := q; exact AI.weak hl (h2 g h' hH)
  | _ => exact q
/-- Which parts were set, as cells. -/
def wasC (ws : List Nat) : List Value := (List.range 20).map fun k => .bool (ws.contains k)
theorem wasC_set {ws : List Nat} {k : Nat} : (wasC ws).set k (.bool true) = wasC (ws ++ [k]) := by
  refine List.ext_getElem? fun j => ?_
  have hl : (wasC ws).length = 20 := by simp [wasC]
  rw [List.getElem?_set]
  by_cases hjk : k = j
  · subst hjk
    rw [if_pos rfl, hl]
    by_cases hk : k < 20
    · rw [if_pos hk]
      simp [wasC, hk]
    · rw [if_neg hk, List.getElem?_eq_none_iff.2 (by simp [wasC]; omega)]
  · rw [if_neg hjk]
    by_cases hj : j < 20
    · have hc : (ws ++ [k]).contains j = ws.contains j := by
        rw [Bool.eq_iff_iff]
        simp only [List.contains_iff_mem, List.mem_append, List.mem_singleton]
        constructor
        · rintro (h | h)
          · exact h
          · exact absurd h.symm hjk
        · exact .inl
      simp only [wasC, List.getElem?_map, List.getElem?_range hj, Option.map_some, hc]
    · rw [List.getElem?_eq_none_iff.2 (by simp [wasC]; omega), List.getElem?_eq_none_iff.2 (by simp [wasC]; omega)]
theorem wasC_at {ws : List Nat} {k : Nat} (hk : k < 20) : (wasC ws)[k]? = some (.bool (ws.contains k)) := by simp [wasC, hk]
section
variable {P : Program} {CT : FuncId → List Value → Hp → (Value → Hp → Prop) → Prop} {d : Option Nat} {xs : List Operand} {env : Env} {h : Hp} {R : Value → Hp → Prop}
theorem w_slsB {l : List UInt8} {a b : Nat} (e : mapF env xs = some [bs l, .int .i64 (a : Int), .int .i64 (b : Int)]) (hab : a ≤ b) (hb : b ≤ l.length) (n : R (bs ((l.take b).drop a)) h) : WI P CT ⟨d, none, .op (.sls true true) xs⟩ env h R := by
  refine w_op (v := bs ((l.take b).drop a)) (h' := h) ?_ n
  have hz := sz_mk l
  have hbd : bounds (ByteArray.mk l.toArray).size (ByteArray.mk l.toArray).size (some (.int .i64 (a : Int))) (some (.int .i64 (b : Int))) none = some (a, b, l.length) := by
    rw [hz]
    have h1 : (0 : Int) ≤ b ∧ (b : Int) ≤ l.length := by omega
    have h2 : (0 : Int) ≤ a ∧ (a : Int) ≤ b := by omega
    simp [bounds, bnd, h1, h2]
  unfold opF
  rw [e]
  show (bounds (ByteArray.mk l.toArray).size (ByteArray.mk l.toArray).size (some (.int .i64 (a : Int))) (some (.int .i64 (b : Int))) none).map (fun b => (Value.string ((ByteArray.mk l.toArray).extract b.1 b.2.1), h)) = _
  rw [hbd, Option.map_some, ex_mk]
  rfl
end
end Go.Proofs.YtapbmmlgmcmpnaaDoorW.Am
/- Texts: the document's own Parse walked. -/
namespace Go.Proofs.YtapbmmlgmcmpnaaDoorW.Am
open Go Go.RowKit
theorem lineF_lt {S : Nat → List UInt8 → Option Int} {l : List UInt8} {k : Nat} {n : Int} (h : lineF S l = some (k, n)) : k < 20 := by
  unfold lineF at h
  cases hf : findN (Go.Lib.cut l [58, 32]).1 with
  | none => rw [hf] at h; cases h
  | some j =>
    rw [hf] at h
    simp only [Option.bind_some, Option.map_eq_some_iff] at h
    obtain ⟨_, _, e⟩ := h
    cases e
    exact findN_lt hf
theorem made20 : (madeCells #[Value.bool false] (((20 : Nat) : Int).toNat * 1)).toList = wasC [] := by
  simp [madeCells, wasC, Nat.mod_one]
set_option maxRecDepth 10000 in
set_option maxHeartbeats 8000000 in
theorem rparse_ok (c : Cf20) (s : List UInt8) (hs : s.length ≤ 1000000) (h : Hp) : ACall PX 14 [.agg ⟨cs20 c⟩, bs s] h (fun v g => v = .tuple #[.agg ⟨cs20 (parseF setF c s).1⟩, nI (parseF setF c s).2.1, nI (parseF setF c s).2.2] ∧ Ext h g) := by
  obtain ⟨R0, hR0⟩ : ∃ r, parseF setF c s = r := ⟨_, rfl⟩
  rw [hR0]
  unfold parseF at hR0
  obtain ⟨P0, hP0⟩ : ∃ p, parseL setF (linesL s) 0 (vl c) [] = p := ⟨_, rfl⟩
  rw [hP0] at hR0
  have hz := sz_mk s
  refine acall Go.Proofs.Tryd.func14 c14 (by simp [ir14]) ?_
  unfold ir14
  dsimp only
  refine ai_seq (ai_regW (sS (w_box rfl fun g1 x1 k1 n1 => sS (w_new fun g2 x2 k2 n2 => ?_))))
  have q1 := (x2.2 _ n1).trans k1
  repeat (first | refine sS ?_ | refine sE ?_ | refine w_mv rfl ?_ | (refine is_ldn ?_; refine w_ldn rfl (by first | exact rd_all ‹_› rfl | exact rd_newn rfl | assumption) ?_) | refine ai_seq ?_ | refine ai_regW ?_)
  refine w_call rfl ((values_ok _ c).mono ?_)
  rintro _ g3 ⟨rfl, x3, k3, n3⟩
  have q13 := (x3.2 _ (Nat.lt_of_lt_of_le n1 x2.1)).trans q1
  have q23 := (x3.2 _ n2).trans k2
  repeat (first | refine sS ?_ | refine sE ?_ | refine w_mv rfl ?_ | (refine is_okn rfl ?_; refine w_op rfl ?_) | refine ai_seq ?_ | refine ai_regW ?_ | refine ai_block ?_)
  rw [made20]
  have x4 : Ext g3 (g3.new ⟨wasC [], true, 1⟩) := Ext.new _ _
  have k4 : (g3.new ⟨wasC [], true, 1⟩).get g3.nx = some ⟨wasC [], true, 1⟩ := new_get _ _
  have n4 : g3.nx < (g3.new ⟨wasC [], true, 1⟩).nx := by simp [Hp.new]
  generalize g3.new ⟨wasC [], true, 1⟩ = g4 at x4 k4 n4 ⊢
  have o1 : h.nx < g1.nx := n1
  have o2 : g1.nx < g2.nx := n2
  have o3 := x3.1
  have q14 := (x4.2 _ (by omega)).trans q13
  have q24 := (x4.2 _ (by omega)).trans q23
  have k34 := (x4.2 _ n3).trans k3
  have x04 : Ext h g4 := ((x1.trans x2).trans x3).trans x4
  clear k1 k2 k3 q1 q13 q23 x1 x2 x3 x4
  refine ai_loopE (γ := Nat × Nat × Nat × List (List UInt8) × List Int × List Nat) (fun e => [(1, bs s), (2, .pointer (some ⟨h.nx, 0, none⟩)), (4, .pointer (some ⟨g1.nx, 0, none⟩)), (7, .slice (some ⟨g2.nx + 1, 0, none⟩) 20 20), (8, .slice (some ⟨g3.nx, 0, none⟩) 20 20), (9, nI e.2.1), (10, nI e.2.2.1), (11, nI e.1)])
    (fun e g => Md2 (g2.nx + 1) g3.nx g4 g ∧ g.get (g2.nx + 1) = some ⟨e.2.2.2.2.1.map nI, true, 1⟩ ∧ g.get g3.nx = some ⟨wasC e.2.2.2.2.2, true, 1⟩ ∧ e.1 ≤ s.length + 1 ∧ e.2.2.1 ≤ e.1 ∧ (e.1 ≤ s.length → e.2.1 ≤ e.1 ∧ e.2.2.2.1 = linesL (s.drop e.2.1) ∧ ∀ q, e.2.1 ≤ q → q < e.1 → s[q]? ≠ some 10) ∧ (e.1 = s.length + 1 → e.2.2.2.1 = []) ∧ e.2.2.2.2.1.length = 20 ∧ parseL setF e.2.2.2.1 e.2.2.1 e.2.2.2.2.1 e.2.2.2.2.2 = P0) (fun e => s.length + 1 - e.1) (0, 0, 0, linesL s, vl c, [])
    (by repeat (first | exact le_nil | refine le_consF rfl ?_)) ⟨Md2.refl _ _ _, k34, k4, Nat.zero_le _, Nat.le_refl _, fun _ => ⟨Nat.le_refl _, rfl, fun q _ hq => absurd hq (Nat.not_lt_zero _)⟩, fun e => absurd e (by omega), rfl, hP0⟩ ?_
  clear k34 k4 hP0
  rintro ⟨i, f, n, R, v, was⟩ g ⟨md, kv, kw, hi, hni, hle, hend, hv, hp⟩
  dsimp only at kv kw hi hni hle hend hv hp ⊢
  have hmn := md.1
  have r1 := (md.2 h.nx (by omega) (by omega) (by omega)).trans q14
  have r2 := (md.2 g1.nx (by omega) (by omega) (by omega)).trans q24
  by_cases hil : i ≤ s.length
  · obtain ⟨hfi, rfl, hno⟩ := hle hil
    refine ai_seq ?_
    refine ai_seq ?_
    repeat (first | refine sS ?_ | refine sE ?_ | refine w_mv rfl ?_ | (refine is_okn rfl ?_; refine w_op rfl ?_) | (refine w_cmp (c2 := true) rfl ?_ ?_; focus (first | exact decide_eq_true (by omega) | (simp; done) | (simp; omega))) | refine ai_regW ?_ | refine ai_condF (b := true) rfl (fun _ => ?_) (fun hb => by cases hb) | refine ai_skip ?_)
    refine ai_seq ?_
    repeat (first | refine ai_block ?_)
    refine ai_joinE (γ := Unit) (fun _ => [(1, bs s), (2, .pointer (some ⟨h.nx, 0, none⟩)), (4, .pointer (some ⟨g1.nx, 0, none⟩)), (7, .slice (some ⟨g2.nx + 1, 0, none⟩) 20 20), (8, .slice (some ⟨g3.nx, 0, none⟩) 20 20), (9, nI f), (10, nI n), (11, nI i)]) (fun _ g' => g = g' ∧ (i < s.length → s[i]? = some 10)) ?_ ?_
    · by_cases hlt : i < s.length
      · obtain ⟨b, hb⟩ := getD_lt hlt
        repeat (first | refine sS ?_ | refine w_mv rfl ?_ | (refine is_okn rfl ?_; refine w_op rfl ?_) | refine w_gT rfl rfl ?_ | (refine w_cmp (c2 := true) rfl ?_ ?_; focus (first | exact decide_eq_true (by omega) | (simp; done) | (simp; omega))) | refine ai_seq ?_ | refine ai_regW ?_)
        refine w_ixs rfl hb ?_
        repeat (first | refine sS ?_ | refine w_gT rfl rfl ?_)
        refine w_cmp (c2 := !(b == 10)) rfl (by rw [← u8_eq b 10]; rfl) ?_
        by_cases hb10 : b = 10
        · subst hb10
          repeat (first | refine sS ?_ | refine sE ?_ | refine w_pickT rfl ?_ | refine ai_condF (b := false) rfl (fun hb => by cases hb) (fun _ => ?_) | refine ai_skip ?_)
          exact ⟨(), (by repeat (first | exact le_nil | refine le_consF rfl ?_)), rfl, fun _ => hb⟩
        · rw [show (!(b == 10)) = true by simpa using hb10]
          repeat (first | refine sS ?_ | refine sE ?_ | refine w_mv rfl ?_ | refine w_pickT rfl ?_ | (refine w_add rfl ?_ ?_; (focus omega)) | refine ai_regW ?_ | refine ai_condF (b := true) rfl (fun _ => ?_) (fun hb => by cases hb) | refine ai_exit ?_)
          refine ⟨(i + 1, f, n, _, v, was), (by repeat (first | exact le_nil | refine le_consF rfl ?_)), ⟨md, kv, kw, by dsimp only; omega, by dsimp only; omega, fun _ => ⟨by dsimp only; omega, rfl, fun q h1 h2 => ?_⟩, fun e => absurd e (by dsimp only; omega), hv, hp⟩, by dsimp only; omega⟩
          by_cases hqi : q < i
          · exact hno q h1 hqi
          · obtain rfl : q = i := by dsimp only at h2; omega
            rw [hb]
            exact fun e => hb10 (Option.some.inj e)
      · repeat (first | refine sS ?_ | refine sE ?_ | refine w_mv rfl ?_ | refine w_pickF rfl ?_ | (refine is_okn rfl ?_; refine w_op rfl ?_) | refine w_gF rfl rfl ?_ | (refine w_cmp (c2 := false) rfl ?_ ?_; focus (first | exact decide_eq_false (by omega) | (simp; done) | (simp; omega))) | refine ai_seq ?_ | refine ai_regW ?_ | refine ai_condF (b := false) rfl (fun hb => by cases hb) (fun _ => ?_) | refine ai_skip ?_)
        exact ⟨(), (by repeat (first | exact le_nil | refine le_consF rfl ?_)), rfl, fun e => absurd e hlt⟩
    rintro _ _ ⟨rfl, h10⟩
    obtain ⟨R', hR', hRi, hRe⟩ : ∃ R', linesL (s.drop f) = ((s.take i).drop f) :: R' ∧ (i < s.length → R' = linesL (s.drop (i + 1))) ∧ (i = s.length → R' = []) := by
      by_cases hlt : i < s.length
      · refine ⟨linesL (s.drop (i + 1)), ?_, fun _ => rfl, fun e => absurd e (by omega)⟩
        have := lines_at (s.drop f) (i - f) (by rw [List.getElem?_drop, show f + (i - f) = i by omega]; exact h10 hlt) (fun q hq => by rw [List.getElem?_drop]; exact hno _ (by omega) (by omega))
        rw [this, List.drop_take, List.drop_drop, show f + (i - f + 1) = i + 1 by omega]
      · obtain rfl : i = s.length := by omega
        refine ⟨[], ?_, fun e => absurd e hlt, fun _ => rfl⟩
        rw [lines_no (s.drop f) (fun q => by
          rw [List.getElem?_drop]
          intro e
          have hq := (List.getElem?_eq_some_iff.1 e).1
          exact hno _ (by omega) hq e), List.take_length]
    have fin : i + 1 ≤ s.length + 1 ∧ n + 1 ≤ i + 1 ∧ (i + 1 ≤ s.length → i + 1 ≤ i + 1 ∧ R' = linesL (s.drop (i + 1)) ∧ ∀ q, i + 1 ≤ q → q < i + 1 → s[q]? ≠ some 10) ∧ (i + 1 = s.length + 1 → R' = []) :=
      ⟨by omega, by omega, fun hh => ⟨Nat.le_refl _, hRi (by omega), fun q h1 h2 => absurd h1 (by omega)⟩, fun e => hRe (by omega)⟩
    rw [hR'] at hp
    simp only [parseL] at hp
    refine ai_seq ?_
    repeat (first | refine sS ?_ | refine sE ?_ | refine w_mv rfl ?_ | (refine w_add rfl ?_ ?_; (focus omega)) | refine ai_regW ?_)
    refine ai_seq ?_
    repeat (first | refine sS ?_ | refine sE ?_ | refine w_mv rfl ?_ | refine ai_regW ?_)
    refine ai_join (γ := Nat) (fun a => [(1, bs s), (2, .pointer (some ⟨h.nx, 0, none⟩)), (4, .pointer (some ⟨g1.nx, 0, none⟩)), (7, .slice (some ⟨g2.nx + 1, 0, none⟩) 20 20), (8, .slice (some ⟨g3.nx, 0, none⟩) 20 20), (9, nI f), (10, nI (n + 1 : Nat)), (11, nI i), (12, nI a), (13, nI i)]) (fun a g' => g = g' ∧ f ≤ a ∧ a ≤ i ∧ (∀ q, f ≤ q → q < a → s[q]? = some 32) ∧ (a < i → s[a]? ≠ some 32)) ?_ ?_
    · repeat (first | refine ai_block ?_)
      refine ai_loopE (γ := Nat) (fun a => [(1, bs s), (2, .pointer (some ⟨h.nx, 0, none⟩)), (4, .pointer (some ⟨g1.nx, 0, none⟩)), (7, .slice (some ⟨g2.nx + 1, 0, none⟩) 20 20), (8, .slice (some ⟨g3.nx, 0, none⟩) 20 20), (9, nI f), (10, nI (n + 1 : Nat)), (11, nI i), (12, nI a), (13, nI i)]) (fun a g' => g = g' ∧ f ≤ a ∧ a ≤ i ∧ (∀ q, f ≤ q → q < a → s[q]? = some 32)) (fun a => i - a) f
        (by repeat (first | exact le_nil | refine le_consF rfl ?_)) ⟨rfl, Nat.le_refl _, hfi, fun q h1 h2 => absurd h1 (by omega)⟩ ?_
      rintro a _ ⟨rfl, ha1, ha2, ha3⟩
      by_cases hai : a < i
      · obtain ⟨b, hb⟩ := getD_lt (show a < s.length by omega)
        repeat (first | refine sS ?_ | refine w_mv rfl ?_ | refine w_gT rfl rfl ?_ | (refine w_cmp (c2 := true) rfl ?_ ?_; focus (first | exact decide_eq_true (by omega) | (simp; done) | (simp; omega))) | refine ai_seq ?_ | refine ai_regW ?_)
        refine w_ixs rfl hb ?_
        repeat (first | refine sS ?_ | refine w_gT rfl rfl ?_)
        refine w_cmp (c2 := (b == 32)) rfl (u8_eq b 32) ?_
        by_cases hb32 : b = 32
        · subst hb32
          repeat (first | refine sS ?_ | refine sE ?_ | refine w_mv rfl ?_ | refine w_pickT rfl ?_ | (refine w_add rfl ?_ ?_; (focus omega)) | refine ai_regW ?_ | refine ai_condF (b := true) rfl (fun _ => ?_) (fun hb => by cases hb) | refine ai_skip ?_ | refine ai_block ?_)
          refine ⟨a + 1, (by repeat (first | exact le_nil | refine le_consF rfl ?_)), ⟨rfl, by omega, by omega, fun q h1 h2 => ?_⟩, by dsimp only; omega⟩
          by_cases hq : q < a
          · exact ha3 q h1 hq
          · obtain rfl : q = a := by omega
            exact hb
        · rw [show (b == 32) = false by simpa using hb32]
          repeat (first | refine sS ?_ | refine sE ?_ | refine w_pickT rfl ?_ | refine ai_condF (b := false) rfl (fun hb => by cases hb) (fun _ => ?_) | refine ai_exit ?_)
          exact ⟨rfl, a, (by repeat (first | exact le_nil | refine le_consF rfl ?_)), rfl, ha1, ha2, ha3, fun _ => by rw [hb]; exact fun e => hb32 (Option.some.inj e)⟩
      · repeat (first | refine sS ?_ | refine sE ?_ | refine w_mv rfl ?_ | refine w_pickF rfl ?_ | refine w_gF rfl rfl ?_ | (refine w_cmp (c2 := false) rfl ?_ ?_; focus (first | exact decide_eq_false (by omega) | (simp; done) | (simp; omega))) | refine ai_seq ?_ | refine ai_regW ?_ | refine ai_condF (b := false) rfl (fun hb => by cases hb) (fun _ => ?_) | refine ai_exit ?_)
        exact ⟨rfl, a, (by repeat (first | exact le_nil | refine le_consF rfl ?_)), rfl, ha1, ha2, ha3, fun e => absurd e hai⟩
    rintro a _ ⟨rfl, ha1, ha2, ha3, ha4⟩
    refine ai_join (γ := Nat) (fun b => [(1, bs s), (2, .pointer (some ⟨h.nx, 0, none⟩)), (4, .pointer (some ⟨g1.nx, 0, none⟩)), (7, .slice (some ⟨g2.nx + 1, 0, none⟩) 20 20), (8, .slice (some ⟨g3.nx, 0, none⟩) 20 20), (9, nI f), (10, nI (n + 1 : Nat)), (11, nI i), (12, nI a), (13, nI b)]) (fun b g' => g = g' ∧ a ≤ b ∧ b ≤ i ∧ (∀ q, b ≤ q → q < i → s[q]? = some 32) ∧ (a < b → s[b - 1]? ≠ some 32)) ?_ ?_
    · repeat (first | refine ai_block ?_)
      refine ai_loopE (γ := Nat) (fun b => [(1, bs s), (2, .pointer (some ⟨h.nx, 0, none⟩)), (4, .pointer (some ⟨g1.nx, 0, none⟩)), (7, .slice (some ⟨g2.nx + 1, 0, none⟩) 20 20), (8, .slice (some ⟨g3.nx, 0, none⟩) 20 20), (9, nI f), (10, nI (n + 1 : Nat)), (11, nI i), (12, nI a), (13, nI b)]) (fun b g' => g = g' ∧ a ≤ b ∧ b ≤ i ∧ (∀ q, b ≤ q → q < i → s[q]? = some 32)) (fun b => b) i
        (by repeat (first | exact le_nil | refine le_consF rfl ?_)) ⟨rfl, ha2, Nat.le_refl _, fun q h1 h2 => absurd h1 (by omega)⟩ ?_
      rintro b _ ⟨rfl, hb1, hb2, hb3⟩
      by_cases hab : a < b
      · obtain ⟨x, hx⟩ := getD_lt (show b - 1 < s.length by omega)
        repeat (first | refine sS ?_ | refine w_mv rfl ?_ | refine w_gT rfl rfl ?_ | (refine w_sub rfl ?_ ?_; (focus omega)) | (refine w_cmp (c2 := true) rfl ?_ ?_; focus (first | exact decide_eq_true (by omega) | (simp; done) | (simp; omega))) | refine ai_seq ?_ | refine ai_regW ?_)
        rw [show ((b : Int) - 1) = ((b - 1 : Nat) : Int) by omega]
        refine w_ixs rfl hx ?_
        repeat (first | refine sS ?_ | refine w_gT rfl rfl ?_)
        refine w_cmp (c2 := (x == 32)) rfl (u8_eq x 32) ?_
        by_cases hb32 : x = 32
        · subst hb32
          repeat (first | refine sS ?_ | refine sE ?_ | refine w_mv rfl ?_ | refine w_pickT rfl ?_ | (refine w_sub rfl ?_ ?_; (focus omega)) | refine ai_regW ?_ | refine ai_condF (b := true) rfl (fun _ => ?_) (fun hb => by cases hb) | refine ai_skip ?_ | refine ai_block ?_)
          rw [show ((b : Int) - 1) = ((b - 1 : Nat) : Int) by omega]
          refine ⟨b - 1, (by repeat (first | exact le_nil | refine le_consF rfl ?_)), ⟨rfl, by omega, by omega, fun q h1 h2 => ?_⟩, by dsimp only; omega⟩
          by_cases hq : b ≤ q
          · exact hb3 q hq h2
          · obtain rfl : q = b - 1 := by omega
            exact hx
        · rw [show (x == 32) = false by simpa using hb32]
          repeat (first | refine sS ?_ | refine sE ?_ | refine w_pickT rfl ?_ | refine ai_condF (b := false) rfl (fun hb => by cases hb) (fun _ => ?_) | refine ai_exit ?_)
          exact ⟨rfl, b, (by repeat (first | exact le_nil | refine le_consF rfl ?_)), rfl, hb1, hb2, hb3, fun _ => by rw [hx]; exact fun e => hb32 (Option.some.inj e)⟩
      · repeat (first | refine sS ?_ | refine sE ?_ | refine w_mv rfl ?_ | refine w_pickF rfl ?_ | refine w_gF rfl rfl ?_ | (refine w_cmp (c2 := false) rfl ?_ ?_; focus (first | exact decide_eq_false (by omega) | (simp; done) | (simp; omega))) | refine ai_seq ?_ | refine ai_regW ?_ | refine ai_condF (b := false) rfl (fun hb => by cases hb) (fun _ => ?_) | refine ai_exit ?_)
        exact ⟨rfl, b, (by repeat (first | exact le_nil | refine le_consF rfl ?_)), rfl, hb1, hb2, hb3, fun e => absurd e hab⟩
    rintro b _ ⟨rfl, hb1, hb2, hb3, hb4⟩
    rw [trim_abs ha1 hb1 hb2 hil ha3 hb3 (fun hab => ⟨ha4 (by omega), hb4 hab⟩)] at hp
    by_cases hab : a < b
    · obtain ⟨c0, hc0⟩ := getD_lt (show a < s.length by omega)
      have hh : (s.take b).drop a = c0 :: (s.take b).drop (a + 1) := by
        have hl : a < (s.take b).length := by simp; omega
        rw [List.drop_eq_getElem_cons hl]
        congr 1
        have := (List.getElem?_eq_some_iff.1 hc0).2
        simpa using this
      have hbl : blankB ((s.take b).drop a) = (c0 == 35) := by rw [hh]; rfl
      rw [hbl] at hp
      repeat (first | refine sS ?_ | refine w_mv rfl ?_ | refine w_gT rfl rfl ?_ | (refine w_cmp (c2 := true) rfl ?_ ?_; focus (first | exact decide_eq_true (by omega) | (simp; done) | (simp; omega))) | refine ai_seq ?_ | refine ai_regW ?_)
      refine w_ixs rfl hc0 ?_
      repeat (first | refine sS ?_ | refine w_gT rfl rfl ?_)
      refine w_cmp (c2 := !(c0 == 35)) rfl (by rw [← u8_eq c0 35]; rfl) ?_
      by_cases hc35 : c0 = 35
      · subst hc35
        rw [if_pos (c := (((35 : UInt8) == 35) = true)) rfl] at hp
        repeat (first | refine sS ?_ | refine sE ?_ | refine w_mv rfl ?_ | refine w_pickT rfl ?_ | (refine w_add rfl ?_ ?_; (focus omega)) | refine ai_regW ?_ | refine ai_condF (b := false) rfl (fun hb => by cases hb) (fun _ => ?_) | refine ai_skip ?_)
        exact ⟨(i + 1, i + 1, n + 1, R', v, was), (by repeat (first | exact le_nil | refine le_consF rfl ?_)), ⟨md, kv, kw, fin.1, fin.2.1, fin.2.2.1, fin.2.2.2, hv, hp⟩, by dsimp only; omega⟩
      · have hcb : (c0 == 35) = false := by simpa using hc35
        rw [hcb] at hp ⊢
        rw [if_neg (by simp)] at hp
        have htl : ((s.take b).drop a).length ≤ 1000000 := by rw [List.length_drop, List.length_take]; omega
        repeat (first | refine sS ?_ | refine sE ?_ | refine w_mv rfl ?_ | refine w_pickT rfl ?_ | refine ai_seq ?_ | refine ai_regW ?_ | refine ai_condF (b := true) rfl (fun _ => ?_) (fun hb => by cases hb))
        refine w_slsB rfl (by omega) (by omega) ?_
        generalize (s.take b).drop a = t at hp htl ⊢
        repeat (first | refine sS ?_)
        refine w_call rfl ((rline_ok t htl _).mono ?_)
        rintro _ g5 ⟨rfl, x5⟩
        have hn5 := x5.1
        have md5 : Md2 (g2.nx + 1) g3.nx g4 g5 := md.trans x5.md.two
        have kv5 := (x5.2 _ (by omega)).trans kv
        have kw5 := (x5.2 _ (by omega)).trans kw
        have r15 := (x5.2 _ (by omega)).trans r1
        have r25 := (x5.2 _ (by omega)).trans r2
        have xf : ∀ gb, (∀ k, k ≠ g1.nx → gb.get k = g5.get k) → gb.nx = g5.nx → Ext h gb := fun gb mb nb => ⟨by rw [nb]; have := x04.1; omega, fun q hq => (mb q (by omega)).trans ((md5.2 q (by have := x04.1; omega) (by omega) (by omega)).trans (x04.2 q hq))⟩
        unfold rlineF
        cases hlf : lineF setF t with
        | none =>
          rw [hlf] at hp
          dsimp only at hp
          rw [← hp] at hR0
          rw [← hR0]
          repeat (first | refine sS ?_ | refine sSn ?_ | refine sE ?_ | refine w_mv rfl ?_ | refine w_pickT rfl ?_ | refine w_ext rfl rfl ?_ | refine w_gF rfl rfl ?_ | (refine is_ldn ?_; refine w_ldn rfl (by first | exact rd_all ‹_› rfl | exact rd_newn rfl | assumption) ?_) | (refine w_cmp (c2 := true) rfl ?_ ?_; focus (first | exact decide_eq_true (by omega) | (simp; done) | (simp; omega))) | refine ai_seq ?_ | refine ai_regW ?_ | refine ai_condF (b := true) rfl (fun _ => ?_) (fun hb => by cases hb))
          refine w_stN rfl rfl r25 rfl rfl fun gb mb kb nb => ?_
          repeat (first | refine sS ?_ | refine sE ?_ | refine w_mv rfl ?_ | (refine ai_ret ?_; repeat (first | rw [thenQ_r] | rw [blockQ_r] | rw [roundE_r])))
          exact end_cell3 rfl rfl rfl kb Go.Proofs.Tryd.underlying24 rfl (by kernel_rfl) rfl ⟨rfl, xf gb mb nb⟩
        | some kx =>
          obtain ⟨k, x⟩ := kx
          have hk20 := lineF_lt hlf
          rw [hlf] at hp
          dsimp only at hp
          have hrw := rd_row kw5 (wasC_at (ws := was) hk20)
          repeat (first | refine sS ?_ | refine sE ?_ | refine w_mv rfl ?_ | refine w_pickF rfl ?_ | refine w_ext rfl rfl ?_ | refine w_gT rfl rfl ?_ | (refine is_ld ?_; refine w_ld rfl (by first | exact rd_g ‹_› rfl | exact rd_new rfl | assumption) ?_) | (refine w_cmp (c2 := false) rfl ?_ ?_; focus (first | exact decide_eq_false (by omega) | (simp; done) | (simp; omega))) | (refine w_iad rfl ?_ ?_; focus (first | omega | (simp; done) | (simp; omega))) | refine ai_seq ?_ | refine ai_regW ?_)
          obtain ⟨wb, hwb⟩ : ∃ b, was.contains k = b := ⟨_, rfl⟩
          rw [hwb] at hp ⊢
          cases wb
          · rw [if_neg (by simp)] at hp
            repeat (first | refine sS ?_ | refine sSn ?_ | refine w_mv rfl ?_ | (refine w_iad rfl ?_ ?_; focus (first | omega | (simp; done) | (simp; omega))) | refine ai_regW ?_ | refine ai_condF (b := false) rfl (fun hb => by cases hb) (fun _ => ?_) | refine ai_skip ?_)
            refine w_st1 rfl rfl kv5 (by rw [List.length_map]; simp; omega) rfl fun ga ma ka na => ?_
            rw [show 0 + ((k : Nat) : Int).toNat * 1 = k by simp, map_set] at ka
            have kwa := (ma _ (by omega)).trans kw5
            repeat (first | refine sS ?_ | refine sSn ?_ | (refine w_iad rfl ?_ ?_; focus (first | omega | (simp; done) | (simp; omega))))
            refine w_st1 rfl rfl kwa (by simp [wasC]; omega) rfl fun gb mb kb nb => ?_
            rw [show 0 + ((k : Nat) : Int).toNat * 1 = k by simp, wasC_set] at kb
            have kvb := (mb _ (by omega)).trans ka
            have mdb : Md2 (g2.nx + 1) g3.nx g4 gb := ⟨by rw [nb, na]; exact md5.1, fun q h1 h2 h3 => (mb q h3).trans ((ma q h2).trans (md5.2 q h1 h2 h3))⟩
            repeat (first | refine sS ?_ | refine sE ?_ | refine w_mv rfl ?_ | (refine w_add rfl ?_ ?_; (focus omega)) | refine ai_regW ?_)
            exact ⟨(i + 1, i + 1, n + 1, R', v.set k x, was ++ [k]), (by repeat (first | exact le_nil | refine le_consF rfl ?_)), ⟨mdb, kvb, kb, fin.1, fin.2.1, fin.2.2.1, fin.2.2.2, by dsimp only; rw [List.length_set]; exact hv, hp⟩, by dsimp only; omega⟩
          · rw [if_pos rfl] at hp
            rw [← hp] at hR0
            rw [← hR0]
            repeat (first | refine sS ?_ | refine sSn ?_ | refine w_mv rfl ?_ | (refine is_ldn ?_; refine w_ldn rfl (by first | exact rd_all ‹_› rfl | exact rd_newn rfl | assumption) ?_) | refine ai_seq ?_ | refine ai_regW ?_ | refine ai_condF (b := true) rfl (fun _ => ?_) (fun hb => by cases hb))
            refine w_stN rfl rfl r25 rfl rfl fun gb mb kb nb => ?_
            repeat (first | refine sS ?_ | refine sE ?_ | refine w_mv rfl ?_ | (refine ai_ret ?_; repeat (first | rw [thenQ_r] | rw [blockQ_r] | rw [roundE_r])))
            exact end_cell3 rfl rfl rfl kb Go.Proofs.Tryd.underlying24 rfl (by kernel_rfl) rfl ⟨rfl, xf gb mb nb⟩
    · obtain rfl : a = b := by omega
      have hte : (s.take a).drop a = [] := by simp
      rw [hte, if_pos (c := blankB [] = true) rfl] at hp
      repeat (first | refine sS ?_ | refine sE ?_ | refine w_mv rfl ?_ | refine w_pickF rfl ?_ | refine w_gF rfl rfl ?_ | (refine w_add rfl ?_ ?_; (focus omega)) | (refine w_cmp (c2 := false) rfl ?_ ?_; focus (first | exact decide_eq_false (by omega) | (simp; done) | (simp; omega))) | refine ai_seq ?_ | refine ai_regW ?_ | refine ai_condF (b := false) rfl (fun hb => by cases hb) (fun _ => ?_) | refine ai_skip ?_)
      exact ⟨(i + 1, i + 1, n + 1, R', v, was), (by repeat (first | exact le_nil | refine le_consF rfl ?_)), ⟨md, kv, kw, fin.1, fin.2.1, fin.2.2.1, fin.2.2.2, hv, hp⟩, by dsimp only; omega⟩
  · obtain rfl : i = s.length + 1 := by omega
    rw [hend rfl] at hp
    obtain ⟨d, rfl⟩ := vl_of hv
    have hp2 : P0 = .ok (vl d) := hp.symm
    rw [hp2] at hR0
    replace hR0 : (if mayB d = true then (d, (0 : Int), (0 : Int)) else (c, 5, 0)) = R0 := hR0
    repeat (first | refine sS ?_ | refine sE ?_ | refine w_mv rfl ?_ | (refine is_okn rfl ?_; refine w_op rfl ?_) | (refine w_cmp (c2 := false) rfl ?_ ?_; focus (first | exact decide_eq_false (by omega) | (simp; done) | (simp; omega))) | refine ai_seq ?_ | refine ai_regW ?_ | refine ai_condF (b := false) rfl (fun hb => by cases hb) (fun _ => ?_) | refine ai_exit ?_)
    refine w_call rfl ((made_ok _ d kv (by omega)).mono ?_)
    rintro _ g7 ⟨rfl, x7⟩
    have hn7 := x7.1
    repeat (first | refine sS ?_)
    refine w_new fun g8 x8 k8 n8 => ?_
    repeat (first | refine sSn ?_)
    refine w_stN rfl rfl k8 rfl rfl fun g9 m9 k9 n9 => ?_
    repeat (first | refine sS ?_ | refine sE ?_ | (refine is_ldn ?_; refine w_ldn rfl (by first | exact rd_all ‹_› rfl | exact rd_newn rfl | assumption) ?_) | refine ai_seq ?_ | refine ai_regW ?_)
    refine w_call rfl ((rmay_ok _ d).mono ?_)
    rintro _ gc ⟨rfl, xc⟩
    have hn8 := x8.1
    have hnc := xc.1
    have x79 : Ext g7 g9 := x8.own m9 n9
    have ra := (xc.2 h.nx (by omega)).trans ((x79.2 _ (by omega)).trans ((x7.2 h.nx (by omega)).trans r1))
    have rb := (xc.2 g1.nx (by omega)).trans ((x79.2 _ (by omega)).trans ((x7.2 g1.nx (by omega)).trans r2))
    have rx := (xc.2 g7.nx (by omega)).trans k9
    have xf : ∀ gb, (∀ k, k ≠ g1.nx → gb.get k = gc.get k) → gb.nx = gc.nx → Ext h gb := fun gb mb nb => ⟨by rw [nb]; have := x04.1; omega, fun q hq => (mb q (by omega)).trans ((xc.2 q (by omega)).trans ((x79.2 q (by omega)).trans ((x7.2 q (by omega)).trans ((md.2 q (by have := x04.1; omega) (by omega) (by omega)).trans (x04.2 q hq)))))⟩
    obtain ⟨mb, hm⟩ : ∃ b, mayB d = b := ⟨_, rfl⟩
    rw [hm] at hR0 ⊢
    cases mb
    · rw [← hR0]
      repeat (first | refine sS ?_ | refine sSn ?_ | refine sE ?_ | (refine is_okn rfl ?_; refine w_op rfl ?_) | (refine is_ldn ?_; refine w_ldn rfl (by first | exact rd_all ‹_› rfl | exact rd_newn rfl | assumption) ?_) | refine ai_seq ?_ | refine ai_regW ?_ | refine ai_condF (b := true) rfl (fun _ => ?_) (fun hb => by cases hb))
      refine w_stN rfl rfl rb rfl rfl fun gb mb kb nb => ?_
      repeat (first | refine sS ?_ | refine sE ?_ | refine w_mv rfl ?_ | (refine ai_ret ?_; repeat (first | rw [thenQ_r] | rw [blockQ_r] | rw [roundE_r])))
      exact end_cell3 rfl rfl rfl kb Go.Proofs.Tryd.underlying24 rfl (by kernel_rfl) rfl ⟨rfl, xf gb mb nb⟩
    · rw [← hR0]
      repeat (first | refine sS ?_ | refine sSn ?_ | refine sE ?_ | (refine is_okn rfl ?_; refine w_op rfl ?_) | (refine is_ldn ?_; refine w_ldn rfl (by first | exact rd_all ‹_› rfl | exact rd_newn rfl | assumption) ?_) | refine ai_seq ?_ | refine ai_regW ?_ | refine ai_condF (b := false) rfl (fun hb => by cases hb) (fun _ => ?_) | refine ai_skip ?_)
      refine w_stN rfl rfl rb rfl rfl fun gb mb kb nb => ?_
      repeat (first | refine sS ?_ | refine sE ?_ | refine w_mv rfl ?_ | (refine ai_ret ?_; repeat (first | rw [thenQ_r] | rw [blockQ_r] | rw [roundE_r])))
      exact end_cell3 rfl rfl rfl kb Go.Proofs.Tryd.underlying24 rfl (by kernel_rfl) rfl ⟨rfl, xf gb mb nb⟩
end Go.Proofs.YtapbmmlgmcmpnaaDoorW.Am
/- copyCheck, laid by hand (the shelf's tool stops at a number that the dump's body does not name). -/
namespace Go.Proofs
open Go.Shelf
def Tryd.lays240_ren : Go.Shelf.Ren := ⟨fun | 240 => 53 | 276 => 69 | n => n, fun | 70 => 63 | 0 => 0 | 4 => 4 | 9 => 9 | 20 => 20 | 72 => 66 | 37 => 64 | 164 => 103 | 5 => 5 | n => n, fun | n => n⟩
theorem Tryd.lays240 : Go.Proofs.Lays.n240 Go.Proofs.Tryd.prog Tryd.lays240_ren := {
  mixed := by kernel_rfl
  f240 := Go.Proofs.Tryd.func53.trans (congrArg some (by kernel_rfl))
  f276 := Go.Proofs.Tryd.func69.trans (congrArg some (by kernel_rfl))
  t0 := Go.Proofs.Tryd.underlying0
  a0 := Go.Proofs.Tryd.isAgg0
  z0 := Go.Proofs.Tryd.sizeOf0
  v0 := Go.Proofs.Tryd.zeroValue0
  t4 := Go.Proofs.Tryd.underlying4
  a4 := Go.Proofs.Tryd.isAgg4
  z4 := Go.Proofs.Tryd.sizeOf4
  v4 := Go.Proofs.Tryd.zeroValue4
  t9 := Go.Proofs.Tryd.underlying9
  a9 := Go.Proofs.Tryd.isAgg9
  z9 := Go.Proofs.Tryd.sizeOf9
  v9 := Go.Proofs.Tryd.zeroValue9
  t20 := Go.Proofs.Tryd.underlying20
  a20 := Go.Proofs.Tryd.isAgg20
  z20 := Go.Proofs.Tryd.sizeOf20
  v20 := Go.Proofs.Tryd.zeroValue20
  t70 := Go.Proofs.Tryd.underlying63
  a70 := Go.Proofs.Tryd.isAgg63
  z70 := Go.Proofs.Tryd.sizeOf63
  v70 := Go.Proofs.Tryd.zeroValue63
  t72 := Go.Proofs.Tryd.underlying66
  a72 := Go.Proofs.Tryd.isAgg66
  z72 := Go.Proofs.Tryd.sizeOf66
  v72 := Go.Proofs.Tryd.zeroValue66
  t164 := Go.Proofs.Tryd.underlying103
  a164 := Go.Proofs.Tryd.isAgg103
  z164 := Go.Proofs.Tryd.sizeOf103
  v164 := Go.Proofs.Tryd.zeroValue103 }
end Go.Proofs
/- strings.Builder over abstract heaps: copyCheck, WriteString, String. -/
namespace Go.Proofs.YtapbmmlgmcmpnaaDoorW.Am
open Go Go.RowKit
abbrev tBld : TypeId := 66
abbrev tU8 : TypeId := 5
def byV (b : UInt8) : Value := .int .u8 b.toNat
theorem copy_x : Go.Proofs.Builder.X72 PX Tryd.lays240_ren := ⟨by kernel_rfl, by kernel_rfl⟩
theorem copy_ok {h : Hp} {i : Nat} {p buf : Value} (hg : h.get i = some ⟨[p, buf], true, mkE * (tBld + 1)⟩) (hp : p = .pointer none ∨ p = .pointer (some ⟨i, 0, none⟩)) :
    ACall PX 53 [.pointer (some ⟨i, 0, none⟩)] h (fun _ g => g.nx = h.nx ∧ (∀ k, k ≠ i → g.get k = h.get k) ∧ g.get i = some ⟨[.pointer (some ⟨i, 0, none⟩), buf], true, mkE * (tBld + 1)⟩) := by
  refine ⟨⟨Go.Proofs.Tryd.f53, Go.Proofs.Tryd.func53, fun e => (by cases e), of_decide_eq_true (by kernel_rfl)⟩, fun base w0 m w args' ra s => ?_⟩
  obtain ⟨v', b', rfl, r1, r2⟩ := ra.cases_cons
  obtain rfl := r2.cases_nil
  cases r1 with
  | @ptr _ _ l hl =>
  obtain ⟨hlies, hwh⟩ := s.loc hg hl
  obtain ⟨hbase, c, e, f, hblk, hfr, hsz, hmk⟩ := hwh rfl
  obtain ⟨h0, he, hc⟩ := hmk (by show mkE ≤ mkE * (tBld + 1); decide)
  have he2 : e = tBld := by
    have he3 : mkE * (tBld + 1) / mkE = e + 1 := he
    rw [Nat.mul_div_cancel_left _ (by decide : 0 < mkE)] at he3
    exact (Nat.succ.inj he3).symm
  subst he2
  have hc2 : c.size = 2 := hc (by show mkE * (tBld + 1) % mkE = 0; decide)
  obtain ⟨boff, hbo⟩ : ∃ q, l.off = q := ⟨_, rfl⟩
  obtain ⟨lb, lo, lsl⟩ := l
  dsimp only at h0
  subst h0
  have hsh : w.shape? lb = some (tBld, 2) := by simp [World.shape?, hblk, hc2]
  obtain ⟨p', hp', rp⟩ := hlies 0 p rfl
  have hfz : w.frozen? ⟨lb, 0, none⟩ = false := by
    have := s.thaw hg hl rfl (j := 0) (by simp)
    simpa using this
  rcases hp with rfl | rfl
  · have rp2 := rp.flat_eq rfl
    subst rp2
    refine (Go.Proofs.Any.Builder_copyCheck_fresh Tryd.lays240 copy_x lb w hp' hsh hfz).mono ?_
    rintro e w' ⟨rfl, rfl⟩
    have st := s.store (j := 0) (v := .pointer (some ⟨i, 0, none⟩)) (v' := .pointer (some ⟨lb, 0, none⟩)) hg hl rfl (by simp) (RV.ptr hl)
    exact ⟨m, _, .tuple #[], _, rfl, m.le_refl, RV.of_flat m _ rfl, st, rfl, fun k hk => hput_ne _ _ hk, hput_same _ _ _⟩
  · cases rp with
    | @ptr _ _ l2 hl2 =>
    rw [hl] at hl2
    cases hl2
    refine (Go.Proofs.Any.Builder_copyCheck_used Tryd.lays240 copy_x lb w hp').mono ?_
    rintro e w' ⟨rfl, rfl⟩
    exact ⟨m, _, .tuple #[], h, rfl, m.le_refl, RV.of_flat m _ rfl, s, rfl, fun _ _ => rfl, hg⟩
/-- A builder, and what was written to it. -/
def BLD (N : Nat) (h : Hp) (i : Nat) (acc : List UInt8) : Prop := i < N ∧ N ≤ h.nx ∧ ∃ p buf, h.get i = some ⟨[p, buf], true, mkE * (tBld + 1)⟩ ∧ (p = .pointer none ∨ p = .pointer (some ⟨i, 0, none⟩)) ∧
  ((acc = [] ∧ buf = .slice none 0 0) ∨ ∃ q, acc ≠ [] ∧ buf = .slice (some ⟨q, 0, some 0⟩) acc.length acc.length ∧ N ≤ q ∧ q < h.nx ∧ h.get q = some ⟨acc.map byV, true, aszB tU8⟩)
theorem BLD.ext {N : Nat} {h g : Hp} {i : Nat} {acc : List UInt8} (b : BLD N h i acc) (x : Ext h g) : BLD N g i acc := by
  obtain ⟨h1, h2, p, buf, h3, h4, h5⟩ := b
  have hn := x.1
  refine ⟨h1, by omega, p, buf, (x.2 _ (by omega)).trans h3, h4, ?_⟩
  rcases h5 with h5 | ⟨q, a1, a2, a3, a4, a5⟩
  · exact .inl h5
  · exact .inr ⟨q, a1, a2, a3, by omega, (x.2 _ a4).trans a5⟩
theorem byV_all (l : List UInt8) : (l.map byV).all one = true := List.all_eq_true.2 (by intro x hx; obtain ⟨b, _, rfl⟩ := List.mem_map.1 hx; rfl)
theorem byV_bytes : ∀ l : List UInt8, bytesV (l.map byV) = some l
  | [] => rfl
  | b :: l => by
    have hb := b.toNat_lt
    have h1 : (0 : Int) ≤ b.toNat ∧ (b.toNat : Int) < 256 := by omega
    show (if (0 : Int) ≤ (b.toNat : Int) ∧ (b.toNat : Int) < 256 then (bytesV (l.map byV)).map (UInt8.ofNat ((b.toNat : Int)).toNat :: ·) else none) = _
    rw [if_pos h1, byV_bytes l, Int.toNat_natCast, UInt8.ofNat_toNat]
    rfl
/-- The row that a builder's bytes lie in. -/
def bufN (h : Hp) (i : Nat) : Option Nat := match h.get i with
  | some ⟨[_, .slice (some ⟨q, _, _⟩) _ _], _, _⟩ => some q
  | _ => none
theorem BLD.buf {N : Nat} {h : Hp} {i q : Nat} {acc : List UInt8} (b : BLD N h i acc) (e : bufN h i = some q) : N ≤ q ∧ q < h.nx := by
  obtain ⟨_, _, p, buf, h3, _, h5⟩ := b
  unfold bufN at e
  rw [h3] at e
  rcases h5 with ⟨_, rfl⟩ | ⟨q2, _, rfl, a3, a4, _⟩
  · cases e
  · cases e; exact ⟨a3, a4⟩
theorem bufN_of {h g : Hp} {i : Nat} (e : g.get i = h.get i) : bufN g i = bufN h i := by unfold bufN; rw [e]
section
variable {P : Program} {CT : FuncId → List Value → Hp → (Value → Hp → Prop) → Prop} {d : Option Nat} {xs : List Operand} {env : Env} {h : Hp} {R : Value → Hp → Prop}
theorem w_newB {t : TypeId} {z : Value} (n : ∀ g, Ext h g → g.get h.nx = some ⟨z.cells.toList, true, mkE * (t + 1)⟩ → h.nx < g.nx → R (.pointer (some ⟨h.nx, 0, none⟩)) g) : WI P CT ⟨d, none, .op (.newB t z) []⟩ env h R := by
  refine w_op (v := .pointer (some ⟨h.nx, 0, none⟩)) (h' := h.new ⟨z.cells.toList, true, mkE * (t + 1)⟩) ?_ (n _ (Ext.new _ _) (new_get _ _) (by simp [Hp.new]))
  unfold opF
  simp only [mapF, stepK, putPtr]
theorem w_aps0 {e : TypeId} {s : List UInt8} (ex : mapF env xs = some [.slice none 0 0, .string ⟨s.toArray⟩]) (hs : s ≠ []) (hl : s.length ≤ 1000000000) (n : ∀ g, Ext h g → g.get h.nx = some ⟨s.map byV, true, aszB e⟩ → h.nx < g.nx → R (.slice (some ⟨h.nx, 0, some 0⟩) s.length s.length) g) : WI P CT ⟨d, none, .op (.aps e) xs⟩ env h R := by
  have hz : (ByteArray.mk s.toArray).size = s.length := by simp [ByteArray.size]
  have h0 : s.length ≠ 0 := by simpa using hs
  refine w_op (v := .slice (some ⟨h.nx, 0, some 0⟩) s.length s.length) (h' := h.new ⟨s.map byV, true, aszB e⟩) ?_ (n _ (Ext.new _ _) (new_get _ _) (by simp [Hp.new]))
  unfold opF
  rw [ex]
  show appG 1 1 (aszB e) h none 0 0 (s.map byV) (ByteArray.mk s.toArray).size = _
  rw [hz]
  unfold appG
  rw [if_pos ⟨by simp, byV_all s, by omega, by omega, by omega⟩]
  simp [h0]
theorem w_apsN {e : TypeId} {s acc : List UInt8} {q : Nat} (ex : mapF env xs = some [.slice (some ⟨q, 0, some 0⟩) acc.length acc.length, .string ⟨s.toArray⟩]) (hg : h.get q = some ⟨acc.map byV, true, aszB e⟩) (hs : s ≠ []) (ha : acc ≠ []) (hl : acc.length + s.length ≤ 1000000000)
    (n : ∀ g, g.nx = h.nx + 1 → (∀ j, j < h.nx → j ≠ q → g.get j = h.get j) → g.get h.nx = some ⟨(acc ++ s).map byV, true, aszB e⟩ → R (.slice (some ⟨h.nx, 0, some 0⟩) (acc ++ s).length (acc ++ s).length) g) : WI P CT ⟨d, none, .op (.aps e) xs⟩ env h R := by
  have hz : (ByteArray.mk s.toArray).size = s.length := by simp [ByteArray.size]
  have h0 : s.length ≠ 0 := by simpa using hs
  have h1 : acc.length ≠ 0 := by simpa using ha
  have hrd : h.rd q 0 (acc.length * 1) = some (acc.map byV) := by rw [Nat.mul_one]; exact rd_all hg (by simp)
  refine w_op (v := .slice (some ⟨h.nx, 0, some 0⟩) (acc ++ s).length (acc ++ s).length) (h' := (h.del q).new ⟨(acc ++ s).map byV, true, aszB e⟩) ?_ (n _ rfl (fun j hj hq => by show (if j = h.nx then _ else if j = q then none else h.get j) = _; rw [if_neg (by omega), if_neg hq]) (new_get _ _))
  unfold opF
  rw [ex]
  show appG 1 1 (aszB e) h (some ⟨q, 0, some 0⟩) acc.length acc.length (s.map byV) (ByteArray.mk s.toArray).size = _
  rw [hz]
  unfold appG
  rw [if_pos ⟨by simp, byV_all s, by omega, by omega, by omega⟩]
  simp only [if_neg h0, show ¬ (acc.length + s.length ≤ acc.length) by omega, if_false, if_neg h1, hrd, hg]
  rw [if_pos (by simp; intro x _; rfl)]
  simp
theorem w_sdt {q n c : Nat} (ex : mapF env xs = some [.slice (some ⟨q, 0, some 0⟩) n c]) (hc : c ≠ 0) (r : R (.pointer (some ⟨q, 0, none⟩)) h) : WI P CT ⟨d, none, .op .sdt xs⟩ env h R := by
  refine w_op (v := .pointer (some ⟨q, 0, none⟩)) (h' := h) ?_ r
  unfold opF
  rw [ex]
  simp only [stepK, if_neg hc]
theorem w_ust {e : TypeId} {acc : List UInt8} {q : Nat} (ex : mapF env xs = some [.pointer (some ⟨q, 0, none⟩), .int .i64 (acc.length : Int)]) (hg : h.get q = some ⟨acc.map byV, true, aszB e⟩) (ha : acc ≠ []) (hl : acc.length ≤ 1000000000)
    (n : R (.string ⟨acc.toArray⟩) (h.del q)) : WI P CT ⟨d, none, .op (.ust e) xs⟩ env h R := by
  have h1 : acc.length ≠ 0 := by simpa using ha
  refine w_op (v := .string ⟨acc.toArray⟩) (h' := h.del q) ?_ n
  have hrd : h.rd q 0 acc.length = some (acc.map byV) := rd_all hg (by simp)
  unfold opF
  rw [ex]
  simp only [stepK, hg]
  rw [if_neg (by omega), if_neg (by omega)]
  simp only [and_self, if_true, Int.toNat_natCast, hrd, byV_bytes, Option.map_some]
end
set_option maxHeartbeats 1000000 in
theorem wstr_ok {N : Nat} {h : Hp} {i : Nat} {acc s : List UInt8} (b : BLD N h i acc) (hs : s ≠ []) (hl : acc.length + s.length ≤ 1000000000) : ACall PX 34 [.pointer (some ⟨i, 0, none⟩), .string ⟨s.toArray⟩] h (fun _ g => BLD N g i (acc ++ s) ∧ h.nx ≤ g.nx ∧ ∀ j, j < h.nx → j ≠ i → bufN h i ≠ some j → g.get j = h.get j) := by
  obtain ⟨b1, b2, p, buf, b3, b4, b5⟩ := b
  have hne : acc ++ s ≠ [] := by simp [hs]
  refine acall Go.Proofs.Tryd.func34 c34 (by simp [ir34]) ?_
  unfold ir34
  dsimp only
  repeat (first | refine sS ?_ | refine sE ?_ | refine w_mv rfl ?_ | refine ai_seq ?_ | refine ai_regW ?_)
  refine w_call rfl ((copy_ok b3 b4).mono ?_)
  rintro _ g1 ⟨n1, k1, e1⟩
  rcases b5 with ⟨rfl, rfl⟩ | ⟨q, a1, rfl, a3, a4, a5⟩
  · repeat (first | refine sS ?_ | refine sE ?_ | refine w_mv rfl ?_ | (refine is_okn rfl ?_; refine w_op rfl ?_) | (refine is_ld ?_; refine w_ld rfl (by first | exact rd_g ‹_› rfl | exact rd_new rfl | assumption) ?_) | refine ai_seq ?_ | refine ai_regW ?_)
    refine w_aps0 rfl hs (by omega) fun g2 x2 k2 n2 => ?_
    have e2 := (x2.2 i (by omega)).trans e1
    repeat (first | refine sS ?_ | refine sSn ?_ | (refine is_okn rfl ?_; refine w_op rfl ?_))
    refine w_st1 rfl rfl e2 (by simp) rfl fun g3 m3 k3 n3 => ?_
    repeat (first | refine sS ?_ | refine sE ?_ | refine w_mv rfl ?_ | (refine is_okn rfl ?_; refine w_op rfl ?_) | refine ai_seq ?_ | refine ai_regW ?_ | (refine ai_ret ?_; repeat (first | rw [thenQ_r] | rw [blockQ_r] | rw [roundE_r])))
    refine ⟨_, rfl, ⟨b1, by rw [n3]; have := x2.1; omega, _, _, k3, .inr rfl, .inr ⟨g1.nx, hne, by simp, by omega, by omega, ?_⟩⟩, by rw [n3]; have := x2.1; omega, fun j hj hji _ => ?_⟩
    · exact (m3 _ (by omega)).trans k2
    · exact (m3 _ hji).trans ((x2.2 j (by omega)).trans (k1 j hji))
  · have a5' := (k1 q (by omega)).trans a5
    repeat (first | refine sS ?_ | refine sE ?_ | refine w_mv rfl ?_ | (refine is_okn rfl ?_; refine w_op rfl ?_) | (refine is_ld ?_; refine w_ld rfl (by first | exact rd_g ‹_› rfl | exact rd_new rfl | assumption) ?_) | refine ai_seq ?_ | refine ai_regW ?_)
    refine w_apsN rfl a5' hs a1 hl fun g2 n2 x2 k2 => ?_
    have e2 := (x2 i (by omega) (by omega)).trans e1
    repeat (first | refine sS ?_ | refine sSn ?_ | (refine is_okn rfl ?_; refine w_op rfl ?_))
    refine w_st1 rfl rfl e2 (by simp) rfl fun g3 m3 k3 n3 => ?_
    repeat (first | refine sS ?_ | refine sE ?_ | refine w_mv rfl ?_ | (refine is_okn rfl ?_; refine w_op rfl ?_) | refine ai_seq ?_ | refine ai_regW ?_ | (refine ai_ret ?_; repeat (first | rw [thenQ_r] | rw [blockQ_r] | rw [roundE_r])))
    refine ⟨_, rfl, ⟨b1, by omega, _, _, k3, .inr rfl, .inr ⟨g1.nx, hne, rfl, by omega, by omega, ?_⟩⟩, by omega, fun j hj hji hbf => ?_⟩
    · exact (m3 _ (by omega)).trans k2
    · have hjq : j ≠ q := fun e => hbf (by unfold bufN; rw [b3, e])
      exact (m3 _ hji).trans ((x2 j (by omega) hjq).trans (k1 j hji))
theorem str_ok {N : Nat} {h : Hp} {i : Nat} {acc : List UInt8} (b : BLD N h i acc) (hl : acc.length ≤ 1000000000) : ACall PX 36 [.pointer (some ⟨i, 0, none⟩)] h (fun v g => v = .string ⟨acc.toArray⟩ ∧ h.nx ≤ g.nx ∧ ∀ j, j < N → g.get j = h.get j) := by
  obtain ⟨b1, b2, p, buf, b3, b4, b5⟩ := b
  refine acall Go.Proofs.Tryd.func36 c36 (by simp [ir36]) ?_
  unfold ir36
  dsimp only
  rcases b5 with ⟨rfl, rfl⟩ | ⟨q, a1, rfl, a3, a4, a5⟩
  · repeat (first | refine sS ?_ | refine dS ?_ | refine dSR ?_ | refine sE ?_ | refine dE ?_ | (refine agS ?_ ?_; focus (repeat (first | exact ag_nil | refine ag_cons (by first | exact ag_gF rfl rfl | exact ag_l rfl rfl (by first | exact rd_g ‹_› rfl | exact rd_new rfl | assumption) | exact ag_gT rfl rfl (ag_l rfl rfl (by first | exact rd_g ‹_› rfl | exact rd_new rfl | assumption)) | exact ag_ln rfl rfl (by first | exact rd_all ‹_› rfl | exact rd_newn rfl | assumption) | exact ag_gT rfl rfl (ag_ln rfl rfl (by first | exact rd_all ‹_› rfl | exact rd_newn rfl | assumption))) ?_))) | refine w_mv rfl ?_ | (refine is_okn rfl ?_; refine w_op rfl ?_) | (refine is_ld ?_; refine w_ld rfl (by first | exact rd_g ‹_› rfl | exact rd_new rfl | assumption) ?_) | refine ai_seq ?_ | refine ai_regW ?_ | refine ai_drwW (by kernel_rfl) ?_ | (refine ai_ret ?_; repeat (first | rw [thenQ_r] | rw [blockQ_r] | rw [roundE_r])))
    exact ⟨_, rfl, rfl, Nat.le_refl _, fun _ _ => rfl⟩
  · have h1 : acc.length ≠ 0 := by simpa using a1
    repeat (first | refine sS ?_ | refine dS ?_ | refine dSR ?_ | refine sE ?_ | refine w_mv rfl ?_ | (refine is_okn rfl ?_; refine w_op rfl ?_) | (refine is_ld ?_; refine w_ld rfl (by first | exact rd_g ‹_› rfl | exact rd_new rfl | assumption) ?_) | refine ai_seq ?_ | refine ai_regW ?_ | refine ai_drwW (by kernel_rfl) ?_)
    refine w_sdt rfl h1 ?_
    repeat (first | refine dS ?_ | (refine agS ?_ ?_; focus (repeat (first | exact ag_nil | refine ag_cons (by first | exact ag_gF rfl rfl | exact ag_l rfl rfl (by first | exact rd_g ‹_› rfl | exact rd_new rfl | assumption) | exact ag_gT rfl rfl (ag_l rfl rfl (by first | exact rd_g ‹_› rfl | exact rd_new rfl | assumption)) | exact ag_ln rfl rfl (by first | exact rd_all ‹_› rfl | exact rd_newn rfl | assumption) | exact ag_gT rfl rfl (ag_ln rfl rfl (by first | exact rd_all ‹_› rfl | exact rd_newn rfl | assumption))) ?_))))
    refine w_ust rfl a5 a1 hl ?_
    repeat (first | refine dS ?_ | refine dE ?_ | refine w_mv rfl ?_ | (refine ai_ret ?_; repeat (first | rw [thenQ_r] | rw [blockQ_r] | rw [roundE_r])))
    exact ⟨_, rfl, rfl, Nat.le_refl _, fun j hj => by show (if j = q then none else h.get j) = _; rw [if_neg (by omega)]⟩
end Go.Proofs.YtapbmmlgmcmpnaaDoorW.Am
