/- For use, second part: numbers, slices that are read, rows that grow, loops. -/
import Derived.Test.YtnebdnbglggdkaaDoorAmU
namespace Go.Proofs.YtnebdnbglggdkaaDoorW.Am
open Go Go.RowKit
section
variable {P : Program} {CT : CTy} {r : List In} {env : Env} {h h' : Hp} {Q : Env → Hp → Prop} {d : Option Nat} {k : K} {xs : List Operand} {vs : List Value} {v : Value}

theorem st_v {v2 : Value} (e : opS env k xs h = some (v, h')) (hv : v = v2) (n : wpS P CT r (env.put d v2) h' Q) : wpS P CT (⟨d, none, .op k xs⟩ :: r) env h Q := by subst hv; exact st e n
theorem wrap_i64' {x : Int} (h1 : -9223372036854775808 ≤ x) (h2 : x ≤ 9223372036854775807) : IntKind.i64.wrap x = x := by rw [IntKind.wrap_i64]; omega
theorem wrap_u64' {x : Int} (h1 : 0 ≤ x) (h2 : x ≤ 18446744073709551615) : IntKind.u64.wrap x = x := by
  unfold IntKind.wrap
  simp only [IntKind.bits, IntKind.signed]
  simp
  omega
/-- A sum, a product, a conversion within 64 bits. -/
theorem st_w {x : Int} (e : opS env k xs h = some (.int .i64 (IntKind.i64.wrap x), h')) (hx : -9223372036854775808 ≤ x ∧ x ≤ 9223372036854775807) (n : wpS P CT r (env.put d (.int .i64 x)) h' Q) : wpS P CT (⟨d, none, .op k xs⟩ :: r) env h Q :=
  st_v e (by rw [wrap_i64' hx.1 hx.2]) n
theorem st_wu {x : Int} (e : opS env k xs h = some (.int .u64 (IntKind.u64.wrap x), h')) (hx : 0 ≤ x ∧ x ≤ 18446744073709551615) (n : wpS P CT r (env.put d (.int .u64 x)) h' Q) : wpS P CT (⟨d, none, .op k xs⟩ :: r) env h Q :=
  st_v e (by rw [wrap_u64' hx.1 hx.2]) n
theorem st_rem {kk : IntKind} {a b : Int} (e : mapE env xs = some [.int kk a, .int kk b]) (ha : 0 ≤ a) (hb : 0 < b) (n : wpS P CT r (env.put d (.int kk (a % b))) h Q) : wpS P CT (⟨d, none, .op (.bin .rem) xs⟩ :: r) env h Q := by
  refine st (v := .int kk (a % b)) (h' := h) ?_ n
  unfold opS
  rw [e]
  have : kk = kk ∧ b ≠ 0 := ⟨rfl, by omega⟩
  show (if kk = kk ∧ b ≠ 0 then some (Value.int kk (a.tmod b)) else none).map (·, h) = _
  rw [if_pos this, Int.tmod_eq_emod_of_nonneg ha]
  rfl
theorem st_quo {a b : Int} (e : mapE env xs = some [.int .i64 a, .int .i64 b]) (ha : 0 ≤ a) (ha2 : a ≤ 9223372036854775807) (hb : 0 < b) (n : wpS P CT r (env.put d (.int .i64 (a / b))) h Q) : wpS P CT (⟨d, none, .op (.bin .quo) xs⟩ :: r) env h Q := by
  refine st (v := .int .i64 (a / b)) (h' := h) ?_ n
  unfold opS
  rw [e]
  have : IntKind.i64 = IntKind.i64 ∧ b ≠ 0 := ⟨rfl, by omega⟩
  have h1 : 0 ≤ a / b := Int.ediv_nonneg ha (by omega)
  have h2 : a / b ≤ a := Int.ediv_le_self _ ha
  show (if IntKind.i64 = IntKind.i64 ∧ b ≠ 0 then some (Value.int .i64 (IntKind.i64.wrap (a.tdiv b))) else none).map (·, h) = _
  rw [if_pos this, Int.tdiv_eq_ediv_of_nonneg ha, wrap_i64' (by omega) (by omega)]
  rfl
theorem st_iad {i o len cap : Nat} {sp : Option Nat} {kk : IntKind} {x : Int} {esz : Nat} (e : mapE env xs = some [.slice (some ⟨i, o, sp⟩) len cap, .int kk x]) (hx : 0 ≤ x ∧ x < len) (n : wpS P CT r (env.put d (.pointer (some ⟨i, o + x.toNat * esz, none⟩))) h Q) :
    wpS P CT (⟨d, none, .op (.iad esz) xs⟩ :: r) env h Q := by
  refine st (v := .pointer (some ⟨i, o + x.toNat * esz, none⟩)) (h' := h) ?_ n
  unfold opS
  rw [e]
  simp only [stepK, if_pos hx]
theorem st_iaa {i o len : Nat} {kk : IntKind} {x : Int} {esz : Nat} (e : mapE env xs = some [.pointer (some ⟨i, o, none⟩), .int kk x]) (hx : 0 ≤ x ∧ x < len) (n : wpS P CT r (env.put d (.pointer (some ⟨i, o + x.toNat * esz, none⟩))) h Q) :
    wpS P CT (⟨d, none, .op (.iaa len esz) xs⟩ :: r) env h Q := by
  refine st (v := .pointer (some ⟨i, o + x.toNat * esz, none⟩)) (h' := h) ?_ n
  unfold opS
  rw [e]
  simp only [stepK, if_pos hx]
theorem st_ld {i o : Nat} (e : mapE env xs = some [.pointer (some ⟨i, o, none⟩)]) (hr : h.rd i o 1 = some [v]) (n : wpS P CT r (env.put d v) h Q) : wpS P CT (⟨d, none, .op .ld1 xs⟩ :: r) env h Q := by
  refine st (v := v) (h' := h) ?_ n
  unfold opS
  rw [e]
  simp only [stepK, hr]
theorem st_ldn {i o c : Nat} {us : List Value} (e : mapE env xs = some [.pointer (some ⟨i, o, none⟩)]) (hr : h.rd i o c = some us) (n : wpS P CT r (env.put d (.agg ⟨us⟩)) h Q) : wpS P CT (⟨d, none, .op (.ldn c) xs⟩ :: r) env h Q := by
  refine st (v := .agg ⟨us⟩) (h' := h) ?_ n
  unfold opS
  rw [e]
  simp only [stepK, hr, Option.map_some]
theorem st_st {i o c : Nat} {u : Value} (e : mapE env xs = some [.pointer (some ⟨i, o, none⟩), u]) (hs : u.cells.size = c) (hw : h.wr i o u.cells.toList = some h') (n : wpS P CT r (env.put d undef) h' Q) : wpS P CT (⟨d, none, .op (.st c) xs⟩ :: r) env h Q := by
  refine st (v := undef) (h' := h') ?_ n
  unfold opS
  rw [e]
  simp only [stepK, hs, if_true, hw, Option.map_some]

/-- Known slots of a frame, by a list. -/
theorem le_nil : EnvLe [] env := fun t v e => by cases e
theorem le_cons {t : Nat} {u : Value} {l : Env} (e : env.get t = some u) (hl : EnvLe l env) : EnvLe ((t, u) :: l) env := by
  intro s v hs
  simp only [Env.get] at hs
  split at hs
  · next hts => subst hts; cases hs; exact e
  · exact hl s v hs

theorem rd_at {i o n x : Nat} {us : List Value} (e : h.rd i o n = some us) (hx : x < n) : ∃ (hl : x < us.length), h.rd i (o + x) 1 = some [us[x]] := by
  obtain ⟨ob, hob, hn, rfl⟩ := Hp.rd_some e
  have hl : x < ((ob.cells.drop o).take n).length := by simp; omega
  refine ⟨hl, ?_⟩
  unfold Hp.rd
  simp only [hob]
  rw [if_pos (by omega)]
  have hlt : o + x < ob.cells.length := by omega
  have e3 : (ob.cells.drop (o + x)).take 1 = [ob.cells[o + x]] := by rw [List.drop_eq_getElem_cons hlt]; rfl
  rw [e3, List.getElem_take, List.getElem_drop]
theorem rd_len {i o n : Nat} {us : List Value} (e : h.rd i o n = some us) : us.length = n := by
  obtain ⟨ob, hob, hn, rfl⟩ := Hp.rd_some e
  simp; omega

/-- Of what was there nothing has turned. -/
def Ext (h0 h : Hp) : Prop := h0.nx ≤ h.nx ∧ ∀ k, k < h0.nx → h.get k = h0.get k
theorem Ext.refl (h : Hp) : Ext h h := ⟨Nat.le_refl _, fun _ _ => rfl⟩
theorem Ext.trans {a b c : Hp} (x : Ext a b) (y : Ext b c) : Ext a c := ⟨Nat.le_trans x.1 y.1, fun k hk => (y.2 k (Nat.lt_of_lt_of_le hk x.1)).trans (x.2 k hk)⟩
theorem Ext.rd {h0 h : Hp} (x : Ext h0 h) {i o n : Nat} (hi : i < h0.nx) : h.rd i o n = h0.rd i o n := by unfold Hp.rd; rw [x.2 i hi]
theorem Ext.new (h : Hp) (o : Ob) : Ext h (h.new o) := ⟨by simp [Hp.new], fun k hk => by simp only [Hp.new]; rw [if_neg (by omega)]⟩

/-- A row that a call has made, and may append to (elements of one cell): the slice, what it holds; its object's number is from N on. -/
def Ow (N : Nat) (h : Hp) (s : Value) (us : List Value) : Prop :=
  (s = .slice none 0 0 ∧ us = []) ∨ ∃ i, N ≤ i ∧ i < h.nx ∧ s = .slice (some ⟨i, 0, some 0⟩) us.length us.length ∧ h.get i = some ⟨us, true, 1⟩ ∧ us ≠ [] ∧ us.all one = true
theorem Ow.nil (N : Nat) (h : Hp) : Ow N h (.slice none 0 0) [] := .inl ⟨rfl, rfl⟩
theorem Ow.mono {N M : Nat} {s : Value} {us : List Value} (o : Ow N h s us) (hm : M ≤ N) : Ow M h s us := by
  rcases o with o | ⟨i, h1, h2⟩
  · exact .inl o
  · exact .inr ⟨i, Nat.le_trans hm h1, h2⟩
theorem Ow.move {N : Nat} {s : Value} {us : List Value} {h2 : Hp} (o : Ow N h s us) (x : Ext h h2) : Ow N h2 s us := by
  rcases o with o | ⟨i, h1, h2', h3, h4, h5⟩
  · exact .inl o
  · exact .inr ⟨i, h1, Nat.lt_of_lt_of_le h2' x.1, h3, (x.2 i h2').trans h4, h5⟩
/-- append(l, v): the one-element slice in its own new object, then the append. -/
theorem Ow.push {N e e2 bytes : Nat} {h0 : Hp} {s : Value} {us : List Value} (o : Ow N h s us) (hN : h0.nx = N) (x : Ext h0 h) {u : Value} (hu : one u = true) (hb : (us.length + 1) * bytes ≤ 140737488355328) (hl : us.length + 1 ≤ 140737488355328) :
    ∃ s' h2, stepK (.app e 1 bytes) [s, .slice (some ⟨h.nx, 0, none⟩) 1 1] (h.new ⟨[u], true, e2⟩) = some (s', h2) ∧ Ow N h2 s' (us ++ [u]) ∧ Ext h0 h2 := by
  have hrd : rdS (h.new ⟨[u], true, e2⟩) (some ⟨h.nx, 0, none⟩) (1 * 1) = some [u] := by
    simp [rdS, Hp.rd, Hp.new]
  have hall : [u].all one = true := by simp [hu]
  rcases o with ⟨rfl, rfl⟩ | ⟨i, h1, h2, rfl, h4, h5, h6⟩
  · refine ⟨.slice (some ⟨h.nx + 1, 0, some 0⟩) 1 1, (h.new ⟨[u], true, e2⟩).new ⟨[u], true, 1⟩, ?_, .inr ⟨h.nx + 1, ?_, ?_, rfl, ?_, by simp, hall⟩, ?_⟩
    · simp only [stepK, hrd]
      simp only [List.length_nil, Nat.zero_add] at hb hl
      have hb2 : bytes ≤ 140737488355328 := by simpa using hb
      simp [appA, hu, hb2, Hp.new]
    · have := x.1; omega
    · simp [Hp.new]
    · simp [Hp.new]
    · exact x.trans ((Ext.new _ _).trans (Ext.new _ _))
  · have hne : i ≠ h.nx := by omega
    have hlen : us.length ≠ 0 := fun hz => h5 (List.eq_nil_of_length_eq_zero hz)
    have hold : (h.new ⟨[u], true, e2⟩).rd i 0 (us.length * 1) = some us := by
      simp [Hp.rd, Hp.new, hne, h4]
    refine ⟨.slice (some ⟨h.nx + 1, 0, some 0⟩) (us.length + 1) (us.length + 1), (((h.new ⟨[u], true, e2⟩)).del i).new ⟨us ++ [u], true, 1⟩, ?_, .inr ⟨h.nx + 1, ?_, ?_, ?_, ?_, by simp, by simp [hu, h6]⟩, ?_⟩
    · simp only [stepK, hrd]
      have hg : (h.new ⟨[u], true, e2⟩).get i = some ⟨us, true, 1⟩ := by simp [Hp.new, hne, h4]
      simp only [appA]
      rw [if_pos ⟨by simp, hall, by omega, hb, hl⟩]
      simp only [Nat.one_ne_zero, if_false, show ¬ (us.length + 1 ≤ us.length) by omega, if_neg hlen, hold, hg]
      simp [h6, Hp.del, Hp.new]
    · have := x.1; omega
    · simp [Hp.new, Hp.del]
    · simp
    · simp [Hp.new, Hp.del]
    · refine ⟨by have := x.1; simp [Hp.new, Hp.del]; omega, fun k hk => ?_⟩
      have := x.1
      have e1 : ¬ k = h.nx + 1 := by omega
      have e2 : ¬ k = i := by omega
      have e3 : ¬ k = h.nx := by omega
      simp only [Hp.new, Hp.del, e1, e2, e3, if_false]
      exact x.2 k hk

/-- A loop whose frame at each round's head is known by a list of slots. -/
def roundE {γ : Type} (E : γ → Env) (H : γ → Hp → Prop) (mu : γ → Nat) (k : Nat) (Q : Exit → Env → Hp → Prop) : Exit → Env → Hp → Prop
  | .normal, env, h => ∃ g, EnvLe (E g) env ∧ H g h ∧ mu g < k
  | e, env, h => Q e env h
theorem ai_loopE {n : Nat} {x : IC} {Q : Exit → Env → Hp → Prop} {γ : Type} (E : γ → Env) (H : γ → Hp → Prop) (mu : γ → Nat) (g0 : γ) (hE : EnvLe (E g0) env) (hH : H g0 h) (round : ∀ g h, H g h → AI P n x (E g) h (roundE E H mu (mu g) Q)) : AI P n (.loop x) env h Q := by
  refine ai_loop (fun env h k => ∃ g, EnvLe (E g) env ∧ H g h ∧ mu g = k) (k0 := mu g0) ⟨g0, hE, hH, rfl⟩ ?_
  rintro env h k ⟨g, h1, h2, rfl⟩
  refine (AI.weak h1 (round g h h2)).mono ?_
  intro e env' h' q
  cases e with
  | normal => obtain ⟨g', k1, k2, k3⟩ := q; exact ⟨mu g', k3, g', k1, k2, rfl⟩
  | exit i => exact q
  | goto i => exact q
  | ret => exact q
  | panic c => exact q
  | outgrown => exact q
/-- Ways that meet again: what is known there. -/
theorem ai_join {n : Nat} {x y : IC} {Q : Exit → Env → Hp → Prop} {γ : Type} (L : γ → Env) (H : γ → Hp → Prop) (h1 : AI P n x env h (fun e env' h' => e = .normal ∧ ∃ g, EnvLe (L g) env' ∧ H g h')) (h2 : ∀ g h', H g h' → AI P n y (L g) h' Q) : AI P n (.seq x y) env h Q := by
  refine ai_seq (h1.mono ?_)
  rintro e env' h' ⟨rfl, g, hl, hH⟩
  exact AI.weak hl (h2 g h' hH)
theorem ai_seq_skip {n : Nat} {x : IC} {Q : Exit → Env → Hp → Prop} (a : AI P n x env h Q) : AI P n (.seq .skip x) env h Q := ai_seq (ai_skip a)
/-! What one operation comes to, for an operation with a guard as well. -/
theorem o_v {v2 : Value} (e : opS env k xs h = some (v, h')) (hv : v = v2) : opS env k xs h = some (v2, h') := by subst hv; exact e
theorem o_w {x : Int} (e : opS env k xs h = some (.int .i64 (IntKind.i64.wrap x), h')) (hx : -9223372036854775808 ≤ x ∧ x ≤ 9223372036854775807) : opS env k xs h = some (.int .i64 x, h') := o_v e (by rw [wrap_i64' hx.1 hx.2])
theorem o_iad {i o len cap : Nat} {sp : Option Nat} {kk : IntKind} {x : Int} {esz : Nat} (e : mapE env xs = some [.slice (some ⟨i, o, sp⟩) len cap, .int kk x]) (hx : 0 ≤ x ∧ x < len) :
    opS env (.iad esz) xs h = some (.pointer (some ⟨i, o + x.toNat * esz, none⟩), h) := by
  unfold opS
  rw [e]
  simp only [stepK, if_pos hx]
theorem o_iaa {i o len : Nat} {kk : IntKind} {x : Int} {esz : Nat} (e : mapE env xs = some [.pointer (some ⟨i, o, none⟩), .int kk x]) (hx : 0 ≤ x ∧ x < len) :
    opS env (.iaa len esz) xs h = some (.pointer (some ⟨i, o + x.toNat * esz, none⟩), h) := by
  unfold opS
  rw [e]
  simp only [stepK, if_pos hx]
theorem o_ld {i o : Nat} (e : mapE env xs = some [.pointer (some ⟨i, o, none⟩)]) (hr : h.rd i o 1 = some [v]) : opS env .ld1 xs h = some (v, h) := by
  unfold opS
  rw [e]
  simp only [stepK, hr]
theorem o_ldn {i o c : Nat} {us : List Value} (e : mapE env xs = some [.pointer (some ⟨i, o, none⟩)]) (hr : h.rd i o c = some us) : opS env (.ldn c) xs h = some (.agg ⟨us⟩, h) := by
  unfold opS
  rw [e]
  simp only [stepK, hr, Option.map_some]
theorem o_st {i o c : Nat} {u : Value} (e : mapE env xs = some [.pointer (some ⟨i, o, none⟩), u]) (hs : u.cells.size = c) (hw : h.wr i o u.cells.toList = some h') : opS env (.st c) xs h = some (undef, h') := by
  unfold opS
  rw [e]
  simp only [stepK, hs, if_true, hw, Option.map_some]
theorem o_rem {kk : IntKind} {a b : Int} (e : mapE env xs = some [.int kk a, .int kk b]) (ha : 0 ≤ a) (hb : 0 < b) : opS env (.bin .rem) xs h = some (.int kk (a % b), h) := by
  unfold opS
  rw [e]
  have : kk = kk ∧ b ≠ 0 := ⟨rfl, by omega⟩
  show (if kk = kk ∧ b ≠ 0 then some (Value.int kk (a.tmod b)) else none).map (·, h) = _
  rw [if_pos this, Int.tmod_eq_emod_of_nonneg ha]
  rfl
/-- In a region whose order is open: one operation, with nothing to be made again. -/
theorem dr {ix : Nat} {eff : Bool} {L : List DE} (e : opS env k xs h = some (v, h')) (n : wpD P CT L (env.put d v) h' Q) : wpD P CT (⟨ix, ⟨d, none, .op k xs⟩, eff, []⟩ :: L) env h Q := by
  unfold opS at e
  unfold wpD wpIn
  simp only [wanted]
  split at e
  · next vs hv => simp only [hv, e]; exact ⟨trivial, n⟩
  · cases e
theorem drT {ix t : Nat} {b c : Bool} {eff : Bool} {L : List DE} (g : env.get t = some (.bool c)) (hc : (c == b) = true) (e : opS env k xs h = some (v, h')) (n : wpD P CT L (env.put d v) h' Q) : wpD P CT (⟨ix, ⟨d, some (t, b), .op k xs⟩, eff, []⟩ :: L) env h Q := by
  unfold opS at e
  unfold wpD wpIn
  simp only [wanted, g, hc]
  split at e
  · next vs hv => simp only [hv, e]; exact ⟨trivial, n⟩
  · cases e
theorem drF {ix t : Nat} {b c : Bool} {eff : Bool} {ik : IK} {L : List DE} (g : env.get t = some (.bool c)) (hc : (c == b) = false) (n : wpD P CT L (env.put d undef) h Q) : wpD P CT (⟨ix, ⟨d, some (t, b), ik⟩, eff, []⟩ :: L) env h Q := by
  unfold wpD wpIn
  simp only [wanted, g, hc]
  exact ⟨trivial, n⟩
/-- A call of which no read is to be made again. -/
theorem drC {ix : Nat} {eff : Bool} {f : FuncId} {L : List DE} (e : mapE env xs = some vs) (c : CT f vs h fun v h' => wpD P CT L (env.put d v) h' Q) (hm : ∀ (R R' : Value → Hp → Prop), (∀ v h', R v h' → R' v h') → CT f vs h R → CT f vs h R') : wpD P CT (⟨ix, ⟨d, none, .call f xs⟩, eff, []⟩ :: L) env h Q := by
  unfold wpD wpIn
  simp only [wanted, e]
  exact hm _ _ (fun v h' n => ⟨trivial, n⟩) c
/-- Nothing is known of memory: the empty abstract heap. -/
def Hp.empty : Hp := ⟨fun _ => none, 0⟩
theorem Sim.empty (W : World) (t : Tb W.heap.size W) : Sim W.heap.size W ⟨fun _ => none, fun _ => none⟩ Hp.empty W :=
  ⟨Bel.refl t, Nat.le_refl _, fun _ _ => rfl, fun _ _ e => (by cases e), MS.empty _ _ _ _, fun _ _ e _ => (by cases e), fun _ _ _ _ _ _ e => (by cases e)⟩
/-- A law of numbers: from its contract over the empty heap to the true call. -/
theorem law_plain {f : FuncId} {args : List Value} (c : ACall P f args Hp.empty (fun v _ => v = .bool true)) (hf : flatL args = true) (W : World) (t : Tb W.heap.size W := by first | exact fun _ _ => trivial | assumption) :
    Calls P f args.toArray W fun e W' => e = .returned (.bool true) ∧ Below W.heap.size W W' := by
  refine (c.2 W.heap.size W ⟨fun _ => none, fun _ => none⟩ W args (RVs.of_flat hf) (Sim.empty W t)).mono ?_
  rintro e W' ⟨m', v, v', h', rfl, _, rv, s, rfl⟩
  cases rv
  exact ⟨rfl, s.below.bl⟩
end
end Go.Proofs.YtnebdnbglggdkaaDoorW.Am
