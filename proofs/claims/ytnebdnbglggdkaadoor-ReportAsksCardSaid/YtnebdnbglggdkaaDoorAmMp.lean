/- Maps whose keys are strings. -/
import Derived.Test.YtnebdnbglggdkaaDoorAmM
import Derived.Laws.StructEq
namespace Go.Proofs.YtnebdnbglggdkaaDoorW.Am
open Go Go.RowKit
def entE (es : List MapEntry) : List Value := es.flatMap fun e => [e.key, e.val]
theorem entL_eq (es : Array MapEntry) : entL es = entE es.toList := rfl
theorem find_none {k : ByteArray} : ∀ {es : List MapEntry} {i : Nat}, mfind k (entE es) = some none → Instr.findNow .string (.string k) es i = some none
  | [], _, _ => rfl
  | e :: es, i, h => by
    obtain ⟨key, val, born⟩ := e
    cases key <;> simp only [entE, List.flatMap_cons, List.cons_append, List.nil_append, mfind, reduceCtorEq] at h
    next s =>
    split at h
    · cases h
    · next hc =>
      have hc : (k == s) = false := by simpa using hc
      simp only [Instr.findNow, Instr.sameNow, hc]
      exact find_none (es := es) h
theorem find_some {k : ByteArray} {v : Value} : ∀ {es : List MapEntry} {i : Nat}, mfind k (entE es) = some (some v) → ∃ j, Instr.findNow .string (.string k) es i = some (some (j, v))
  | [], _, h => by simp [entE, mfind] at h
  | e :: es, i, h => by
    obtain ⟨key, val, born⟩ := e
    cases key <;> simp only [entE, List.flatMap_cons, List.cons_append, List.nil_append, mfind, reduceCtorEq] at h
    next s =>
    split at h
    · next hc =>
      simp only [Option.some.injEq] at h
      subst h
      exact ⟨i, by simp [Instr.findNow, Instr.sameNow, hc]⟩
    · next hc =>
      have hc : (k == s) = false := by simpa using hc
      simp only [Instr.findNow, Instr.sameNow, hc]
      exact find_some (es := es) h
theorem put_of {k : ByteArray} {x : Value} : ∀ {es : List MapEntry} {i : Nat} {c : List Value}, mput k x (entE es) = some c →
    (Instr.findNow .string (.string k) es i = some none ∧ c = entE es ++ [.string k, x]) ∨
    ∃ j e s, es[j]? = some e ∧ e.key = .string s ∧ (k == s) = true ∧ Instr.findNow .string (.string k) es i = some (some (i + j, e.val)) ∧ c = entE (es.set j { e with key := .string k, val := x })
  | [], i, c, h => by
    simp only [entE, List.flatMap_nil, mput, Option.some.injEq] at h
    subst h
    exact .inl ⟨rfl, rfl⟩
  | e :: es, i, c, h => by
    obtain ⟨key, val, born⟩ := e
    cases key <;> simp only [entE, List.flatMap_cons, List.cons_append, List.nil_append, mput, reduceCtorEq] at h
    next s =>
    split at h
    · next hc =>
      simp only [Option.some.injEq] at h
      subst h
      exact .inr ⟨0, _, s, rfl, rfl, hc, by simp [Instr.findNow, Instr.sameNow, hc], by simp [entE]⟩
    · next hc =>
      have hc : (k == s) = false := by simpa using hc
      simp only [Option.map_eq_some_iff] at h
      obtain ⟨c', h', rfl⟩ := h
      rcases put_of (es := es) (i := i + 1) h' with ⟨h1, h2⟩ | ⟨j, e, s', h1, h2, h3, h4, h5⟩
      · refine .inl ⟨by simp only [Instr.findNow, Instr.sameNow, hc]; exact h1, ?_⟩
        rw [h2]
        simp [entE]
      · refine .inr ⟨j + 1, e, s', by simpa using h1, h2, h3, ?_, ?_⟩
        · simp only [Instr.findNow, Instr.sameNow, hc, h4]
          rw [show i + 1 + j = i + (j + 1) by omega]
        · rw [h5]
          simp [entE]
section
variable {P : Program} {base : Nat} {w0 w : World} {m : Mu} {h : Hp}
theorem Sim.newMap (s : Sim base w0 m h w) : m.le ⟨m.f, fun j => if j = h.nx then some w.heap.size else m.mp j⟩ ∧ Sim base w0 ⟨m.f, fun j => if j = h.nx then some w.heap.size else m.mp j⟩ (h.new ⟨[], false, 0⟩) { w with heap := w.heap.push (.map #[] 0) } := by
  have hle : m.le ⟨m.f, fun j => if j = h.nx then some w.heap.size else m.mp j⟩ := ⟨fun _ _ e => e, fun i b e => by
    show (if i = h.nx then some w.heap.size else m.mp i) = some b
    rw [if_neg (by have := s.ms.nx e; omega)]; exact e⟩
  refine ⟨hle, s.below.trans ⟨rfl, rfl, rfl, by simp, fun k hk => heap_push_old (Nat.lt_of_lt_of_le hk s.big)⟩ (fun _ => Nat.le_refl _), by simp; have := s.big; omega, fun i hi => s.fresh i (by simp only [Hp.new] at hi; omega), fun i l e => by have := s.lt i l e; simp; omega, ?_, ?_, ?_⟩
  · refine ⟨fun i hi => ?_, fun i l e => ?_, fun i b e => ?_, fun i j b e e' => ?_⟩
    · simp only [Hp.new] at hi
      show (if i = h.nx then some w.heap.size else m.mp i) = none
      rw [if_neg (by omega)]
      exact s.ms.fr i (by omega)
    · show (if i = h.nx then some w.heap.size else m.mp i) = none
      have hf : m.f i = some l := e
      rw [if_neg (fun hi => by rw [hi, s.fresh _ (Nat.le_refl _)] at hf; cases hf)]
      exact s.ms.ex i l e
    · have e : (if i = h.nx then some w.heap.size else m.mp i) = some b := e
      split at e
      · next hi =>
        cases e
        subst hi
        exact ⟨⟨[], false, 0⟩, #[], 0, by simp [Hp.new], heap_push_new, rfl, s.big⟩
      · next hi =>
        obtain ⟨ob, es, ck, h1, h2, h3, h4⟩ := s.ms.lv i b e
        refine ⟨ob, es, ck, by simp only [Hp.new]; rw [if_neg hi]; exact h1, ?_, h3, h4⟩
        exact (heap_push_old (Array.getElem?_eq_some_iff.1 h2).1).trans h2
    · have e : (if i = h.nx then some w.heap.size else m.mp i) = some b := e
      have e' : (if j = h.nx then some w.heap.size else m.mp j) = some b := e'
      have key : ∀ i b, m.mp i = some b → b < w.heap.size := fun i b e => by
        obtain ⟨_, _, _, _, h2, _⟩ := s.ms.lv i b e
        exact (Array.getElem?_eq_some_iff.1 h2).1
      split at e <;> split at e'
      · next h1 h2 => exact h1.trans h2.symm
      · cases e; have := key _ _ e'; omega
      · cases e'; have := key _ _ e; omega
      · exact s.ms.ap i j b e e'
  · intro i ob e hno
    have hno : (if i = h.nx then some w.heap.size else m.mp i) = none := hno
    split at hno
    · cases hno
    · next hi =>
      simp only [Hp.new] at e
      rw [if_neg hi] at e
      obtain ⟨l, hl, h1, h2⟩ := s.obs i ob e hno
      have hlt := s.lt i l hl
      refine ⟨l, hl, fun j v ej => ?_, fun r => ⟨(h2 r).1, ?_⟩⟩
      · obtain ⟨v', hv, rv⟩ := h1 j v ej
        refine ⟨v', ?_, rv.mono hle⟩
        unfold World.cell? at hv ⊢
        rw [show ((w.heap.push _)[l.blk]? : Option Obj) = _ from heap_push_old hlt]; exact hv
      · obtain ⟨c, el, g, h3, h4⟩ := (h2 r).2
        exact ⟨c, el, g, by rw [show ((w.heap.push _)[l.blk]? : Option Obj) = _ from heap_push_old hlt]; exact h3, h4⟩
  · intro i j a b l l' ei ej hij ra el el'
    have el : m.f i = some l := el
    have el' : m.f j = some l' := el'
    simp only [Hp.new] at ei ej
    rw [if_neg (fun hi => by rw [hi, s.fresh _ (Nat.le_refl _)] at el; cases el)] at ei
    rw [if_neg (fun hi => by rw [hi, s.fresh _ (Nat.le_refl _)] at el'; cases el')] at ej
    exact s.apart i j a b l l' ei ej hij ra el el'
theorem Sim.setMap (s : Sim base w0 m h w) {i b : Nat} {ob : Ob} {es' : Array MapEntry} {ck' : Nat} {c : List Value} (hi : h.get i = some ob) (hb : m.mp i = some b) (he : entL es' = c) : Sim base w0 m (h.put i ⟨c, ob.rw, ob.esz⟩) { w with heap := w.heap.setIfInBounds b (.map es' ck') } := by
  obtain ⟨ob', es, ck, h1, h2, h3, h4⟩ := s.ms.lv i b hb
  rw [hi] at h1; cases h1
  have hlt : b < w.heap.size := (Array.getElem?_eq_some_iff.1 h2).1
  have same : ∀ k, k ≠ b → (w.heap.setIfInBounds b (.map es' ck'))[k]? = w.heap[k]? := fun k hk => by rw [Array.getElem?_setIfInBounds, if_neg (fun e => hk e.symm)]
  refine ⟨s.below.trans ⟨rfl, rfl, rfl, by simp, fun k hk => same k (by omega)⟩ (fun _ => Nat.le_refl _), by simp; exact s.big, s.fresh, fun k q hq => by simp; exact s.lt k q hq, ?_, ?_, ?_⟩
  · refine ⟨s.ms.fr, s.ms.ex, fun k b2 e => ?_, s.ms.ap⟩
    by_cases hk : k = i
    · subst hk
      rw [hb] at e; cases e
      exact ⟨⟨c, ob.rw, ob.esz⟩, es', ck', by simp [Hp.put], by simp [hlt], he, h4⟩
    · obtain ⟨ob2, es2, ck2, g1, g2, g3, g4⟩ := s.ms.lv k b2 e
      have hne : b2 ≠ b := fun eb => hk (s.ms.ap k i b (by rw [← eb]; exact e) hb)
      exact ⟨ob2, es2, ck2, by simp only [Hp.put]; rw [if_neg hk]; exact g1, (same b2 hne).trans g2, g3, g4⟩
  · intro k o ek hno
    have hk : k ≠ i := fun e => by rw [e, hb] at hno; cases hno
    simp only [Hp.put] at ek
    rw [if_neg hk] at ek
    obtain ⟨q, hq, g1, g2⟩ := s.obs k o ek hno
    refine ⟨q, hq, fun n x ex => ?_, fun r => ⟨(g2 r).1, ?_⟩⟩
    · obtain ⟨x', hx, rx⟩ := g1 n x ex
      refine ⟨x', ?_, rx⟩
      have hne : q.blk ≠ b := fun eb => by unfold World.cell? at hx; simp only [eb, h2] at hx; cases hx
      unfold World.cell? at hx ⊢
      rw [show ((w.heap.setIfInBounds b _)[q.blk]? : Option Obj) = _ from same q.blk hne]; exact hx
    · obtain ⟨c', e', f', g3, g5⟩ := (g2 r).2
      have hne : q.blk ≠ b := fun eb => by rw [eb, h2] at g3; cases g3
      exact ⟨c', e', f', (same q.blk hne).trans g3, g5⟩
  · intro k n a d p q ek en hkn ra ep eq
    simp only [Hp.put] at ek en
    rw [if_neg (fun e => by have := s.ms.ex _ _ ep; rw [e, hb] at this; cases this)] at ek
    rw [if_neg (fun e => by have := s.ms.ex _ _ eq; rw [e, hb] at this; cases this)] at en
    exact s.apart k n a d p q ek en hkn ra ep eq
theorem op_makeMap {t : TypeId} {r : Option Operand} {ρ : Operand → Value} {ty : TypeId} {dst : Option Tmp} {pos : String} {after : Array Edge} {guard : Option (Nat × Bool)} {k : K} {xs : List Operand} {vs : List Value} {v : Value} {h' : Hp}
    (s : Sim base w0 m h w) (hc : compOp P (.makeMap t r) = some (k, xs)) (hv : RVs m vs (xs.map ρ)) (e : stepK k vs h = some (v, h')) : Snd1 P base w0 m w (execOp ρ ⟨dst, .makeMap t r, ty, pos, after, guard⟩) v h' := by
  cases r with
  | some r => simp [compOp] at hc
  | none =>
  cases hc
  obtain rfl := RVs.r_nil hv
  cases e
  obtain ⟨h1, h2⟩ := s.newMap
  exact ⟨_, .map (some w.heap.size), _, .inl rfl, h1, .mapv (by simp), h2⟩
theorem run_getMap {b : Nat} {es : Array MapEntry} {ck : Nat} (hb : w.heap[b]? = some (Obj.map es ck)) : (getObj b).run P w = .ok (.map es ck) w := by
  simp [getObj, Sem.run, hb]
theorem run_setMap {b : Nat} {es : Array MapEntry} {ck : Nat} {o : Obj} (hb : w.heap[b]? = some (Obj.map es ck)) : (setObj b o).run P w = .ok () { w with heap := w.heap.setIfInBounds b o } := by
  simp [setObj, Sem.run, hb]
theorem run_findS {key : TypeId} {k : ByteArray} {es : List MapEntry} {r : Option (Nat × Value)} (hk : P.underlying key = some .string) (h : Instr.findNow .string (.string k) es 0 = some r) : (Instr.findKey key (.string k) es).run P w = .ok r w := by
  simp [Instr.findKey, run_underlying hk, h]
theorem run_checkN (n : Nat) {key : TypeId} {k : ByteArray} {b : Bool} (hk : P.underlying key = some .string) : (Instr.checkKey b (n + 1) key (.string k)).run P w = .ok () w := by
  simp only [Instr.checkKey, Sem.run_bind, run_underlying hk, Result.andThen_ok]
  rfl
theorem run_checkS {key : TypeId} {k : ByteArray} {b : Bool} (hk : P.underlying key = some .string) : (Instr.checkKey b 10000 key (.string k)).run P w = .ok () w := run_checkN 9999 hk
theorem op_lookup {t : TypeId} {x i : Operand} {ok : Bool} {ρ : Operand → Value} {ty : TypeId} {dst : Option Tmp} {pos : String} {after : Array Edge} {guard : Option (Nat × Bool)} {k : K} {xs : List Operand} {vs : List Value} {v : Value} {h' : Hp}
    (s : Sim base w0 m h w) (hc : compOp P (.lookup t x i ok) = some (k, xs)) (hv : RVs m vs (xs.map ρ)) (e : stepK k vs h = some (v, h')) : Snd1 P base w0 m w (execOp ρ ⟨dst, .lookup t x i ok, ty, pos, after, guard⟩) v h' := by
  simp only [compOp] at hc
  split at hc
  case h_2 => cases hc
  case h_1 key el hu =>
  split at hc
  case h_2 => cases hc
  case h_1 ei hk hi =>
  split at hc
  case h_2 => cases hc
  case h_1 z hz =>
  split at hc
  case isFalse => cases hc
  case isTrue hf =>
  cases hc
  obtain ⟨y1, y2, rfl, r1, r2⟩ := RVs.r_two hv
  cases y1 <;> simp only [stepK, reduceCtorEq] at e
  next mi =>
  cases mi with
  | none => simp at e
  | some mi =>
  cases y2 <;> simp only [reduceCtorEq] at e
  next kk =>
  have r2 := r2.scalar_string
  generalize hx : ρ x = xx at r1
  cases r1 with
  | @mapv _ b hb =>
  obtain ⟨ob, es, ck, g1, g2, g3, g4⟩ := s.ms.lv mi b hb
  rw [g1] at e
  simp only [← g3, entL_eq] at e
  have hrun : ∀ {r : Option (Nat × Value)} {q : Value × Bool}, Instr.findNow .string (.string kk) es.toList 0 = some r → (match r with | some (_, v) => (v, true) | none => (z, false)) = q →
      (Instr.lookup t (.map (some b)) (.string kk) ok).run P w = .ok (if ok then .tuple #[q.1, .bool q.2] else q.1) w := by
    intro r q h1 h2
    cases r with
    | none =>
      subst h2
      simp [Instr.lookup, run_underlying hu, run_getMap g2, run_checkS hk, run_findS hk h1, zeroValue, typeInfo, hi, hz]
    | some r =>
      subst h2
      simp [Instr.lookup, run_underlying hu, run_getMap g2, run_checkS hk, run_findS hk h1]
  have fin : ∀ {q : Value × Bool}, flat q.1 = true → (Instr.lookup t (.map (some b)) (.string kk) ok).run P w = .ok (if ok then .tuple #[q.1, .bool q.2] else q.1) w → (if ok then .tuple #[q.1, .bool q.2] else q.1) = v → h = h' → Snd1 P base w0 m w (execOp ρ ⟨dst, .lookup t x i ok, ty, pos, after, guard⟩) v h' := by
    intro q hq hr hv2 hh
    subst hh
    refine ⟨m, v, w, .inl ?_, m.le_refl, ?_, s⟩
    · simp only [execOp, hx, r2, Sem.run_bind]
      rw [hr, hv2]
      rfl
    · rw [← hv2]
      cases ok
      · exact RV.of_flat m _ hq
      · exact .tuple rfl fun j v v' e1 e2 => by
          have h3 : v = v' := Option.some.inj (e1.symm.trans e2)
          subst h3
          match j, e1 with
          | 0, e1 => cases e1; exact RV.of_flat m _ hq
          | 1, e1 => cases e1; exact .bool _
  split at e
  · next v1 hm =>
    split at e
    case isFalse => cases e
    case isTrue hfl =>
    obtain ⟨j, hj⟩ := find_some (i := 0) hm
    simp only [Option.some.injEq, Prod.mk.injEq] at e
    exact fin (q := (v1, true)) hfl (hrun hj rfl) e.1 e.2
  · next hm =>
    simp only [Option.some.injEq, Prod.mk.injEq] at e
    exact fin (q := (z, false)) hf (hrun (find_none (i := 0) hm) rfl) e.1 e.2
  · cases e
theorem beq_sym {a b : ByteArray} (h : (a == b) = true) : (b == a) = true := by
  rw [beq_toListBytes, beq_iff_eq] at *
  exact h.symm
theorem op_mapUpdate {t : TypeId} {x y z : Operand} {ρ : Operand → Value} {ty : TypeId} {dst : Option Tmp} {pos : String} {after : Array Edge} {guard : Option (Nat × Bool)} {k : K} {xs : List Operand} {vs : List Value} {v : Value} {h' : Hp}
    (s : Sim base w0 m h w) (hc : compOp P (.mapUpdate t x y z) = some (k, xs)) (hv : RVs m vs (xs.map ρ)) (e : stepK k vs h = some (v, h')) : Snd1 P base w0 m w (execOp ρ ⟨dst, .mapUpdate t x y z, ty, pos, after, guard⟩) v h' := by
  simp only [compOp] at hc
  split at hc
  case h_2 => cases hc
  case h_1 key el hu =>
  split at hc
  case h_2 => cases hc
  case h_1 hk =>
  cases hc
  obtain ⟨y1, y2, y3, rfl, r1, r2, r3⟩ := RVs.r_three hv
  cases y1 <;> simp only [stepK, reduceCtorEq] at e
  next mi =>
  cases mi with
  | none => simp at e
  | some mi =>
  cases y2 <;> simp only [reduceCtorEq] at e
  next kk =>
  have r2 := r2.scalar_string
  split at e
  case isFalse => cases e
  case isTrue hfl =>
  have r3 := r3.flat_eq hfl
  generalize hx : ρ x = xx at r1
  cases r1 with
  | @mapv _ b hb =>
  obtain ⟨ob, es, ck, g1, g2, g3, g4⟩ := s.ms.lv mi b hb
  rw [g1] at e
  simp only [← g3, entL_eq] at e
  split at e
  case h_2 => cases e
  case h_1 c hput =>
  simp only [Option.some.injEq, Prod.mk.injEq] at e
  obtain ⟨rfl, rfl⟩ := e
  rcases put_of (i := 0) hput with ⟨h1, h2⟩ | ⟨j, en, s2, h1, h2, h3, h4, h5⟩
  · have hr : (Instr.mapUpdate t (.map (some b)) (.string kk) y3).run P w = .ok () { w with heap := w.heap.setIfInBounds b (.map (es.push { key := .string kk, val := y3, born := ck }) (ck + 1)) } := by
      simp [Instr.mapUpdate, run_underlying hu, run_getMap g2, run_checkS hk, run_findS hk h1, run_setMap g2]
    refine ⟨m, undef, _, .inr ⟨?_, rfl⟩, m.le_refl, .tuple rfl (by simp), s.setMap g1 hb (es' := es.push { key := .string kk, val := y3, born := ck }) (ck' := ck + 1) ?_⟩
    · simp only [execOp, hx, r2, r3, Sem.run_bind, hr]
      rfl
    · rw [h2, entL_eq]
      simp [entE]
  · rw [Nat.zero_add] at h4
    have hj : es[j]? = some en := by simpa using h1
    have hr : (Instr.mapUpdate t (.map (some b)) (.string kk) y3).run P w = .ok () { w with heap := w.heap.setIfInBounds b (.map (es.modify j fun e => { e with key := .string kk, val := y3 }) ck) } := by
      have hks : (Instr.keyThatStays (.string s2) (.string kk)).run P w = .ok (.string kk) w := by
        simp [Instr.keyThatStays, Instr.sameBits, beq_sym h3]
      simp [Instr.mapUpdate, run_underlying hu, run_getMap g2, run_checkS hk, run_findS hk h4, hj, h2, hks, run_setMap g2]
    refine ⟨m, undef, _, .inr ⟨?_, rfl⟩, m.le_refl, .tuple rfl (by simp), s.setMap g1 hb (es' := es.modify j fun e => { e with key := .string kk, val := y3 }) (ck' := ck) ?_⟩
    · simp only [execOp, hx, r2, r3, Sem.run_bind, hr]
      rfl
    · rw [h5, entL_eq]
      congr 1
      rw [Array.toList_modify]
      refine List.ext_getElem? fun n => ?_
      rw [List.getElem?_modify, List.getElem?_set]
      by_cases hn : j = n
      · subst hn
        have hl := (List.getElem?_eq_some_iff.1 h1).1
        simp [h1]
        simpa using hl
      · simp [hn]
end
end Go.Proofs.YtnebdnbglggdkaaDoorW.Am
