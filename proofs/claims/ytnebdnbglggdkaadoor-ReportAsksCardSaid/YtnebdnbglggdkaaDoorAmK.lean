/- The operations, seventh part: copy, clear, make, and what is left. -/
import Derived.Test.YtnebdnbglggdkaaDoorAmJ
namespace Go.Proofs.YtnebdnbglggdkaaDoorW.Am
open Go Go.RowKit
section
variable {P : Program} {base : Nat} {w0 w : World} {m : Mu} {h : Hp}

theorem RVs.length_eq {a a' : List Value} (hr : RVs m a a') : a'.length = a.length := hr.1.symm

theorem snd_cpy (s : Sim base w0 m h w) {t u ty el : TypeId} {ti : TypeInfo} {esz len cap n c : Nat} {a b : Option Addr} {x y : Value} {xs : List Value} {h' : Hp} {v : Value}
    (hu : P.underlying t = some (.slice el)) (hi : P.info? el = some ti) (hn : ti.size = esz) (rx : RV m (.slice a len cap) x) (ry : RV m (.slice b n c) y)
    (hrd : rdS h b (Nat.min n len * esz) = some xs)
    (e : stepK (.cpy esz) [.slice a len cap, .slice b n c] h = some (v, h')) :
    Snd P base w0 m w (Builtin.copy_ #[t, u] ty #[x, y]) v h' := by
  simp only [stepK, hrd] at e
  obtain ⟨xs', hr, hf'⟩ := firstS (P := P) s ry hrd
  have hf := hf' w.drawn
  have hy : (Builtin.lenOf y).run P w = .ok n w := by cases ry <;> rfl
  have hx : ∃ a' c', x = .slice a' len c' ∧ (a = none → a' = none) := by
    cases rx with
    | nils => exact ⟨_, _, rfl, fun _ => rfl⟩
    | slice hl => exact ⟨_, _, rfl, fun h => by cases h⟩
    | sliceX hl => exact ⟨_, _, rfl, fun h => by cases h⟩
    | sliceZ hl => exact ⟨_, _, rfl, fun h => by cases h⟩
    | sliceY b hl => exact ⟨_, _, rfl, fun h => by cases h⟩
  obtain ⟨a', c', rfl, hnone⟩ := hx
  have hrun : ∀ w', (match a' with | some q => storeCells q xs' | none => pure ()).run P w = .ok () w' → (Builtin.copy_ #[t, u] ty #[.slice a' len c', y]).run P w = .ok (.int .i64 (Nat.min n len)) w' := by
    intro w' hst
    cases a' with
    | none => simp only [Sem.run_pure] at hst; cases hst; simp [Builtin.copy_, run_underlying hu, hy, sizeOf, typeInfo, hi, hn, hf, goInt]
    | some q => simp [Builtin.copy_, run_underlying hu, hy, sizeOf, typeInfo, hi, hn, hf, hst, goInt]
  by_cases h0 : xs = []
  · subst h0
    have hx0 : xs' = [] := List.eq_nil_of_length_eq_zero (by rw [← hr.1]; rfl)
    subst hx0
    have he : v = .int .i64 (Nat.min n len) ∧ h' = h := by
      cases a with
      | none => simp at e; exact ⟨e.1.symm, e.2.symm⟩
      | some ad => obtain ⟨i, o, sp⟩ := ad; simp at e; exact ⟨e.1.symm, e.2.symm⟩
    obtain ⟨rfl, rfl⟩ := he
    exact Snd.pure s (hrun w (by cases a' <;> rfl)) (.int _ _)
  · cases a with
    | none => simp [h0] at e
    | some ad =>
      obtain ⟨i, o, sp⟩ := ad
      simp only [h0, if_false, Option.map_eq_some_iff] at e
      obtain ⟨h2, hw, he⟩ := e
      cases he
      have hlen0 : len ≠ 0 := by
        intro hz
        subst hz
        have : Nat.min n 0 * esz = 0 := by simp
        rw [this] at hrd
        unfold rdS at hrd
        cases b with
        | none => cases hrd; exact h0 rfl
        | some q => simp at hrd; exact h0 hrd
      have hq : ∃ l, m i = some l ∧ a' = some ⟨l.blk, l.off + o, none⟩ := by
        cases rx with
        | slice hl => exact ⟨_, hl, rfl⟩
        | sliceX hl => exact ⟨_, hl, rfl⟩
        | sliceZ hl => exact absurd rfl hlen0
        | sliceY b hl => exact absurd rfl hlen0
      obtain ⟨l, hl, rfl⟩ := hq
      obtain ⟨w', hst, _, _, hs⟩ := run_wr (P := P) s hl hw hr
      exact ⟨m, _, w', hrun w' hst, m.le_refl, .int _ _, hs⟩

theorem snd_clr (s : Sim base w0 m h w) {t ty el : TypeId} {ti : TypeInfo} {z : Value} {esz n c : Nat} {a : Option Addr} {x : Value} {h' : Hp} {v : Value}
    (hu : P.underlying t = some (.slice el)) (hi : P.info? el = some ti) (hz : ti.zero = some z) (hf : flatL z.cells.toList = true) (rx : RV m (.slice a n c) x)
    (e : stepK (.clr esz z) [.slice a n c] h = some (v, h')) :
    Snd P base w0 m w (Builtin.clear_ #[t] ty #[x]) v h' := by
  simp only [stepK] at e
  have ht : RV m (.tuple #[]) (.tuple #[]) := .tuple rfl (by simp)
  cases a with
  | none =>
    cases e
    cases rx
    exact Snd.pure s (v' := .tuple #[]) (by simp [Builtin.clear_, run_underlying hu]) ht
  | some ad =>
    obtain ⟨i, o, sp⟩ := ad
    simp only at e
    split at e
    · next h0 =>
      subst h0
      cases e
      cases rx <;> exact Snd.pure s (v' := .tuple #[]) (by simp [Builtin.clear_, run_underlying hu]) ht
    · next h0 =>
      split at e
      case isFalse => cases e
      case isTrue hsz =>
      simp only [Option.map_eq_some_iff] at e
      obtain ⟨h2, hw, he⟩ := e
      cases he
      have hq : ∃ l c', m i = some l ∧ x = .slice (some ⟨l.blk, l.off + o, none⟩) n c' := by
        cases rx with
        | slice hl => exact ⟨_, _, hl, rfl⟩
        | sliceX hl => exact ⟨_, _, hl, rfl⟩
        | sliceZ hl => exact absurd rfl h0
        | sliceY b hl => exact absurd rfl h0
      obtain ⟨l, c', hl, rfl⟩ := hq
      have hzr : RVs m (Builtin.zeroCells z.cells n).toList (Builtin.zeroCells z.cells n).toList := by
        refine ⟨rfl, fun j v v' e e' => ?_⟩
        rw [e] at e'; cases e'
        simp only [Builtin.zeroCells, Array.toList_map, List.getElem?_map, Option.map_eq_some_iff, Array.toList_range] at e
        obtain ⟨q, hq, rfl⟩ := e
        by_cases hz0 : z.cells.size = 0
        · rw [hz0, Nat.mul_zero] at hq; simp at hq
        · have hlt : q % z.cells.size < z.cells.size := Nat.mod_lt _ (by omega)
          rw [getElem!_pos z.cells _ hlt]
          refine RV.of_flat m _ (all_get hf (i := q % z.cells.size) ?_)
          simp [hlt]
      obtain ⟨w', hst, _, _, hs⟩ := run_wr (P := P) s hl hw hzr
      refine ⟨m, .tuple #[], w', ?_, m.le_refl, ht, hs⟩
      cases n with
      | zero => exact absurd rfl h0
      | succ n => simp [Builtin.clear_, run_underlying hu, zeroValue, typeInfo, hi, hz, hst]

theorem snd_mks (s : Sim base w0 m h w) {t el : TypeId} {ti : TypeInfo} {z : Value} {esz : Nat} {kl kc : IntKind} {l c : Int} {x y : Value} (hu : P.underlying t = some (.slice el)) (hi : P.info? el = some ti) (hn : ti.size = esz) (hz : ti.zero = some z) (hf : flatL z.cells.toList = true) (hzs : z.cells.size = esz)
    (rx : RV m (.int kl l) x) (ry : RV m (.int kc c) y) (h0 : 0 ≤ l) (hlc : l ≤ c) (hb : (ti.bytes : Int) * c ≤ 140737488355328) (hc : c ≤ 140737488355328) :
    Snd P base w0 m w (Instr.makeSlice t x y) (.slice (some ⟨h.nx, 0, none⟩) l.toNat c.toNat) (h.new ⟨(madeCells z.cells (c.toNat * esz)).toList, true, esz⟩) := by
  obtain rfl := rx.scalar_int
  obtain rfl := ry.scalar_int
  have hr : RVs m (madeCells z.cells (c.toNat * esz)).toList (madeCells z.cells (c.toNat * esz)).toList := by
    refine ⟨rfl, fun j v v' e e' => ?_⟩
    rw [e] at e'; cases e'
    simp only [madeCells, Array.toList_map, List.getElem?_map, Option.map_eq_some_iff, Array.toList_range] at e
    obtain ⟨q, hq, rfl⟩ := e
    by_cases hz0 : z.cells.size = 0
    · rw [← hzs, hz0, Nat.mul_zero] at hq; simp at hq
    · have hlt : q % z.cells.size < z.cells.size := Nat.mod_lt _ (by omega)
      rw [getElem!_pos z.cells _ hlt]
      refine RV.of_flat m _ (all_get hf (i := q % z.cells.size) ?_)
      simp [hlt]
  obtain ⟨h1, h2⟩ := new_obj s el esz hr
  have hrun := run_make (P := P) w t el ti z hu hi hz kl kc l c h0 hlc (by omega) (by omega)
  rw [hn] at hrun
  refine ⟨_, _, _, hrun, h1, ?_, h2⟩
  have := RV.slice (m := m.add h.nx ⟨w.heap.size, 0, 0⟩) (i := h.nx) (o := 0) (n := l.toNat) (c := c.toNat) (Mu.add_same m h.nx ⟨w.heap.size, 0, 0⟩)
  simpa using this

theorem snd_sla (s : Sim base w0 m h w) {t el : TypeId} {ti : TypeInfo} {n esz i o : Nat} {lo up mx : Option Value} {y v : Value} (hu : P.underlying t = some (.array n el)) (hi : P.info? el = some ti) (hn : ti.size = esz)
    (ry : RV m (.pointer (some ⟨i, o, none⟩)) y) (e : sliceA esz (some ⟨i, o, none⟩) n n lo up mx = some v) : Snd P base w0 m w (Instr.sliceAt t y lo up mx) v h := by
  unfold sliceA at e
  split at e
  · cases e
  next l u q hb =>
  simp only at e
  cases e
  cases ry with
  | @ptr _ _ loc hl =>
    refine Snd.pure s (v' := .slice (some (if q = l then ⟨loc.blk, loc.off + o, none⟩ else (⟨loc.blk, loc.off + o, none⟩ : Addr).add (l * esz))) (u - l) (q - l)) ?_ ?_
    · simp only [Instr.sliceAt, Sem.run_bind, run_underlying hu, Result.andThen_ok, Instr.sureAddr, Sem.run_pure, run_bounds hb, sizeOf, typeInfo, program, Sem.run]
      simp [hi, hn]
    · split
      · exact .slice hl
      · rw [add_lit']
        have := RV.slice (m := m) (i := i) (o := o + l * esz) (n := u - l) (c := q - l) hl
        rwa [← Nat.add_assoc] at this

theorem snd_sls (s : Sim base w0 m h w) {t : TypeId} {str : ByteArray} {lo up : Option Value} {y : Value} {b : Nat × Nat × Nat} (hu : P.underlying t = some .string) (ry : RV m (.string str) y) (e : bounds str.size str.size lo up none = some b) :
    Snd P base w0 m w (Instr.sliceAt t y lo up none) (.string (str.extract b.1 b.2.1)) h := by
  obtain rfl := ry.scalar_string
  obtain ⟨l, u, q⟩ := b
  refine Snd.pure s (v' := .string (str.extract l u)) ?_ (.string _)
  simp only [Instr.sliceAt, Instr.slice, Sem.run_bind, run_underlying hu, Result.andThen_ok, Option.isSome_none, Bool.false_eq_true, if_false, Sem.run_pure]
  simp [run_bounds e]

theorem snd_tas (s : Sim base w0 m h w) {xt at_ : TypeId} {d : TypeDesc} {ok : Bool} {z x y v : Value} (hu : P.underlying at_ = some d) (hd : ∀ ms, d ≠ .interface ms) (hz : ok = true → ∃ ti, P.info? at_ = some ti ∧ ti.zero = some z ∧ flat z = true) (rx : RV m x y)
    {h' : Hp} (e : stepK (.tas at_ ok z) [x] h = some (v, h')) : Snd P base w0 m w (Instr.typeAssert y xt at_ ok) v h' := by
  have zf : ok = true → RV m (.tuple #[z, .bool false]) (.tuple #[z, .bool false]) ∧ (zeroValue at_).run P w = .ok z w := by
    intro ho
    obtain ⟨ti, h1, h2, h3⟩ := hz ho
    refine ⟨?_, by simp [zeroValue, typeInfo, h1, h2]⟩
    have := RVs.cons (RV.of_flat m z h3) (RVs.cons (.bool false) (RVs.nil m))
    exact .tuple this.1 this.2
  cases rx with
  | @iface t' v1 v2 rv =>
    simp only [stepK] at e
    split at e
    · next ht =>
      subst ht
      cases ok with
      | true =>
        simp only [if_true, Option.some.injEq, Prod.mk.injEq] at e
        obtain ⟨rfl, rfl⟩ := e
        refine Snd.pure s (v' := .tuple #[v2, .bool true]) ?_ (by have := RVs.cons rv (RVs.cons (.bool true) (RVs.nil m)); exact .tuple this.1 this.2)
        cases d <;> first | exact absurd rfl (hd _) | simp [Instr.typeAssert, run_underlying hu]
      | false =>
        simp only [Bool.false_eq_true, if_false, Option.some.injEq, Prod.mk.injEq] at e
        obtain ⟨rfl, rfl⟩ := e
        refine Snd.pure s (v' := v2) ?_ rv
        cases d <;> first | exact absurd rfl (hd _) | simp [Instr.typeAssert, run_underlying hu]
    · next ht =>
      split at e
      case isFalse => cases e
      case isTrue ho =>
      simp only [Option.some.injEq, Prod.mk.injEq] at e
      obtain ⟨rfl, rfl⟩ := e
      subst ho
      obtain ⟨h1, h2⟩ := zf rfl
      refine Snd.pure s (v' := .tuple #[z, .bool false]) ?_ h1
      cases d <;> first | exact absurd rfl (hd _) | simp [Instr.typeAssert, run_underlying hu, ht, h2]
  | nili =>
    simp only [stepK] at e
    split at e
    case isFalse => cases e
    case isTrue ho =>
    simp only [Option.some.injEq, Prod.mk.injEq] at e
    obtain ⟨rfl, rfl⟩ := e
    subst ho
    obtain ⟨h1, h2⟩ := zf rfl
    refine Snd.pure s (v' := .tuple #[z, .bool false]) ?_ h1
    cases d <;> first | exact absurd rfl (hd _) | simp [Instr.typeAssert, run_underlying hu, h2]
  | _ => simp [stepK] at e

theorem nil_back {d : TypeDesc} {b c : Value} (hd : isNil d (.const c) = true) (r : RV m b c) : b = c ∧ (∀ aas, c ≠ .agg aas) ∧ ∀ (xx : Value) (t : TypeId), binOp .eql t xx c = (do pure (.bool (← Op.equal t xx c))) ∧ binOp .neq t xx c = (do pure (.bool (!(← Op.equal t xx c)))) := by
  cases d <;> cases c <;> try (exact absurd hd Bool.false_ne_true)
  case pointer.pointer el a =>
    cases a with
    | some a => exact absurd hd Bool.false_ne_true
    | none => cases r; exact ⟨rfl, by simp, fun xx t => by cases xx <;> exact ⟨rfl, rfl⟩⟩
  case slice.slice el a n k =>
    cases a with
    | some a => exact absurd hd Bool.false_ne_true
    | none => cases r; exact ⟨rfl, by simp, fun xx t => by cases xx <;> exact ⟨rfl, rfl⟩⟩
  case map.map ek el a =>
    cases a with
    | some a => exact absurd hd Bool.false_ne_true
    | none => cases r; exact ⟨rfl, by simp, fun xx t => by cases xx <;> exact ⟨rfl, rfl⟩⟩
  case func.nilFunc => cases r; exact ⟨rfl, by simp, fun xx t => by cases xx <;> exact ⟨rfl, rfl⟩⟩
  case interface.nilIface => cases r; exact ⟨rfl, by simp, fun xx t => by cases xx <;> exact ⟨rfl, rfl⟩⟩

theorem maxA_flat {mx : Bool} {x y v x' y' : Value} (e : maxA mx x y = some v) (rx : RV m x x') (ry : RV m y y') : x' = x ∧ y' = y ∧ RV m v v ∧ ((if mx then Builtin.max2 x y else Builtin.min2 x y).run P w = .ok v w) := by
  cases x <;> cases y <;> simp only [maxA] at e <;> try (cases e; done)
  split at e
  · next hk =>
    cases e
    refine ⟨rx.scalar_int, ry.scalar_int, .int _ _, ?_⟩
    cases mx <;> simp [Builtin.max2, Builtin.min2]
  · cases e
end
end Go.Proofs.YtnebdnbglggdkaaDoorW.Am
