/- The operations put together: what the abstract step says, the true run of the operation does. -/
import Derived.Test.YtnebdnbglggdkaaDoorAmK
namespace Go.Proofs.YtnebdnbglggdkaaDoorW.Am
open Go Go.RowKit

/-- What an operation's run comes to. -/
def Snd1 (P : Program) (base : Nat) (w0 : World) (m : Mu) (w : World) (s : Sem Next) (v : Value) (h' : Hp) : Prop :=
  ∃ m' v' w', (s.run P w = .ok (.value v') w' ∨ (s.run P w = .ok .skip w' ∧ v' = undef)) ∧ m.le m' ∧ RV m' v v' ∧ Sim base w0 m' h' w'

section
variable {P : Program} {base : Nat} {w0 w : World} {m : Mu} {h : Hp}

theorem snd_one {x : Sem Value} {v : Value} {h' : Hp} (k : Snd P base w0 m w x v h') : Snd1 P base w0 m w (do pure (Next.value (← x)) : Sem Next) v h' := by
  obtain ⟨m', v', w', hr, h1, h2, h3⟩ := k
  exact ⟨m', v', w', .inl (by simp [hr]), h1, h2, h3⟩

theorem RVs.r_nil {vs : List Value} (hr : RVs m vs []) : vs = [] := List.eq_nil_of_length_eq_zero hr.1
theorem RVs.r_cons {vs ys : List Value} {y : Value} (hr : RVs m vs (y :: ys)) : ∃ v us, vs = v :: us ∧ RV m v y ∧ RVs m us ys := by
  cases vs with
  | nil => have := hr.1; simp at this
  | cons v us =>
    obtain ⟨v', b', he, r1, r2⟩ := hr.cases_cons
    cases he
    exact ⟨v, us, rfl, r1, r2⟩
theorem RVs.r_one {vs : List Value} {y : Value} (hr : RVs m vs [y]) : ∃ v, vs = [v] ∧ RV m v y := by
  obtain ⟨v, us, rfl, r, hs⟩ := hr.r_cons
  obtain rfl := hs.r_nil
  exact ⟨v, rfl, r⟩
theorem RVs.r_two {vs : List Value} {y z : Value} (hr : RVs m vs [y, z]) : ∃ v u, vs = [v, u] ∧ RV m v y ∧ RV m u z := by
  obtain ⟨v, us, rfl, r, hs⟩ := hr.r_cons
  obtain ⟨u, rfl, r2⟩ := hs.r_one
  exact ⟨v, u, rfl, r, r2⟩
theorem RVs.r_three {vs : List Value} {x y z : Value} (hr : RVs m vs [x, y, z]) : ∃ t v u, vs = [t, v, u] ∧ RV m t x ∧ RV m v y ∧ RV m u z := by
  obtain ⟨t, us, rfl, r, hs⟩ := hr.r_cons
  obtain ⟨v, u, rfl, r2, r3⟩ := hs.r_two
  exact ⟨t, v, u, rfl, r, r2, r3⟩

theorem eqGuard_pure {op : BinOp} {t : TypeId} {x y : Operand} {a b : Value} (h1 : a = .nilIface → b = .nilIface → (∃ v, x = .const v) ∨ (∃ v, y = .const v)) (h2 : ∀ aas bs, a = .agg aas → b = .agg bs → False) :
    (eqGuard op t x y a b).run P w = .ok () w := by
  unfold eqGuard
  cases op <;> try rfl
  all_goals
    cases a <;> cases b <;> first
      | rfl
      | exact (h2 _ _ rfl rfl).elim
      | (obtain ⟨v, rfl⟩ | ⟨v, rfl⟩ := h1 rfl rfl <;> (try rfl) <;> (cases x <;> rfl))

theorem binA_kinds {op : BinOp} {x y v : Value} (e : binA op x y = some v) : x ≠ .nilIface ∧ (∀ aas, x ≠ .agg aas) := by
  constructor
  · rintro rfl; simp [binA] at e
  · rintro aas rfl; simp [binA] at e

/-- The optional bounds of a slice expression, as they are handed over. -/
theorem takeB_rel {o : Option Operand} {ρ : Operand → Value} {vs : List Value} {rest : List Value} {q : Option Value} {r : List Value} (hr : RVs m vs (o.toList.map ρ ++ rest)) (e : takeB o.isSome vs = some (q, r)) :
    q = o.map ρ ∧ RVs m r rest := by
  cases o with
  | none =>
    simp only [Option.isSome_none, takeB, Option.some.injEq, Prod.mk.injEq] at e
    obtain ⟨rfl, rfl⟩ := e
    exact ⟨rfl, by simpa using hr⟩
  | some x =>
    simp only [Option.toList_some, List.map_cons, List.map_nil, List.cons_append, List.nil_append] at hr
    obtain ⟨v, us, rfl, rv, hs⟩ := hr.r_cons
    simp only [Option.isSome_some] at e
    cases v <;> simp only [takeB, Option.some.injEq, Prod.mk.injEq, reduceCtorEq] at e
    obtain ⟨rfl, rfl⟩ := e
    exact ⟨by rw [Option.map_some, rv.scalar_int], hs⟩
theorem get3_rel {lo hi mx : Option Operand} {ρ : Operand → Value} {vs : List Value} {l u q : Option Value} (hr : RVs m vs ((lo.toList ++ (hi.toList ++ mx.toList)).map ρ)) (e : get3 lo.isSome hi.isSome mx.isSome vs = some (l, u, q)) :
    l = lo.map ρ ∧ u = hi.map ρ ∧ q = mx.map ρ := by
  unfold get3 at e
  split at e
  · cases e
  next l1 r1 h1 =>
  split at e
  · cases e
  next u1 r2 h2 =>
  split at e
  · next q1 h3 =>
    cases e
    simp only [List.map_append] at hr
    obtain ⟨g1, hr1⟩ := takeB_rel (o := lo) hr h1
    obtain ⟨g2, hr2⟩ := takeB_rel (o := hi) hr1 h2
    obtain ⟨g3, _⟩ := takeB_rel (o := mx) (rest := []) (by simpa using hr2) h3
    exact ⟨g1, g2, g3⟩
  · cases e


theorem op_move {x : Operand} {ρ : Operand → Value} {ty : TypeId} {dst : Option Tmp} {pos : String} {after : Array Edge} {guard : Option (Nat × Bool)} {k : K} {xs : List Operand} {vs : List Value} {v : Value} {h' : Hp}
    (s : Sim base w0 m h w) (hc : compOp P (.move x) = some (k, xs)) (hv : RVs m vs (xs.map ρ)) (e : stepK k vs h = some (v, h')) : Snd1 P base w0 m w (execOp ρ ⟨dst, .move x, ty, pos, after, guard⟩) v h' := by
  simp only [compOp, Option.some.injEq, Prod.mk.injEq] at hc
  obtain ⟨rfl, rfl⟩ := hc
  obtain ⟨a, rfl, r⟩ := RVs.r_one hv
  cases e
  exact ⟨m, ρ x, w, .inl rfl, m.le_refl, r, s⟩

theorem op_assign {x : Operand} {ρ : Operand → Value} {ty : TypeId} {dst : Option Tmp} {pos : String} {after : Array Edge} {guard : Option (Nat × Bool)} {k : K} {xs : List Operand} {vs : List Value} {v : Value} {h' : Hp}
    (s : Sim base w0 m h w) (hc : compOp P (.assign x) = some (k, xs)) (hv : RVs m vs (xs.map ρ)) (e : stepK k vs h = some (v, h')) : Snd1 P base w0 m w (execOp ρ ⟨dst, .assign x, ty, pos, after, guard⟩) v h' := by
  simp only [compOp, Option.some.injEq, Prod.mk.injEq] at hc
  obtain ⟨rfl, rfl⟩ := hc
  obtain ⟨a, rfl, r⟩ := RVs.r_one hv
  cases e
  exact ⟨m, ρ x, w, .inl rfl, m.le_refl, r, s⟩

theorem op_pick {c a b : Operand} {ρ : Operand → Value} {ty : TypeId} {dst : Option Tmp} {pos : String} {after : Array Edge} {guard : Option (Nat × Bool)} {k : K} {xs : List Operand} {vs : List Value} {v : Value} {h' : Hp}
    (s : Sim base w0 m h w) (hc : compOp P (.pick c a b) = some (k, xs)) (hv : RVs m vs (xs.map ρ)) (e : stepK k vs h = some (v, h')) : Snd1 P base w0 m w (execOp ρ ⟨dst, .pick c a b, ty, pos, after, guard⟩) v h' := by
  simp only [compOp, Option.some.injEq, Prod.mk.injEq] at hc
  obtain ⟨rfl, rfl⟩ := hc
  obtain ⟨x, y, z, rfl, r1, r2, r3⟩ := RVs.r_three hv
  cases x <;> simp only [stepK, reduceCtorEq, Option.some.injEq, Prod.mk.injEq] at e
  next t =>
  obtain ⟨rfl, rfl⟩ := e
  have hb := r1.scalar_bool
  refine ⟨m, if t then ρ a else ρ b, w, .inl ?_, m.le_refl, ?_, s⟩
  · cases t <;> simp [execOp, hb, asBool]
  · cases t <;> assumption

theorem op_alloc {el : TypeId} {ρ : Operand → Value} {ty : TypeId} {dst : Option Tmp} {pos : String} {after : Array Edge} {guard : Option (Nat × Bool)} {k : K} {xs : List Operand} {vs : List Value} {v : Value} {h' : Hp}
    (s : Sim base w0 m h w) (hc : compOp P (.alloc el) = some (k, xs)) (hv : RVs m vs (xs.map ρ)) (e : stepK k vs h = some (v, h')) : Snd1 P base w0 m w (execOp ρ ⟨dst, .alloc el, ty, pos, after, guard⟩) v h' := by
  simp only [compOp] at hc
  split at hc
  case h_2 => cases hc
  case h_1 i hi =>
  split at hc
  case h_2 => cases hc
  case h_1 z hz =>
  split at hc
  case isFalse => cases hc
  case isTrue hf =>
  cases hc
  obtain rfl := RVs.r_nil hv
  cases e
  exact snd_one (snd_new s el hi hz hf _)

theorem op_box {el : TypeId} {x : Operand} {ρ : Operand → Value} {ty : TypeId} {dst : Option Tmp} {pos : String} {after : Array Edge} {guard : Option (Nat × Bool)} {k : K} {xs : List Operand} {vs : List Value} {v : Value} {h' : Hp}
    (s : Sim base w0 m h w) (hc : compOp P (.box el x) = some (k, xs)) (hv : RVs m vs (xs.map ρ)) (e : stepK k vs h = some (v, h')) : Snd1 P base w0 m w (execOp ρ ⟨dst, .box el x, ty, pos, after, guard⟩) v h' := by
  simp only [compOp, Option.some.injEq, Prod.mk.injEq] at hc
  obtain ⟨rfl, rfl⟩ := hc
  obtain ⟨a, rfl, r⟩ := RVs.r_one hv
  cases e
  exact snd_one (snd_box s el r)

theorem op_build {t : TypeId} {parts : Array (Nat × Operand)} {ρ : Operand → Value} {ty : TypeId} {dst : Option Tmp} {pos : String} {after : Array Edge} {guard : Option (Nat × Bool)} {k : K} {xs : List Operand} {vs : List Value} {v : Value} {h' : Hp}
    (s : Sim base w0 m h w) (hc : compOp P (.build t parts) = some (k, xs)) (hv : RVs m vs (xs.map ρ)) (e : stepK k vs h = some (v, h')) : Snd1 P base w0 m w (execOp ρ ⟨dst, .build t parts, ty, pos, after, guard⟩) v h' := by
  have hm : ∀ (l : List (Nat × Operand)), (l.map fun p => (p.1, ρ p.2)).map (·.1) = l.map (·.1) ∧ (l.map fun p => (p.1, ρ p.2)).map (·.2) = (l.map (·.2)).map ρ := by
    intro l; simp [List.map_map, Function.comp_def]
  simp only [compOp] at hc
  split at hc
  · next fs it hu hi =>
    split at hc
    case h_2 => cases hc
    case h_1 z pl hz hpl =>
    split at hc
    case isFalse => cases hc
    case isTrue hf =>
    cases hc
    simp only [stepK] at e
    split at e
    case isFalse => cases e
    case isTrue hl =>
    simp only [Option.map_eq_some_iff] at e
    obtain ⟨c, hfill, he⟩ := e
    cases he
    refine snd_one (snd_bldS s hu hi hz hpl hf (ix := parts.toList.map (·.1)) (parts := parts.map fun (i, x) => (i, ρ x)) ?_ ?_ hfill)
    · rw [Array.toList_map]; exact (hm _).1
    · rw [Array.toList_map]; exact (hm _).2 ▸ hv
  · next n el it hu hi =>
    split at hc
    case h_2 => cases hc
    case h_1 z ie hz hie =>
    split at hc
    case isFalse => cases hc
    case isTrue hf =>
    cases hc
    simp only [stepK] at e
    split at e
    case isFalse => cases e
    case isTrue hl =>
    simp only [Option.map_eq_some_iff] at e
    obtain ⟨c, hfill, he⟩ := e
    cases he
    refine snd_one (snd_bldA s hu hi hz hie (places := (List.range n).map fun i => (i * ie.size, ie.size)) ?_ hf (ix := parts.toList.map (·.1)) (parts := parts.map fun (i, x) => (i, ρ x)) ?_ ?_ hfill)
    · intro i q hq
      simp only [List.getElem?_map, Option.map_eq_some_iff] at hq
      obtain ⟨j, hj, rfl⟩ := hq
      have := (List.getElem?_eq_some_iff.1 hj).2
      simp at this
      rw [this]
    · rw [Array.toList_map]; exact (hm _).1
    · rw [Array.toList_map]; exact (hm _).2 ▸ hv
  · cases hc

theorem op_buildSlice {t : TypeId} {len : Nat} {parts : Array (Nat × Operand)} {ρ : Operand → Value} {ty : TypeId} {dst : Option Tmp} {pos : String} {after : Array Edge} {guard : Option (Nat × Bool)} {k : K} {xs : List Operand} {vs : List Value} {v : Value} {h' : Hp}
    (s : Sim base w0 m h w) (hc : compOp P (.buildSlice t len parts) = some (k, xs)) (hv : RVs m vs (xs.map ρ)) (e : stepK k vs h = some (v, h')) : Snd1 P base w0 m w (execOp ρ ⟨dst, .buildSlice t len parts, ty, pos, after, guard⟩) v h' := by
  have hm : ∀ (l : List (Nat × Operand)), (l.map fun p => (p.1, ρ p.2)).map (·.1) = l.map (·.1) ∧ (l.map fun p => (p.1, ρ p.2)).map (·.2) = (l.map (·.2)).map ρ := by
    intro l; simp [List.map_map, Function.comp_def]
  simp only [compOp] at hc
  split at hc
  case h_2 => cases hc
  case h_1 el hu =>
  split at hc
  case h_2 => cases hc
  case h_1 ie hi =>
  split at hc
  case h_2 => cases hc
  case h_1 zv hz =>
  split at hc
  case isFalse => cases hc
  case isTrue hf =>
  cases hc
  simp only [stepK] at e
  split at e
  case isFalse => cases e
  case isTrue hl =>
  simp only [Option.map_eq_some_iff] at e
  obtain ⟨c, hfill, he⟩ := e
  cases he
  obtain ⟨hf1, hf2⟩ := hf
  have hb := snd_bsl (len := len) (z := zrow zv (len * ie.size)) s hu hi hz hf1 rfl hf2 (ix := parts.toList.map (·.1)) (vs := vs) (parts := parts.map fun (i, x) => (i, ρ x)) (by rw [Array.toList_map]; exact (hm _).1) (by rw [Array.toList_map]; exact (hm _).2 ▸ hv) hfill
  exact snd_one hb

theorem op_load {t : TypeId} {a : Operand} {ρ : Operand → Value} {ty : TypeId} {dst : Option Tmp} {pos : String} {after : Array Edge} {guard : Option (Nat × Bool)} {k : K} {xs : List Operand} {vs : List Value} {v : Value} {h' : Hp}
    (s : Sim base w0 m h w) (hc : compOp P (.load t a) = some (k, xs)) (hv : RVs m vs (xs.map ρ)) (e : stepK k vs h = some (v, h')) : Snd1 P base w0 m w (execOp ρ ⟨dst, .load t a, ty, pos, after, guard⟩) v h' := by
  simp only [compOp] at hc
  split at hc
  case h_2 => cases hc
  case h_1 d i hu hi =>
  simp only [Option.some.injEq, Prod.mk.injEq] at hc
  obtain ⟨hk, rfl⟩ := hc
  obtain ⟨x, rfl, r⟩ := RVs.r_one hv
  by_cases hd : isAggD d = true
  · rw [if_pos hd] at hk
    subst hk
    cases x <;> simp only [stepK, reduceCtorEq] at e
    next ad =>
    cases ad with
    | none => simp at e
    | some ad =>
      obtain ⟨i1, o1, sp⟩ := ad
      cases sp with
      | some q => simp at e
      | none =>
        simp only [Option.map_eq_some_iff] at e
        obtain ⟨c, hrd, he⟩ := e
        cases he
        exact snd_one (snd_loadn s hu hd hi rfl r hrd)
  · rw [if_neg hd] at hk
    subst hk
    cases x <;> simp only [stepK, reduceCtorEq] at e
    next ad =>
    cases ad with
    | none => simp at e
    | some ad =>
      obtain ⟨i1, o1, sp⟩ := ad
      cases sp with
      | some q => simp at e
      | none =>
        simp only at e
        split at e
        · next v0 hrd =>
          cases e
          exact snd_one (snd_load1 s hu (by simpa using hd) r hrd)
        · cases e

theorem op_store {t : TypeId} {a x : Operand} {ρ : Operand → Value} {ty : TypeId} {dst : Option Tmp} {pos : String} {after : Array Edge} {guard : Option (Nat × Bool)} {k : K} {xs : List Operand} {vs : List Value} {v : Value} {h' : Hp}
    (s : Sim base w0 m h w) (hc : compOp P (.store t a x) = some (k, xs)) (hv : RVs m vs (xs.map ρ)) (e : stepK k vs h = some (v, h')) : Snd1 P base w0 m w (execOp ρ ⟨dst, .store t a x, ty, pos, after, guard⟩) v h' := by
  simp only [compOp] at hc
  split at hc
  case h_2 => cases hc
  case h_1 i hi =>
  cases hc
  obtain ⟨y, z, rfl, r1, r2⟩ := RVs.r_two hv
  cases y <;> simp only [stepK, reduceCtorEq] at e
  next ad =>
  cases ad with
  | none => simp at e
  | some ad =>
    obtain ⟨i1, o1, sp⟩ := ad
    cases sp with
    | some q => simp at e
    | none =>
      simp only at e
      split at e
      case isFalse => cases e
      case isTrue hs =>
      simp only [Option.map_eq_some_iff] at e
      obtain ⟨h2, hw, he⟩ := e
      cases he
      obtain ⟨w', hr, hsim⟩ := run_storeVar' (P := P) s hi rfl r1 r2 hs hw
      refine ⟨m, undef, w', .inr ⟨?_, rfl⟩, m.le_refl, .tuple rfl (by simp), hsim⟩
      simp [execOp, hr]

end
end Go.Proofs.YtnebdnbglggdkaaDoorW.Am
