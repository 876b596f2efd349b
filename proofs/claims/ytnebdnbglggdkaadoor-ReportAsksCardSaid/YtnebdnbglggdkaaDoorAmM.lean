/- The operations put together, second part. -/
import Derived.Test.YtnebdnbglggdkaaDoorAmL
namespace Go.Proofs.YtnebdnbglggdkaaDoorW.Am
open Go Go.RowKit
section
variable {P : Program} {base : Nat} {w0 w : World} {m : Mu} {h : Hp}

theorem op_nilCheck {x : Operand} {ρ : Operand → Value} {ty : TypeId} {dst : Option Tmp} {pos : String} {after : Array Edge} {guard : Option (Nat × Bool)} {k : K} {xs : List Operand} {vs : List Value} {v : Value} {h' : Hp}
    (s : Sim base w0 m h w) (hc : compOp P (.nilCheck x) = some (k, xs)) (hv : RVs m vs (xs.map ρ)) (e : stepK k vs h = some (v, h')) : Snd1 P base w0 m w (execOp ρ ⟨dst, .nilCheck x, ty, pos, after, guard⟩) v h' := by
  cases hc
  obtain ⟨a, rfl, r⟩ := RVs.r_one hv
  have fin : ∀ a2, execOp ρ ⟨dst, .nilCheck x, ty, pos, after, guard⟩ = (pure (.value (ρ x)) : Sem Next) → RV m a2 (ρ x) → a2 = v → h = h' → Snd1 P base w0 m w (execOp ρ ⟨dst, .nilCheck x, ty, pos, after, guard⟩) v h' := by
    intro a2 hx ra hav hhh
    subst hav hhh
    exact ⟨m, ρ x, w, .inl (by rw [hx]; rfl), m.le_refl, ra, s⟩
  generalize hy : ρ x = y at r
  cases r with
  | ptr hl =>
    simp only [stepK, Option.some.injEq, Prod.mk.injEq] at e
    exact fin _ (by simp [execOp, hy]) (by rw [hy]; exact .ptr hl) e.1 e.2
  | iface rv =>
    simp only [stepK, Option.some.injEq, Prod.mk.injEq] at e
    exact fin _ (by simp [execOp, hy]) (by rw [hy]; exact .iface rv) e.1 e.2
  | @func f a a' b b' h1 h2 h3 h4 =>
    cases f <;> simp only [stepK, reduceCtorEq, Option.some.injEq, Prod.mk.injEq] at e
    exact fin _ (by simp [execOp, hy]) (by rw [hy]; exact .func h1 h2 h3 h4) e.1 e.2
  | _ => simp [stepK] at e

theorem op_unOp {op : UnOp} {t : TypeId} {x : Operand} {ρ : Operand → Value} {ty : TypeId} {dst : Option Tmp} {pos : String} {after : Array Edge} {guard : Option (Nat × Bool)} {k : K} {xs : List Operand} {vs : List Value} {v : Value} {h' : Hp}
    (s : Sim base w0 m h w) (hc : compOp P (.unOp op t x) = some (k, xs)) (hv : RVs m vs (xs.map ρ)) (e : stepK k vs h = some (v, h')) : Snd1 P base w0 m w (execOp ρ ⟨dst, .unOp op t x, ty, pos, after, guard⟩) v h' := by
  simp only [compOp] at hc
  cases op <;> simp only [reduceCtorEq, Option.some.injEq, Prod.mk.injEq] at hc
  · obtain ⟨rfl, rfl⟩ := hc
    obtain ⟨a, rfl, r⟩ := RVs.r_one hv
    cases a <;> simp only [stepK, reduceCtorEq, Option.some.injEq, Prod.mk.injEq] at e
    obtain ⟨rfl, rfl⟩ := e
    exact ⟨m, _, w, .inl (by simp only [execOp, r.scalar_int]; rfl), m.le_refl, .int _ _, s⟩
  · obtain ⟨rfl, rfl⟩ := hc
    obtain ⟨a, rfl, r⟩ := RVs.r_one hv
    cases a <;> simp only [stepK, reduceCtorEq, Option.some.injEq, Prod.mk.injEq] at e
    obtain ⟨rfl, rfl⟩ := e
    exact ⟨m, _, w, .inl (by simp only [execOp, r.scalar_bool]; rfl), m.le_refl, .bool _, s⟩

theorem op_convert {a b : TypeId} {x : Operand} {ρ : Operand → Value} {ty : TypeId} {dst : Option Tmp} {pos : String} {after : Array Edge} {guard : Option (Nat × Bool)} {k : K} {xs : List Operand} {vs : List Value} {v : Value} {h' : Hp}
    (s : Sim base w0 m h w) (hc : compOp P (.convert a b x) = some (k, xs)) (hv : RVs m vs (xs.map ρ)) (e : stepK k vs h = some (v, h')) : Snd1 P base w0 m w (execOp ρ ⟨dst, .convert a b x, ty, pos, after, guard⟩) v h' := by
  simp only [compOp] at hc
  split at hc
  case h_2 => cases hc
  case h_1 k1 k2 ha hb =>
  cases hc
  obtain ⟨y, rfl, r⟩ := RVs.r_one hv
  cases y <;> simp only [stepK, reduceCtorEq, Option.some.injEq, Prod.mk.injEq] at e
  obtain ⟨rfl, rfl⟩ := e
  refine snd_one (Snd.pure s (v' := _) ?_ (.int _ _))
  simp [r.scalar_int, convert, run_underlying ha, run_underlying hb, Conv.intToInt]

theorem op_makeInterface {t : TypeId} {x : Operand} {ρ : Operand → Value} {ty : TypeId} {dst : Option Tmp} {pos : String} {after : Array Edge} {guard : Option (Nat × Bool)} {k : K} {xs : List Operand} {vs : List Value} {v : Value} {h' : Hp}
    (s : Sim base w0 m h w) (hc : compOp P (.makeInterface t x) = some (k, xs)) (hv : RVs m vs (xs.map ρ)) (e : stepK k vs h = some (v, h')) : Snd1 P base w0 m w (execOp ρ ⟨dst, .makeInterface t x, ty, pos, after, guard⟩) v h' := by
  simp only [compOp] at hc
  split at hc
  · cases hc
  · next d hn hu =>
    cases hc
    obtain ⟨y, rfl, r⟩ := RVs.r_one hv
    cases e
    refine snd_one (Snd.pure s (v' := .iface t (ρ x)) ?_ (.iface r))
    cases d <;> first | simp [Instr.makeInterface, run_underlying hu]; done | exact absurd rfl (hn _)
  · cases hc

theorem op_typeAssert {x : Operand} {xt t : TypeId} {ok : Bool} {ρ : Operand → Value} {ty : TypeId} {dst : Option Tmp} {pos : String} {after : Array Edge} {guard : Option (Nat × Bool)} {k : K} {xs : List Operand} {vs : List Value} {v : Value} {h' : Hp}
    (s : Sim base w0 m h w) (hc : compOp P (.typeAssert x xt t ok) = some (k, xs)) (hv : RVs m vs (xs.map ρ)) (e : stepK k vs h = some (v, h')) : Snd1 P base w0 m w (execOp ρ ⟨dst, .typeAssert x xt t ok, ty, pos, after, guard⟩) v h' := by
  simp only [compOp] at hc
  split at hc
  · cases hc
  · next d hn hu =>
    have hd : ∀ ms, d ≠ .interface ms := fun ms he => hn ms he
    split at hc
    · next ho =>
      subst ho
      split at hc
      case h_2 => cases hc
      case h_1 i hi =>
      split at hc
      case h_2 => cases hc
      case h_1 z hz =>
      split at hc
      case isFalse => cases hc
      case isTrue hf =>
      cases hc
      obtain ⟨y, rfl, r⟩ := RVs.r_one hv
      exact snd_one (snd_tas s hu hd (fun _ => ⟨_, hi, hz, hf⟩) r e)
    · next ho =>
      have ho : ok = false := by simpa using ho
      subst ho
      cases hc
      obtain ⟨y, rfl, r⟩ := RVs.r_one hv
      exact snd_one (snd_tas s hu hd (fun h => by cases h) r e)
  · cases hc

theorem op_makeFunc {fn : Fn} {first cap : Array Operand} {ρ : Operand → Value} {ty : TypeId} {dst : Option Tmp} {pos : String} {after : Array Edge} {guard : Option (Nat × Bool)} {k : K} {xs : List Operand} {vs : List Value} {v : Value} {h' : Hp}
    (s : Sim base w0 m h w) (hc : compOp P (.makeFunc fn first cap) = some (k, xs)) (hv : RVs m vs (xs.map ρ)) (e : stepK k vs h = some (v, h')) : Snd1 P base w0 m w (execOp ρ ⟨dst, .makeFunc fn first cap, ty, pos, after, guard⟩) v h' := by
  cases hc
  simp only [stepK, Option.some.injEq, Prod.mk.injEq] at e
  obtain ⟨rfl, rfl⟩ := e
  rw [List.map_append] at hv
  refine snd_one (Snd.pure s (v' := .func fn (first.map ρ) (cap.map ρ)) rfl ?_)
  have hsz : vs.length = first.size + cap.size := by have := hv.1; simpa using this
  have h1 := hv.take first.size
  have h2 := hv.drop first.size
  rw [List.take_left' (by simp)] at h1
  rw [List.drop_left' (by simp)] at h2
  have e1 : first.map ρ = ⟨first.toList.map ρ⟩ := by apply Array.ext'; simp
  have e2 : cap.map ρ = ⟨cap.toList.map ρ⟩ := by apply Array.ext'; simp
  rw [e1, e2]
  exact .func h1.1 h2.1 h1.2 h2.2

theorem op_makeSlice {t : TypeId} {l c : Operand} {ρ : Operand → Value} {ty : TypeId} {dst : Option Tmp} {pos : String} {after : Array Edge} {guard : Option (Nat × Bool)} {k : K} {xs : List Operand} {vs : List Value} {v : Value} {h' : Hp}
    (s : Sim base w0 m h w) (hc : compOp P (.makeSlice t l c) = some (k, xs)) (hv : RVs m vs (xs.map ρ)) (e : stepK k vs h = some (v, h')) : Snd1 P base w0 m w (execOp ρ ⟨dst, .makeSlice t l c, ty, pos, after, guard⟩) v h' := by
  simp only [compOp] at hc
  split at hc
  case h_2 => cases hc
  case h_1 el hu =>
  split at hc
  case h_2 => cases hc
  case h_1 ti hi =>
  split at hc
  case h_2 => cases hc
  case h_1 z hz =>
  split at hc
  case isFalse => cases hc
  case isTrue hf =>
  cases hc
  obtain ⟨y, y2, rfl, r1, r2⟩ := RVs.r_two hv
  cases y <;> cases y2 <;> simp only [stepK, reduceCtorEq] at e
  split at e
  case isFalse => cases e
  case isTrue hb =>
  cases e
  exact snd_one (snd_mks s hu hi rfl hz hf.1 hf.2 r1 r2 hb.1 hb.2.1 hb.2.2.1 hb.2.2.2)

theorem op_slice {t : TypeId} {x : Operand} {lo hi mx : Option Operand} {ρ : Operand → Value} {ty : TypeId} {dst : Option Tmp} {pos : String} {after : Array Edge} {guard : Option (Nat × Bool)} {k : K} {xs : List Operand} {vs : List Value} {v : Value} {h' : Hp}
    (s : Sim base w0 m h w) (hc : compOp P (.slice t x lo hi mx) = some (k, xs)) (hv : RVs m vs (xs.map ρ)) (e : stepK k vs h = some (v, h')) : Snd1 P base w0 m w (execOp ρ ⟨dst, .slice t x lo hi mx, ty, pos, after, guard⟩) v h' := by
  simp only [compOp] at hc
  split at hc
  · next el hu =>
    split at hc
    case h_2 => cases hc
    case h_1 ti hi2 =>
    cases hc
    rw [List.map_cons] at hv
    obtain ⟨y, us, rfl, r, hs⟩ := hv.r_cons
    cases y <;> simp only [stepK, reduceCtorEq] at e
    split at e
    · next l u q hg =>
      obtain ⟨rfl, rfl, rfl⟩ := get3_rel hs hg
      simp only [Option.map_eq_some_iff] at e
      obtain ⟨v2, hsl, he⟩ := e
      cases he
      exact snd_one (snd_slc s hu hi2 rfl r hsl)
    · cases e
  · next n el hu =>
    split at hc
    case h_2 => cases hc
    case h_1 ti hi2 =>
    cases hc
    rw [List.map_cons] at hv
    obtain ⟨y, us, rfl, r, hs⟩ := hv.r_cons
    cases y <;> simp only [stepK, reduceCtorEq] at e
    next ad =>
    cases ad with
    | none => simp at e
    | some ad =>
      obtain ⟨i1, o1, sp⟩ := ad
      cases sp with
      | some q => simp at e
      | none =>
        simp only at e
        split at e
        · next l u q hg =>
          obtain ⟨rfl, rfl, rfl⟩ := get3_rel hs hg
          simp only [Option.map_eq_some_iff] at e
          obtain ⟨v2, hsl, he⟩ := e
          cases he
          exact snd_one (snd_sla s hu hi2 rfl r hsl)
        · cases e
  · next hu =>
    split at hc
    case isFalse => cases hc
    case isTrue hm =>
    cases hc
    obtain rfl : mx = none := by simpa using hm
    rw [List.map_cons] at hv
    obtain ⟨y, us, rfl, r, hs⟩ := hv.r_cons
    cases y <;> simp only [stepK, reduceCtorEq] at e
    split at e
    · next l u q hg =>
      obtain ⟨rfl, rfl, _⟩ := get3_rel (mx := none) hs hg
      simp only [Option.map_eq_some_iff] at e
      obtain ⟨v2, hsl, he⟩ := e
      cases he
      exact snd_one (snd_sls s hu r hsl)
    · cases e
  · cases hc

theorem op_fieldAddr {t : TypeId} {x : Operand} {f : Nat} {ρ : Operand → Value} {ty : TypeId} {dst : Option Tmp} {pos : String} {after : Array Edge} {guard : Option (Nat × Bool)} {k : K} {xs : List Operand} {vs : List Value} {v : Value} {h' : Hp}
    (s : Sim base w0 m h w) (hc : compOp P (.fieldAddr t x f) = some (k, xs)) (hv : RVs m vs (xs.map ρ)) (e : stepK k vs h = some (v, h')) : Snd1 P base w0 m w (execOp ρ ⟨dst, .fieldAddr t x f, ty, pos, after, guard⟩) v h' := by
  simp only [compOp] at hc
  split at hc
  case h_2 => cases hc
  case h_1 fs hu =>
  split at hc
  case h_2 => cases hc
  case h_1 fd hf =>
  split at hc
  case h_2 => cases hc
  case h_1 i hi =>
  split at hc
  case isFalse => cases hc
  case isTrue h0 =>
  cases hc
  obtain ⟨y, rfl, r⟩ := RVs.r_one hv
  cases y <;> simp only [stepK, reduceCtorEq] at e
  next ad =>
  cases ad with
  | none => simp at e
  | some ad =>
    obtain ⟨i1, o1, sp⟩ := ad
    cases sp with
    | some q => simp at e
    | none =>
      simp only [Option.some.injEq, Prod.mk.injEq] at e
      obtain ⟨rfl, rfl⟩ := e
      exact snd_one (snd_fad s hu hf hi rfl h0 r)

theorem op_field {t : TypeId} {x : Operand} {f : Nat} {ρ : Operand → Value} {ty : TypeId} {dst : Option Tmp} {pos : String} {after : Array Edge} {guard : Option (Nat × Bool)} {k : K} {xs : List Operand} {vs : List Value} {v : Value} {h' : Hp}
    (s : Sim base w0 m h w) (hc : compOp P (.field t x f) = some (k, xs)) (hv : RVs m vs (xs.map ρ)) (e : stepK k vs h = some (v, h')) : Snd1 P base w0 m w (execOp ρ ⟨dst, .field t x f, ty, pos, after, guard⟩) v h' := by
  simp only [compOp] at hc
  split at hc
  case h_2 => cases hc
  case h_1 fs hu =>
  split at hc
  case h_2 => cases hc
  case h_1 fd hf =>
  split at hc
  case h_2 => cases hc
  case h_1 d i hud hi =>
  cases hc
  obtain ⟨y, rfl, r⟩ := RVs.r_one hv
  cases y <;> simp only [stepK, reduceCtorEq] at e
  next cs =>
  have e2 : (if isAggD d then some (.agg (cs.extract fd.offset (fd.offset + i.size))) else cs[fd.offset]?) = some v ∧ h = h' := by
    split at e
    · next hd => rw [if_pos hd]; cases e; exact ⟨rfl, rfl⟩
    · next hd =>
      rw [if_neg hd]
      simp only [Option.map_eq_some_iff] at e
      obtain ⟨v2, hv2, he⟩ := e
      cases he
      exact ⟨hv2, rfl⟩
  obtain ⟨e3, rfl⟩ := e2
  exact snd_one (snd_fld s hu hf hud rfl hi rfl r e3)

theorem op_indexAddr {t : TypeId} {x i : Operand} {ρ : Operand → Value} {ty : TypeId} {dst : Option Tmp} {pos : String} {after : Array Edge} {guard : Option (Nat × Bool)} {k : K} {xs : List Operand} {vs : List Value} {v : Value} {h' : Hp}
    (s : Sim base w0 m h w) (hc : compOp P (.indexAddr t x i) = some (k, xs)) (hv : RVs m vs (xs.map ρ)) (e : stepK k vs h = some (v, h')) : Snd1 P base w0 m w (execOp ρ ⟨dst, .indexAddr t x i, ty, pos, after, guard⟩) v h' := by
  simp only [compOp] at hc
  split at hc
  · next el hu =>
    split at hc
    case h_2 => cases hc
    case h_1 ti hi =>
    cases hc
    obtain ⟨y, z, rfl, r1, r2⟩ := RVs.r_two hv
    cases y <;> cases z <;> simp only [stepK, reduceCtorEq] at e
    next ad len cap k1 n1 =>
    cases ad with
    | none => simp at e
    | some ad =>
      obtain ⟨i1, o1, sp⟩ := ad
      simp only at e
      split at e
      case isFalse => cases e
      case isTrue hb =>
      cases e
      exact snd_one (snd_iad s hu hi rfl r1 r2 hb)
  · next n el hu =>
    split at hc
    case h_2 => cases hc
    case h_1 ti hi =>
    cases hc
    obtain ⟨y, z, rfl, r1, r2⟩ := RVs.r_two hv
    cases y <;> cases z <;> simp only [stepK, reduceCtorEq] at e
    next ad k1 n1 =>
    cases ad with
    | none => simp at e
    | some ad =>
      obtain ⟨i1, o1, sp⟩ := ad
      cases sp with
      | some q => simp at e
      | none =>
        simp only at e
        split at e
        case isFalse => cases e
        case isTrue hb =>
        cases e
        exact snd_one (snd_iaa s hu hi rfl r1 r2 hb)
  · cases hc

theorem op_index {t : TypeId} {x i : Operand} {ρ : Operand → Value} {ty : TypeId} {dst : Option Tmp} {pos : String} {after : Array Edge} {guard : Option (Nat × Bool)} {k : K} {xs : List Operand} {vs : List Value} {v : Value} {h' : Hp}
    (s : Sim base w0 m h w) (hc : compOp P (.index t x i) = some (k, xs)) (hv : RVs m vs (xs.map ρ)) (e : stepK k vs h = some (v, h')) : Snd1 P base w0 m w (execOp ρ ⟨dst, .index t x i, ty, pos, after, guard⟩) v h' := by
  simp only [compOp] at hc
  split at hc
  · next n el hu =>
    split at hc
    case h_2 => cases hc
    case h_1 d ti hud hi =>
    cases hc
    obtain ⟨y, z, rfl, r1, r2⟩ := RVs.r_two hv
    cases y <;> cases z <;> simp only [stepK, reduceCtorEq] at e
    next cs k1 n1 =>
    split at e
    case isFalse => cases e
    case isTrue hb =>
    have e2 : (if isAggD d then some (.agg (cs.extract (n1.toNat * ti.size) (n1.toNat * ti.size + ti.size))) else cs[n1.toNat * ti.size]?) = some v ∧ h = h' := by
      split at e
      · next hd => rw [if_pos hd]; cases e; exact ⟨rfl, rfl⟩
      · next hd =>
        rw [if_neg hd]
        simp only [Option.map_eq_some_iff] at e
        obtain ⟨v2, hv2, he⟩ := e
        cases he
        exact ⟨hv2, rfl⟩
    obtain ⟨e3, rfl⟩ := e2
    exact snd_one (snd_ixa s hu hud rfl hi rfl rfl r1 r2 hb e3)
  · next hu =>
    cases hc
    obtain ⟨y, z, rfl, r1, r2⟩ := RVs.r_two hv
    cases y <;> cases z <;> simp only [stepK, reduceCtorEq] at e
    split at e
    case isFalse => cases e
    case isTrue hb =>
    simp only [Option.map_eq_some_iff] at e
    obtain ⟨b, hb2, he⟩ := e
    cases he
    exact snd_one (snd_ixs s hu r1 r2 hb hb2)
  · cases hc

theorem op_extract {x : Operand} {i : Nat} {ρ : Operand → Value} {ty : TypeId} {dst : Option Tmp} {pos : String} {after : Array Edge} {guard : Option (Nat × Bool)} {k : K} {xs : List Operand} {vs : List Value} {v : Value} {h' : Hp}
    (s : Sim base w0 m h w) (hc : compOp P (.extract x i) = some (k, xs)) (hv : RVs m vs (xs.map ρ)) (e : stepK k vs h = some (v, h')) : Snd1 P base w0 m w (execOp ρ ⟨dst, .extract x i, ty, pos, after, guard⟩) v h' := by
  cases hc
  obtain ⟨y, rfl, r⟩ := RVs.r_one hv
  cases y <;> simp only [stepK, reduceCtorEq, Option.map_eq_some_iff] at e
  next cs =>
  obtain ⟨v2, hv2, he⟩ := e
  cases he
  obtain ⟨cs', hy, hr⟩ := RV.ofTuple r
  obtain ⟨v', hv', rv⟩ := hr.aget hv2
  exact snd_one (Snd.pure s (v' := v') (by simp [hy, Instr.extract, hv']) rv)

theorem op_binOp {op : BinOp} {t u : TypeId} {x y : Operand} {ρ : Operand → Value} {ty : TypeId} {dst : Option Tmp} {pos : String} {after : Array Edge} {guard : Option (Nat × Bool)} {k : K} {xs : List Operand} {vs : List Value} {v : Value} {h' : Hp}
    (hρ : ∀ c, y = .const c → ρ y = c) (s : Sim base w0 m h w) (hc : compOp P (.binOp op t x y u) = some (k, xs)) (hv : RVs m vs (xs.map ρ)) (e : stepK k vs h = some (v, h')) : Snd1 P base w0 m w (execOp ρ ⟨dst, .binOp op t x y u, ty, pos, after, guard⟩) v h' := by
  have plain : ∀ (a b : Value), vs = [a, b] → (∀ c, a = .bool c → P.underlying t = some .bool) → binA op a b = some v → h' = h → RVs m vs ([x, y].map ρ) → Snd1 P base w0 m w (execOp ρ ⟨dst, .binOp op t x y u, ty, pos, after, guard⟩) v h' := by
    intro a b hvs hb he hh hr
    subst hh
    subst hvs
    obtain ⟨a2, b2, h2, r1, r2⟩ := RVs.r_two hr
    cases h2
    obtain ⟨e1, e2, rv⟩ := binA_flat he r1 r2
    obtain ⟨g1, g2⟩ := binA_kinds he
    refine snd_one (Snd.pure s (v' := v) ?_ rv)
    have hg := eqGuard_pure (P := P) (w := w) (op := op) (t := t) (x := x) (y := y) (a := ρ x) (b := ρ y) (fun hn _ => absurd (e1.symm.trans hn) g1) (fun aas bs ha _ => g2 aas (e1.symm.trans ha))
    simp only [Sem.run_bind, hg, Result.andThen_ok]
    rw [e1, e2]
    exact bin_sound he hb
  have nils : ∀ (neg : Bool) (d : TypeDesc), (op = if neg then .neq else .eql) → P.underlying t = some d → isNil d y = true → stepK (.isn neg) vs h = some (v, h') → RVs m vs ([x, y].map ρ) → (∀ c, y = .const c → ρ y = c) →
      Snd1 P base w0 m w (execOp ρ ⟨dst, .binOp op t x y u, ty, pos, after, guard⟩) v h' := by
    intro neg d hop hu hd he hr hρ
    obtain ⟨a, b, rfl, r1, r2⟩ := RVs.r_two hr
    simp only [stepK, Option.map_eq_some_iff] at he
    obtain ⟨q, hq, he⟩ := he
    cases he
    cases y with
    | const c =>
      have hyc := hρ c rfl
      rw [hyc] at r2
      obtain ⟨hbc, hna, hbin⟩ := nil_back hd r2
      subst hbc
      obtain ⟨hrun, _⟩ := isn_sound (P := P) (w := w) hu hd hq r1 r2
      have hg := eqGuard_pure (P := P) (w := w) (op := op) (t := t) (x := x) (y := .const b) (a := ρ x) (b := b) (fun _ _ => .inr ⟨_, rfl⟩) (fun aas bs _ hb => hna bs hb)
      obtain ⟨g1, g2⟩ := hbin (ρ x) t
      refine snd_one (Snd.pure s (v' := .bool (if neg then !q else q)) ?_ (.bool _))
      simp only [Sem.run_bind, hyc, hg, Result.andThen_ok]
      cases neg with
      | false => simp only [Bool.false_eq_true, if_false] at hop ⊢; subst hop; rw [g1]; simp [hrun]
      | true => simp only [if_true] at hop ⊢; subst hop; rw [g2]; simp [hrun]
    | _ => simp [isNil] at hd
  simp only [compOp] at hc
  split at hc
  · next hu =>
    cases hc
    obtain ⟨a, b, rfl, r1, r2⟩ := RVs.r_two hv
    simp only [stepK] at e
    split at e
    · cases e
    · next hn =>
      simp only [Option.map_eq_some_iff] at e
      obtain ⟨q, hq, he⟩ := e
      cases he
      exact plain a b rfl (fun c hc => (hn c hc).elim) hq rfl hv
  · next hu =>
    cases hc
    obtain ⟨a, b, rfl, r1, r2⟩ := RVs.r_two hv
    simp only [stepK] at e
    split at e
    · cases e
    · next hn =>
      simp only [Option.map_eq_some_iff] at e
      obtain ⟨q, hq, he⟩ := e
      cases he
      exact plain a b rfl (fun c hc => (hn c hc).elim) hq rfl hv
  · next hu =>
    cases hc
    obtain ⟨a, b, rfl, r1, r2⟩ := RVs.r_two hv
    cases a <;> simp only [stepK, reduceCtorEq, Option.map_eq_some_iff] at e
    obtain ⟨q, hq, he⟩ := e
    cases he
    exact plain _ b rfl (fun c hc => hu) hq rfl hv
  · next d _ _ _ hu =>
    cases op <;> simp only [reduceCtorEq] at hc
    · split at hc
      case isFalse => cases hc
      case isTrue hd =>
      cases hc
      exact nils false d rfl hu hd e hv hρ
    · split at hc
      case isFalse => cases hc
      case isTrue hd =>
      cases hc
      exact nils true d rfl hu hd e hv hρ
  · cases hc

end
end Go.Proofs.YtnebdnbglggdkaaDoorW.Am
