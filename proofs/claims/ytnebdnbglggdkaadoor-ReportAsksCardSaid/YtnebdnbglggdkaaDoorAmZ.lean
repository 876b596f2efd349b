/- Structs of plain fields, compared. -/
import Derived.Test.YtnebdnbglggdkaaDoorAmY
import Derived.Laws.StructEq
namespace Go.Proofs.YtnebdnbglggdkaaDoorW.Am
open Go Go.RowKit
section
variable {P : Program}
theorem ps_bind {α β : Type} (s : Sem α) (f : α → Sem β) : pureSem P (s >>= f) = (pureSem P s).bind fun a => pureSem P (f a) := by
  show pureSem P (Sem.bind s f) = _
  induction s with
  | pure a => rfl
  | program k ih => simp only [Sem.bind, pureSem]; exact ih P
  | _ => rfl
inductive SK
  | int (k : IntKind)
  | bool
  | str
def skOf (P : Program) (t : TypeId) : Option SK := match P.underlying t with
  | some (.int k) => some (.int k)
  | some .bool => some .bool
  | some .string => some .str
  | _ => none
def skOk : SK → Value → Bool
  | .int k, .int k' _ => decide (k = k')
  | .bool, .bool _ => true
  | .str, .string _ => true
  | _, _ => false
def skAll : List SK → List Value → Bool
  | [], [] => true
  | k :: ks, v :: vs => skOk k v && skAll ks vs
  | _, _ => false
def eqV : Value → Value → Bool
  | .int _ a, .int _ b => a == b
  | .bool a, .bool b => a == b
  | .string a, .string b => a == b
  | _, _ => false
def eqL : List Value → List Value → Bool
  | x :: xs, y :: ys => eqV x y && eqL xs ys
  | _, _ => true
theorem eqV_iff {k : SK} {x y : Value} (hx : skOk k x = true) (hy : skOk k y = true) : eqV x y = true ↔ x = y := by
  cases k <;> cases x <;> simp only [skOk, Bool.false_eq_true, decide_eq_true_eq] at hx <;> cases y <;> simp only [skOk, Bool.false_eq_true, decide_eq_true_eq] at hy
  · subst hx; subst hy; simp [eqV]
  · simp [eqV]
  · simp only [eqV, Value.string.injEq]
    rw [beq_toListBytes, beq_iff_eq, ByteArray.toList_eq, ByteArray.toList_eq]
    constructor
    · intro e; exact ByteArray.ext (Array.ext' e)
    · intro e; rw [e]
theorem eqL_iff : ∀ {ks : List SK} {xs ys : List Value}, skAll ks xs = true → skAll ks ys = true → (eqL xs ys = true ↔ xs = ys)
  | [], xs, ys, hx, hy => by cases xs <;> cases ys <;> simp_all [skAll, eqL]
  | k :: ks, xs, ys, hx, hy => by
    cases xs with
    | nil => cases hx
    | cons x xs =>
      cases ys with
      | nil => cases hy
      | cons y ys =>
        simp only [skAll, Bool.and_eq_true] at hx hy
        simp only [eqL, Bool.and_eq_true, List.cons.injEq]
        rw [eqV_iff hx.1 hy.1, eqL_iff hx.2 hy.2]
theorem ps_underlying {t : TypeId} {d : TypeDesc} (h : P.underlying t = some d) : pureSem P (underlying t) = some d := by
  simp [underlying, program, pureSem, h, ps_bind]; rfl
theorem ps_sc (d : Nat) {t : TypeId} {k : SK} {x y : Value} (hk : skOf P t = some k) (hx : skOk k x = true) (hy : skOk k y = true) : pureSem P (Op.equalIn (d + 1) t x y) = some (eqV x y) := by
  unfold skOf at hk
  split at hk <;> (try cases hk) <;> rename_i hu <;> cases x <;> simp only [skOk, Bool.false_eq_true, decide_eq_true_eq] at hx <;> cases y <;> simp only [skOk, Bool.false_eq_true, decide_eq_true_eq] at hy
  · subst hx; subst hy; simp only [Op.equalIn, ps_bind, ps_underlying hu, Option.bind_some]; simp [eqV]; rfl
  · simp only [Op.equalIn, ps_bind, ps_underlying hu, Option.bind_some]; rfl
  · simp only [Op.equalIn, ps_bind, ps_underlying hu, Option.bind_some]; rfl
theorem ps_part {t : TypeId} {k : SK} (hk : skOf P t = some k) {cs : Array Value} {off : Nat} {v : Value} (hv : cs[off]? = some v) : pureSem P (part t cs off) = some v := by
  have ha : pureSem P (isAgg t) = some false := by
    unfold skOf at hk
    unfold isAgg
    split at hk <;> (try cases hk) <;> rename_i hu <;> simp only [ps_bind, ps_underlying hu, Option.bind_some] <;> rfl
  unfold part
  simp only [ps_bind, ha, Option.bind_some, Bool.false_eq_true, if_false, hv]
  rfl
/-- The kinds of a struct's fields, one cell each, in their order. -/
def skFs (P : Program) : Nat → List Field → Option (List SK)
  | _, [] => some []
  | i, f :: fs => if f.offset = i ∧ f.name ≠ "_" then (match skOf P f.type, skFs P (i + 1) fs with
    | some k, some ks => some (k :: ks)
    | _, _ => none) else none
def skTab (P : Program) (t : TypeId) : Option (List SK) := match P.underlying t with
  | some (.struct fs) => if P.stoodInHeld t = false ∧ P.eqGuardType P.depth t = false then skFs P 0 fs.toList else none
  | _ => none
theorem ps_fields (d : Nat) : ∀ (fs : List Field) (i : Nat) (ks : List SK) (px py xs ys : List Value), px.length = i → py.length = i → skFs P i fs = some ks → skAll ks xs = true → skAll ks ys = true →
    pureSem P (Op.eqFields (d + 1) ⟨px ++ xs⟩ ⟨py ++ ys⟩ fs) = some (eqL xs ys) := by
  intro fs
  induction fs with
  | nil =>
    intro i ks px py xs ys _ _ hk hx hy
    cases hk
    cases xs <;> cases ys <;> simp_all [skAll, Op.eqFields, eqL] <;> rfl
  | cons f fs ih =>
    intro i ks px py xs ys hpx hpy hk hx hy
    simp only [skFs] at hk
    split at hk
    case isFalse => cases hk
    case isTrue hf =>
    split at hk
    case h_2 => cases hk
    case h_1 k ks' h1 h2 =>
    cases hk
    cases xs with
    | nil => cases hx
    | cons x xs =>
      cases ys with
      | nil => cases hy
      | cons y ys =>
        simp only [skAll, Bool.and_eq_true] at hx hy
        have gx : (⟨px ++ x :: xs⟩ : Array Value)[f.offset]? = some x := by simp [hf.1, ← hpx]
        have gy : (⟨py ++ y :: ys⟩ : Array Value)[f.offset]? = some y := by simp [hf.1, ← hpy]
        simp only [Op.eqFields, if_pos hf.2, ps_bind, ps_part h1 gx, ps_part h1 gy, Option.bind_some, ps_sc d h1 hx.1 hy.1]
        cases hb : eqV x y
        · simp [eqL, hb]; rfl
        · simp only [Bool.not_true, Bool.false_eq_true, if_false, eqL, hb, Bool.true_and]
          have := ih (i + 1) ks' (px ++ [x]) (py ++ [y]) xs ys (by simp [hpx]) (by simp [hpy]) h2 hx.2 hy.2
          simpa using this
theorem ps_pure {α : Type} (a : α) : pureSem P (pure a : Sem α) = some a := rfl
theorem ps_program : pureSem P program = some P := rfl
theorem ps_ite {α : Type} (c : Prop) [Decidable c] (a b : Sem α) : pureSem P (if c then a else b) = if c then pureSem P a else pureSem P b := by split <;> rfl
theorem ps_struct (d : Nat) {t : TypeId} {fs : Array Field} (xs ys : Array Value) (hu : P.underlying t = some (.struct fs)) (hp : P.stoodInHeld t = false) : pureSem P (Op.equalIn (d + 1) t (.agg xs) (.agg ys)) = pureSem P (Op.eqFields d xs ys fs.toList) := by
  simp only [Op.equalIn, ps_bind, ps_underlying hu, Option.bind_some, ps_program, hp, Bool.false_eq_true, if_false]
  rw [← Array.forIn_toList]
  generalize fs.toList = fs
  induction fs with
  | nil => rfl
  | cons f fs ih =>
    simp only [List.forIn_cons, Op.eqFields, ps_bind, ps_ite]
    split
    · generalize pureSem P (part f.type xs f.offset) = r1
      cases r1 with
      | none => rfl
      | some a =>
        simp only [Option.bind_some]
        generalize pureSem P (part f.type ys f.offset) = r2
        cases r2 with
        | none => rfl
        | some b =>
          simp only [Option.bind_some]
          generalize pureSem P (Op.equalIn d f.type a b) = r3
          cases r3 with
          | none => rfl
          | some r =>
            cases r
            · rfl
            · simp only [Option.bind_some, Bool.not_true, Bool.false_eq_true, if_false, ps_pure]
              exact ih
    · simp only [ps_pure, Option.bind_some]
      exact ih
theorem ps_eq {t : TypeId} {ks : List SK} {xs ys : List Value} (ht : skTab P t = some ks) (hx : skAll ks xs = true) (hy : skAll ks ys = true) (op : BinOp) (ho : op = .eql ∨ op = .neq) (x y : Operand) :
    pureSem P (do eqGuard op t x y (.agg ⟨xs⟩) (.agg ⟨ys⟩); binOp op t (.agg ⟨xs⟩) (.agg ⟨ys⟩)) = some (.bool (if op = .eql then eqL xs ys else !eqL xs ys)) := by
  unfold skTab at ht
  split at ht
  case h_2 => cases ht
  case h_1 fs hu =>
  split at ht
  case isFalse => cases ht
  case isTrue hp =>
  have he : pureSem P (Op.equal t (.agg ⟨xs⟩) (.agg ⟨ys⟩)) = some (eqL xs ys) := by
    show pureSem P (Op.equalIn (9999 + 1) t (.agg ⟨xs⟩) (.agg ⟨ys⟩)) = _
    rw [ps_struct 9999 _ _ hu hp.1]
    have := ps_fields 9998 fs.toList 0 ks [] [] xs ys rfl rfl ht hx hy
    simpa using this
  have hg : pureSem P (eqGuard op t x y (.agg ⟨xs⟩) (.agg ⟨ys⟩)) = some () := by
    rcases ho with rfl | rfl <;> simp [eqGuard, ps_bind, ps_program, hp.2, ps_pure]
  rw [ps_bind, hg, Option.bind_some]
  rcases ho with rfl | rfl
  · simp only [binOp, ps_bind, he, Option.bind_some, if_true]; rfl
  · simp only [binOp, ps_bind, he, Option.bind_some]; rfl
theorem sk_flatN {n : Nat} : ∀ {ks : List SK} {vs : List Value}, skAll ks vs = true → vs.all (flatN (n + 1)) = true
  | [], vs, h => by cases vs <;> simp_all [skAll]
  | k :: ks, vs, h => by
    cases vs with
    | nil => cases h
    | cons v vs =>
      simp only [skAll, Bool.and_eq_true] at h
      simp only [List.all_cons, Bool.and_eq_true]
      refine ⟨?_, sk_flatN h.2⟩
      cases k <;> cases v <;> first | rfl | exact absurd h.1 Bool.false_ne_true
theorem sk_flat {ks : List SK} {vs : List Value} (h : skAll ks vs = true) : flat (.agg ⟨vs⟩) = true := by
  show (⟨vs⟩ : Array Value).toList.all (flatN 7) = true
  exact sk_flatN (n := 6) h
theorem w_eqS {CT : CTy} {env : Env} {h : Hp} {d : Option Nat} {R : Value → Hp → Prop} {t u ty : TypeId} {x y : Operand} {ks : List SK} {xs ys : List Value} (ex : evA env x = some (.agg ⟨xs⟩)) (ey : evA env y = some (.agg ⟨ys⟩)) (ht : skTab P t = some ks) (hx : skAll ks xs = true) (hy : skAll ks ys = true)
    (n : ∀ b : Bool, (b = true ↔ xs = ys) → R (.bool b) h) : WI P CT ⟨d, none, .fl (.binOp .eql t x y u) ty⟩ env h R := by
  refine ⟨?_⟩
  unfold wpIn
  have hs : flatStep P env (.binOp .eql t x y u) ty = some (.bool (eqL xs ys)) := by
    have fx := sk_flat hx
    have fy := sk_flat hy
    unfold flatStep
    have ha : allFlat env (Op.binOp .eql t x y u).operands.toList = true := by
      simp [allFlat, Op.operands, ex, ey, fx, fy]
    rw [if_pos ha]
    have he : pureSem P (execOp (fun x => (evA env x).getD undef) ⟨none, .binOp .eql t x y u, ty, "", #[], none⟩) = some (.value (.bool (eqL xs ys))) := by
      simp only [execOp, ex, ey, Option.getD_some]
      rw [ps_bind, ps_eq ht hx hy .eql (.inl rfl) x y]
      rfl
    rw [he]
    rfl
  simp only [wanted, hs]
  exact n _ (eqL_iff hx hy)
theorem w_neS {CT : CTy} {env : Env} {h : Hp} {d : Option Nat} {R : Value → Hp → Prop} {t u ty : TypeId} {x y : Operand} {ks : List SK} {xs ys : List Value} (ex : evA env x = some (.agg ⟨xs⟩)) (ey : evA env y = some (.agg ⟨ys⟩)) (ht : skTab P t = some ks) (hx : skAll ks xs = true) (hy : skAll ks ys = true)
    (n : ∀ b : Bool, (b = true ↔ xs ≠ ys) → R (.bool b) h) : WI P CT ⟨d, none, .fl (.binOp .neq t x y u) ty⟩ env h R := by
  refine ⟨?_⟩
  unfold wpIn
  have hs : flatStep P env (.binOp .neq t x y u) ty = some (.bool (!eqL xs ys)) := by
    have fx := sk_flat hx
    have fy := sk_flat hy
    unfold flatStep
    have ha : allFlat env (Op.binOp .neq t x y u).operands.toList = true := by
      simp [allFlat, Op.operands, ex, ey, fx, fy]
    rw [if_pos ha]
    have he : pureSem P (execOp (fun x => (evA env x).getD undef) ⟨none, .binOp .neq t x y u, ty, "", #[], none⟩) = some (.value (.bool (!eqL xs ys))) := by
      simp only [execOp, ex, ey, Option.getD_some]
      rw [ps_bind, ps_eq ht hx hy .neq (.inr rfl) x y]
      rfl
    rw [he]
    rfl
  simp only [wanted, hs]
  refine n _ ?_
  rw [Bool.not_eq_true', ← Bool.not_eq_true, eqL_iff hx hy]
end
end Go.Proofs.YtnebdnbglggdkaaDoorW.Am
