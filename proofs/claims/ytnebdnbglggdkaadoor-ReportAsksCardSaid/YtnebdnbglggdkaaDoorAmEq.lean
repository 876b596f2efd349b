/- Arrays of plain cells, compared. -/
import Derived.Test.YtnebdnbglggdkaaDoorAmZ
import Derived.ChangeKeysEq
namespace Go.Proofs.YtnebdnbglggdkaaDoorW.Am
open Go Go.RowKit
section
variable {P : Program}
theorem ps_sizeOf {e : TypeId} {i : TypeInfo} (hi : P.info? e = some i) : pureSem P (sizeOf e) = some i.size := by
  simp [sizeOf, typeInfo, ps_bind, ps_program, hi, ps_pure]
theorem ps_array (d : Nat) {t e : TypeId} {n : Nat} {i : TypeInfo} (xs ys : Array Value) (hu : P.underlying t = some (.array n e)) (hi : P.info? e = some i) :
    pureSem P (Op.equalIn (d + 1) t (.agg xs) (.agg ys)) = pureSem P (Op.eqItems d e i.size xs ys (List.range n)) := by
  simp only [Op.equalIn, ps_bind, ps_underlying hu, Option.bind_some, ps_sizeOf hi]
  simp only [Std.Legacy.Range.forIn_eq_forIn_range', Std.Legacy.Range.size, Nat.sub_zero, Nat.add_one_sub_one, Nat.div_one, List.range_eq_range']
  generalize List.range' 0 n = is
  induction is with
  | nil => rfl
  | cons j is ih =>
    simp only [List.forIn_cons, Op.eqItems, ps_bind, ps_ite]
    generalize pureSem P (part e xs (j * i.size)) = r1
    cases r1 with
    | none => rfl
    | some a =>
      simp only [Option.bind_some]
      generalize pureSem P (part e ys (j * i.size)) = r2
      cases r2 with
      | none => rfl
      | some b =>
        simp only [Option.bind_some]
        generalize pureSem P (Op.equalIn d e a b) = r3
        cases r3 with
        | none => rfl
        | some r =>
          cases r
          · rfl
          · simp only [Option.bind_some, Bool.not_true, Bool.false_eq_true, if_false, ps_pure]
            exact ih
theorem ps_items (d : Nat) {e : TypeId} {k : SK} (hk : skOf P e = some k) : ∀ (n i : Nat) (px py xs ys : List Value), px.length = i → py.length = i → skAll (List.replicate n k) xs = true → skAll (List.replicate n k) ys = true →
    pureSem P (Op.eqItems (d + 1) e 1 ⟨px ++ xs⟩ ⟨py ++ ys⟩ (List.range' i n)) = some (eqL xs ys)
  | 0, i, px, py, xs, ys, _, _, hx, hy => by
    cases xs <;> cases ys <;> simp_all [skAll, eqL, Op.eqItems] <;> rfl
  | n + 1, i, px, py, xs, ys, hpx, hpy, hx, hy => by
    rw [List.replicate_succ] at hx hy
    cases xs with
    | nil => cases hx
    | cons x xs =>
      cases ys with
      | nil => cases hy
      | cons y ys =>
        simp only [skAll, Bool.and_eq_true] at hx hy
        have gx : (⟨px ++ x :: xs⟩ : Array Value)[i * 1]? = some x := by simp [← hpx]
        have gy : (⟨py ++ y :: ys⟩ : Array Value)[i * 1]? = some y := by simp [← hpy]
        rw [List.range'_succ]
        simp only [Op.eqItems, ps_bind, ps_part hk gx, ps_part hk gy, Option.bind_some, ps_sc d hk hx.1 hy.1]
        cases hb : eqV x y
        · simp [eqL, hb]; rfl
        · simp only [Bool.not_true, Bool.false_eq_true, if_false, eqL, hb, Bool.true_and]
          have := ps_items d hk n (i + 1) (px ++ [x]) (py ++ [y]) xs ys (by simp [hpx]) (by simp [hpy]) hx.2 hy.2
          simpa using this
theorem ps_eqA {t e : TypeId} {n : Nat} {k : SK} {i : TypeInfo} {xs ys : List Value} (hu : P.underlying t = some (.array n e)) (hk : skOf P e = some k) (hi : P.info? e = some i) (h1 : i.size = 1) (hg : P.eqGuardType P.depth t = false)
    (hx : skAll (List.replicate n k) xs = true) (hy : skAll (List.replicate n k) ys = true) (x y : Operand) :
    pureSem P (do eqGuard .eql t x y (.agg ⟨xs⟩) (.agg ⟨ys⟩); binOp .eql t (.agg ⟨xs⟩) (.agg ⟨ys⟩)) = some (.bool (eqL xs ys)) := by
  have he : pureSem P (Op.equal t (.agg ⟨xs⟩) (.agg ⟨ys⟩)) = some (eqL xs ys) := by
    show pureSem P (Op.equalIn (9999 + 1) t (.agg ⟨xs⟩) (.agg ⟨ys⟩)) = _
    rw [ps_array 9999 _ _ hu hi, h1]
    have := ps_items 9998 hk n 0 [] [] xs ys rfl rfl hx hy
    rw [List.range_eq_range']
    exact this
  have hg : pureSem P (eqGuard .eql t x y (.agg ⟨xs⟩) (.agg ⟨ys⟩)) = some () := by
    simp [eqGuard, ps_bind, ps_program, hg, ps_pure]
  rw [ps_bind, hg, Option.bind_some]
  simp only [binOp, ps_bind, he, Option.bind_some]
  rfl
theorem w_eqA {CT : CTy} {env : Env} {h : Hp} {d : Option Nat} {R : Value → Hp → Prop} {t u ty e : TypeId} {x y : Operand} {n : Nat} {k : SK} {i : TypeInfo} {xs ys : List Value} (ex : evA env x = some (.agg ⟨xs⟩)) (ey : evA env y = some (.agg ⟨ys⟩)) (hu : P.underlying t = some (.array n e)) (hk : skOf P e = some k) (hi : P.info? e = some i) (h1 : i.size = 1) (hg : P.eqGuardType P.depth t = false)
    (hx : skAll (List.replicate n k) xs = true) (hy : skAll (List.replicate n k) ys = true)
    (nx : ∀ b : Bool, (b = true ↔ xs = ys) → R (.bool b) h) : WI P CT ⟨d, none, .fl (.binOp .eql t x y u) ty⟩ env h R := by
  refine ⟨?_⟩
  unfold wpIn
  have hs : flatStep P env (.binOp .eql t x y u) ty = some (.bool (eqL xs ys)) := by
    have fx := sk_flat hx
    have fy := sk_flat hy
    unfold flatStep
    have ha : allFlat env (Op.binOp .eql t x y u).operands.toList = true := by
      simp [allFlat, Op.operands, ex, ey, fx, fy]
    rw [if_pos ha]
    have he : pureSem P (execOp (fun x => (evA env x).getD undef) ⟨none, .binOp .eql t x y u, ty, "", #[], none⟩) = some (.value (.bool (eqL xs ys))) := by
      simp only [execOp, ex, ey, Option.getD_some]
      rw [ps_bind, ps_eqA hu hk hi h1 hg hx hy x y]
      rfl
    rw [he]
    rfl
  simp only [wanted, hs]
  exact nx _ (eqL_iff hx hy)
end
end Go.Proofs.YtnebdnbglggdkaaDoorW.Am
