/- The operations put together, third part: builtins; operations on values without addresses; all of them. -/
import Derived.Test.YtnebdnbglggdkaaDoorAmMp
namespace Go.Proofs.YtnebdnbglggdkaaDoorW.Am
open Go Go.RowKit
section
variable {P : Program} {base : Nat} {w0 w : World} {m : Mu} {h : Hp}

theorem arr_of {α : Type} {a : Array α} {l : List α} (e : a.toList = l) : a = ⟨l⟩ := by cases a; simp at e; subst e; rfl

theorem compB_split {b : Builtin} {ts : List TypeId} {ys : List Operand} {k : K} {xs : List Operand} (hc : compB P b ts ys = some (k, xs)) : xs = ys := by
  unfold compB at hc
  split at hc
  · split at hc <;> first | (cases hc; done) | (cases hc; rfl)
  · split at hc
    · split at hc
      · split at hc
        · split at hc
          · split at hc
            · cases hc; rfl
            · split at hc
              · cases hc; rfl
              · cases hc
            · cases hc
          · cases hc
        · cases hc
      · cases hc
    · cases hc
  · split at hc
    · split at hc
      · cases hc; rfl
      · cases hc
    · cases hc
  · split at hc
    · split at hc
      · split at hc
        · split at hc
          · cases hc; rfl
          · cases hc
        · cases hc
      · cases hc
    · cases hc
  · cases hc; rfl
  · cases hc; rfl
  · cases hc

theorem op_builtin {b : Builtin} {args : Array Operand} {argTypes : Array TypeId} {ρ : Operand → Value} {ty : TypeId} {dst : Option Tmp} {pos : String} {after : Array Edge} {guard : Option (Nat × Bool)} {k : K} {xs : List Operand} {vs : List Value} {v : Value} {h' : Hp}
    (s : Sim base w0 m h w) (hc : compB P b argTypes.toList args.toList = some (k, xs)) (hv : RVs m vs (xs.map ρ)) (e : stepK k vs h = some (v, h')) :
    Snd1 P base w0 m w (execOp ρ ⟨dst, .call { callee := .builtin b, args, argTypes }, ty, pos, after, guard⟩) v h' := by
  have hxs := compB_split hc
  subst hxs
  have fin : ∀ (A : Array Value) (x : Sem Value), args.map ρ = A → (∀ C, builtin b argTypes ty C A = (do pure (Next.value (← x)) : Sem Next)) → Snd P base w0 m w x v h' →
      Snd1 P base w0 m w (execOp ρ ⟨dst, .call { callee := .builtin b, args, argTypes }, ty, pos, after, guard⟩) v h' := by
    intro A x hA hx hs
    have := snd_one hs
    rw [← hx (args.map fun | .const _ => true | _ => false), ← hA] at this
    exact this
  unfold compB at hc
  split at hc
  · -- len
    next t x hts hys =>
    have ha := arr_of hts
    have hb := arr_of hys
    subst ha hb
    obtain ⟨y, rfl, r⟩ := RVs.r_one hv
    refine fin #[ρ x] (Builtin.len_ #[t] ty #[ρ x]) (by simp) (fun _ => rfl) ?_
    split at hc
    · next el hu =>
      cases hc
      cases y <;> simp only [stepK, reduceCtorEq, Option.some.injEq, Prod.mk.injEq] at e
      obtain ⟨rfl, rfl⟩ := e
      refine Snd.pure s (v' := .int .i64 _) ?_ (.int _ _)
      generalize ρ x = xx at r
      cases r <;> simp [Builtin.len_, run_underlying hu, goInt]
    · next hu =>
      cases hc
      cases y <;> simp only [stepK, reduceCtorEq, Option.some.injEq, Prod.mk.injEq] at e
      obtain ⟨rfl, rfl⟩ := e
      refine Snd.pure s (v' := .int .i64 _) ?_ (.int _ _)
      rw [r.scalar_string]
      simp [Builtin.len_, run_underlying hu, goInt]
    · next n el hu =>
      cases hc
      cases e
      refine Snd.pure s (v' := .int .i64 _) ?_ (.int _ _)
      simp [Builtin.len_, run_underlying hu, goInt]
    · cases hc
  · -- append
    next t u x y hts hys =>
    have ha := arr_of hts
    have hb := arr_of hys
    subst ha hb
    obtain ⟨a, b, rfl, r1, r2⟩ := RVs.r_two hv
    refine fin #[ρ x, ρ y] (Builtin.append_ #[t, u] ty #[ρ x, ρ y]) (by simp) (fun _ => rfl) ?_
    split at hc
    case h_2 => cases hc
    case h_1 el du hu huu =>
    split at hc
    case h_2 => cases hc
    case h_1 ti hi =>
    split at hc
    case h_2 => cases hc
    case h_1 z hz =>
    split at hc
    case isFalse => cases hc
    case isTrue hzs =>
    split at hc
    · next e2 =>
      cases hc
      cases a <;> simp only [stepK, reduceCtorEq] at e
      next a1 len cap =>
      cases b <;> simp only [reduceCtorEq] at e
      next b1 n c =>
      split at e
      · next cells hrd =>
        obtain ⟨xs', hr, hf⟩ := firstS (P := P) s r2 hrd
        have hlen : ∀ k, (Builtin.lenOf (ρ y)).run P { w with drawn := k } = .ok n { w with drawn := k } := by
          intro k
          generalize ρ y = yy at r2
          cases r2 <;> rfl
        exact snd_app s hu huu (.inl ⟨_, rfl⟩) hi rfl hz hzs r1 hr hlen hf e
      · cases e
    · split at hc
      case isFalse => cases hc
      case isTrue h11 =>
      cases hc
      cases a <;> simp only [stepK, reduceCtorEq] at e
      next a1 len cap =>
      cases b <;> simp only [reduceCtorEq] at e
      next str =>
      rw [r2.scalar_string]
      refine snd_app (xs := str.data.toList.map fun b => .int .u8 b.toNat) (xs' := str.data.toList.map fun b => .int .u8 b.toNat) s hu huu (.inr rfl) hi h11.1 hz (by rw [hzs, h11.1]) r1 (RVs.of_flat (List.all_eq_true.2 (by intro x hx; obtain ⟨b, _, rfl⟩ := List.mem_map.1 hx; rfl))) (fun _ => rfl) (fun k => ?_) (by rw [h11.2]; exact e)
      simp [Builtin.firstCells]
      apply Array.ext'
      simp
    · cases hc
  · -- copy
    next t u x y hts hys =>
    have ha := arr_of hts
    have hb := arr_of hys
    subst ha hb
    obtain ⟨a, b, rfl, r1, r2⟩ := RVs.r_two hv
    refine fin #[ρ x, ρ y] (Builtin.copy_ #[t, u] ty #[ρ x, ρ y]) (by simp) (fun _ => rfl) ?_
    split at hc
    case h_2 => cases hc
    case h_1 el hu =>
    split at hc
    case h_2 => cases hc
    case h_1 ti hi =>
    cases hc
    cases a <;> simp only [stepK, reduceCtorEq] at e
    next a1 len cap =>
    cases b <;> simp only [reduceCtorEq] at e
    next b1 n c =>
    split at e
    · next cells hrd => exact snd_cpy s hu hi rfl r1 r2 hrd (by simp only [stepK, hrd]; exact e)
    · cases e
  · -- clear
    next t x hts hys =>
    have ha := arr_of hts
    have hb := arr_of hys
    subst ha hb
    obtain ⟨a, rfl, r1⟩ := RVs.r_one hv
    refine fin #[ρ x] (Builtin.clear_ #[t] ty #[ρ x]) (by simp) (fun _ => rfl) ?_
    split at hc
    case h_2 => cases hc
    case h_1 el hu =>
    split at hc
    case h_2 => cases hc
    case h_1 ti hi =>
    split at hc
    case h_2 => cases hc
    case h_1 z hz =>
    split at hc
    case isFalse => cases hc
    case isTrue hf =>
    cases hc
    cases a <;> simp only [stepK, reduceCtorEq] at e
    exact snd_clr s hu hi hz hf r1 (by simp only [stepK]; exact e)
  · next t u x y hts hys =>
    have ha := arr_of hts
    have hb := arr_of hys
    subst ha hb
    cases hc
    obtain ⟨a, b, rfl, r1, r2⟩ := RVs.r_two hv
    refine fin #[ρ x, ρ y] (Builtin.max_ #[t, u] ty #[ρ x, ρ y]) (by simp) (fun _ => rfl) ?_
    simp only [stepK, Option.map_eq_some_iff] at e
    obtain ⟨q, hq, he⟩ := e
    cases he
    obtain ⟨e1, e2, rv, hrun⟩ := maxA_flat (P := P) (w := w) hq r1 r2
    refine Snd.pure s (v' := v) ?_ rv
    rw [e1, e2]
    simpa [Builtin.max_] using hrun
  · next t u x y hts hys =>
    have ha := arr_of hts
    have hb := arr_of hys
    subst ha hb
    cases hc
    obtain ⟨a, b, rfl, r1, r2⟩ := RVs.r_two hv
    refine fin #[ρ x, ρ y] (Builtin.min_ #[t, u] ty #[ρ x, ρ y]) (by simp) (fun _ => rfl) ?_
    simp only [stepK, Option.map_eq_some_iff] at e
    obtain ⟨q, hq, he⟩ := e
    cases he
    obtain ⟨e1, e2, rv, hrun⟩ := maxA_flat (P := P) (w := w) hq r1 r2
    refine Snd.pure s (v' := v) ?_ rv
    rw [e1, e2]
    simpa [Builtin.min_] using hrun
  · cases hc
end
end Go.Proofs.YtnebdnbglggdkaaDoorW.Am
