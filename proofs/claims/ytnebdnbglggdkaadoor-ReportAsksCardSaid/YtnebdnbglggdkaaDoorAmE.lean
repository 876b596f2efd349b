/- The operations: what the abstract step says, the true run does. First part: reading, computing, making. -/
import Derived.Test.YtnebdnbglggdkaaDoorAmD
import Derived.Laws.Slices
namespace Go.Proofs.YtnebdnbglggdkaaDoorW.Am
open Go Go.RowKit

/-- A run of an instruction that yields a value. -/
def Snd (P : Program) (base : Nat) (w0 : World) (m : Mu) (w : World) (s : Sem Value) (v : Value) (h' : Hp) : Prop :=
  ∃ m' v' w', s.run P w = .ok v' w' ∧ m.le m' ∧ RV m' v v' ∧ Sim base w0 m' h' w'

section
variable {P : Program} {base : Nat} {w0 w : World} {m : Mu} {h : Hp}

theorem Snd.pure (s : Sim base w0 m h w) {x : Sem Value} {v v' : Value} (hr : x.run P w = .ok v' w) (rv : RV m v v') : Snd P base w0 m w x v h :=
  ⟨m, v', w, hr, m.le_refl, rv, s⟩

theorem eq_bool (d : Nat) {t : TypeId} {a b : Bool} (ht : P.underlying t = some .bool) : (Op.equalIn (d + 1) t (.bool a) (.bool b)).run P w = .ok (a == b) w := by
  simp [Op.equalIn, run_underlying ht]

theorem bin_sound {op : BinOp} {x y v : Value} {t : TypeId} (e : binA op x y = some v) (hb : ∀ a, x = .bool a → P.underlying t = some .bool) : (binOp op t x y).run P w = .ok v w := by
  cases x <;> cases y <;> simp only [binA] at e <;> try (cases e; done)
  case int.int k a k' b =>
    cases op <;> simp only at e <;> (split at e <;> cases e) <;> rename_i hc
    case shl => simp [binOp, Op.shift, show ¬ b < 0 from hc]
    case shr => simp [binOp, Op.shift, show ¬ b < 0 from hc]
    case quo => obtain ⟨rfl, h0⟩ := hc; simp [binOp, Op.intDiv, h0]
    case rem => obtain ⟨rfl, h0⟩ := hc; simp [binOp, Op.intDiv, h0]
    all_goals (subst hc; simp [binOp, Op.intArith, Op.intBits, Op.intCmp])
  case string.string a b =>
    cases op <;> simp only at e <;> try (cases e; done)
    case add =>
      split at e <;> cases e
      rename_i hc
      have : ¬ (((a.size + b.size : Nat) : Int) > IntKind.i64.max) := by
        have : IntKind.i64.max = 9223372036854775807 := by decide
        omega
      simp only [binOp, Op.stringOp]
      rw [if_neg this]; rfl
    all_goals (cases e; rfl)
  case bool.bool a b =>
    have ht := hb a rfl
    have hq : (Op.equal t (.bool a) (.bool b)).run P w = .ok (a == b) w := eq_bool 9999 ht
    cases op <;> simp only at e <;> try (cases e; done)
    all_goals (cases e; simp only [binOp, Sem.run_bind, hq, Result.andThen_ok]; rfl)

theorem RV.scalar_int {v : Value} {k : IntKind} {n : Int} (r : RV m (.int k n) v) : v = .int k n := by cases r; rfl
theorem RV.scalar_bool {v : Value} {b : Bool} (r : RV m (.bool b) v) : v = .bool b := by cases r; rfl
theorem RV.scalar_string {v : Value} {s : ByteArray} (r : RV m (.string s) v) : v = .string s := by cases r; rfl

theorem binA_flat {op : BinOp} {x y v x' y' : Value} (e : binA op x y = some v) (rx : RV m x x') (ry : RV m y y') : x' = x ∧ y' = y ∧ RV m v v := by
  have hx : (∃ k a, x = .int k a) ∨ (∃ s, x = .string s) ∨ (∃ b, x = .bool b) := by
    cases x <;> first | (exact .inl ⟨_, _, rfl⟩) | (exact .inr (.inl ⟨_, rfl⟩)) | (exact .inr (.inr ⟨_, rfl⟩)) | (simp [binA] at e)
  have hy : (∃ k a, y = .int k a) ∨ (∃ s, y = .string s) ∨ (∃ b, y = .bool b) := by
    cases y <;> first | (exact .inl ⟨_, _, rfl⟩) | (exact .inr (.inl ⟨_, rfl⟩)) | (exact .inr (.inr ⟨_, rfl⟩)) | (cases x <;> simp [binA] at e)
  have hv : (∃ k a, v = .int k a) ∨ (∃ s, v = .string s) ∨ (∃ b, v = .bool b) := by
    obtain ⟨k, a, rfl⟩ | ⟨a, rfl⟩ | ⟨a, rfl⟩ := hx <;> obtain ⟨k', b, rfl⟩ | ⟨b, rfl⟩ | ⟨b, rfl⟩ := hy <;> simp only [binA] at e <;> try (cases e; done)
    all_goals (cases op <;> simp only at e <;> first | (cases e; done) | (split at e <;> cases e <;> first | exact .inl ⟨_, _, rfl⟩ | exact .inr (.inl ⟨_, rfl⟩) | exact .inr (.inr ⟨_, rfl⟩)) | (cases e; first | exact .inl ⟨_, _, rfl⟩ | exact .inr (.inl ⟨_, rfl⟩) | exact .inr (.inr ⟨_, rfl⟩)))
  refine ⟨?_, ?_, ?_⟩
  · obtain ⟨k, a, rfl⟩ | ⟨a, rfl⟩ | ⟨a, rfl⟩ := hx
    · exact rx.scalar_int
    · exact rx.scalar_string
    · exact rx.scalar_bool
  · obtain ⟨k, a, rfl⟩ | ⟨a, rfl⟩ | ⟨a, rfl⟩ := hy
    · exact ry.scalar_int
    · exact ry.scalar_string
    · exact ry.scalar_bool
  · obtain ⟨k, a, rfl⟩ | ⟨a, rfl⟩ | ⟨a, rfl⟩ := hv
    · exact .int _ _
    · exact .string _
    · exact .bool _

theorem isn_at (q : Nat) {t : TypeId} {d : TypeDesc} {x y x' y' : Value} {b : Bool} (hu : P.underlying t = some d) (hd : isNil d (.const y) = true) (e : isnil x y = some b) (rx : RV m x x') (ry : RV m y y') :
    (Op.equalIn (q + 1) t x' y').run P w = .ok b w ∧ y' = y := by
  cases y <;> cases d <;> simp only [isNil, Bool.false_eq_true] at hd
  case pointer.pointer a el =>
    cases a <;> try (exact absurd hd Bool.false_ne_true)
    cases ry
    cases x <;> simp only [isnil] at e <;> try (cases e; done)
    cases e
    refine ⟨?_, rfl⟩
    cases rx <;> simp [Op.equalIn, run_underlying hu]
  case slice.slice a n c el =>
    cases a <;> try (exact absurd hd Bool.false_ne_true)
    cases ry
    cases x <;> simp only [isnil] at e <;> try (cases e; done)
    cases e
    refine ⟨?_, rfl⟩
    cases rx <;> simp [Op.equalIn, run_underlying hu]
  case map.map a k el =>
    cases a <;> try (exact absurd hd Bool.false_ne_true)
    cases ry
    cases x <;> simp only [isnil] at e <;> try (cases e; done)
    cases e
    refine ⟨?_, rfl⟩
    cases rx <;> simp [Op.equalIn, run_underlying hu]
  case nilFunc.func ps rs vr =>
    cases ry
    refine And.intro ?_ rfl
    cases rx <;> simp only [isnil, reduceCtorEq, Option.some.injEq] at e <;> (subst e; simp [Op.equalIn, run_underlying hu])
  case nilIface.interface ms =>
    cases ry
    refine And.intro ?_ rfl
    cases rx <;> simp only [isnil, reduceCtorEq, Option.some.injEq] at e <;> (subst e; simp [Op.equalIn, run_underlying hu])
theorem isn_sound {t : TypeId} {d : TypeDesc} {x y x' y' : Value} {b : Bool} (hu : P.underlying t = some d) (hd : isNil d (.const y) = true) (e : isnil x y = some b) (rx : RV m x x') (ry : RV m y y') :
    (Op.equal t x' y').run P w = .ok b w ∧ y' = y := isn_at 9999 hu hd e rx ry
end
end Go.Proofs.YtnebdnbglggdkaaDoorW.Am
