/- The operations, fourth part: slices of slices, append, copy, clear, make, and what is left. -/
import Derived.Test.YtnebdnbglggdkaaDoorAmG
import Derived.Laws.IdiomCopy
namespace Go.Proofs.YtnebdnbglggdkaaDoorW.Am
open Go Go.RowKit
section
variable {P : Program} {base : Nat} {w0 w : World} {m : Mu} {h : Hp}

theorem bnd_grow {v : Option Value} {y y' r : Nat} {d d' : Option Nat} (hy : y ≤ y') (e : bnd v y d = some r) : (v.isSome = true ∧ bnd v y' d' = some r) ∨ (v = none ∧ d = some r) := by
  unfold bnd at e
  split at e
  · next k i =>
    split at e
    · next hc => cases e; refine .inl ⟨rfl, ?_⟩; simp only [bnd]; rw [if_pos ⟨hc.1, by omega⟩]
    · cases e
  · cases e
  · exact .inr ⟨rfl, e⟩
theorem bnd_le {v : Option Value} {y r : Nat} {d : Option Nat} (e : bnd v y d = some r) : (v.isSome = true ∧ r ≤ y) ∨ (v = none ∧ d = some r) := by
  unfold bnd at e
  split at e
  · split at e
    · next hc => cases e; exact .inl ⟨rfl, by omega⟩
    · cases e
  · cases e
  · exact .inr ⟨rfl, e⟩
theorem bounds_some {len cap l u q : Nat} {lo hi mx : Option Value} (e : bounds len cap lo hi mx = some (l, u, q)) :
    bnd mx cap (some cap) = some q ∧ bnd hi q (if mx.isSome ∨ cap < len then none else some len) = some u ∧ bnd lo u (some 0) = some l := by
  unfold bounds at e
  split at e
  · cases e
  next m1 hm =>
  split at e
  · cases e
  next h1 hh =>
  split at e
  · cases e
  next l1 hl =>
  cases e
  exact ⟨hm, hh, hl⟩
theorem bounds_of {len cap l u q : Nat} {lo hi mx : Option Value} (h1 : bnd mx cap (some cap) = some q) (h2 : bnd hi q (if mx.isSome ∨ cap < len then none else some len) = some u) (h3 : bnd lo u (some 0) = some l) :
    bounds len cap lo hi mx = some (l, u, q) := by
  unfold bounds
  simp only [h1, h2, h3]
theorem bounds_le {len cap l u q : Nat} {lo hi mx : Option Value} (e : bounds len cap lo hi mx = some (l, u, q)) : l ≤ u ∧ u ≤ q ∧ q ≤ cap := by
  obtain ⟨h1, h2, h3⟩ := bounds_some e
  have hq : q ≤ cap := by
    rcases bnd_le h1 with ⟨_, h⟩ | ⟨_, h⟩
    · exact h
    · cases h; exact Nat.le_refl _
  have hl : l ≤ u := by
    rcases bnd_le h3 with ⟨_, h⟩ | ⟨_, h⟩
    · exact h
    · cases h; exact Nat.zero_le _
  refine ⟨hl, ?_, hq⟩
  rcases bnd_le h2 with ⟨_, h⟩ | ⟨rfl, h⟩
  · exact h
  · split at h
    · cases h
    · next hc =>
      cases h
      rcases bnd_le h1 with ⟨hs, _⟩ | ⟨_, hx⟩
      · exact absurd (Or.inl hs) hc
      · cases hx
        have : ¬ cap < len := fun x => hc (Or.inr x)
        omega
theorem bounds_grow {len cap cap' l u q : Nat} {lo hi mx : Option Value} (hc : cap ≤ cap') (e : bounds len cap lo hi mx = some (l, u, q)) :
    (mx.isSome = true ∧ bounds len cap' lo hi mx = some (l, u, q)) ∨ (mx = none ∧ q = cap ∧ bounds len cap' lo hi mx = some (l, u, cap')) := by
  obtain ⟨h1, h2, h3⟩ := bounds_some e
  rcases bnd_grow (d' := some cap') hc h1 with ⟨hs, h4⟩ | ⟨rfl, h4⟩
  · refine .inl ⟨hs, bounds_of h4 ?_ h3⟩
    rw [if_pos (Or.inl hs)] at h2 ⊢
    exact h2
  · cases h4
    refine .inr ⟨rfl, rfl, bounds_of rfl ?_ h3⟩
    rcases bnd_grow (d' := if (none : Option Value).isSome = true ∨ cap' < len then none else some len) hc h2 with ⟨_, h5⟩ | ⟨rfl, h5⟩
    · exact h5
    · split at h5
      · cases h5
      · next hn =>
        cases h5
        have : ¬ cap < len := fun x => hn (Or.inr x)
        simp only [bnd, Option.isSome_none, Bool.false_eq_true, false_or]
        rw [if_neg (by omega)]

theorem run_sliceAt' {t el : TypeId} {ti : TypeInfo} {esz : Nat} (hu : P.underlying t = some (.slice el)) (hi : P.info? el = some ti) (hn : ti.size = esz) {a : Option Addr} {len cap l u q : Nat} {lo up mx : Option Value}
    (e : bounds len cap lo up mx = some (l, u, q)) : (Instr.sliceAt t (.slice a len cap) lo up mx).run P w = .ok (.slice (if q = l then a else a.map (·.add (l * esz))) (u - l) (q - l)) w := by
  simp only [Instr.sliceAt, Instr.slice, Sem.run_bind, run_underlying hu, Result.andThen_ok, run_bounds e, sizeOf, typeInfo, program, Sem.run]
  simp [hi, hn]

theorem snd_slc (s : Sim base w0 m h w) {t el : TypeId} {ti : TypeInfo} {esz : Nat} (hu : P.underlying t = some (.slice el)) (hi : P.info? el = some ti) (hn : ti.size = esz) {a : Option Addr} {len cap : Nat} {lo up mx : Option Value} {y v : Value}
    (ry : RV m (.slice a len cap) y) (e : sliceA esz a len cap lo up mx = some v) : Snd P base w0 m w (Instr.sliceAt t y lo up mx) v h := by
  unfold sliceA at e
  split at e
  · cases e
  next l u q hb =>
  have hrun := fun (b : Option Addr) (c : Nat) (l u q : Nat) (e : bounds len c lo up mx = some (l, u, q)) => run_sliceAt' (P := P) (w := w) hu hi hn (a := b) e
  split at e
  · cases e
    cases ry
    exact Snd.pure s (v' := .slice none (u - l) (q - l)) (by rw [hrun none cap l u q hb]; simp) (.nils _ _)
  · next i o =>
    cases e
    cases ry with
    | @slice _ _ _ _ loc hl =>
      refine Snd.pure s (hrun _ cap l u q hb) ?_
      split
      · exact .slice hl
      · rw [Option.map_some, add_lit']
        have := RV.slice (m := m) (i := i) (o := o + l * esz) (n := u - l) (c := q - l) hl
        rwa [← Nat.add_assoc] at this
  · next i o =>
    cases ry with
    | @sliceX _ _ _ _ loc hl =>
      rcases bounds_grow (cap' := cap + loc.slack) (by omega) hb with ⟨hm, hb'⟩ | ⟨rfl, hq, hb'⟩
      · rw [if_pos hm] at e
        cases e
        refine Snd.pure s (hrun _ _ l u q hb') ?_
        split
        · exact .slice hl
        · rw [Option.map_some, add_lit']
          have := RV.slice (m := m) (i := i) (o := o + l * esz) (n := u - l) (c := q - l) hl
          rwa [← Nat.add_assoc] at this
      · subst hq
        simp only [Option.isSome_none, Bool.false_eq_true, if_false, Option.some.injEq] at e
        subst e
        have hlu := bounds_le hb
        refine Snd.pure s (hrun _ _ l u (q + loc.slack) hb') ?_
        by_cases hql : q = l
        · subst hql
          rw [if_pos rfl, show u - q = 0 by omega, Nat.sub_self]
          by_cases hs : loc.slack = 0
          · rw [if_pos (by omega), show q + loc.slack - q = 0 by omega]
            exact .sliceY _ hl
          · rw [if_neg (by omega), Option.map_some, add_lit', show q + loc.slack - q = loc.slack by omega]
            have := RV.sliceZ (m := m) (i := i) (o := o + q * esz) (s := 0) hl
            rwa [← Nat.add_assoc] at this
        · rw [if_neg hql, if_neg (by omega), Option.map_some, add_lit', show q + loc.slack - l = (q - l) + loc.slack by omega]
          have := RV.sliceX (m := m) (i := i) (o := o + l * esz) (n := u - l) (c := q - l) hl
          rwa [← Nat.add_assoc] at this
  · next i o s' =>
    cases e
    cases ry with
    | @sliceZ _ _ _ loc hl =>
      have hlu := bounds_le hb
      rcases bounds_grow (cap' := loc.slack) (by omega) hb with ⟨hm, hb'⟩ | ⟨rfl, hq, hb'⟩
      · refine Snd.pure s (hrun _ _ l u q hb') ?_
        rw [if_pos (by omega), show u - l = 0 by omega, show q - l = 0 by omega]
        exact .sliceY _ hl
      · refine Snd.pure s (hrun _ _ l u _ hb') ?_
        rw [show u - l = 0 by omega, show q - l = 0 by omega, show l = 0 by omega]
        simp only [Nat.zero_mul, Option.map_some, Nat.sub_zero, add_lit', Nat.add_zero, ite_self]
        exact .sliceZ hl
    | sliceY b hl =>
      have hlu := bounds_le hb
      refine Snd.pure s (hrun _ _ l u q hb) ?_
      rw [if_pos (by omega), show u - l = 0 by omega, show q - l = 0 by omega]
      exact .sliceY _ hl
end
end Go.Proofs.YtnebdnbglggdkaaDoorW.Am
