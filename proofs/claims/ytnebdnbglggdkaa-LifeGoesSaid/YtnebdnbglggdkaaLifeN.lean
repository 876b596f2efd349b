/- Pods over abstract heaps: a Life with one pod more. -/
import Derived.Test.YtnebdnbglggdkaaLifeM
namespace Go.Proofs.YtnebdnbglggdkaaW.Am
open Go Go.RowKit
theorem LA.grow {h h2 : Hp} {L j j' : Nat} {ps : List (Nat × Pd)} {made m : Int} {v : Pd} {s' : Value} (a : LA h L j ps made) (lr : LR h2 L j' s' ((ps.map fun p => pE p.1) ++ [pE h.nx])) (hn : h.nx + 1 ≤ h2.nx) (jl : j' < h2.nx) (hj' : j' = j ∨ h.nx + 1 ≤ j')
    (hk : ∀ k, k < h.nx + 1 → (k ≠ j ∨ j = L) → h2.get k = (h.new ⟨p4 v, true, 0⟩).get k) : LA (h2.put L ⟨[s', nI m], true, 0⟩) L j' (ps ++ [(h.nx, v)]) m := by
  obtain ⟨hL, hj, ⟨s, hg, hs⟩, hp, hnd⟩ := a
  refine ⟨by rw [hput_nx]; omega, by rw [hput_nx]; omega, ⟨s', hput_same _ _ _, ?_⟩, fun q hq => ?_, ?_⟩
  · rw [List.map_append]
    exact lr.keep fun e => hput_ne _ _ e
  · rw [hput_nx]
    rcases List.mem_append.1 hq with hq | hq
    · have h1 := hp q hq
      refine ⟨?_, by omega, h1.2.2.1, by omega⟩
      rw [hput_ne _ _ h1.2.2.1, hk q.1 (by omega) (.inl h1.2.2.2)]
      simp only [Hp.new, show ¬ q.1 = h.nx by omega, if_false]
      exact h1.1
    · rw [List.mem_singleton] at hq
      subst hq
      refine ⟨?_, by dsimp only; omega, by dsimp only; omega, by dsimp only; omega⟩
      rw [hput_ne _ _ (by dsimp only; omega), hk h.nx (by omega) (.inl (by omega))]
      simp [Hp.new]
  · rw [List.map_append, List.nodup_append]
    refine ⟨hnd, by simp, fun x hx y hy => ?_⟩
    obtain ⟨q, hq, rfl⟩ := List.mem_map.1 hx
    have := (hp q hq).2.1
    simp at hy
    omega
end Go.Proofs.YtnebdnbglggdkaaW.Am
