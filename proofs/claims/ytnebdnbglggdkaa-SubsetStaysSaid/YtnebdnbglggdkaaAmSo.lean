/- A row of an object's own is sorted: slices.SortFunc of the library, by the kit's contract. -/
import Derived.Test.YtnebdnbglggdkaaAmBr
import Derived.Shelf.SlSortCmp.Whole1
namespace Go.Proofs.YtnebdnbglggdkaaW.Am
open Go Go.RowKit
/-- An object's cells turn, as many as they were. -/
theorem Sim.repl {base w0 m h w} (s : Sim base w0 m h w) {i : Nat} {ob : Ob} {l : Loc} {cs : List Value} {w' : World} (hi : h.get i = some ob) (hl : m i = some l) (hw : ob.rw = true) (hlen : cs.length = ob.cells.length)
    (hb : Below base w w') (hd : DrOn → w.drawn ≤ w'.drawn) (hsame : ∀ b, b < w.heap.size → b ≠ l.blk → w'.heap[b]? = w.heap[b]?)
    (hblk : ∀ c e f, w.heap[l.blk]? = some (.cells c e f) → ∃ c', w'.heap[l.blk]? = some (.cells c' e f) ∧ c'.size = c.size) (hlies : Lies m w' l cs) : Sim base w0 m (h.put i { ob with cells := cs }) w' := by
  refine ⟨s.below.trans hb hd, Nat.le_trans s.big hb.size, s.fresh, fun k q hq => Nat.lt_of_lt_of_le (s.lt k q hq) hb.size, ?_, ?_⟩
  · intro k o ek
    simp only [Hp.put] at ek
    split at ek
    · next hk =>
      subst hk; cases ek
      obtain ⟨l2, hl2, _, hob⟩ := s.obs k ob hi
      rw [hl] at hl2; cases hl2
      obtain ⟨hbase, c, e, f, h1, h2, h3⟩ := hob hw
      obtain ⟨c', h4, h5⟩ := hblk c e f h1
      exact ⟨l, hl, hlies, fun _ => ⟨hbase, c', e, f, h4, by rw [h5]; exact h2, by dsimp only; rw [h5, hlen]; exact h3⟩⟩
    · next hk =>
      obtain ⟨q, hq, h1, h2⟩ := s.obs k o ek
      have hne : q.blk ≠ l.blk := fun eb => s.apart i k ob o l q hi ek (fun e => hk e.symm) hw hl hq eb.symm
      have hs := hsame q.blk (s.lt k q hq) hne
      refine ⟨q, hq, fun n x ex => ?_, fun r => ⟨(h2 r).1, ?_⟩⟩
      · obtain ⟨x', hx, rx⟩ := h1 n x ex
        refine ⟨x', ?_, rx⟩
        unfold World.cell? at hx ⊢
        rw [hs]; exact hx
      · obtain ⟨c', e', f', h3, h4⟩ := (h2 r).2
        exact ⟨c', e', f', hs.trans h3, h4⟩
  · intro k n a b p q ek en hkn ra ep eq
    simp only [Hp.put] at ek en
    split at ek <;> split at en
    · next h1 h2 => exact absurd (h1.trans h2.symm) hkn
    · next h1 h2 => cases ek; subst h1; exact s.apart k n ob b p q hi en hkn hw ep eq
    · next h1 h2 => cases en; subst h2; exact s.apart k n a ob p q ek hi hkn ra ep eq
    · exact s.apart k n a b p q ek en hkn ra ep eq
theorem sw_heap {α : Type} [Inhabited α] {enc : α → Value} {w : World} {blk off n : Nat} {d : Array α} {os : Array Obj} {b : Nat} (hb : b < w.heap.size) :
    (sortWorld enc w blk off n d os).heap[b]? = (Go.Sort.putRow enc w blk off d).heap[b]? := by
  have hs : b < (Go.Sort.putRow enc (Go.Sort.ahead w n) blk off d).heap.size := by rw [Go.Sort.size_putRow]; exact hb
  show ((Go.Sort.putRow enc (Go.Sort.ahead w n) blk off d).heap ++ os)[b]? = _
  rw [Array.getElem?_append_left hs]
  rfl
theorem pr_heap {α : Type} [Inhabited α] {enc : α → Value} {w : World} {blk off : Nat} {d : Array α} {b : Nat} (h : b ≠ blk) : (Go.Sort.putRow enc w blk off d).heap[b]? = w.heap[b]? := by
  unfold Go.Sort.putRow Go.Sort.mapBlock
  simp only [Array.getElem?_modify]
  rw [if_neg (fun e => h e.symm)]
theorem pr_blk {α : Type} [Inhabited α] {enc : α → Value} {w : World} {blk off : Nat} {d : Array α} {c : Array Value} {e : TypeId} {f : Nat × Nat} (h : w.heap[blk]? = some (.cells c e f)) : (Go.Sort.putRow enc w blk off d).heap[blk]? = some (.cells (Go.Sort.putCells enc off d c) e f) := by
  unfold Go.Sort.putRow Go.Sort.mapBlock
  simp only [Array.getElem?_modify, if_true, h]
  rfl
/-- slices.SortFunc over a row of plain cells. -/
theorem sort_br {P : Program} {ρ : Go.Shelf.Ren} {α : Type} [Inhabited α] (L : Go.Proofs.SlLaysF.n6 P ρ) (enc : α → Value) (h1 : Go.Proofs.OneCell enc) (hfl : ∀ x, flat (enc x) = true) (cf : α → α → Int) (hO : Go.Sort.SWO (Go.Proofs.ltOf cf)) (g : Nat)
    (eg : ∀ args w, (callFunc g args).run P w = .ok (.enter g args) w)
    (hcmp : ∀ W x y, Calls P g #[enc x, enc y] W fun e w' => e = .returned (.int .i64 (cf x y)) ∧ ∃ q os', w' = Go.Sort.grow (W.drewN q) os')
    (he : Enters P (ρ.f 6)) (h : Hp) {j c : Nat} {l : List α} {tl : List Value} (hg : h.get j = some ⟨l.map enc ++ tl, true, 1⟩) (hsz : l.length < 4611686018427387904) :
    ACall P (ρ.f 6) [.slice (some ⟨j, 0, some 0⟩) l.length c, .func (.func g) #[] #[]] h (fun _ g' => ∃ l' : List α, Go.Sort.PermIn 0 l.length l.toArray l'.toArray ∧ Go.Sort.SortedIn (Go.Proofs.ltOf cf) 0 l.length l'.toArray ∧ l'.length = l.length ∧ g' = h.put j ⟨l'.map enc ++ tl, true, 1⟩) := by
  refine ⟨he, fun base w0 m w args' ra s => ?_⟩
  obtain ⟨v', b', rfl, r1, r2⟩ := ra.cases_cons
  obtain ⟨u', b2', rfl, r3, r4⟩ := r2.cases_cons
  obtain rfl := r4.cases_nil
  have r3 := r3.flat_eq rfl
  subst r3
  cases r1 with
  | @sliceX _ _ _ _ lc hm =>
  obtain ⟨l2, hl2, hlies, hob⟩ := s.obs j _ hg
  rw [hm] at hl2; cases hl2
  obtain ⟨hbase, cc, ce, cfz, hblk, hfr, hbig⟩ := hob rfl
  have hcell : ∀ i, i < l.length → w.cell? ⟨lc.blk, lc.off + 0 + i, none⟩ = some (enc l.toArray[i]!) ∧ w.frozen? ⟨lc.blk, lc.off + 0 + i, none⟩ = false := by
    intro i hi
    have hi2 : (l.map enc ++ tl)[i]? = some (enc l[i]) := by rw [List.getElem?_append_left (by simpa using hi), List.getElem?_map, List.getElem?_eq_getElem hi]; rfl
    obtain ⟨x', hx, rx⟩ := hlies i _ hi2
    have := rx.flat_eq (hfl _)
    subst this
    refine ⟨by rw [Nat.add_zero, hx]; simp [getElem!_pos, hi], ?_⟩
    simp only [World.frozen?, hblk]
    have := hfr (lc.off + 0 + i) (by simp at hbig; omega)
    simp; omega
  have hH : Go.Sort.Holds enc w lc.blk (lc.off + 0) l.toArray := fun i hi => hcell i (by simpa using hi)
  have hlt := s.lt j lc hm
  have key := Go.Proofs.Any.slices_SortFunc L enc h1 cf hO g #[] lc.blk (lc.off + 0) (c + lc.slack) l.toArray w eg (fun _ _ _ _ x y => hcmp _ x y) hH hlt (by simpa using hsz)
  rw [List.size_toArray] at key
  refine key.mono ?_
  rintro e w' ⟨rfl, d', n, os, hp, hs, rfl⟩
  have hds : d'.size = l.length := by have := hp.1; simpa using this
  have hheap : ∀ b, b < w.heap.size → (sortWorld enc w lc.blk (lc.off + 0) n d' os).heap[b]? = (Go.Sort.putRow enc w lc.blk (lc.off + 0) d').heap[b]? := fun b hb => sw_heap hb
  have hbel : Below base w (sortWorld enc w lc.blk (lc.off + 0) n d' os) := by
    refine ⟨rfl, rfl, rfl, ?_, fun b hb => ?_⟩
    · show w.heap.size ≤ ((Go.Sort.putRow enc (Go.Sort.ahead w n) lc.blk (lc.off + 0) d').heap ++ os).size
      rw [Array.size_append, Go.Sort.size_putRow]
      exact Nat.le_add_right _ _
    · rw [hheap b (Nat.lt_of_lt_of_le hb s.big), pr_heap (by omega)]
  refine ⟨m, .tuple #[], .tuple #[], h.put j ⟨d'.toList.map enc ++ tl, true, 1⟩, rfl, m.le_refl, .tuple rfl (by simp), ?_, d'.toList, hp, hs, by simpa using hds, rfl⟩
  refine s.repl (cs := d'.toList.map enc ++ tl) hg hm rfl (by simp [hds]) hbel (fun _ => Nat.le_add_right _ _) (fun b hb hne => by rw [hheap b hb, pr_heap hne]) (fun c2 e2 f2 h2 => ⟨_, (hheap _ hlt).trans (pr_blk h2), by simp [Go.Sort.putCells]⟩) ?_
  intro i v hv
  rcases Nat.lt_or_ge i l.length with hi | hi
  · rw [List.getElem?_append_left (by simp [hds, hi]), List.getElem?_map] at hv
    have hi2 : i < d'.toList.length := by simp [hds, hi]
    rw [List.getElem?_eq_getElem hi2] at hv
    cases hv
    refine ⟨_, ?_, RV.of_flat m _ (hfl _)⟩
    simp only [World.cell?, (hheap _ hlt).trans (pr_blk hblk)]
    simp only [Option.isSome_none, Bool.false_eq_true, if_false, Go.Sort.putCells, Array.getElem?_mapIdx]
    have hc2 : lc.off + i < cc.size := by simp at hbig; omega
    rw [Array.getElem?_eq_getElem hc2, Option.map_some, if_pos (by rw [hds]; omega)]
    simp [getElem!_pos, hds, hi]
  · rw [List.getElem?_append_right (by simp [hds, hi])] at hv
    have hv2 : (l.map enc ++ tl)[i]? = some v := by
      rw [List.getElem?_append_right (by simpa using hi)]
      simpa [hds] using hv
    obtain ⟨x', hx, rx⟩ := hlies i v hv2
    refine ⟨x', ?_, rx⟩
    simp only [World.cell?, hblk] at hx
    simp only [World.cell?, (hheap _ hlt).trans (pr_blk hblk)]
    simp only [Option.isSome_none, Bool.false_eq_true, if_false, Go.Sort.putCells, Array.getElem?_mapIdx] at hx ⊢
    rw [hx, Option.map_some, if_neg (by rw [hds]; omega)]
end Go.Proofs.YtnebdnbglggdkaaW.Am
