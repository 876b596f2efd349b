-- Printed by this session's own program (wip/tools/widen.py over the kit's print): not the kit's print itself
import Derived.Test.YtcdfoicebcmlaaaWWords
import Derived.Test.YtcdfoicebcmlaaaWArr
import Derived.ProofKit
import Derived.OpenShut
import Derived.Deep.Slices
import Derived.SizedLaws
namespace Go.Proofs.YtcdfoicebcmlaaaW.Opens
open Go.ChangeShapes Go.WideShapes Go.RowKit Go.Proofs.YtcdfoicebcmlaaaW.PrintWords
variable {H : Type} {enc : TypeId × Value → H} {P : Program} {w : World} {base : Nat} {spare : Nat → Bool} {held : Bool}
/-- What can be read as data of type t is a value of this kind, well formed. -/
def Opens {α : Type} (enc : TypeId × Value → H) (P : Program) (w : World) (base : Nat) (spare : Nat → Bool) (held : Bool) (t : TypeId) (d : Kd α) (Wf : α → Prop) : Prop :=
  ∀ (fuel : Nat) (cs : List Value) (x : DataW H × List MemPlace), DataW.trod enc P w base spare held fuel t cs = some x → ∃ s : α, d.K w s cs ∧ Wf s
theorem o_int {t : TypeId} {k : IntKind} (ht : P.underlying t = some (.int k)) : Opens enc P w base spare held t (Kd.int k) (fun s => (Lit.int k s).wf = true) := by
  intro fuel cs x h
  obtain ⟨n, rfl, _, hw⟩ := DataW.trod_int ht h
  exact ⟨n, rfl, hw⟩
theorem o_bool {t : TypeId} (ht : P.underlying t = some .bool) : Opens enc P w base spare held t Kd.bool (fun _ => True) := by
  intro fuel cs x h
  obtain ⟨b, rfl, _⟩ := DataW.trod_bool ht h
  exact ⟨b, rfl, trivial⟩
theorem o_string {t : TypeId} (ht : P.underlying t = some .string) : Opens enc P w base spare held t Kd.string (fun s => s.size ≤ maxLen) := by
  intro fuel cs x h
  obtain ⟨s, rfl, _, hs⟩ := DataW.trod_string ht h
  exact ⟨s, rfl, hs⟩
theorem o_slice {α : Type} {d : Kd α} {Wf : α → Prop} {t e : TypeId} (ht : P.underlying t = some (.slice e)) (hC : P.cellsOf e = d.sz) (ho : Opens enc P w base spare held e d Wf) :
    Opens enc P w base spare held t (Kd.slice e d) (fun s => s.length ≤ maxLen ∧ ∀ y ∈ s, Wf y) := by
  intro fuel cs x h
  rcases Go.Deep.open_slice ht h with ⟨rfl, _⟩ | ⟨a, len, cap, m, n, D, Pl, rfl, _, hl, hm, hmm, _, hi⟩
  · exact ⟨[], ⟨none, 0, rfl, Nat.le_refl _, Kd.C_nil _ _⟩, by simp, by simp⟩
  · have hlm : len ≤ m := by rw [hmm]; split <;> omega
    have hex : ∀ i, i < len → ∃ s : α, ∃ cs' : List Value, cs'.length = d.sz ∧ (∀ j u, cs'[j]? = some u → w.cell? (a.add (i * d.sz + j)) = some u) ∧ d.K w s cs' ∧ Wf s := by
      intro i hil
      obtain ⟨cs', hc, htr⟩ := hi i (by omega)
      obtain ⟨s, hk, hw⟩ := ho _ _ _ htr
      rw [hC] at hc
      obtain ⟨_, hcl, hat⟩ := World.cells?_some hc
      refine ⟨s, cs', hcl, fun j u hj => ?_, hk, hw⟩
      have hjl : j < d.sz := by rw [← hcl]; exact (List.getElem?_eq_some_iff.1 hj).1
      rw [← Go.Deep.add_add, hat j hjl, hj]
    rcases Nat.eq_zero_or_pos len with h0 | h0
    · subst h0
      exact ⟨[], ⟨some a, cap, rfl, by simp, ⟨rfl, by simp, fun h => absurd h (by simp)⟩⟩, by simp, by simp⟩
    · obtain ⟨s0, _⟩ := hex 0 h0
      haveI : Inhabited α := ⟨s0⟩
      obtain ⟨V, hV⟩ := Go.Deep.choose_lt hex
      have hln : ((List.range len).map V).length = len := by simp
      refine ⟨(List.range len).map V, ⟨some a, cap, by rw [hln], by rw [hln]; exact hl, ?_⟩, by rw [hln]; exact Nat.le_trans hl hm, ?_⟩
      · refine ⟨rfl, by rw [hln]; exact Nat.le_trans hl hm, fun _ => ⟨a, rfl, fun j p hj => ?_⟩⟩
        have hj' : j < len := by
          have := (List.getElem?_eq_some_iff.1 hj).1
          rwa [hln] at this
        have hp : V j = p := by simpa [hj'] using hj
        subst hp
        obtain ⟨cs', h1, h2, h3, _⟩ := hV j hj'
        exact ⟨cs', h1, h3, h2⟩
      · intro y hy
        obtain ⟨j, hj, rfl⟩ := List.mem_map.1 hy
        obtain ⟨_, _, _, _, h4⟩ := hV j (by simpa using hj)
        exact h4
theorem o_array {α : Type} {d : Kd α} {hs : 0 < d.sz} {Wf : α → Prop} {t e : TypeId} {n : Nat} (ht : P.underlying t = some (.array n e)) (hC : P.cellsOf e = d.sz) (hCt : P.cellsOf t = n * d.sz) (ho : Opens enc P w base spare held e d Wf) :
    Opens enc P w base spare held t (Kd.arr n d hs) (fun s => s.length = n ∧ ∀ y ∈ s, Wf y) := by
  intro fuel cs x h
  obtain ⟨xs, m, _, _, hcl, hxl, hi⟩ := DataW.trod_array ht h
  rw [hCt] at hcl
  rw [hC] at hi
  have hex : ∀ i, i < n → ∃ s : α, d.K w s ((cs.drop (i * d.sz)).take d.sz) ∧ Wf s := by
    intro i hin
    have := hi i hin
    rw [List.getElem?_eq_getElem (by omega)] at this
    exact ho _ _ _ this
  rcases Nat.eq_zero_or_pos n with h0 | h0
  · subst h0
    have hnil : cs = [] := List.eq_nil_of_length_eq_zero (by simpa using hcl)
    subst hnil
    exact ⟨[], ⟨rfl, Reps.none _ _⟩, rfl, by simp⟩
  · obtain ⟨s0, _⟩ := hex 0 h0
    haveI : Inhabited α := ⟨s0⟩
    obtain ⟨V, hV⟩ := Go.Deep.choose_lt hex
    have hln : ((List.range n).map V).length = n := by simp
    refine ⟨(List.range n).map V, ⟨hln, by rw [hln]; exact hcl, fun j p hj => ?_⟩, hln, ?_⟩
    · have hj' : j < n := by
        have := (List.getElem?_eq_some_iff.1 hj).1
        rwa [hln] at this
      have hp : V j = p := by simpa [hj'] using hj
      subst hp
      exact (hV j hj').1
    · intro y hy
      obtain ⟨j, hj, rfl⟩ := List.mem_map.1 hy
      exact (hV j (by simpa using hj)).2
theorem cut_last {cs : List Value} {o n : Nat} (h : cs.length = o + n) : (cs.drop o).take n = cs.drop o := List.take_of_length_le (by rw [List.length_drop]; omega)
theorem cut_next (cs : List Value) (o n : Nat) : cs.drop o = (cs.drop o).take n ++ cs.drop (o + n) := by rw [← List.drop_drop, List.take_append_drop]
theorem agg_of_list {cs : Array Value} {l : List Value} (h : cs.toList = l) : cs = l.toArray := by rw [← h]
/-- A row's slice is no longer than its weight allows, whatever its elements. -/
theorem sized_any {t e : TypeId} {a : Option Addr} {len cap : Nat} {dd : DataW H} {ps : List MemPlace} {ts : List TypeId} {ds : List (DataW H)} {j : Nat}
    (hsz : (DataW.weightsEach P ts ds).all (· ≤ reachBytes) = true) (ht : ts[j]? = some t) (hd : ds[j]? = some dd) (hu : P.underlying t = some (.slice e)) {B : Nat} (hB : P.bytesOf e = B)
    (h : DataW.Trod enc P w base spare held t (.slice a len cap) dd ps) : len * B ≤ 140737488351232 := by
  obtain ⟨fuel, hf⟩ := h
  rcases Go.Deep.open_slice hu hf with ⟨hcs, _⟩ | ⟨x, l, c, m, n, D, Pl, hcs, _, hl, _, _, hx, _⟩
  · simp [Value.cells] at hcs
    obtain ⟨rfl, rfl, rfl⟩ := hcs
    simp
  · simp [Value.cells] at hcs
    obtain ⟨rfl, rfl, rfl⟩ := hcs
    obtain ⟨hx, _⟩ := Prod.mk.inj hx
    subst hx
    have z := sized_slice hsz ht hd hu
    rw [hB] at z
    refine Nat.le_trans (Nat.mul_le_mul_right _ ?_) z
    simp
end Go.Proofs.YtcdfoicebcmlaaaW.Opens
