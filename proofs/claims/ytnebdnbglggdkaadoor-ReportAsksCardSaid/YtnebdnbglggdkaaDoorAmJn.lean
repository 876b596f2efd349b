/- strings.Join over a grown row of strings, by the kit's contract. -/
import Derived.Test.YtnebdnbglggdkaaDoorAmBr
import Derived.Lib.Join
namespace Go.Proofs.YtnebdnbglggdkaaDoorW.Am
open Go Go.RowKit
/-- A row of strings, as cells. -/
def rS (l : List ByteArray) : List (List Value) := l.map fun a => [.string a]
theorem rS_flat (l : List ByteArray) : (rS l).flatten = l.map Value.string := by
  induction l with
  | nil => rfl
  | cons a l ih => simp [rS] at ih ⊢; exact ih
theorem rS_len (l : List ByteArray) : (rS l).length = l.length := by simp [rS]
theorem rS_app (l m : List ByteArray) : rS (l ++ m) = rS l ++ rS m := by simp [rS]
theorem rS_els (l : List ByteArray) : Els 1 (rS l) := fun u hu => by
  obtain ⟨p, _, rfl⟩ := List.mem_map.1 hu
  exact ⟨rfl, rfl⟩
def joinS (xs : List ByteArray) (sep : ByteArray) : ByteArray := ⟨(Go.Lib.join (xs.map (·.data.toList)) sep.data.toList).toArray⟩
theorem join_br {P : Program} {f : FuncId} (he : Enters P f) (sep : ByteArray)
    (C : ∀ (bk o c : Nat) (xs : List ByteArray) (w : World), (∀ (j : Nat) x, xs[j]? = some x → w.cell? ⟨bk, o + j, none⟩ = some (.string x)) → bk < w.heap.size → xs.length ≤ 140737488355328 → xs.length ≤ c →
      (Go.Lib.join (xs.map (·.data.toList)) sep.data.toList).length ≤ 140737488355328 → Calls P f #[.slice (some ⟨bk, o, none⟩) xs.length c, .string sep] w fun e w' => e = .returned (.string (joinS xs sep)) ∧ Below w.heap.size w w')
    (hd : DrOn → False) {N : Nat} {h : Hp} {s : Value} {xs : List ByteArray} (r : GR 1 N h s (rS xs)) (h0 : xs ≠ []) (h1 : xs.length ≤ 140737488355328) (h2 : (Go.Lib.join (xs.map (·.data.toList)) sep.data.toList).length ≤ 140737488355328) :
    ACall P f [s, .string sep] h (fun v g => v = .string (joinS xs sep) ∧ g = h) := by
  rcases r with ⟨_, e0⟩ | ⟨i, hNi, hin, rfl, hg, hne, hels⟩
  · exact absurd (by simpa [rS] using e0) h0
  rw [rS_flat] at hg
  rw [rS_len]
  refine ⟨he, fun base w0 m w args' ra sm => ?_⟩
  obtain ⟨v', b', rfl, r1, r2⟩ := ra.cases_cons
  obtain ⟨u', b2', rfl, r3, r4⟩ := r2.cases_cons
  obtain rfl := r4.cases_nil
  have r3 := r3.flat_eq rfl
  subst r3
  cases r1 with
  | @sliceX _ _ _ _ lc hm =>
  obtain ⟨l2, hl2, hlies, hob⟩ := sm.obs i _ hg (sm.ms.ex _ _ hm)
  rw [hm] at hl2; cases hl2
  have hcell : ∀ (j : Nat) x, xs[j]? = some x → w.cell? ⟨lc.blk, lc.off + 0 + j, none⟩ = some (.string x) := by
    intro j x hj
    have hi2 : (xs.map Value.string)[j]? = some (.string x) := by rw [List.getElem?_map, hj]; rfl
    obtain ⟨x', hx, rx⟩ := hlies j _ hi2
    have := rx.flat_eq rfl
    subst this
    rw [Nat.add_zero, hx]
  have hlt := sm.lt i lc hm
  refine (C lc.blk (lc.off + 0) _ xs w hcell hlt h1 (by omega) h2).mono ?_
  rintro e w' ⟨rfl, hb⟩
  exact ⟨m, _, _, h, rfl, m.le_refl, RV.of_flat m _ rfl, sm.world (hb.mono sm.big) (fun d => (hd d).elim) hb.size (fun b es ck hm => hb.block _ (Array.getElem?_eq_some_iff.1 hm).1) fun i l ob _ hm => hb.block _ (sm.lt i l hm), rfl, rfl⟩
end Go.Proofs.YtnebdnbglggdkaaDoorW.Am
