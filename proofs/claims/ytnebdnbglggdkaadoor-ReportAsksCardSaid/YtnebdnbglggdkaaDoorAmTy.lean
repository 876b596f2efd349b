/- The program's plain types, as cells: pods, requests, what is seen. -/
import Derived.Test.YtnebdnbglggdkaaDoorAmBr
namespace Go.Proofs.YtnebdnbglggdkaaDoorW.Am
open Go Go.RowKit
/-- A pod: number, state, how many in flight, since when. -/
abbrev Pd := Int × Int × Int × Int
def p4 (v : Pd) : List Value := [nI v.1, nI v.2.1, nI v.2.2.1, nI v.2.2.2]
theorem els4 (l : List Pd) : Els 4 (l.map p4) := fun u hu => by
  obtain ⟨p, _, rfl⟩ := List.mem_map.1 hu
  exact ⟨rfl, rfl⟩
/-- Something that is seen: time, wanted, panic, proxy, pods, waiting, busy, the seven ends, over. -/
structure Vw where
  (t want : Int) (panic proxy : Bool) (pods : Value) (waiting busy e0 e1 e2 e3 e4 e5 e6 : Int) (over : Bool)
def vs15 (v : Vw) : List Value := [nI v.t, nI v.want, .bool v.panic, .bool v.proxy, v.pods, nI v.waiting, nI v.busy, nI v.e0, nI v.e1, nI v.e2, nI v.e3, nI v.e4, nI v.e5, nI v.e6, .bool v.over]
theorem vs15_one {v : Vw} (ho : one v.pods = true) : (vs15 v).all one = true := by simp only [vs15, List.all_cons, List.all_nil, ho]; rfl
/-- A row of what is seen, each with its pods. -/
abbrev VP := Vw × List Pd
structure RV15 (h : Hp) (s : Value) (l : List VP) : Prop where
  row : RR 15 h s (l.map fun p => vs15 p.1)
  pods : ∀ p ∈ l, RR 4 h p.1.pods (p.2.map p4)
theorem RV15.ext {h g : Hp} {s : Value} {l : List VP} (a : RV15 h s l) (x : Ext h g) : RV15 g s l := ⟨a.row.ext x, fun p hp => (a.pods p hp).ext x⟩
theorem take_snoc {α : Type} {l : List α} {i : Nat} {a : α} (h : l[i]? = some a) : l.take (i + 1) = l.take i ++ [a] := by
  obtain ⟨h1, rfl⟩ := List.getElem?_eq_some_iff.1 h
  exact List.take_succ_eq_append_getElem h1
theorem getD_lt {α : Type} {l : List α} {i : Nat} (h : i < l.length) : ∃ a, l[i]? = some a := ⟨_, List.getElem?_eq_getElem h⟩
end Go.Proofs.YtnebdnbglggdkaaDoorW.Am
