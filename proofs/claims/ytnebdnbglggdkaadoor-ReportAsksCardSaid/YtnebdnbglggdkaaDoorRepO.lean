/- Arguments: rows of views, rows of requests. -/
import Derived.Test.YtnebdnbglggdkaaDoorAmOp
import Derived.Test.YtnebdnbglggdkaaDoorRepG
namespace Go.Proofs.YtnebdnbglggdkaaDoorW.Am
open Go Go.RowKit
section
variable {P : Program} {h : Hp} {n : Nat} {t : TypeId} {cs : List Value}
theorem tv_int {k : IntKind} (hu : P.underlying t = some (.int k)) (e : Tv P h n t cs) : ∃ x, cs = [.int k x] ∧ (Lit.int k x).wf = true := by
  cases n with
  | zero => exact e.elim
  | succ n => unfold Tv at e; rw [hu] at e; exact e
theorem tv_bool (hu : P.underlying t = some .bool) (e : Tv P h n t cs) : ∃ x, cs = [.bool x] := by
  cases n with
  | zero => exact e.elim
  | succ n => unfold Tv at e; rw [hu] at e; exact e
theorem tv_slice {el : TypeId} (hu : P.underlying t = some (.slice el)) (e : Tv P h n t cs) : ∃ m s us, cs = [s] ∧ RR (P.cellsOf el) h s us ∧ (∀ u ∈ us, Tv P h m el u) ∧ us.length ≤ maxLen ∧ ∃ x c, s = .slice x us.length c ∧ us.length ≤ c := by
  cases n with
  | zero => exact e.elim
  | succ n => unfold Tv at e; rw [hu] at e; exact ⟨n, e⟩
theorem tv_struct {fs : Array Field} {l : List TypeId} (hu : P.underlying t = some (.struct fs)) (hl : fs.toList.map (·.type) = l) (e : Tv P h n t cs) : ∃ m, Fld (Tv P h m) l cs := by
  cases n with
  | zero => exact e.elim
  | succ n => unfold Tv at e; rw [hu] at e; subst hl; exact ⟨n, e⟩
theorem tv_array {m : Nat} {el : TypeId} (hu : P.underlying t = some (.array m el)) (e : Tv P h n t cs) : ∃ k, ∃ us : List (List Value), cs = us.flatten ∧ us.length = m ∧ ∀ u ∈ us, Tv P h k el u := by
  cases n with
  | zero => exact e.elim
  | succ n => unfold Tv at e; rw [hu] at e; exact ⟨n, e⟩
end
theorem i64_of {x : Int} (h : (Lit.int .i64 x).wf = true) : I64 x := by
  unfold Lit.wf at h
  rw [Bool.and_eq_true] at h
  have h1 := of_decide_eq_true h.1
  have h2 := of_decide_eq_true h.2
  have e1 : IntKind.i64.min = -9223372036854775808 := by decide
  have e2 : IntKind.i64.max = 9223372036854775807 := by decide
  rw [e1] at h1
  rw [e2] at h2
  exact ⟨h1, h2⟩
theorem tv_i64 {h : Hp} {n : Nat} {t : TypeId} {cs : List Value} (e : Tv PR h n t cs) (hu : PR.underlying t = some (.int .i64) := by first | exact Go.Proofs.Tryd.underlying3 | exact Go.Proofs.Tryd.underlying2) : ∃ x, cs = [nI x] ∧ I64 x := by
  obtain ⟨x, h1, h2⟩ := tv_int hu e
  exact ⟨x, h1, i64_of h2⟩
theorem pod_of {h : Hp} {n : Nat} {cs : List Value} (e : Tv PR h n 41 cs) : ∃ p : Pd, cs = p4 p := by
  obtain ⟨m, a, b, rfl, h1, a2, b2, rfl, h2, a3, b3, rfl, h3, a4, b4, rfl, h4, h5⟩ := tv_struct (l := [3, 3, 3, 2]) Go.Proofs.Tryd.underlying41 rfl e
  obtain ⟨x1, rfl, _⟩ := tv_i64 h1
  obtain ⟨x2, rfl, _⟩ := tv_i64 h2
  obtain ⟨x3, rfl, _⟩ := tv_i64 h3
  obtain ⟨x4, rfl, _⟩ := tv_i64 h4
  have h5 : b4 = [] := h5
  subst h5
  exact ⟨(x1, x2, x3, x4), rfl⟩
theorem req_of {h : Hp} {n : Nat} {cs : List Value} (e : Tv PR h n 38 cs) : ∃ p : Pd, cs = p4 p := by
  obtain ⟨m, a, b, rfl, h1, a2, b2, rfl, h2, a3, b3, rfl, h3, a4, b4, rfl, h4, h5⟩ := tv_struct (l := [2, 2, 3, 3]) Go.Proofs.Tryd.underlying38 rfl e
  obtain ⟨x1, rfl, _⟩ := tv_i64 h1
  obtain ⟨x2, rfl, _⟩ := tv_i64 h2
  obtain ⟨x3, rfl, _⟩ := tv_i64 h3
  obtain ⟨x4, rfl, _⟩ := tv_i64 h4
  have h5 : b4 = [] := h5
  subst h5
  exact ⟨(x1, x2, x3, x4), rfl⟩
theorem map_of {α : Type} {f : α → List Value} : ∀ {us : List (List Value)}, (∀ u ∈ us, ∃ p, u = f p) → ∃ l : List α, us = l.map f
  | [], _ => ⟨[], rfl⟩
  | u :: us, h => by
    obtain ⟨p, rfl⟩ := h u List.mem_cons_self
    obtain ⟨l, rfl⟩ := map_of (f := f) (us := us) fun x hx => h x (List.mem_cons_of_mem _ hx)
    exact ⟨p :: l, rfl⟩
theorem reqs_of {h : Hp} {n : Nat} {cs : List Value} (e : Tv PR h n 23 cs) : ∃ s, ∃ l : List Pd, cs = [s] ∧ RR 4 h s (l.map p4) ∧ l.length ≤ maxLen := by
  obtain ⟨m, s, us, rfl, r, hu, hl, _⟩ := tv_slice Go.Proofs.Tryd.underlying23 e
  obtain ⟨l, rfl⟩ := map_of (f := p4) fun u hu' => req_of (hu u hu')
  rw [List.length_map] at hl
  exact ⟨s, l, rfl, r, hl⟩
/-- A view, as an argument gives it. -/
structure VG (h : Hp) (p : VP) : Prop where
  pods : RR 4 h p.1.pods (p.2.map p4)
  ok : VOk p.1
  len : p.2.length ≤ maxLen
theorem view_of {h : Hp} {n : Nat} {cs : List Value} (e : Tv PR h n 30 cs) : ∃ p : VP, cs = vs15 p.1 ∧ VG h p := by
  obtain ⟨m, a1, b1, rfl, h1, a2, b2, rfl, h2, a3, b3, rfl, h3, a4, b4, rfl, h4, a5, b5, rfl, h5, a6, b6, rfl, h6, a7, b7, rfl, h7, a8, b8, rfl, h8, a9, b9, rfl, h9, h10⟩ :=
    tv_struct (l := [2, 3, 4, 4, 27, 3, 3, 28, 4]) Go.Proofs.Tryd.underlying30 rfl e
  obtain ⟨x1, rfl, g1⟩ := tv_i64 h1
  obtain ⟨x2, rfl, g2⟩ := tv_i64 h2
  obtain ⟨x3, rfl⟩ := tv_bool Go.Proofs.Tryd.underlying4 h3
  obtain ⟨x4, rfl⟩ := tv_bool Go.Proofs.Tryd.underlying4 h4
  obtain ⟨k, s, us, rfl, r, hu, hl, _⟩ := tv_slice Go.Proofs.Tryd.underlying27 h5
  obtain ⟨ps, rfl⟩ := map_of (f := p4) fun u hu' => pod_of (hu u hu')
  obtain ⟨x6, rfl, g6⟩ := tv_i64 h6
  obtain ⟨x7, rfl, g7⟩ := tv_i64 h7
  obtain ⟨k2, es, rfl, he, hes⟩ := tv_array Go.Proofs.Tryd.underlying28 h8
  obtain ⟨x9, rfl⟩ := tv_bool Go.Proofs.Tryd.underlying4 h9
  have h10 : b9 = [] := h10
  subst h10
  obtain ⟨xs, rfl⟩ := map_of (f := fun x : Int => [nI x]) fun u hu' => (by obtain ⟨x, e, _⟩ := tv_i64 (hes u hu'); exact ⟨x, e⟩)
  rw [List.length_map] at he hl
  match xs, he with
  | [y0, y1, y2, y3, y4, y5, y6], _ => exact ⟨(⟨x1, x2, x3, x4, s, x6, x7, y0, y1, y2, y3, y4, y5, y6, x9⟩, ps), rfl, ⟨r, ⟨g1, g2, g6, g7⟩, hl⟩⟩
theorem views_of {h : Hp} {n : Nat} {cs : List Value} (e : Tv PR h n 22 cs) : ∃ s, ∃ l : List VP, cs = [s] ∧ RV15 h s l ∧ (∀ p ∈ l, VOk p.1 ∧ p.2.length ≤ maxLen) ∧ l.length ≤ maxLen ∧ ∃ x c, s = .slice x l.length c ∧ l.length ≤ c := by
  obtain ⟨m, s, us, rfl, r, hu, hl, x, c, hx, hcc⟩ := tv_slice Go.Proofs.Tryd.underlying22 e
  have : ∃ l : List {p : VP // VG h p}, us = l.map fun p => vs15 p.1.1 := map_of fun u hu' => by
    obtain ⟨p, e1, e2⟩ := view_of (hu u hu')
    exact ⟨⟨p, e2⟩, e1⟩
  obtain ⟨l, rfl⟩ := this
  rw [List.length_map] at hl hx hcc
  refine ⟨s, l.map (·.1), rfl, ⟨by rw [List.map_map]; exact r, fun p hp => ?_⟩, fun p hp => ?_, by rw [List.length_map]; exact hl, x, c, by rw [List.length_map]; exact hx, by rw [List.length_map]; exact hcc⟩
  · obtain ⟨q, _, rfl⟩ := List.mem_map.1 hp
    exact q.2.pods
  · obtain ⟨q, _, rfl⟩ := List.mem_map.1 hp
    exact ⟨q.2.ok, q.2.len⟩
end Go.Proofs.YtnebdnbglggdkaaDoorW.Am
