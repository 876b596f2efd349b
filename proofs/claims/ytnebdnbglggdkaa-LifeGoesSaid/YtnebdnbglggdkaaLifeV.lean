/- Pods: what holds of them whatever comes: numbers rise, who drains has something in flight; sums. -/
import Derived.Test.YtnebdnbglggdkaaLifeU
namespace Go.Proofs.YtnebdnbglggdkaaW.Am
open Go Go.RowKit
/-- How much is in flight in all. -/
def sB : List Pd → Int
  | [] => 0
  | p :: l => p.2.2.1 + sB l
theorem sB_app : ∀ l k, sB (l ++ k) = sB l + sB k
  | [], k => by simp [sB]
  | p :: l, k => by simp only [List.cons_append, sB, sB_app l k]; omega
theorem sB_split {l : List Pd} {k : Nat} (hk : k < l.length) : sB l = sB (l.take k) + l[k].2.2.1 + sB (l.drop (k + 1)) := by
  have : l = l.take k ++ l[k] :: l.drop (k + 1) := by simp
  conv => lhs; rw [this, sB_app]
  simp only [sB]
  omega
theorem sB_set {l : List Pd} {k : Nat} {p : Pd} (hk : l[k]? = some p) (q : Pd) : sB (l.set k q) = sB l - p.2.2.1 + q.2.2.1 := by
  obtain ⟨h, rfl⟩ := List.getElem?_eq_some_iff.1 hk
  have h1 := sB_split h
  have h2 := sB_split (l := l.set k q) (k := k) (by simpa using h)
  rw [List.take_set_of_le (by omega), List.drop_set_of_lt (by omega), List.getElem_set_self] at h2
  omega
theorem sB_del {l : List Pd} {k : Nat} {p : Pd} (hk : l[k]? = some p) : sB (l.take k ++ l.drop (k + 1)) = sB l - p.2.2.1 := by
  obtain ⟨h, rfl⟩ := List.getElem?_eq_some_iff.1 hk
  have h1 := sB_split h
  rw [sB_app]
  omega
theorem sB_newF (made now : Int) : ∀ k, sB (newF made now k) = 0
  | 0 => rfl
  | k + 1 => by rw [newF_succ, sB_app, sB_newF made now k]; rfl
structure CtP (made : Int) (l : List Pd) : Prop where
  up : (l.map (·.1)).Pairwise (· < ·)
  each : ∀ p ∈ l, 0 ≤ p.1 ∧ p.1 < made ∧ 0 ≤ p.2.2.1 ∧ (p.2.1 = 3 → 0 < p.2.2.1) ∧ 0 ≤ p.2.2.2 ∧ p.2.2.2 ≤ 1099511627776
theorem map_set_same {α : Type} {f : Pd → α} {l : List Pd} {k : Nat} {p q : Pd} (hk : l[k]? = some p) (e : f q = f p) : (l.set k q).map f = l.map f := by
  obtain ⟨h, rfl⟩ := List.getElem?_eq_some_iff.1 hk
  rw [List.map_set]
  refine List.ext_getElem (by simp) fun i h1 h2 => ?_
  rw [List.getElem_set]
  split
  · next h => subst h; simp [e]
  · rfl
theorem CtP.set {made : Int} {l : List Pd} (c : CtP made l) {k : Nat} {p q : Pd} (hk : l[k]? = some p) (e : q.1 = p.1) (h : 0 ≤ q.2.2.1 ∧ (q.2.1 = 3 → 0 < q.2.2.1) ∧ 0 ≤ q.2.2.2 ∧ q.2.2.2 ≤ 1099511627776) : CtP made (l.set k q) := by
  refine ⟨by rw [map_set_same hk e]; exact c.up, fun r hr => ?_⟩
  rcases List.mem_or_eq_of_mem_set hr with hr | rfl
  · exact c.each r hr
  · have := c.each p (List.mem_of_getElem? hk)
    omega
theorem del_sub {l : List Pd} {k : Nat} : List.Sublist (l.take k ++ l.drop (k + 1)) l := by
  have h1 : List.Sublist (l.take k ++ l.drop (k + 1)) (l.take k ++ l.drop k) := List.Sublist.append_left (by
    rw [← List.drop_drop]
    exact List.drop_sublist _ _) _
  rwa [List.take_append_drop] at h1
theorem CtP.del {made : Int} {l : List Pd} (c : CtP made l) (k : Nat) : CtP made (l.take k ++ l.drop (k + 1)) :=
  ⟨c.up.sublist (del_sub.map _), fun r hr => c.each r (del_sub.subset hr)⟩
theorem CtP.dn {made now : Int} {l : List Pd} (c : CtP made l) (hn : 0 ≤ now ∧ now ≤ 1099511627776) (hp : 0 < cF l) : CtP made (dnF now l) ∧ sB (dnF now l) = sB l := by
  obtain ⟨k, hk, e, h3⟩ := nx_at l hp
  have hq : l[k]? = some l[k] := List.getElem?_eq_getElem hk
  have hc := c.each _ (List.getElem_mem hk)
  rw [dnF_at now l hk e]
  split
  · next h0 => exact ⟨c.del k, by rw [sB_del hq]; omega⟩
  · next h0 => exact ⟨c.set hq rfl (by dsimp only; omega), by rw [sB_set hq]; dsimp only; omega⟩
theorem CtP.dnN {made now : Int} {l : List Pd} (c : CtP made l) (hn : 0 ≤ now ∧ now ≤ 1099511627776) : ∀ k, k ≤ cF l → CtP made (dnN now l k) ∧ sB (dnN now l k) = sB l
  | 0, _ => ⟨c, rfl⟩
  | k + 1, hk => by
    have h1 := c.dnN hn k (by omega)
    have h2 := dnN_c now l k (by omega)
    have h3 := h1.1.dn hn (by omega)
    exact ⟨h3.1, h3.2.trans h1.2⟩
theorem CtP.sc {made now : Int} {l : List Pd} (c : CtP made l) (hn : 0 ≤ now ∧ now ≤ 1099511627776) (h0 : 0 ≤ made) (w : Nat) : CtP (scM made w l) (scL made now w l) ∧ sB (scL made now w l) = sB l := by
  unfold scM scL
  split
  · refine ⟨⟨?_, fun p hp => ?_⟩, by rw [sB_app, sB_newF]; omega⟩
    · rw [List.map_append, List.pairwise_append]
      refine ⟨c.up, ?_, fun x hx y hy => ?_⟩
      · simp only [newF, List.map_map]
        rw [List.pairwise_map]
        refine List.pairwise_lt_range.imp fun {a b} hab => ?_
        simp
        omega
      · obtain ⟨p, hp, rfl⟩ := List.mem_map.1 hx
        obtain ⟨q, hq, rfl⟩ := List.mem_map.1 hy
        obtain ⟨i, _, rfl⟩ := newF_mem hq
        have := c.each p hp
        dsimp only; omega
    · rcases List.mem_append.1 hp with hp | hp
      · have := c.each p hp; omega
      · obtain ⟨i, hi, rfl⟩ := newF_mem hp
        dsimp only; omega
  · next hlt =>
    obtain ⟨h1, h2⟩ := c.dnN hn (cF l - w) (by omega)
    refine ⟨⟨h1.up, fun p hp => ?_⟩, h2⟩
    have := h1.each p hp
    omega
theorem CtP.ripe {made now after : Int} {l : List Pd} (c : CtP made l) : CtP made (l.map (rpF now after)) ∧ sB (l.map (rpF now after)) = sB l ∧ (l.map (rpF now after)).length = l.length := by
  have h1 : ∀ p, (rpF now after p).1 = p.1 ∧ (rpF now after p).2.2 = p.2.2 ∧ ((rpF now after p).2.1 = 3 → p.2.1 = 3) := by
    intro p
    unfold rpF
    split
    · exact ⟨rfl, rfl, fun h => by cases h⟩
    · exact ⟨rfl, rfl, fun h => h⟩
  refine ⟨⟨?_, fun p hp => ?_⟩, ?_, by simp⟩
  · rw [List.map_map, show ((fun p : Pd => p.1) ∘ rpF now after) = (fun p => p.1) from funext fun p => (h1 p).1]
    exact c.up
  · obtain ⟨q, hq, rfl⟩ := List.mem_map.1 hp
    have := c.each q hq
    obtain ⟨e1, e2, e3⟩ := h1 q
    rw [e1, e2]
    exact ⟨this.1, this.2.1, this.2.2.1, fun h => this.2.2.2.1 (e3 h), this.2.2.2.2⟩
  · induction l with
    | nil => rfl
    | cons p l ih =>
      simp only [List.map, sB]
      rw [ih ⟨by have := c.up; simp at this; exact this.2, fun q hq => c.each q (by simp [hq])⟩, (h1 p).2.1]
theorem cF_ripe (now after : Int) : ∀ l, cF (l.map (rpF now after)) = cF l
  | [] => rfl
  | p :: l => by
    have h1 : cF (p :: l) = cF [p] + cF l := cF_app2 [p] l
    have h2 : cF (rpF now after p :: l.map (rpF now after)) = cF [rpF now after p] + cF (l.map (rpF now after)) := cF_app2 [_] _
    have h3 : cF [rpF now after p] = cF [p] := by
      unfold rpF
      split
      · next h => simp [cF, h.1]
      · rfl
    rw [List.map_cons, h2, h1, h3, cF_ripe now after l]
theorem cF_set {l : List Pd} {k : Nat} {p q : Pd} (hk : l[k]? = some p) (e : q.2.1 = p.2.1) : cF (l.set k q) = cF l := by
  obtain ⟨h, rfl⟩ := List.getElem?_eq_some_iff.1 hk
  have h1 := cF_split l h
  have h2 := cF_split (l.set k q) (k := k) (by simpa using h)
  rw [List.take_set_of_le (by omega), List.drop_set_of_lt (by omega), List.getElem_set_self] at h2
  have h3 : cF [q] = cF [l[k]] := by simp only [cF, List.filter_cons, e, List.filter_nil]; split <;> rfl
  omega
theorem cF_del {l : List Pd} (k : Nat) : cF (l.take k ++ l.drop (k + 1)) ≤ cF l := by
  unfold cF
  exact (del_sub.filter _).length_le
theorem Ow.fr {N : Nat} {h h' : Hp} {S : List Nat} {s : Value} {us : List Value} (a : Ow N h s us) (f : Fr S h h') (hs : ∀ k ∈ S, k < N) : Ow N h' s us := by
  rcases a with a | ⟨i, h1, h2, h3, h4, h5⟩
  · exact .inl a
  · exact .inr ⟨i, h1, Nat.lt_of_lt_of_le h2 f.1, h3, (f.2 i h2 fun hm => by have := hs i hm; omega).trans h4, h5⟩
theorem Ow.get {N : Nat} {h : Hp} {x : Option Addr} {n c : Nat} {us : List Int} (a : Ow N h (.slice x n c) (us.map nI)) {k : Int} (hk : 0 ≤ k ∧ k < us.length) : ∃ i, x = some ⟨i, 0, some 0⟩ ∧ h.rd i (0 + k.toNat * 1) 1 = some [nI us[k.toNat]] := by
  rcases a with ⟨_, e⟩ | ⟨i, _, _, e, hg, _⟩
  · rw [List.map_eq_nil_iff] at e; subst e; simp at hk; omega
  · cases e
    exact ⟨i, rfl, rd_row hg (by rw [List.getElem?_map, List.getElem?_eq_getElem (by omega)]; rfl)⟩
theorem sB_mem : ∀ {l : List Pd}, (∀ p ∈ l, 0 ≤ p.2.2.1) → 0 ≤ sB l ∧ ∀ p ∈ l, p.2.2.1 ≤ sB l
  | [], _ => ⟨by simp [sB], by intro p hp; cases hp⟩
  | q :: l, h => by
    obtain ⟨h1, h2⟩ := sB_mem (l := l) fun p hp => h p (by simp [hp])
    have h3 := h q (by simp)
    refine ⟨by simp only [sB]; omega, fun p hp => ?_⟩
    simp only [sB]
    rcases List.mem_cons.1 hp with rfl | hp
    · omega
    · have := h2 p hp; omega
theorem CtP.le {made : Int} {l : List Pd} (c : CtP made l) : 0 ≤ sB l ∧ ∀ p ∈ l, p.2.2.1 ≤ sB l := sB_mem fun p hp => (c.each p hp).2.2.1
theorem CtP.len {made : Int} {l : List Pd} (c : CtP made l) : (l.length : Int) ≤ cF l + sB l := by
  have := c.each
  clear c
  induction l with
  | nil => simp [sB, cF]
  | cons p l ih =>
    have h1 := ih fun q hq => this q (by simp [hq])
    have h2 := this p (by simp)
    have h3 : cF (p :: l) = cF [p] + cF l := cF_app2 [p] l
    have h4 : p.2.1 = 3 ∨ cF [p] = 1 := by
      by_cases e : p.2.1 = 3
      · exact .inl e
      · exact .inr (by simp [cF, e])
    simp only [List.length_cons, sB]
    omega
theorem CtP.at {made : Int} {l : List Pd} (c : CtP made l) {k : Nat} {p : Pd} (hk : l[k]? = some p) : fI l p.1 = k := by
  refine fI_at hk rfl fun j q hj hq => ?_
  have h1 := List.pairwise_iff_getElem.1 c.up
  obtain ⟨hk', rfl⟩ := List.getElem?_eq_some_iff.1 hk
  obtain ⟨hj', rfl⟩ := List.getElem?_eq_some_iff.1 hq
  have := h1 j k (by simpa using hj') (by simpa using hk') hj
  simp at this
  omega
theorem CtP.enter {made : Int} {l : List Pd} (c : CtP made l) {k : Nat} {p : Pd} (hk : l[k]? = some p) (h2 : p.2.1 = 2) : enF l p.1 = (l.set k (p.1, 2, p.2.2.1 + 1, p.2.2.2), 0) := by
  unfold enF
  rw [c.at hk, getD_of hk, if_pos h2]
theorem CtP.leave {made : Int} {l : List Pd} (c : CtP made l) {k : Nat} {p : Pd} (hk : l[k]? = some p) : lvF l p.1 = if p.2.2.1 = 0 then (l, 7) else if p.2.2.1 = 1 ∧ p.2.1 = 3 then (l.take k ++ l.drop (k + 1), 0) else (l.set k (p.1, p.2.1, p.2.2.1 - 1, p.2.2.2), 0) := by
  unfold lvF
  rw [c.at hk, getD_of hk]
theorem rF_eq (l : List Pd) : rF l = ((l.map fun p : Pd => (p.1, p.2.1)).filter fun p : Int × Int => decide (p.2 = 2)).map (·.1) := by
  unfold rF
  rw [List.filter_map, List.map_map]
  rfl
theorem rF_set {l : List Pd} {k : Nat} {p q : Pd} (hk : l[k]? = some p) (e1 : q.1 = p.1) (e2 : q.2.1 = p.2.1) : rF (l.set k q) = rF l := by
  rw [rF_eq, rF_eq, map_set_same (f := fun p : Pd => (p.1, p.2.1)) hk (by rw [e1, e2])]
theorem rF_at {l : List Pd} {i : Nat} {id : Int} (h : (rF l)[i]? = some id) : ∃ (k : Nat) (p : Pd), l[k]? = some p ∧ p.1 = id ∧ p.2.1 = 2 := by
  have := List.mem_of_getElem? h
  simp only [rF, List.mem_map, List.mem_filter, decide_eq_true_eq] at this
  obtain ⟨p, ⟨h1, h2⟩, h3⟩ := this
  obtain ⟨k, hk, rfl⟩ := List.getElem_of_mem h1
  exact ⟨k, _, List.getElem?_eq_getElem hk, h3, h2⟩
theorem CtP.rise {made : Int} {l : List Pd} (c : CtP made l) {k : Nat} {p q : Pd} (hk : l[k]? = some p) (hq : l[k + 1]? = some q) : p.1 < q.1 := by
  obtain ⟨h1, rfl⟩ := List.getElem?_eq_some_iff.1 hk
  obtain ⟨h2, rfl⟩ := List.getElem?_eq_some_iff.1 hq
  have := List.pairwise_iff_getElem.1 c.up k (k + 1) (by simpa using h1) (by simpa using h2) (by omega)
  simpa using this
theorem sB_take {l : List Pd} {k : Nat} {p : Pd} (hk : l[k]? = some p) : sB (l.take (k + 1)) = sB (l.take k) + p.2.2.1 := by
  obtain ⟨h1, rfl⟩ := List.getElem?_eq_some_iff.1 hk
  rw [List.take_succ_eq_append_getElem h1, sB_app]
  simp [sB]
theorem sB_nonneg {made : Int} {l : List Pd} (c : CtP made l) (k : Nat) : 0 ≤ sB (l.take k) ∧ sB (l.take k) ≤ sB l := by
  have h1 := c.each
  clear c
  induction l generalizing k with
  | nil => simp [sB]
  | cons p l ih =>
    have h2 := h1 p (by simp)
    have h0 := ih (k - 1) fun q hq => h1 q (by simp [hq])
    cases k with
    | zero => simp only [List.take_zero, sB] at h0 ⊢; omega
    | succ k => simp only [List.take_succ_cons, sB, Nat.add_sub_cancel] at h0 ⊢; omega
end Go.Proofs.YtnebdnbglggdkaaW.Am
