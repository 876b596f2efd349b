/- Pods over abstract heaps: the contracts, told by the list of the pods and the objects in use. -/
import Derived.Test.YtnebdnbglggdkaaLifeQ
import Derived.Test.YtnebdnbglggdkaaAmY
namespace Go.Proofs.YtnebdnbglggdkaaW.Am
open Go Go.RowKit
theorem told_ok (h : Hp) : ACall PP 29 [] h (fun v g => v = .bool true ∧ h = g) := closed_true hIrL (by kernel_rfl) 400 rfl (by kernel_rfl) h
theorem A4.obj {N : Nat} {h : Hp} {s : Value} {p : Pd} {l : List Pd} (a : A4 N h s (p :: l)) : ∃ k, s = .slice (some ⟨k, 0, some 0⟩) (l.length + 1) (l.length + 1) ∧ N ≤ k ∧ k < h.nx ∧ h.get k = some ⟨fl4 (p :: l), true, 4⟩ := by
  rcases a with ⟨_, e⟩ | ⟨k, h1, h2, rfl, hg, _⟩
  · cases e
  · exact ⟨k, rfl, h1, h2, hg⟩
/-- A Life: its objects' numbers, its own one, its pods, how many there ever were. -/
def LF (h : Hp) (S : List Nat) (L : Nat) (l : List Pd) (made : Int) : Prop := ∃ j ps, LA h L j ps made ∧ ps.map (·.2) = l ∧ S = L :: j :: ps.map (·.1)
/-- Nothing that was there turns but the objects told. -/
def Fr (S : List Nat) (h h' : Hp) : Prop := h.nx ≤ h'.nx ∧ ∀ k, k < h.nx → k ∉ S → h'.get k = h.get k
/-- No object of old comes to the objects told. -/
def Gr (h : Hp) (S S' : List Nat) : Prop := ∀ k, k ∈ S' → k ∈ S ∨ h.nx ≤ k
theorem Gr.refl (h : Hp) (S : List Nat) : Gr h S S := fun _ hk => .inl hk
theorem Fr.refl (S : List Nat) (h : Hp) : Fr S h h := ⟨Nat.le_refl _, fun _ _ _ => rfl⟩
theorem Fr.of_ext {S : List Nat} {h h' : Hp} (x : Ext h h') : Fr S h h' := ⟨x.1, fun k hk _ => x.2 k hk⟩
theorem Fr.trans {S S' : List Nat} {a b c : Hp} (x : Fr S a b) (g : Gr a S S') (y : Fr S' b c) : Fr S a c :=
  ⟨Nat.le_trans x.1 y.1, fun k hk hn => (y.2 k (Nat.lt_of_lt_of_le hk x.1) fun h' => by rcases g k h' with h2 | h2; exact hn h2; omega).trans (x.2 k hk hn)⟩
theorem Gr.trans {S S' S2 : List Nat} {a b : Hp} (x : Gr a S S') (hn : a.nx ≤ b.nx) (y : Gr b S' S2) : Gr a S S2 := fun k hk => by
  rcases y k hk with h | h
  · exact x k h
  · exact .inr (Nat.le_trans hn h)
theorem Fr.of_mod {L j : Nat} {ps : List (Nat × Pd)} {h h' : Hp} (m : ModL L j ps h h') : Fr (L :: j :: ps.map (·.1)) h h' :=
  ⟨m.1, fun k hk hn => m.2 k hk (fun e => hn (by simp [e])) (fun e => hn (by simp [e])) fun p hp e => hn (by rw [e]; exact List.mem_cons_of_mem _ (List.mem_cons_of_mem _ (List.mem_map_of_mem hp)))⟩
theorem LF.lt {h : Hp} {S : List Nat} {L : Nat} {l : List Pd} {made : Int} (a : LF h S L l made) : ∀ k ∈ S, k < h.nx := by
  obtain ⟨j, ps, a, _, rfl⟩ := a
  intro k hk
  rcases List.mem_cons.1 hk with rfl | hk
  · exact a.ll
  · rcases List.mem_cons.1 hk with rfl | hk
    · exact a.jl
    · obtain ⟨p, hp, rfl⟩ := List.mem_map.1 hk
      exact (a.pods p hp).2.1
theorem LF.keep {h h' : Hp} {S : List Nat} {L : Nat} {l : List Pd} {made : Int} (a : LF h S L l made) (hn : h.nx ≤ h'.nx) (hk : ∀ k ∈ S, h'.get k = h.get k) : LF h' S L l made := by
  obtain ⟨j, ps, ⟨hL, hj, ⟨s, hg, hs⟩, hp, hnd⟩, hl, rfl⟩ := a
  exact ⟨j, ps, ⟨by omega, by omega, ⟨s, (hk L (by simp)).trans hg, hs.keep fun _ => hk j (by simp)⟩, fun p hp' => ⟨(hk p.1 (List.mem_cons_of_mem _ (List.mem_cons_of_mem _ (List.mem_map_of_mem hp')))).trans (hp p hp').1, by have := (hp p hp').2.1; omega, (hp p hp').2.2⟩, hnd⟩, hl, rfl⟩
theorem LF.ext {h h' : Hp} {S : List Nat} {L : Nat} {l : List Pd} {made : Int} (a : LF h S L l made) (x : Ext h h') : LF h' S L l made := a.keep x.1 fun k hk => x.2 k (a.lt k hk)
theorem new_lf (h : Hp) : ACall PP 21 [] h (fun v h' => v = ptr h.nx ∧ LF h' [h.nx, h.nx] h.nx [] 0 ∧ Ext h h') :=
  (lnew_ok h).mono fun _ _ ⟨h1, h2, h3⟩ => ⟨h1, ⟨_, [], h2, rfl, rfl⟩, h3⟩
theorem all_lf (h : Hp) {S : List Nat} {L : Nat} {l : List Pd} {made : Int} (a : LF h S L l made) (hb : l.length ≤ 800) : ACall PP 28 [ptr L] h (fun v h' => A4 h.nx h' v l ∧ Ext h h') := by
  obtain ⟨j, ps, a, rfl, rfl⟩ := a
  exact (lall_ok h a (by simp at hb; omega)).mono fun _ _ ⟨h1, h2⟩ => ⟨h2, h1⟩
theorem count_lf (h : Hp) {S : List Nat} {L : Nat} {l : List Pd} {made : Int} (a : LF h S L l made) (hb : l.length ≤ 800) : ACall PP 27 [ptr L] h (fun v h' => v = nI (cF l) ∧ Ext h h') := by
  obtain ⟨j, ps, a, rfl, rfl⟩ := a
  exact count_ok h a (by simp at hb; omega)
theorem ready_lf (h : Hp) {S : List Nat} {L : Nat} {l : List Pd} {made : Int} (a : LF h S L l made) (hb : l.length ≤ 800) : ACall PP 37 [ptr L] h (fun v h' => Ow h.nx h' v ((rF l).map nI) ∧ Ext h h') := by
  obtain ⟨j, ps, a, rfl, rfl⟩ := a
  exact (ready_ok h a (by simp at hb; omega)).mono fun _ _ ⟨h1, h2⟩ => ⟨h2, h1⟩
/-- Scale. -/
def scL (made now : Int) (w : Nat) (l : List Pd) : List Pd := if cF l ≤ w then l ++ newF made now (w - cF l) else dnN now l (cF l - w)
def scM (made : Int) (w : Nat) (l : List Pd) : Int := made + ((w - cF l : Nat) : Int)
theorem scale_lf (h : Hp) {S : List Nat} {L : Nat} {l : List Pd} {made now w : Int} (a : LF h S L l made) (hb : l.length ≤ 800) (hw : 0 ≤ w ∧ w ≤ 100) (hm : 0 ≤ made ∧ made ≤ 1000000) (hn : 0 ≤ now ∧ now ≤ 1099511627776) :
    ACall PP 22 [ptr L, nI w, nI now] h (fun v h' => v = nI 0 ∧ ∃ S', LF h' S' L (scL made now w.toNat l) (scM made w.toNat l) ∧ Gr h S S' ∧ Fr S h h') := by
  obtain ⟨j, ps, a, rfl, rfl⟩ := a
  obtain ⟨w, rfl⟩ : ∃ u : Nat, w = u := ⟨w.toNat, by omega⟩
  rw [List.length_map] at hb
  simp only [Int.toNat_natCast]
  unfold scL scM
  by_cases hc : cF (ps.map (·.2)) ≤ w
  · have := scale_up h a hb (d := w - cF (ps.map (·.2))) (by omega) hm hn
    rw [show cF (ps.map (·.2)) + (w - cF (ps.map (·.2))) = w by omega] at this
    refine this.mono ?_
    rintro v h' ⟨rfl, j', nw, hnw, hge, a', hj, m⟩
    rw [if_pos hc]
    refine ⟨rfl, _, ⟨j', _, a', by rw [List.map_append, hnw], rfl⟩, ?_, .of_mod m⟩
    intro k hk
    simp only [List.mem_cons, List.map_append, List.mem_append] at hk ⊢
    rcases hk with rfl | rfl | hk | hk
    · exact .inl (.inl rfl)
    · rcases hj with rfl | hj
      · exact .inl (.inr (.inl rfl))
      · exact .inr hj
    · exact .inl (.inr (.inr hk))
    · obtain ⟨p, hp, rfl⟩ := List.mem_map.1 hk
      exact .inr (hge p hp)
  · refine (scale_dn h a hb (w := w) (by omega) (by omega) hn).mono ?_
    rintro v h' ⟨rfl, ps', hps, hsub, a', m⟩
    rw [if_neg hc, show w - cF (ps.map (·.2)) = 0 by omega]
    refine ⟨rfl, _, ⟨j, ps', by simpa using a', hps, rfl⟩, ?_, .of_mod m⟩
    intro k hk
    refine .inl ?_
    simp only [List.mem_cons, List.mem_map] at hk ⊢
    rcases hk with rfl | rfl | ⟨p, hp, rfl⟩
    · exact .inl rfl
    · exact .inr (.inl rfl)
    · obtain ⟨q, hq, e⟩ := hsub p hp
      exact .inr (.inr ⟨q, hq, e⟩)
/-- Ripe. -/
theorem ripe_lf (h : Hp) {S : List Nat} {L : Nat} {l : List Pd} {made now after : Int} (a : LF h S L l made) (hb : l.length ≤ 800) (h0 : 0 ≤ after) (h1 : after ≤ 100) (hs : ∀ p ∈ l, 0 ≤ p.2.2.2 ∧ p.2.2.2 ≤ 1099511627776) :
    ACall PP 23 [ptr L, nI now, nI after] h (fun _ h' => LF h' S L (l.map (rpF now after)) made ∧ Fr S h h') := by
  obtain ⟨j, ps, a, rfl, rfl⟩ := a
  refine (ripe_ok h a (by simp at hb; omega) h0 h1 fun p hp => hs _ (List.mem_map_of_mem hp)).mono fun _ h' ⟨a', m⟩ => ⟨⟨j, _, a', by simp, by simp⟩, .of_mod m⟩
/-- Where the first pod of a number stands. -/
def fI (l : List Pd) (id : Int) : Nat := l.findIdx fun p => decide (p.1 = id)
theorem fI_map (ps : List (Nat × Pd)) (id : Int) : ps.findIdx (fun p => decide (p.2.1 = id)) = fI (ps.map (·.2)) id := by
  unfold fI
  rw [List.findIdx_map]
  rfl
theorem getD_map {ps : List (Nat × Pd)} {k : Nat} (hk : k < ps.length) : (ps.map (·.2)).getD k p0 = ps[k].2 := by
  rw [List.getD_eq_getElem?_getD, List.getElem?_map, List.getElem?_eq_getElem hk]
  rfl
theorem getD_out {l : List Pd} {k : Nat} (hk : l.length ≤ k) : l.getD k p0 = p0 := by
  rw [List.getD_eq_getElem?_getD, List.getElem?_eq_none hk]
  rfl
theorem ixF_lf (ps : List (Nat × Pd)) (id : Int) : (ixF ps id = -1 ∧ (ps.map (·.2)).getD (fI (ps.map (·.2)) id) p0 = p0) ∨ ∃ p, ixF ps id = (fI (ps.map (·.2)) id : Nat) ∧ ps[fI (ps.map (·.2)) id]? = some p ∧ (ps.map (·.2)).getD (fI (ps.map (·.2)) id) p0 = p.2 := by
  unfold ixF
  rw [fI_map]
  split
  · next hlt => exact .inr ⟨_, rfl, List.getElem?_eq_getElem hlt, getD_map hlt⟩
  · next hlt => exact .inl ⟨rfl, getD_out (by simp; omega)⟩
theorem set_fst {ps : List (Nat × Pd)} {k : Nat} {p : Nat × Pd} (e : ps[k]? = some p) (v : Pd) : (ps.set k (p.1, v)).map (·.1) = ps.map (·.1) := by
  obtain ⟨hk, rfl⟩ := List.getElem?_eq_some_iff.1 e
  rw [List.map_set]
  refine List.ext_getElem (by simp) fun i h1 h2 => ?_
  rw [List.getElem_set]
  split
  · next h => subst h; simp
  · rfl
/-- One more in flight at the pod of a number. -/
def enF (l : List Pd) (id : Int) : List Pd × Int :=
  if (l.getD (fI l id) p0).2.1 = 2 then (l.set (fI l id) ((l.getD (fI l id) p0).1, 2, (l.getD (fI l id) p0).2.2.1 + 1, (l.getD (fI l id) p0).2.2.2), 0) else (l, 7)
theorem enter_lf (h : Hp) {S : List Nat} {L : Nat} {l : List Pd} {made id : Int} (a : LF h S L l made) (hb : l.length ≤ 800) (hB : ∀ p ∈ l, 0 ≤ p.2.2.1 ∧ p.2.2.1 ≤ 1000000) :
    ACall PP 24 [ptr L, nI id] h (fun v h' => v = nI (enF l id).2 ∧ LF h' S L (enF l id).1 made ∧ Fr S h h') := by
  obtain ⟨j, ps, a, rfl, rfl⟩ := a
  rw [List.length_map] at hb
  unfold enF
  rcases ixF_lf ps id with ⟨e1, e2⟩ | ⟨p, e1, e2, e3⟩
  · rw [e2, if_neg (by decide)]
    exact (enter_no h a (by omega) (.inl e1)).mono fun v h' ⟨e, x⟩ => ⟨e, ⟨j, ps, a.ext x, rfl, rfl⟩, .of_ext x⟩
  · rw [e3]
    by_cases hs : p.2.2.1 = 2
    · rw [if_pos hs]
      have hp := hB p.2 (List.mem_map_of_mem (List.mem_of_getElem? e2))
      refine (enter_ok h a (by omega) e1 e2 hs hp).mono fun v h' ⟨e, a', m⟩ => ⟨e, ⟨j, _, a', ?_, ?_⟩, .of_mod m⟩
      · rw [List.map_set, hs]
      · rw [set_fst e2]
    · rw [if_neg hs]
      exact (enter_no h a (by omega) (.inr ⟨_, p, e1, e2, hs⟩)).mono fun v h' ⟨e, x⟩ => ⟨e, ⟨j, ps, a.ext x, rfl, rfl⟩, .of_ext x⟩
/-- One fewer. -/
def lvF (l : List Pd) (id : Int) : List Pd × Int :=
  if (l.getD (fI l id) p0).2.2.1 = 0 then (l, 7)
  else if (l.getD (fI l id) p0).2.2.1 = 1 ∧ (l.getD (fI l id) p0).2.1 = 3 then (l.take (fI l id) ++ l.drop (fI l id + 1), 0)
  else (l.set (fI l id) ((l.getD (fI l id) p0).1, (l.getD (fI l id) p0).2.1, (l.getD (fI l id) p0).2.2.1 - 1, (l.getD (fI l id) p0).2.2.2), 0)
theorem sub_fst {ps : List (Nat × Pd)} {k : Nat} {h : Hp} {L j : Nat} : Gr h (L :: j :: ps.map (·.1)) (L :: j :: (ps.take k ++ ps.drop (k + 1)).map (·.1)) := by
  intro x hx
  refine .inl ?_
  simp only [List.mem_cons, List.map_append, List.mem_append, List.map_take, List.map_drop] at hx ⊢
  rcases hx with rfl | rfl | hx | hx
  · exact .inl rfl
  · exact .inr (.inl rfl)
  · exact .inr (.inr (List.mem_of_mem_take hx))
  · exact .inr (.inr (List.mem_of_mem_drop hx))
theorem leave_lf (h : Hp) {S : List Nat} {L : Nat} {l : List Pd} {made id : Int} (a : LF h S L l made) (hb : l.length ≤ 800) (hB : ∀ p ∈ l, 0 ≤ p.2.2.1 ∧ p.2.2.1 ≤ 1000000) :
    ACall PP 26 [ptr L, nI id] h (fun v h' => v = nI (lvF l id).2 ∧ ∃ S', LF h' S' L (lvF l id).1 made ∧ Gr h S S' ∧ Fr S h h') := by
  obtain ⟨j, ps, a, rfl, rfl⟩ := a
  rw [List.length_map] at hb
  unfold lvF
  rcases ixF_lf ps id with ⟨e1, e2⟩ | ⟨p, e1, e2, e3⟩
  · rw [e2, if_pos rfl]
    exact (leave_no h a (by omega) (.inl e1)).mono fun v h' ⟨e, x⟩ => ⟨e, _, ⟨j, ps, a.ext x, rfl, rfl⟩, .refl _ _, .of_ext x⟩
  · rw [e3]
    by_cases hs : p.2.2.2.1 = 0
    · rw [if_pos hs]
      exact (leave_no h a (by omega) (.inr ⟨_, p, e1, e2, hs⟩)).mono fun v h' ⟨e, x⟩ => ⟨e, _, ⟨j, ps, a.ext x, rfl, rfl⟩, .refl _ _, .of_ext x⟩
    · rw [if_neg hs]
      have hp := hB p.2 (List.mem_map_of_mem (List.mem_of_getElem? e2))
      refine (leave_ok h a (by omega) e1 e2 ⟨by omega, hp.2⟩).mono ?_
      rintro v h' ⟨e, a', m⟩
      by_cases hd : p.2.2.2.1 = 1 ∧ p.2.2.1 = 3
      · rw [if_pos hd] at a' ⊢
        exact ⟨e, _, ⟨j, _, a', by rw [List.map_append, List.map_take, List.map_drop], rfl⟩, sub_fst, .of_mod m⟩
      · rw [if_neg hd] at a' ⊢
        exact ⟨e, _, ⟨j, _, a', by rw [List.map_set], rfl⟩, by rw [set_fst e2]; exact .refl _ _, .of_mod m⟩
theorem crash_lf (h : Hp) {S : List Nat} {L : Nat} {l : List Pd} {made : Int} {k : Nat} {p : Pd} (a : LF h S L l made) (hb : l.length ≤ 800) (hk : l[k]? = some p) :
    ACall PP 25 [ptr L, nI k] h (fun v h' => v = .tuple #[.agg ⟨p4 p⟩, nI 0] ∧ ∃ S', LF h' S' L (l.take k ++ l.drop (k + 1)) made ∧ Gr h S S' ∧ Fr S h h') := by
  obtain ⟨j, ps, a, rfl, rfl⟩ := a
  rw [List.length_map] at hb
  rw [List.getElem?_map] at hk
  cases hq : ps[k]? with
  | none => rw [hq] at hk; cases hk
  | some q =>
    rw [hq] at hk
    cases hk
    exact (crash_ok h a (by omega) hq).mono fun v h' ⟨e, a', m⟩ => ⟨e, _, ⟨j, _, a', by rw [List.map_append, List.map_take, List.map_drop], rfl⟩, sub_fst, .of_mod m⟩
theorem crash_out (h : Hp) {S : List Nat} {L : Nat} {l : List Pd} {made k : Int} (a : LF h S L l made) (hk : k < 0 ∨ (l.length : Int) ≤ k) :
    ACall PP 25 [ptr L, nI k] h (fun v h' => v = .tuple #[.agg ⟨p4 (0, 0, 0, 0)⟩, nI 7] ∧ LF h' S L l made ∧ Fr S h h') := by
  obtain ⟨j, ps, a, rfl, rfl⟩ := a
  exact (crash_no h a (by simpa using hk)).mono fun v h' ⟨e, x⟩ => ⟨e, ⟨j, ps, a.ext x, rfl, rfl⟩, .of_ext x⟩
end Go.Proofs.YtnebdnbglggdkaaW.Am
