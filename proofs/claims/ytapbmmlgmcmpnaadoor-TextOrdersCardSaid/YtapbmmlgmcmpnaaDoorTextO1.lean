/- Texts: rows that are cut out of rows; the law TextOrders, in plain words. -/
import Derived.Test.YtapbmmlgmcmpnaaDoorTextM5
namespace Go.Proofs.YtapbmmlgmcmpnaaDoorW.Am
open Go Go.RowKit
/-- A row from its block's first place, of one cell an element. -/
def RW (h : Hp) (s : Value) (us : List (List Value)) : Prop := ∃ q sp, s = .slice (some ⟨q, 0, sp⟩) us.length us.length ∧ (sp = none ∨ sp = some 0) ∧ q < h.nx ∧ ∀ (x : Nat) u, us[x]? = some u → h.rd q (0 + x * 1) 1 = some u
theorem RW.rr {h : Hp} {s : Value} {us : List (List Value)} (a : RW h s us) : RR 1 h s us := by
  obtain ⟨q, sp, rfl, hsp, hq, hr⟩ := a
  exact .inr ⟨q, 0, sp, _, rfl, hq, fun _ => by rcases hsp with rfl | rfl <;> rfl, hr⟩
theorem RW.of {h : Hp} {q : Nat} {sp : Option Nat} {us : List (List Value)} (a : RR 1 h (.slice (some ⟨q, 0, sp⟩) us.length us.length) us) (hsp : sp = none ∨ sp = some 0) : RW h (.slice (some ⟨q, 0, sp⟩) us.length us.length) us := by
  rcases a with ⟨e, _⟩ | ⟨i, o, sp', c, e, hi, _, hr⟩
  · cases e
  · cases e
    exact ⟨_, _, rfl, hsp, hi, hr⟩
theorem RW.keep {h g : Hp} {s : Value} {us : List (List Value)} (a : RW h s us) (hn : h.nx ≤ g.nx) (hk : ∀ a n c, s = .slice (some a) n c → g.get a.block = h.get a.block) : RW g s us := by
  have h2 := a.rr.keep hn hk
  obtain ⟨q, sp, rfl, hsp, hq, hr⟩ := a
  exact RW.of h2 hsp
section
variable {P : Program} {CT : FuncId → List Value → Hp → (Value → Hp → Prop) → Prop} {d : Option Nat} {xs : List Operand} {env : Env} {h : Hp} {R : Value → Hp → Prop}
theorem w_sl3 {m n q : Nat} {sp : Option Nat} (e : mapF env xs = some [.slice (some ⟨q, 0, sp⟩) n n, .int .i64 (m : Int), .int .i64 (m : Int)]) (hsp : sp = none ∨ sp = some 0) (hm : m ≤ n)
    (nx : R (.slice (some ⟨q, 0, none⟩) m m) h) : WI P CT ⟨d, none, .op (.slc 1 false true true) xs⟩ env h R := by
  refine w_op (v := .slice (some ⟨q, 0, none⟩) m m) (h' := h) ?_ nx
  have hbd : bounds n n none (some (.int .i64 (m : Int))) (some (.int .i64 (m : Int))) = some (0, m, m) := by
    have h1 : (0 : Int) ≤ m ∧ (m : Int) ≤ n := by omega
    simp [bounds, bnd, h1]
  unfold opF
  rw [e]
  rcases hsp with rfl | rfl
  · simp only [stepK, get3, takeB, sliceA, hbd]
    simp
  · simp only [stepK, get3, takeB, sliceA, hbd]
    simp
theorem w_appE {q m n0 c bytes : Nat} {t : TypeId} {x : Option Addr} {us vs : List (List Value)} (e : mapF env xs = some [.slice (some ⟨q, 0, none⟩) m m, .slice x n0 c]) (hq : q < h.nx) (hr : ∀ (x : Nat) u, us[x]? = some u → h.rd q (0 + x * 1) 1 = some u) (hm : us.length = m) (hu : Els 1 us)
    (r2 : RR 1 h (.slice x n0 c) vs) (he : Els 1 vs) (hb : (m + vs.length) * bytes ≤ 140737488355328) (hl : m + vs.length ≤ 140737488355328)
    (n : ∀ s' g, RW g s' (us ++ vs) → Ext h g → (∀ a n c, s' = .slice (some a) n c → a.block = q ∨ h.nx ≤ a.block) → R s' g) : WI P CT ⟨d, none, .op (.app t 1 bytes) xs⟩ env h R := by
  subst hm
  obtain ⟨_, c', e'⟩ := r2.len
  cases e'
  have key : ∃ s' g, stepK (.app t 1 bytes) [.slice (some ⟨q, 0, none⟩) us.length us.length, .slice x vs.length c] h = some (s', g) ∧ RW g s' (us ++ vs) ∧ Ext h g ∧ (∀ a n c, s' = .slice (some a) n c → a.block = q ∨ h.nx ≤ a.block) := by
    by_cases h0 : vs = []
    · subst h0
      have hrd : rdS h x 0 = some [] := by
        unfold rdS
        cases x <;> simp
      rw [List.append_nil]
      simp only [List.length_nil, Nat.add_zero] at hb hl ⊢
      refine ⟨.slice (some ⟨q, 0, none⟩) us.length us.length, h, ?_, ⟨q, none, rfl, .inl rfl, hq, hr⟩, Ext.refl _, fun a n c e => by cases e; exact .inl rfl⟩
      simp only [stepK, appA]
      simp [hb, hl, hrd]
    · obtain ⟨i2, o2, sp2, rfl, _, hsp, hr2⟩ := r2.all h0
      have hlen : vs.length ≠ 0 := fun hz => h0 (List.eq_nil_of_length_eq_zero hz)
      have hmul : vs.length * 1 ≠ 0 := by omega
      have hrd : rdS h (some ⟨i2, o2, sp2⟩) (vs.length * 1) = some vs.flatten := by simp only [rdS, if_neg hmul, hsp, if_true]; exact hr2
      have hc1 : vs.flatten.length = vs.length * 1 ∧ vs.flatten.all Am.one = true ∧ 0 < 1 ∧ (us.length + vs.length) * bytes ≤ 140737488355328 ∧ us.length + vs.length ≤ 140737488355328 := ⟨he.len, he.all, by decide, hb, hl⟩
      have hold : (if us.length = 0 then some [] else h.rd q 0 (us.length * 1)) = some us.flatten := by
        by_cases hu0 : us = []
        · subst hu0; rfl
        · rw [if_neg fun hz => hu0 (List.eq_nil_of_length_eq_zero hz)]
          obtain ⟨i3, o3, sp3, e3, _, _, hr3⟩ := RR.all (us := us) (x := some ⟨q, 0, none⟩) (n := us.length) (c := us.length) (.inr ⟨q, 0, none, _, rfl, hq, fun _ => rfl, hr⟩) hu0
          cases e3
          exact hr3
      have hgr : GR 1 0 (h.new ⟨us.flatten ++ vs.flatten, true, 1⟩) (.slice (some ⟨h.nx, 0, some 0⟩) (us ++ vs).length (us ++ vs).length) (us ++ vs) := .inr ⟨h.nx, Nat.zero_le _, by simp [Hp.new], rfl, by simp [Hp.new], by simp [h0], hu.app he⟩
      refine ⟨.slice (some ⟨h.nx, 0, some 0⟩) (us.length + vs.length) (us.length + vs.length), h.new ⟨us.flatten ++ vs.flatten, true, 1⟩, ?_, ?_, Ext.new _ _, fun a n c e => by cases e; exact .inr (Nat.le_refl _)⟩
      · simp only [stepK, hrd, appA, if_pos hc1, if_neg hlen, show ¬ (us.length + vs.length ≤ us.length) by omega, if_false, hold]
      · rw [← List.length_append]
        exact RW.of hgr.rr (.inr rfl)
  obtain ⟨s', g, h1, h2, h3, h4⟩ := key
  refine w_op (v := s') (h' := g) ?_ (n s' g h2 h3 h4)
  unfold opF
  rw [e]
  exact h1
end
/-- Lines, drawn by a number. -/
def ordF : Nat → Nat → List (List UInt8) → List (List UInt8) → List (List UInt8)
  | 0, _, _, al => al
  | n + 1, k, ls, al => ordF n (k / (n + 1)) (ls.take (k % (n + 1)) ++ ls.drop (k % (n + 1) + 1)) (al ++ [ls.getD (k % (n + 1)) []])
def l4 : List (List UInt8) := [[116, 97, 114, 103, 101, 116, 58, 32, 50, 48], [109, 105, 110, 58, 32, 49], [98, 117, 114, 115, 116, 58, 32, 45, 49], [103, 114, 97, 99, 101, 58, 32, 55]]
def bad8 : List (List UInt8) := [[120], [109, 105, 110, 58, 49], [109, 105, 110, 58, 32, 45, 49], [116, 97, 114, 103, 101, 116, 58, 32, 49, 46, 50, 51, 52, 53], [116, 97, 114, 103, 101, 116, 115, 58, 32, 53], [109, 105, 110, 58, 32, 49, 32, 50], [103, 114, 97, 99, 101, 58, 32, 49, 46, 53], [98, 117, 114, 115, 116, 58, 32, 32, 53]]
theorem ord_mod (K : Nat) : ordF 4 K l4 [] = ordF 4 (K % 24) l4 [] := by
  have e1 : K % 24 % 4 = K % 4 := by omega
  have e2 : K % 24 / 4 % 3 = K / 4 % 3 := by omega
  have e3 : K % 24 / 4 / 3 % 2 = K / 4 / 3 % 2 := by omega
  simp only [ordF, Nat.reduceAdd, e1, e2, e3, Nat.mod_one]
def sO (A : List (List UInt8)) : Nat → List UInt8
  | 0 => []
  | i + 1 => if i < 4 then (sO A i ++ A.getD i []) ++ [10] else sO A i
def tO1 (bad t : List UInt8) (j i : Nat) : List UInt8 := if i = j then (t ++ bad) ++ [10] else t
def tO (A : List (List UInt8)) (bad : List UInt8) (j : Nat) : Nat → List UInt8
  | 0 => []
  | i + 1 => if i < 4 then (tO1 bad (tO A bad j i) j i ++ A.getD i []) ++ [10] else tO1 bad (tO A bad j i) j i
def okA (A : List (List UInt8)) : Bool := A.length == 4 && A.all fun l => decide (l.length ≤ 14)
def okS (A : List (List UInt8)) : Bool :=
  let r := parseF setF dflt (sO A 5)
  r.2.1 == 0 && r.1.target == 20000 && r.1.min == 1 && r.1.burst == -1000 && r.1.grace == 7
def okT (A : List (List UInt8)) (bad : List UInt8) (j : Nat) : Bool :=
  let r := parseF setF dflt (tO A bad j 5)
  vl r.1 == vl dflt && r.2.1 == 4 && r.2.2 == (j : Int) + 1
theorem ord_ok : ∀ r, r < 24 → (okA (ordF 4 r l4 []) && okS (ordF 4 r l4 [])) = true := by decide +kernel
theorem ord_bad : ∀ r, r < 24 → ∀ j, j < 5 → ∀ w, w < 8 → okT (ordF 4 r l4 []) (bad8.getD w []) j = true := by decide +kernel
theorem sO_len {A : List (List UInt8)} (h : ∀ l ∈ A, l.length ≤ 14) : ∀ i, (sO A i).length ≤ i * 15
  | 0 => Nat.le_refl _
  | i + 1 => by
    have := sO_len h i
    unfold sO
    split
    · have : (A.getD i []).length ≤ 14 := by
        rw [List.getD_eq_getElem?_getD]
        cases hg : A[i]? with
        | none => simp
        | some l => exact h l (List.mem_of_getElem? hg)
      simp only [List.length_append, List.length_cons, List.length_nil]
      omega
    · omega
theorem tO_len {A : List (List UInt8)} (h : ∀ l ∈ A, l.length ≤ 14) {bad : List UInt8} (hb : bad.length ≤ 14) (j : Nat) : ∀ i, (tO A bad j i).length ≤ i * 30 ∧ (tO1 bad (tO A bad j i) j i).length ≤ i * 30 + 15
  | 0 => by
    refine ⟨Nat.le_refl _, ?_⟩
    unfold tO1 tO
    split
    · simp only [List.length_append, List.length_cons, List.length_nil]; omega
    · simp
  | i + 1 => by
    have hi := tO_len h hb j i
    have h1 : (tO A bad j (i + 1)).length ≤ (i + 1) * 30 := by
      unfold tO
      split
      · have : (A.getD i []).length ≤ 14 := by
          rw [List.getD_eq_getElem?_getD]
          cases hg : A[i]? with
          | none => simp
          | some l => exact h l (List.mem_of_getElem? hg)
        simp only [List.length_append, List.length_cons, List.length_nil]
        omega
      · omega
    refine ⟨h1, ?_⟩
    generalize tO A bad j (i + 1) = t at h1
    unfold tO1
    split
    · simp only [List.length_append, List.length_cons, List.length_nil]; omega
    · omega
end Go.Proofs.YtapbmmlgmcmpnaaDoorW.Am
/- Texts: the law TextOrders, walked. -/
namespace Go.Proofs.YtapbmmlgmcmpnaaDoorW.Am
open Go Go.RowKit
structure OrS where
  k : Nat
  ls : List (List UInt8)
  al : List (List UInt8)
  sl : Value
  sa : Value
theorem rB_app (a b : List (List UInt8)) : rB (a ++ b) = rB a ++ rB b := List.map_append
theorem rB_take (a : List (List UInt8)) (i : Nat) : (rB a).take i = rB (a.take i) := List.map_take.symm
theorem rB_drop (a : List (List UInt8)) (i : Nat) : (rB a).drop i = rB (a.drop i) := List.map_drop.symm
theorem rB_els (a : List (List UInt8)) : Els 1 (rB a) := by
  intro u hu
  obtain ⟨l, _, rfl⟩ := List.mem_map.1 hu
  exact ⟨rfl, rfl⟩
section
variable {P : Program} {CT : FuncId → List Value → Hp → (Value → Hp → Prop) → Prop} {d : Option Nat} {xs : List Operand} {env : Env} {h : Hp} {R : Value → Hp → Prop}
theorem w_appN {N k bytes : Nat} {t : TypeId} {s : Value} {us : List (List Value)} {u : List Value} {q m : Nat} {b : Bool} (e : mapF env xs = some [s, .slice (some ⟨q, 0, none⟩) 1 1]) (r : GR k N h s us) (hq : h.get q = some ⟨u, b, m⟩) (hu : u.length = k) (ho : u.all one = true) (hk : 0 < k)
    (hb : (us.length + 1) * bytes ≤ 140737488355328) (hl : us.length + 1 ≤ 140737488355328)
    (n : ∀ s' g, GR k h.nx g s' (us ++ [u]) → h.nx ≤ g.nx → Xo s h g → R s' g) : WI P CT ⟨d, none, .op (.app t k bytes) xs⟩ env h R := by
  have hrd : rdS h (some ⟨q, 0, none⟩) (1 * k) = some u := by
    simp only [rdS, Nat.one_mul]
    rw [if_neg (by omega)]
    simp only [Option.getD_none, if_true]
    exact rd_all hq hu
  have key : ∃ s' g, stepK (.app t k bytes) [s, .slice (some ⟨q, 0, none⟩) 1 1] h = some (s', g) ∧ GR k h.nx g s' (us ++ [u]) ∧ h.nx ≤ g.nx ∧ Xo s h g := by
    rcases r with ⟨rfl, rfl⟩ | ⟨i, h1, h2, rfl, h4, h5, h6⟩
    · refine ⟨.slice (some ⟨h.nx, 0, some 0⟩) 1 1, h.new ⟨u, true, k⟩, ?_, .inr ⟨h.nx, Nat.le_refl _, by simp [Hp.new], rfl, by simp [Hp.new], by simp, Els.one hu ho⟩, (Ext.new _ _).1, fun j hj _ => (Ext.new h _).2 j hj⟩
      simp only [stepK, hrd, appA]
      simp only [List.length_nil, Nat.zero_add] at hb hl
      rw [if_pos ⟨by omega, ho, hk, by simpa using hb, by omega⟩]
      simp
    · have hn0 : us.length ≠ 0 := fun hz => h5 (List.eq_nil_of_length_eq_zero hz)
      have hold : h.rd i 0 (us.length * k) = some us.flatten := rd_all h4 h6.len
      refine ⟨.slice (some ⟨h.nx, 0, some 0⟩) (us.length + 1) (us.length + 1), (h.del i).new ⟨us.flatten ++ u, true, k⟩, ?_, .inr ⟨h.nx, Nat.le_refl _, by simp [Hp.new, Hp.del], by simp, by simp [Hp.new, Hp.del], by simp, h6.app (Els.one hu ho)⟩, by simp [Hp.new, Hp.del], fun j hj hne => ?_⟩
      · simp only [stepK, hrd, appA]
        rw [if_pos ⟨by omega, ho, hk, hb, hl⟩]
        simp only [Nat.one_ne_zero, if_false, show ¬ (us.length + 1 ≤ us.length) by omega, if_neg hn0, hold, h4]
        rw [if_pos ⟨trivial, trivial, by rw [h6.len]; omega, Nat.le_refl _, h6.all⟩]
      · have e1 : ¬ j = h.nx := by omega
        have e2 : ¬ j = i := hne _ _ _ rfl
        simp [Hp.new, Hp.del, e1, e2]
  obtain ⟨s', g, hs, h1, h2, h3⟩ := key
  exact w_op (v := s') (h' := g) (by unfold opF; rw [e]; exact hs) (n s' g h1 h2 h3)
theorem GR.low {k N N' : Nat} {s : Value} {us : List (List Value)} (a : GR k N h s us) (hN : N' ≤ N) : GR k N' h s us := by
  rcases a with a | ⟨i, h1, h2⟩
  · exact .inl a
  · exact .inr ⟨i, Nat.le_trans hN h1, h2⟩
end
set_option maxRecDepth 10000 in
set_option maxHeartbeats 4000000 in
theorem torders_ok (a b c : Int) (h : Hp) : ACall PX 6 [nI a, nI b, nI c] h (fun v _ => v = .bool true) := by
  have ha := u64_r a
  have hb := u64_r b
  have hc := u64_r c
  obtain ⟨K, hK⟩ : ∃ K : Nat, IntKind.u64.wrap a = (K : Int) := ⟨(IntKind.u64.wrap a).toNat, by omega⟩
  obtain ⟨J, hJ⟩ : ∃ J : Nat, IntKind.u64.wrap b % 5 = (J : Int) := ⟨(IntKind.u64.wrap b % 5).toNat, by omega⟩
  obtain ⟨Z, hZ⟩ : ∃ Z : Nat, IntKind.u64.wrap c % 8 = (Z : Int) := ⟨(IntKind.u64.wrap c % 8).toNat, by omega⟩
  have hJ5 : J < 5 := by omega
  have hZ8 : Z < 8 := by omega
  have hK64 : K ≤ 18446744073709551615 := by omega
  have hA := ord_ok (K % 24) (by omega)
  have hT := ord_bad (K % 24) (by omega) J hJ5 Z hZ8
  rw [← ord_mod] at hA hT
  obtain ⟨A, hAE⟩ : ∃ A, ordF 4 K l4 [] = A := ⟨_, rfl⟩
  rw [hAE] at hA hT
  refine acall Go.Proofs.Tryd.func6 c6 (by simp [ir6]) ?_
  unfold ir6
  dsimp only
  refine ai_seq ?_
  repeat (first | refine sS ?_ | refine sE ?_ | refine w_mv rfl ?_ | refine ai_regW ?_)
  refine ai_seq ?_
  repeat (first | refine sS ?_ | refine ai_regW ?_)
  refine w_bslF rfl rfl rfl rfl rfl ?_
  intro g1 x1 k1 n1
  repeat (first | refine sS ?_ | refine sE ?_ | refine w_mv rfl ?_)
  refine ai_seq ?_
  repeat (first | refine sS ?_ | refine sE ?_ | refine w_mv rfl ?_ | refine w_cuw rfl ?_ | refine ai_regW ?_)
  rw [hK]
  refine ai_seq ?_
  repeat (first | refine sS ?_ | refine sE ?_ | refine w_mv rfl ?_ | refine ai_regW ?_)
  refine ai_join (γ := Value) (fun sa => [(1, nI b), (2, nI c), (9, sa)]) (fun sa g => GR 1 g1.nx g sa (rB A)) ?_ ?_
  · repeat (first | refine ai_block ?_)
    refine ai_loopE (γ := OrS) (fun z => [(1, nI b), (2, nI c), (7, z.sl), (8, .int .u64 z.k), (9, z.sa)])
      (fun z g => g1.nx ≤ g.nx ∧ RW g z.sl (rB z.ls) ∧ GR 1 g1.nx g z.sa (rB z.al) ∧ (∀ p n q p' n' q', z.sl = .slice (some p) n q → z.sa = .slice (some p') n' q' → p.block ≠ p'.block) ∧ z.ls.length + z.al.length = 4 ∧ ordF z.ls.length z.k z.ls z.al = A ∧ z.k ≤ 18446744073709551615)
      (fun z => z.ls.length) ⟨K, l4, [], .slice (some ⟨h.nx, 0, none⟩) 4 4, .slice none 0 0⟩
      (by repeat (first | exact le_nil | refine le_consF rfl ?_)) ⟨Nat.le_refl _, ⟨h.nx, none, rfl, .inl rfl, n1, fun x u hu => ?_⟩, .inl ⟨rfl, rfl⟩, (fun p n q p' n' q' e e' => by cases e'), rfl, hAE, hK64⟩ ?_
    · match x, hu with
      | 0, hu => cases hu; exact rd_f k1 (x := 0) rfl
      | 1, hu => cases hu; exact rd_f k1 (x := 1) rfl
      | 2, hu => cases hu; exact rd_f k1 (x := 2) rfl
      | 3, hu => cases hu; exact rd_f k1 (x := 3) rfl
      | x + 4, hu => simp [rB, l4] at hu
    rintro ⟨k, ls, al, sl, sa⟩ g ⟨hn, r, ra, hne, hl, hA, hk⟩
    dsimp only at hn r ra hne hl hA hk ⊢
    obtain ⟨q, sp, rfl, hsp, hq, hr⟩ := id r
    rw [rB_len] at r ⊢
    obtain ⟨n, hn0⟩ : ∃ n, ls.length = n := ⟨_, rfl⟩
    rw [hn0] at r hl hA ⊢
    by_cases h0 : 0 < n
    · obtain ⟨i, hi⟩ : ∃ i, k % n = i := ⟨_, rfl⟩
      have hin : i < n := by rw [← hi]; exact Nat.mod_lt _ h0
      have hkn : (k : Int) % (n : Int) = (i : Int) := by rw [← hi]; exact (Int.natCast_emod k n).symm
      obtain ⟨kq, hkq⟩ : ∃ kq, k / n = kq := ⟨_, rfl⟩
      have hkd : (k : Int) / (n : Int) = (kq : Int) := by rw [← hkq]; exact (Int.natCast_ediv k n).symm
      have hkl : kq ≤ k := by rw [← hkq]; exact Nat.div_le_self k n
      have hli : ls[i]? = some (ls.getD i []) := by rw [List.getD_eq_getElem?_getD, List.getElem?_eq_getElem (by omega)]; rfl
      repeat (first | refine sS ?_ | refine sE ?_ | refine w_mv rfl ?_ | (refine is_okn rfl ?_; refine w_op rfl ?_) | (refine w_ci rfl ?_ ?_; (focus omega)) | (refine w_cu rfl ?_ ?_; (focus omega)) | (refine w_cmp (c2 := true) rfl ?_ ?_; focus (first | exact decide_eq_true (by omega) | (simp; done) | (simp; omega))) | (refine w_iad rfl ?_ ?_; focus (first | omega | (simp; done) | (simp; omega))) | (refine w_rem rfl ?_ ?_ ?_; (focus omega); (focus omega)) | (refine w_quou rfl ?_ ?_ ?_; (focus omega); (focus omega)) | refine ai_seq ?_ | refine ai_regW ?_ | refine ai_condF (b := true) rfl (fun _ => ?_) (fun hb => by cases hb) | refine ai_skip ?_ | refine ai_block ?_)
      rw [hkn]
      skip
      rw [hkd]
      refine w_ld (v := bsV (ls.getD i [])) rfl (by rw [Int.toNat_natCast]; exact hr i _ (rB_get hli)) ?_
      repeat (first | refine sS ?_)
      refine w_bslF rfl rfl rfl rfl rfl ?_
      intro g2 x2 k2 n2
      have ra2 : GR 1 g1.nx g2 sa (rB al) := ra.keep x2.1 fun i _ h2 => x2.2 i h2
      have hal := rB_len al
      repeat (first | refine sS ?_)
      refine w_appN (u := [bsV (ls.getD i [])]) rfl ra2 k2 rfl rfl (by decide) (by omega) (by omega) fun s3 g3 r3 n3 x3 => ?_
      have hq2 : q < g2.nx := Nat.lt_of_lt_of_le hq x2.1
      have kq3 : g3.get q = g2.get q := x3 q hq2 fun p n' q' e => hne _ _ _ p n' q' rfl e
      have hr3 : RW g3 (.slice (some ⟨q, 0, sp⟩) n n) (rB ls) := by
        have h1 : RW g (.slice (some ⟨q, 0, sp⟩) (rB ls).length (rB ls).length) (rB ls) := ⟨q, sp, rfl, hsp, hq, hr⟩
        rw [rB_len, hn0] at h1
        exact h1.keep (Nat.le_trans x2.1 n3) fun p n' q' e => by cases e; exact kq3.trans (x2.2 _ hq)
      obtain ⟨q', sp', e', _, hq3, hrd3⟩ := id hr3
      rw [rB_len, hn0] at e'
      cases e'
      repeat (first | refine sS ?_ | refine dS ?_ | refine sE ?_ | refine w_mv rfl ?_ | refine ai_drwW (by kernel_rfl) ?_)
      refine w_sl3 rfl hsp (by omega) ?_
      repeat (first | refine dS ?_ | refine w_mv rfl ?_ | (refine w_add rfl ?_ ?_; (focus omega)))
      have hr4 := hr3.rr
      refine w_slS (m := i + 1) (us := rB ls) (by rw [show ((i + 1 : Nat) : Int) = (i : Int) + 1 from rfl]; rfl) hr4 (by rw [rB_len]; omega) (by rw [rB_len]; omega) fun s4 r4 => ?_
      rw [rB_drop] at r4
      obtain ⟨y4, c4, rfl⟩ := r4.len
      have hdl := rB_len (ls.drop (i + 1))
      have hdl2 : (ls.drop (i + 1)).length = n - (i + 1) := by rw [List.length_drop, hn0]
      repeat (first | refine dS ?_)
      refine w_appE (us := rB (ls.take i)) (vs := rB (ls.drop (i + 1))) rfl hq3 (fun x u hu => hrd3 x u (by
        rw [← rB_take, List.getElem?_take] at hu
        split at hu
        · exact hu
        · cases hu)) (by rw [rB_len, List.length_take]; omega) (rB_els _) r4 (rB_els _) (by omega) (by omega) fun s5 g5 r5 x5 b5 => ?_
      repeat (first | refine dS ?_ | refine dE ?_ | refine w_mv rfl ?_)
      refine ⟨⟨kq, ls.take i ++ ls.drop (i + 1), al ++ [ls.getD i []], s5, s3⟩, (by repeat (first | exact le_nil | refine le_consF rfl ?_)), ⟨?_, ?_, ?_, ?_, ?_, ?_, ?_⟩, ?_⟩
      · have := x2.1; have := x5.1; omega
      · rw [rB_app]; exact r5
      · rw [rB_app]
        exact (r3.low (Nat.le_trans hn x2.1)).keep x5.1 fun i _ h2 => x5.2 i h2
      · intro p n1 q1 p' n' q' e e'
        have h1 := b5 p n1 q1 e
        have h2 := r3.blk e'
        omega
      · simp only [List.length_append, List.length_take, List.length_cons, List.length_nil]
        omega
      · obtain ⟨n', rfl⟩ : ∃ n', n = n' + 1 := ⟨n - 1, by omega⟩
        rw [show (ls.take i ++ ls.drop (i + 1)).length = n' by simp only [List.length_append, List.length_take]; omega, ← hA, ← hi, ← hkq]
        rfl
      · exact Nat.le_trans hkl hk
      · show (ls.take i ++ ls.drop (i + 1)).length < n
        simp only [List.length_append, List.length_take]; omega
    · obtain rfl : n = 0 := by omega
      repeat (first | refine sS ?_ | refine sE ?_ | refine w_mv rfl ?_ | (refine is_okn rfl ?_; refine w_op rfl ?_) | (refine w_cmp (c2 := false) rfl ?_ ?_; focus (first | exact decide_eq_false (by omega) | (simp; done) | (simp; omega))) | refine ai_seq ?_ | refine ai_regW ?_ | refine ai_condF (b := false) rfl (fun hb => by cases hb) (fun _ => ?_) | refine ai_exit ?_)
      exact ⟨rfl, sa, (by repeat (first | exact le_nil | refine le_consF rfl ?_)), by rw [show A = al from hA.symm]; exact ra⟩
  rintro sa g ra
  simp only [okA, okS, Bool.and_eq_true, beq_iff_eq, List.all_eq_true, decide_eq_true_eq] at hA
  obtain ⟨⟨hA4, hA14⟩, hS⟩ := hA
  have hrA := rB_len A
  have hrw : ∃ q, sa = .slice (some ⟨q, 0, some 0⟩) 4 4 ∧ q < g.nx ∧ ∀ (x : Nat) u, (rB A)[x]? = some u → g.rd q (0 + x * 1) 1 = some u := by
    have h2 := ra.rr
    rcases ra with ⟨_, e⟩ | ⟨q, _, hq, rfl, _⟩
    · rw [e] at hrA; rw [hA4] at hrA; cases hrA
    · obtain ⟨q', sp, e, _, hq', hr⟩ := RW.of h2 (.inr rfl)
      cases e
      exact ⟨q, by rw [hrA, hA4], hq, hr⟩
  obtain ⟨q, rfl, hq, hr⟩ := hrw
  obtain ⟨bad, hbad⟩ : ∃ bad, bad8.getD Z [] = bad := ⟨_, rfl⟩
  have hb14 : bad.length ≤ 14 := by
    have : ∀ w, w < 8 → decide ((bad8.getD w []).length ≤ 14) = true := by decide
    rw [← hbad]
    exact of_decide_eq_true (this Z hZ8)
  rw [hbad] at hT
  refine ai_seq ?_
  repeat (first | refine sS ?_ | refine ai_regW ?_)
  refine w_bslF rfl rfl rfl rfl rfl ?_
  intro ga xa ka na
  repeat (first | refine sS ?_ | refine w_mv rfl ?_ | (refine w_iad rfl ?_ ?_; focus (first | omega | (simp; done) | (simp; omega))) | (refine w_rem rfl ?_ ?_ ?_; (focus omega); (focus omega)) | refine w_cuw rfl ?_)
  rw [hZ]
  skip
  have hx : (bad8.flatMap fun v => [bs v])[Z]? = some (bs bad) := by
    rw [← hbad]
    match Z, hZ8 with
    | 0, _ => rfl
    | 1, _ => rfl
    | 2, _ => rfl
    | 3, _ => rfl
    | 4, _ => rfl
    | 5, _ => rfl
    | 6, _ => rfl
    | 7, _ => rfl
  refine w_ld (v := bs bad) rfl (by rw [show 0 + (Z : Int).toNat * 1 = 0 + Z by omega]; exact rd_f ka hx) ?_
  have hr := fun x u hu => (show ga.rd q (0 + x * 1) 1 = some u by have h1 := hr x u hu; unfold Hp.rd at h1 ⊢; rw [xa.2 q hq]; exact h1)
  repeat (first | refine sS ?_ | refine sE ?_ | refine w_mv rfl ?_)
  refine ai_seq ?_
  repeat (first | refine sS ?_ | refine sE ?_ | refine w_mv rfl ?_ | (refine w_ci rfl ?_ ?_; (focus omega)) | (refine w_rem rfl ?_ ?_ ?_; (focus omega); (focus omega)) | refine w_cuw rfl ?_ | refine ai_regW ?_)
  rw [hJ]
  skip
  refine ai_seq ?_
  repeat (first | refine sS ?_ | refine sE ?_ | refine w_mv rfl ?_ | refine ai_regW ?_)
  refine ai_join (γ := Unit) (fun _ => [(12, nI J), (13, bs (sO A 5)), (14, bs (tO A bad J 5))]) (fun _ h' => ga = h') ?_ ?_
  · repeat (first | refine sS ?_ | refine sE ?_ | refine w_mv rfl ?_ | refine ai_seq ?_ | refine ai_regW ?_ | refine ai_block ?_)
    refine ai_loopE (γ := Nat) (fun i => [(9, .slice (some ⟨q, 0, some 0⟩) 4 4), (11, bs bad), (12, nI J), (13, bs (sO A i)), (14, bs (tO A bad J i)), (15, nI i)]) (fun i h' => ga = h' ∧ i ≤ 5) (fun i => 5 - i) 0
      (by repeat (first | exact le_nil | refine le_consF rfl ?_)) ⟨rfl, Nat.zero_le _⟩ ?_
    rintro i _ ⟨rfl, hi⟩
    have hls := sO_len hA14 i
    obtain ⟨hlt, hlt1⟩ := tO_len hA14 hb14 J i
    by_cases hi5 : i < 5
    · have hs : sO A (i + 1) = if i < 4 then (sO A i ++ A.getD i []) ++ [10] else sO A i := rfl
      have ht : tO A bad J (i + 1) = if i < 4 then (tO1 bad (tO A bad J i) J i ++ A.getD i []) ++ [10] else tO1 bad (tO A bad J i) J i := rfl
      have ht1 : tO1 bad (tO A bad J i) J i = if i = J then (tO A bad J i ++ bad) ++ [10] else tO A bad J i := rfl
      have hgl : (A.getD i []).length ≤ 14 := by
        rw [List.getD_eq_getElem?_getD]
        cases hg : A[i]? with
        | none => simp
        | some l => exact hA14 l (List.mem_of_getElem? hg)
      have hAi : i < 4 → A[i]? = some (A.getD i []) := fun h => by rw [List.getD_eq_getElem?_getD, List.getElem?_eq_getElem (by omega)]; rfl
      generalize sO A i = s at hs hls ⊢
      generalize tO1 bad (tO A bad J i) J i = t1 at ht ht1 hlt1
      generalize tO A bad J i = t at ht1 hlt ⊢
      generalize A.getD i [] = l at hs ht hgl hAi ⊢
      by_cases hij : i = J
      · rw [if_pos hij] at ht1
        subst ht1
        subst hij
        repeat (first | refine sS ?_ | refine sE ?_ | refine w_mv rfl ?_ | (refine w_cmp (c2 := true) rfl ?_ ?_; focus (first | exact decide_eq_true (by omega) | (simp; done) | (simp; omega))) | refine ai_seq ?_ | refine ai_regW ?_ | refine ai_condF (b := true) rfl (fun _ => ?_) (fun hb => by cases hb) | refine ai_skip ?_ | refine ai_block ?_)
        refine w_catB (a := t) (b := bad) rfl (by omega) ?_
        repeat (first | refine sS ?_)
        refine w_catB (a := t ++ bad) (b := [10]) rfl (by simp only [List.length_append, List.length_cons, List.length_nil]; omega) ?_
        generalize (t ++ bad) ++ [10] = t1 at ht hlt1 ⊢
        by_cases hi4 : i < 4
        · rw [if_pos hi4] at hs ht
          repeat (first | refine sS ?_ | refine dS ?_ | refine sE ?_ | refine w_mv rfl ?_ | (refine w_cmp (c2 := true) rfl ?_ ?_; focus (first | exact decide_eq_true (by omega) | (simp; done) | (simp; omega))) | (refine w_iad rfl ?_ ?_; focus (first | omega | (simp; done) | (simp; omega))) | refine ai_seq ?_ | refine ai_regW ?_ | refine ai_condF (b := true) rfl (fun _ => ?_) (fun hb => by cases hb) | refine ai_drwW (by kernel_rfl) ?_)
          refine w_ld (v := bs l) rfl (by rw [Int.toNat_natCast]; exact hr i _ (rB_get (hAi hi4))) ?_
          repeat (first | refine dS ?_)
          refine w_catB (a := s) (b := l) rfl (by omega) ?_
          repeat (first | refine dS ?_)
          refine w_catB (a := s ++ l) (b := [10]) rfl (by simp only [List.length_append, List.length_cons, List.length_nil]; omega) ?_
          repeat (first | refine dS ?_ | refine w_mv rfl ?_ | (refine w_iad rfl ?_ ?_; focus (first | omega | (simp; done) | (simp; omega))))
          refine w_ld (v := bs l) rfl (by rw [Int.toNat_natCast]; exact hr i _ (rB_get (hAi hi4))) ?_
          repeat (first | refine dS ?_)
          refine w_catB (a := t1) (b := l) rfl (by omega) ?_
          repeat (first | refine dS ?_)
          refine w_catB (a := t1 ++ l) (b := [10]) rfl (by simp only [List.length_append, List.length_cons, List.length_nil]; omega) ?_
          repeat (first | refine sS ?_ | refine dS ?_ | refine sE ?_ | refine dE ?_ | refine w_mv rfl ?_ | (refine w_add rfl ?_ ?_; (focus omega)) | refine ai_regW ?_)
          exact ⟨i + 1, by dsimp only; rw [hs, ht]; exact (by repeat (first | exact le_nil | refine le_consF rfl ?_)), ⟨rfl, by omega⟩, by dsimp only; omega⟩
        · rw [if_neg hi4] at hs ht
          repeat (first | refine sS ?_ | refine sE ?_ | refine w_mv rfl ?_ | (refine w_add rfl ?_ ?_; (focus omega)) | (refine w_cmp (c2 := false) rfl ?_ ?_; focus (first | exact decide_eq_false (by omega) | (simp; done) | (simp; omega))) | refine ai_seq ?_ | refine ai_regW ?_ | refine ai_condF (b := false) rfl (fun hb => by cases hb) (fun _ => ?_) | refine ai_skip ?_)
          exact ⟨i + 1, by dsimp only; rw [hs, ht]; exact (by repeat (first | exact le_nil | refine le_consF rfl ?_)), ⟨rfl, by omega⟩, by dsimp only; omega⟩
      · rw [if_neg hij] at ht1
        subst ht1
        by_cases hi4 : i < 4
        · rw [if_pos hi4] at hs ht
          repeat (first | refine sS ?_ | refine dS ?_ | refine sE ?_ | refine w_mv rfl ?_ | (refine w_cmp (c2 := true) rfl ?_ ?_; focus (first | exact decide_eq_true (by omega) | (simp; done) | (simp; omega))) | (refine w_cmp (c2 := false) rfl ?_ ?_; focus (first | exact decide_eq_false (by omega) | (simp; done) | (simp; omega))) | (refine w_iad rfl ?_ ?_; focus (first | omega | (simp; done) | (simp; omega))) | refine ai_seq ?_ | refine ai_regW ?_ | refine ai_condF (b := true) rfl (fun _ => ?_) (fun hb => by cases hb) | refine ai_condF (b := false) rfl (fun hb => by cases hb) (fun _ => ?_) | refine ai_skip ?_ | refine ai_drwW (by kernel_rfl) ?_ | refine ai_block ?_)
          refine w_ld (v := bs l) rfl (by rw [Int.toNat_natCast]; exact hr i _ (rB_get (hAi hi4))) ?_
          repeat (first | refine dS ?_)
          refine w_catB (a := s) (b := l) rfl (by omega) ?_
          repeat (first | refine dS ?_)
          refine w_catB (a := s ++ l) (b := [10]) rfl (by simp only [List.length_append, List.length_cons, List.length_nil]; omega) ?_
          repeat (first | refine dS ?_ | refine w_mv rfl ?_ | (refine w_iad rfl ?_ ?_; focus (first | omega | (simp; done) | (simp; omega))))
          refine w_ld (v := bs l) rfl (by rw [Int.toNat_natCast]; exact hr i _ (rB_get (hAi hi4))) ?_
          repeat (first | refine dS ?_)
          refine w_catB (a := t1) (b := l) rfl (by omega) ?_
          repeat (first | refine dS ?_)
          refine w_catB (a := t1 ++ l) (b := [10]) rfl (by simp only [List.length_append, List.length_cons, List.length_nil]; omega) ?_
          repeat (first | refine sS ?_ | refine dS ?_ | refine sE ?_ | refine dE ?_ | refine w_mv rfl ?_ | (refine w_add rfl ?_ ?_; (focus omega)) | refine ai_regW ?_)
          exact ⟨i + 1, by dsimp only; rw [hs, ht]; exact (by repeat (first | exact le_nil | refine le_consF rfl ?_)), ⟨rfl, by omega⟩, by dsimp only; omega⟩
        · rw [if_neg hi4] at hs ht
          repeat (first | refine sS ?_ | refine sE ?_ | refine w_mv rfl ?_ | (refine w_add rfl ?_ ?_; (focus omega)) | (refine w_cmp (c2 := true) rfl ?_ ?_; focus (first | exact decide_eq_true (by omega) | (simp; done) | (simp; omega))) | (refine w_cmp (c2 := false) rfl ?_ ?_; focus (first | exact decide_eq_false (by omega) | (simp; done) | (simp; omega))) | refine ai_seq ?_ | refine ai_regW ?_ | refine ai_condF (b := true) rfl (fun _ => ?_) (fun hb => by cases hb) | refine ai_condF (b := false) rfl (fun hb => by cases hb) (fun _ => ?_) | refine ai_skip ?_ | refine ai_block ?_)
          exact ⟨i + 1, by dsimp only; rw [hs, ht]; exact (by repeat (first | exact le_nil | refine le_consF rfl ?_)), ⟨rfl, by omega⟩, by dsimp only; omega⟩
    · obtain rfl : i = 5 := by omega
      repeat (first | refine sS ?_ | refine sE ?_ | refine w_mv rfl ?_ | (refine w_cmp (c2 := false) rfl ?_ ?_; focus (first | exact decide_eq_false (by omega) | (simp; done) | (simp; omega))) | refine ai_seq ?_ | refine ai_regW ?_ | refine ai_condF (b := false) rfl (fun hb => by cases hb) (fun _ => ?_) | refine ai_exit ?_)
      exact ⟨rfl, (), (by repeat (first | exact le_nil | refine le_consF rfl ?_)), rfl⟩
  rintro _ _ rfl
  have hls := sO_len hA14 5
  obtain ⟨hlt, _⟩ := tO_len hA14 hb14 J 5
  simp only [okT, Bool.and_eq_true, beq_iff_eq] at hT
  have p1 := fun g => tparse_ok dflt (sO A 5) (by omega) g
  have p2 := fun g => tparse_ok dflt (tO A bad J 5) (by omega) g
  have hp2 : parseF setF dflt (tO A bad J 5) = (dflt, 4, (J : Int) + 1) := Prod.ext (vl_inj hT.1.1) (Prod.ext hT.1.2 hT.2)
  rw [hp2] at p2
  obtain ⟨⟨⟨z0, z1, z2, z3, z4, z5, z6, z7, z8, z9, y0, y1, y2, y3, y4, y5, y6, y7, y8, y9⟩, e1, m1⟩, hp1⟩ : ∃ z, parseF setF dflt (sO A 5) = z := ⟨_, rfl⟩
  rw [hp1] at p1 hS
  dsimp only at hS
  obtain ⟨⟨⟨⟨rfl, rfl⟩, rfl⟩, rfl⟩, rfl⟩ := hS
  generalize sO A 5 = s at p1 ⊢
  generalize tO A bad J 5 = t at p2 ⊢
  repeat (first | refine sS ?_ | refine ai_seq ?_ | refine ai_regW ?_)
  refine w_call rfl ((default_ok _).mono ?_)
  rintro _ g2 ⟨rfl, x2⟩
  repeat (first | refine sS ?_ | refine w_mv rfl ?_)
  refine w_call rfl ((p1 _).mono ?_)
  rintro _ g3 ⟨rfl, x3⟩
  repeat (first | refine sS ?_ | refine w_mv rfl ?_ | refine w_ext rfl rfl ?_)
  refine w_new fun g4 x4 k4 m4 => ?_
  repeat (first | refine sSn ?_)
  refine w_stN rfl rfl k4 rfl rfl fun g5 q5 k5 m5 => ?_
  repeat (first | refine sS ?_ | refine sE ?_ | refine w_mv rfl ?_ | refine ai_seq ?_ | refine ai_regW ?_)
  refine w_call rfl ((default_ok _).mono ?_)
  rintro _ g6 ⟨rfl, x6⟩
  have k6 := (x6.2 _ (by omega)).trans k5
  repeat (first | refine sS ?_ | refine w_mv rfl ?_)
  refine w_call rfl ((p2 _).mono ?_)
  rintro _ g7 ⟨rfl, x7⟩
  have k7 := (x7.2 _ (by have := x6.1; omega)).trans k6
  repeat (first | refine sS ?_ | refine w_mv rfl ?_ | refine w_ext rfl rfl ?_)
  refine w_new fun g8 x8 k8 m8 => ?_
  repeat (first | refine sSn ?_)
  refine w_stN rfl rfl k8 rfl rfl fun g9 q9 k9 m9 => ?_
  have k79 := (q9 _ (by have := x6.1; have := x7.1; omega)).trans ((x8.2 _ (by have := x6.1; have := x7.1; omega)).trans k7)
  repeat (first | refine sS ?_ | refine dS ?_ | refine sE ?_ | refine w_mv rfl ?_ | refine ai_seq ?_ | refine ai_drwW (by kernel_rfl) ?_)
  refine w_call rfl ((told_ok _).mono ?_)
  rintro _ gb ⟨rfl, xb⟩
  have kb := (xb.2 _ (by have := x6.1; have := x7.1; have := x8.1; omega)).trans k79
  have kb9 := (xb.2 _ (by have := x8.1; omega)).trans k9
  repeat (first | refine dS ?_ | refine dSR ?_ | refine w_mv rfl ?_ | refine w_pickT rfl ?_ | (refine is_okn rfl ?_; refine w_op rfl ?_) | refine w_gT rfl rfl ?_ | (refine is_ld ?_; refine w_ld rfl (by first | exact rd_g ‹_› rfl | exact rd_new rfl | assumption) ?_) | (refine is_ldn ?_; refine w_ldn rfl (by first | exact rd_all ‹_› rfl | exact rd_newn rfl | assumption) ?_) | (refine w_add rfl ?_ ?_; (focus omega)) | (refine w_cmp (c2 := true) rfl ?_ ?_; focus (first | exact decide_eq_true (by omega) | (simp; done) | (simp; omega))))
  refine w_call rfl ((default_ok _).mono ?_)
  rintro _ gc ⟨rfl, xc⟩
  have kc9 := (xc.2 _ (by have := x8.1; have := xb.1; omega)).trans kb9
  repeat (first | refine dS ?_ | (refine agS ?_ ?_; focus (repeat (first | exact ag_nil | refine ag_cons (by first | exact ag_gF rfl rfl | exact ag_l rfl rfl (by first | exact rd_g ‹_› rfl | exact rd_new rfl | assumption) | exact ag_gT rfl rfl (ag_l rfl rfl (by first | exact rd_g ‹_› rfl | exact rd_new rfl | assumption)) | exact ag_ln rfl rfl (by first | exact rd_all ‹_› rfl | exact rd_newn rfl | assumption) | exact ag_gT rfl rfl (ag_ln rfl rfl (by first | exact rd_all ‹_› rfl | exact rd_newn rfl | assumption))) ?_))) | refine w_gT rfl rfl ?_)
  refine w_eqS rfl rfl (ks := List.replicate 20 (.int .i64)) (by kernel_rfl) rfl rfl ?_
  intro bb hbb
  obtain rfl : bb = true := hbb.2 rfl
  repeat (first | refine dS ?_ | refine dE ?_ | refine w_mv rfl ?_ | refine w_pickT rfl ?_ | (refine ai_ret ?_; repeat (first | rw [thenQ_r] | rw [blockQ_r] | rw [roundE_r])))
  exact end_one rfl rfl
end Go.Proofs.YtapbmmlgmcmpnaaDoorW.Am
