/- Texts: Parse walked. -/
import Derived.Test.YtapbmmlgmcmpnaaDoorTextBlanksK3
import Derived.Shelf.Strings.Builder1
import Derived.Test.YtapbmmlgmcmpnaaDoorProg
import Derived.KernelRfl
import Derived.Test.YtapbmmlgmcmpnaaDoorTextBlanksK2
import Derived.ChangeSlices
import Derived.OpenShut
import Derived.ChangeArms
import Derived.DataReads
import Derived.Test.YtapbmmlgmcmpnaaDoorTextBlanksK1
import Derived.Handed
import Derived.HandedShaped
import Derived.Test.YtapbmmlgmcmpnaaDoorRows
import Derived.Deep.DeepLaidRun
import Derived.Stop.LaidErr
import Derived.WalkKit
import Derived.ProofKit
import Derived.ShutString
import Derived.ChangeOld
import Derived.Below
import Derived.SizedLaws
import Derived.Test.YtapbmmlgmcmpnaaDoorCards
import Derived.Test.YtapbmmlgmcmpnaaDoorTie
import Derived.ChangeSame
import Derived.ChangeVars
import Derived.JoinedOf
import Derived.LaidLaws
import Derived.SevenTiedAt
namespace Go.Proofs.YtapbmmlgmcmpnaaDoorW.Am
open Go Go.RowKit
theorem trimB_len (l : List UInt8) (c : UInt8) : (Go.Lib.trimB l c).length ≤ l.length := by
  unfold Go.Lib.trimB Go.Lib.trimLeftB
  exact Nat.le_trans (dw_len _ _) (trimR_len l c)
/-- Which part is set by a line, if it was not seen. -/
def hitB (nm : List UInt8) (was : List Nat) : Option Nat := match findN nm with
  | some k => if was.contains k = true then none else some k
  | none => none
def stp (nm val : List UInt8) (v : List Int) (was : List Nat) (j : Nat) : Bool × List Int := match hitB nm was with
  | some k => if k < j then ((setF k val).isSome, match setF k val with | some n => v.set k n | none => v) else (false, v)
  | none => (false, v)
theorem stp_zero (nm val : List UInt8) (v : List Int) (was : List Nat) : stp nm val v was 0 = (false, v) := by
  unfold stp
  split
  · rw [if_neg (Nat.not_lt_zero _)]
  · rfl
theorem stp_miss {nm val : List UInt8} {v : List Int} {was : List Nat} {j : Nat} (h : hitB nm was ≠ some j) : stp nm val v was (j + 1) = stp nm val v was j := by
  unfold stp
  split
  · next k hk =>
    have : k ≠ j := fun e => h (by rw [hk, e])
    by_cases hj : k < j
    · rw [if_pos hj, if_pos (by omega)]
    · rw [if_neg hj, if_neg (by omega)]
  · rfl
theorem stp_at {nm val : List UInt8} {v : List Int} {was : List Nat} {j : Nat} (h : hitB nm was = some j) : stp nm val v was j = (false, v) ∧ stp nm val v was (j + 1) = ((setF j val).isSome, match setF j val with | some n => v.set j n | none => v) := by
  unfold stp
  rw [h]
  simp
theorem stp_no {nm val : List UInt8} {v : List Int} {was : List Nat} (h : (stp nm val v was 20).1 = false) : ∀ k n, findN nm = some k → setF k val = some n → was.contains k = true := by
  intro k n hk hn
  cases hc : was.contains k
  · exfalso
    have hh : hitB nm was = some k := by
      unfold hitB
      rw [hk]
      simp only [hc]
      rfl
    unfold stp at h
    rw [hh] at h
    simp only [if_pos (findN_lt hk), hn] at h
    cases h
  · rfl
theorem stp_yes {nm val : List UInt8} {v us : List Int} {was : List Nat} (h : stp nm val v was 20 = (true, us)) : ∃ k n, findN nm = some k ∧ setF k val = some n ∧ was.contains k = false ∧ us = v.set k n := by
  unfold stp at h
  split at h
  · next k hk =>
    unfold hitB at hk
    split at hk
    · next k2 hf =>
      split at hk
      · cases hk
      · next hc =>
        cases hk
        rw [if_pos (findN_lt hf)] at h
        cases hn : setF k val with
        | none => rw [hn] at h; cases h
        | some n => rw [hn] at h; cases h; exact ⟨k, n, hf, hn, by simpa using hc, rfl⟩
    · cases hk
  · cases h
/-- Two objects turn, no other one. -/
def Md2 (x m : Nat) (h g : Hp) : Prop := h.nx ≤ g.nx ∧ ∀ j, j < h.nx → j ≠ x → j ≠ m → g.get j = h.get j
theorem Md2.refl (x m : Nat) (h : Hp) : Md2 x m h h := ⟨Nat.le_refl _, fun _ _ _ _ => rfl⟩
theorem Md2.trans {x m : Nat} {a b c : Hp} (p : Md2 x m a b) (q : Md2 x m b c) : Md2 x m a c := ⟨Nat.le_trans p.1 q.1, fun j hj h1 h2 => (q.2 j (Nat.lt_of_lt_of_le hj p.1) h1 h2).trans (p.2 j hj h1 h2)⟩
theorem Md.two {x m : Nat} {a b : Hp} (p : Md x a b) : Md2 x m a b := ⟨p.1, fun j hj h1 _ => p.2 j hj h1⟩
theorem Md.two' {x m : Nat} {a b : Hp} (p : Md m a b) : Md2 x m a b := ⟨p.1, fun j hj _ h2 => p.2 j hj h2⟩
theorem u8_eq (b c : UInt8) : ((b.toNat : Int) == (c.toNat : Int)) = (b == c) := by
  by_cases h : b = c
  · subst h; simp
  · have h2 : b.toNat ≠ c.toNat := fun q => h (UInt8.toNat_inj.1 q)
    rw [show (b == c) = false by simpa using h]
    simp
    omega
theorem map_set (v : List Int) (k : Nat) (n : Int) : (v.map nI).set k (nI n) = (v.set k n).map nI := by rw [List.map_set]
theorem Md.trans' {i k : Nat} {a b c : Hp} (p : Md i a b) (m : ∀ j, j ≠ k → c.get j = b.get j) (n : c.nx = b.nx) (hk : a.nx ≤ k) : Md i a c := ⟨by rw [n]; exact p.1, fun j hj hi => (m j (by omega)).trans (p.2 j hj hi)⟩
theorem Ext.own' {h a b : Hp} {i : Nat} (x : Ext h a) (m : ∀ k, k ≠ i → b.get k = a.get k) (n : b.nx = a.nx) (hi : h.nx ≤ i) : Ext h b := ⟨by rw [n]; exact x.1, fun k hk => (m k (by omega)).trans (x.2 k hk)⟩
set_option maxRecDepth 10000 in
set_option maxHeartbeats 8000000 in
theorem tparse_ok (c : Cf20) (s : List UInt8) (hs : s.length ≤ 1000000) (h : Hp) : ACall PX 10 [.agg ⟨cs20 c⟩, bs s] h (fun v g => v = .tuple #[.agg ⟨cs20 (parseF setF c s).1⟩, nI (parseF setF c s).2.1, nI (parseF setF c s).2.2] ∧ Ext h g) := by
  obtain ⟨R0, hR0⟩ : ∃ r, parseF setF c s = r := ⟨_, rfl⟩
  rw [hR0]
  unfold parseF at hR0
  obtain ⟨P0, hP0⟩ : ∃ p, parseL setF (linesL s) 0 (vl c) [] = p := ⟨_, rfl⟩
  rw [hP0] at hR0
  have hshort := lines_short s
  have hln := lines_len s
  have hc10 := Go.Lib.countB_le ⟨#[10]⟩ (Nat.le_refl _) _ ⟨s.toArray⟩ (Nat.le_refl _)
  have hsz := sz_mk s
  refine acall Go.Proofs.Tryd.func10 c10 (by simp [ir10]) ?_
  unfold ir10
  dsimp only
  refine ai_seq (ai_regW (sS (w_box rfl fun g1 x1 k1 n1 => sS (w_new fun g2 x2 k2 n2 => ?_))))
  have q1 := (x2.2 _ n1).trans k1
  repeat (first | refine sS ?_ | refine sE ?_ | refine w_mv rfl ?_ | (refine is_okn rfl ?_; refine w_op rfl ?_) | (refine is_ldn ?_; refine w_ldn rfl (by first | exact rd_all ‹_› rfl | exact rd_newn rfl | assumption) ?_) | refine ai_seq ?_ | refine ai_regW ?_)
  have x3 : Ext g2 (g2.new ⟨[], false, 0⟩) := Ext.new _ _
  have k3 : (g2.new ⟨[], false, 0⟩).get g2.nx = some ⟨[], false, 0⟩ := new_get _ _
  have n3 : g2.nx < (g2.new ⟨[], false, 0⟩).nx := by simp [Hp.new]
  generalize g2.new ⟨[], false, 0⟩ = g3 at x3 k3 n3 ⊢
  have q13 := (x3.2 _ (Nat.lt_of_lt_of_le n1 x2.1)).trans q1
  have q23 := (x3.2 _ n2).trans k2
  refine w_new fun g4 x4 k4 n4 => ?_
  repeat (first | refine sSn ?_)
  refine w_stN rfl rfl k4 rfl rfl fun g5 m5 k5 n5 => ?_
  have l1 := Nat.lt_of_lt_of_le n1 x2.1
  have l13 := Nat.lt_of_lt_of_le l1 x3.1
  have l23 := Nat.lt_of_lt_of_le n2 x3.1
  have q15 := (m5 _ (Nat.ne_of_lt l13)).trans ((x4.2 _ l13).trans q13)
  have q25 := (m5 _ (Nat.ne_of_lt l23)).trans ((x4.2 _ l23).trans q23)
  have q35 := (m5 _ (Nat.ne_of_lt n3)).trans ((x4.2 _ n3).trans k3)
  have x05 : Ext h g5 := ((x1.trans x2).trans (x3.trans x4)).own' m5 n5 (by have := x1.1; have := x2.1; have := x3.1; omega)
  repeat (first | refine sS ?_ | refine sE ?_ | refine w_mv rfl ?_ | refine ai_seq ?_ | refine ai_regW ?_)
  refine w_call rfl ((split_br s hs _).mono ?_)
  rintro _ g6 ⟨rfl, x6, k6, n6⟩
  have p1 : h.nx < g5.nx := by rw [n5]; exact Nat.lt_of_lt_of_le l13 x4.1
  have p2 : g1.nx < g5.nx := by rw [n5]; exact Nat.lt_of_lt_of_le l23 x4.1
  have p3 : g2.nx < g5.nx := by rw [n5]; exact Nat.lt_of_lt_of_le n3 x4.1
  have p4 : g3.nx < g5.nx := by rw [n5]; exact n4
  have q16 := (x6.2 _ p1).trans q15
  have q26 := (x6.2 _ p2).trans q25
  have q36 := (x6.2 _ p3).trans q35
  have q46 := (x6.2 _ p4).trans k5
  have x06 := x05.trans x6
  have l6 := x6.1
  have o1 : h.nx < g1.nx := n1
  have o2 : g1.nx < g2.nx := n2
  have o3 : g2.nx < g3.nx := n3
  clear k1 k2 k3 k4 k5 q1 q13 q23 q15 q25 q35 m5 x1 x2 x3 x4 x05 x6
  obtain ⟨L, hL⟩ : ∃ L, linesL s = L := ⟨_, rfl⟩
  rw [hL] at hP0 hshort hln k6 ⊢
  repeat (first | refine sS ?_ | refine sE ?_ | refine w_mv rfl ?_ | (refine is_okn rfl ?_; refine w_op rfl ?_) | refine ai_block ?_)
  refine ai_loopE (γ := Nat × List Int × List Nat) (fun e => [(2, .pointer (some ⟨h.nx, 0, none⟩)), (4, .pointer (some ⟨g1.nx, 0, none⟩)), (7, .pointer (some ⟨g3.nx, 0, none⟩)), (8, .map (some g2.nx)), (20, .slice (some ⟨g5.nx, 0, none⟩) L.length L.length), (21, nI L.length), (22, nI e.1)])
    (fun e g => Md2 g3.nx g2.nx g6 g ∧ g.get g3.nx = some ⟨e.2.1.map nI, true, 0⟩ ∧ g.get g2.nx = some ⟨mpC e.2.2, false, 0⟩ ∧ e.1 ≤ L.length ∧ e.2.1.length = 20 ∧ (∀ j ∈ e.2.2, j < 20) ∧ parseL setF (L.drop e.1) e.1 e.2.1 e.2.2 = P0) (fun e => L.length - e.1) (0, vl c, [])
    (by repeat (first | exact le_nil | refine le_consF rfl ?_)) ⟨Md2.refl _ _ _, q46, q36, Nat.zero_le _, rfl, by simp, hP0⟩ ?_
  clear q46 q36 hP0
  rintro ⟨i, v, was⟩ g ⟨md, kx, km, hi, hv, hw, hp⟩
  dsimp only at kx km hi hv hw hp ⊢
  have hmn := md.1
  have r1 := (md.2 h.nx (by omega) (by omega) (by omega)).trans q16
  have r2 := (md.2 g1.nx (by omega) (by omega) (by omega)).trans q26
  have r6 := (md.2 g5.nx n6 (by omega) (by omega)).trans k6
  by_cases hil : i < L.length
  · obtain ⟨ln, hlni⟩ : ∃ ln, L[i]? = some ln := ⟨_, List.getElem?_eq_getElem hil⟩
    have hdr : L.drop i = ln :: L.drop (i + 1) := by
      obtain ⟨h1, rfl⟩ := List.getElem?_eq_some_iff.1 hlni
      exact List.drop_eq_getElem_cons h1
    rw [hdr] at hp
    simp only [parseL] at hp
    have hlnl := hshort ln (List.mem_of_getElem? hlni)
    have htl := trimB_len ln 32
    have hrd := rd_row r6 (x := i) (v := bsV ln) (by rw [List.getElem?_map, hlni]; rfl)
    repeat (first | refine sS ?_ | refine sE ?_ | refine w_mv rfl ?_ | (refine is_ld ?_; refine w_ld rfl (by first | exact rd_g ‹_› rfl | exact rd_new rfl | assumption) ?_) | (refine w_cmp (c2 := true) rfl ?_ ?_; focus (first | exact decide_eq_true (by omega) | (simp; done) | (simp; omega))) | (refine w_iad rfl ?_ ?_; focus (first | omega | (simp; done) | (simp; omega))) | refine ai_seq ?_ | refine ai_regW ?_ | refine ai_condF (b := true) rfl (fun _ => ?_) (fun hb => by cases hb) | refine ai_skip ?_ | refine ai_block ?_)
    refine w_call rfl ((trim_br ln (by omega) _).mono ?_)
    rintro _ _ ⟨rfl, rfl⟩
    repeat (first | refine sS ?_ | refine sE ?_ | refine w_mv rfl ?_ | refine ai_seq ?_ | refine ai_regW ?_)
    refine w_eqB (a := Go.Lib.trimB ln 32) (b := []) rfl ?_
    generalize Go.Lib.trimB ln 32 = t at hp htl ⊢
    cases t with
    | nil =>
      rw [if_pos (c := blankB [] = true) rfl] at hp
      repeat (first | refine sS ?_ | refine sE ?_ | refine w_mv rfl ?_ | refine w_pickT rfl ?_ | refine w_gF rfl rfl ?_ | (refine w_add rfl ?_ ?_; (focus omega)) | refine ai_regW ?_ | refine ai_condF (b := true) rfl (fun _ => ?_) (fun hb => by cases hb) | refine ai_exit ?_)
      exact ⟨(i + 1, v, was), (by repeat (first | exact le_nil | refine le_consF rfl ?_)), ⟨md, kx, km, by dsimp only; omega, hv, hw, hp⟩, by dsimp only; omega⟩
    | cons b r =>
      repeat (first | refine sS ?_ | refine w_mv rfl ?_ | (refine is_okn rfl ?_; refine w_op rfl ?_) | refine w_gT rfl rfl ?_)
      refine w_cmp (c2 := (b == 35)) rfl (u8_eq b 35) ?_
      by_cases hb : b = 35
      · subst hb
        rw [if_pos (c := blankB (35 :: r) = true) rfl] at hp
        repeat (first | refine sS ?_ | refine sE ?_ | refine w_mv rfl ?_ | refine w_pickF rfl ?_ | (refine w_add rfl ?_ ?_; (focus omega)) | refine ai_regW ?_ | refine ai_condF (b := true) rfl (fun _ => ?_) (fun hb => by cases hb) | refine ai_exit ?_)
        exact ⟨(i + 1, v, was), (by repeat (first | exact le_nil | refine le_consF rfl ?_)), ⟨md, kx, km, by dsimp only; omega, hv, hw, hp⟩, by dsimp only; omega⟩
      · have hb2 : (b == 35) = false := by simpa using hb
        rw [hb2]
        rw [if_neg (by simpa [blankB] using hb)] at hp
        repeat (first | refine sS ?_ | refine sE ?_ | refine w_mv rfl ?_ | refine w_pickF rfl ?_ | refine ai_seq ?_ | refine ai_regW ?_ | refine ai_condF (b := false) rfl (fun hb => by cases hb) (fun _ => ?_) | refine ai_skip ?_)
        have htl2 : (b :: r).length ≤ 1000000 := by omega
        have hcl := cut_len (b :: r) [58, 32]
        unfold lineF at hp
        obtain ⟨⟨nm, val, pt⟩, hc⟩ : ∃ c, Go.Lib.cut (b :: r) [58, 32] = c := ⟨_, rfl⟩
        rw [hc] at hp hcl
        dsimp only at hp hcl
        have cb := fun g => cut_br (b :: r) [58, 32] htl2 g
        simp only [hc] at cb
        repeat (first | refine sS ?_ | refine sE ?_ | refine w_mv rfl ?_ | refine w_ext rfl rfl ?_ | (refine w_call rfl ((cb _).mono ?_); rintro _ _ ⟨rfl, rfl⟩) | refine ai_seq ?_ | refine ai_regW ?_)
        refine w_call rfl ((parts_ok _ g3.nx).mono ?_)
        rintro _ g7 ⟨rfl, x7, k7, n7⟩
        have hvl : val.length ≤ 1000000 := by omega
        have kx7 := (x7.2 _ (by omega)).trans kx
        have hx7 := x7.1
        repeat (first | refine sS ?_ | refine sE ?_ | refine w_mv rfl ?_ | (refine is_okn rfl ?_; refine w_op rfl ?_) | refine ai_block ?_)
        refine ai_loopE (γ := Nat × Bool × List Int) (fun e => [(2, .pointer (some ⟨h.nx, 0, none⟩)), (4, .pointer (some ⟨g1.nx, 0, none⟩)), (7, .pointer (some ⟨g3.nx, 0, none⟩)), (8, .map (some g2.nx)), (9, nI i), (11, bs nm), (12, bs val), (14, .bool e.2.1), (20, .slice (some ⟨g5.nx, 0, none⟩) L.length L.length), (21, nI L.length), (22, nI i), (42, .slice (some ⟨g.nx, 0, none⟩) 20 20), (43, nI 20), (44, nI e.1)])
          (fun e g' => Md g3.nx g7 g' ∧ g'.get g3.nx = some ⟨e.2.2.map nI, true, 0⟩ ∧ e.1 ≤ 20 ∧ e.2.2.length = 20 ∧ (e.2.1, e.2.2) = stp nm val v was e.1) (fun e => 20 - e.1) (0, false, v)
          (by repeat (first | exact le_nil | refine le_consF rfl ?_)) ⟨Md.refl _ _, kx7, Nat.zero_le _, hv, (stp_zero _ _ _ _).symm⟩ ?_
        rintro ⟨j, good, us⟩ g8 ⟨md8, kx8, hj, hul, hst⟩
        dsimp only at kx8 hj hul hst ⊢
        have hx8 := md8.1
        have km8 := (md8.2 g2.nx (by omega) (by omega)).trans ((x7.2 _ (by omega)).trans km)
        have kp8 := (md8.2 g.nx (by omega) (by omega)).trans k7
        by_cases hj20 : j < 20
        · have hrd2 := ptC_rd kp8 hj20
          repeat (first | refine sS ?_ | refine sE ?_ | (refine is_ldn ?_; refine w_ldn rfl (by first | exact rd_all ‹_› rfl | exact rd_newn rfl | assumption) ?_) | (refine w_cmp (c2 := true) rfl ?_ ?_; focus (first | exact decide_eq_true (by omega) | (simp; done) | (simp; omega))) | (refine w_iad rfl ?_ ?_; focus (first | omega | (simp; done) | (simp; omega))) | refine ai_seq ?_ | refine ai_regW ?_ | refine ai_condF (b := true) rfl (fun _ => ?_) (fun hb => by cases hb) | refine ai_skip ?_ | refine ai_block ?_)
          refine w_new fun g9 x9 k9 n9 => ?_
          repeat (first | refine sSn ?_)
          refine w_stN rfl rfl k9 rfl rfl fun ga ma ka na => ?_
          have kxa := (ma _ (by have := x9.1; omega)).trans ((x9.2 _ (by omega)).trans kx8)
          have kma := (ma _ (by have := x9.1; omega)).trans ((x9.2 _ (by omega)).trans km8)
          have mda : Md g3.nx g7 ga := (md8.trans x9.md).trans' ma na (by omega)
          repeat (first | refine sS ?_ | refine sE ?_ | refine w_mv rfl ?_ | (refine is_okn rfl ?_; refine w_op rfl ?_) | (refine is_ld ?_; refine w_ld rfl (by first | exact rd_g ‹_› rfl | exact rd_new rfl | assumption) ?_) | refine ai_seq ?_ | refine ai_regW ?_)
          refine w_eqB (a := nmB.getD j []) (b := nm) rfl ?_
          have hjn : nmB[j]? = some (nmB.getD j []) := by
            rw [List.getD_eq_getElem?_getD, List.getElem?_eq_getElem (show j < nmB.length from hj20)]
            rfl
          have hnga : g8.nx ≤ ga.nx := by rw [na]; exact x9.1
          by_cases hnm : nmB.getD j [] = nm
          · have hnb : (nmB.getD j [] == nm) = true := by simpa using hnm
            have hjm := hjn
            rw [hnm] at hjm
            have hfn := findN_at hjm
            rw [hnb]
            repeat (first | refine sS ?_ | refine w_mv rfl ?_ | refine w_gT rfl rfl ?_)
            refine w_mlk rfl kma ?_
            rw [seen_mem hfn hw]
            cases hwas : was.contains j
            · have hit : hitB nm was = some j := by
                unfold hitB
                rw [hfn]
                simp only [hwas]
                rfl
              obtain ⟨st1, st2⟩ := stp_at (val := val) (v := v) hit
              rw [st1] at hst
              cases hst
              repeat (first | refine sS ?_ | refine sE ?_ | refine w_mv rfl ?_ | refine w_pickT rfl ?_ | (refine is_okn rfl ?_; refine w_op rfl ?_) | refine w_gT rfl rfl ?_ | (refine is_ldn ?_; refine w_ldn rfl (by first | exact rd_all ‹_› rfl | exact rd_newn rfl | assumption) ?_) | refine ai_regW ?_ | refine ai_condF (b := true) rfl (fun _ => ?_) (fun hb => by cases hb))
              refine w_call rfl ((set_ok _ (nmB.getD j []) val hvl (i := g3.nx) (k := j) kxa (by omega) (by rw [List.length_map]; omega)).mono ?_)
              rintro _ gb ⟨rfl, mdb, kxb⟩
              repeat (first | refine sS ?_ | refine sE ?_ | refine w_mv rfl ?_ | (refine w_add rfl ?_ ?_; (focus omega)) | refine ai_regW ?_)
              refine ⟨(j + 1, (setF j val).isSome, (match setF j val with | some n => v.set j n | none => v)), (by repeat (first | exact le_nil | refine le_consF rfl ?_)), ⟨mda.trans mdb, ?_, by dsimp only; omega, ?_, st2.symm⟩, by dsimp only; omega⟩
              · rw [kxb]
                cases setF j val with
                | none => rfl
                | some n =>
                  show some (Ob.mk ((v.map nI).set j (nI n)) true 0) = _
                  rw [map_set]
              · cases setF j val with
                | none => exact hv
                | some n => show (v.set j n).length = 20; rw [List.length_set]; exact hv
            · have hit : hitB nm was ≠ some j := by
                unfold hitB
                rw [hfn]
                simp only [hwas]
                simp
              repeat (first | refine sS ?_ | refine sE ?_ | refine w_mv rfl ?_ | refine w_pickT rfl ?_ | (refine is_okn rfl ?_; refine w_op rfl ?_) | refine w_gT rfl rfl ?_ | (refine w_add rfl ?_ ?_; (focus omega)) | refine ai_regW ?_ | refine ai_condF (b := false) rfl (fun hb => by cases hb) (fun _ => ?_) | refine ai_skip ?_)
              exact ⟨(j + 1, good, us), (by repeat (first | exact le_nil | refine le_consF rfl ?_)), ⟨mda, kxa, by dsimp only; omega, hul, by rw [stp_miss hit]; exact hst⟩, by dsimp only; omega⟩
          · have hnb : (nmB.getD j [] == nm) = false := by simpa using hnm
            have hit : hitB nm was ≠ some j := by
              intro e
              unfold hitB at e
              split at e
              · next k hk =>
                split at e
                · cases e
                · cases e
                  have := findN_some hk
                  rw [hjn] at this
                  exact hnm (Option.some.inj this)
              · cases e
            rw [hnb]
            repeat (first | refine sS ?_ | refine sE ?_ | refine w_mv rfl ?_ | refine w_pickF rfl ?_ | refine w_gF rfl rfl ?_ | (refine w_add rfl ?_ ?_; (focus omega)) | refine ai_regW ?_ | refine ai_condF (b := false) rfl (fun hb => by cases hb) (fun _ => ?_) | refine ai_skip ?_)
            exact ⟨(j + 1, good, us), (by repeat (first | exact le_nil | refine le_consF rfl ?_)), ⟨mda, kxa, by dsimp only; omega, hul, by rw [stp_miss hit]; exact hst⟩, by dsimp only; omega⟩
        · obtain rfl : j = 20 := by omega
          repeat (first | refine sS ?_ | refine sSn ?_ | refine sE ?_ | refine w_mv rfl ?_ | (refine w_cmp (c2 := false) rfl ?_ ?_; focus (first | exact decide_eq_false (by omega) | (simp; done) | (simp; omega))) | refine ai_seq ?_ | refine ai_regW ?_ | refine ai_condF (b := false) rfl (fun hb => by cases hb) (fun _ => ?_) | refine ai_exit ?_)
          obtain ⟨cm, hcm⟩ := mput_any nm (.bool true) was
          refine w_mup rfl km8 rfl hcm fun ga ma ka na => ?_
          have kxa := (ma _ (by omega)).trans kx8
          have mga : Md2 g3.nx g2.nx g8 ga := ⟨Nat.le_of_eq na.symm, fun j _ _ hm => ma j hm⟩
          have md6 : Md2 g3.nx g2.nx g6 ga := ((md.trans x7.md.two).trans md8.two).trans mga
          have hnga := md6.1
          cases good
          · have hpe := stp_no (nm := nm) (val := val) (v := v) (was := was) (by rw [← hst])
            have hpe2 : P0 = .error (i + 1) := by
              rw [← hp]
              cases hk : findN nm with
              | none => rfl
              | some k =>
                cases hn : setF k val with
                | none => simp [hn]
                | some n =>
                  have h1 := hpe k n hk hn
                  simp only [Option.bind_some, hn, Option.map_some, h1, if_true]
            have ra := (md6.2 h.nx (by omega) (by omega) (by omega)).trans q16
            have rb := (md6.2 g1.nx (by omega) (by omega) (by omega)).trans q26
            repeat (first | refine sS ?_ | refine sSn ?_ | refine sE ?_ | refine w_mv rfl ?_ | (refine is_okn rfl ?_; refine w_op rfl ?_) | (refine is_ldn ?_; refine w_ldn rfl (by first | exact rd_all ‹_› rfl | exact rd_newn rfl | assumption) ?_) | (refine w_add rfl ?_ ?_; (focus omega)) | refine ai_seq ?_ | refine ai_regW ?_ | refine ai_condF (b := true) rfl (fun _ => ?_) (fun hb => by cases hb))
            refine w_stN rfl rfl rb rfl rfl fun gb mb kb nb => ?_
            repeat (first | refine sS ?_ | refine sE ?_ | refine w_mv rfl ?_ | (refine ai_ret ?_; repeat (first | rw [thenQ_r] | rw [blockQ_r] | rw [roundE_r])))
            refine end_cell3 rfl rfl rfl kb Go.Proofs.Tryd.underlying24 rfl (by kernel_rfl) rfl ⟨?_, ?_⟩
            · rw [hpe2] at hR0
              rw [← hR0]
              rfl
            · exact ⟨by rw [nb]; have := x06.1; omega, fun q hq => (mb q (by omega)).trans ((md6.2 q (by omega) (by omega) (by omega)).trans (x06.2 q hq))⟩
          · obtain ⟨k, n, e1, e2, e3, rfl⟩ := stp_yes hst.symm
            rw [e1] at hp
            simp only [Option.bind_some, e2, Option.map_some, e3, Bool.false_eq_true, if_false] at hp
            have hsn : seenB nm was = false := by rw [seen_mem e1 hw]; exact e3
            have hcm2 := mput_new nm (.bool true) was hsn
            rw [hcm] at hcm2
            cases hcm2
            have hnk : nmB.getD k [] = nm := by rw [List.getD_eq_getElem?_getD, findN_some e1]; rfl
            have hmp : mpC was ++ [bsV nm, .bool true] = mpC (was ++ [k]) := by
              unfold mpC
              rw [List.flatMap_append]
              show _ = _ ++ [bsV (nmB.getD k []), .bool true]
              rw [hnk]
            rw [hmp] at ka
            repeat (first | refine sS ?_ | refine sE ?_ | refine w_mv rfl ?_ | (refine is_okn rfl ?_; refine w_op rfl ?_) | (refine w_add rfl ?_ ?_; (focus omega)) | refine ai_seq ?_ | refine ai_regW ?_ | refine ai_condF (b := false) rfl (fun hb => by cases hb) (fun _ => ?_) | refine ai_skip ?_)
            refine ⟨(i + 1, v.set k n, was ++ [k]), (by repeat (first | exact le_nil | refine le_consF rfl ?_)), ⟨md6, kxa, ka, by dsimp only; omega, by dsimp only; rw [List.length_set]; exact hv, ?_, hp⟩, by dsimp only; omega⟩
            intro q hq
            rcases List.mem_append.1 hq with hq | hq
            · exact hw q hq
            · rw [List.mem_singleton.1 hq]; exact findN_lt e1
  · obtain rfl : i = L.length := by omega
    rw [List.drop_length] at hp
    obtain ⟨d, rfl⟩ := vl_of hv
    have hp2 : P0 = .ok (vl d) := hp.symm
    rw [hp2] at hR0
    replace hR0 : (if mayB d = true then (d, (0 : Int), (0 : Int)) else (c, 5, 0)) = R0 := hR0
    repeat (first | refine sS ?_ | refine sE ?_ | (refine is_ldn ?_; refine w_ldn rfl (by first | exact rd_all ‹_› rfl | exact rd_newn rfl | assumption) ?_) | (refine w_cmp (c2 := false) rfl ?_ ?_; focus (first | exact decide_eq_false (by omega) | (simp; done) | (simp; omega))) | refine ai_seq ?_ | refine ai_regW ?_ | refine ai_condF (b := false) rfl (fun hb => by cases hb) (fun _ => ?_) | refine ai_exit ?_)
    refine w_call rfl ((may_ok _ d).mono ?_)
    rintro _ g7 ⟨rfl, x7⟩
    have hn7 := x7.1
    have ra := (x7.2 h.nx (by omega)).trans r1
    have rb := (x7.2 g1.nx (by omega)).trans r2
    have rx := (x7.2 g3.nx (by omega)).trans kx
    have xf : ∀ gb, (∀ k, k ≠ g1.nx → gb.get k = g7.get k) → gb.nx = g7.nx → Ext h gb := fun gb mb nb => ⟨by rw [nb]; have := x06.1; omega, fun q hq => (mb q (by omega)).trans ((x7.2 q (by omega)).trans ((md.2 q (by omega) (by omega) (by omega)).trans (x06.2 q hq)))⟩
    obtain ⟨mb, hm⟩ : ∃ b, mayB d = b := ⟨_, rfl⟩
    rw [hm] at hR0 ⊢
    cases mb
    · rw [← hR0]
      repeat (first | refine sS ?_ | refine sSn ?_ | refine sE ?_ | (refine is_okn rfl ?_; refine w_op rfl ?_) | (refine is_ldn ?_; refine w_ldn rfl (by first | exact rd_all ‹_› rfl | exact rd_newn rfl | assumption) ?_) | refine ai_seq ?_ | refine ai_regW ?_ | refine ai_condF (b := true) rfl (fun _ => ?_) (fun hb => by cases hb))
      refine w_stN rfl rfl rb rfl rfl fun gb mb kb nb => ?_
      repeat (first | refine sS ?_ | refine sE ?_ | refine w_mv rfl ?_ | (refine ai_ret ?_; repeat (first | rw [thenQ_r] | rw [blockQ_r] | rw [roundE_r])))
      exact end_cell3 rfl rfl rfl kb Go.Proofs.Tryd.underlying24 rfl (by kernel_rfl) rfl ⟨rfl, xf gb mb nb⟩
    · rw [← hR0]
      repeat (first | refine sS ?_ | refine sSn ?_ | refine sE ?_ | (refine is_okn rfl ?_; refine w_op rfl ?_) | (refine is_ldn ?_; refine w_ldn rfl (by first | exact rd_all ‹_› rfl | exact rd_newn rfl | assumption) ?_) | refine ai_seq ?_ | refine ai_regW ?_ | refine ai_condF (b := false) rfl (fun hb => by cases hb) (fun _ => ?_) | refine ai_skip ?_)
      refine w_stN rfl rfl rb rfl rfl fun gb mb kb nb => ?_
      repeat (first | refine sS ?_ | refine sE ?_ | refine w_mv rfl ?_ | (refine ai_ret ?_; repeat (first | rw [thenQ_r] | rw [blockQ_r] | rw [roundE_r])))
      exact end_cell3 rfl rfl rfl kb Go.Proofs.Tryd.underlying24 rfl (by kernel_rfl) rfl ⟨rfl, xf gb mb nb⟩
end Go.Proofs.YtapbmmlgmcmpnaaDoorW.Am
/- Texts: the document's own lines. -/
namespace Go.Proofs.YtapbmmlgmcmpnaaDoorW.Am
open Go Go.RowKit
theorem index_app : ∀ (nm r : List UInt8), (∀ b ∈ nm, b ≠ 58) → Go.Lib.index (nm ++ 58 :: 32 :: r) [58, 32] = (nm.length : Int)
  | [], r, _ => by rw [List.nil_append, Go.Lib.index]; simp [List.isPrefixOf]
  | a :: nm, r, h => by
    have ih := index_app nm r (fun b hb => h b (by simp [hb]))
    have ha := h a (by simp)
    have hp : ([58, 32] : List UInt8).isPrefixOf (a :: (nm ++ 58 :: 32 :: r)) = false := by simp [List.isPrefixOf, Ne.symm ha]
    rw [List.cons_append, Go.Lib.index, hp, ih]
    have : ¬ ((nm.length : Int) == -1) = true := fun e => by have := beq_iff_eq.1 e; omega
    simp only [Bool.false_eq_true, if_false]
    rw [if_neg this]
    simp
theorem cut_app {nm r : List UInt8} (h : ∀ b ∈ nm, b ≠ 58) : Go.Lib.cut (nm ++ 58 :: 32 :: r) [58, 32] = (nm, r, true) := by
  unfold Go.Lib.cut
  rw [index_app nm r h, if_pos (by omega), Int.toNat_natCast]
  simp
theorem index_pre : ∀ (l : List UInt8) (i : Nat), Go.Lib.index l [58, 32] = (i : Int) → l = l.take i ++ 58 :: 32 :: l.drop (i + 2)
  | [], i, h => by
    rw [Go.Lib.index] at h
    simp at h
  | a :: l, i, h => by
    rw [Go.Lib.index] at h
    cases hp : ([58, 32] : List UInt8).isPrefixOf (a :: l)
    · rw [hp] at h
      simp only [Bool.false_eq_true, if_false] at h
      by_cases hm : (Go.Lib.index l [58, 32] == -1) = true
      · rw [if_pos hm] at h; omega
      · rw [if_neg hm] at h
        cases i with
        | zero => have := Go.Lib.index_ge l [58, 32]; have : ¬ Go.Lib.index l [58, 32] = -1 := fun e => hm (beq_iff_eq.2 e); omega
        | succ i =>
          have ih := index_pre l i (by omega)
          simp only [List.take_succ_cons, List.cons_append]
          have e2 : (a :: l).drop (i + 1 + 2) = l.drop (i + 2) := rfl
          rw [e2, ← ih]
    · rw [hp] at h
      simp at h
      have : i = 0 := by omega
      subst this
      cases l with
      | nil => simp [List.isPrefixOf] at hp
      | cons b l =>
        simp [List.isPrefixOf] at hp
        obtain ⟨h1, h2⟩ := hp
        subst h1 h2
        rfl
theorem nm_58 : ∀ nm ∈ nmB, ∀ b ∈ nm, b ≠ 58 := by decide
theorem setF_nil (k : Nat) : setF k [] = none := by
  unfold setF
  split
  · rfl
  · rfl
/-- The part whose name a line begins with. -/
def hitR (l : List UInt8) : Option Nat := if (Go.Lib.cut l [58, 32]).2.2 = true then findN (Go.Lib.cut l [58, 32]).1 else none
theorem hitR_pre {l : List UInt8} {k : Nat} {nm : List UInt8} (hk : nmB[k]? = some nm) : hitR l = some k ↔ l.take (nm.length + 2) = nm ++ [58, 32] := by
  have h58 := nm_58 nm (List.mem_of_getElem? hk)
  constructor
  · intro h
    unfold hitR at h
    split at h
    · next hf =>
      have hn := findN_some h
      rw [hk] at hn
      have hnm := Option.some.inj hn
      unfold Go.Lib.cut at hf hnm
      split at hf
      · next h0 =>
        rw [if_pos h0] at hnm
        obtain ⟨i, hi⟩ : ∃ i : Nat, Go.Lib.index l [58, 32] = i := ⟨(Go.Lib.index l [58, 32]).toNat, by omega⟩
        rw [hi, Int.toNat_natCast] at hnm
        have hl := index_pre l i hi
        have hle : i ≤ l.length := by
          have := congrArg List.length hl
          simp at this
          omega
        have hnl : nm.length = i := by rw [hnm]; simp [hle]
        dsimp only at hnm
        rw [← hnm] at hl
        rw [hl, hnl]
        have : i + 2 = (nm ++ [58, 32]).length := by simp [hnl]
        rw [show nm ++ 58 :: 32 :: List.drop (i + 2) l = (nm ++ [58, 32]) ++ List.drop (i + 2) l by simp, this, List.take_left']
        rfl
      · cases hf
    · cases h
  · intro h
    have hl : l = nm ++ 58 :: 32 :: l.drop (nm.length + 2) := by
      have := List.take_append_drop (nm.length + 2) l
      rw [h] at this
      rw [← this]
      simp
    unfold hitR
    rw [hl, cut_app h58]
    exact findN_at hk
theorem lineF_hit {S : Nat → List UInt8 → Option Int} (h0 : ∀ k, S k [] = none) {l : List UInt8} : lineF S l = (hitR l).bind fun k => (S k (Go.Lib.cut l [58, 32]).2.1).map fun n => (k, n) := by
  unfold lineF hitR
  split
  · rfl
  · next hf =>
    have : (Go.Lib.cut l [58, 32]).2.1 = [] := by
      unfold Go.Lib.cut at hf ⊢
      split
      · next h0 => rw [if_pos h0] at hf; exact absurd rfl hf
      · rfl
    rw [this]
    cases findN (Go.Lib.cut l [58, 32]).1 with
    | none => rfl
    | some k => simp [h0]
theorem hitR_rest {l : List UInt8} {k : Nat} {nm : List UInt8} (hk : nmB[k]? = some nm) (h : hitR l = some k) : (Go.Lib.cut l [58, 32]).2.1 = l.drop (nm.length + 2) := by
  have h58 := nm_58 nm (List.mem_of_getElem? hk)
  have ht := (hitR_pre hk).1 h
  have hl : l = nm ++ 58 :: 32 :: l.drop (nm.length + 2) := by
    have := List.take_append_drop (nm.length + 2) l
    rw [ht] at this
    rw [← this]
    simp
  rw [hl, cut_app h58]
  dsimp only
  rw [← hl]
theorem nm_len : ∀ nm ∈ nmB, nm.length ≤ 20 := by decide
def rlineF (l : List UInt8) : Int × Int := match lineF setF l with
  | some (k, n) => ((k : Int), n)
  | none => (-1, 0)
set_option maxHeartbeats 4000000 in
theorem rline_ok (l : List UInt8) (hl : l.length ≤ 1000000) (h : Hp) : ACall PX 32 [bs l] h (fun v g => v = .tuple #[nI (rlineF l).1, nI (rlineF l).2] ∧ Ext h g) := by
  have hz := sz_mk l
  refine acall Go.Proofs.Tryd.func32 c32 (by simp [ir32]) ?_
  unfold ir32
  dsimp only
  repeat (first | refine sS ?_ | refine sE ?_ | refine w_mv rfl ?_ | refine ai_seq ?_ | refine ai_regW ?_ | refine ai_block ?_)
  refine ai_loopE (γ := Nat) (fun k => [(0, bs l), (4, nI k)]) (fun k g => Ext h g ∧ k ≤ 20 ∧ ∀ j, j < k → hitR l = some j → setF j (Go.Lib.cut l [58, 32]).2.1 = none) (fun k => 20 - k) 0
    (by repeat (first | exact le_nil | refine le_consF rfl ?_)) ⟨Ext.refl _, Nat.zero_le _, fun j hj => absurd hj (Nat.not_lt_zero _)⟩ ?_
  rintro k g ⟨x, hk, hno⟩
  repeat (first | refine sS ?_ | refine w_mv rfl ?_ | refine ai_seq ?_ | refine ai_regW ?_)
  refine w_call rfl ((names_ok _).mono ?_)
  rintro _ g1 ⟨rfl, x1, k1, n1⟩
  by_cases hk20 : k < 20
  · obtain ⟨nm, hnm⟩ : ∃ nm, nmB[k]? = some nm := ⟨_, List.getElem?_eq_getElem (show k < nmB.length from hk20)⟩
    have hnl := nm_len nm (List.mem_of_getElem? hnm)
    repeat (first | refine sS ?_ | refine sE ?_ | (refine is_okn rfl ?_; refine w_op rfl ?_) | (refine w_cmp (c2 := true) rfl ?_ ?_; focus (first | exact decide_eq_true (by omega) | (simp; done) | (simp; omega))) | refine ai_seq ?_ | refine ai_regW ?_ | refine ai_condF (b := true) rfl (fun _ => ?_) (fun hb => by cases hb) | refine ai_skip ?_ | refine ai_block ?_)
    refine w_call rfl ((names_ok _).mono ?_)
    rintro _ g2 ⟨rfl, x2, k2, n2⟩
    have hrd := rd_row k2 (x := k) (v := bsV nm) (by rw [List.getElem?_map, hnm]; rfl)
    repeat (first | refine sS ?_ | refine w_mv rfl ?_ | (refine is_ld ?_; refine w_ld rfl (by first | exact rd_g ‹_› rfl | exact rd_new rfl | assumption) ?_) | (refine w_iad rfl ?_ ?_; focus (first | omega | (simp; done) | (simp; omega))))
    refine w_catB (a := nm) (b := [58, 32]) rfl (by simp; omega) ?_
    have hz2 := sz_mk (nm ++ [58, 32])
    rw [List.length_append] at hz2
    have hz3 : ((ByteArray.mk (nm ++ [58, 32]).toArray).size : Int) = ((nm.length + 2 : Nat) : Int) := by rw [hz2]; rfl
    have hx := (x.trans x1).trans x2
    by_cases hlt : l.length < nm.length + 2
    · have hne : hitR l ≠ some k := fun e => by
        have := congrArg List.length ((hitR_pre hnm).1 e)
        simp at this
        omega
      repeat (first | refine sS ?_ | refine sE ?_ | refine w_mv rfl ?_ | refine w_pickT rfl ?_ | (refine is_okn rfl ?_; refine w_op rfl ?_) | refine w_gF rfl rfl ?_ | (refine w_add rfl ?_ ?_; (focus omega)) | (refine w_cmp (c2 := true) rfl ?_ ?_; focus (first | exact decide_eq_true (by omega) | (simp; done) | (simp; omega))) | refine ai_seq ?_ | refine ai_regW ?_ | refine ai_condF (b := true) rfl (fun _ => ?_) (fun hb => by cases hb) | refine ai_exit ?_)
      exact ⟨k + 1, (by repeat (first | exact le_nil | refine le_consF rfl ?_)), ⟨hx, by omega, fun j hj hh => by
        by_cases hjk : j < k
        · exact hno j hjk hh
        · obtain rfl : j = k := by omega
          exact absurd hh hne⟩, by dsimp only; omega⟩
    · repeat (first | refine sS ?_ | refine sE ?_ | refine w_mv rfl ?_ | (refine is_okn rfl ?_; refine w_op rfl ?_) | refine w_gT rfl rfl ?_ | (refine w_cmp (c2 := false) rfl ?_ ?_; focus (first | exact decide_eq_false (by omega) | (simp; done) | (simp; omega))) | refine ai_seq ?_ | refine ai_regW ?_)
      rw [hz3]
      refine w_slsP rfl (by omega) ?_
      repeat (first | refine sS ?_ | refine w_mv rfl ?_ | refine w_gT rfl rfl ?_)
      refine w_neB (a := l.take (nm.length + 2)) (b := nm ++ [58, 32]) rfl ?_
      by_cases heq : l.take (nm.length + 2) = nm ++ [58, 32]
      · have hit := (hitR_pre hnm).2 heq
        have hrest := hitR_rest hnm hit
        rw [show (!(l.take (nm.length + 2) == nm ++ [58, 32])) = false by simpa using heq]
        have hdl : (l.drop (nm.length + 2)).length ≤ 1000000 := by rw [List.length_drop]; omega
        have hval : ∀ q, setF k (l.drop (nm.length + 2)) = q → rlineF l = match q with | some n => ((k : Int), n) | none => (-1, 0) := by
          rintro q rfl
          unfold rlineF
          rw [lineF_hit setF_nil, hit]
          simp only [Option.bind_some, hrest]
          cases setF k (l.drop (nm.length + 2)) <;> rfl
        repeat (first | refine sS ?_ | refine sE ?_ | refine w_mv rfl ?_ | refine w_pickF rfl ?_ | (refine w_call rfl ((thin_ok _ k).mono ?_); rintro _ _ ⟨rfl, rfl⟩) | refine ai_seq ?_ | refine ai_regW ?_ | refine ai_condF (b := false) rfl (fun hb => by cases hb) (fun _ => ?_) | refine ai_skip ?_)
        unfold setF at hval
        cases ht : thinK k
        · rw [ht] at hval
          repeat (first | refine sS ?_ | refine w_mv rfl ?_ | (refine is_okn rfl ?_; refine w_op rfl ?_) | refine ai_seq ?_ | refine ai_regW ?_ | refine ai_condF (b := false) rfl (fun hb => by cases hb) (fun _ => ?_) | refine ai_skip ?_)
          rw [hz3]
          refine w_slsS rfl (by omega) ?_
          generalize hrr : l.drop (nm.length + 2) = rr at hval hdl hrest ⊢
          repeat (first | refine sS ?_ | refine sE ?_ | refine w_mv rfl ?_ | (refine w_call rfl ((rdigits_ok rr 6 (by decide) hdl _).mono ?_); rintro _ _ ⟨rfl, rfl⟩) | refine ai_seq ?_ | refine ai_regW ?_)
          cases hd : digF rr 6 with
          | none =>
            repeat (first | refine sS ?_ | refine sE ?_ | refine w_mv rfl ?_ | (refine w_add rfl ?_ ?_; (focus omega)) | (refine w_cmp (c2 := false) rfl ?_ ?_; focus (first | exact decide_eq_false (by omega) | (simp; done) | (simp; omega))) | refine ai_regW ?_ | refine ai_condF (b := false) rfl (fun hb => by cases hb) (fun _ => ?_) | refine ai_skip ?_)
            exact ⟨k + 1, (by repeat (first | exact le_nil | refine le_consF rfl ?_)), ⟨hx, by omega, fun j hj hh => by
              by_cases hjk : j < k
              · exact hno j hjk hh
              · obtain rfl : j = k := by omega
                rw [hrest]
                unfold setF
                rw [ht, hd]
                rfl⟩, by dsimp only; omega⟩
          | some n =>
            have hv := hval (some (n : Int)) (by rw [hd]; rfl)
            dsimp only at hv
            repeat (first | refine sS ?_ | refine sE ?_ | refine w_mv rfl ?_ | (refine w_cmp (c2 := true) rfl ?_ ?_; focus (first | exact decide_eq_true (by omega) | (simp; done) | (simp; omega))) | refine ai_seq ?_ | refine ai_regW ?_ | refine ai_condF (b := true) rfl (fun _ => ?_) (fun hb => by cases hb) | (refine ai_ret ?_; repeat (first | rw [thenQ_r] | rw [blockQ_r] | rw [roundE_r])))
            exact ⟨_, rfl, by rw [hv]; rfl, hx⟩
        · rw [ht] at hval
          repeat (first | refine sS ?_ | refine w_mv rfl ?_ | (refine is_okn rfl ?_; refine w_op rfl ?_) | refine ai_seq ?_ | refine ai_regW ?_ | refine ai_condF (b := true) rfl (fun _ => ?_) (fun hb => by cases hb))
          rw [hz3]
          refine w_slsS rfl (by omega) ?_
          generalize hrr : l.drop (nm.length + 2) = rr at hval hdl hrest ⊢
          repeat (first | refine sS ?_ | refine sE ?_ | refine w_mv rfl ?_ | refine w_ext rfl rfl ?_ | (refine w_call rfl ((rnumber_ok rr hdl _).mono ?_); rintro _ _ ⟨rfl, rfl⟩) | refine ai_seq ?_ | refine ai_regW ?_)
          cases hd : numF rr with
          | none =>
            have hv := hval none (by rw [hd]; rfl)
            dsimp only at hv
            repeat (first | refine sS ?_ | refine sE ?_ | refine w_mv rfl ?_ | refine ai_seq ?_ | refine ai_regW ?_ | refine ai_condF (b := false) rfl (fun hb => by cases hb) (fun _ => ?_) | refine ai_skip ?_ | (refine ai_ret ?_; repeat (first | rw [thenQ_r] | rw [blockQ_r] | rw [roundE_r])))
            exact ⟨_, rfl, by rw [hv]; rfl, hx⟩
          | some n =>
            have hv := hval (some n) (by rw [hd]; rfl)
            dsimp only at hv
            repeat (first | refine sS ?_ | refine sE ?_ | refine w_mv rfl ?_ | refine ai_seq ?_ | refine ai_regW ?_ | refine ai_condF (b := true) rfl (fun _ => ?_) (fun hb => by cases hb) | (refine ai_ret ?_; repeat (first | rw [thenQ_r] | rw [blockQ_r] | rw [roundE_r])))
            exact ⟨_, rfl, by rw [hv]; rfl, hx⟩
      · have hne : hitR l ≠ some k := fun e => heq ((hitR_pre hnm).1 e)
        rw [show (!(l.take (nm.length + 2) == nm ++ [58, 32])) = true by simpa using heq]
        repeat (first | refine sS ?_ | refine sE ?_ | refine w_mv rfl ?_ | refine w_pickF rfl ?_ | (refine w_add rfl ?_ ?_; (focus omega)) | refine ai_regW ?_ | refine ai_condF (b := true) rfl (fun _ => ?_) (fun hb => by cases hb) | refine ai_exit ?_)
        exact ⟨k + 1, (by repeat (first | exact le_nil | refine le_consF rfl ?_)), ⟨hx, by omega, fun j hj hh => by
          by_cases hjk : j < k
          · exact hno j hjk hh
          · obtain rfl : j = k := by omega
            exact absurd hh hne⟩, by dsimp only; omega⟩
  · obtain rfl : k = 20 := by omega
    have hv : rlineF l = (-1, 0) := by
      unfold rlineF
      rw [lineF_hit setF_nil]
      cases hh : hitR l with
      | none => rfl
      | some j =>
        have hj : j < 20 := by
          unfold hitR at hh
          split at hh
          · exact findN_lt hh
          · cases hh
        simp only [Option.bind_some, hno j hj hh, Option.map_none]
    repeat (first | refine sS ?_ | refine sE ?_ | refine w_mv rfl ?_ | (refine is_okn rfl ?_; refine w_op rfl ?_) | (refine w_cmp (c2 := false) rfl ?_ ?_; focus (first | exact decide_eq_false (by omega) | (simp; done) | (simp; omega))) | refine ai_seq ?_ | refine ai_regW ?_ | refine ai_condF (b := false) rfl (fun hb => by cases hb) (fun _ => ?_) | refine ai_exit ?_ | (refine ai_ret ?_; repeat (first | rw [thenQ_r] | rw [blockQ_r] | rw [roundE_r])))
    exact ⟨_, rfl, by rw [hv]; rfl, x.trans x1⟩
end Go.Proofs.YtapbmmlgmcmpnaaDoorW.Am
/- Texts: the document's own Parse. -/
namespace Go.Proofs.YtapbmmlgmcmpnaaDoorW.Am
open Go Go.RowKit
theorem lines_no : ∀ (l : List UInt8), (∀ q : Nat, l[q]? ≠ some 10) → linesL l = [l]
  | [], _ => rfl
  | b :: l, h => by
    have hb : b ≠ 10 := fun e => h 0 (by simp [e])
    have ih := lines_no l (fun q => by have := h (q + 1); simpa using this)
    simp [linesL, hb, ih, consH]
theorem lines_at : ∀ (l : List UInt8) (p : Nat), l[p]? = some 10 → (∀ q, q < p → l[q]? ≠ some 10) → linesL l = l.take p :: linesL (l.drop (p + 1))
  | [], p, h, _ => by simp at h
  | b :: l, 0, h, _ => by
    have hb : b = 10 := by simpa using h
    simp [linesL, hb]
  | b :: l, p + 1, h, hn => by
    have hb : b ≠ 10 := fun e => hn 0 (by omega) (by simp [e])
    have ih := lines_at l p (by simpa using h) (fun q hq => by have := hn (q + 1) (by omega); simpa using this)
    simp [linesL, hb, ih, consH]
theorem trimR_rep (l : List UInt8) (c : UInt8) : ∀ n, Go.Lib.trimRightB (l ++ List.replicate n c) c = Go.Lib.trimRightB l c
  | 0 => by simp
  | n + 1 => by rw [List.replicate_succ', ← List.append_assoc, trimR_zero, trimR_rep l c n]
theorem dw_rep (c : UInt8) (l : List UInt8) : ∀ n, (List.replicate n c ++ l).dropWhile (· == c) = l.dropWhile (· == c)
  | 0 => by simp
  | n + 1 => by rw [List.replicate_succ, List.cons_append, List.dropWhile_cons]; simp [dw_rep c l n]
theorem all_rep {s : List UInt8} {c : UInt8} {a b : Nat} (hab : a ≤ b) (_ : b ≤ s.length) (h : ∀ q, a ≤ q → q < b → s[q]? = some c) : (s.take b).drop a = List.replicate (b - a) c := by
  refine List.ext_getElem? fun i => ?_
  rw [List.getElem?_drop, List.getElem?_take, List.getElem?_replicate]
  by_cases hi : a + i < b
  · rw [if_pos hi, if_pos (by omega), h _ (by omega) hi]
  · rw [if_neg hi, if_neg (by omega)]
theorem cut3 (s : List UInt8) {f a b i : Nat} (h1 : f ≤ a) (h2 : a ≤ b) (h3 : b ≤ i) (h4 : i ≤ s.length) : (s.take i).drop f = (s.take a).drop f ++ ((s.take b).drop a ++ (s.take i).drop b) := by
  refine List.ext_getElem? fun j => ?_
  have l1 : ((s.take a).drop f).length = a - f := by simp; omega
  have l2 : ((s.take b).drop a).length = b - a := by simp; omega
  rw [List.getElem?_append, List.getElem?_append]
  simp only [l1, l2, List.getElem?_drop, List.getElem?_take]
  by_cases c1 : j < a - f
  · rw [if_pos c1, if_pos (by omega), if_pos (by omega)]
  · rw [if_neg c1]
    by_cases c2 : j - (a - f) < b - a
    · rw [if_pos c2, if_pos (by omega), if_pos (by omega)]
      congr 1; omega
    · rw [if_neg c2]
      by_cases c3 : f + j < i
      · rw [if_pos c3, if_pos (by omega)]
        congr 1; omega
      · rw [if_neg c3, if_neg (by omega)]
theorem trim_abs {s : List UInt8} {f a b i : Nat} (h1 : f ≤ a) (h2 : a ≤ b) (h3 : b ≤ i) (h4 : i ≤ s.length) (hA : ∀ q, f ≤ q → q < a → s[q]? = some 32) (hB : ∀ q, b ≤ q → q < i → s[q]? = some 32)
    (hC : a < b → s[a]? ≠ some 32 ∧ s[b - 1]? ≠ some 32) : Go.Lib.trimB ((s.take i).drop f) 32 = (s.take b).drop a := by
  rw [cut3 s h1 h2 h3 h4, all_rep h1 (by omega) hA, all_rep h3 h4 hB]
  unfold Go.Lib.trimB Go.Lib.trimLeftB
  rw [← List.append_assoc, trimR_rep]
  by_cases hab : a < b
  · obtain ⟨c1, c2⟩ := hC hab
    have hl : (s.take b).drop a = (s.take (b - 1)).drop a ++ [s[b - 1]'(by omega)] := by
      refine List.ext_getElem? fun j => ?_
      have l1 : ((s.take (b - 1)).drop a).length = b - 1 - a := by simp; omega
      rw [List.getElem?_append]
      simp only [l1, List.getElem?_drop, List.getElem?_take]
      by_cases c1 : j < b - 1 - a
      · rw [if_pos c1, if_pos (by omega), if_pos (by omega)]
      · rw [if_neg c1]
        by_cases c2 : a + j < b
        · obtain rfl : j = b - 1 - a := by omega
          rw [if_pos c2, Nat.sub_self, show a + (b - 1 - a) = b - 1 by omega, List.getElem?_eq_getElem (show b - 1 < s.length by omega)]
          rfl
        · rw [if_neg c2, List.getElem?_eq_none_iff.2 (by simp; omega)]
    have hne : s[b - 1]'(by omega) ≠ 32 := fun e => c2 (by rw [List.getElem?_eq_getElem (show b - 1 < s.length by omega), e])
    rw [hl, ← List.append_assoc, trimR_other _ hne, List.append_assoc, ← hl, dw_rep]
    have hh : (s.take b).drop a = s[a]'(by omega) :: (s.take b).drop (a + 1) := by
      have : a < (s.take b).length := by simp; omega
      rw [List.drop_eq_getElem_cons this]
      simp
    have hne2 : s[a]'(by omega) ≠ 32 := fun e => c1 (by rw [List.getElem?_eq_getElem (show a < s.length by omega), e])
    rw [hh, List.dropWhile_cons]
    simp [hne2]
  · obtain rfl : a = b := by omega
    have he : (s.take a).drop a = [] := by simp
    rw [he, List.append_nil]
    have := trimR_rep [] 32 (a - f)
    rw [List.nil_append] at this
    rw [this]
    rfl
def joinQ {γ : Type} (L : γ → Env) (H : γ → Hp → Prop) (Q : Exit → Env → Hp → Prop) : Exit → Env → Hp → Prop
  | .normal, env, h => ∃ g, EnvLe (L g) env ∧ H g h
  | e, env, h => Q e env h
theorem ai_joinE {P : Program} {env : Env} {h : Hp} {n : Nat} {x y : IC} {Q : Exit → Env → Hp → Prop} {γ : Type} (L : γ → Env) (H : γ → Hp → Prop) (h1 : AI P n x env h (joinQ L H Q)) (h2 : ∀ g h', H g h' → AI P n y (L g) h' Q) : AI P n (.seq x y) env h Q := by
  refine ai_seq (h1.mono ?_)
  intro e env' h' q
  cases e with
  | normal => obtain ⟨g, hl, hH⟩ := q; exact AI.weak hl (h2 g h' hH)
  | _ => exact q
/-- Which parts were set, as cells. -/
def wasC (ws : List Nat) : List Value := (List.range 20).map fun k => .bool (ws.contains k)
theorem wasC_set {ws : List Nat} {k : Nat} : (wasC ws).set k (.bool true) = wasC (ws ++ [k]) := by
  refine List.ext_getElem? fun j => ?_
  have hl : (wasC ws).length = 20 := by simp [wasC]
  rw [List.getElem?_set]
  by_cases hjk : k = j
  · subst hjk
    rw [if_pos rfl, hl]
    by_cases hk : k < 20
    · rw [if_pos hk]
      simp [wasC, hk]
    · rw [if_neg hk, List.getElem?_eq_none_iff.2 (by simp [wasC]; omega)]
  · rw [if_neg hjk]
    by_cases hj : j < 20
    · have hc : (ws ++ [k]).contains j = ws.contains j := by
        rw [Bool.eq_iff_iff]
        simp only [List.contains_iff_mem, List.mem_append, List.mem_singleton]
        constructor
        · rintro (h | h)
          · exact h
          · exact absurd h.symm hjk
        · exact .inl
      simp only [wasC, List.getElem?_map, List.getElem?_range hj, Option.map_some, hc]
    · rw [List.getElem?_eq_none_iff.2 (by simp [wasC]; omega), List.getElem?_eq_none_iff.2 (by simp [wasC]; omega)]
theorem wasC_at {ws : List Nat} {k : Nat} (hk : k < 20) : (wasC ws)[k]? = some (.bool (ws.contains k)) := by simp [wasC, hk]
section
variable {P : Program} {CT : FuncId → List Value → Hp → (Value → Hp → Prop) → Prop} {d : Option Nat} {xs : List Operand} {env : Env} {h : Hp} {R : Value → Hp → Prop}
theorem w_slsB {l : List UInt8} {a b : Nat} (e : mapF env xs = some [bs l, .int .i64 (a : Int), .int .i64 (b : Int)]) (hab : a ≤ b) (hb : b ≤ l.length) (n : R (bs ((l.take b).drop a)) h) : WI P CT ⟨d, none, .op (.sls true true) xs⟩ env h R := by
  refine w_op (v := bs ((l.take b).drop a)) (h' := h) ?_ n
  have hz := sz_mk l
  have hbd : bounds (ByteArray.mk l.toArray).size (ByteArray.mk l.toArray).size (some (.int .i64 (a : Int))) (some (.int .i64 (b : Int))) none = some (a, b, l.length) := by
    rw [hz]
    have h1 : (0 : Int) ≤ b ∧ (b : Int) ≤ l.length := by omega
    have h2 : (0 : Int) ≤ a ∧ (a : Int) ≤ b := by omega
    simp [bounds, bnd, h1, h2]
  unfold opF
  rw [e]
  show (bounds (ByteArray.mk l.toArray).size (ByteArray.mk l.toArray).size (some (.int .i64 (a : Int))) (some (.int .i64 (b : Int))) none).map (fun b => (Value.string ((ByteArray.mk l.toArray).extract b.1 b.2.1), h)) = _
  rw [hbd, Option.map_some, ex_mk]
  rfl
end
end Go.Proofs.YtapbmmlgmcmpnaaDoorW.Am
/- Texts: the document's own Parse walked. -/
namespace Go.Proofs.YtapbmmlgmcmpnaaDoorW.Am
open Go Go.RowKit
theorem lineF_lt {S : Nat → List UInt8 → Option Int} {l : List UInt8} {k : Nat} {n : Int} (h : lineF S l = some (k, n)) : k < 20 := by
  unfold lineF at h
  cases hf : findN (Go.Lib.cut l [58, 32]).1 with
  | none => rw [hf] at h; cases h
  | some j =>
    rw [hf] at h
    simp only [Option.bind_some, Option.map_eq_some_iff] at h
    obtain ⟨_, _, e⟩ := h
    cases e
    exact findN_lt hf
theorem made20 : (madeCells #[Value.bool false] (((20 : Nat) : Int).toNat * 1)).toList = wasC [] := by
  simp [madeCells, wasC, Nat.mod_one]
set_option maxRecDepth 10000 in
set_option maxHeartbeats 8000000 in
theorem rparse_ok (c : Cf20) (s : List UInt8) (hs : s.length ≤ 1000000) (h : Hp) : ACall PX 14 [.agg ⟨cs20 c⟩, bs s] h (fun v g => v = .tuple #[.agg ⟨cs20 (parseF setF c s).1⟩, nI (parseF setF c s).2.1, nI (parseF setF c s).2.2] ∧ Ext h g) := by
  obtain ⟨R0, hR0⟩ : ∃ r, parseF setF c s = r := ⟨_, rfl⟩
  rw [hR0]
  unfold parseF at hR0
  obtain ⟨P0, hP0⟩ : ∃ p, parseL setF (linesL s) 0 (vl c) [] = p := ⟨_, rfl⟩
  rw [hP0] at hR0
  have hz := sz_mk s
  refine acall Go.Proofs.Tryd.func14 c14 (by simp [ir14]) ?_
  unfold ir14
  dsimp only
  refine ai_seq (ai_regW (sS (w_box rfl fun g1 x1 k1 n1 => sS (w_new fun g2 x2 k2 n2 => ?_))))
  have q1 := (x2.2 _ n1).trans k1
  repeat (first | refine sS ?_ | refine sE ?_ | refine w_mv rfl ?_ | (refine is_ldn ?_; refine w_ldn rfl (by first | exact rd_all ‹_› rfl | exact rd_newn rfl | assumption) ?_) | refine ai_seq ?_ | refine ai_regW ?_)
  refine w_call rfl ((values_ok _ c).mono ?_)
  rintro _ g3 ⟨rfl, x3, k3, n3⟩
  have q13 := (x3.2 _ (Nat.lt_of_lt_of_le n1 x2.1)).trans q1
  have q23 := (x3.2 _ n2).trans k2
  repeat (first | refine sS ?_ | refine sE ?_ | refine w_mv rfl ?_ | (refine is_okn rfl ?_; refine w_op rfl ?_) | refine ai_seq ?_ | refine ai_regW ?_ | refine ai_block ?_)
  rw [made20]
  have x4 : Ext g3 (g3.new ⟨wasC [], true, 1⟩) := Ext.new _ _
  have k4 : (g3.new ⟨wasC [], true, 1⟩).get g3.nx = some ⟨wasC [], true, 1⟩ := new_get _ _
  have n4 : g3.nx < (g3.new ⟨wasC [], true, 1⟩).nx := by simp [Hp.new]
  generalize g3.new ⟨wasC [], true, 1⟩ = g4 at x4 k4 n4 ⊢
  have o1 : h.nx < g1.nx := n1
  have o2 : g1.nx < g2.nx := n2
  have o3 := x3.1
  have q14 := (x4.2 _ (by omega)).trans q13
  have q24 := (x4.2 _ (by omega)).trans q23
  have k34 := (x4.2 _ n3).trans k3
  have x04 : Ext h g4 := ((x1.trans x2).trans x3).trans x4
  clear k1 k2 k3 q1 q13 q23 x1 x2 x3 x4
  refine ai_loopE (γ := Nat × Nat × Nat × List (List UInt8) × List Int × List Nat) (fun e => [(1, bs s), (2, .pointer (some ⟨h.nx, 0, none⟩)), (4, .pointer (some ⟨g1.nx, 0, none⟩)), (7, .slice (some ⟨g2.nx + 1, 0, none⟩) 20 20), (8, .slice (some ⟨g3.nx, 0, none⟩) 20 20), (9, nI e.2.1), (10, nI e.2.2.1), (11, nI e.1)])
    (fun e g => Md2 (g2.nx + 1) g3.nx g4 g ∧ g.get (g2.nx + 1) = some ⟨e.2.2.2.2.1.map nI, true, 1⟩ ∧ g.get g3.nx = some ⟨wasC e.2.2.2.2.2, true, 1⟩ ∧ e.1 ≤ s.length + 1 ∧ e.2.2.1 ≤ e.1 ∧ (e.1 ≤ s.length → e.2.1 ≤ e.1 ∧ e.2.2.2.1 = linesL (s.drop e.2.1) ∧ ∀ q, e.2.1 ≤ q → q < e.1 → s[q]? ≠ some 10) ∧ (e.1 = s.length + 1 → e.2.2.2.1 = []) ∧ e.2.2.2.2.1.length = 20 ∧ parseL setF e.2.2.2.1 e.2.2.1 e.2.2.2.2.1 e.2.2.2.2.2 = P0) (fun e => s.length + 1 - e.1) (0, 0, 0, linesL s, vl c, [])
    (by repeat (first | exact le_nil | refine le_consF rfl ?_)) ⟨Md2.refl _ _ _, k34, k4, Nat.zero_le _, Nat.le_refl _, fun _ => ⟨Nat.le_refl _, rfl, fun q _ hq => absurd hq (Nat.not_lt_zero _)⟩, fun e => absurd e (by omega), rfl, hP0⟩ ?_
  clear k34 k4 hP0
  rintro ⟨i, f, n, R, v, was⟩ g ⟨md, kv, kw, hi, hni, hle, hend, hv, hp⟩
  dsimp only at kv kw hi hni hle hend hv hp ⊢
  have hmn := md.1
  have r1 := (md.2 h.nx (by omega) (by omega) (by omega)).trans q14
  have r2 := (md.2 g1.nx (by omega) (by omega) (by omega)).trans q24
  by_cases hil : i ≤ s.length
  · obtain ⟨hfi, rfl, hno⟩ := hle hil
    refine ai_seq ?_
    refine ai_seq ?_
    repeat (first | refine sS ?_ | refine sE ?_ | refine w_mv rfl ?_ | (refine is_okn rfl ?_; refine w_op rfl ?_) | (refine w_cmp (c2 := true) rfl ?_ ?_; focus (first | exact decide_eq_true (by omega) | (simp; done) | (simp; omega))) | refine ai_regW ?_ | refine ai_condF (b := true) rfl (fun _ => ?_) (fun hb => by cases hb) | refine ai_skip ?_)
    refine ai_seq ?_
    repeat (first | refine ai_block ?_)
    refine ai_joinE (γ := Unit) (fun _ => [(1, bs s), (2, .pointer (some ⟨h.nx, 0, none⟩)), (4, .pointer (some ⟨g1.nx, 0, none⟩)), (7, .slice (some ⟨g2.nx + 1, 0, none⟩) 20 20), (8, .slice (some ⟨g3.nx, 0, none⟩) 20 20), (9, nI f), (10, nI n), (11, nI i)]) (fun _ g' => g = g' ∧ (i < s.length → s[i]? = some 10)) ?_ ?_
    · by_cases hlt : i < s.length
      · obtain ⟨b, hb⟩ := getD_lt hlt
        repeat (first | refine sS ?_ | refine w_mv rfl ?_ | (refine is_okn rfl ?_; refine w_op rfl ?_) | refine w_gT rfl rfl ?_ | (refine w_cmp (c2 := true) rfl ?_ ?_; focus (first | exact decide_eq_true (by omega) | (simp; done) | (simp; omega))) | refine ai_seq ?_ | refine ai_regW ?_)
        refine w_ixs rfl hb ?_
        repeat (first | refine sS ?_ | refine w_gT rfl rfl ?_)
        refine w_cmp (c2 := !(b == 10)) rfl (by rw [← u8_eq b 10]; rfl) ?_
        by_cases hb10 : b = 10
        · subst hb10
          repeat (first | refine sS ?_ | refine sE ?_ | refine w_pickT rfl ?_ | refine ai_condF (b := false) rfl (fun hb => by cases hb) (fun _ => ?_) | refine ai_skip ?_)
          exact ⟨(), (by repeat (first | exact le_nil | refine le_consF rfl ?_)), rfl, fun _ => hb⟩
        · rw [show (!(b == 10)) = true by simpa using hb10]
          repeat (first | refine sS ?_ | refine sE ?_ | refine w_mv rfl ?_ | refine w_pickT rfl ?_ | (refine w_add rfl ?_ ?_; (focus omega)) | refine ai_regW ?_ | refine ai_condF (b := true) rfl (fun _ => ?_) (fun hb => by cases hb) | refine ai_exit ?_)
          refine ⟨(i + 1, f, n, _, v, was), (by repeat (first | exact le_nil | refine le_consF rfl ?_)), ⟨md, kv, kw, by dsimp only; omega, by dsimp only; omega, fun _ => ⟨by dsimp only; omega, rfl, fun q h1 h2 => ?_⟩, fun e => absurd e (by dsimp only; omega), hv, hp⟩, by dsimp only; omega⟩
          by_cases hqi : q < i
          · exact hno q h1 hqi
          · obtain rfl : q = i := by dsimp only at h2; omega
            rw [hb]
            exact fun e => hb10 (Option.some.inj e)
      · repeat (first | refine sS ?_ | refine sE ?_ | refine w_mv rfl ?_ | refine w_pickF rfl ?_ | (refine is_okn rfl ?_; refine w_op rfl ?_) | refine w_gF rfl rfl ?_ | (refine w_cmp (c2 := false) rfl ?_ ?_; focus (first | exact decide_eq_false (by omega) | (simp; done) | (simp; omega))) | refine ai_seq ?_ | refine ai_regW ?_ | refine ai_condF (b := false) rfl (fun hb => by cases hb) (fun _ => ?_) | refine ai_skip ?_)
        exact ⟨(), (by repeat (first | exact le_nil | refine le_consF rfl ?_)), rfl, fun e => absurd e hlt⟩
    rintro _ _ ⟨rfl, h10⟩
    obtain ⟨R', hR', hRi, hRe⟩ : ∃ R', linesL (s.drop f) = ((s.take i).drop f) :: R' ∧ (i < s.length → R' = linesL (s.drop (i + 1))) ∧ (i = s.length → R' = []) := by
      by_cases hlt : i < s.length
      · refine ⟨linesL (s.drop (i + 1)), ?_, fun _ => rfl, fun e => absurd e (by omega)⟩
        have := lines_at (s.drop f) (i - f) (by rw [List.getElem?_drop, show f + (i - f) = i by omega]; exact h10 hlt) (fun q hq => by rw [List.getElem?_drop]; exact hno _ (by omega) (by omega))
        rw [this, List.drop_take, List.drop_drop, show f + (i - f + 1) = i + 1 by omega]
      · obtain rfl : i = s.length := by omega
        refine ⟨[], ?_, fun e => absurd e hlt, fun _ => rfl⟩
        rw [lines_no (s.drop f) (fun q => by
          rw [List.getElem?_drop]
          intro e
          have hq := (List.getElem?_eq_some_iff.1 e).1
          exact hno _ (by omega) hq e), List.take_length]
    have fin : i + 1 ≤ s.length + 1 ∧ n + 1 ≤ i + 1 ∧ (i + 1 ≤ s.length → i + 1 ≤ i + 1 ∧ R' = linesL (s.drop (i + 1)) ∧ ∀ q, i + 1 ≤ q → q < i + 1 → s[q]? ≠ some 10) ∧ (i + 1 = s.length + 1 → R' = []) :=
      ⟨by omega, by omega, fun hh => ⟨Nat.le_refl _, hRi (by omega), fun q h1 h2 => absurd h1 (by omega)⟩, fun e => hRe (by omega)⟩
    rw [hR'] at hp
    simp only [parseL] at hp
    refine ai_seq ?_
    repeat (first | refine sS ?_ | refine sE ?_ | refine w_mv rfl ?_ | (refine w_add rfl ?_ ?_; (focus omega)) | refine ai_regW ?_)
    refine ai_seq ?_
    repeat (first | refine sS ?_ | refine sE ?_ | refine w_mv rfl ?_ | refine ai_regW ?_)
    refine ai_join (γ := Nat) (fun a => [(1, bs s), (2, .pointer (some ⟨h.nx, 0, none⟩)), (4, .pointer (some ⟨g1.nx, 0, none⟩)), (7, .slice (some ⟨g2.nx + 1, 0, none⟩) 20 20), (8, .slice (some ⟨g3.nx, 0, none⟩) 20 20), (9, nI f), (10, nI (n + 1 : Nat)), (11, nI i), (12, nI a), (13, nI i)]) (fun a g' => g = g' ∧ f ≤ a ∧ a ≤ i ∧ (∀ q, f ≤ q → q < a → s[q]? = some 32) ∧ (a < i → s[a]? ≠ some 32)) ?_ ?_
    · repeat (first | refine ai_block ?_)
      refine ai_loopE (γ := Nat) (fun a => [(1, bs s), (2, .pointer (some ⟨h.nx, 0, none⟩)), (4, .pointer (some ⟨g1.nx, 0, none⟩)), (7, .slice (some ⟨g2.nx + 1, 0, none⟩) 20 20), (8, .slice (some ⟨g3.nx, 0, none⟩) 20 20), (9, nI f), (10, nI (n + 1 : Nat)), (11, nI i), (12, nI a), (13, nI i)]) (fun a g' => g = g' ∧ f ≤ a ∧ a ≤ i ∧ (∀ q, f ≤ q → q < a → s[q]? = some 32)) (fun a => i - a) f
        (by repeat (first | exact le_nil | refine le_consF rfl ?_)) ⟨rfl, Nat.le_refl _, hfi, fun q h1 h2 => absurd h1 (by omega)⟩ ?_
      rintro a _ ⟨rfl, ha1, ha2, ha3⟩
      by_cases hai : a < i
      · obtain ⟨b, hb⟩ := getD_lt (show a < s.length by omega)
        repeat (first | refine sS ?_ | refine w_mv rfl ?_ | refine w_gT rfl rfl ?_ | (refine w_cmp (c2 := true) rfl ?_ ?_; focus (first | exact decide_eq_true (by omega) | (simp; done) | (simp; omega))) | refine ai_seq ?_ | refine ai_regW ?_)
        refine w_ixs rfl hb ?_
        repeat (first | refine sS ?_ | refine w_gT rfl rfl ?_)
        refine w_cmp (c2 := (b == 32)) rfl (u8_eq b 32) ?_
        by_cases hb32 : b = 32
        · subst hb32
          repeat (first | refine sS ?_ | refine sE ?_ | refine w_mv rfl ?_ | refine w_pickT rfl ?_ | (refine w_add rfl ?_ ?_; (focus omega)) | refine ai_regW ?_ | refine ai_condF (b := true) rfl (fun _ => ?_) (fun hb => by cases hb) | refine ai_skip ?_ | refine ai_block ?_)
          refine ⟨a + 1, (by repeat (first | exact le_nil | refine le_consF rfl ?_)), ⟨rfl, by omega, by omega, fun q h1 h2 => ?_⟩, by dsimp only; omega⟩
          by_cases hq : q < a
          · exact ha3 q h1 hq
          · obtain rfl : q = a := by omega
            exact hb
        · rw [show (b == 32) = false by simpa using hb32]
          repeat (first | refine sS ?_ | refine sE ?_ | refine w_pickT rfl ?_ | refine ai_condF (b := false) rfl (fun hb => by cases hb) (fun _ => ?_) | refine ai_exit ?_)
          exact ⟨rfl, a, (by repeat (first | exact le_nil | refine le_consF rfl ?_)), rfl, ha1, ha2, ha3, fun _ => by rw [hb]; exact fun e => hb32 (Option.some.inj e)⟩
      · repeat (first | refine sS ?_ | refine sE ?_ | refine w_mv rfl ?_ | refine w_pickF rfl ?_ | refine w_gF rfl rfl ?_ | (refine w_cmp (c2 := false) rfl ?_ ?_; focus (first | exact decide_eq_false (by omega) | (simp; done) | (simp; omega))) | refine ai_seq ?_ | refine ai_regW ?_ | refine ai_condF (b := false) rfl (fun hb => by cases hb) (fun _ => ?_) | refine ai_exit ?_)
        exact ⟨rfl, a, (by repeat (first | exact le_nil | refine le_consF rfl ?_)), rfl, ha1, ha2, ha3, fun e => absurd e hai⟩
    rintro a _ ⟨rfl, ha1, ha2, ha3, ha4⟩
    refine ai_join (γ := Nat) (fun b => [(1, bs s), (2, .pointer (some ⟨h.nx, 0, none⟩)), (4, .pointer (some ⟨g1.nx, 0, none⟩)), (7, .slice (some ⟨g2.nx + 1, 0, none⟩) 20 20), (8, .slice (some ⟨g3.nx, 0, none⟩) 20 20), (9, nI f), (10, nI (n + 1 : Nat)), (11, nI i), (12, nI a), (13, nI b)]) (fun b g' => g = g' ∧ a ≤ b ∧ b ≤ i ∧ (∀ q, b ≤ q → q < i → s[q]? = some 32) ∧ (a < b → s[b - 1]? ≠ some 32)) ?_ ?_
    · repeat (first | refine ai_block ?_)
      refine ai_loopE (γ := Nat) (fun b => [(1, bs s), (2, .pointer (some ⟨h.nx, 0, none⟩)), (4, .pointer (some ⟨g1.nx, 0, none⟩)), (7, .slice (some ⟨g2.nx + 1, 0, none⟩) 20 20), (8, .slice (some ⟨g3.nx, 0, none⟩) 20 20), (9, nI f), (10, nI (n + 1 : Nat)), (11, nI i), (12, nI a), (13, nI b)]) (fun b g' => g = g' ∧ a ≤ b ∧ b ≤ i ∧ (∀ q, b ≤ q → q < i → s[q]? = some 32)) (fun b => b) i
        (by repeat (first | exact le_nil | refine le_consF rfl ?_)) ⟨rfl, ha2, Nat.le_refl _, fun q h1 h2 => absurd h1 (by omega)⟩ ?_
      rintro b _ ⟨rfl, hb1, hb2, hb3⟩
      by_cases hab : a < b
      · obtain ⟨x, hx⟩ := getD_lt (show b - 1 < s.length by omega)
        repeat (first | refine sS ?_ | refine w_mv rfl ?_ | refine w_gT rfl rfl ?_ | (refine w_sub rfl ?_ ?_; (focus omega)) | (refine w_cmp (c2 := true) rfl ?_ ?_; focus (first | exact decide_eq_true (by omega) | (simp; done) | (simp; omega))) | refine ai_seq ?_ | refine ai_regW ?_)
        rw [show ((b : Int) - 1) = ((b - 1 : Nat) : Int) by omega]
        refine w_ixs rfl hx ?_
        repeat (first | refine sS ?_ | refine w_gT rfl rfl ?_)
        refine w_cmp (c2 := (x == 32)) rfl (u8_eq x 32) ?_
        by_cases hb32 : x = 32
        · subst hb32
          repeat (first | refine sS ?_ | refine sE ?_ | refine w_mv rfl ?_ | refine w_pickT rfl ?_ | (refine w_sub rfl ?_ ?_; (focus omega)) | refine ai_regW ?_ | refine ai_condF (b := true) rfl (fun _ => ?_) (fun hb => by cases hb) | refine ai_skip ?_ | refine ai_block ?_)
          rw [show ((b : Int) - 1) = ((b - 1 : Nat) : Int) by omega]
          refine ⟨b - 1, (by repeat (first | exact le_nil | refine le_consF rfl ?_)), ⟨rfl, by omega, by omega, fun q h1 h2 => ?_⟩, by dsimp only; omega⟩
          by_cases hq : b ≤ q
          · exact hb3 q hq h2
          · obtain rfl : q = b - 1 := by omega
            exact hx
        · rw [show (x == 32) = false by simpa using hb32]
          repeat (first | refine sS ?_ | refine sE ?_ | refine w_pickT rfl ?_ | refine ai_condF (b := false) rfl (fun hb => by cases hb) (fun _ => ?_) | refine ai_exit ?_)
          exact ⟨rfl, b, (by repeat (first | exact le_nil | refine le_consF rfl ?_)), rfl, hb1, hb2, hb3, fun _ => by rw [hx]; exact fun e => hb32 (Option.some.inj e)⟩
      · repeat (first | refine sS ?_ | refine sE ?_ | refine w_mv rfl ?_ | refine w_pickF rfl ?_ | refine w_gF rfl rfl ?_ | (refine w_cmp (c2 := false) rfl ?_ ?_; focus (first | exact decide_eq_false (by omega) | (simp; done) | (simp; omega))) | refine ai_seq ?_ | refine ai_regW ?_ | refine ai_condF (b := false) rfl (fun hb => by cases hb) (fun _ => ?_) | refine ai_exit ?_)
        exact ⟨rfl, b, (by repeat (first | exact le_nil | refine le_consF rfl ?_)), rfl, hb1, hb2, hb3, fun e => absurd e hab⟩
    rintro b _ ⟨rfl, hb1, hb2, hb3, hb4⟩
    rw [trim_abs ha1 hb1 hb2 hil ha3 hb3 (fun hab => ⟨ha4 (by omega), hb4 hab⟩)] at hp
    by_cases hab : a < b
    · obtain ⟨c0, hc0⟩ := getD_lt (show a < s.length by omega)
      have hh : (s.take b).drop a = c0 :: (s.take b).drop (a + 1) := by
        have hl : a < (s.take b).length := by simp; omega
        rw [List.drop_eq_getElem_cons hl]
        congr 1
        have := (List.getElem?_eq_some_iff.1 hc0).2
        simpa using this
      have hbl : blankB ((s.take b).drop a) = (c0 == 35) := by rw [hh]; rfl
      rw [hbl] at hp
      repeat (first | refine sS ?_ | refine w_mv rfl ?_ | refine w_gT rfl rfl ?_ | (refine w_cmp (c2 := true) rfl ?_ ?_; focus (first | exact decide_eq_true (by omega) | (simp; done) | (simp; omega))) | refine ai_seq ?_ | refine ai_regW ?_)
      refine w_ixs rfl hc0 ?_
      repeat (first | refine sS ?_ | refine w_gT rfl rfl ?_)
      refine w_cmp (c2 := !(c0 == 35)) rfl (by rw [← u8_eq c0 35]; rfl) ?_
      by_cases hc35 : c0 = 35
      · subst hc35
        rw [if_pos (c := (((35 : UInt8) == 35) = true)) rfl] at hp
        repeat (first | refine sS ?_ | refine sE ?_ | refine w_mv rfl ?_ | refine w_pickT rfl ?_ | (refine w_add rfl ?_ ?_; (focus omega)) | refine ai_regW ?_ | refine ai_condF (b := false) rfl (fun hb => by cases hb) (fun _ => ?_) | refine ai_skip ?_)
        exact ⟨(i + 1, i + 1, n + 1, R', v, was), (by repeat (first | exact le_nil | refine le_consF rfl ?_)), ⟨md, kv, kw, fin.1, fin.2.1, fin.2.2.1, fin.2.2.2, hv, hp⟩, by dsimp only; omega⟩
      · have hcb : (c0 == 35) = false := by simpa using hc35
        rw [hcb] at hp ⊢
        rw [if_neg (by simp)] at hp
        have htl : ((s.take b).drop a).length ≤ 1000000 := by rw [List.length_drop, List.length_take]; omega
        repeat (first | refine sS ?_ | refine sE ?_ | refine w_mv rfl ?_ | refine w_pickT rfl ?_ | refine ai_seq ?_ | refine ai_regW ?_ | refine ai_condF (b := true) rfl (fun _ => ?_) (fun hb => by cases hb))
        refine w_slsB rfl (by omega) (by omega) ?_
        generalize (s.take b).drop a = t at hp htl ⊢
        repeat (first | refine sS ?_)
        refine w_call rfl ((rline_ok t htl _).mono ?_)
        rintro _ g5 ⟨rfl, x5⟩
        have hn5 := x5.1
        have md5 : Md2 (g2.nx + 1) g3.nx g4 g5 := md.trans x5.md.two
        have kv5 := (x5.2 _ (by omega)).trans kv
        have kw5 := (x5.2 _ (by omega)).trans kw
        have r15 := (x5.2 _ (by omega)).trans r1
        have r25 := (x5.2 _ (by omega)).trans r2
        have xf : ∀ gb, (∀ k, k ≠ g1.nx → gb.get k = g5.get k) → gb.nx = g5.nx → Ext h gb := fun gb mb nb => ⟨by rw [nb]; have := x04.1; omega, fun q hq => (mb q (by omega)).trans ((md5.2 q (by have := x04.1; omega) (by omega) (by omega)).trans (x04.2 q hq))⟩
        unfold rlineF
        cases hlf : lineF setF t with
        | none =>
          rw [hlf] at hp
          dsimp only at hp
          rw [← hp] at hR0
          rw [← hR0]
          repeat (first | refine sS ?_ | refine sSn ?_ | refine sE ?_ | refine w_mv rfl ?_ | refine w_pickT rfl ?_ | refine w_ext rfl rfl ?_ | refine w_gF rfl rfl ?_ | (refine is_ldn ?_; refine w_ldn rfl (by first | exact rd_all ‹_› rfl | exact rd_newn rfl | assumption) ?_) | (refine w_cmp (c2 := true) rfl ?_ ?_; focus (first | exact decide_eq_true (by omega) | (simp; done) | (simp; omega))) | refine ai_seq ?_ | refine ai_regW ?_ | refine ai_condF (b := true) rfl (fun _ => ?_) (fun hb => by cases hb))
          refine w_stN rfl rfl r25 rfl rfl fun gb mb kb nb => ?_
          repeat (first | refine sS ?_ | refine sE ?_ | refine w_mv rfl ?_ | (refine ai_ret ?_; repeat (first | rw [thenQ_r] | rw [blockQ_r] | rw [roundE_r])))
          exact end_cell3 rfl rfl rfl kb Go.Proofs.Tryd.underlying24 rfl (by kernel_rfl) rfl ⟨rfl, xf gb mb nb⟩
        | some kx =>
          obtain ⟨k, x⟩ := kx
          have hk20 := lineF_lt hlf
          rw [hlf] at hp
          dsimp only at hp
          have hrw := rd_row kw5 (wasC_at (ws := was) hk20)
          repeat (first | refine sS ?_ | refine sE ?_ | refine w_mv rfl ?_ | refine w_pickF rfl ?_ | refine w_ext rfl rfl ?_ | refine w_gT rfl rfl ?_ | (refine is_ld ?_; refine w_ld rfl (by first | exact rd_g ‹_› rfl | exact rd_new rfl | assumption) ?_) | (refine w_cmp (c2 := false) rfl ?_ ?_; focus (first | exact decide_eq_false (by omega) | (simp; done) | (simp; omega))) | (refine w_iad rfl ?_ ?_; focus (first | omega | (simp; done) | (simp; omega))) | refine ai_seq ?_ | refine ai_regW ?_)
          obtain ⟨wb, hwb⟩ : ∃ b, was.contains k = b := ⟨_, rfl⟩
          rw [hwb] at hp ⊢
          cases wb
          · rw [if_neg (by simp)] at hp
            repeat (first | refine sS ?_ | refine sSn ?_ | refine w_mv rfl ?_ | (refine w_iad rfl ?_ ?_; focus (first | omega | (simp; done) | (simp; omega))) | refine ai_regW ?_ | refine ai_condF (b := false) rfl (fun hb => by cases hb) (fun _ => ?_) | refine ai_skip ?_)
            refine w_st1 rfl rfl kv5 (by rw [List.length_map]; simp; omega) rfl fun ga ma ka na => ?_
            rw [show 0 + ((k : Nat) : Int).toNat * 1 = k by simp, map_set] at ka
            have kwa := (ma _ (by omega)).trans kw5
            repeat (first | refine sS ?_ | refine sSn ?_ | (refine w_iad rfl ?_ ?_; focus (first | omega | (simp; done) | (simp; omega))))
            refine w_st1 rfl rfl kwa (by simp [wasC]; omega) rfl fun gb mb kb nb => ?_
            rw [show 0 + ((k : Nat) : Int).toNat * 1 = k by simp, wasC_set] at kb
            have kvb := (mb _ (by omega)).trans ka
            have mdb : Md2 (g2.nx + 1) g3.nx g4 gb := ⟨by rw [nb, na]; exact md5.1, fun q h1 h2 h3 => (mb q h3).trans ((ma q h2).trans (md5.2 q h1 h2 h3))⟩
            repeat (first | refine sS ?_ | refine sE ?_ | refine w_mv rfl ?_ | (refine w_add rfl ?_ ?_; (focus omega)) | refine ai_regW ?_)
            exact ⟨(i + 1, i + 1, n + 1, R', v.set k x, was ++ [k]), (by repeat (first | exact le_nil | refine le_consF rfl ?_)), ⟨mdb, kvb, kb, fin.1, fin.2.1, fin.2.2.1, fin.2.2.2, by dsimp only; rw [List.length_set]; exact hv, hp⟩, by dsimp only; omega⟩
          · rw [if_pos rfl] at hp
            rw [← hp] at hR0
            rw [← hR0]
            repeat (first | refine sS ?_ | refine sSn ?_ | refine w_mv rfl ?_ | (refine is_ldn ?_; refine w_ldn rfl (by first | exact rd_all ‹_› rfl | exact rd_newn rfl | assumption) ?_) | refine ai_seq ?_ | refine ai_regW ?_ | refine ai_condF (b := true) rfl (fun _ => ?_) (fun hb => by cases hb))
            refine w_stN rfl rfl r25 rfl rfl fun gb mb kb nb => ?_
            repeat (first | refine sS ?_ | refine sE ?_ | refine w_mv rfl ?_ | (refine ai_ret ?_; repeat (first | rw [thenQ_r] | rw [blockQ_r] | rw [roundE_r])))
            exact end_cell3 rfl rfl rfl kb Go.Proofs.Tryd.underlying24 rfl (by kernel_rfl) rfl ⟨rfl, xf gb mb nb⟩
    · obtain rfl : a = b := by omega
      have hte : (s.take a).drop a = [] := by simp
      rw [hte, if_pos (c := blankB [] = true) rfl] at hp
      repeat (first | refine sS ?_ | refine sE ?_ | refine w_mv rfl ?_ | refine w_pickF rfl ?_ | refine w_gF rfl rfl ?_ | (refine w_add rfl ?_ ?_; (focus omega)) | (refine w_cmp (c2 := false) rfl ?_ ?_; focus (first | exact decide_eq_false (by omega) | (simp; done) | (simp; omega))) | refine ai_seq ?_ | refine ai_regW ?_ | refine ai_condF (b := false) rfl (fun hb => by cases hb) (fun _ => ?_) | refine ai_skip ?_)
      exact ⟨(i + 1, i + 1, n + 1, R', v, was), (by repeat (first | exact le_nil | refine le_consF rfl ?_)), ⟨md, kv, kw, fin.1, fin.2.1, fin.2.2.1, fin.2.2.2, hv, hp⟩, by dsimp only; omega⟩
  · obtain rfl : i = s.length + 1 := by omega
    rw [hend rfl] at hp
    obtain ⟨d, rfl⟩ := vl_of hv
    have hp2 : P0 = .ok (vl d) := hp.symm
    rw [hp2] at hR0
    replace hR0 : (if mayB d = true then (d, (0 : Int), (0 : Int)) else (c, 5, 0)) = R0 := hR0
    repeat (first | refine sS ?_ | refine sE ?_ | refine w_mv rfl ?_ | (refine is_okn rfl ?_; refine w_op rfl ?_) | (refine w_cmp (c2 := false) rfl ?_ ?_; focus (first | exact decide_eq_false (by omega) | (simp; done) | (simp; omega))) | refine ai_seq ?_ | refine ai_regW ?_ | refine ai_condF (b := false) rfl (fun hb => by cases hb) (fun _ => ?_) | refine ai_exit ?_)
    refine w_call rfl ((made_ok _ d kv (by omega)).mono ?_)
    rintro _ g7 ⟨rfl, x7⟩
    have hn7 := x7.1
    repeat (first | refine sS ?_)
    refine w_new fun g8 x8 k8 n8 => ?_
    repeat (first | refine sSn ?_)
    refine w_stN rfl rfl k8 rfl rfl fun g9 m9 k9 n9 => ?_
    repeat (first | refine sS ?_ | refine sE ?_ | (refine is_ldn ?_; refine w_ldn rfl (by first | exact rd_all ‹_› rfl | exact rd_newn rfl | assumption) ?_) | refine ai_seq ?_ | refine ai_regW ?_)
    refine w_call rfl ((rmay_ok _ d).mono ?_)
    rintro _ gc ⟨rfl, xc⟩
    have hn8 := x8.1
    have hnc := xc.1
    have x79 : Ext g7 g9 := x8.own m9 n9
    have ra := (xc.2 h.nx (by omega)).trans ((x79.2 _ (by omega)).trans ((x7.2 h.nx (by omega)).trans r1))
    have rb := (xc.2 g1.nx (by omega)).trans ((x79.2 _ (by omega)).trans ((x7.2 g1.nx (by omega)).trans r2))
    have rx := (xc.2 g7.nx (by omega)).trans k9
    have xf : ∀ gb, (∀ k, k ≠ g1.nx → gb.get k = gc.get k) → gb.nx = gc.nx → Ext h gb := fun gb mb nb => ⟨by rw [nb]; have := x04.1; omega, fun q hq => (mb q (by omega)).trans ((xc.2 q (by omega)).trans ((x79.2 q (by omega)).trans ((x7.2 q (by omega)).trans ((md.2 q (by have := x04.1; omega) (by omega) (by omega)).trans (x04.2 q hq)))))⟩
    obtain ⟨mb, hm⟩ : ∃ b, mayB d = b := ⟨_, rfl⟩
    rw [hm] at hR0 ⊢
    cases mb
    · rw [← hR0]
      repeat (first | refine sS ?_ | refine sSn ?_ | refine sE ?_ | (refine is_okn rfl ?_; refine w_op rfl ?_) | (refine is_ldn ?_; refine w_ldn rfl (by first | exact rd_all ‹_› rfl | exact rd_newn rfl | assumption) ?_) | refine ai_seq ?_ | refine ai_regW ?_ | refine ai_condF (b := true) rfl (fun _ => ?_) (fun hb => by cases hb))
      refine w_stN rfl rfl rb rfl rfl fun gb mb kb nb => ?_
      repeat (first | refine sS ?_ | refine sE ?_ | refine w_mv rfl ?_ | (refine ai_ret ?_; repeat (first | rw [thenQ_r] | rw [blockQ_r] | rw [roundE_r])))
      exact end_cell3 rfl rfl rfl kb Go.Proofs.Tryd.underlying24 rfl (by kernel_rfl) rfl ⟨rfl, xf gb mb nb⟩
    · rw [← hR0]
      repeat (first | refine sS ?_ | refine sSn ?_ | refine sE ?_ | (refine is_okn rfl ?_; refine w_op rfl ?_) | (refine is_ldn ?_; refine w_ldn rfl (by first | exact rd_all ‹_› rfl | exact rd_newn rfl | assumption) ?_) | refine ai_seq ?_ | refine ai_regW ?_ | refine ai_condF (b := false) rfl (fun hb => by cases hb) (fun _ => ?_) | refine ai_skip ?_)
      refine w_stN rfl rfl rb rfl rfl fun gb mb kb nb => ?_
      repeat (first | refine sS ?_ | refine sE ?_ | refine w_mv rfl ?_ | (refine ai_ret ?_; repeat (first | rw [thenQ_r] | rw [blockQ_r] | rw [roundE_r])))
      exact end_cell3 rfl rfl rfl kb Go.Proofs.Tryd.underlying24 rfl (by kernel_rfl) rfl ⟨rfl, xf gb mb nb⟩
end Go.Proofs.YtapbmmlgmcmpnaaDoorW.Am
/- copyCheck, laid by hand (the shelf's tool stops at a number that the dump's body does not name). -/
namespace Go.Proofs
open Go.Shelf
def Tryd.lays240_ren : Go.Shelf.Ren := ⟨fun | 240 => 53 | 276 => 69 | n => n, fun | 70 => 63 | 0 => 0 | 4 => 4 | 9 => 9 | 20 => 20 | 72 => 66 | 37 => 64 | 164 => 103 | 5 => 5 | n => n, fun | n => n⟩
theorem Tryd.lays240 : Go.Proofs.Lays.n240 Go.Proofs.Tryd.prog Tryd.lays240_ren := {
  mixed := by kernel_rfl
  f240 := Go.Proofs.Tryd.func53.trans (congrArg some (by kernel_rfl))
  f276 := Go.Proofs.Tryd.func69.trans (congrArg some (by kernel_rfl))
  t0 := Go.Proofs.Tryd.underlying0
  a0 := Go.Proofs.Tryd.isAgg0
  z0 := Go.Proofs.Tryd.sizeOf0
  v0 := Go.Proofs.Tryd.zeroValue0
  t4 := Go.Proofs.Tryd.underlying4
  a4 := Go.Proofs.Tryd.isAgg4
  z4 := Go.Proofs.Tryd.sizeOf4
  v4 := Go.Proofs.Tryd.zeroValue4
  t9 := Go.Proofs.Tryd.underlying9
  a9 := Go.Proofs.Tryd.isAgg9
  z9 := Go.Proofs.Tryd.sizeOf9
  v9 := Go.Proofs.Tryd.zeroValue9
  t20 := Go.Proofs.Tryd.underlying20
  a20 := Go.Proofs.Tryd.isAgg20
  z20 := Go.Proofs.Tryd.sizeOf20
  v20 := Go.Proofs.Tryd.zeroValue20
  t70 := Go.Proofs.Tryd.underlying63
  a70 := Go.Proofs.Tryd.isAgg63
  z70 := Go.Proofs.Tryd.sizeOf63
  v70 := Go.Proofs.Tryd.zeroValue63
  t72 := Go.Proofs.Tryd.underlying66
  a72 := Go.Proofs.Tryd.isAgg66
  z72 := Go.Proofs.Tryd.sizeOf66
  v72 := Go.Proofs.Tryd.zeroValue66
  t164 := Go.Proofs.Tryd.underlying103
  a164 := Go.Proofs.Tryd.isAgg103
  z164 := Go.Proofs.Tryd.sizeOf103
  v164 := Go.Proofs.Tryd.zeroValue103 }
end Go.Proofs
/- strings.Builder over abstract heaps: copyCheck, WriteString, String. -/
namespace Go.Proofs.YtapbmmlgmcmpnaaDoorW.Am
open Go Go.RowKit
abbrev tBld : TypeId := 66
abbrev tU8 : TypeId := 5
def byV (b : UInt8) : Value := .int .u8 b.toNat
theorem copy_x : Go.Proofs.Builder.X72 PX Tryd.lays240_ren := ⟨by kernel_rfl, by kernel_rfl⟩
theorem copy_ok {h : Hp} {i : Nat} {p buf : Value} (hg : h.get i = some ⟨[p, buf], true, mkE * (tBld + 1)⟩) (hp : p = .pointer none ∨ p = .pointer (some ⟨i, 0, none⟩)) :
    ACall PX 53 [.pointer (some ⟨i, 0, none⟩)] h (fun _ g => g.nx = h.nx ∧ (∀ k, k ≠ i → g.get k = h.get k) ∧ g.get i = some ⟨[.pointer (some ⟨i, 0, none⟩), buf], true, mkE * (tBld + 1)⟩) := by
  refine ⟨⟨Go.Proofs.Tryd.f53, Go.Proofs.Tryd.func53, fun e => (by cases e), of_decide_eq_true (by kernel_rfl)⟩, fun base w0 m w args' ra s => ?_⟩
  obtain ⟨v', b', rfl, r1, r2⟩ := ra.cases_cons
  obtain rfl := r2.cases_nil
  cases r1 with
  | @ptr _ _ l hl =>
  obtain ⟨hlies, hwh⟩ := s.loc hg hl
  obtain ⟨hbase, c, e, f, hblk, hfr, hsz, hmk⟩ := hwh rfl
  obtain ⟨h0, he, hc⟩ := hmk (by show mkE ≤ mkE * (tBld + 1); decide)
  have he2 : e = tBld := by
    have he3 : mkE * (tBld + 1) / mkE = e + 1 := he
    rw [Nat.mul_div_cancel_left _ (by decide : 0 < mkE)] at he3
    exact (Nat.succ.inj he3).symm
  subst he2
  have hc2 : c.size = 2 := hc (by show mkE * (tBld + 1) % mkE = 0; decide)
  obtain ⟨boff, hbo⟩ : ∃ q, l.off = q := ⟨_, rfl⟩
  obtain ⟨lb, lo, lsl⟩ := l
  dsimp only at h0
  subst h0
  have hsh : w.shape? lb = some (tBld, 2) := by simp [World.shape?, hblk, hc2]
  obtain ⟨p', hp', rp⟩ := hlies 0 p rfl
  have hfz : w.frozen? ⟨lb, 0, none⟩ = false := by
    have := s.thaw hg hl rfl (j := 0) (by simp)
    simpa using this
  rcases hp with rfl | rfl
  · have rp2 := rp.flat_eq rfl
    subst rp2
    refine (Go.Proofs.Any.Builder_copyCheck_fresh Tryd.lays240 copy_x lb w hp' hsh hfz).mono ?_
    rintro e w' ⟨rfl, rfl⟩
    have st := s.store (j := 0) (v := .pointer (some ⟨i, 0, none⟩)) (v' := .pointer (some ⟨lb, 0, none⟩)) hg hl rfl (by simp) (RV.ptr hl)
    exact ⟨m, _, .tuple #[], _, rfl, m.le_refl, RV.of_flat m _ rfl, st, rfl, fun k hk => hput_ne _ _ hk, hput_same _ _ _⟩
  · cases rp with
    | @ptr _ _ l2 hl2 =>
    rw [hl] at hl2
    cases hl2
    refine (Go.Proofs.Any.Builder_copyCheck_used Tryd.lays240 copy_x lb w hp').mono ?_
    rintro e w' ⟨rfl, rfl⟩
    exact ⟨m, _, .tuple #[], h, rfl, m.le_refl, RV.of_flat m _ rfl, s, rfl, fun _ _ => rfl, hg⟩
/-- A builder, and what was written to it. -/
def BLD (N : Nat) (h : Hp) (i : Nat) (acc : List UInt8) : Prop := i < N ∧ N ≤ h.nx ∧ ∃ p buf, h.get i = some ⟨[p, buf], true, mkE * (tBld + 1)⟩ ∧ (p = .pointer none ∨ p = .pointer (some ⟨i, 0, none⟩)) ∧
  ((acc = [] ∧ buf = .slice none 0 0) ∨ ∃ q, acc ≠ [] ∧ buf = .slice (some ⟨q, 0, some 0⟩) acc.length acc.length ∧ N ≤ q ∧ q < h.nx ∧ h.get q = some ⟨acc.map byV, true, aszB tU8⟩)
theorem BLD.ext {N : Nat} {h g : Hp} {i : Nat} {acc : List UInt8} (b : BLD N h i acc) (x : Ext h g) : BLD N g i acc := by
  obtain ⟨h1, h2, p, buf, h3, h4, h5⟩ := b
  have hn := x.1
  refine ⟨h1, by omega, p, buf, (x.2 _ (by omega)).trans h3, h4, ?_⟩
  rcases h5 with h5 | ⟨q, a1, a2, a3, a4, a5⟩
  · exact .inl h5
  · exact .inr ⟨q, a1, a2, a3, by omega, (x.2 _ a4).trans a5⟩
theorem byV_all (l : List UInt8) : (l.map byV).all one = true := List.all_eq_true.2 (by intro x hx; obtain ⟨b, _, rfl⟩ := List.mem_map.1 hx; rfl)
theorem byV_bytes : ∀ l : List UInt8, bytesV (l.map byV) = some l
  | [] => rfl
  | b :: l => by
    have hb := b.toNat_lt
    have h1 : (0 : Int) ≤ b.toNat ∧ (b.toNat : Int) < 256 := by omega
    show (if (0 : Int) ≤ (b.toNat : Int) ∧ (b.toNat : Int) < 256 then (bytesV (l.map byV)).map (UInt8.ofNat ((b.toNat : Int)).toNat :: ·) else none) = _
    rw [if_pos h1, byV_bytes l, Int.toNat_natCast, UInt8.ofNat_toNat]
    rfl
/-- The row that a builder's bytes lie in. -/
def bufN (h : Hp) (i : Nat) : Option Nat := match h.get i with
  | some ⟨[_, .slice (some ⟨q, _, _⟩) _ _], _, _⟩ => some q
  | _ => none
theorem BLD.buf {N : Nat} {h : Hp} {i q : Nat} {acc : List UInt8} (b : BLD N h i acc) (e : bufN h i = some q) : N ≤ q ∧ q < h.nx := by
  obtain ⟨_, _, p, buf, h3, _, h5⟩ := b
  unfold bufN at e
  rw [h3] at e
  rcases h5 with ⟨_, rfl⟩ | ⟨q2, _, rfl, a3, a4, _⟩
  · cases e
  · cases e; exact ⟨a3, a4⟩
theorem bufN_of {h g : Hp} {i : Nat} (e : g.get i = h.get i) : bufN g i = bufN h i := by unfold bufN; rw [e]
section
variable {P : Program} {CT : FuncId → List Value → Hp → (Value → Hp → Prop) → Prop} {d : Option Nat} {xs : List Operand} {env : Env} {h : Hp} {R : Value → Hp → Prop}
theorem w_newB {t : TypeId} {z : Value} (n : ∀ g, Ext h g → g.get h.nx = some ⟨z.cells.toList, true, mkE * (t + 1)⟩ → h.nx < g.nx → R (.pointer (some ⟨h.nx, 0, none⟩)) g) : WI P CT ⟨d, none, .op (.newB t z) []⟩ env h R := by
  refine w_op (v := .pointer (some ⟨h.nx, 0, none⟩)) (h' := h.new ⟨z.cells.toList, true, mkE * (t + 1)⟩) ?_ (n _ (Ext.new _ _) (new_get _ _) (by simp [Hp.new]))
  unfold opF
  simp only [mapF, stepK, putPtr]
theorem w_aps0 {e : TypeId} {s : List UInt8} (ex : mapF env xs = some [.slice none 0 0, .string ⟨s.toArray⟩]) (hs : s ≠ []) (hl : s.length ≤ 1000000000) (n : ∀ g, Ext h g → g.get h.nx = some ⟨s.map byV, true, aszB e⟩ → h.nx < g.nx → R (.slice (some ⟨h.nx, 0, some 0⟩) s.length s.length) g) : WI P CT ⟨d, none, .op (.aps e) xs⟩ env h R := by
  have hz : (ByteArray.mk s.toArray).size = s.length := by simp [ByteArray.size]
  have h0 : s.length ≠ 0 := by simpa using hs
  refine w_op (v := .slice (some ⟨h.nx, 0, some 0⟩) s.length s.length) (h' := h.new ⟨s.map byV, true, aszB e⟩) ?_ (n _ (Ext.new _ _) (new_get _ _) (by simp [Hp.new]))
  unfold opF
  rw [ex]
  show appG 1 1 (aszB e) h none 0 0 (s.map byV) (ByteArray.mk s.toArray).size = _
  rw [hz]
  unfold appG
  rw [if_pos ⟨by simp, byV_all s, by omega, by omega, by omega⟩]
  simp [h0]
theorem w_apsN {e : TypeId} {s acc : List UInt8} {q : Nat} (ex : mapF env xs = some [.slice (some ⟨q, 0, some 0⟩) acc.length acc.length, .string ⟨s.toArray⟩]) (hg : h.get q = some ⟨acc.map byV, true, aszB e⟩) (hs : s ≠ []) (ha : acc ≠ []) (hl : acc.length + s.length ≤ 1000000000)
    (n : ∀ g, g.nx = h.nx + 1 → (∀ j, j < h.nx → j ≠ q → g.get j = h.get j) → g.get h.nx = some ⟨(acc ++ s).map byV, true, aszB e⟩ → R (.slice (some ⟨h.nx, 0, some 0⟩) (acc ++ s).length (acc ++ s).length) g) : WI P CT ⟨d, none, .op (.aps e) xs⟩ env h R := by
  have hz : (ByteArray.mk s.toArray).size = s.length := by simp [ByteArray.size]
  have h0 : s.length ≠ 0 := by simpa using hs
  have h1 : acc.length ≠ 0 := by simpa using ha
  have hrd : h.rd q 0 (acc.length * 1) = some (acc.map byV) := by rw [Nat.mul_one]; exact rd_all hg (by simp)
  refine w_op (v := .slice (some ⟨h.nx, 0, some 0⟩) (acc ++ s).length (acc ++ s).length) (h' := (h.del q).new ⟨(acc ++ s).map byV, true, aszB e⟩) ?_ (n _ rfl (fun j hj hq => by show (if j = h.nx then _ else if j = q then none else h.get j) = _; rw [if_neg (by omega), if_neg hq]) (new_get _ _))
  unfold opF
  rw [ex]
  show appG 1 1 (aszB e) h (some ⟨q, 0, some 0⟩) acc.length acc.length (s.map byV) (ByteArray.mk s.toArray).size = _
  rw [hz]
  unfold appG
  rw [if_pos ⟨by simp, byV_all s, by omega, by omega, by omega⟩]
  simp only [if_neg h0, show ¬ (acc.length + s.length ≤ acc.length) by omega, if_false, if_neg h1, hrd, hg]
  rw [if_pos (by simp; intro x _; rfl)]
  simp
theorem w_sdt {q n c : Nat} (ex : mapF env xs = some [.slice (some ⟨q, 0, some 0⟩) n c]) (hc : c ≠ 0) (r : R (.pointer (some ⟨q, 0, none⟩)) h) : WI P CT ⟨d, none, .op .sdt xs⟩ env h R := by
  refine w_op (v := .pointer (some ⟨q, 0, none⟩)) (h' := h) ?_ r
  unfold opF
  rw [ex]
  simp only [stepK, if_neg hc]
theorem w_ust {e : TypeId} {acc : List UInt8} {q : Nat} (ex : mapF env xs = some [.pointer (some ⟨q, 0, none⟩), .int .i64 (acc.length : Int)]) (hg : h.get q = some ⟨acc.map byV, true, aszB e⟩) (ha : acc ≠ []) (hl : acc.length ≤ 1000000000)
    (n : R (.string ⟨acc.toArray⟩) (h.del q)) : WI P CT ⟨d, none, .op (.ust e) xs⟩ env h R := by
  have h1 : acc.length ≠ 0 := by simpa using ha
  refine w_op (v := .string ⟨acc.toArray⟩) (h' := h.del q) ?_ n
  have hrd : h.rd q 0 acc.length = some (acc.map byV) := rd_all hg (by simp)
  unfold opF
  rw [ex]
  simp only [stepK, hg]
  rw [if_neg (by omega), if_neg (by omega)]
  simp only [and_self, if_true, Int.toNat_natCast, hrd, byV_bytes, Option.map_some]
end
set_option maxHeartbeats 1000000 in
theorem wstr_ok {N : Nat} {h : Hp} {i : Nat} {acc s : List UInt8} (b : BLD N h i acc) (hs : s ≠ []) (hl : acc.length + s.length ≤ 1000000000) : ACall PX 34 [.pointer (some ⟨i, 0, none⟩), .string ⟨s.toArray⟩] h (fun _ g => BLD N g i (acc ++ s) ∧ h.nx ≤ g.nx ∧ ∀ j, j < h.nx → j ≠ i → bufN h i ≠ some j → g.get j = h.get j) := by
  obtain ⟨b1, b2, p, buf, b3, b4, b5⟩ := b
  have hne : acc ++ s ≠ [] := by simp [hs]
  refine acall Go.Proofs.Tryd.func34 c34 (by simp [ir34]) ?_
  unfold ir34
  dsimp only
  repeat (first | refine sS ?_ | refine sE ?_ | refine w_mv rfl ?_ | refine ai_seq ?_ | refine ai_regW ?_)
  refine w_call rfl ((copy_ok b3 b4).mono ?_)
  rintro _ g1 ⟨n1, k1, e1⟩
  rcases b5 with ⟨rfl, rfl⟩ | ⟨q, a1, rfl, a3, a4, a5⟩
  · repeat (first | refine sS ?_ | refine sE ?_ | refine w_mv rfl ?_ | (refine is_okn rfl ?_; refine w_op rfl ?_) | (refine is_ld ?_; refine w_ld rfl (by first | exact rd_g ‹_› rfl | exact rd_new rfl | assumption) ?_) | refine ai_seq ?_ | refine ai_regW ?_)
    refine w_aps0 rfl hs (by omega) fun g2 x2 k2 n2 => ?_
    have e2 := (x2.2 i (by omega)).trans e1
    repeat (first | refine sS ?_ | refine sSn ?_ | (refine is_okn rfl ?_; refine w_op rfl ?_))
    refine w_st1 rfl rfl e2 (by simp) rfl fun g3 m3 k3 n3 => ?_
    repeat (first | refine sS ?_ | refine sE ?_ | refine w_mv rfl ?_ | (refine is_okn rfl ?_; refine w_op rfl ?_) | refine ai_seq ?_ | refine ai_regW ?_ | (refine ai_ret ?_; repeat (first | rw [thenQ_r] | rw [blockQ_r] | rw [roundE_r])))
    refine ⟨_, rfl, ⟨b1, by rw [n3]; have := x2.1; omega, _, _, k3, .inr rfl, .inr ⟨g1.nx, hne, by simp, by omega, by omega, ?_⟩⟩, by rw [n3]; have := x2.1; omega, fun j hj hji _ => ?_⟩
    · exact (m3 _ (by omega)).trans k2
    · exact (m3 _ hji).trans ((x2.2 j (by omega)).trans (k1 j hji))
  · have a5' := (k1 q (by omega)).trans a5
    repeat (first | refine sS ?_ | refine sE ?_ | refine w_mv rfl ?_ | (refine is_okn rfl ?_; refine w_op rfl ?_) | (refine is_ld ?_; refine w_ld rfl (by first | exact rd_g ‹_› rfl | exact rd_new rfl | assumption) ?_) | refine ai_seq ?_ | refine ai_regW ?_)
    refine w_apsN rfl a5' hs a1 hl fun g2 n2 x2 k2 => ?_
    have e2 := (x2 i (by omega) (by omega)).trans e1
    repeat (first | refine sS ?_ | refine sSn ?_ | (refine is_okn rfl ?_; refine w_op rfl ?_))
    refine w_st1 rfl rfl e2 (by simp) rfl fun g3 m3 k3 n3 => ?_
    repeat (first | refine sS ?_ | refine sE ?_ | refine w_mv rfl ?_ | (refine is_okn rfl ?_; refine w_op rfl ?_) | refine ai_seq ?_ | refine ai_regW ?_ | (refine ai_ret ?_; repeat (first | rw [thenQ_r] | rw [blockQ_r] | rw [roundE_r])))
    refine ⟨_, rfl, ⟨b1, by omega, _, _, k3, .inr rfl, .inr ⟨g1.nx, hne, rfl, by omega, by omega, ?_⟩⟩, by omega, fun j hj hji hbf => ?_⟩
    · exact (m3 _ (by omega)).trans k2
    · have hjq : j ≠ q := fun e => hbf (by unfold bufN; rw [b3, e])
      exact (m3 _ hji).trans ((x2 j (by omega) hjq).trans (k1 j hji))
theorem str_ok {N : Nat} {h : Hp} {i : Nat} {acc : List UInt8} (b : BLD N h i acc) (hl : acc.length ≤ 1000000000) : ACall PX 36 [.pointer (some ⟨i, 0, none⟩)] h (fun v g => v = .string ⟨acc.toArray⟩ ∧ h.nx ≤ g.nx ∧ ∀ j, j < N → g.get j = h.get j) := by
  obtain ⟨b1, b2, p, buf, b3, b4, b5⟩ := b
  refine acall Go.Proofs.Tryd.func36 c36 (by simp [ir36]) ?_
  unfold ir36
  dsimp only
  rcases b5 with ⟨rfl, rfl⟩ | ⟨q, a1, rfl, a3, a4, a5⟩
  · repeat (first | refine sS ?_ | refine dS ?_ | refine dSR ?_ | refine sE ?_ | refine dE ?_ | (refine agS ?_ ?_; focus (repeat (first | exact ag_nil | refine ag_cons (by first | exact ag_gF rfl rfl | exact ag_l rfl rfl (by first | exact rd_g ‹_› rfl | exact rd_new rfl | assumption) | exact ag_gT rfl rfl (ag_l rfl rfl (by first | exact rd_g ‹_› rfl | exact rd_new rfl | assumption)) | exact ag_ln rfl rfl (by first | exact rd_all ‹_› rfl | exact rd_newn rfl | assumption) | exact ag_gT rfl rfl (ag_ln rfl rfl (by first | exact rd_all ‹_› rfl | exact rd_newn rfl | assumption))) ?_))) | refine w_mv rfl ?_ | (refine is_okn rfl ?_; refine w_op rfl ?_) | (refine is_ld ?_; refine w_ld rfl (by first | exact rd_g ‹_› rfl | exact rd_new rfl | assumption) ?_) | refine ai_seq ?_ | refine ai_regW ?_ | refine ai_drwW (by kernel_rfl) ?_ | (refine ai_ret ?_; repeat (first | rw [thenQ_r] | rw [blockQ_r] | rw [roundE_r])))
    exact ⟨_, rfl, rfl, Nat.le_refl _, fun _ _ => rfl⟩
  · have h1 : acc.length ≠ 0 := by simpa using a1
    repeat (first | refine sS ?_ | refine dS ?_ | refine dSR ?_ | refine sE ?_ | refine w_mv rfl ?_ | (refine is_okn rfl ?_; refine w_op rfl ?_) | (refine is_ld ?_; refine w_ld rfl (by first | exact rd_g ‹_› rfl | exact rd_new rfl | assumption) ?_) | refine ai_seq ?_ | refine ai_regW ?_ | refine ai_drwW (by kernel_rfl) ?_)
    refine w_sdt rfl h1 ?_
    repeat (first | refine dS ?_ | (refine agS ?_ ?_; focus (repeat (first | exact ag_nil | refine ag_cons (by first | exact ag_gF rfl rfl | exact ag_l rfl rfl (by first | exact rd_g ‹_› rfl | exact rd_new rfl | assumption) | exact ag_gT rfl rfl (ag_l rfl rfl (by first | exact rd_g ‹_› rfl | exact rd_new rfl | assumption)) | exact ag_ln rfl rfl (by first | exact rd_all ‹_› rfl | exact rd_newn rfl | assumption) | exact ag_gT rfl rfl (ag_ln rfl rfl (by first | exact rd_all ‹_› rfl | exact rd_newn rfl | assumption))) ?_))))
    refine w_ust rfl a5 a1 hl ?_
    repeat (first | refine dS ?_ | refine dE ?_ | refine w_mv rfl ?_ | (refine ai_ret ?_; repeat (first | rw [thenQ_r] | rw [blockQ_r] | rw [roundE_r])))
    exact ⟨_, rfl, rfl, Nat.le_refl _, fun j hj => by show (if j = q then none else h.get j) = _; rw [if_neg (by omega)]⟩
end Go.Proofs.YtapbmmlgmcmpnaaDoorW.Am
/- Texts: Print. -/
namespace Go.Proofs.YtapbmmlgmcmpnaaDoorW.Am
open Go Go.RowKit
def shownF (k : Nat) (n : Int) : List UInt8 := if thinK k = true then showF n else Go.Lib.itoa n
/-- The first lines of settings as a text. -/
def prU (l : List Int) : Nat → List UInt8
  | 0 => []
  | k + 1 => prU l k ++ ((nmB.getD k [] ++ [58, 32]) ++ (shownF k (l.getD k 0) ++ [10]))
def printF (c : Cf20) : List UInt8 × Int := if mayB c = true then (prU (vl c) 20, 0) else ([], 1)
theorem may_b {c : Cf20} (h : mayB c = true) : ∀ (k : Nat) x, (vl c)[k]? = some x → (-1000 ≤ x ∧ x ≤ 100000000) ∧ (thinK k = false → 0 ≤ x) := by
  unfold mayB wrL wrB inB at h
  simp only [List.all_cons, List.all_nil, Bool.and_eq_true, decide_eq_true_eq, Bool.or_eq_true, beq_iff_eq, and_true] at h
  obtain ⟨h0, h1, h2, h3, h4, h5, h6, h7, h8, h9, h10, h11, h12, h13, h14, h15, h16, h17, h18, h19⟩ := h
  have hm : (if c.max = 0 then 100 else c.max) ≤ 100 := by
    split
    · omega
    · rcases h9 with h9 | h9
      · omega
      · omega
  have h9b : 0 ≤ c.max ∧ c.max ≤ 100 := by
    rcases h9 with h9 | h9
    · omega
    · have := h9.1; split at this <;> omega
  intro k x hk
  match k with
  | 0 => cases hk; exact ⟨by omega, fun e => absurd e (by decide)⟩
  | 1 => cases hk; exact ⟨by omega, fun e => absurd e (by decide)⟩
  | 2 => cases hk; exact ⟨by omega, fun _ => by omega⟩
  | 3 => cases hk; exact ⟨by omega, fun _ => by omega⟩
  | 4 => cases hk; exact ⟨by omega, fun _ => by omega⟩
  | 5 => cases hk; exact ⟨by omega, fun e => absurd e (by decide)⟩
  | 6 => cases hk; exact ⟨by omega, fun e => absurd e (by decide)⟩
  | 7 => cases hk; exact ⟨by omega, fun e => absurd e (by decide)⟩
  | 8 => cases hk; exact ⟨by omega, fun _ => by omega⟩
  | 9 => cases hk; exact ⟨by omega, fun _ => by omega⟩
  | 10 => cases hk; exact ⟨by omega, fun _ => by omega⟩
  | 11 => cases hk; exact ⟨by omega, fun _ => by omega⟩
  | 12 => cases hk; exact ⟨by omega, fun _ => by omega⟩
  | 13 => cases hk; exact ⟨by omega, fun e => absurd e (by decide)⟩
  | 14 => cases hk; exact ⟨by omega, fun _ => by omega⟩
  | 15 => cases hk; exact ⟨by omega, fun _ => by omega⟩
  | 16 => cases hk; exact ⟨by omega, fun _ => by omega⟩
  | 17 => cases hk; exact ⟨by omega, fun _ => by omega⟩
  | 18 => cases hk; exact ⟨by omega, fun _ => by omega⟩
  | 19 => cases hk; exact ⟨by omega, fun _ => by omega⟩
  | k + 20 => simp [vl] at hk
theorem show_len {n : Int} (hn : -1000 ≤ n ∧ n ≤ 100000000) : (showF n).length ≤ 60 := by
  have ha : 0 ≤ absB n ∧ absB n ≤ 100000000 := by
    unfold absB
    split <;> omega
  have h1 := Go.Lib.itoa_length_le (absB n / 1000) (by omega) (by omega)
  have h2 := Go.Lib.itoa_length_le (1000 + absB n % 1000) (by omega) (by omega)
  have h3 := trimR_len ((Go.Lib.itoa (1000 + absB n % 1000)).drop 1) 48
  rw [List.length_drop] at h3
  unfold showF fracB
  rw [List.length_append, List.length_append]
  have h4 : (if n < 0 then [45] else [] : List UInt8).length ≤ 1 := by split <;> simp
  have h5 : (if absB n % 1000 = 0 then [] else 46 :: Go.Lib.trimRightB ((Go.Lib.itoa (1000 + absB n % 1000)).drop 1) 48 : List UInt8).length ≤ 30 := by
    split
    · exact Nat.zero_le _
    · rw [List.length_cons]; omega
  omega
theorem shown_len {k : Nat} {n : Int} (hn : -1000 ≤ n ∧ n ≤ 100000000) : (shownF k n).length ≤ 60 := by
  unfold shownF
  split
  · exact show_len hn
  · have := Go.Lib.itoa_length_le n (by omega) (by omega)
    omega
theorem vl_len (c : Cf20) : (vl c).length = 20 := rfl
theorem prU_len {c : Cf20} (h : mayB c = true) : ∀ k, k ≤ 20 → (prU (vl c) k).length ≤ k * 100
  | 0, _ => Nat.le_refl _
  | k + 1, hk => by
    have ih := prU_len h k (by omega)
    have hx : (vl c)[k]? = some ((vl c).getD k 0) := by
      rw [List.getD_eq_getElem?_getD, List.getElem?_eq_getElem (show k < (vl c).length by rw [vl_len]; omega)]
      rfl
    have h1 := shown_len (k := k) (may_b h k _ hx).1
    have h2 : (nmB.getD k []).length ≤ 20 := by
      rw [List.getD_eq_getElem?_getD, List.getElem?_eq_getElem (show k < nmB.length from by show k < 20; omega)]
      exact nm_len _ (List.getElem_mem _)
    simp only [prU, List.length_append, List.length_cons, List.length_nil]
    omega
theorem itoa_br {n : Int} (hn : I64 n) (h : Hp) : ACall PX 35 [nI n] h (fun v g => v = bs (Go.Lib.itoa n) ∧ h = g) :=
  bridge (enters_comp Go.Proofs.Tryd.func35 c35) rfl rfl (fun w tb => (Go.Proofs.Tryd.strconv_Itoa n hn.1 hn.2 w tb.1).mono (by
    rintro e w' ⟨rfl, k, os, rfl⟩
    refine ⟨rfl, ⟨rfl, rfl, rfl, ?_, fun b hb => ?_⟩, fun d => (dr_no d).elim⟩
    · show w.heap.size ≤ (w.heap ++ os).size
      rw [Array.size_append]
      exact Nat.le_add_right _ _
    · show (w.heap ++ os)[b]? = w.heap[b]?
      exact Array.getElem?_append_left hb)) h
set_option maxRecDepth 10000 in
set_option maxHeartbeats 4000000 in
theorem print_ok (c : Cf20) (h : Hp) : ACall PX 15 [.agg ⟨cs20 c⟩] h (fun v g => v = .tuple #[bs (printF c).1, nI (printF c).2] ∧ Ext h g) := by
  unfold printF
  refine acall Go.Proofs.Tryd.func15 c15 (by simp [ir15]) ?_
  unfold ir15
  dsimp only
  refine ai_seq (ai_regW (sS (w_box rfl fun g1 x1 k1 n1 => ?_)))
  repeat (first | refine sS ?_ | refine sE ?_ | refine w_mv rfl ?_ | (refine is_ldn ?_; refine w_ldn rfl (by first | exact rd_all ‹_› rfl | exact rd_newn rfl | assumption) ?_) | refine ai_seq ?_ | refine ai_regW ?_)
  refine w_call rfl ((may_ok _ c).mono ?_)
  rintro _ g2 ⟨rfl, x2⟩
  have hn2 := x2.1
  cases hm : mayB c
  · repeat (first | refine sS ?_ | refine sE ?_ | refine w_mv rfl ?_ | (refine is_okn rfl ?_; refine w_op rfl ?_) | refine ai_seq ?_ | refine ai_regW ?_ | refine ai_condF (b := true) rfl (fun _ => ?_) (fun hb => by cases hb) | (refine ai_ret ?_; repeat (first | rw [thenQ_r] | rw [blockQ_r] | rw [roundE_r])))
    exact ⟨_, rfl, rfl, x1.trans x2⟩
  have k2 := (x2.2 _ n1).trans k1
  repeat (first | refine sS ?_ | refine sE ?_ | (refine is_okn rfl ?_; refine w_op rfl ?_) | refine ai_seq ?_ | refine ai_regW ?_ | refine ai_condF (b := false) rfl (fun hb => by cases hb) (fun _ => ?_) | refine ai_skip ?_)
  have x3 : Ext g2 (g2.new ⟨[.pointer none, .slice none 0 0], true, mkE * (tBld + 1)⟩) := Ext.new _ _
  have k3 : (g2.new ⟨[.pointer none, .slice none 0 0], true, mkE * (tBld + 1)⟩).get g2.nx = some ⟨[.pointer none, .slice none 0 0], true, mkE * (tBld + 1)⟩ := new_get _ _
  have n3 : g2.nx < (g2.new ⟨[.pointer none, .slice none 0 0], true, mkE * (tBld + 1)⟩).nx := by simp [Hp.new]
  change WI _ _ _ _ (g2.new ⟨[.pointer none, .slice none 0 0], true, mkE * (tBld + 1)⟩) _
  generalize g2.new ⟨[.pointer none, .slice none 0 0], true, mkE * (tBld + 1)⟩ = g3 at x3 k3 n3 ⊢
  refine w_call rfl ((parts_ok _ h.nx).mono ?_)
  rintro _ g4 ⟨rfl, x4, k4, n4⟩
  have hn3 := x3.1
  have hn4 := x4.1
  have k24 := (x4.2 _ (by omega)).trans ((x3.2 _ (by omega)).trans k2)
  have x04 := ((x1.trans x2).trans x3).trans x4
  have b4 : BLD g4.nx g4 g2.nx [] := ⟨by omega, Nat.le_refl _, _, _, (x4.2 _ n3).trans k3, .inl rfl, .inl ⟨rfl, rfl⟩⟩
  repeat (first | refine sS ?_ | refine sE ?_ | refine w_mv rfl ?_ | (refine is_okn rfl ?_; refine w_op rfl ?_) | refine ai_block ?_)
  refine ai_loopE (γ := Nat) (fun j => [(1, .pointer (some ⟨h.nx, 0, none⟩)), (4, .pointer (some ⟨g2.nx, 0, none⟩)), (12, .slice (some ⟨g3.nx, 0, none⟩) 20 20), (13, nI 20), (14, nI j)])
    (fun j g => j ≤ 20 ∧ BLD g4.nx g g2.nx (prU (vl c) j) ∧ g4.nx ≤ g.nx ∧ ∀ q, q < g4.nx → q ≠ g2.nx → g.get q = g4.get q) (fun j => 20 - j) 0
    (by repeat (first | exact le_nil | refine le_consF rfl ?_)) ⟨Nat.zero_le _, b4, Nat.le_refl _, fun _ _ _ => rfl⟩ ?_
  rintro j g ⟨hj, b, hng, hfr⟩
  by_cases hj20 : j < 20
  · have kp := (hfr g3.nx (by omega) (by omega)).trans k4
    have kc := (hfr h.nx (by omega) (by omega)).trans k24
    have hrd := ptC_rd kp hj20
    have hpl := prU_len hm j hj
    obtain ⟨x, hx⟩ : ∃ x, (vl c)[j]? = some x := ⟨_, List.getElem?_eq_getElem (by rw [vl_len]; exact hj20)⟩
    have hxd : (vl c).getD j 0 = x := by rw [List.getD_eq_getElem?_getD, hx]; rfl
    obtain ⟨hb1, hb2⟩ := may_b hm j x hx
    have hsl := shown_len (k := j) hb1
    have hnml : (nmB.getD j []).length ≤ 20 := by
      rw [List.getD_eq_getElem?_getD, List.getElem?_eq_getElem (show j < nmB.length from hj20)]
      exact nm_len _ (List.getElem_mem _)
    repeat (first | refine sS ?_ | refine sE ?_ | (refine is_ldn ?_; refine w_ldn rfl (by first | exact rd_all ‹_› rfl | exact rd_newn rfl | assumption) ?_) | (refine w_cmp (c2 := true) rfl ?_ ?_; focus (first | exact decide_eq_true (by omega) | (simp; done) | (simp; omega))) | (refine w_iad rfl ?_ ?_; focus (first | omega | (simp; done) | (simp; omega))) | refine ai_seq ?_ | refine ai_regW ?_ | refine ai_condF (b := true) rfl (fun _ => ?_) (fun hb => by cases hb) | refine ai_skip ?_ | refine ai_block ?_)
    refine w_new fun g5 x5 k5 n5 => ?_
    repeat (first | refine sSn ?_)
    refine w_stN rfl rfl k5 rfl rfl fun g6 m6 k6 n6 => ?_
    have x56 : Ext g g6 := x5.own m6 n6
    have b6 := b.ext x56
    have hn5 := x5.1
    repeat (first | refine sS ?_ | refine sE ?_ | (refine is_okn rfl ?_; refine w_op rfl ?_) | (refine is_ld ?_; refine w_ld rfl (by first | exact rd_g ‹_› rfl | exact rd_new rfl | assumption) ?_) | refine ai_seq ?_ | refine ai_regW ?_)
    refine w_catB (a := nmB.getD j []) (b := [58, 32]) rfl (by simp only [List.length_cons, List.length_nil]; omega) ?_
    repeat (first | refine sS ?_)
    refine w_call rfl ((wstr_ok (s := nmB.getD j [] ++ [58, 32]) b6 (by simp) (by rw [List.length_append]; simp only [List.length_cons, List.length_nil]; omega)).mono ?_)
    rintro _ g7 ⟨b7, hn7, f7⟩
    have hbuf : ∀ q, q < g.nx → q < g4.nx → bufN g6 g2.nx ≠ some q := fun q h1 h2 e => by have := b6.buf e; omega
    have hbe : bufN g6 g2.nx = bufN g g2.nx := bufN_of (x56.2 _ (by omega))
    have hbp : bufN g6 g2.nx ≠ some g.nx := fun e => by rw [hbe] at e; have := b.buf e; omega
    have k7 := (f7 g.nx (by omega) (by omega) hbp).trans k6
    have kc7 := (f7 h.nx (by omega) (by omega) (hbuf _ (by omega) (by omega))).trans ((x56.2 _ (by omega)).trans kc)
    have hrx := rd_g (o := j) kc7 (v := nI x) (by show (cs20 c)[j]? = _; rw [cs_vl, List.getElem?_map, hx]; rfl)
    have fin : ∀ g8, BLD g4.nx g8 g2.nx ((prU (vl c) j ++ (nmB.getD j [] ++ [58, 32])) ++ (shownF j x ++ [10])) → g7.nx ≤ g8.nx → (∀ q, q < g7.nx → q ≠ g2.nx → bufN g7 g2.nx ≠ some q → g8.get q = g7.get q) →
        (j + 1 ≤ 20 ∧ BLD g4.nx g8 g2.nx (prU (vl c) (j + 1)) ∧ g4.nx ≤ g8.nx ∧ ∀ q, q < g4.nx → q ≠ g2.nx → g8.get q = g4.get q) := by
      intro g8 b8 hn8 f8
      refine ⟨by omega, ?_, by omega, fun q h1 h2 => ?_⟩
      · unfold prU
        rw [hxd, ← List.append_assoc]
        exact b8
      · refine (f8 q (by omega) h2 (fun e => by have := b7.buf e; omega)).trans ((f7 q (by omega) h2 (hbuf q (by omega) h1)).trans ((x56.2 q (by omega)).trans (hfr q h1 h2)))
    cases ht : thinK j
    · rw [ht] at k7
      have hsh : shownF j x = Go.Lib.itoa x := by unfold shownF; rw [ht]; rfl
      rw [hsh] at hsl fin
      repeat (first | refine sS ?_ | refine sE ?_ | refine w_mv rfl ?_ | (refine is_okn rfl ?_; refine w_op rfl ?_) | refine w_ext rfl rfl ?_ | (refine is_ld ?_; refine w_ld rfl (by first | exact rd_g ‹_› rfl | exact rd_new rfl | assumption) ?_) | refine ai_seq ?_ | refine ai_regW ?_ | refine ai_condF (b := false) rfl (fun hb => by cases hb) (fun _ => ?_) | refine ai_skip ?_)
      refine w_call rfl ((itoa_br ⟨by omega, by omega⟩ _).mono ?_)
      rintro _ _ ⟨rfl, rfl⟩
      repeat (first | refine sS ?_)
      refine w_catB (a := Go.Lib.itoa x) (b := [10]) rfl (by simp only [List.length_cons, List.length_nil]; omega) ?_
      repeat (first | refine sS ?_)
      refine w_call rfl ((wstr_ok (s := Go.Lib.itoa x ++ [10]) b7 (by simp) (by simp only [List.length_append, List.length_cons, List.length_nil]; omega)).mono ?_)
      rintro _ g8 ⟨b8, hn8, f8⟩
      repeat (first | refine sS ?_ | refine sE ?_ | refine w_mv rfl ?_ | (refine w_add rfl ?_ ?_; (focus omega)) | refine ai_regW ?_)
      exact ⟨j + 1, (by repeat (first | exact le_nil | refine le_consF rfl ?_)), fin g8 b8 hn8 f8, by dsimp only; omega⟩
    · rw [ht] at k7
      have hsh : shownF j x = showF x := by unfold shownF; rw [ht]; rfl
      rw [hsh] at hsl fin
      repeat (first | refine sS ?_ | refine sE ?_ | refine w_mv rfl ?_ | (refine is_okn rfl ?_; refine w_op rfl ?_) | refine w_ext rfl rfl ?_ | (refine is_ld ?_; refine w_ld rfl (by first | exact rd_g ‹_› rfl | exact rd_new rfl | assumption) ?_) | refine ai_seq ?_ | refine ai_regW ?_ | refine ai_condF (b := true) rfl (fun _ => ?_) (fun hb => by cases hb))
      refine w_call rfl ((show_ok ⟨by omega, by omega⟩ _).mono ?_)
      rintro _ _ ⟨rfl, rfl⟩
      repeat (first | refine sS ?_)
      refine w_catB (a := showF x) (b := [10]) rfl (by simp only [List.length_cons, List.length_nil]; omega) ?_
      repeat (first | refine sS ?_)
      refine w_call rfl ((wstr_ok (s := showF x ++ [10]) b7 (by simp) (by simp only [List.length_append, List.length_cons, List.length_nil]; omega)).mono ?_)
      rintro _ g8 ⟨b8, hn8, f8⟩
      repeat (first | refine sS ?_ | refine sE ?_ | refine w_mv rfl ?_ | (refine w_add rfl ?_ ?_; (focus omega)) | refine ai_regW ?_ | refine ai_exit ?_)
      exact ⟨j + 1, (by repeat (first | exact le_nil | refine le_consF rfl ?_)), fin g8 b8 hn8 f8, by dsimp only; omega⟩
  · obtain rfl : j = 20 := by omega
    have hpl := prU_len hm 20 (Nat.le_refl _)
    repeat (first | refine sS ?_ | refine sE ?_ | (refine w_cmp (c2 := false) rfl ?_ ?_; focus (first | exact decide_eq_false (by omega) | (simp; done) | (simp; omega))) | refine ai_seq ?_ | refine ai_regW ?_ | refine ai_condF (b := false) rfl (fun hb => by cases hb) (fun _ => ?_) | refine ai_exit ?_)
    refine w_call rfl ((str_ok b (by omega)).mono ?_)
    rintro _ g5 ⟨rfl, hn5, f5⟩
    repeat (first | refine sS ?_ | refine sE ?_ | refine w_mv rfl ?_ | (refine ai_ret ?_; repeat (first | rw [thenQ_r] | rw [blockQ_r] | rw [roundE_r])))
    exact ⟨_, rfl, rfl, by have := x04.1; omega, fun q hq => (f5 q (by have := x04.1; omega)).trans ((hfr q (by have := x04.1; omega) (by omega)).trans (x04.2 q hq))⟩
end Go.Proofs.YtapbmmlgmcmpnaaDoorW.Am
/- Texts: what the program tells of a few. -/
namespace Go.Proofs.YtapbmmlgmcmpnaaDoorW.Am
open Go Go.RowKit
/-- The digits of a number, by so many steps. -/
def decFu : Nat → Nat → List UInt8
  | 0, _ => []
  | k + 1, n => match Nat.ble n 9 with
    | true => [UInt8.ofNat (48 + n)]
    | false => decFu k (n / 10) ++ [UInt8.ofNat (48 + n % 10)]
theorem ble_t {n : Nat} (h : n ≤ 9) : Nat.ble n 9 = true := Nat.ble_eq_true_of_le h
theorem ble_f {n : Nat} (h : 9 < n) : Nat.ble n 9 = false := by
  cases hb : Nat.ble n 9
  · rfl
  · have := Nat.le_of_ble_eq_true hb; omega
theorem dec_fu : ∀ (k n : Nat), n < 10 ^ (k + 1) → Go.Lib.decDigits n = decFu (k + 1) n
  | 0, n, h => by
    rw [decd_small (by omega)]
    unfold decFu
    rw [ble_t (by omega)]
  | k + 1, n, h => by
    unfold decFu
    by_cases h9 : 9 < n
    · rw [decd_big h9, dec_fu k (n / 10) (by rw [Nat.pow_succ] at h; omega), ble_f h9]
    · rw [decd_small h9, ble_t (by omega)]
def itoaFu (n : Int) : List UInt8 := if n < 0 then 45 :: decFu 20 n.natAbs else decFu 20 n.toNat
theorem itoa_fu {n : Int} (h : I64 n) : Go.Lib.itoa n = itoaFu n := by
  unfold Go.Lib.itoa itoaFu
  obtain ⟨h1, h2⟩ := h
  split
  · rw [dec_fu 19 _ (by omega)]
  · rw [dec_fu 19 _ (by omega)]
def showFu (n : Int) : List UInt8 := ((if n < 0 then [45] else []) ++ itoaFu (absB n / 1000)) ++ (if absB n % 1000 = 0 then [] else 46 :: Go.Lib.trimRightB ((itoaFu (1000 + absB n % 1000)).drop 1) 48)
theorem show_fu {n : Int} (h : I64 n) : showF n = showFu n := by
  obtain ⟨h1, h2⟩ := h
  have ha : 0 ≤ absB n ∧ absB n ≤ 9223372036854775807 := by
    unfold absB
    split <;> omega
  unfold showF showFu fracB
  rw [itoa_fu (n := absB n / 1000) ⟨by omega, by omega⟩, itoa_fu (n := 1000 + absB n % 1000) ⟨by omega, by omega⟩]
def dflt : Cf20 := ⟨10000, 700, 60, 6, 1, 2000, 10000, 2000, 0, 0, 1, 30, 0, 20000, 10, 100, 60, 3, 0, 0⟩
def tc1 : Cf20 := ⟨5500, 700, 60, 6, 1, 2000, 10000, 2000, 2, 0, 1, 30, 0, 20000, 10, 100, 60, 3, 0, 0⟩
theorem t_n1 : numF [45, 49, 46, 48, 53] = some (-1050) := by kernel_rfl
theorem t_n2 : numF [49, 46] = none := by kernel_rfl
theorem t_n3 : numF [49, 50, 51, 52, 53, 54, 55, 56, 57, 48] = none := by kernel_rfl
theorem t_p1 : parseF setF dflt [35, 32, 120, 10, 32, 32, 116, 97, 114, 103, 101, 116, 58, 32, 53, 46, 53, 32, 10, 10, 109, 105, 110, 58, 32, 50] = (tc1, 0, 0) := by kernel_rfl
theorem t_p2 : parseF setF tc1 [109, 105, 110, 58, 32, 50, 10, 109, 105, 110, 58, 32, 51] = (tc1, 4, 2) := by kernel_rfl
theorem t_p3 : parseF setF tc1 [117, 112, 58, 32, 48, 46, 53] = (tc1, 5, 0) := by kernel_rfl
theorem t_p4 : parseF setF tc1 [103, 114, 97, 99, 101, 58, 32, 48, 48, 48, 48, 48, 48, 55] = (tc1, 4, 1) := by kernel_rfl
theorem t_p5 : parseF setF tc1 [9, 109, 105, 110, 58, 32, 50] = (tc1, 4, 1) := by kernel_rfl
theorem t_p6 : parseF setF tc1 [109, 105, 110, 58, 32, 50, 32, 35, 32, 120] = (tc1, 4, 1) := by kernel_rfl
theorem t_s1 : showF 1500 = [49, 46, 53] := (show_fu ⟨by decide, by decide⟩).trans (by kernel_rfl)
theorem t_s2 : showF (-50) = [45, 48, 46, 48, 53] := (show_fu ⟨by decide, by decide⟩).trans (by kernel_rfl)
theorem t_s3 : showF 0 = [48] := (show_fu ⟨by decide, by decide⟩).trans (by kernel_rfl)
theorem prU_pre (l : List Int) : ∀ k j, ∃ r, prU l (j + k) = prU l j ++ r
  | 0, j => ⟨[], by simp⟩
  | k + 1, j => by
    obtain ⟨r, hr⟩ := prU_pre l k j
    exact ⟨r ++ ((nmB.getD (j + k) [] ++ [58, 32]) ++ (shownF (j + k) (l.getD (j + k) 0) ++ [10])), by rw [← Nat.add_assoc, prU, hr, List.append_assoc]⟩
theorem t_pr : ∃ r, printF tc1 = ([116, 97, 114, 103, 101, 116, 58, 32, 53, 46, 53, 10] ++ (117 :: 116 :: r), 0) := by
  have hm : mayB tc1 = true := by kernel_rfl
  obtain ⟨r, hr⟩ := prU_pre (vl tc1) 18 2
  have h2 : prU (vl tc1) 2 = [116, 97, 114, 103, 101, 116, 58, 32, 53, 46, 53, 10] ++ (117 :: 116 :: ([105, 108, 58, 32] ++ (showF 700 ++ [10]))) := by
    have h1 : prU (vl tc1) 1 = [116, 97, 114, 103, 101, 116, 58, 32, 53, 46, 53, 10] := by
      show [] ++ ((nmB.getD 0 [] ++ [58, 32]) ++ (showF 5500 ++ [10])) = _
      rw [show_fu ⟨by decide, by decide⟩]
      kernel_rfl
    show prU (vl tc1) 1 ++ ((nmB.getD 1 [] ++ [58, 32]) ++ (showF 700 ++ [10])) = _
    rw [h1]
    rfl
  refine ⟨([105, 108, 58, 32] ++ (showF 700 ++ [10])) ++ r, ?_⟩
  unfold printF
  rw [hm, if_pos rfl]
  congr 1
  rw [show (20 : Nat) = 2 + 18 from rfl, hr, h2]
  simp
set_option maxRecDepth 10000 in
set_option maxHeartbeats 4000000 in
theorem told_ok (h : Hp) : ACall PX 11 [] h (fun v g => v = .bool true ∧ Ext h g) := by
  refine acall Go.Proofs.Tryd.func11 c11 (by simp [ir11]) ?_
  unfold ir11
  dsimp only
  have n1 := fun g => number_ok [45, 49, 46, 48, 53] (by decide) g
  have n2 := fun g => number_ok [49, 46] (by decide) g
  have n3 := fun g => number_ok [49, 50, 51, 52, 53, 54, 55, 56, 57, 48] (by decide) g
  simp only [t_n1, t_n2, t_n3] at n1 n2 n3
  repeat (first | refine sS ?_ | refine sE ?_ | refine w_mv rfl ?_ | refine w_ext rfl rfl ?_ | (refine w_call rfl ((n1 _).mono ?_); rintro _ _ ⟨rfl, rfl⟩) | (refine w_call rfl ((n2 _).mono ?_); rintro _ _ ⟨rfl, rfl⟩) | refine ai_seq ?_ | refine ai_regW ?_)
  have s1 := fun g => show_ok (n := 1500) ⟨by decide, by decide⟩ g
  have s2 := fun g => show_ok (n := -50) ⟨by decide, by decide⟩ g
  have s3 := fun g => show_ok (n := 0) ⟨by decide, by decide⟩ g
  simp only [t_s1, t_s2, t_s3] at s1 s2 s3
  refine w_call rfl ((default_ok _).mono ?_)
  rintro _ g1 ⟨rfl, x1⟩
  repeat (first | refine sS ?_)
  have p1 := fun g => tparse_ok dflt [35, 32, 120, 10, 32, 32, 116, 97, 114, 103, 101, 116, 58, 32, 53, 46, 53, 32, 10, 10, 109, 105, 110, 58, 32, 50] (by decide) g
  simp only [t_p1] at p1
  refine w_call rfl ((p1 _).mono ?_)
  rintro _ a1 ⟨rfl, ax1⟩
  repeat (first | refine sS ?_ | refine w_mv rfl ?_ | refine w_ext rfl rfl ?_)
  refine w_new fun b1 bx1 bk1 bm1 => ?_
  repeat (first | refine sSn ?_)
  refine w_stN rfl rfl bk1 rfl rfl fun c1 cq1 ck1 cm1 => ?_
  have y1 : Ext g1 c1 := (ax1.trans bx1).own' cq1 cm1 (by have := ax1.1; omega)
  have z1 : Ext h c1 := x1.trans y1
  have hc1 : a1.nx < c1.nx := by omega
  repeat (first | refine sS ?_ | refine sE ?_ | refine w_mv rfl ?_ | (refine is_ldn ?_; refine w_ldn rfl (by first | exact rd_all ‹_› rfl | exact rd_newn rfl | assumption) ?_) | refine ai_seq ?_ | refine ai_regW ?_)
  have p2 := fun g => tparse_ok tc1 [109, 105, 110, 58, 32, 50, 10, 109, 105, 110, 58, 32, 51] (by decide) g
  simp only [t_p2] at p2
  refine w_call rfl ((p2 _).mono ?_)
  rintro _ a2 ⟨rfl, ax2⟩
  repeat (first | refine sS ?_ | refine w_mv rfl ?_ | refine w_ext rfl rfl ?_)
  refine w_new fun b2 bx2 bk2 bm2 => ?_
  repeat (first | refine sSn ?_)
  refine w_stN rfl rfl bk2 rfl rfl fun c2 cq2 ck2 cm2 => ?_
  have y2 : Ext c1 c2 := (ax2.trans bx2).own' cq2 cm2 (by have := ax2.1; omega)
  have e2 := (y2.2 _ hc1).trans ck1
  have l2 : a1.nx < c2.nx := Nat.lt_of_lt_of_le hc1 y2.1
  repeat (first | refine sS ?_ | refine sE ?_ | refine w_mv rfl ?_ | (refine is_ldn ?_; refine w_ldn rfl (by first | exact rd_all ‹_› rfl | exact rd_newn rfl | assumption) ?_) | refine ai_seq ?_ | refine ai_regW ?_)
  have p3 := fun g => tparse_ok tc1 [117, 112, 58, 32, 48, 46, 53] (by decide) g
  simp only [t_p3] at p3
  refine w_call rfl ((p3 _).mono ?_)
  rintro _ a3 ⟨rfl, ax3⟩
  repeat (first | refine sS ?_ | refine w_mv rfl ?_ | refine w_ext rfl rfl ?_)
  refine w_new fun b3 bx3 bk3 bm3 => ?_
  repeat (first | refine sSn ?_)
  refine w_stN rfl rfl bk3 rfl rfl fun c3 cq3 ck3 cm3 => ?_
  have y3 : Ext c2 c3 := (ax3.trans bx3).own' cq3 cm3 (by have := ax3.1; omega)
  have e3 := (y3.2 _ l2).trans e2
  have l3 : a1.nx < c3.nx := Nat.lt_of_lt_of_le l2 y3.1
  have hc3 : a3.nx < c3.nx := by omega
  repeat (first | refine sS ?_ | refine sE ?_ | refine w_mv rfl ?_ | (refine is_ldn ?_; refine w_ldn rfl (by first | exact rd_all ‹_› rfl | exact rd_newn rfl | assumption) ?_) | refine ai_seq ?_ | refine ai_regW ?_)
  obtain ⟨pr, hpr⟩ := t_pr
  have pp := fun g => print_ok tc1 g
  simp only [hpr] at pp
  refine w_call rfl ((pp _).mono ?_)
  rintro _ g5 ⟨rfl, x5⟩
  have e5 := (x5.2 _ l3).trans e3
  have l5 : a1.nx < g5.nx := Nat.lt_of_lt_of_le l3 x5.1
  have d5 := (x5.2 _ hc3).trans ck3
  have m5 : a3.nx < g5.nx := Nat.lt_of_lt_of_le hc3 x5.1
  repeat (first | refine sS ?_ | refine sE ?_ | refine w_mv rfl ?_ | refine w_ext rfl rfl ?_ | (refine is_ldn ?_; refine w_ldn rfl (by first | exact rd_all ‹_› rfl | exact rd_newn rfl | assumption) ?_) | (refine w_call rfl ((n3 _).mono ?_); rintro _ _ ⟨rfl, rfl⟩) | refine ai_seq ?_ | refine ai_regW ?_)
  have p4 := fun g => tparse_ok tc1 [103, 114, 97, 99, 101, 58, 32, 48, 48, 48, 48, 48, 48, 55] (by decide) g
  simp only [t_p4] at p4
  refine w_call rfl ((p4 _).mono ?_)
  rintro _ a4 ⟨rfl, ax4⟩
  repeat (first | refine sS ?_ | refine w_mv rfl ?_ | refine w_ext rfl rfl ?_)
  refine w_new fun b4 bx4 bk4 bm4 => ?_
  repeat (first | refine sSn ?_)
  refine w_stN rfl rfl bk4 rfl rfl fun c4 cq4 ck4 cm4 => ?_
  have y4 : Ext g5 c4 := (ax4.trans bx4).own' cq4 cm4 (by have := ax4.1; omega)
  have e6 := (y4.2 _ l5).trans e5
  have l6 : a1.nx < c4.nx := Nat.lt_of_lt_of_le l5 y4.1
  have d6 := (y4.2 _ m5).trans d5
  have m6 : a3.nx < c4.nx := Nat.lt_of_lt_of_le m5 y4.1
  repeat (first | refine sS ?_ | refine sE ?_ | refine w_mv rfl ?_ | (refine is_ldn ?_; refine w_ldn rfl (by first | exact rd_all ‹_› rfl | exact rd_newn rfl | assumption) ?_) | refine ai_seq ?_ | refine ai_regW ?_)
  have p5 := fun g => tparse_ok tc1 [9, 109, 105, 110, 58, 32, 50] (by decide) g
  simp only [t_p5] at p5
  refine w_call rfl ((p5 _).mono ?_)
  rintro _ a5 ⟨rfl, ax5⟩
  repeat (first | refine sS ?_ | refine w_mv rfl ?_ | refine w_ext rfl rfl ?_)
  refine w_new fun b5 bx5 bk5 bm5 => ?_
  repeat (first | refine sSn ?_)
  refine w_stN rfl rfl bk5 rfl rfl fun c5 cq5 ck5 cm5 => ?_
  have y5 : Ext c4 c5 := (ax5.trans bx5).own' cq5 cm5 (by have := ax5.1; omega)
  have e7 := (y5.2 _ l6).trans e6
  have l7 : a1.nx < c5.nx := Nat.lt_of_lt_of_le l6 y5.1
  have d7 := (y5.2 _ m6).trans d6
  have m7 : a3.nx < c5.nx := Nat.lt_of_lt_of_le m6 y5.1
  repeat (first | refine sS ?_ | refine sE ?_ | refine w_mv rfl ?_ | (refine is_ldn ?_; refine w_ldn rfl (by first | exact rd_all ‹_› rfl | exact rd_newn rfl | assumption) ?_) | refine ai_seq ?_ | refine ai_regW ?_)
  have p6 := fun g => tparse_ok tc1 [109, 105, 110, 58, 32, 50, 32, 35, 32, 120] (by decide) g
  simp only [t_p6] at p6
  refine w_call rfl ((p6 _).mono ?_)
  rintro _ a6 ⟨rfl, ax6⟩
  repeat (first | refine sS ?_ | refine w_mv rfl ?_ | refine w_ext rfl rfl ?_)
  refine w_new fun b6 bx6 bk6 bm6 => ?_
  repeat (first | refine sSn ?_)
  refine w_stN rfl rfl bk6 rfl rfl fun c6 cq6 ck6 cm6 => ?_
  have y6 : Ext c5 c6 := (ax6.trans bx6).own' cq6 cm6 (by have := ax6.1; omega)
  have e8 := (y6.2 _ l7).trans e7
  have l8 : a1.nx < c6.nx := Nat.lt_of_lt_of_le l7 y6.1
  have d8 := (y6.2 _ m7).trans d7
  have m8 : a3.nx < c6.nx := Nat.lt_of_lt_of_le m7 y6.1
  repeat (first | refine sS ?_ | refine sE ?_ | refine w_mv rfl ?_ | refine w_pickT rfl ?_ | (refine is_okn rfl ?_; refine w_op rfl ?_) | refine w_gT rfl rfl ?_ | (refine is_ld ?_; refine w_ld rfl (by first | exact rd_g ‹_› rfl | exact rd_new rfl | assumption) ?_) | (refine w_cmp (c2 := true) rfl ?_ ?_; focus (first | exact decide_eq_true (by omega) | (simp; done) | (simp; omega))) | (refine w_call rfl ((s1 _).mono ?_); rintro _ _ ⟨rfl, rfl⟩) | (refine w_call rfl ((s2 _).mono ?_); rintro _ _ ⟨rfl, rfl⟩) | (refine w_call rfl ((s3 _).mono ?_); rintro _ _ ⟨rfl, rfl⟩) | refine ai_seq ?_ | refine ai_regW ?_)
  refine w_cmp (c2 := true) rfl rfl ?_
  repeat (first | refine sS ?_ | refine w_mv rfl ?_ | refine w_pickT rfl ?_ | (refine is_okn rfl ?_; refine w_op rfl ?_) | refine w_gT rfl rfl ?_ | (refine is_ld ?_; refine w_ld rfl (by first | exact rd_g ‹_› rfl | exact rd_new rfl | assumption) ?_))
  refine w_cmp (c2 := true) rfl rfl ?_
  repeat (first | refine sS ?_ | refine w_mv rfl ?_ | refine w_pickT rfl ?_ | refine w_gT rfl rfl ?_ | (refine is_ldn ?_; refine w_ldn rfl (by first | exact rd_all ‹_› rfl | exact rd_newn rfl | assumption) ?_) | (refine w_cmp (c2 := true) rfl ?_ ?_; focus (first | exact decide_eq_true (by omega) | (simp; done) | (simp; omega))))
  refine w_eqS rfl rfl (ks := List.replicate 20 (.int .i64)) (by kernel_rfl) rfl rfl ?_
  intro bb hbb
  obtain rfl : bb = true := hbb.2 rfl
  repeat (first | refine sS ?_ | refine w_mv rfl ?_ | refine w_pickT rfl ?_ | (refine is_okn rfl ?_; refine w_op rfl ?_) | refine w_gT rfl rfl ?_ | (refine w_cmp (c2 := true) rfl ?_ ?_; focus (first | exact decide_eq_true (by omega) | (simp; done) | (simp; omega))))
  have hzr := sz_mk ([116, 97, 114, 103, 101, 116, 58, 32, 53, 46, 53, 10] ++ (117 :: 116 :: pr))
  rw [List.length_append, List.length_cons, List.length_cons] at hzr
  refine w_cmp (c2 := true) rfl (by rw [hzr]; exact decide_eq_true (by simp; omega)) ?_
  repeat (first | refine sS ?_ | refine w_mv rfl ?_ | refine w_pickT rfl ?_ | refine w_gT rfl rfl ?_)
  refine w_slsP (l := [116, 97, 114, 103, 101, 116, 58, 32, 53, 46, 53, 10] ++ (117 :: 116 :: pr)) (i := 12) rfl (by simp) ?_
  repeat (first | refine sS ?_ | refine sE ?_ | refine w_mv rfl ?_ | refine w_pickT rfl ?_ | refine w_gT rfl rfl ?_ | (refine w_cmp (c2 := true) rfl ?_ ?_; focus (first | exact decide_eq_true (by omega) | (simp; done) | (simp; omega))) | (refine ai_ret ?_; repeat (first | rw [thenQ_r] | rw [blockQ_r] | rw [roundE_r])))
  exact end_one rfl ⟨rfl, (((((z1.trans y2).trans y3).trans x5).trans y4).trans y5).trans y6⟩
end Go.Proofs.YtapbmmlgmcmpnaaDoorW.Am
/- Texts: the law TextBlanks. -/
namespace Go.Proofs.YtapbmmlgmcmpnaaDoorW.Am
open Go Go.RowKit
theorem u64_r (x : Int) : 0 ≤ IntKind.u64.wrap x ∧ IntKind.u64.wrap x ≤ 18446744073709551615 := by
  have : IntKind.u64.wrap x = x % 18446744073709551616 := rfl
  omega
theorem lines_cons {ln : List UInt8} (t : List UInt8) (h : ∀ b ∈ ln, b ≠ 10) : linesL (ln ++ 10 :: t) = ln :: linesL t := by
  have h1 : (ln ++ 10 :: t)[ln.length]? = some 10 := by simp
  have h2 := lines_at (ln ++ 10 :: t) ln.length h1 (fun q hq => by
    rw [List.getElem?_append_left hq, List.getElem?_eq_getElem hq]
    exact fun e => h _ (List.getElem_mem hq) (Option.some.inj e))
  rw [h2]
  simp
theorem parse_skip (S : Nat → List UInt8 → Option Int) {ln : List UInt8} (hb : blankB (Go.Lib.trimB ln 32) = true) (R : List (List UInt8)) (v : List Int) (was : List Nat) : ∀ (n i : Nat), parseL S (List.replicate n ln ++ R) i v was = parseL S R (i + n) v was
  | 0, i => rfl
  | n + 1, i => by
    rw [List.replicate_succ, List.cons_append]
    show (if blankB (Go.Lib.trimB ln 32) = true then parseL S (List.replicate n ln ++ R) (i + 1) v was else _) = _
    rw [if_pos hb, parse_skip S hb R v was n (i + 1)]
    congr 1
    omega
def blk1 : List UInt8 := [32, 32, 32]
def blk2 : List UInt8 := [32, 35, 32, 109, 105, 110, 58, 32, 57]
def repS (n : Nat) (l : List UInt8) : List UInt8 := (List.replicate n (l ++ [10])).flatten
theorem repS_succ (n : Nat) (l : List UInt8) : repS (n + 1) l = repS n l ++ (l ++ [10]) := by
  unfold repS
  rw [List.replicate_succ', List.flatten_append]
  simp
theorem repS_len (n : Nat) (l : List UInt8) : (repS n l).length = n * (l.length + 1) := by
  unfold repS
  simp
theorem lines_rep {l : List UInt8} (h : ∀ b ∈ l, b ≠ 10) (t : List UInt8) : ∀ n, linesL (repS n l ++ t) = List.replicate n l ++ linesL t
  | 0 => rfl
  | n + 1 => by
    have e : repS (n + 1) l ++ t = l ++ 10 :: (repS n l ++ t) := by
      unfold repS
      rw [List.replicate_succ]
      simp
    rw [e, lines_cons _ h, lines_rep h t n, List.replicate_succ]
    rfl
theorem blk_lines (x y : Nat) (t : List UInt8) : linesL ((repS x blk1 ++ repS y blk2) ++ t) = List.replicate x blk1 ++ (List.replicate y blk2 ++ linesL t) := by
  rw [List.append_assoc, lines_rep (by decide), lines_rep (by decide)]
theorem blk_parse (x y : Nat) (t : List UInt8) (v : List Int) : parseL setF (linesL ((repS x blk1 ++ repS y blk2) ++ t)) 0 v [] = parseL setF (linesL t) (0 + x + y) v [] := by
  rw [blk_lines, parse_skip setF (by kernel_rfl), parse_skip setF (by kernel_rfl)]
def min3 : Cf20 := { dflt with min := 3 }
theorem blk_p1 (x y : Nat) : parseF setF dflt ((repS x blk1 ++ repS y blk2) ++ [32, 32, 109, 105, 110, 58, 32, 51, 32, 32, 32]) = (min3, 0, 0) := by
  unfold parseF
  rw [blk_parse]
  kernel_rfl
theorem blk_p2 (x y : Nat) : parseF setF dflt ((repS x blk1 ++ repS y blk2) ++ [109, 105, 110, 58, 32, 51, 10, 109, 105, 110, 32, 52]) = (dflt, 4, ((0 + x + y + 1 + 1 : Nat) : Int)) := by
  unfold parseF
  rw [blk_parse]
  kernel_rfl
set_option maxHeartbeats 2000000 in
theorem tblanks_ok (a b : Int) (h : Hp) : ACall PX 3 [nI a, nI b] h (fun v _ => v = .bool true) := by
  have ha := u64_r a
  have hb := u64_r b
  obtain ⟨X, hX⟩ : ∃ X : Nat, IntKind.u64.wrap a % 10 = (X : Int) := ⟨(IntKind.u64.wrap a % 10).toNat, by omega⟩
  obtain ⟨Y, hY⟩ : ∃ Y : Nat, IntKind.u64.wrap b % 10 = (Y : Int) := ⟨(IntKind.u64.wrap b % 10).toNat, by omega⟩
  have hX9 : X ≤ 9 := by omega
  have hY9 : Y ≤ 9 := by omega
  refine acall Go.Proofs.Tryd.func3 c3 (by simp [ir3]) ?_
  unfold ir3
  dsimp only
  refine ai_seq ?_
  repeat (first | refine sS ?_ | refine sE ?_ | refine w_mv rfl ?_ | refine ai_regW ?_)
  refine ai_seq ?_
  repeat (first | refine sS ?_ | refine sE ?_ | refine w_mv rfl ?_ | (refine w_ci rfl ?_ ?_; (focus omega)) | (refine w_rem rfl ?_ ?_ ?_; (focus omega); (focus omega)) | refine w_cuw rfl ?_ | refine ai_regW ?_)
  rw [hX, hY]
  refine ai_seq ?_
  repeat (first | refine sS ?_ | refine sE ?_ | refine w_mv rfl ?_ | refine ai_regW ?_)
  refine ai_join (γ := Unit) (fun _ => [(5, nI X), (6, nI Y), (7, bs (repS X blk1))]) (fun _ g => h = g) ?_ ?_
  · repeat (first | refine sS ?_ | refine sE ?_ | refine w_mv rfl ?_ | refine ai_seq ?_ | refine ai_regW ?_ | refine ai_block ?_)
    refine ai_loopE (γ := Nat) (fun i => [(5, nI X), (6, nI Y), (7, bs (repS i blk1)), (8, nI i)]) (fun i g => h = g ∧ i ≤ X) (fun i => X - i) 0
      (by repeat (first | exact le_nil | refine le_consF rfl ?_)) ⟨rfl, Nat.zero_le _⟩ ?_
    rintro i _ ⟨rfl, hi⟩
    have hl := repS_len i blk1
    have hbl : blk1.length = 3 := rfl
    rw [hbl] at hl
    by_cases hiX : i < X
    · repeat (first | refine sS ?_ | refine sE ?_ | refine w_mv rfl ?_ | (refine w_cmp (c2 := true) rfl ?_ ?_; focus (first | exact decide_eq_true (by omega) | (simp; done) | (simp; omega))) | refine ai_seq ?_ | refine ai_regW ?_ | refine ai_condF (b := true) rfl (fun _ => ?_) (fun hb => by cases hb) | refine ai_skip ?_ | refine ai_block ?_)
      refine w_catB (b := blk1 ++ [10]) rfl (by rw [hl]; simp [blk1]; omega) ?_
      rw [← repS_succ]
      repeat (first | refine sS ?_ | refine sE ?_ | refine w_mv rfl ?_ | (refine w_add rfl ?_ ?_; (focus omega)) | refine ai_regW ?_)
      exact ⟨i + 1, (by repeat (first | exact le_nil | refine le_consF rfl ?_)), ⟨rfl, by omega⟩, by dsimp only; omega⟩
    · obtain rfl : i = X := by omega
      repeat (first | refine sS ?_ | refine sE ?_ | refine w_mv rfl ?_ | (refine w_cmp (c2 := false) rfl ?_ ?_; focus (first | exact decide_eq_false (by omega) | (simp; done) | (simp; omega))) | refine ai_seq ?_ | refine ai_regW ?_ | refine ai_condF (b := false) rfl (fun hb => by cases hb) (fun _ => ?_) | refine ai_exit ?_)
      exact ⟨rfl, (), (by repeat (first | exact le_nil | refine le_consF rfl ?_)), rfl⟩
  rintro _ _ rfl
  refine ai_join (γ := Unit) (fun _ => [(5, nI X), (6, nI Y), (7, bs (repS X blk1 ++ repS Y blk2))]) (fun _ g => h = g) ?_ ?_
  · repeat (first | refine sS ?_ | refine sE ?_ | refine w_mv rfl ?_ | refine ai_seq ?_ | refine ai_regW ?_ | refine ai_block ?_)
    refine ai_loopE (γ := Nat) (fun i => [(5, nI X), (6, nI Y), (7, bs (repS X blk1 ++ repS i blk2)), (9, nI i)]) (fun i g => h = g ∧ i ≤ Y) (fun i => Y - i) 0
      (by rw [show repS X blk1 ++ repS 0 blk2 = repS X blk1 from List.append_nil _]; exact (by repeat (first | exact le_nil | refine le_consF rfl ?_))) ⟨rfl, Nat.zero_le _⟩ ?_
    rintro i _ ⟨rfl, hi⟩
    have hl := repS_len X blk1
    have hl2 := repS_len i blk2
    have hbl : blk1.length = 3 := rfl
    have hbl2 : blk2.length = 9 := rfl
    rw [hbl] at hl
    rw [hbl2] at hl2
    by_cases hiX : i < Y
    · repeat (first | refine sS ?_ | refine sE ?_ | refine w_mv rfl ?_ | (refine w_cmp (c2 := true) rfl ?_ ?_; focus (first | exact decide_eq_true (by omega) | (simp; done) | (simp; omega))) | refine ai_seq ?_ | refine ai_regW ?_ | refine ai_condF (b := true) rfl (fun _ => ?_) (fun hb => by cases hb) | refine ai_skip ?_ | refine ai_block ?_)
      refine w_catB (b := blk2 ++ [10]) rfl (by rw [List.length_append, hl, hl2]; simp [blk2]; omega) ?_
      rw [List.append_assoc, ← repS_succ]
      repeat (first | refine sS ?_ | refine sE ?_ | refine w_mv rfl ?_ | (refine w_add rfl ?_ ?_; (focus omega)) | refine ai_regW ?_)
      exact ⟨i + 1, (by repeat (first | exact le_nil | refine le_consF rfl ?_)), ⟨rfl, by omega⟩, by dsimp only; omega⟩
    · obtain rfl : i = Y := by omega
      repeat (first | refine sS ?_ | refine sE ?_ | refine w_mv rfl ?_ | (refine w_cmp (c2 := false) rfl ?_ ?_; focus (first | exact decide_eq_false (by omega) | (simp; done) | (simp; omega))) | refine ai_seq ?_ | refine ai_regW ?_ | refine ai_condF (b := false) rfl (fun hb => by cases hb) (fun _ => ?_) | refine ai_exit ?_)
      exact ⟨rfl, (), (by repeat (first | exact le_nil | refine le_consF rfl ?_)), rfl⟩
  rintro _ _ rfl
  have p1 := blk_p1 X Y
  have p2 := blk_p2 X Y
  have hl : (repS X blk1 ++ repS Y blk2).length ≤ 1000 := by
    have h1 := repS_len X blk1
    have h2 := repS_len Y blk2
    have hbl : blk1.length = 3 := rfl
    have hbl2 : blk2.length = 9 := rfl
    rw [List.length_append, h1, h2, hbl, hbl2]
    omega
  generalize repS X blk1 ++ repS Y blk2 = s at p1 p2 hl ⊢
  repeat (first | refine sS ?_ | refine ai_seq ?_ | refine ai_regW ?_)
  refine w_call rfl ((default_ok _).mono ?_)
  rintro _ g1 ⟨rfl, x1⟩
  repeat (first | refine sS ?_)
  refine w_new fun g2 x2 k2 m2 => ?_
  repeat (first | refine sSn ?_)
  refine w_stN rfl rfl k2 rfl rfl fun g3 q3 k3 m3 => ?_
  repeat (first | refine sS ?_ | refine sE ?_ | refine w_mv rfl ?_ | (refine is_ldn ?_; refine w_ldn rfl (by first | exact rd_all ‹_› rfl | exact rd_newn rfl | assumption) ?_) | refine ai_seq ?_ | refine ai_regW ?_)
  refine w_catB (a := s) (b := [32, 32, 109, 105, 110, 58, 32, 51, 32, 32, 32]) rfl (by simp only [List.length_cons, List.length_nil]; omega) ?_
  have c1 := fun g => tparse_ok dflt (s ++ [32, 32, 109, 105, 110, 58, 32, 51, 32, 32, 32]) (by rw [List.length_append]; simp only [List.length_cons, List.length_nil]; omega) g
  simp only [p1] at c1
  repeat (first | refine sS ?_)
  refine w_call rfl ((c1 _).mono ?_)
  rintro _ g4 ⟨rfl, x4⟩
  have k4 := (x4.2 _ (by omega)).trans k3
  repeat (first | refine sS ?_ | refine w_mv rfl ?_ | refine w_ext rfl rfl ?_)
  refine w_new fun g5 x5 k5 m5 => ?_
  have k45 := (x5.2 _ (by have := x4.1; omega)).trans k4
  repeat (first | refine sSn ?_)
  refine w_stN rfl rfl k5 rfl rfl fun g6 q6 k6 m6 => ?_
  have k46 := (q6 _ (by have := x4.1; omega)).trans k45
  repeat (first | refine sS ?_ | refine sE ?_ | refine w_mv rfl ?_ | (refine is_ldn ?_; refine w_ldn rfl (by first | exact rd_all ‹_› rfl | exact rd_newn rfl | assumption) ?_) | refine ai_seq ?_ | refine ai_regW ?_)
  refine w_catB (a := s) (b := [109, 105, 110, 58, 32, 51, 10, 109, 105, 110, 32, 52]) rfl (by simp only [List.length_cons, List.length_nil]; omega) ?_
  have c2 := fun g => tparse_ok dflt (s ++ [109, 105, 110, 58, 32, 51, 10, 109, 105, 110, 32, 52]) (by rw [List.length_append]; simp only [List.length_cons, List.length_nil]; omega) g
  simp only [p2] at c2
  repeat (first | refine sS ?_)
  refine w_call rfl ((c2 _).mono ?_)
  rintro _ g7 ⟨rfl, x7⟩
  have k7 := (x7.2 _ (by omega)).trans k6
  repeat (first | refine sS ?_ | refine w_mv rfl ?_ | refine w_ext rfl rfl ?_)
  refine w_new fun g8 x8 k8 m8 => ?_
  have k78 := (x8.2 _ (by have := x7.1; omega)).trans k7
  repeat (first | refine sSn ?_)
  refine w_stN rfl rfl k8 rfl rfl fun g9 q9 k9 m9 => ?_
  have k79 := (q9 _ (by have := x7.1; omega)).trans k78
  repeat (first | refine sS ?_ | refine sE ?_ | refine w_mv rfl ?_ | refine ai_seq ?_ | refine ai_regW ?_)
  refine w_call rfl ((told_ok _).mono ?_)
  rintro _ ga ⟨rfl, xa⟩
  have ka := (xa.2 _ (by have := x7.1; have := x8.1; omega)).trans k79
  repeat (first | refine sS ?_ | refine w_mv rfl ?_ | refine w_pickT rfl ?_ | (refine is_okn rfl ?_; refine w_op rfl ?_) | refine w_gT rfl rfl ?_ | (refine is_ld ?_; refine w_ld rfl (by first | exact rd_g ‹_› rfl | exact rd_new rfl | assumption) ?_) | (refine w_cmp (c2 := true) rfl ?_ ?_; focus (first | exact decide_eq_true (by omega) | (simp; done) | (simp; omega))))
  refine w_cmp (c2 := true) rfl rfl ?_
  repeat (first | refine sS ?_ | refine sE ?_ | refine w_mv rfl ?_ | refine w_pickT rfl ?_ | refine w_gT rfl rfl ?_ | (refine w_add rfl ?_ ?_; (focus omega)) | (refine w_cmp (c2 := true) rfl ?_ ?_; focus (first | exact decide_eq_true (by omega) | (simp; done) | (simp; omega))) | (refine ai_ret ?_; repeat (first | rw [thenQ_r] | rw [blockQ_r] | rw [roundE_r])))
  exact end_one rfl rfl
end Go.Proofs.YtapbmmlgmcmpnaaDoorW.Am
/- From a law's contract to its row, where some arguments are rows that are read alone. -/
namespace Go.Proofs.YtapbmmlgmcmpnaaDoorW.Am
open Go Go.RowKit
abbrev Ro := Option (Loc × List Value)
/-- Plain cells that stand in the world. -/
def RoC (W : World) (l : Loc) (cs : List Value) : Prop := l.blk < W.heap.size ∧ ∀ (i : Nat) v, cs[i]? = some v → W.cell? ⟨l.blk, l.off + i, none⟩ = some v ∧ flat v = true
def roN (rs : List Ro) : Hp := ⟨fun j => match rs[j]? with | some (some (_, cs)) => some ⟨cs, false, 0⟩ | _ => none, rs.length⟩
def roM (rs : List Ro) : Mu := ⟨fun j => match rs[j]? with | some (some (l, _)) => some l | _ => none, fun _ => none⟩
theorem roN_get {rs : List Ro} {j : Nat} {l : Loc} {cs : List Value} (h : rs[j]? = some (some (l, cs))) : (roN rs).get j = some ⟨cs, false, 0⟩ ∧ roM rs j = some l := by simp [roN, roM, h]
theorem roN_of {rs : List Ro} {j : Nat} {ob : Ob} (h : (roN rs).get j = some ob) : ∃ l, rs[j]? = some (some (l, ob.cells)) ∧ ob.rw = false := by
  simp only [roN] at h
  split at h
  · next l cs hj => cases h; exact ⟨l, hj, rfl⟩
  · cases h
theorem roN_sim {W : World} {rs : List Ro} (h : ∀ (j : Nat) l cs, rs[j]? = some (some (l, cs)) → RoC W l cs) (t : Tb W.heap.size W) : Sim W.heap.size W (roM rs) (roN rs) W := by
  refine ⟨Bel.refl t, Nat.le_refl _, fun i hi => ?_, fun i l e => ?_, MS.empty _ _ _ _, fun i ob e _ => ?_, fun i j x y l l' e e' hij hrw => ?_⟩
  · have : rs[i]? = none := List.getElem?_eq_none hi
    simp [roM, this]
  · simp only [roM] at e
    split at e
    · next l' cs hj => cases e; exact (h _ _ _ hj).1
    · cases e
  · obtain ⟨l, hj, hw⟩ := roN_of e
    refine ⟨l, (roN_get hj).2, fun k v hv => ?_, fun hr => by rw [hw] at hr; cases hr⟩
    obtain ⟨h1, h2⟩ := (h _ _ _ hj).2 k v hv
    exact ⟨v, h1, RV.of_flat _ _ h2⟩
  · obtain ⟨_, _, hw⟩ := roN_of e
    rw [hw] at hrw; cases hrw
theorem law_ro {P : Program} {f : FuncId} {W : World} {rs : List Ro} {args args' : List Value} (h : ∀ (j : Nat) l cs, rs[j]? = some (some (l, cs)) → RoC W l cs) (ra : RVs (roM rs) args args') (c : ACall P f args (roN rs) (fun v _ => v = .bool true)) (t : Tb W.heap.size W := by first | exact fun _ _ => trivial | assumption) :
    Calls P f args'.toArray W fun e W' => e = .returned (.bool true) ∧ Below W.heap.size W W' := by
  refine (c.2 W.heap.size W _ W _ ra (roN_sim h t)).mono ?_
  rintro e W' ⟨m', v, v', h', rfl, _, rv, s, rfl⟩
  cases rv
  exact ⟨rfl, s.below.bl⟩
theorem ro_all {W : World} {rs : List Ro} (h : ∀ r ∈ rs, ∀ l cs, r = some (l, cs) → RoC W l cs) : ∀ (j : Nat) l cs, rs[j]? = some (some (l, cs)) → RoC W l cs := fun _ _ _ e => h _ (List.mem_of_getElem? e) _ _ rfl
/-- An argument that is a row of numbers. -/
structure RowArg (W : World) (j : Nat) (v : Value) (r : Ro) (s : Value) (us : List Int) : Prop where
  cells : ∀ l cs, r = some (l, cs) → RoC W l cs
  rel : ∀ rs, rs[j]? = some r → RV (roM rs) s v
  rd : ∀ rs, rs[j]? = some r → Rd (roN rs) s (us.map nI)
  lt : ∀ rs : List Ro, rs[j]? = some r → ∀ i o sp n c, s = .slice (some ⟨i, o, sp⟩) n c → i < (roN rs).nx
  wf : ∀ n ∈ us, (Lit.int .i64 n).wf = true
  pl : ∀ i o sp n c, s = .slice (some ⟨i, o, sp⟩) n c → sp.getD 0 = 0
theorem row_arg {H : Type} {enc : TypeId × Value → H} {P : Program} {W : World} {base : Nat} {spare : Nat → Bool} {held : Bool} {fuel : Nat} {t e : TypeId} {v : Value} {x : DataW H × List MemPlace} (ht : P.underlying t = some (.slice e)) (he : P.underlying e = some (.int .i64)) (hc : P.cellsOf e = 1) (hv : Value.okWide P W .any base t v)
    (h : DataW.trod enc P W 0 spare held fuel t v.cells.toList = some x) (j : Nat) : ∃ r s us, RowArg W j v r s us := by
  obtain ⟨a0, len0, cap0, rfl⟩ := Go.WideShapes.okWide_slice ht hv
  rcases Go.ChangeShapes.open_ints ht he hc h with ⟨hcs, _⟩ | ⟨a, len, cap, zs, hcs, _, hle, _, hzl, _, hcell, hwf⟩
  · obtain ⟨rfl, rfl, rfl⟩ : a0 = none ∧ len0 = 0 ∧ cap0 = 0 := by simpa using (show [Value.slice a0 len0 cap0] = _ from hcs)
    exact ⟨none, .slice none 0 0, [], (fun _ _ e => by cases e), (fun _ _ => .nils 0 0), (fun _ _ => .inl ⟨rfl, rfl⟩), (fun _ _ i o sp n c e => by cases e), (by simp), (fun i o sp n c e => by cases e)⟩
  · obtain ⟨rfl, rfl, rfl⟩ : a0 = some a ∧ len0 = len ∧ cap0 = cap := by simpa using (show [Value.slice a0 len0 cap0] = _ from hcs)
    obtain ⟨hs, hb⟩ := okWide_at ht hv
    obtain ⟨b, off, sp⟩ := a
    have hs : sp = none := hs
    subst hs
    have hlz : len0 ≤ zs.length := by rw [hzl]; split <;> omega
    refine ⟨some (⟨b, off, 0⟩, zs.map nI), .slice (some ⟨j, 0, none⟩) len0 cap0, zs.take len0, ?_, fun rs hj => ?_, fun rs hj => ?_, fun rs hj i o sp n c e => ?_, fun n hn => hwf n (List.mem_of_mem_take hn), fun i o sp n c e => by cases e; rfl⟩
    · intro l cs e
      cases e
      refine ⟨hb, fun i v hv => ?_⟩
      rw [List.getElem?_map] at hv
      cases hz : zs[i]? with
      | none => rw [hz] at hv; cases hv
      | some z =>
        rw [hz] at hv
        cases hv
        have hi := (List.getElem?_eq_some_iff.1 hz).1
        have := hcell i hi
        rw [Go.WideShapes.add_plain] at this
        exact ⟨by rw [this, List.getD_eq_getElem?_getD, hz]; rfl, rfl⟩
    · exact .slice (roN_get hj).2
    · refine .inr ⟨j, 0, none, cap0, by simp [Nat.min_eq_left hlz], fun x v hx => ?_⟩
      have hx2 : (zs.map nI)[x]? = some v := by
        rw [List.getElem?_map, List.getElem?_take] at hx
        rw [List.getElem?_map]
        split at hx
        · exact hx
        · cases hx
      have := rd_f (roN_get hj).1 hx2
      simpa using this
    · cases e
      have := (List.getElem?_eq_some_iff.1 hj).1
      simpa [roN] using this
end Go.Proofs.YtapbmmlgmcmpnaaDoorW.Am
/- Arguments of plain types of any depth (numbers, strings, structs, arrays, slices), opened. -/
namespace Go.Proofs.YtapbmmlgmcmpnaaDoorW.Am
open Go Go.RowKit
/-- Parts, one behind the other. -/
def Fld (T : TypeId → List Value → Prop) : List TypeId → List Value → Prop
  | [], cs => cs = []
  | t :: r, cs => ∃ a b, cs = a ++ b ∧ T t a ∧ Fld T r b
/-- What a value of a plain type is, over an abstract heap. -/
def Tv (P : Program) (h : Hp) : Nat → TypeId → List Value → Prop
  | 0, _, _ => False
  | n + 1, t, cs => match P.underlying t with
    | some .bool => ∃ b, cs = [.bool b]
    | some (.int k) => ∃ x, cs = [.int k x] ∧ (Lit.int k x).wf = true
    | some .string => ∃ s, cs = [.string s] ∧ s.size ≤ maxLen
    | some (.slice e) => ∃ s us, cs = [s] ∧ RR (P.cellsOf e) h s us ∧ (∀ u ∈ us, Tv P h n e u) ∧ us.length ≤ maxLen ∧ ∃ x c, s = .slice x us.length c ∧ us.length ≤ c
    | some (.struct fs) => Fld (Tv P h n) (fs.toList.map (·.type)) cs
    | some (.array m e) => ∃ us : List (List Value), cs = us.flatten ∧ us.length = m ∧ ∀ u ∈ us, Tv P h n e u
    | _ => False
def offs (P : Program) (pl : TypeId → Bool) : Nat → List Field → Nat → Bool
  | o, [], z => o == z
  | o, f :: r, z => f.offset == o && pl f.type && offs P pl (o + P.cellsOf f.type) r z
/-- Which types are plain. -/
def plT (P : Program) : Nat → TypeId → Bool
  | 0, _ => false
  | n + 1, t => match P.underlying t with
    | some .bool | some (.int _) | some .string => true
    | some (.slice e) => decide (0 < P.cellsOf e) && plT P n e
    | some (.struct fs) => offs P (plT P n) 0 fs.toList (P.cellsOf t)
    | some (.array m e) => decide (P.cellsOf t = m * P.cellsOf e) && plT P n e
    | _ => false
theorem Fld.mono {T T' : TypeId → List Value → Prop} (h : ∀ t cs, T t cs → T' t cs) : ∀ {l : List TypeId} {cs : List Value}, Fld T l cs → Fld T' l cs
  | [], _, e => e
  | _ :: _, _, ⟨a, b, e, x, y⟩ => ⟨a, b, e, h _ _ x, Fld.mono h y⟩
theorem Tv.ext {P : Program} {h g : Hp} (x : Ext h g) : ∀ {n : Nat} {t : TypeId} {cs : List Value}, Tv P h n t cs → Tv P g n t cs
  | 0, _, _, e => e
  | n + 1, t, cs, e => by
    unfold Tv at e ⊢
    split at e
    · exact e
    · exact e
    · exact e
    · obtain ⟨s, us, e1, e2, e3, e4⟩ := e
      exact ⟨s, us, e1, e2.ext x, fun u hu => (e3 u hu).ext x, e4⟩
    · exact e.mono fun _ _ y => y.ext x
    · obtain ⟨us, e1, e2, e3⟩ := e
      exact ⟨us, e1, e2, fun u hu => (e3 u hu).ext x⟩
    · exact e
theorem Fld.one {T : TypeId → List Value → Prop} (h : ∀ t cs, T t cs → cs.all Am.one = true) : ∀ {l : List TypeId} {cs : List Value}, Fld T l cs → cs.all Am.one = true
  | [], _, e => by subst e; rfl
  | _ :: _, _, ⟨a, b, e, x, y⟩ => by subst e; rw [List.all_append, h _ _ x, Fld.one h y]; rfl
theorem flat_one {us : List (List Value)} (h : ∀ u ∈ us, u.all one = true) : us.flatten.all one = true := by
  rw [List.all_eq_true]
  intro v hv
  obtain ⟨u, hu, hv⟩ := List.mem_flatten.1 hv
  exact List.all_eq_true.1 (h u hu) v hv
theorem Tv.one {P : Program} {h : Hp} : ∀ {n : Nat} {t : TypeId} {cs : List Value}, Tv P h n t cs → cs.all Am.one = true
  | 0, _, _, e => e.elim
  | n + 1, t, cs, e => by
    unfold Tv at e
    split at e
    · obtain ⟨b, rfl⟩ := e; rfl
    · obtain ⟨b, rfl, _⟩ := e; rfl
    · obtain ⟨b, rfl, _⟩ := e; rfl
    · obtain ⟨s, us, rfl, e2, _⟩ := e
      simp [e2.one]
    · exact e.one fun _ _ y => y.one
    · obtain ⟨us, rfl, _, e3⟩ := e
      exact flat_one fun u hu => (e3 u hu).one
    · exact e.elim
/-- Windows of the world, each a row of abstract cells. -/
def Wn (W : World) (rs : List Ro) : Prop := ∀ (j : Nat) l cs, rs[j]? = some (some (l, cs)) → l.blk < W.heap.size ∧ ∀ (i : Nat) v, cs[i]? = some v → ∃ v', W.cell? ⟨l.blk, l.off + i, none⟩ = some v' ∧ RV (roM rs) v v'
theorem Wn.nil (W : World) : Wn W [] := fun _ _ _ h => by simp at h
theorem roM_app (rs ms : List Ro) : (roM rs).le (roM (rs ++ ms)) := by
  refine ⟨fun i l e => ?_, fun i b e => by simp [roM] at e⟩
  simp only [roM] at e ⊢
  split at e
  · next l' cs hj =>
    have hi := (List.getElem?_eq_some_iff.1 hj).1
    rw [List.getElem?_append_left hi, hj]
    exact e
  · cases e
theorem roN_app (rs ms : List Ro) : Ext (roN rs) (roN (rs ++ ms)) := by
  refine ⟨by simp [roN], fun i hi => ?_⟩
  have hi : i < rs.length := hi
  simp only [roN]
  rw [List.getElem?_append_left hi]
theorem Wn.snoc {W : World} {rs : List Ro} (w : Wn W rs) {l : Loc} {cs : List Value} (hb : l.blk < W.heap.size) (hc : ∀ (i : Nat) v, cs[i]? = some v → ∃ v', W.cell? ⟨l.blk, l.off + i, none⟩ = some v' ∧ RV (roM rs) v v') : Wn W (rs ++ [some (l, cs)]) := by
  intro j l' cs' hj
  have hm := roM_app rs [some (l, cs)]
  by_cases hjl : j < rs.length
  · rw [List.getElem?_append_left hjl] at hj
    obtain ⟨h1, h2⟩ := w j l' cs' hj
    exact ⟨h1, fun i v hv => by obtain ⟨v', e1, e2⟩ := h2 i v hv; exact ⟨v', e1, e2.mono hm⟩⟩
  · rw [List.getElem?_append_right (by omega)] at hj
    have h0 : j - rs.length = 0 := by
      have := (List.getElem?_eq_some_iff.1 hj).1
      simp at this
      omega
    rw [h0] at hj
    cases hj
    exact ⟨hb, fun i v hv => by obtain ⟨v', e1, e2⟩ := hc i v hv; exact ⟨v', e1, e2.mono hm⟩⟩
theorem wn_sim {W : World} {rs : List Ro} (h : Wn W rs) (t : Tb W.heap.size W) : Sim W.heap.size W (roM rs) (roN rs) W := by
  refine ⟨Bel.refl t, Nat.le_refl _, fun i hi => ?_, fun i l e => ?_, MS.empty _ _ _ _, fun i ob e _ => ?_, fun i j x y l l' e e' hij hrw => ?_⟩
  · have : rs[i]? = none := List.getElem?_eq_none hi
    simp [roM, this]
  · simp only [roM] at e
    split at e
    · next l' cs hj => cases e; exact (h _ _ _ hj).1
    · cases e
  · obtain ⟨l, hj, hw⟩ := roN_of e
    exact ⟨l, (roN_get hj).2, fun k v hv => (h _ _ _ hj).2 k v hv, fun hr => by rw [hw] at hr; cases hr⟩
  · obtain ⟨_, _, hw⟩ := roN_of e
    rw [hw] at hrw; cases hrw
theorem law_op {P : Program} {f : FuncId} {W : World} {rs : List Ro} {args args' : List Value} (h : Wn W rs) (ra : RVs (roM rs) args args') (c : ACall P f args (roN rs) (fun v _ => v = .bool true)) (t : Tb W.heap.size W := by first | exact fun _ _ => trivial | assumption) :
    Calls P f args'.toArray W fun e W' => e = .returned (.bool true) ∧ Below W.heap.size W W' := by
  refine (c.2 W.heap.size W _ W _ ra (wn_sim h t)).mono ?_
  rintro e W' ⟨m', v, v', h', rfl, _, rv, s, rfl⟩
  cases rv
  exact ⟨rfl, s.below.bl⟩
/-- Rows of cells, part by part. -/
def R2 (m : Mu) (us cs : List (List Value)) : Prop := us.length = cs.length ∧ ∀ (i : Nat) u c, us[i]? = some u → cs[i]? = some c → RVs m u c
theorem R2.cons {m : Mu} {u c : List Value} {us cs : List (List Value)} (a : RVs m u c) (b : R2 m us cs) : R2 m (u :: us) (c :: cs) := by
  refine ⟨by simp [b.1], fun i => ?_⟩
  cases i with
  | zero => intro x y e e'; simp at e e'; subst e e'; exact a
  | succ i => intro x y e e'; simp at e e'; exact b.2 i x y e e'
theorem R2.flat {m : Mu} : ∀ {us cs : List (List Value)}, R2 m us cs → RVs m us.flatten cs.flatten
  | [], [], _ => RVs.nil m
  | [], _ :: _, h => by have := h.1; simp at this
  | _ :: _, [], h => by have := h.1; simp at this
  | u :: us, c :: cs, h => by
    rw [List.flatten_cons, List.flatten_cons]
    exact (h.2 0 u c rfl rfl).append (R2.flat ⟨by have := h.1; simpa using this, fun i x y e e' => h.2 (i + 1) x y (by simpa using e) (by simpa using e')⟩)
theorem flat_get {α : Type} {k : Nat} : ∀ {css : List (List α)}, (∀ c ∈ css, c.length = k) → ∀ i, i < css.length * k → css.flatten[i]? = (css[i / k]?).bind (·[i % k]?)
  | [], _, i, h => by simp at h
  | c :: r, hc, i, h => by
    have hl := hc c List.mem_cons_self
    rw [List.length_cons, Nat.add_mul, Nat.one_mul] at h
    rw [List.flatten_cons]
    by_cases hi : i < k
    · rw [List.getElem?_append_left (by omega), Nat.div_eq_of_lt hi, Nat.mod_eq_of_lt hi]
      rfl
    · have hk : 0 < k := by
        rcases Nat.eq_zero_or_pos k with e | e
        · subst e; simp at h
        · exact e
      have hki : k ≤ i := by omega
      have e1 : i / k = (i - k) / k + 1 := Nat.div_eq_sub_div hk hki
      have e2 : i % k = (i - k) % k := Nat.mod_eq_sub_mod hki
      rw [List.getElem?_append_right (by omega), hl, flat_get (fun x hx => hc x (List.mem_cons_of_mem _ hx)) (i - k) (by omega), e1, e2, List.getElem?_cons_succ]
theorem add_add (a : Addr) (x y : Nat) : (a.add x).add y = a.add (x + y) := by
  by_cases hx : x = 0 <;> by_cases hy : y = 0 <;> simp [Addr.add, hx, hy, Nat.add_assoc]
theorem cell_at {W : World} {a : Addr} {v : Value} (h : W.cell? a = some v) : a.spot = none ∧ a.block < W.heap.size := by
  unfold World.cell? at h
  split at h
  · next hb =>
    refine ⟨?_, (Array.getElem?_eq_some_iff.1 hb).1⟩
    split at h
    · cases h
    · next hs => simpa using hs
  · cases h
theorem flat_len {α : Type} {k : Nat} : ∀ {css : List (List α)}, (∀ c ∈ css, c.length = k) → css.flatten.length = css.length * k
  | [], _ => by simp
  | c :: r, h => by
    rw [List.flatten_cons, List.length_append, flat_len fun x hx => h x (List.mem_cons_of_mem _ hx), h c List.mem_cons_self, List.length_cons, Nat.add_mul, Nat.one_mul, Nat.add_comm]
theorem chunks {α : Type} {k : Nat} : ∀ (n : Nat) (cs : List α), cs.length = n * k → ((List.range n).map fun i => (cs.drop (i * k)).take k).flatten = cs
  | 0, cs, h => by
    rw [Nat.zero_mul] at h
    rw [List.eq_nil_of_length_eq_zero h]
    rfl
  | n + 1, cs, h => by
    have e : ((List.range n).map fun i => (cs.drop ((i + 1) * k)).take k) = ((List.range n).map fun i => ((cs.drop k).drop (i * k)).take k) := by
      refine List.map_congr_left fun i _ => ?_
      rw [List.drop_drop, Nat.add_mul, Nat.one_mul, Nat.add_comm]
    have h' := h
    rw [Nat.add_mul, Nat.one_mul] at h'
    have ih := chunks (k := k) n (cs.drop k) (by rw [List.length_drop]; omega)
    rw [List.range_succ_eq_map, List.map_cons, List.map_map, List.flatten_cons]
    show (cs.drop (0 * k)).take k ++ ((List.range n).map fun i => (cs.drop ((i + 1) * k)).take k).flatten = cs
    rw [e, ih, Nat.zero_mul, List.drop_zero, List.take_append_drop]
theorem open_list {W : World} {T : Hp → List Value → Prop} (mono : ∀ h g cs, Ext h g → T h cs → T g cs) {D : List Value → Prop}
    (ih : ∀ cs rs, D cs → Wn W rs → ∃ more cs', Wn W (rs ++ more) ∧ RVs (roM (rs ++ more)) cs' cs ∧ T (roN (rs ++ more)) cs') :
    ∀ css rs, (∀ c ∈ css, D c) → Wn W rs → ∃ more uss, Wn W (rs ++ more) ∧ R2 (roM (rs ++ more)) uss css ∧ ∀ u ∈ uss, T (roN (rs ++ more)) u
  | [], rs, _, w => ⟨[], [], by simpa using w, ⟨rfl, by simp⟩, by simp⟩
  | c :: r, rs, hd, w => by
    obtain ⟨m1, u, w1, r1, t1⟩ := ih c rs (hd c List.mem_cons_self) w
    obtain ⟨m2, us, w2, r2, t2⟩ := open_list mono ih r (rs ++ m1) (fun x hx => hd x (List.mem_cons_of_mem _ hx)) w1
    refine ⟨m1 ++ m2, u :: us, ?_⟩
    rw [← List.append_assoc]
    refine ⟨w2, R2.cons (r1.mono (roM_app _ _)) r2, fun x hx => ?_⟩
    rcases List.mem_cons.1 hx with rfl | hx
    · exact mono _ _ _ (roN_app _ _) t1
    · exact t2 x hx
theorem offs_le {P : Program} {pl : TypeId → Bool} : ∀ {fs : List Field} {o z : Nat}, offs P pl o fs z = true → o ≤ z ∧ ∀ f ∈ fs, o ≤ f.offset
  | [], o, z, h => by
    have : o = z := by simpa [offs] using h
    exact ⟨by omega, by simp⟩
  | f :: r, o, z, h => by
    simp only [offs, Bool.and_eq_true, beq_iff_eq] at h
    obtain ⟨h1, h2⟩ := offs_le h.2
    refine ⟨by omega, fun g hg => ?_⟩
    rcases List.mem_cons.1 hg with rfl | hg
    · omega
    · have := h2 g hg; omega
theorem open_fld {P : Program} {W : World} {pl : TypeId → Bool} {T : Hp → TypeId → List Value → Prop} (mono : ∀ h g t cs, Ext h g → T h t cs → T g t cs) {D : TypeId → List Value → Prop}
    (ih : ∀ t cs rs, pl t = true → D t cs → Wn W rs → ∃ more cs', Wn W (rs ++ more) ∧ RVs (roM (rs ++ more)) cs' cs ∧ T (roN (rs ++ more)) t cs') :
    ∀ (fs : List Field) (o z : Nat) (cs : List Value) rs, offs P pl o fs z = true → cs.length + o = z → (∀ f ∈ fs, D f.type ((cs.drop (f.offset - o)).take (P.cellsOf f.type))) → Wn W rs →
      ∃ more cs', Wn W (rs ++ more) ∧ RVs (roM (rs ++ more)) cs' cs ∧ Fld (T (roN (rs ++ more))) (fs.map (·.type)) cs'
  | [], o, z, cs, rs, h, hl, _, w => by
    have : o = z := by simpa [offs] using h
    obtain rfl : cs = [] := List.eq_nil_of_length_eq_zero (by omega)
    exact ⟨[], [], by simpa using w, RVs.nil _, rfl⟩
  | f :: r, o, z, cs, rs, h, hl, hd, w => by
    have h' := h
    simp only [offs, Bool.and_eq_true, beq_iff_eq] at h'
    obtain ⟨⟨ho, hp⟩, hr⟩ := h'
    obtain ⟨hz, hge⟩ := offs_le hr
    have hd0 := hd f List.mem_cons_self
    rw [ho, Nat.sub_self, List.drop_zero] at hd0
    obtain ⟨m1, u, w1, r1, t1⟩ := ih f.type _ rs hp hd0 w
    obtain ⟨m2, us, w2, r2, t2⟩ := open_fld mono ih r (o + P.cellsOf f.type) z (cs.drop (P.cellsOf f.type)) (rs ++ m1) hr (by rw [List.length_drop]; omega) (fun g hg => by
      have h1 := hd g (List.mem_cons_of_mem _ hg)
      have h2 := hge g hg
      rw [List.drop_drop, show P.cellsOf f.type + (g.offset - (o + P.cellsOf f.type)) = g.offset - o by omega]
      exact h1) w1
    refine ⟨m1 ++ m2, u ++ us, ?_⟩
    rw [← List.append_assoc]
    refine ⟨w2, ?_, u, us, rfl, mono _ _ _ _ (roN_app _ _) t1, t2⟩
    have := (r1.mono (roM_app (rs ++ m1) m2)).append r2
    rwa [List.take_append_drop] at this
section
variable {P : Program} {CT : FuncId → List Value → Hp → (Value → Hp → Prop) → Prop} {d : Option Nat} {xs : List Operand} {env : Env} {h : Hp} {R : Value → Hp → Prop}
/-- l[:m] of a row that is read. -/
theorem w_slP {k m n c : Nat} {x : Option Addr} {us : List (List Value)} (e : mapF env xs = some [.slice x n c, .int .i64 (m : Int)]) (r : RR k h (.slice x n c) us) (hc : us.length ≤ c) (hm : m ≤ us.length)
    (nx : ∀ s', RR k h s' (us.take m) → R s' h) : WI P CT ⟨d, none, .op (.slc k false true false) xs⟩ env h R := by
  have hbd : bounds us.length c none (some (.int .i64 (m : Int))) none = some (0, m, c) := by
    have : (0 : Int) ≤ m ∧ (m : Int) ≤ c := by omega
    simp [bounds, bnd, this]
  rcases r with ⟨e1, e2⟩ | ⟨i, o, sp, c', e1, hi, hsp, hr⟩
  · cases e1
    subst e2
    have hm0 : m = 0 := by simpa using hm
    subst hm0
    refine w_op (v := .slice none 0 0) (h' := h) ?_ (nx _ (.inl ⟨rfl, rfl⟩))
    unfold opF
    rw [e]
    have hbd : bounds 0 0 none (some (.int .i64 ((0 : Nat) : Int))) none = some (0, 0, 0) := hbd
    simp only [stepK, get3, takeB, sliceA, hbd, Option.map_some]
  · cases e1
    have hrd : ∀ (y : Nat) u, (us.take m)[y]? = some u → h.rd i (o + y * k) k = some u := by
      intro y u hu
      rw [List.getElem?_take] at hu
      split at hu
      · exact hr y u hu
      · cases hu
    have hl : (us.take m).length = m := by rw [List.length_take, Nat.min_eq_left hm]
    rcases sp with _ | _ | sp
    · refine w_op (v := .slice (some ⟨i, o, none⟩) m c) (h' := h) ?_ (nx _ (.inr ⟨i, o, none, c, by rw [hl], hi, fun _ => rfl, hrd⟩))
      unfold opF
      rw [e]
      simp only [stepK, get3, takeB, sliceA, hbd, Option.map_some, Nat.sub_zero]
      simp
    · refine w_op (v := .slice (some ⟨i, o, some (if c = 0 then 1 else 0)⟩) m c) (h' := h) ?_ (nx _ (.inr ⟨i, o, _, c, by rw [hl], hi, fun hne => ?_, hrd⟩))
      · unfold opF
        rw [e]
        simp only [stepK, get3, takeB, sliceA, hbd, Nat.sub_zero]
        simp
      · have hpos := List.length_pos_iff.2 hne
        rw [hl] at hpos
        rw [if_neg (by omega)]
        rfl
    · have hu0 : us = [] := by
        by_cases h0 : us = []
        · exact h0
        · have := hsp h0
          simp at this
      subst hu0
      have hm0 : m = 0 := by simpa using hm
      subst hm0
      refine w_op (v := .slice (some ⟨i, o, some (sp + 1)⟩) 0 c) (h' := h) ?_ (nx _ (.inr ⟨i, o, some (sp + 1), c, rfl, hi, fun h0 => absurd rfl h0, fun y u hu => by cases hu⟩))
      unfold opF
      rw [e]
      simp only [stepK, get3, takeB, sliceA, hbd, Option.map_some, Nat.sub_zero]
/-- l[m:] of a row that is read. -/
theorem w_slS {k m n c : Nat} {x : Option Addr} {us : List (List Value)} (e : mapF env xs = some [.slice x n c, .int .i64 (m : Int)]) (r : RR k h (.slice x n c) us) (hc : us.length ≤ c) (hm : m ≤ us.length)
    (nx : ∀ s', RR k h s' (us.drop m) → R s' h) : WI P CT ⟨d, none, .op (.slc k true false false) xs⟩ env h R := by
  have hbd : bounds us.length c (some (.int .i64 (m : Int))) none none = some (m, us.length, c) := by
    have : (0 : Int) ≤ m ∧ (m : Int) ≤ us.length := by omega
    have h2 : ¬ c < us.length := by omega
    simp [bounds, bnd, this, h2]
  rcases r with ⟨e1, e2⟩ | ⟨i, o, sp, c', e1, hi, hsp, hr⟩
  · cases e1
    subst e2
    have hm0 : m = 0 := by simpa using hm
    subst hm0
    refine w_op (v := .slice none 0 0) (h' := h) ?_ (nx _ (.inl ⟨rfl, rfl⟩))
    unfold opF
    rw [e]
    have hbd : bounds 0 0 (some (.int .i64 ((0 : Nat) : Int))) none none = some (0, 0, 0) := hbd
    simp only [stepK, get3, takeB, sliceA, hbd, Option.map_some]
  · cases e1
    have hrd : ∀ (y : Nat) u, (us.drop m)[y]? = some u → h.rd i (o + m * k + y * k) k = some u := by
      intro y u hu
      rw [List.getElem?_drop] at hu
      have := hr (m + y) u hu
      rwa [Nat.add_mul, ← Nat.add_assoc] at this
    have hl : (us.drop m).length = us.length - m := by rw [List.length_drop]
    rcases sp with _ | _ | sp
    · by_cases hcm : c = m
      · have hum : us.length = m := by omega
        have hd0 : us.drop m = [] := List.eq_nil_of_length_eq_zero (by rw [hl]; omega)
        refine w_op (v := .slice (some ⟨i, o, none⟩) (us.length - m) (c - m)) (h' := h) ?_ (nx _ (.inr ⟨i, o, none, c - m, by rw [hl], hi, fun _ => rfl, fun y u hu => by rw [hd0] at hu; cases hu⟩))
        unfold opF
        rw [e]
        simp only [stepK, get3, takeB, sliceA, hbd, Option.map_some, if_pos hcm]
      · refine w_op (v := .slice (some ⟨i, o + m * k, none⟩) (us.length - m) (c - m)) (h' := h) ?_ (nx _ (.inr ⟨i, o + m * k, none, c - m, by rw [hl], hi, fun _ => rfl, hrd⟩))
        unfold opF
        rw [e]
        simp only [stepK, get3, takeB, sliceA, hbd, Option.map_some, if_neg hcm]
    · refine w_op (v := .slice (some ⟨i, o + m * k, some (if c = m then 1 else 0)⟩) (us.length - m) (c - m)) (h' := h) ?_ (nx _ (.inr ⟨i, o + m * k, _, c - m, by rw [hl], hi, fun hne => ?_, hrd⟩))
      · unfold opF
        rw [e]
        simp only [stepK, get3, takeB, sliceA, hbd]
        simp
      · have hpos := List.length_pos_iff.2 hne
        rw [hl] at hpos
        rw [if_neg (by omega)]
        rfl
    · have hu0 : us = [] := by
        by_cases h0 : us = []
        · exact h0
        · have := hsp h0
          simp at this
      subst hu0
      have hm0 : m = 0 := by simpa using hm
      subst hm0
      refine w_op (v := .slice (some ⟨i, o, some (sp + 1)⟩) (([] : List (List Value)).length - 0) (c - 0)) (h' := h) ?_ (nx _ (.inr ⟨i, o, some (sp + 1), c - 0, rfl, hi, fun h0 => absurd rfl h0, fun y u hu => by cases hu⟩))
      unfold opF
      rw [e]
      simp only [stepK, get3, takeB, sliceA, hbd, Option.map_some]
end
theorem open_gen {H : Type} {enc : TypeId × Value → H} {P : Program} {W : World} {held : Bool} (hz : 0 < W.heap.size) : ∀ (n : Nat) (t : TypeId) (cs : List Value) (x : DataW H × List MemPlace) (fuel : Nat) (rs : List Ro), plT P n t = true →
    DataW.trod enc P W 0 (fun _ => true) held fuel t cs = some x → Wn W rs → ∃ more cs', Wn W (rs ++ more) ∧ RVs (roM (rs ++ more)) cs' cs ∧ Tv P (roN (rs ++ more)) n t cs'
  | 0, _, _, _, _, _, h, _, _ => by simp [plT] at h
  | n + 1, t, cs, x, fuel, rs, hp, hx, w => by
    unfold plT at hp
    unfold Tv
    split at hp
    · next ht =>
      obtain ⟨b, rfl, _⟩ := DataW.trod_bool ht hx
      exact ⟨[], [.bool b], by simpa using w, RVs.cons (.bool b) (RVs.nil _), ⟨b, rfl⟩⟩
    · next k ht =>
      obtain ⟨b, rfl, _, hw⟩ := DataW.trod_int ht hx
      exact ⟨[], [.int k b], by simpa using w, RVs.cons (.int k b) (RVs.nil _), ⟨b, rfl, hw⟩⟩
    · next ht =>
      obtain ⟨b, rfl, _, hw⟩ := DataW.trod_string ht hx
      exact ⟨[], [.string b], by simpa using w, RVs.cons (.string b) (RVs.nil _), ⟨b, rfl, hw⟩⟩
    · next e ht =>
      rw [Bool.and_eq_true, decide_eq_true_eq] at hp
      obtain ⟨hk, hp⟩ := hp
      rcases DataW.trod_slice ht hx with ⟨rfl, _⟩ | ⟨a, len, cap, elems, rest, m, _, rfl, _, _, hlc, hcm, hln, hel, hsp, _⟩
      · exact ⟨[], [.slice none 0 0], by simpa using w, RVs.cons (.nils 0 0) (RVs.nil _), _, [], rfl, .inl ⟨rfl, rfl⟩, by simp, Nat.zero_le _, _, _, rfl, Nat.le_refl _⟩
      obtain ⟨hrl, hrest⟩ := hsp rfl
      by_cases hc : cap = 0
      · obtain rfl : len = 0 := by omega
        subst hc
        exact ⟨[some (⟨0, 0, 0⟩, [])], [.slice (some ⟨rs.length, 0, some 1⟩) 0 0], w.snoc hz (by simp), RVs.cons (.sliceY (l := ⟨0, 0, 0⟩) a (roN_get (cs := []) (by simp)).2) (RVs.nil _), _, [], rfl,
          .inr ⟨rs.length, 0, some 1, 0, rfl, by simp [roN], fun h => absurd rfl h, fun x u hu => by cases hu⟩, by simp, Nat.zero_le _, _, _, rfl, Nat.le_refl _⟩
      have hcs : ∀ i, i < len → ∃ c, W.cells? 0 (a.add (i * P.cellsOf e)) (P.cellsOf e) = some c ∧ ∃ y, DataW.trod enc P W 0 (fun _ => true) held m e c = some y := by
        intro i hi
        have h1 := hel i hi
        rw [List.getElem?_eq_getElem (by omega), Option.bind_eq_some_iff] at h1
        obtain ⟨c, h2, h3⟩ := h1
        exact ⟨c, h2, _, h3⟩
      have h0 : ∃ c, W.cells? 0 (a.add 0) (P.cellsOf e) = some c := by
        by_cases hl : 0 < len
        · obtain ⟨c, h1, _⟩ := hcs 0 hl
          rw [Nat.zero_mul] at h1
          exact ⟨c, h1⟩
        · have h1 := hrest 0 (by omega)
          rw [List.getElem?_eq_getElem (by omega), Option.bind_eq_some_iff, show len + 0 = 0 by omega, Nat.zero_mul] at h1
          exact ⟨_, h1.choose_spec.1⟩
      obtain ⟨c0, h0⟩ := h0
      obtain ⟨_, hl0, hc0⟩ := World.cells?_some h0
      have h00 := hc0 0 hk
      rw [add_add, List.getElem?_eq_getElem (by omega)] at h00
      have hat := cell_at h00
      have hadd : a.add (0 + 0) = a := by simp [Addr.add]
      rw [hadd] at hat
      obtain ⟨b, off, sp⟩ := a
      obtain ⟨hs, hb⟩ := hat
      have hs : sp = none := hs
      subst hs
      have hb : b < W.heap.size := hb
      obtain ⟨more, uss, w1, r2, t2⟩ := open_list (W := W) (T := fun h c => Tv P h n e c) (fun _ _ _ x y => y.ext x) (D := fun c => c.length = P.cellsOf e ∧ ∃ y, DataW.trod enc P W 0 (fun _ => true) held m e c = some y)
        (fun cs rs d w => open_gen hz n e cs _ m rs hp d.2.choose_spec w) ((List.range len).map fun i => (W.cells? 0 ((⟨b, off, none⟩ : Addr).add (i * P.cellsOf e)) (P.cellsOf e)).getD []) rs (fun c hcm => by
          obtain ⟨i, hi, rfl⟩ := List.mem_map.1 hcm
          rw [List.mem_range] at hi
          obtain ⟨c, h1, h2⟩ := hcs i hi
          rw [h1]
          exact ⟨(World.cells?_some h1).2.1, h2⟩) w
      have hlk : ∀ c ∈ ((List.range len).map fun i => (W.cells? 0 ((⟨b, off, none⟩ : Addr).add (i * P.cellsOf e)) (P.cellsOf e)).getD []), c.length = P.cellsOf e := by
        intro c hcm
        obtain ⟨i, hi, rfl⟩ := List.mem_map.1 hcm
        rw [List.mem_range] at hi
        obtain ⟨c, h1, h2⟩ := hcs i hi
        rw [h1]
        exact (World.cells?_some h1).2.1
      have hul : uss.length = len := by rw [r2.1]; simp
      have hels : Els (P.cellsOf e) uss := by
        intro u hu
        refine ⟨?_, (t2 u hu).one⟩
        obtain ⟨i, hi, rfl⟩ := List.getElem_of_mem hu
        have hi2 : i < ((List.range len).map fun i => (W.cells? 0 ((⟨b, off, none⟩ : Addr).add (i * P.cellsOf e)) (P.cellsOf e)).getD []).length := by rw [← r2.1]; exact hi
        have := (r2.2 i _ _ (List.getElem?_eq_getElem hi) (List.getElem?_eq_getElem hi2)).1
        rw [this]
        exact hlk _ (List.getElem_mem hi2)
      refine ⟨more ++ [some (⟨b, off, 0⟩, uss.flatten)], [.slice (some ⟨(rs ++ more).length, 0, none⟩) len cap], ?_⟩
      rw [← List.append_assoc]
      have hJ : (rs ++ more ++ [some (⟨b, off, 0⟩, uss.flatten)])[(rs ++ more).length]? = some (some (⟨b, off, 0⟩, uss.flatten)) := by simp
      refine ⟨w1.snoc hb fun i v hv => ?_, RVs.cons (.slice (roN_get hJ).2) (RVs.nil _), _, uss, rfl, .inr ⟨(rs ++ more).length, 0, none, cap, by rw [hul], by simp [roN], fun _ => rfl, fun x u hu => rd_row2 (tl := []) (by rw [List.append_nil]; exact (roN_get hJ).1) hels hu⟩, fun u hu => (t2 u hu).ext (roN_app _ _), by omega, _, _, by rw [hul], by omega⟩
      obtain ⟨v', hv', rv⟩ := r2.flat.get hv
      refine ⟨v', ?_, rv⟩
      have hi := (List.getElem?_eq_some_iff.1 hv').1
      rw [flat_len hlk] at hi
      rw [flat_get hlk i hi] at hv'
      have hq : i / P.cellsOf e < len := by
        rw [List.length_map, List.length_range] at hi
        exact Nat.div_lt_of_lt_mul (by rw [Nat.mul_comm]; exact hi)
      obtain ⟨c, h1, _⟩ := hcs _ hq
      rw [List.getElem?_map, List.getElem?_range hq, Option.map_some, h1] at hv'
      have hv' : c[i % P.cellsOf e]? = some v' := hv'
      have h2 := (World.cells?_some h1).2.2 (i % P.cellsOf e) (Nat.mod_lt _ hk)
      rw [add_add, Nat.mul_comm, Nat.div_add_mod, hv'] at h2
      rw [← h2]
      unfold Addr.add
      split
      · next e0 => subst e0; rfl
      · rfl
    · next fs ht =>
      obtain ⟨xs, m, _, _, hl, hlen, hf⟩ := DataW.trod_struct ht hx
      exact open_fld (T := fun h => Tv P h n) (fun _ _ _ _ x y => y.ext x) (D := fun t c => ∃ y, DataW.trod enc P W 0 (fun _ => true) held m t c = some y) (fun t cs rs hp d w => open_gen hz n t cs _ m rs hp d.choose_spec w)
        fs.toList 0 _ cs rs hp (by omega) (fun f hfm => by
          obtain ⟨i, hi, rfl⟩ := List.getElem_of_mem hfm
          have hi2 : i < fs.size := by simpa using hi
          have := hf i _ (Array.getElem?_eq_getElem hi2)
          rw [List.getElem?_eq_getElem (by omega)] at this
          exact ⟨_, by simpa using this⟩) w
    · next m' e ht =>
      rw [Bool.and_eq_true, decide_eq_true_eq] at hp
      obtain ⟨xs, m, _, _, hl, hlen, hf⟩ := DataW.trod_array ht hx
      obtain ⟨more, uss, w1, r2, t2⟩ := open_list (W := W) (T := fun h c => Tv P h n e c) (fun _ _ _ x y => y.ext x) (D := fun c => ∃ y, DataW.trod enc P W 0 (fun _ => true) held m e c = some y)
        (fun cs rs d w => open_gen hz n e cs _ m rs hp.2 d.choose_spec w) ((List.range m').map fun i => (cs.drop (i * P.cellsOf e)).take (P.cellsOf e)) rs (fun c hcm => by
          obtain ⟨i, hi, rfl⟩ := List.mem_map.1 hcm
          rw [List.mem_range] at hi
          have := hf i hi
          rw [List.getElem?_eq_getElem (by omega)] at this
          exact ⟨_, this⟩) w
      refine ⟨more, uss.flatten, w1, ?_, uss, rfl, by rw [r2.1]; simp, t2⟩
      have := r2.flat
      rwa [chunks m' cs (by rw [hl, hp.1])] at this
    · cases hp
end Go.Proofs.YtapbmmlgmcmpnaaDoorW.Am
/- From a law's contract to its row: with the laid condition and the world's shape. -/
namespace Go.Proofs.YtapbmmlgmcmpnaaDoorW.Am
open Go Go.RowKit
variable {H : Type} {enc : TypeId × Value → H}
theorem handed_and_shaped {a : Assume} {C : Checked} {os : Os} {f : FuncId} {fn : Func} {s : ChangeSpec} {conds : List PathCond} {apart fresh handsOn again : Bool} {X : World → Array Value → Prop}
    (hX : ∀ (w w' : World) (args : Array Value), w.heap = w'.heap → X w args → X w' args)
    (own : ownKnob C.prog.godebug = none) (started : os.Started) (noInit : C.prog.inits.idxOf? f = none) (hfn : C.prog.funcs[f]? = some fn)
    (witness : ∃ (w : World) (tape : Tape) (i : Input), w.os = os ∧ (w.forCall tape i).Shaped C.prog ∧ i.vars = [] ∧ Input.okWide C.prog (w.forCall tape i) .any w.heap.size f i ∧
      ((s.pre enc C.prog fn conds apart (w.forCall tape i).memory i.args ∧ X (w.forCall tape i).memory i.args) ∧ sizedMet enc C.prog fn (OpenSpec.ofChange s) apart (w.forCall tape i).memory i.args) ∧ a.holds C.prog (lone (Frame.enter C.prog f i.args .normal) [] (w.forCall tape i)))
    (contract : ∀ (W : World) (base : Nat) (args : Array Value) (ds gs : List (DataW H)) (before : List MemPlace),
      (∀ (j : Nat) t v, fn.params[j]? = some t → args[j]? = some v → Value.okWide C.prog W .any base t v) →
      DataW.Whole enc C.prog fn.params.toList s.vars apart W args.toList ds gs before →
      conds.all (PathCond.test C.prog ⟨fn.params.toList, ds, s.plain.varTypes C.prog, gs⟩) = true →
      (DataW.weightsEach C.prog (fn.params.toList ++ s.plain.varTypes C.prog) (ds ++ gs)).all (· ≤ reachBytes) = true → X W args → W.ShapedOpen C.prog →
      a.holds C.prog (lone (Frame.enter C.prog f args .normal) [] W) →
      Calls C.prog f args W fun e W' => ∃ v, e = .returned v ∧ s.post enc C.prog fn apart fresh handsOn again W args v W') :
    ReturnsInHanded a C os f .any (fun w args => (s.pre enc C.prog fn conds apart w args ∧ X w args) ∧ sizedMet enc C.prog fn (OpenSpec.ofChange s) apart w args) (s.post enc C.prog fn apart fresh handsOn again) := by
  refine returnsInHanded_of_calls own started noInit witness ?_
  intro w tape i _ hsh _ hok hpre hholds
  obtain ⟨_, _, _, fn', hfn', _, _, _, _, hval⟩ := hok
  have e : fn' = fn := Option.some.inj (hfn'.symm.trans hfn)
  subst e
  obtain ⟨⟨⟨ds, gs, before, hw, hc⟩, hx⟩, hz⟩ := hpre
  have hw' := DataW.Whole.of_heap (w' := w.forCall tape i) (by rfl) hw
  refine (contract (w.forCall tape i) w.heap.size i.args ds gs before hval hw' hc (hz.weights hw) (hX _ _ _ (by rfl) hx) hsh hholds).mono fun e W' ⟨v, he, hp⟩ => ?_
  subst he
  exact ChangeSpec.post_blind hp
end Go.Proofs.YtapbmmlgmcmpnaaDoorW.Am
/- What the rows list: a world that holds the tables; what the condition gives. -/
namespace Go.Proofs.YtapbmmlgmcmpnaaDoorW.Am
open Go Go.RowKit
open Go.Proofs.YtapbmmlgmcmpnaaDoor
def cellsL : DataW Unit → Array Value
  | .agg l => (l.flatMap fun
    | .lit (.int k z) => [Value.int k z]
    | .agg m => m.map fun | .lit (.int k z) => Value.int k z | _ => .bool false
    | _ => [.bool false]).toArray
  | _ => #[]
noncomputable def lowN : Nat := (World.holding Go.Proofs.Tryd.prog default ⟨#[], #[], []⟩).heap.size
def setBlk (b : Nat) (c : Array Value) (h : Array Obj) : Array Obj := h.modify b fun
  | .cells _ t frozen => .cells c t frozen
  | o => o
noncomputable def laidWorld (os : Os) : World :=
  let w0 := World.holding Go.Proofs.Tryd.prog os ⟨#[.cells #[.string ⟨#[118, 97, 108, 117, 101, 32, 111, 117, 116, 32, 111, 102, 32, 114, 97, 110, 103, 101]⟩] 142, .cells #[.string ⟨#[105, 110, 118, 97, 108, 105, 100, 32, 115, 121, 110, 116, 97, 120]⟩] 142], #[], []⟩
  { w0 with heap := setBlk 2 (cellsL Rows.laid_unicode_utf8_first) (setBlk 4 #[.iface 140 (.pointer (some ⟨lowN + 1, 0, none⟩))] (setBlk 5 #[.iface 140 (.pointer (some ⟨lowN, 0, none⟩))]
      (setBlk 3 (cellsL Rows.laid_unicode_utf8_acceptRanges) (setBlk 1 (cellsL Rows.laid_internal_strconv_uint64pow10) (setBlk 7 (cellsL Rows.laid_math_bits_deBruijn64tab) (setBlk 6 (cellsL Rows.laid_math_bits_deBruijn32tab) w0.heap)))))) }
abbrev laidL : List (String × DataW Unit) := [("math/bits.deBruijn32tab", Rows.laid_math_bits_deBruijn32tab), ("math/bits.deBruijn64tab", Rows.laid_math_bits_deBruijn64tab), ("internal/strconv.uint64pow10", Rows.laid_internal_strconv_uint64pow10), ("unicode/utf8.acceptRanges", Rows.laid_unicode_utf8_acceptRanges), ("strconv.ErrRange", Rows.laid_strconv_ErrRange), ("strconv.ErrSyntax", Rows.laid_strconv_ErrSyntax), ("unicode/utf8.first", Rows.laid_unicode_utf8_first)]
theorem gP : Go.Proofs.Tryd.prog.globalNamed "internal/strconv.uint64pow10" = some 1 := by kernel_rfl
theorem tb_laid {W : World} (h : laidMet Go.Proofs.Tryd.prog laidL W) (hsh : W.ShapedOpen Go.Proofs.Tryd.prog) : TbP W :=
  ⟨Go.Lib.tabIs_of_head (rest := _) gP (by kernel_rfl : (Go.Proofs.Tryd.prog.globals[1]?).map (·.type) = some 123) Go.Proofs.Tryd.underlying123 Go.Proofs.Tryd.underlying106 (by kernel_rfl) (by kernel_rfl) (laidMet.tail (laidMet.tail h)), Tryd.laysM146.s1_3 W hsh⟩
theorem hz_laid {W : World} (h : laidMet Go.Proofs.Tryd.prog laidL W) (hsh : W.ShapedOpen Go.Proofs.Tryd.prog) : 0 < W.heap.size :=
  Nat.lt_of_le_of_lt (Nat.zero_le _) (cell_at (Go.Lib.TabIs.cell (tb_laid h hsh).1 gP 0 (by decide))).2
theorem laid_met (os : Os) (args : Array Value) : laidMet Go.Proofs.Tryd.prog laidL ((laidWorld os).forCall (fun _ _ => 0) ⟨#[], args, []⟩).memory :=
  laidMet_of_run3 10 (by kernel_rfl) (by kernel_rfl) (by kernel_rfl)
end Go.Proofs.YtapbmmlgmcmpnaaDoorW.Am
/- TextBlanks holds: empty lines, notes, and blanks at both ends change nothing; the number of a wrong line counts them. For every input. -/
namespace Go.Proofs.YtapbmmlgmcmpnaaDoor.textBlanks
open Go.ChangeShapes Go.WideShapes Go.ChangeAt Go.RowKit
open Go.Proofs.YtapbmmlgmcmpnaaDoorW.Am
theorem own : ownKnob Tryd.prog.godebug = none := by kernel_rfl
set_option maxRecDepth 100000 in
theorem lifted (os : Os) (started : os.Started) (H : Type) (enc : TypeId × Value → H) :
    ReturnsInHanded {} Tryd.checked os 3 .any (fun w args => (Rows.textBlanksSpec.pre enc Tryd.prog Tryd.f3 [] false w args ∧ laidMet Tryd.prog laidL w) ∧ sizedMet enc Tryd.prog Tryd.f3 (OpenSpec.ofChange Rows.textBlanksSpec) false w args)
      (Rows.textBlanksSpec.post enc Tryd.prog Tryd.f3 false true false false) := by
  refine handed_and_shaped (C := Tryd.checked) (X := fun w _ => laidMet Tryd.prog laidL w) (fun _ _ _ hh h => h.of_heap hh) own started (by kernel_rfl) Tryd.func3
    (ChangeSpec.witness_at (enc := enc) (C := Tryd.checked) (os := os) (X := fun w _ => laidMet Tryd.prog laidL w) false (laidWorld os) #[.int .i64 0, .int .i64 0] 8 rfl (by kernel_rfl) (by kernel_rfl) (by kernel_rfl) (by kernel_rfl) (by kernel_rfl) (laid_met os _)) ?_
  intro W base args ds gs before hval0 hW hcnd hsz0 hL hsh _
  have tbW : Tb W.heap.size W := tb_of (tb_laid hL hsh)
  have hval : ∀ (j : Nat) t v, Tryd.f3.params[j]? = some t → args[j]? = some v → Value.okWide Tryd.prog W .any base t v := hval0
  have hW' := hW
  obtain ⟨p, q, hA0, hV, rfl, hfz, hnd⟩ := hW
  have hA : DataW.TrodAll enc Tryd.prog W 0 (fun _ => true) true Tryd.f3.params.toList args.toList ds p := hA0
  rw [Tryd.params3] at hA hval
  obtain ⟨v0, vs0, d0, ds0, p0, q0, hargs, rfl, rfl, h0, r0⟩ := trodAll_cons hA
  obtain ⟨v1, vs1, d1, ds1, p1, q1, rfl, rfl, rfl, h1, r1⟩ := trodAll_cons r0
  obtain ⟨rfl, rfl, rfl⟩ := trodAll_nil r1
  obtain rfl : args = #[v0, v1] := by cases args; simp_all
  obtain ⟨rfl, rfl⟩ := trodVars_none hV
  obtain ⟨a0, rfl, rfl, rfl, w0⟩ := open_int Tryd.underlying3 (hval 0 3 v0 rfl rfl) h0
  obtain ⟨a1, rfl, rfl, rfl, w1⟩ := open_int Tryd.underlying3 (hval 1 3 v1 rfl rfl) h1
  refine (law_plain (tblanks_ok a0 a1 _) rfl W).mono fun e W' ⟨he, bel⟩ => ?_
  subst he
  exact ⟨_, rfl, _, _, _, [], _, [], hW', trodAll_mk1 (shut_bool Tryd.underlying4 _), (trodAll_cons_mk (shut_int Tryd.underlying3 w0) (trodAll_cons_mk (shut_int Tryd.underlying3 w1) trodAll_mk0)), rfl, bel.frame _, fun h => by cases h⟩
theorem over : Rows.textBlanksRow.holds Tryd.pinned (OpenSpec.ofChange Rows.textBlanksSpec) :=
  OpenClaim.holds_of_wide 3 Tryd.f3 rfl rfl rfl rfl rfl rfl rfl ⟨rfl, rfl, rfl, rfl, rfl⟩ rfl rfl rfl rfl rfl (by kernel_rfl) Tryd.func3 (by kernel_rfl)
    (of_decide_eq_true (by kernel_rfl)) (by unfold Func.isWrapper; first | (rw [if_pos (by decide +kernel)]; kernel_rfl) | (rw [if_neg (by decide +kernel)]; exact ⟨rfl, rfl⟩))
    (fun os started H enc _ => lifted os started H enc)
theorem cardOver : Rows.TextBlanksCardSaid :=
  Claim7.holds_tied_plain_at .later [] [.data, .data, .data, .data, .sentinel, .sentinel, .pinned] true (true, "2b63ca96292b6a068453959516a9bb9ac68981dd8b203f6dc88024ccca19ea9f") true
    over (fun _ h => by cases h) (by kernel_rfl) (fun _ h => by cases h) textBlanks_row_tie rfl ⟨rfl, rfl⟩ (by kernel_rfl) rfl
    (fun f fn hf hfn => by
      obtain rfl : f = 3 := Option.some.inj ((show Tryd.prog.funcNamed "spinnaker/spinnakerlaw4.TextBlanks" = some 3 by kernel_rfl).symm.trans hf) |>.symm
      obtain rfl : fn = Tryd.f3 := (Option.some.inj (Tryd.func3.symm.trans hfn)).symm
      exact ⟨by kernel_rfl, fun j t ht => by
        rw [Tryd.params3] at ht
        have h3 : t ∈ [3, 3] := List.mem_of_getElem? (by simpa using ht)
        simp only [List.mem_cons, List.not_mem_nil, or_false] at h3
        rcases h3 with rfl | rfl
        · exact (show Tryd.prog.wantsStandIn 3 = false by kernel_rfl)
        · exact (show Tryd.prog.wantsStandIn 3 = false by kernel_rfl)⟩)
    (by kernel_rfl)
theorem proved : Rows.TextBlanksCardSaid := cardOver
#print axioms proved
end Go.Proofs.YtapbmmlgmcmpnaaDoor.textBlanks
namespace Go.Proofs.YtapbmmlgmcmpnaaDoor
/-- The row, under a short name, for the claim. -/
theorem textBlanks_holds : Rows.TextBlanksCardSaid := textBlanks.proved
end Go.Proofs.YtapbmmlgmcmpnaaDoor
