/- Not down at once: what was wanted, over abstract heaps. -/
import Derived.Test.YtelmcfnkclihcaaGreatDoorTopK3
import Derived.Shelf.SlSortCmp.Whole1
import Derived.Ground.SlsfProg
import Derived.Test.YtelmcfnkclihcaaGreatDoorProg
import Derived.Sort.LotA
namespace Go.Proofs.YtelmcfnkclihcaaGreatDoorW.Am
open Go Go.RowKit
def wE (p : Int × Int) : Value := .iface 220 (.agg ⟨[nI p.1,nI p.2]⟩)
def dlV (s : Value) (d : Dl) : List Value := [s,nI d.span,nI d.last]
def DlF (h : Hp) (S : Ft) (D : Nat) (d : Dl) : Prop := ∃ j s,D < h.nx ∧ j < h.nx ∧ h.get D = some ⟨dlV s d,true,0⟩ ∧ LR h D j s (d.l.map wE) ∧ S D ∧ S j
theorem DlF.keep {h h' : Hp} {S S' : Ft} {D : Nat} {d : Dl} (a : DlF h S D d) (hn : h.nx ≤ h'.nx) (hk : ∀ k,k < h.nx → S k → h'.get k = h.get k) (hs : ∀ k,k < h.nx → S k → S' k) : DlF h' S' D d := by
 obtain ⟨j,s,hD,hj,hg,lr,h1,h2⟩ := a
 exact ⟨j,s,by omega,by omega,(hk D hD h1).trans hg,lr.keep fun _ => hk j hj h2,hs _ hD h1,hs _ hj h2⟩
structure DlB (d : Dl) (T : Int) : Prop where
 sp : 0 ≤ d.span ∧ d.span ≤ 600
 la : 0 ≤ d.last ∧ d.last ≤ T
 l : ∀ w ∈ d.l,0 ≤ w.1 ∧ w.1 ≤ T ∧ 0 ≤ w.2 ∧ w.2 ≤ 1000000
 n : (d.l.length : Int) ≤ T
theorem DlB.mono {d : Dl} {T T' : Int} (b : DlB d T) (h : T ≤ T') : DlB d T' := ⟨b.sp,by have := b.la; omega,fun w hw => by have := b.l w hw; omega,Int.le_trans b.n h⟩
theorem dlnew_ok (h : Hp) {span : Int} (hs : 0 ≤ span ∧ span ≤ 600) : ACall PX 45 [nI span] h (fun v g => v = ptr h.nx ∧ DlF g (fun k => h.nx ≤ k) h.nx ⟨[],span,0⟩ ∧ Ext h g ∧ g.nx = h.nx + 1) := by
 refine acallA Tryz.func45 c45 ?_
 unfold ir45
 dsimp only [qo,qm,qk,q2,qi,qg,qn,qc,dq,ci,cb,qh,qs]
 repeat (first | apply sS | apply sE | refine w_mv rfl ?_ | refine w_pickF rfl ?_ | refine w_gT rfl rfl ?_ | (apply is_bin; refine w_cF rfl ?_) | apply ai_seq | apply ai_regW | refine ai_cF rfl ?_ | apply ai_skip)
 refine w_op (v := .agg ⟨dlV (.slice none 0 0) ⟨[],span,0⟩⟩) (h' := h) rfl ?_
 repeat (first | apply sS)
 refine w_op (v := ptr h.nx) (h' := h.new ⟨dlV (.slice none 0 0) ⟨[],span,0⟩,true,0⟩) rfl ?_
 repeat (first | apply sS | apply sE | refine w_mv rfl ?_ | (apply ai_ret; repeat (first | rw [thenQ_r] | rw [blockQ_r] | rw [roundE_r])))
 exact end_one rfl ⟨rfl,⟨h.nx,_,by simp [Hp.new],by simp [Hp.new],new_get _ _,.inl ⟨rfl,rfl⟩,Nat.le_refl _,Nat.le_refl _⟩,Ext.new _ _,by simp [Hp.new]⟩
theorem span_ok (h : Hp) {S : Ft} {D : Nat} {d : Dl} (a : DlF h S D d) {n : Int} (hn : 0 ≤ n ∧ n ≤ 600) : ACall PX 93 [ptr D,nI n] h (fun _ g => DlF g S D { d with span := n } ∧ FrP S h g ∧ g.nx = h.nx) := by
 obtain ⟨j,s,hD,hj,hg,lr,h1,h2⟩ := a
 refine acallA Tryz.func93 c93 ?_
 unfold ir93
 dsimp only [qo,qm,qk,q2,qi,qg,qn,qc,dq,ci,cb,qh,qs]
 repeat (first | apply sS | apply sSn | apply sE | refine w_mv rfl ?_ | refine w_pickF rfl ?_ | (refine is_okn rfl ?_; refine w_op rfl ?_) | refine w_gT rfl rfl ?_ | (apply is_bin; refine w_cF rfl ?_) | apply ai_seq | apply ai_regW | refine ai_cF rfl ?_ | apply ai_skip | apply ai_block)
 refine w_st1 rfl rfl hg (by show 1 < 3; decide) rfl fun g1 m1 k1 n1 => ?_
 repeat (first | apply sS | apply sE | refine w_mv rfl ?_ | apply ai_seq | apply ai_regW | (apply ai_ret; repeat (first | rw [thenQ_r] | rw [blockQ_r] | rw [roundE_r])))
 exact end_one rfl ⟨⟨j,s,by omega,by omega,k1,lr.keep fun e => m1 j e,h1,h2⟩,⟨by omega,fun k hk hnS => m1 k fun e => hnS (e ▸ h1)⟩,n1⟩
theorem dfar_ok (h : Hp) {B : Nat} {t : Int} {w : Int × Int} (hBn : B < h.nx) (hB : h.get B = some ⟨[nI t],true,0⟩) (ht : 0 ≤ t ∧ t ≤ 1099511627776) (hw : 0 ≤ w.1 ∧ w.1 ≤ 1099511627776) : ACall PX 145 [wE w,ptr B] h (fun v g => v = .bool (!decide (t - w.1 ≤ 600)) ∧ Ext h g) := by
 refine acallA Tryz.func145 c145 ?_
 unfold ir145
 dsimp only [qo,qm,qk,q2,qi,qg,qn,qc,dq,ci,cb,qh,qs]
 repeat (first | apply sS | apply sE | refine w_mv rfl ?_ | (refine is_okn rfl ?_; refine w_op rfl ?_) | refine w_ext rfl rfl ?_ | apply ai_seq | apply ai_regW)
 refine w_new fun g1 x1 k1 n1 => ?_
 repeat (first | apply sSn)
 refine w_stN rfl rfl k1 rfl rfl fun g2 m2 k2 n2 => ?_
 have x2 := x1.own m2 n2
 have B2 := (x2.2 B hBn).trans hB
 by_cases q : t - w.1 ≤ 600
 ·rw [decide_eq_true q]
  repeat (first | apply sS | apply sE | refine w_mv rfl ?_ | refine w_pickF rfl ?_ | (refine is_okn rfl ?_; refine w_op rfl ?_) | refine w_gT rfl rfl ?_ | (apply is_ld; refine w_ldA rfl ?_) | (apply is_bin; refine w_subA rfl ?_) | (apply is_bin; refine w_cF rfl ?_) | apply ai_seq | apply ai_regW | (apply ai_ret; repeat (first | rw [thenQ_r] | rw [blockQ_r] | rw [roundE_r])))
  exact end_one rfl ⟨rfl,x2⟩
 ·rw [decide_eq_false q]
  repeat (first | apply sS | apply sE | refine w_mv rfl ?_ | refine w_pickF rfl ?_ | (refine is_okn rfl ?_; refine w_op rfl ?_) | refine w_gT rfl rfl ?_ | (apply is_ld; refine w_ldA rfl ?_) | (apply is_bin; refine w_subA rfl ?_) | (apply is_bin; refine w_cT rfl ?_) | apply ai_seq | apply ai_regW | (apply ai_ret; repeat (first | rw [thenQ_r] | rw [blockQ_r] | rw [roundE_r])))
  exact end_one rfl ⟨rfl,x2⟩
theorem wE_q (f : Int × Int → Bool) : ∃ q : Value → Bool,∀ p,q (wE p) = f p := by
 refine ⟨fun u => @decide (∃ p,u = wE p ∧ f p = true) (Classical.propDecidable _),fun p => ?_⟩
 rw [Bool.eq_iff_iff]
 simp only [decide_eq_true_eq]
 constructor
 ·rintro ⟨p',e,hn'⟩
  have e' : p = p' := by
   simp [wE] at e
   exact Prod.ext e.1 e.2
  rw [e']
  exact hn'
 ·exact fun hd => ⟨p,rfl,hd⟩
theorem wE_filter {f : Int × Int → Bool} {q : Value → Bool} (hq : ∀ p,q (wE p) = !f p) (l : List (Int × Int)) : (l.map wE).filter (fun u => !q u) = (l.filter f).map wE := by
 rw [List.filter_map]
 congr 1
 refine List.filter_congr fun p _ => ?_
 simp only [Function.comp]
 rw [hq p,Bool.not_not]
set_option maxHeartbeats 1000000 in
theorem dlput_ok (h : Hp) {S : Ft} {D : Nat} {d : Dl} {T t want : Int} (a : DlF h S D d) (b : DlB d T) (hT : T ≤ t) (ht : 0 ≤ t ∧ t ≤ 1099511627776) (hw : 0 ≤ want ∧ want ≤ 1000000) :
  ACall PX 104 [ptr D,nI t,nI want] h (fun _ g => DlF g (Up S h g) D (dlPut d t want) ∧ FrP S h g) := by
 obtain ⟨j,s,hD,hj,hg,lr,s1,s2⟩ := a
 have hla := b.la
 have hnn := b.n
 unfold dlPut
 rw [if_neg (by omega)]
 replace hg : h.get D = some ⟨[s,nI d.span,nI d.last],true,0⟩ := hg
 refine acallA Tryz.func104 c104 ?_
 unfold ir104
 dsimp only [qo,qm,qk,q2,qi,qg,qn,qc,dq,ci,cb,qh,qs]
 repeat (first | apply sS | apply ai_seq | apply ai_regW)
 refine w_box rfl fun g1 x1 k1 n1 => ?_
 have D1 := (x1.2 D hD).trans hg
 have lr1 := lr.ext hj x1
 repeat (first | apply sS | apply sSn | apply dS | apply sE | apply dE | refine w_mv rfl ?_ | refine w_pickF rfl ?_ | (refine is_okn rfl ?_; refine w_op rfl ?_) | refine w_gT rfl rfl ?_ | (apply is_ld; refine w_ldA rfl ?_) | (apply is_bin; refine w_cF rfl ?_) | apply ai_seq | apply ai_regW | refine ai_cF rfl ?_ | apply ai_skip | refine ai_drwW (by kernel_rfl) ?_ | apply ai_block)
 refine w_st1 rfl rfl D1 (by show 2 < 3; decide) rfl fun g2 m2 k2 n2 => ?_
 have B2 := (m2 h.nx (by omega)).trans k1
 have lr2 : LR g2 D j s (d.l.map wE) := lr1.keep fun e => m2 j e
 have o1 := x1.1
 obtain ⟨q,hq⟩ := wE_q fun w => !decide (t - w.1 ≤ 600)
 repeat (first | apply sS | apply sE | refine w_mv rfl ?_ | (refine is_okn rfl ?_; refine w_op rfl ?_) | (apply is_ld; refine w_ldA rfl ?_) | apply ai_seq | apply ai_regW)
 refine w_call rfl ((delF_ok (f := 145) (caps := [ptr h.nx]) g2 q lr2 (by omega) (by rw [List.length_map]; omega) ?_).mono ?_)
 ·intro g hng hkg u hu
  obtain ⟨p,hpm,rfl⟩ := List.mem_map.1 hu
  rw [hq p]
  have hb := b.l p hpm
  exact dfar_ok g (by omega) ((hkg h.nx (by omega) (.inl (by omega))).trans B2) ht (by omega)
 rintro v g3 ⟨lr3,hn3,hk3⟩
 rw [wE_filter hq] at lr3
 have hRk : D ≠ j ∨ j = D := by
  by_cases e : j = D
  ·exact .inr e
  ·exact .inl fun e' => e e'.symm
 have D3 := (hk3 D (by omega) hRk).trans k2
 have B3 := (hk3 h.nx (by omega) (.inl (by omega))).trans B2
 have hone3 := lr3.one
 repeat (first | apply sS | apply sSn | (refine is_okn rfl ?_; refine w_op rfl ?_))
 refine w_st1 rfl hone3.2 D3 (by show 0 < 3; decide) hone3.1 fun g4 m4 k4 n4 => ?_
 have B4 := (m4 h.nx (by omega)).trans B3
 have lr4 : LR g4 D j v ((d.l.filter fun w => decide (t - w.1 ≤ 600)).map wE) := lr3.keep fun e => m4 j e
 replace k4 : g4.get D = some ⟨[v,nI d.span,nI t],true,0⟩ := k4
 repeat (first | apply dS | apply dSR | apply sE | refine w_mv rfl ?_ | refine w_bldF rfl rfl rfl rfl rfl ?_ | (refine is_okn rfl ?_; refine w_op rfl ?_) | (apply is_ld; refine w_ldA rfl ?_) | apply ai_seq | refine ai_drwW (by kernel_rfl) ?_)
 refine w_bslF rfl rfl rfl rfl rfl fun g5 x5 k5 n5 => ?_
 have D5 := (x5.2 D (by omega)).trans k4
 have lr5 := lr4.ext (by omega) x5
 have o5 := x5.1
 have hfl : (d.l.filter fun w => decide (t - w.1 ≤ 600)).length ≤ d.l.length := List.length_filter_le _ _
 repeat (first | apply dS | (apply is_ag; refine agSA ?_))
 refine w_pushL rfl lr5 k5 (by omega) (by omega) rfl (by rw [List.length_map]; omega) fun s' g6 j' lr6 hn6 hj6 hjj hk6 hone => ?_
 have D6 := (hk6 D (by omega) hRk).trans D5
 repeat (first | apply dS | apply dSn | (refine is_okn rfl ?_; refine w_op rfl ?_))
 refine w_st1 rfl (one_cells hone) D6 (by show 0 < 3; decide) hone fun g7 m7 k7 n7 => ?_
 repeat (first | apply sS | apply sE | apply dE | refine w_mv rfl ?_ | apply ai_seq | apply ai_regW | (apply ai_ret; repeat (first | rw [thenQ_r] | rw [blockQ_r] | rw [roundE_r])))
 refine end_one rfl ⟨⟨j',s',by omega,by omega,k7,?_,.inl s1,?_⟩,by omega,fun k hk hnS => ?_⟩
 ·rw [List.map_append]
  exact lr6.keep fun e => m7 j' e
 ·rcases hjj with rfl | hjj
  ·exact .inl s2
  ·exact .inr ⟨by omega,by omega⟩
 ·have e1 : k ≠ D := fun e => hnS (e ▸ s1)
  have e2 : k ≠ j := fun e => hnS (e ▸ s2)
  exact (m7 k e1).trans ((hk6 k (by omega) (.inl e2)).trans ((x5.2 k (by omega)).trans ((m4 k e1).trans ((hk3 k (by omega) (.inl e2)).trans ((m2 k e1).trans (x1.2 k hk))))))
theorem DlB.put {d : Dl} {T t want : Int} (b : DlB d T) (hT : t = T + 1) (ht : 0 ≤ t ∧ t ≤ 1099511627776) (hw : 0 ≤ want ∧ want ≤ 1000000) : DlB (dlPut d t want) t := by
 have hla := b.la
 have hnn := b.n
 have hfl : (d.l.filter fun w => decide (t - w.1 ≤ 600)).length ≤ d.l.length := List.length_filter_le _ _
 unfold dlPut
 rw [if_neg (by omega)]
 refine ⟨b.sp,by dsimp only; omega,fun w hw' => ?_,by simp; omega⟩
 rcases List.mem_append.1 hw' with hm | hm
 ·have := b.l w (List.mem_filter.1 hm).1
  omega
 ·rw [List.mem_singleton.1 hm]
  dsimp only
  omega
def mostS (span t n : Int) (w : Int × Int) : Int := if t ≤ w.1 ∨ t - w.1 < span then max n w.2 else n
theorem mostS_bd {span t : Int} : ∀ {l : List (Int × Int)} {n : Int},(∀ w ∈ l,0 ≤ w.2 ∧ w.2 ≤ 1000000) → 0 ≤ n ∧ n ≤ 1000000 → 0 ≤ l.foldl (mostS span t) n ∧ l.foldl (mostS span t) n ≤ 1000000
 | [],_,_,hn => hn
 | w :: l,n,h,hn => by
  have h1 := h w (by simp)
  refine mostS_bd (l := l) (fun v hv => h v (by simp [hv])) ?_
  unfold mostS
  split <;> omega
set_option maxHeartbeats 1000000 in
theorem dlmost_ok (h : Hp) {S : Ft} {D : Nat} {d : Dl} {T t : Int} (a : DlF h S D d) (b : DlB d T) (hT : T ≤ 1099511627776) (ht : 0 ≤ t ∧ t ≤ 1099511627776) :
  ACall PX 106 [ptr D,nI t] h (fun v g => v = nI (dlMost d t) ∧ Ext h g) := by
 have ha := a
 obtain ⟨j,s,hD,hj,hg,lr,s1,s2⟩ := a
 have hnn := b.n
 obtain ⟨x,c,e⟩ := lr.len
 subst e
 rw [List.length_map] at lr hg
 have e0 : dlMost d t = d.l.foldl (mostS d.span t) 0 := by
  unfold dlMost
  rw [show max t 0 = t by omega]
  rfl
 rw [e0]
 replace hg : h.get D = some ⟨[.slice x d.l.length c,nI d.span,nI d.last],true,0⟩ := hg
 refine acallA Tryz.func106 c106 ?_
 unfold ir106
 dsimp only [qo,qm,qk,q2,qi,qg,qn,qc,dq,ci,cb,qh,qs]
 repeat (first | apply sS | apply sE | refine w_mv rfl ?_ | (refine is_okn rfl ?_; refine w_op rfl ?_) | (apply is_ld; refine w_ldA rfl ?_) | refine w_max rfl ?_ | apply ai_seq | apply ai_regW | refine ai_cF rfl ?_ | apply ai_skip | apply ai_block)
 rw [show max t 0 = t by omega]
 skip
 refine ai_loopE (γ := Nat) (fun i => [(0,ptr D),(1,nI t),(5,nI ((d.l.take i).foldl (mostS d.span t) 0)),(17,.slice x d.l.length c),(18,nI d.l.length),(19,nI i)])
  (fun i g => Ext h g ∧ i ≤ d.l.length) (fun i => d.l.length - i) 0 leX ⟨Ext.refl _,Nat.zero_le _⟩ ?_
 rintro i g1 ⟨x1,hi⟩
 have D1 := (x1.2 D hD).trans hg
 by_cases hil : i < d.l.length
 ·have hw := b.l d.l[i] (List.getElem_mem _)
  have hu : (d.l.map wE)[i]? = some (wE d.l[i]) := by rw [List.getElem?_map,List.getElem?_eq_getElem hil]; rfl
  obtain ⟨c',e,hr⟩ := (lr.ext hj x1).at hu
  rw [List.length_map] at e
  cases e
  have hf : (d.l.take (i + 1)).foldl (mostS d.span t) 0 = mostS d.span t ((d.l.take i).foldl (mostS d.span t) 0) d.l[i] := by
   rw [List.take_succ_eq_append_getElem hil,List.foldl_append]
   rfl
  generalize d.l[i] = w at *
  have o1 := x1.1
  repeat (first | apply sS | apply sE | refine w_mv rfl ?_ | (refine is_okn rfl ?_; refine w_op rfl ?_) | refine w_ext rfl rfl ?_ | (apply is_ld; refine w_ldA rfl ?_) | (apply is_bin; refine w_cT rfl ?_) | (apply is_iad; refine w_iadA rfl ?_) | apply ai_seq | apply ai_regW | refine ai_cT rfl ?_ | apply ai_skip | apply ai_block)
  refine w_new fun g2 x2 k2 n2 => ?_
  repeat (first | apply sSn)
  refine w_stN rfl rfl k2 rfl rfl fun g3 m3 k3 n3 => ?_
  have x3 := x2.own m3 n3
  have D3 := (x3.2 D (by omega)).trans D1
  by_cases q1 : t ≤ w.1
  ·rw [show mostS d.span t ((d.l.take i).foldl (mostS d.span t) 0) w = max ((d.l.take i).foldl (mostS d.span t) 0) w.2 from if_pos (.inl q1)] at hf
   repeat (first | apply sS | apply dS | apply sE | apply dE | refine w_mv rfl ?_ | refine w_pickT rfl ?_ | (refine is_okn rfl ?_; refine w_op rfl ?_) | refine w_gT rfl rfl ?_ | refine w_gF rfl rfl ?_ | (apply is_ld; refine w_ldA rfl ?_) | (apply is_bin; refine w_addA rfl ?_) | (apply is_bin; refine w_cT rfl ?_) | refine w_max rfl ?_ | apply ai_seq | apply ai_regW | refine ai_cT rfl ?_ | refine ai_drwW (by kernel_rfl) ?_)
   exact ⟨i + 1,by dsimp only; rw [hf]; exact leX,⟨x1.trans x3,by omega⟩,by dsimp only; omega⟩
  ·by_cases q2 : t - w.1 < d.span
   ·rw [show mostS d.span t ((d.l.take i).foldl (mostS d.span t) 0) w = max ((d.l.take i).foldl (mostS d.span t) 0) w.2 from if_pos (.inr q2)] at hf
    repeat (first | apply sS | apply dS | apply sE | apply dE | refine w_mv rfl ?_ | refine w_pickT rfl ?_ | refine w_pickF rfl ?_ | (refine is_okn rfl ?_; refine w_op rfl ?_) | refine w_gT rfl rfl ?_ | (apply is_ld; refine w_ldA rfl ?_) | (apply is_bin; refine w_addA rfl ?_) | (apply is_bin; refine w_subA rfl ?_) | (apply is_bin; refine w_cT rfl ?_) | (apply is_bin; refine w_cF rfl ?_) | refine w_max rfl ?_ | apply ai_seq | apply ai_regW | refine ai_cT rfl ?_ | refine ai_drwW (by kernel_rfl) ?_)
    exact ⟨i + 1,by dsimp only; rw [hf]; exact leX,⟨x1.trans x3,by omega⟩,by dsimp only; omega⟩
   ·rw [show mostS d.span t ((d.l.take i).foldl (mostS d.span t) 0) w = (d.l.take i).foldl (mostS d.span t) 0 from if_neg (by omega)] at hf
    repeat (first | apply sS | apply dS | apply sE | apply dE | refine w_mv rfl ?_ | refine w_pickT rfl ?_ | refine w_pickF rfl ?_ | (refine is_okn rfl ?_; refine w_op rfl ?_) | refine w_gT rfl rfl ?_ | (apply is_ld; refine w_ldA rfl ?_) | (apply is_bin; refine w_addA rfl ?_) | (apply is_bin; refine w_subA rfl ?_) | (apply is_bin; refine w_cF rfl ?_) | apply ai_seq | apply ai_regW | refine ai_cF rfl ?_ | apply ai_skip | refine ai_drwW (by kernel_rfl) ?_)
    exact ⟨i + 1,by dsimp only; rw [hf]; exact leX,⟨x1.trans x3,by omega⟩,by dsimp only; omega⟩
 ·obtain rfl : i = d.l.length := by omega
  rw [List.take_length]
  repeat (first | apply sS | apply sE | refine w_mv rfl ?_ | (apply is_bin; refine w_cF rfl ?_) | apply ai_seq | apply ai_regW | refine ai_cF rfl ?_ | apply ai_exit | (apply ai_ret; repeat (first | rw [thenQ_r] | rw [blockQ_r] | rw [roundE_r])))
  exact end_one rfl ⟨rfl,x1⟩
theorem dlMost_bd {d : Dl} {T t : Int} (b : DlB d T) : 0 ≤ dlMost d t ∧ dlMost d t ≤ 1000000 := by
 have := mostS_bd (span := d.span) (t := max t 0) (l := d.l) (n := 0) (fun w hw => by have := b.l w hw; omega) (by omega)
 exact this
theorem mayT {c : Cf20} (hm : mayB c = true) (h : Hp) : ACall PX 18 [.agg ⟨cs20 c⟩] h (fun v g => v = .bool true ∧ Ext h g) := by
 have := may_ok h c
 rwa [hm] at this
theorem numL_ok (h : Hp) (n lo : Int) : ACall PX 140 [.iface 2 (nI n),nI lo] h (fun v g => v = nI (mClamp n lo 1000000) ∧ h = g) := by
 refine acallA Tryz.func140 c140 ?_
 unfold ir140
 dsimp only [qo,qm,qk,q2,qi,qg,qn,qc,dq,ci,cb,qh,qs]
 repeat (first | apply sS | apply sE | refine w_mv rfl ?_ | (refine is_okk rfl ?_; refine w_op rfl ?_) | refine w_ext rfl rfl ?_ | (refine w_callE ((mclamp_ok _ _ _ _).mono ?_) rfl rfl; rintro _ _ ⟨rfl,rfl⟩) | apply ai_seq | apply ai_regW | refine ai_cF rfl ?_ | apply ai_skip | (apply ai_ret; repeat (first | rw [thenQ_r] | rw [blockQ_r] | rw [roundE_r])))
 exact end_one rfl ⟨rfl,rfl⟩
theorem numI_ok (h : Hp) (n lo : Int) : ACall PX 140 [.iface 3 (nI n),nI lo] h (fun v g => v = nI (mClamp n lo 1000000) ∧ h = g) := by
 refine acallA Tryz.func140 c140 ?_
 unfold ir140
 dsimp only [qo,qm,qk,q2,qi,qg,qn,qc,dq,ci,cb,qh,qs]
 repeat (first | apply sS | apply sE | refine w_mv rfl ?_ | (refine is_okk rfl ?_; refine w_op rfl ?_) | refine w_ext rfl rfl ?_ | (refine w_callE ((mclamp_ok _ _ _ _).mono ?_) rfl rfl; rintro _ _ ⟨rfl,rfl⟩) | apply ai_seq | apply ai_regW | refine ai_cT rfl ?_ | (apply ai_ret; repeat (first | rw [thenQ_r] | rw [blockQ_r] | rw [roundE_r])))
 exact end_one rfl ⟨rfl,rfl⟩
theorem wof_ok (h : Hp) {c : Cf20} (hm : mayB c = true) {mean : Int} (h0 : 0 ≤ mean ∧ mean ≤ 9223372036854775807) : ACall PX 99 [.agg ⟨cs20 c⟩,nI mean] h (fun v g => v = nI (wantF c mean) ∧ Ext h g) := by
 have k := cf_ok hm
 have hp := perF_bd k
 refine acallA Tryz.func99 c99 ?_
 unfold ir99
 dsimp only [qo,qm,qk,q2,qi,qg,qn,qc,dq,ci,cb,qh,qs]
 repeat (first | apply sS | apply ai_seq | apply ai_regW)
 refine w_box rfl fun g1 x1 k1 n1 => ?_
 repeat (first | apply sS | apply sE | refine w_mv rfl ?_ | (apply is_ldn; refine w_ldnA rfl ?_) | apply ai_seq | apply ai_regW)
 refine w_call rfl ((mayT hm _).mono ?_)
 rintro _ g2 ⟨rfl,x2⟩
 have k2 := (x2.2 _ n1).trans k1
 repeat (first | apply sS | apply sE | refine w_mv rfl ?_ | (refine is_okn rfl ?_; refine w_op rfl ?_) | (apply is_ldn; refine w_ldnA rfl ?_) | apply ai_seq | apply ai_regW | refine ai_cF rfl ?_ | apply ai_skip)
 refine w_call rfl ((per_ok _ k).mono ?_)
 rintro _ g3 ⟨rfl,x3⟩
 repeat (first | apply sS | apply sE | refine w_mv rfl ?_ | (refine is_okk rfl ?_; refine w_op rfl ?_) | refine w_ext rfl rfl ?_ | (refine w_callE ((mup_ok _ h0 (by omega)).mono ?_) rfl rfl; rintro _ _ ⟨rfl,rfl⟩) | (refine w_callE ((numL_ok _ _ _).mono ?_) rfl rfl; rintro _ _ ⟨rfl,rfl⟩) | apply ai_seq | apply ai_regW | (apply ai_ret; repeat (first | rw [thenQ_r] | rw [blockQ_r] | rw [roundE_r])))
 exact end_one rfl ⟨rfl,(x1.trans x2).trans x3⟩
theorem wover_ok (h : Hp) {c : Cf20} (hm : mayB c = true) {want ready : Int} : ACall PX 101 [.agg ⟨cs20 c⟩,nI want,nI ready] h (fun v g => v = .bool (overF c want ready) ∧ Ext h g) := by
 have k := cf_ok hm
 have ht := k.threshold
 have b1 : 0 ≤ mClamp want 0 1000000 ∧ mClamp want 0 1000000 ≤ 1000000 := by unfold mClamp; split <;> (try split) <;> omega
 have b2 : 0 ≤ mClamp ready 1 1000000 ∧ mClamp ready 1 1000000 ≤ 1000000 := by unfold mClamp; split <;> (try split) <;> omega
 have b3 : 0 ≤ c.threshold * mClamp ready 1 1000000 := Int.mul_nonneg (by omega) b2.1
 have b4 : c.threshold * mClamp ready 1 1000000 ≤ 10000 * 1000000 := Int.mul_le_mul (by omega) b2.2 b2.1 (by omega)
 refine acallA Tryz.func101 c101 ?_
 unfold ir101
 dsimp only [qo,qm,qk,q2,qi,qg,qn,qc,dq,ci,cb,qh,qs]
 repeat (first | apply sS | apply ai_seq | apply ai_regW)
 refine w_box rfl fun g1 x1 k1 n1 => ?_
 repeat (first | apply sS | apply dS | apply sE | refine w_mv rfl ?_ | (apply is_ldn; refine w_ldnA rfl ?_) | apply ai_seq | refine ai_drwW (by kernel_rfl) ?_)
 refine w_call rfl ((mayT hm _).mono ?_)
 rintro _ g2 ⟨rfl,x2⟩
 have k2 := (x2.2 _ n1).trans k1
 repeat (first | apply dS | apply dSR | (apply is_ag; refine agSA ?_) | refine w_mv rfl ?_ | (refine is_okk rfl ?_; refine w_op rfl ?_) | refine w_gT rfl rfl ?_ | (apply is_ld; refine w_ldA rfl ?_) | (refine w_mul rfl ?_ ?_; (focus omega)) | (refine w_callE ((numI_ok _ _ _).mono ?_) rfl rfl; rintro _ _ ⟨rfl,rfl⟩))
 unfold overF
 by_cases q : c.threshold * mClamp ready 1 1000000 ≤ mClamp want 0 1000000 * 1000
 ·rw [decide_eq_true q]
  repeat (first | apply dS | apply dE | refine w_mv rfl ?_ | refine w_pickT rfl ?_ | (apply is_bin; refine w_cT rfl ?_) | (apply ai_ret; repeat (first | rw [thenQ_r] | rw [blockQ_r] | rw [roundE_r])))
  exact end_one rfl ⟨rfl,x1.trans x2⟩
 ·rw [decide_eq_false q]
  repeat (first | apply dS | apply dE | refine w_mv rfl ?_ | refine w_pickT rfl ?_ | (apply is_bin; refine w_cF rfl ?_) | (apply ai_ret; repeat (first | rw [thenQ_r] | rw [blockQ_r] | rw [roundE_r])))
  exact end_one rfl ⟨rfl,x1.trans x2⟩
theorem rthere_ok (h : Hp) (n lo : Int) : ACall PX 172 [.iface 3 (nI n),nI lo] h (fun v g => v = nI (thereF n lo) ∧ h = g) := by
 refine acallA Tryz.func172 c172 ?_
 unfold ir172
 dsimp only [qo,qm,qk,q2,qi,qg,qn,qc,dq,ci,cb,qh,qs]
 repeat (first | apply sS | apply sE | refine w_mv rfl ?_ | (refine is_okk rfl ?_; refine w_op rfl ?_) | refine w_ext rfl rfl ?_ | refine w_max rfl ?_ | refine w_min rfl ?_ | apply ai_seq | apply ai_regW | refine ai_cF rfl ?_ | apply ai_skip | (apply ai_ret; repeat (first | rw [thenQ_r] | rw [blockQ_r] | rw [roundE_r])))
 exact end_one rfl ⟨rfl,rfl⟩
theorem bthere_ok (h : Hp) (n : Int) : ACall PX 52 [.iface 3 (nI n)] h (fun v g => v = nI (thereF n 0) ∧ h = g) := by
 refine acallA Tryz.func52 c52 ?_
 unfold ir52
 dsimp only [qo,qm,qk,q2,qi,qg,qn,qc,dq,ci,cb,qh,qs]
 repeat (first | apply sS | apply sE | refine w_mv rfl ?_ | (refine is_okk rfl ?_; refine w_op rfl ?_) | refine w_ext rfl rfl ?_ | refine w_max rfl ?_ | refine w_min rfl ?_ | apply ai_seq | apply ai_regW | refine ai_cF rfl ?_ | apply ai_skip | (apply ai_ret; repeat (first | rw [thenQ_r] | rw [blockQ_r] | rw [roundE_r])))
 exact end_one rfl ⟨rfl,rfl⟩
theorem there_bd (n : Int) {lo : Int} (h : 0 ≤ lo ∧ lo ≤ 1) : lo ≤ thereF n lo ∧ thereF n lo ≤ 1000000 := by unfold thereF; omega
theorem rmost_ok (h : Hp) {c : Cf20} (hm : mayB c = true) (ready : Int) : ACall PX 142 [.agg ⟨cs20 c⟩,nI ready] h (fun v g => v = nI (mostR c ready) ∧ Ext h g) := by
 have k := cf_ok hm
 have hu := k.up
 have b2 := there_bd ready (lo := 1) (by omega)
 have b3 : 0 ≤ c.up * thereF ready 1 := Int.mul_nonneg (by omega) (by omega)
 have b4 : c.up * thereF ready 1 ≤ 1000000 * 1000000 := Int.mul_le_mul (by omega) b2.2 (by omega) (by omega)
 refine acallA Tryz.func142 c142 ?_
 unfold ir142
 dsimp only [qo,qm,qk,q2,qi,qg,qn,qc,dq,ci,cb,qh,qs]
 repeat (first | apply sS | apply ai_seq | apply ai_regW)
 refine w_box rfl fun g1 x1 k1 n1 => ?_
 repeat (first | apply sS | apply sE | refine w_mv rfl ?_ | (apply is_ldn; refine w_ldnA rfl ?_) | apply ai_seq | apply ai_regW)
 refine w_call rfl ((mayT hm _).mono ?_)
 rintro _ g2 ⟨rfl,x2⟩
 have k2 := (x2.2 _ n1).trans k1
 repeat (first | apply sS | apply dS | apply dSR | apply sE | apply dE | (apply is_ag; refine agSA ?_) | refine w_mv rfl ?_ | (refine is_okk rfl ?_; refine w_op rfl ?_) | refine w_ext rfl rfl ?_ | (apply is_ld; refine w_ldA rfl ?_) | (refine w_mul rfl ?_ ?_; (focus omega)) | refine w_min rfl ?_ | (refine w_callE ((rthere_ok _ _ _).mono ?_) rfl rfl; rintro _ _ ⟨rfl,rfl⟩) | (refine w_callE ((mup_ok _ (by omega) (by omega)).mono ?_) rfl rfl; rintro _ _ ⟨rfl,rfl⟩) | apply ai_seq | apply ai_regW | refine ai_cF rfl ?_ | apply ai_skip | refine ai_drwW (by kernel_rfl) ?_ | (apply ai_ret; repeat (first | rw [thenQ_r] | rw [blockQ_r] | rw [roundE_r])))
 exact end_one rfl ⟨rfl,x1.trans x2⟩
theorem rleast_ok (h : Hp) {c : Cf20} (hm : mayB c = true) (ready : Int) : ACall PX 141 [.agg ⟨cs20 c⟩,nI ready] h (fun v g => v = nI (leastR c ready) ∧ Ext h g) := by
 have k := cf_ok hm
 have hu := k.down
 have b2 := there_bd ready (lo := 0) (by omega)
 refine acallA Tryz.func141 c141 ?_
 unfold ir141
 dsimp only [qo,qm,qk,q2,qi,qg,qn,qc,dq,ci,cb,qh,qs]
 repeat (first | apply sS | apply ai_seq | apply ai_regW)
 refine w_box rfl fun g1 x1 k1 n1 => ?_
 repeat (first | apply sS | apply sE | refine w_mv rfl ?_ | (apply is_ldn; refine w_ldnA rfl ?_) | apply ai_seq | apply ai_regW)
 refine w_call rfl ((mayT hm _).mono ?_)
 rintro _ g2 ⟨rfl,x2⟩
 have k2 := (x2.2 _ n1).trans k1
 repeat (first | apply sS | apply dS | apply dSR | apply sE | apply dE | (apply is_ag; refine agSA ?_) | refine w_mv rfl ?_ | (refine is_okk rfl ?_; refine w_op rfl ?_) | refine w_ext rfl rfl ?_ | (apply is_ld; refine w_ldA rfl ?_) | (refine w_mul rfl ?_ ?_; (focus omega)) | (refine w_callE ((rthere_ok _ _ _).mono ?_) rfl rfl; rintro _ _ ⟨rfl,rfl⟩) | (refine w_callE ((mdown_ok _ (by omega) (by omega)).mono ?_) rfl rfl; rintro _ _ ⟨rfl,rfl⟩) | apply ai_seq | apply ai_regW | refine ai_cF rfl ?_ | apply ai_skip | refine ai_drwW (by kernel_rfl) ?_ | (apply ai_ret; repeat (first | rw [thenQ_r] | rw [blockQ_r] | rw [roundE_r])))
 exact end_one rfl ⟨rfl,x1.trans x2⟩
theorem rlimit_ok (h : Hp) {c : Cf20} (hm : mayB c = true) (want ready : Int) : ACall PX 102 [.agg ⟨cs20 c⟩,nI want,nI ready] h (fun v g => v = nI (limitR c want ready) ∧ Ext h g) := by
 refine acallA Tryz.func102 c102 ?_
 unfold ir102
 dsimp only [qo,qm,qk,q2,qi,qg,qn,qc,dq,ci,cb,qh,qs]
 repeat (first | apply sS | apply ai_seq | apply ai_regW)
 refine w_box rfl fun g1 x1 k1 n1 => ?_
 repeat (first | apply sS | apply sE | refine w_mv rfl ?_ | (apply is_ldn; refine w_ldnA rfl ?_) | apply ai_seq | apply ai_regW)
 refine w_call rfl ((mayT hm _).mono ?_)
 rintro _ g2 ⟨rfl,x2⟩
 have k2 := (x2.2 _ n1).trans k1
 repeat (first | apply sS | apply dS | apply dSR | apply sE | refine w_mv rfl ?_ | (refine is_okn rfl ?_; refine w_op rfl ?_) | (apply is_ldn; refine w_ldnA rfl ?_) | apply ai_seq | refine ai_cF rfl ?_ | apply ai_skip | refine ai_drwW (by kernel_rfl) ?_)
 refine w_call rfl ((rleast_ok _ hm _).mono ?_)
 rintro _ g3 ⟨rfl,x3⟩
 have k3 := (x3.2 _ (Nat.lt_of_lt_of_le n1 x2.1)).trans k2
 repeat (first | apply dS | (apply is_ag; refine agSA ?_) | refine w_max rfl ?_)
 refine w_call rfl ((rmost_ok _ hm _).mono ?_)
 rintro _ g4 ⟨rfl,x4⟩
 repeat (first | apply dS | apply dE | refine w_mv rfl ?_ | refine w_min rfl ?_ | (apply ai_ret; repeat (first | rw [thenQ_r] | rw [blockQ_r] | rw [roundE_r])))
 exact end_one rfl ⟨rfl,((x1.trans x2).trans x3).trans x4⟩
theorem bexc_ok (h : Hp) {c : Cf20} (hm : mayB c = true) (ready : Int) {quick : Int} (hq : L64 quick) : ACall PX 27 [.agg ⟨cs20 c⟩,nI ready,nI quick] h (fun v g => v = nI (excF c ready quick) ∧ Ext h g) := by
 have k := cf_ok hm
 have hb := k.burst
 have hl := k.limit
 have b2 := there_bd ready (lo := 0) (by omega)
 have b3 : 0 ≤ thereF ready 0 * c.limit := Int.mul_nonneg (by omega) (by omega)
 have b4 : thereF ready 0 * c.limit ≤ 1000000 * 1000 := Int.mul_le_mul (by omega) (by omega) (by omega) (by omega)
 have b5 : L64 (thereF ready 0 * c.limit * 1000) := by unfold L64; omega
 have b6 := mSub_bd b5 hq
 have b7 : L64 c.burst := by unfold L64; omega
 unfold excF
 refine acallA Tryz.func27 c27 ?_
 unfold ir27
 dsimp only [qo,qm,qk,q2,qi,qg,qn,qc,dq,ci,cb,qh,qs]
 repeat (first | apply sS | apply ai_seq | apply ai_regW)
 refine w_box rfl fun g1 x1 k1 n1 => ?_
 repeat (first | apply sS | apply sE | refine w_mv rfl ?_ | (apply is_ldn; refine w_ldnA rfl ?_) | apply ai_seq | apply ai_regW | apply ai_block)
 refine w_call rfl ((mayT hm _).mono ?_)
 rintro _ g2 ⟨rfl,x2⟩
 have k2 := (x2.2 _ n1).trans k1
 by_cases q : c.burst = -1000
 ·rw [if_pos q]
  repeat (first | apply sS | apply sE | refine w_mv rfl ?_ | (refine is_okk rfl ?_; refine w_op rfl ?_) | (apply is_ld; refine w_ldA rfl ?_) | (apply is_bin; refine w_cT rfl ?_) | apply ai_seq | apply ai_regW | refine ai_cT rfl ?_ | refine ai_cF rfl ?_ | (apply ai_ret; repeat (first | rw [thenQ_r] | rw [blockQ_r] | rw [roundE_r])))
  exact end_one rfl ⟨rfl,x1.trans x2⟩
 ·rw [if_neg q]
  repeat (first | apply sS | apply dS | apply dSR | apply sE | apply dE | (apply is_ag; refine agSA ?_) | refine w_mv rfl ?_ | (refine is_okk rfl ?_; refine w_op rfl ?_) | refine w_ext rfl rfl ?_ | (apply is_ld; refine w_ldA rfl ?_) | (apply is_bin; refine w_cF rfl ?_) | (refine w_mul rfl ?_ ?_; (focus omega)) | (refine w_callE ((bthere_ok _ _).mono ?_) rfl rfl; rintro _ _ ⟨rfl,rfl⟩) | (refine w_callE ((msub_ok _ b5 hq).mono ?_) rfl rfl; rintro _ _ ⟨rfl,rfl⟩) | (refine w_callE ((msub_ok _ b6 b7).mono ?_) rfl rfl; rintro _ _ ⟨rfl,rfl⟩) | apply ai_seq | apply ai_regW | refine ai_cF rfl ?_ | apply ai_skip | refine ai_drwW (by kernel_rfl) ?_ | (apply ai_ret; repeat (first | rw [thenQ_r] | rw [blockQ_r] | rw [roundE_r])))
  exact end_one rfl ⟨rfl,x1.trans x2⟩
theorem bprox_ok (h : Hp) {c : Cf20} (hm : mayB c = true) (ready excess : Int) : ACall PX 26 [.agg ⟨cs20 c⟩,nI ready,nI excess] h (fun v g => v = .bool (proxF c ready excess) ∧ Ext h g) := by
 unfold proxF
 refine acallA Tryz.func26 c26 ?_
 unfold ir26
 dsimp only [qo,qm,qk,q2,qi,qg,qn,qc,dq,ci,cb,qh,qs]
 repeat (first | apply sS | apply ai_seq | apply ai_regW)
 refine w_box rfl fun g1 x1 k1 n1 => ?_
 repeat (first | apply sS | apply sE | refine w_mv rfl ?_ | (apply is_ldn; refine w_ldnA rfl ?_) | apply ai_seq | apply ai_regW)
 refine w_call rfl ((mayT hm _).mono ?_)
 rintro _ g2 ⟨rfl,x2⟩
 have k2 := (x2.2 _ n1).trans k1
 by_cases q : c.burst = -1000
 ·rw [decide_eq_true q]
  repeat (first | apply sS | apply sE | refine w_mv rfl ?_ | refine w_pickT rfl ?_ | refine w_pickF rfl ?_ | (refine is_okk rfl ?_; refine w_op rfl ?_) | refine w_gT rfl rfl ?_ | refine w_gF rfl rfl ?_ | refine w_gU rfl ?_ | (apply is_ld; refine w_ldA rfl ?_) | (apply is_bin; refine w_cT rfl ?_) | (apply ai_ret; repeat (first | rw [thenQ_r] | rw [blockQ_r] | rw [roundE_r])))
  exact end_one rfl ⟨rfl,x1.trans x2⟩
 rw [decide_eq_false q]
 by_cases q2 : ready < 1
 ·rw [decide_eq_true q2]
  repeat (first | apply sS | apply sE | refine w_mv rfl ?_ | refine w_pickT rfl ?_ | refine w_pickF rfl ?_ | (refine is_okk rfl ?_; refine w_op rfl ?_) | refine w_gT rfl rfl ?_ | refine w_gF rfl rfl ?_ | refine w_gU rfl ?_ | (apply is_ld; refine w_ldA rfl ?_) | (apply is_bin; refine w_cT rfl ?_) | (apply is_bin; refine w_cF rfl ?_) | (apply ai_ret; repeat (first | rw [thenQ_r] | rw [blockQ_r] | rw [roundE_r])))
  exact end_one rfl ⟨rfl,x1.trans x2⟩
 rw [decide_eq_false q2]
 by_cases q3 : 0 < c.burst
 ·rw [decide_eq_true q3]
  by_cases q4 : excess < 0
  ·rw [decide_eq_true q4]
   repeat (first | apply sS | apply sE | refine w_mv rfl ?_ | refine w_pickT rfl ?_ | refine w_pickF rfl ?_ | (refine is_okk rfl ?_; refine w_op rfl ?_) | refine w_gT rfl rfl ?_ | (apply is_ld; refine w_ldA rfl ?_) | (apply is_bin; refine w_cT rfl ?_) | (apply is_bin; refine w_cF rfl ?_) | (apply ai_ret; repeat (first | rw [thenQ_r] | rw [blockQ_r] | rw [roundE_r])))
   exact end_one rfl ⟨rfl,x1.trans x2⟩
  ·rw [decide_eq_false q4]
   repeat (first | apply sS | apply sE | refine w_mv rfl ?_ | refine w_pickT rfl ?_ | refine w_pickF rfl ?_ | (refine is_okk rfl ?_; refine w_op rfl ?_) | refine w_gT rfl rfl ?_ | (apply is_ld; refine w_ldA rfl ?_) | (apply is_bin; refine w_cT rfl ?_) | (apply is_bin; refine w_cF rfl ?_) | (apply ai_ret; repeat (first | rw [thenQ_r] | rw [blockQ_r] | rw [roundE_r])))
   exact end_one rfl ⟨rfl,x1.trans x2⟩
 ·rw [decide_eq_false q3]
  repeat (first | apply sS | apply sE | refine w_mv rfl ?_ | refine w_pickF rfl ?_ | (refine is_okk rfl ?_; refine w_op rfl ?_) | refine w_gT rfl rfl ?_ | refine w_gF rfl rfl ?_ | (apply is_ld; refine w_ldA rfl ?_) | (apply is_bin; refine w_cF rfl ?_) | (apply ai_ret; repeat (first | rw [thenQ_r] | rw [blockQ_r] | rw [roundE_r])))
  exact end_one rfl ⟨rfl,x1.trans x2⟩
def mdV (m : Md2) : List Value := [nI m.1,nI m.2]
theorem panics_ok (h : Hp) (m : Md2) : ACall PX 143 [.iface 93 (.agg ⟨mdV m⟩)] h (fun v g => v = .bool (isM m) ∧ Ext h g) := by
 unfold isM
 refine acallA Tryz.func143 c143 ?_
 unfold ir143
 dsimp only [qo,qm,qk,q2,qi,qg,qn,qc,dq,ci,cb,qh,qs]
 repeat (first | apply sS | apply sE | refine w_mv rfl ?_ | (refine is_okn rfl ?_; refine w_op rfl ?_) | refine w_ext rfl rfl ?_ | apply ai_seq | apply ai_regW)
 refine w_new fun g1 x1 k1 n1 => ?_
 repeat (first | apply sSn)
 refine w_stN rfl rfl k1 rfl rfl fun g2 m2 k2 n2 => ?_
 have x2 := x1.own m2 n2
 by_cases q : 0 ≤ m.1
 ·rw [decide_eq_true q]
  repeat (first | apply sS | apply sE | refine w_mv rfl ?_ | refine w_pickT rfl ?_ | (refine is_okk rfl ?_; refine w_op rfl ?_) | refine w_gT rfl rfl ?_ | (apply is_ld; refine w_ldA rfl ?_) | (apply is_bin; refine w_cT rfl ?_) | apply ai_seq | apply ai_regW | (apply ai_ret; repeat (first | rw [thenQ_r] | rw [blockQ_r] | rw [roundE_r])))
  exact end_one rfl ⟨rfl,x2⟩
 ·rw [decide_eq_false q]
  repeat (first | apply sS | apply sE | refine w_mv rfl ?_ | refine w_pickT rfl ?_ | (refine is_okk rfl ?_; refine w_op rfl ?_) | refine w_gT rfl rfl ?_ | (apply is_ld; refine w_ldA rfl ?_) | (apply is_bin; refine w_cF rfl ?_) | apply ai_seq | apply ai_regW | (apply ai_ret; repeat (first | rw [thenQ_r] | rw [blockQ_r] | rw [roundE_r])))
  exact end_one rfl ⟨rfl,x2⟩
theorem ais_ok (h : Hp) (m : Md2) : ACall PX 103 [.agg ⟨mdV m⟩] h (fun v g => v = .bool (isM m) ∧ Ext h g) := by
 refine acallA Tryz.func103 c103 ?_
 unfold ir103
 dsimp only [qo,qm,qk,q2,qi,qg,qn,qc,dq,ci,cb,qh,qs]
 repeat (first | apply sS | apply ai_seq | apply ai_regW)
 refine w_box rfl fun g1 x1 k1 n1 => ?_
 repeat (first | apply sS | apply sE | refine w_mv rfl ?_ | (refine is_okn rfl ?_; refine w_op rfl ?_) | (apply is_ldn; refine w_ldnA rfl ?_) | apply ai_seq | apply ai_regW)
 refine w_call rfl ((panics_ok _ m).mono ?_)
 rintro _ g2 ⟨rfl,x2⟩
 repeat (first | apply sS | apply sE | refine w_mv rfl ?_ | (apply ai_ret; repeat (first | rw [thenQ_r] | rw [blockQ_r] | rw [roundE_r])))
 exact end_one rfl ⟨rfl,x1.trans x2⟩
theorem calm_ok (h : Hp) : ACall PX 46 [] h (fun v g => v = .agg ⟨mdV (-1,0)⟩ ∧ Ext h g) := by
 refine acallA Tryz.func46 c46 ?_
 unfold ir46
 dsimp only [qo,qm,qk,q2,qi,qg,qn,qc,dq,ci,cb,qh,qs]
 repeat (first | apply sS | apply ai_seq | apply ai_regW)
 refine w_new fun g1 x1 k1 n1 => ?_
 repeat (first | apply sS | apply sE | apply ai_seq | apply ai_regW)
 refine w_op (v := .agg ⟨mdV (-1,0)⟩) (h' := g1) rfl ?_
 repeat (first | apply sSn)
 refine w_stN rfl rfl k1 rfl rfl fun g2 m2 k2 n2 => ?_
 repeat (first | apply sE | (apply ai_ret; repeat (first | rw [thenQ_r] | rw [blockQ_r] | rw [roundE_r])))
 exact end_cell1 rfl k2 Tryz.underlying93 rfl (by kernel_rfl) rfl ⟨rfl,x1.own m2 n2⟩
theorem anext_ok (h : Hp) {c : Cf20} (hm : mayB c = true) {m : Md2} {now : Int} (hn : 0 ≤ now ∧ now ≤ 1099511627776) (h1 : -1 ≤ m.1 ∧ m.1 ≤ 1099511627776) (over : Bool) :
  ACall PX 100 [.agg ⟨cs20 c⟩,.agg ⟨mdV m⟩,nI now,.bool over] h (fun v g => v = .agg ⟨mdV (nextM c m now over)⟩ ∧ Ext h g) := by
 have k := cf_ok hm
 unfold nextM
 refine acallA Tryz.func100 c100 ?_
 unfold ir100
 dsimp only [qo,qm,qk,q2,qi,qg,qn,qc,dq,ci,cb,qh,qs]
 repeat (first | apply sS | apply ai_seq | apply ai_regW)
 refine w_box rfl fun g1 x1 k1 n1 => ?_
 repeat (first | apply sS)
 refine w_box rfl fun g2 x2 k2 n2 => ?_
 have k12 := (x2.2 _ n1).trans k1
 repeat (first | apply sS)
 refine w_new fun g3 x3 k3 n3 => ?_
 have n13 := Nat.lt_of_lt_of_le n1 (Nat.le_trans x2.1 x3.1)
 have n23 := Nat.lt_of_lt_of_le n2 x3.1
 have k13 := (x3.2 _ (Nat.lt_of_lt_of_le n1 x2.1)).trans k12
 have k23 := (x3.2 _ n2).trans k2
 have x03 := (x1.trans x2).trans x3
 clear k1 k2 k12
 repeat (first | apply sS | apply sE | (apply is_ldn; refine w_ldnA rfl ?_) | apply ai_seq | apply ai_regW | apply ai_block)
 refine w_call rfl ((mayT hm _).mono ?_)
 rintro _ g4 ⟨rfl,x4⟩
 have a1 := (x4.2 _ n13).trans k13
 have a2 := (x4.2 _ n23).trans k23
 have a3 := (x4.2 _ n3).trans k3
 have n3' := Nat.lt_of_lt_of_le n3 x4.1
 have n1' := Nat.lt_of_lt_of_le n13 x4.1
 have n2' := Nat.lt_of_lt_of_le n23 x4.1
 have x04 := x03.trans x4
 have e2 : g2.nx ≠ g1.nx := by have := n2; omega
 clear k13 k23 k3
 have o1 := x1.1
 have o2 := x2.1
 have ow : ∀ {a b : Hp},Ext h a → (∀ k,k ≠ g2.nx → b.get k = a.get k) → b.nx = a.nx → Ext h b := fun xa mb nb => ⟨by rw [nb]; exact xa.1,fun k hk => (mb k (by omega)).trans (xa.2 k hk)⟩
 have ow2 : ∀ {a b : Hp},Ext h a → (∀ k,k ≠ g1.nx → b.get k = a.get k) → b.nx = a.nx → Ext h b := fun xa mb nb => ⟨by rw [nb]; exact xa.1,fun k hk => (mb k (by omega)).trans (xa.2 k hk)⟩
 cases over
 ·rw [if_neg (by decide)]
  repeat (first | apply sS | apply sE | refine w_mv rfl ?_ | refine w_pickF rfl ?_ | (refine is_okn rfl ?_; refine w_op rfl ?_) | refine w_gT rfl rfl ?_ | refine w_gF rfl rfl ?_ | (apply is_ldn; refine w_ldnA rfl ?_) | (apply is_bin; refine w_cF rfl ?_) | apply ai_seq | apply ai_regW | refine ai_cF rfl ?_)
  refine w_call rfl ((ais_ok _ m).mono ?_)
  rintro _ g5 ⟨rfl,x5⟩
  have b1 := (x5.2 _ n1').trans a1
  have b2 := (x5.2 _ n2').trans a2
  have b3 := (x5.2 _ n3').trans a3
  have x05 := x04.trans x5
  obtain ⟨q,hq⟩ : ∃ q,isM m = q := ⟨_,rfl⟩
  rw [hq]
  cases q
  ·rw [Bool.false_and,if_neg (by decide)]
   repeat (first | apply sS | apply sSn | apply sE | refine w_mv rfl ?_ | refine w_pickF rfl ?_ | refine w_gF rfl rfl ?_ | (apply is_ldn; refine w_ldnA rfl ?_) | apply ai_seq | apply ai_regW | refine ai_cF rfl ?_ | apply ai_skip)
   refine w_stN rfl rfl b3 rfl rfl fun g6 m6 k6 n6 => ?_
   repeat (first | apply sE | (apply ai_ret; repeat (first | rw [thenQ_r] | rw [blockQ_r] | rw [roundE_r])))
   exact end_cell1 rfl k6 Tryz.underlying93 rfl (by kernel_rfl) rfl ⟨rfl,ow x05 m6 n6⟩
  ·rw [Bool.true_and]
   unfold isM at hq
   simp at hq
   have hs := k.stable
   by_cases q2 : c.stable ≤ now - m.1
   ·rw [if_pos (by simpa using q2)]
    repeat (first | apply sS | apply sE | refine w_mv rfl ?_ | refine w_pickT rfl ?_ | (refine is_okn rfl ?_; refine w_op rfl ?_) | refine w_gT rfl rfl ?_ | (apply is_ld; refine w_ldA rfl ?_) | (apply is_bin; refine w_subA rfl ?_) | (apply is_bin; refine w_cT rfl ?_) | apply ai_seq | apply ai_regW | refine ai_cT rfl ?_)
    refine w_call rfl ((calm_ok _).mono ?_)
    rintro _ g6 ⟨rfl,x6⟩
    have c3 := (x6.2 _ (Nat.lt_of_lt_of_le n3' x5.1)).trans b3
    repeat (first | apply sSn)
    refine w_stN rfl rfl c3 rfl rfl fun g7 m7 k7 n7 => ?_
    repeat (first | apply sE | (apply ai_ret; repeat (first | rw [thenQ_r] | rw [blockQ_r] | rw [roundE_r])))
    exact end_cell1 rfl k7 Tryz.underlying93 rfl (by kernel_rfl) rfl ⟨rfl,ow (x05.trans x6) m7 n7⟩
   ·rw [if_neg (by simpa using q2)]
    repeat (first | apply sS | apply sSn | apply sE | refine w_mv rfl ?_ | refine w_pickT rfl ?_ | (refine is_okn rfl ?_; refine w_op rfl ?_) | refine w_gT rfl rfl ?_ | (apply is_ld; refine w_ldA rfl ?_) | (apply is_ldn; refine w_ldnA rfl ?_) | (apply is_bin; refine w_subA rfl ?_) | (apply is_bin; refine w_cF rfl ?_) | apply ai_seq | apply ai_regW | refine ai_cF rfl ?_ | apply ai_skip)
    refine w_stN rfl rfl b3 rfl rfl fun g6 m6 k6 n6 => ?_
    repeat (first | apply sE | (apply ai_ret; repeat (first | rw [thenQ_r] | rw [blockQ_r] | rw [roundE_r])))
    exact end_cell1 rfl k6 Tryz.underlying93 rfl (by kernel_rfl) rfl ⟨rfl,ow x05 m6 n6⟩
 ·rw [if_pos rfl]
  repeat (first | apply sS | apply sE | refine w_mv rfl ?_ | refine w_pickF rfl ?_ | (refine is_okn rfl ?_; refine w_op rfl ?_) | refine w_gT rfl rfl ?_ | (apply is_ldn; refine w_ldnA rfl ?_) | (apply is_bin; refine w_cF rfl ?_) | apply ai_seq | apply ai_regW | refine ai_cF rfl ?_)
  refine w_call rfl ((ais_ok _ m).mono ?_)
  rintro _ g5 ⟨rfl,x5⟩
  have b1 := (x5.2 _ n1').trans a1
  have b2 := (x5.2 _ n2').trans a2
  have b3 := (x5.2 _ n3').trans a3
  have x05 := x04.trans x5
  obtain ⟨q,hq⟩ : ∃ q,isM m = q := ⟨_,rfl⟩
  rw [hq]
  cases q
  ·rw [if_neg (by decide)]
   repeat (first | apply sS | apply sE | refine w_mv rfl ?_ | refine w_pickT rfl ?_ | apply ai_seq | apply ai_regW | refine ai_cT rfl ?_ | refine ai_cF rfl ?_)
   refine w_op (v := .agg ⟨mdV (now,0)⟩) (h' := g5) rfl ?_
   repeat (first | apply sSn)
   refine w_stN rfl rfl b3 rfl rfl fun g6 m6 k6 n6 => ?_
   repeat (first | apply sE | (apply ai_ret; repeat (first | rw [thenQ_r] | rw [blockQ_r] | rw [roundE_r])))
   exact end_cell1 rfl k6 Tryz.underlying93 rfl (by kernel_rfl) rfl ⟨rfl,ow x05 m6 n6⟩
  ·rw [if_pos rfl]
   repeat (first | apply sS | apply sSn | apply sE | refine w_mv rfl ?_ | refine w_pickT rfl ?_ | (refine is_okn rfl ?_; refine w_op rfl ?_) | apply ai_seq | apply ai_regW | refine ai_cT rfl ?_)
   refine w_st1 rfl rfl b2 (by show 0 < 2; decide) rfl fun g6 m6 k6 n6 => ?_
   have c3 := (m6 _ e2).trans b3
   repeat (first | apply sS | apply sSn | apply sE | (apply is_ldn; refine w_ldnA rfl ?_) | apply ai_seq | apply ai_regW)
   refine w_stN rfl rfl c3 rfl rfl fun g7 m7 k7 n7 => ?_
   repeat (first | apply sE | (apply ai_ret; repeat (first | rw [thenQ_r] | rw [blockQ_r] | rw [roundE_r])))
   exact end_cell1 rfl k7 Tryz.underlying93 rfl (by kernel_rfl) rfl ⟨rfl,ow (ow2 x05 m6 n6) m7 n7⟩
theorem end_cell2 {P : Program} {R : Value → Hp → Prop} {env : Env} {h : Hp} {a b i n m : Nat} {w : Value} {t : TypeId} {dd : TypeDesc} {us : List Value} {bb : Bool} (e : getF env a = some (.pointer (some ⟨i,0,none⟩))) (hg : h.get i = some ⟨us,bb,m⟩) (e2 : getF env b = some w) (hu : P.underlying t = some dd) (hd : isAggD dd = true) (hi : (P.info? t).map (·.size) = some n) (hl : us.length = n) (r : R (.tuple #[.agg ⟨us⟩,w]) h) : endQ P [.cell a t,.tmp b] R .ret env h := by
 refine ⟨[.agg ⟨us⟩,w],?_,r⟩
 rw [getF_eq] at e e2
 cases hti : P.info? t with
 | none => rw [hti] at hi; cases hi
 | some ti =>
 rw [hti] at hi
 have hn : ti.size = n := Option.some.inj hi
 have : h.rd i 0 ti.size = some us := rd_all hg (by rw [hl,hn])
 simp [resAll,resOne,e,e2,hu,hd,hti,this]
theorem akeep_ok (h : Hp) (m : Md2) (want : Int) : ACall PX 105 [.agg ⟨mdV m⟩,nI want] h (fun v g => v = .tuple #[.agg ⟨mdV (keepM m want).1⟩,nI (keepM m want).2] ∧ Ext h g) := by
 unfold keepM
 refine acallA Tryz.func105 c105 ?_
 unfold ir105
 dsimp only [qo,qm,qk,q2,qi,qg,qn,qc,dq,ci,cb,qh,qs]
 repeat (first | apply sS | apply ai_seq | apply ai_regW)
 refine w_box rfl fun g1 x1 k1 n1 => ?_
 repeat (first | apply sS)
 refine w_new fun g2 x2 k2 n2 => ?_
 have k12 := (x2.2 _ n1).trans k1
 have n12 := Nat.lt_of_lt_of_le n1 x2.1
 have x02 := x1.trans x2
 repeat (first | apply sS | apply sE | refine w_mv rfl ?_ | (apply is_ldn; refine w_ldnA rfl ?_) | apply ai_seq | apply ai_regW)
 refine w_call rfl ((ais_ok _ m).mono ?_)
 rintro _ g3 ⟨rfl,x3⟩
 have a1 := (x3.2 _ n12).trans k12
 have a2 := (x3.2 _ n2).trans k2
 have x03 := x02.trans x3
 have o1 := x1.1
 have e2 : g1.nx ≠ h.nx := by omega
 clear k1 k2 k12
 have ow : ∀ {a b : Hp} {i : Nat},Ext h a → h.nx ≤ i → (∀ k,k ≠ i → b.get k = a.get k) → b.nx = a.nx → Ext h b := fun xa hi mb nb => ⟨by rw [nb]; exact xa.1,fun k hk => (mb k (by omega)).trans (xa.2 k hk)⟩
 obtain ⟨q,hq⟩ : ∃ q,isM m = q := ⟨_,rfl⟩
 rw [hq]
 cases q
 ·rw [if_neg (by decide)]
  repeat (first | apply sS | apply sSn | apply sE | refine w_mv rfl ?_ | (refine is_okn rfl ?_; refine w_op rfl ?_) | (apply is_ldn; refine w_ldnA rfl ?_) | apply ai_seq | apply ai_regW | refine ai_cT rfl ?_)
  refine w_stN rfl rfl a2 rfl rfl fun g4 m4 k4 n4 => ?_
  repeat (first | apply sS | apply sE | refine w_mv rfl ?_ | (apply ai_ret; repeat (first | rw [thenQ_r] | rw [blockQ_r] | rw [roundE_r])))
  exact end_cell2 rfl k4 rfl Tryz.underlying93 rfl (by kernel_rfl) rfl ⟨rfl,ow x03 o1 m4 n4⟩
 ·rw [if_pos rfl]
  repeat (first | apply sS | apply sSn | apply sE | refine w_mv rfl ?_ | (refine is_okn rfl ?_; refine w_op rfl ?_) | (apply is_ld; refine w_ldA rfl ?_) | refine w_max rfl ?_ | apply ai_seq | apply ai_regW | refine ai_cF rfl ?_ | apply ai_skip)
  refine w_st1 rfl rfl a1 (by show 1 < 2; decide) rfl fun g4 m4 k4 n4 => ?_
  have b2 := (m4 _ e2).trans a2
  repeat (first | apply dS | apply dSRn | apply sE | (refine is_okn rfl ?_; refine w_op rfl ?_) | (apply is_ld; refine w_ldA rfl ?_) | (apply is_ldn; refine w_ldnA rfl ?_) | apply ai_seq | refine ai_drwW (by kernel_rfl) ?_)
  refine w_stN rfl rfl b2 rfl rfl fun g5 m5 k5 n5 => ?_
  have b4 := (m5 _ e2.symm).trans k4
  repeat (first | apply dS | apply dE | (apply is_ag; refine agSA ?_) | refine w_mv rfl ?_ | (apply ai_ret; repeat (first | rw [thenQ_r] | rw [blockQ_r] | rw [roundE_r])))
  exact end_cell2 rfl k5 rfl Tryz.underlying93 rfl (by kernel_rfl) rfl ⟨rfl,ow (ow x03 (Nat.le_refl _) m4 n4) o1 m5 n5⟩
theorem znew_ok (h : Hp) : ACall PX 22 [] h (fun v g => v = .agg #[nI (-1)] ∧ Ext h g) := by
 refine acallA Tryz.func22 c22 ?_
 unfold ir22
 dsimp only [qo,qm,qk,q2,qi,qg,qn,qc,dq,ci,cb,qh,qs]
 repeat (first | apply sS | apply ai_seq | apply ai_regW)
 refine w_new fun g1 x1 k1 n1 => ?_
 repeat (first | apply sS | apply sSn | apply sE | refine w_bldF rfl rfl rfl rfl rfl ?_ | apply ai_seq | apply ai_regW)
 refine w_stN rfl rfl k1 rfl rfl fun g2 m2 k2 n2 => ?_
 repeat (first | apply sE | (apply ai_ret; repeat (first | rw [thenQ_r] | rw [blockQ_r] | rw [roundE_r])))
 exact end_cell1 rfl k2 Tryz.underlying61 rfl (by kernel_rfl) rfl ⟨rfl,x1.own m2 n2⟩
theorem zsince_ok (h : Hp) (s : Int) : ACall PX 107 [.iface 61 (.agg #[nI s])] h (fun v g => v = nI s ∧ Ext h g) := by
 refine acallA Tryz.func107 c107 ?_
 unfold ir107
 dsimp only [qo,qm,qk,q2,qi,qg,qn,qc,dq,ci,cb,qh,qs]
 repeat (first | apply sS | apply sE | refine w_mv rfl ?_ | (refine is_okn rfl ?_; refine w_op rfl ?_) | refine w_ext rfl rfl ?_ | apply ai_seq | apply ai_regW)
 refine w_new fun g1 x1 k1 n1 => ?_
 repeat (first | apply sSn)
 refine w_stN rfl rfl k1 rfl rfl fun g2 m2 k2 n2 => ?_
 repeat (first | apply sS | apply sE | refine w_mv rfl ?_ | (refine is_okk rfl ?_; refine w_op rfl ?_) | (apply is_ld; refine w_ldA rfl ?_) | apply ai_seq | apply ai_regW | refine ai_cF rfl ?_ | apply ai_skip | (apply ai_ret; repeat (first | rw [thenQ_r] | rw [blockQ_r] | rw [roundE_r])))
 exact end_one rfl ⟨rfl,x1.own m2 n2⟩
theorem znext_ok (h : Hp) (s now : Int) (proxy : Bool) : ACall PX 68 [.agg #[nI s],nI now,.bool proxy] h (fun v g => v = .agg #[nI (zNext s now proxy)] ∧ Ext h g) := by
 unfold zNext
 refine acallA Tryz.func68 c68 ?_
 unfold ir68
 dsimp only [qo,qm,qk,q2,qi,qg,qn,qc,dq,ci,cb,qh,qs]
 repeat (first | apply sS | apply ai_seq | apply ai_regW)
 refine w_box rfl fun g1 x1 k1 n1 => ?_
 repeat (first | apply sS)
 refine w_new fun g2 x2 k2 n2 => ?_
 have k12 := (x2.2 _ n1).trans k1
 have n12 := Nat.lt_of_lt_of_le n1 x2.1
 have x02 := x1.trans x2
 have o1 := x1.1
 clear k1
 have ow : ∀ {a b : Hp} {i : Nat},Ext h a → h.nx ≤ i → (∀ k,k ≠ i → b.get k = a.get k) → b.nx = a.nx → Ext h b := fun xa hi mb nb => ⟨by rw [nb]; exact xa.1,fun k hk => (mb k (by omega)).trans (xa.2 k hk)⟩
 cases proxy
 ·rw [if_neg (by decide)]
  repeat (first | apply sS | apply sE | refine w_mv rfl ?_ | (refine is_okn rfl ?_; refine w_op rfl ?_) | apply ai_seq | apply ai_regW | refine ai_cT rfl ?_ | apply ai_block)
  refine w_call rfl ((znew_ok _).mono ?_)
  rintro _ g3 ⟨rfl,x3⟩
  have a2 := (x3.2 _ n2).trans k2
  repeat (first | apply sSn)
  refine w_stN rfl rfl a2 rfl rfl fun g4 m4 k4 n4 => ?_
  repeat (first | apply sE | (apply ai_ret; repeat (first | rw [thenQ_r] | rw [blockQ_r] | rw [roundE_r])))
  exact end_cell1 rfl k4 Tryz.underlying61 rfl (by kernel_rfl) rfl ⟨rfl,ow (x02.trans x3) o1 m4 n4⟩
 ·rw [if_pos rfl]
  repeat (first | apply sS | apply sE | refine w_mv rfl ?_ | (refine is_okn rfl ?_; refine w_op rfl ?_) | (apply is_ldn; refine w_ldnA rfl ?_) | apply ai_seq | apply ai_regW | refine ai_cF rfl ?_ | apply ai_block)
  refine w_call rfl ((zsince_ok _ s).mono ?_)
  rintro _ g3 ⟨rfl,x3⟩
  have a1 := (x3.2 _ n12).trans k12
  have a2 := (x3.2 _ n2).trans k2
  by_cases q : 0 ≤ s
  ·rw [if_pos q]
   repeat (first | apply sS | apply sSn | apply sE | refine w_mv rfl ?_ | (apply is_ldn; refine w_ldnA rfl ?_) | (apply is_bin; refine w_cT rfl ?_) | apply ai_seq | apply ai_regW | refine ai_cT rfl ?_)
   refine w_stN rfl rfl a2 rfl rfl fun g4 m4 k4 n4 => ?_
   repeat (first | apply sE | (apply ai_ret; repeat (first | rw [thenQ_r] | rw [blockQ_r] | rw [roundE_r])))
   exact end_cell1 rfl k4 Tryz.underlying61 rfl (by kernel_rfl) rfl ⟨rfl,ow (x02.trans x3) o1 m4 n4⟩
  ·rw [if_neg q]
   repeat (first | apply sS | apply sSn | apply sE | refine w_mv rfl ?_ | refine w_bldF rfl rfl rfl rfl rfl ?_ | (apply is_bin; refine w_cF rfl ?_) | apply ai_seq | apply ai_regW | refine ai_cF rfl ?_ | apply ai_skip)
   refine w_stN rfl rfl a2 rfl rfl fun g4 m4 k4 n4 => ?_
   repeat (first | apply sE | (apply ai_ret; repeat (first | rw [thenQ_r] | rw [blockQ_r] | rw [roundE_r])))
   exact end_cell1 rfl k4 Tryz.underlying61 rfl (by kernel_rfl) rfl ⟨rfl,ow (x02.trans x3) o1 m4 n4⟩
set_option maxHeartbeats 1000000 in
theorem zmay_ok (h : Hp) {c : Cf20} (hm : mayB c = true) {s now mean waiting busy : Int} (hs : -1 ≤ s ∧ s ≤ 1099511627776) (hn : 0 ≤ now ∧ now ≤ 1099511627776) : ACall PX 108 [.agg ⟨cs20 c⟩,.agg #[nI s],nI now,nI mean,nI waiting,nI busy] h (fun v g => v = .bool (zMay c s now mean waiting busy) ∧ Ext h g) := by
 unfold zMay
 refine acallA Tryz.func108 c108 ?_
 unfold ir108
 dsimp only [qo,qm,qk,q2,qi,qg,qn,qc,dq,ci,cb,qh,qs]
 repeat (first | apply sS | apply ai_seq | apply ai_regW)
 refine w_box rfl fun g1 x1 k1 n1 => ?_
 repeat (first | apply sS)
 refine w_box rfl fun g2 x2 k2 n2 => ?_
 have k12 := (x2.2 _ n1).trans k1
 have n12 := Nat.lt_of_lt_of_le n1 x2.1
 repeat (first | apply sS | apply sE | refine w_mv rfl ?_ | (refine is_okn rfl ?_; refine w_op rfl ?_) | (apply is_ldn; refine w_ldnA rfl ?_) | apply ai_seq | apply ai_regW)
 refine w_call rfl ((zsince_ok _ s).mono ?_)
 rintro _ g3 ⟨rfl,x3⟩
 have a1 := (x3.2 _ n12).trans k12
 repeat (first | apply sS | apply sE | refine w_mv rfl ?_ | (apply is_ldn; refine w_ldnA rfl ?_) | apply ai_seq | apply ai_regW)
 refine w_call rfl ((mayT hm _).mono ?_)
 rintro _ g4 ⟨rfl,x4⟩
 have b1 := (x4.2 _ (Nat.lt_of_lt_of_le n12 x3.1)).trans a1
 have x05 := ((x1.trans x2).trans x3).trans x4
 clear k1 k2 k12 a1 x1 x2 x3 x4
 by_cases q0 : c.min = 0
 ·by_cases q1 : mean = 0
  ·by_cases q2 : waiting = 0
   ·by_cases q3 : busy = 0
    ·by_cases q4 : 0 ≤ s
     ·by_cases q5 : s ≤ now
      ·by_cases q6 : c.grace ≤ now - s
       ·rw [decide_eq_true ⟨q0,q1,q2,q3,q4,q5,q6⟩]
        repeat (first | apply sS | apply sE | refine w_mv rfl ?_ | refine w_pickT rfl ?_ | (refine is_okk rfl ?_; refine w_op rfl ?_) | refine w_gT rfl rfl ?_ | (apply is_ld; refine w_ldA rfl ?_) | (apply is_bin; refine w_subA rfl ?_) | (apply is_bin; refine w_cT rfl ?_) | (apply ai_ret; repeat (first | rw [thenQ_r] | rw [blockQ_r] | rw [roundE_r])))
        exact end_one rfl ⟨rfl,x05⟩
       ·rw [decide_eq_false (fun q => q6 q.2.2.2.2.2.2)]
        repeat (first | apply sS | apply sE | refine w_mv rfl ?_ | refine w_pickT rfl ?_ | (refine is_okk rfl ?_; refine w_op rfl ?_) | refine w_gT rfl rfl ?_ | (apply is_ld; refine w_ldA rfl ?_) | (apply is_bin; refine w_subA rfl ?_) | (apply is_bin; refine w_cT rfl ?_) | (apply is_bin; refine w_cF rfl ?_) | (apply ai_ret; repeat (first | rw [thenQ_r] | rw [blockQ_r] | rw [roundE_r])))
        exact end_one rfl ⟨rfl,x05⟩
      ·rw [decide_eq_false (fun q => q5 q.2.2.2.2.2.1)]
       repeat (first | apply sS | apply sE | refine w_mv rfl ?_ | refine w_pickT rfl ?_ | refine w_pickF rfl ?_ | (refine is_okk rfl ?_; refine w_op rfl ?_) | refine w_gT rfl rfl ?_ | refine w_gF rfl rfl ?_ | (apply is_ld; refine w_ldA rfl ?_) | (apply is_bin; refine w_cT rfl ?_) | (apply is_bin; refine w_cF rfl ?_) | (apply ai_ret; repeat (first | rw [thenQ_r] | rw [blockQ_r] | rw [roundE_r])))
       exact end_one rfl ⟨rfl,x05⟩
     ·rw [decide_eq_false (fun q => q4 q.2.2.2.2.1)]
      repeat (first | apply sS | apply sE | refine w_mv rfl ?_ | refine w_pickT rfl ?_ | refine w_pickF rfl ?_ | (refine is_okk rfl ?_; refine w_op rfl ?_) | refine w_gT rfl rfl ?_ | refine w_gF rfl rfl ?_ | (apply is_ld; refine w_ldA rfl ?_) | (apply is_bin; refine w_cT rfl ?_) | (apply is_bin; refine w_cF rfl ?_) | (apply ai_ret; repeat (first | rw [thenQ_r] | rw [blockQ_r] | rw [roundE_r])))
      exact end_one rfl ⟨rfl,x05⟩
    ·rw [decide_eq_false (fun q => q3 q.2.2.2.1)]
     repeat (first | apply sS | apply sE | refine w_mv rfl ?_ | refine w_pickT rfl ?_ | refine w_pickF rfl ?_ | (refine is_okk rfl ?_; refine w_op rfl ?_) | refine w_gT rfl rfl ?_ | refine w_gF rfl rfl ?_ | (apply is_ld; refine w_ldA rfl ?_) | (apply is_bin; refine w_cT rfl ?_) | (apply is_bin; refine w_cF rfl ?_) | (apply ai_ret; repeat (first | rw [thenQ_r] | rw [blockQ_r] | rw [roundE_r])))
     exact end_one rfl ⟨rfl,x05⟩
   ·rw [decide_eq_false (fun q => q2 q.2.2.1)]
    repeat (first | apply sS | apply sE | refine w_mv rfl ?_ | refine w_pickT rfl ?_ | refine w_pickF rfl ?_ | (refine is_okk rfl ?_; refine w_op rfl ?_) | refine w_gT rfl rfl ?_ | refine w_gF rfl rfl ?_ | (apply is_ld; refine w_ldA rfl ?_) | (apply is_bin; refine w_cT rfl ?_) | (apply is_bin; refine w_cF rfl ?_) | (apply ai_ret; repeat (first | rw [thenQ_r] | rw [blockQ_r] | rw [roundE_r])))
    exact end_one rfl ⟨rfl,x05⟩
  ·rw [decide_eq_false (fun q => q1 q.2.1)]
   repeat (first | apply sS | apply sE | refine w_mv rfl ?_ | refine w_pickT rfl ?_ | refine w_pickF rfl ?_ | (refine is_okk rfl ?_; refine w_op rfl ?_) | refine w_gT rfl rfl ?_ | refine w_gF rfl rfl ?_ | (apply is_ld; refine w_ldA rfl ?_) | (apply is_bin; refine w_cT rfl ?_) | (apply is_bin; refine w_cF rfl ?_) | (apply ai_ret; repeat (first | rw [thenQ_r] | rw [blockQ_r] | rw [roundE_r])))
   exact end_one rfl ⟨rfl,x05⟩
 ·rw [decide_eq_false (fun q => q0 q.1)]
  repeat (first | apply sS | apply sE | refine w_mv rfl ?_ | refine w_pickT rfl ?_ | refine w_pickF rfl ?_ | (refine is_okk rfl ?_; refine w_op rfl ?_) | refine w_gT rfl rfl ?_ | refine w_gF rfl rfl ?_ | (apply is_ld; refine w_ldA rfl ?_) | (apply is_bin; refine w_cF rfl ?_) | (apply ai_ret; repeat (first | rw [thenQ_r] | rw [blockQ_r] | rw [roundE_r])))
  exact end_one rfl ⟨rfl,x05⟩
theorem zwant_ok (h : Hp) {c : Cf20} (hm : mayB c = true) {s now want have_ mean waiting busy : Int} (hs : -1 ≤ s ∧ s ≤ 1099511627776) (hn : 0 ≤ now ∧ now ≤ 1099511627776) : ACall PX 69 [.agg ⟨cs20 c⟩,.agg #[nI s],nI now,nI want,nI have_,nI mean,nI waiting,nI busy] h (fun v g => v = nI (zWant c s now want have_ mean waiting busy) ∧ Ext h g) := by
 unfold zWant
 refine acallA Tryz.func69 c69 ?_
 unfold ir69
 dsimp only [qo,qm,qk,q2,qi,qg,qn,qc,dq,ci,cb,qh,qs]
 repeat (first | apply sS | apply ai_seq | apply ai_regW)
 refine w_box rfl fun g1 x1 k1 n1 => ?_
 repeat (first | apply sS)
 refine w_box rfl fun g2 x2 k2 n2 => ?_
 have k12 := (x2.2 _ n1).trans k1
 have x02 := x1.trans x2
 by_cases q : 0 < want
 ·rw [if_pos q]
  repeat (first | apply sS | apply sE | refine w_mv rfl ?_ | (apply is_bin; refine w_cT rfl ?_) | apply ai_seq | apply ai_regW | refine ai_cT rfl ?_ | apply ai_block | (apply ai_ret; repeat (first | rw [thenQ_r] | rw [blockQ_r] | rw [roundE_r])))
  exact end_one rfl ⟨rfl,x02⟩
 rw [if_neg q]
 have key : ∀ (hq : ¬ (have_ = 0 ∧ waiting = 0)),(if (have_ = 0 ∧ waiting = 0) ∨ zMay c s now mean waiting busy = true then (0 : Int) else 1) = if zMay c s now mean waiting busy = true then 0 else 1 := by
  intro hq
  by_cases z : zMay c s now mean waiting busy = true
  ·rw [if_pos (.inr z),if_pos z]
  ·rw [if_neg (fun x => x.elim hq z),if_neg z]
 by_cases q1 : have_ = 0
 ·by_cases q2 : waiting = 0
  ·rw [if_pos (.inl ⟨q1,q2⟩)]
   repeat (first | apply sS | apply sE | refine w_mv rfl ?_ | refine w_pickT rfl ?_ | refine w_gT rfl rfl ?_ | (apply is_bin; refine w_cT rfl ?_) | (apply is_bin; refine w_cF rfl ?_) | apply ai_seq | apply ai_regW | refine ai_cT rfl ?_ | refine ai_cF rfl ?_ | apply ai_skip | apply ai_block | (apply ai_ret; repeat (first | rw [thenQ_r] | rw [blockQ_r] | rw [roundE_r])))
   exact end_one rfl ⟨rfl,x02⟩
  ·rw [key (fun x => q2 x.2)]
   repeat (first | apply sS | apply sE | refine w_mv rfl ?_ | refine w_pickT rfl ?_ | refine w_gT rfl rfl ?_ | (apply is_ldn; refine w_ldnA rfl ?_) | (apply is_bin; refine w_cT rfl ?_) | (apply is_bin; refine w_cF rfl ?_) | apply ai_seq | apply ai_regW | refine ai_cF rfl ?_ | apply ai_block)
   refine w_call rfl ((zmay_ok _ hm hs hn).mono ?_)
   rintro _ g3 ⟨rfl,x3⟩
   obtain ⟨z,hz⟩ : ∃ z,zMay c s now mean waiting busy = z := ⟨_,rfl⟩
   rw [hz]
   cases z
   ·repeat (first | apply sS | apply sE | refine w_mv rfl ?_ | apply ai_seq | apply ai_regW | refine ai_cF rfl ?_ | apply ai_skip | (apply ai_ret; repeat (first | rw [thenQ_r] | rw [blockQ_r] | rw [roundE_r])))
    exact end_one rfl ⟨rfl,x02.trans x3⟩
   ·repeat (first | apply sS | apply sE | refine w_mv rfl ?_ | apply ai_seq | apply ai_regW | refine ai_cT rfl ?_ | (apply ai_ret; repeat (first | rw [thenQ_r] | rw [blockQ_r] | rw [roundE_r])))
    exact end_one rfl ⟨rfl,x02.trans x3⟩
 ·rw [key (fun x => q1 x.1)]
  repeat (first | apply sS | apply sE | refine w_mv rfl ?_ | refine w_pickF rfl ?_ | refine w_gF rfl rfl ?_ | (apply is_ldn; refine w_ldnA rfl ?_) | (apply is_bin; refine w_cF rfl ?_) | apply ai_seq | apply ai_regW | refine ai_cF rfl ?_ | apply ai_block)
  refine w_call rfl ((zmay_ok _ hm hs hn).mono ?_)
  rintro _ g3 ⟨rfl,x3⟩
  obtain ⟨z,hz⟩ : ∃ z,zMay c s now mean waiting busy = z := ⟨_,rfl⟩
  rw [hz]
  cases z
  ·repeat (first | apply sS | apply sE | refine w_mv rfl ?_ | apply ai_seq | apply ai_regW | refine ai_cF rfl ?_ | apply ai_skip | (apply ai_ret; repeat (first | rw [thenQ_r] | rw [blockQ_r] | rw [roundE_r])))
   exact end_one rfl ⟨rfl,x02.trans x3⟩
  ·repeat (first | apply sS | apply sE | refine w_mv rfl ?_ | apply ai_seq | apply ai_regW | refine ai_cT rfl ?_ | (apply ai_ret; repeat (first | rw [thenQ_r] | rw [blockQ_r] | rw [roundE_r])))
   exact end_one rfl ⟨rfl,x02.trans x3⟩
abbrev Tg := Nat → Nat
def Tw (T : Tg) (h : Hp) : Prop := ∀ k,h.nx ≤ k → T k = 0
structure Tn (I : List Nat) (T : Tg) (h : Hp) (T' : Tg) (g : Hp) : Prop where
 nx : h.nx ≤ g.nx
 fr : ∀ k,k < h.nx → T k ∉ I → g.get k = h.get k
 ex : ∀ k,k < h.nx → T' k = T k
 w : Tw T' g
 ni : ∀ k,h.nx ≤ k → T' k = 0 ∨ T' k ∈ I
theorem Tn.refl {I : List Nat} {T : Tg} {h : Hp} (w : Tw T h) : Tn I T h T h := ⟨Nat.le_refl _,fun _ _ _ => rfl,fun _ _ => rfl,w,fun k hk => .inl (w k hk)⟩
theorem Tn.trans {I : List Nat} {T T' T2 : Tg} {a b c : Hp} (x : Tn I T a T' b) (y : Tn I T' b T2 c) : Tn I T a T2 c :=
 ⟨Nat.le_trans x.nx y.nx,fun k hk hn => (y.fr k (Nat.lt_of_lt_of_le hk x.nx) (by rw [x.ex k hk]; exact hn)).trans (x.fr k hk hn),fun k hk => (y.ex k (Nat.lt_of_lt_of_le hk x.nx)).trans (x.ex k hk),y.w,fun k hk => by
  rcases Nat.lt_or_ge k b.nx with h | h
  ·rw [y.ex k h]; exact x.ni k hk
  ·exact y.ni k h⟩
theorem Tn.mono {I J : List Nat} {T T' : Tg} {a b : Hp} (x : Tn I T a T' b) (h : ∀ i ∈ I,i ∈ J) : Tn J T a T' b :=
 ⟨x.nx,fun k hk hn => x.fr k hk fun q => hn (h _ q),x.ex,x.w,fun k hk => (x.ni k hk).imp id (h _)⟩
theorem Tn.of_ext {I : List Nat} {T : Tg} {h g : Hp} (w : Tw T h) (x : Ext h g) : Tn I T h T g :=
 ⟨x.1,fun k hk _ => x.2 k hk,fun _ _ => rfl,fun k hk => w k (Nat.le_trans x.1 hk),fun k hk => .inl (w k hk)⟩
theorem Tn.of_one {I : List Nat} {T : Tg} {h g : Hp} {i : Nat} (w : Tw T h) (hi : T i ∈ I) (hk : ∀ k,k ≠ i → g.get k = h.get k) (hn : g.nx = h.nx) : Tn I T h T g :=
 ⟨by omega,fun k _ hn' => hk k fun e => hn' (e ▸ hi),fun _ _ => rfl,fun k hk => w k (by omega),fun k hk => .inl (w k hk)⟩
theorem Tn.late {I : List Nat} {T T' : Tg} {h g g' : Hp} {i : Nat} (x : Tn I T h T' g) (hi : h.nx ≤ i) (hk : ∀ k,k ≠ i → g'.get k = g.get k) (hn : g'.nx = g.nx) : Tn I T h T' g' :=
 ⟨by have := x.nx; omega,fun k hk' hn' => (hk k (by omega)).trans (x.fr k hk' hn'),x.ex,fun k hk => x.w k (by omega),x.ni⟩
def tg (T : Tg) (h g : Hp) (t : Nat) : Tg := fun k => if k < h.nx then T k else if k < g.nx then t else 0
theorem Tn.of_fr {T : Tg} {h g : Hp} {t : Nat} (x : FrP (fun k => T k = t) h g) : Tn [t] T h (tg T h g t) g :=
 ⟨x.1,fun k hk hn => x.2 k hk fun e => hn (by simp [e]),fun k hk => by unfold tg; rw [if_pos hk],fun k hk => by unfold tg; have := x.1; rw [if_neg (by omega),if_neg (by omega)],fun k hk => by
  unfold tg
  rw [if_neg (by omega)]
  split
  ·exact .inr (by simp)
  ·exact .inl rfl⟩
theorem tg_up' {T : Tg} {h g : Hp} {t : Nat} : ∀ k,k < g.nx → Up (fun k => T k = t) h g k → tg T h g t k = t := fun k hk u => by
 unfold tg
 rcases u with u | u
 ·by_cases q : k < h.nx
  ·rw [if_pos q]; exact u
  ·rw [if_neg q,if_pos hk]
 ·rw [if_neg (by omega),if_pos hk]
theorem RgF.up {T : Tg} {h g : Hp} {t R : Nat} {r : Rg} (a : RgF g (Up (fun k => T k = t) h g) R r) : RgF g (fun k => tg T h g t k = t) R r := a.keep (Nat.le_refl _) (fun _ _ _ => rfl) tg_up'
theorem DlF.up {T : Tg} {h g : Hp} {t R : Nat} {r : Dl} (a : DlF g (Up (fun k => T k = t) h g) R r) : DlF g (fun k => tg T h g t k = t) R r := a.keep (Nat.le_refl _) (fun _ _ _ => rfl) tg_up'
theorem RgF.tr {I : List Nat} {T T' : Tg} {h g : Hp} {t R : Nat} {r : Rg} (a : RgF h (fun k => T k = t) R r) (x : Tn I T h T' g) (ht : t ∉ I) : RgF g (fun k => T' k = t) R r :=
 a.keep x.nx (fun k hk e => x.fr k hk (by rw [e]; exact ht)) fun k hk e => (x.ex k hk).trans e
theorem DlF.tr {I : List Nat} {T T' : Tg} {h g : Hp} {t R : Nat} {r : Dl} (a : DlF h (fun k => T k = t) R r) (x : Tn I T h T' g) (ht : t ∉ I) : DlF g (fun k => T' k = t) R r :=
 a.keep x.nx (fun k hk e => x.fr k hk (by rw [e]; exact ht)) fun k hk e => (x.ex k hk).trans e
section
def fillL (f : Nat → Option (Nat × Nat)) : List Value → List (Nat × Value) → Option (List Value)
 | cs,[] => some cs
 | cs,(i,v) :: r => match f i with
  | none => none
  | some (o,n) => if Nat.beq v.cells.size n && Nat.ble (o + n) cs.length then fillL f (cs.take o ++ v.cells.toList ++ cs.drop (o + n)) r else none
theorem fill_step [Fl] (o : Nat) (v : Value) (cs : List Value) (h : o + v.cells.size ≤ cs.length) : v.cells.zipIdx.foldl (fun (cs : Array Value) x => cs.setIfInBounds (o + x.2) x.1) ⟨cs⟩ = ⟨cs.take o ++ v.cells.toList ++ cs.drop (o + v.cells.size)⟩ := by
 have hf := fold_at o v.cells.toList (cs.take o) (cs.drop o) 0 (by rw [List.length_take]; omega) (by rw [List.length_drop,Array.length_toList]; omega)
 rw [List.take_append_drop,List.drop_drop,Array.length_toList] at hf
 rw [← Array.foldl_toList,Array.toList_zipIdx]
 exact hf
theorem fill_L [Fl] (f : Nat → Option (Nat × Nat)) : ∀ (l : List (Nat × Value)) (cs us : List Value),fillL f cs l = some us → Instr.fill f ⟨cs⟩ l = some ⟨us⟩
 | [],cs,us,h => by
  simp only [fillL,Option.some.injEq] at h
  subst h
  rfl
 | (i,v) :: r,cs,us,h => by
  simp only [fillL] at h
  simp only [Instr.fill]
  cases hf : f i with
  | none => rw [hf] at h; cases h
  | some p =>
   obtain ⟨o,n⟩ := p
   rw [hf] at h
   dsimp only at h ⊢
   split at h
   ·next hc =>
    rw [Bool.and_eq_true] at hc
    have h1 : v.cells.size = n := Nat.eq_of_beq_eq_true hc.1
    have h2 := Nat.le_of_ble_eq_true hc.2
    subst h1
    rw [if_neg (by simp; exact h2)]
    rw [fill_step o v cs h2]
    exact fill_L f r _ _ h
   ·cases h
section
variable {P : Program} {CT : CTy} {d : Option Nat} {env : Env} {h : Hp} {xs : List Operand} {vs : List Value} {R : Value → Hp → Prop}
theorem w_bldG [Fl] {z : Array Value} {pl : List (Nat × Nat)} {ix : List Nat} {us : List Value} (e : mapF env xs = some vs) (hx : Nat.beq ix.length vs.length = true) (hv : fillL (fun i => pl[i]?) z.toList (ix.zip vs) = some us) (n : R (.agg ⟨us⟩) h) : WI P CT ⟨d,none,.op (.bld z pl ix) xs⟩ env h R := by
 refine w_op (v := .agg ⟨us⟩) (h' := h) ?_ n
 unfold opF
 rw [e]
 have hl : ix.length = vs.length := Nat.eq_of_beq_eq_true hx
 simp only [stepK,hl,if_true]
 rw [show z = (⟨z.toList⟩ : Array Value) from rfl,fill_L _ _ _ _ hv]
 rfl
end
theorem splice_take [Fl] (cs us : List Value) (o : Nat) (h : o + cs.length ≤ us.length) : splice us o cs = us.take o ++ cs ++ us.drop (o + cs.length) := by
 induction cs generalizing us o with
 | nil => simp [splice]
 | cons v r ih =>
  rw [List.length_cons] at h
  simp only [splice]
  rw [ih _ _ (by rw [List.length_set]; omega),List.set_eq_take_append_cons_drop,if_pos (by omega)]
  have hl : (us.take o).length = o := by rw [List.length_take]; omega
  have e1 : (us.take o ++ v :: us.drop (o + 1)).take (o + 1) = us.take o ++ [v] := by
   rw [List.take_append,hl,List.take_of_length_le (by omega),show o + 1 - o = 1 by omega]
   rfl
  have e2 : (us.take o ++ v :: us.drop (o + 1)).drop (o + 1 + r.length) = us.drop (o + (r.length + 1)) := by
   rw [List.drop_append,hl,List.drop_eq_nil_of_le (by omega),List.nil_append,show o + 1 + r.length - o = r.length + 1 by omega,List.drop_succ_cons,List.drop_drop]
   congr 1
   omega
  rw [e1,e2,List.length_cons]
  simp
end
def rE (R : Nat) : Value := .iface 130 (ptr R)
def mtV (c : Cf20) (Ra Rb : Nat) (o : Bool) : List Value := [nI c.target,nI c.util,nI c.stable,nI c.panic,nI c.grain,nI c.threshold,nI c.up,nI c.down,nI c.min,nI c.max,nI c.initial,nI c.grace,nI c.delay,nI c.burst,nI c.limit,nI c.queue,nI c.timeout,nI c.ready,nI c.subset,nI c.sample,rE Ra,rE Rb,.bool o]
def MtF (h : Hp) (T : Tg) (M : Nat) (m : Mt) : Prop := M < h.nx ∧ T M = 5 ∧ ∃ Ra Rb,h.get M = some ⟨mtV m.c Ra Rb m.over,true,0⟩ ∧ RgF h (fun k => T k = 6) Ra m.a ∧ RgF h (fun k => T k = 7) Rb m.b
structure MtB (m : Mt) (T : Int) : Prop where
 c : mayB m.c = true
 a : RgB m.a T
 b : RgB m.b T
 aw : m.a.window = m.c.stable ∧ m.a.grain = m.c.grain
 bw : m.b.window = m.c.panic ∧ m.b.grain = m.c.grain
theorem MtB.mono {m : Mt} {T T' : Int} (b : MtB m T) (h : T ≤ T') : MtB m T' := ⟨b.c,b.a.mono h,b.b.mono h,b.aw,b.bw⟩
theorem MtF.tr {I : List Nat} {T T' : Tg} {h g : Hp} {M : Nat} {m : Mt} (a : MtF h T M m) (x : Tn I T h T' g) (h5 : 5 ∉ I) (h6 : 6 ∉ I) (h7 : 7 ∉ I) : MtF g T' M m := by
 obtain ⟨hM,t5,Ra,Rb,hg,a1,a2⟩ := a
 exact ⟨Nat.lt_of_lt_of_le hM x.nx,(x.ex M hM).trans t5,Ra,Rb,(x.fr M hM (by rw [t5]; exact h5)).trans hg,a1.tr x h6,a2.tr x h7⟩
theorem of0_ok (h : Hp) {M : Nat} {c : Cf20} {Ra Rb : Nat} {o : Bool} (hg : h.get M = some ⟨mtV c Ra Rb o,true,0⟩) : ACall PX 109 [ptr M,nI 0] h (fun v g => v = ptr Ra ∧ h = g) := by
 refine acallA Tryz.func109 c109 ?_
 unfold ir109
 dsimp only [qo,qm,qk,q2,qi,qg,qn,qc,dq,ci,cb,qh,qs]
 repeat (first | apply sS | apply sE | refine w_mv rfl ?_ | (refine is_okn rfl ?_; refine w_op rfl ?_) | refine w_ext rfl rfl ?_ | (apply is_ld; refine w_ldA rfl ?_) | (refine w_iaa rfl ?_ ?_; focus (first | omega | (simp; done) | (simp; omega))) | apply ai_seq | apply ai_regW | (apply ai_ret; repeat (first | rw [thenQ_r] | rw [blockQ_r] | rw [roundE_r])))
 exact end_one rfl ⟨rfl,rfl⟩
theorem of1_ok (h : Hp) {M : Nat} {c : Cf20} {Ra Rb : Nat} {o : Bool} (hg : h.get M = some ⟨mtV c Ra Rb o,true,0⟩) : ACall PX 109 [ptr M,nI 1] h (fun v g => v = ptr Rb ∧ h = g) := by
 refine acallA Tryz.func109 c109 ?_
 unfold ir109
 dsimp only [qo,qm,qk,q2,qi,qg,qn,qc,dq,ci,cb,qh,qs]
 repeat (first | apply sS | apply sE | refine w_mv rfl ?_ | (refine is_okn rfl ?_; refine w_op rfl ?_) | refine w_ext rfl rfl ?_ | (apply is_ld; refine w_ldA rfl ?_) | (refine w_iaa rfl ?_ ?_; focus (first | omega | (simp; done) | (simp; omega))) | apply ai_seq | apply ai_regW | (apply ai_ret; repeat (first | rw [thenQ_r] | rw [blockQ_r] | rw [roundE_r])))
 exact end_one rfl ⟨rfl,rfl⟩
theorem mtover_ok (h : Hp) {T : Tg} {M : Nat} {m : Mt} (a : MtF h T M m) : ACall PX 72 [ptr M] h (fun v g => v = .bool (mtOver m) ∧ h = g) := by
 obtain ⟨hM,t5,Ra,Rb,hg,a1,a2⟩ := a
 unfold mtOver
 obtain ⟨mc,ma,mb,mo⟩ := m
 dsimp only at hg a1 a2 ⊢
 obtain ⟨oa,ha⟩ : ∃ o,ma.over = o := ⟨_,rfl⟩
 obtain ⟨ob,hb⟩ : ∃ o,mb.over = o := ⟨_,rfl⟩
 have va := over_ok h a1
 have vb := over_ok h a2
 rw [ha] at va ⊢
 rw [hb] at vb ⊢
 refine acallA Tryz.func72 c72 ?_
 unfold ir72
 dsimp only [qo,qm,qk,q2,qi,qg,qn,qc,dq,ci,cb,qh,qs]
 cases mo
 ·cases oa
  ·cases ob
   ·repeat (first | apply sS | apply sE | refine w_mv rfl ?_ | refine w_pickT rfl ?_ | refine w_pickF rfl ?_ | (refine is_okn rfl ?_; refine w_op rfl ?_) | refine w_gT rfl rfl ?_ | (apply is_ld; refine w_ldA rfl ?_) | (refine w_callE ((of0_ok _ hg).mono ?_) rfl rfl; rintro _ _ ⟨rfl,rfl⟩) | (refine w_callE ((of1_ok _ hg).mono ?_) rfl rfl; rintro _ _ ⟨rfl,rfl⟩) | (refine w_callE ((va).mono ?_) rfl rfl; rintro _ _ ⟨rfl,rfl⟩) | (refine w_callE ((vb).mono ?_) rfl rfl; rintro _ _ ⟨rfl,rfl⟩) | apply ai_seq | apply ai_regW | (apply ai_ret; repeat (first | rw [thenQ_r] | rw [blockQ_r] | rw [roundE_r])))
    exact end_one rfl ⟨rfl,rfl⟩
   ·repeat (first | apply sS | apply sE | refine w_mv rfl ?_ | refine w_pickT rfl ?_ | refine w_pickF rfl ?_ | (refine is_okn rfl ?_; refine w_op rfl ?_) | refine w_gT rfl rfl ?_ | (apply is_ld; refine w_ldA rfl ?_) | (refine w_callE ((of0_ok _ hg).mono ?_) rfl rfl; rintro _ _ ⟨rfl,rfl⟩) | (refine w_callE ((of1_ok _ hg).mono ?_) rfl rfl; rintro _ _ ⟨rfl,rfl⟩) | (refine w_callE ((va).mono ?_) rfl rfl; rintro _ _ ⟨rfl,rfl⟩) | (refine w_callE ((vb).mono ?_) rfl rfl; rintro _ _ ⟨rfl,rfl⟩) | apply ai_seq | apply ai_regW | (apply ai_ret; repeat (first | rw [thenQ_r] | rw [blockQ_r] | rw [roundE_r])))
    exact end_one rfl ⟨rfl,rfl⟩
  ·repeat (first | apply sS | apply sE | refine w_mv rfl ?_ | refine w_pickT rfl ?_ | refine w_pickF rfl ?_ | (refine is_okn rfl ?_; refine w_op rfl ?_) | refine w_gT rfl rfl ?_ | refine w_gF rfl rfl ?_ | (apply is_ld; refine w_ldA rfl ?_) | (refine w_callE ((of0_ok _ hg).mono ?_) rfl rfl; rintro _ _ ⟨rfl,rfl⟩) | (refine w_callE ((va).mono ?_) rfl rfl; rintro _ _ ⟨rfl,rfl⟩) | apply ai_seq | apply ai_regW | (apply ai_ret; repeat (first | rw [thenQ_r] | rw [blockQ_r] | rw [roundE_r])))
   exact end_one rfl ⟨rfl,rfl⟩
 ·repeat (first | apply sS | apply sE | refine w_mv rfl ?_ | refine w_pickT rfl ?_ | (refine is_okn rfl ?_; refine w_op rfl ?_) | refine w_gT rfl rfl ?_ | refine w_gF rfl rfl ?_ | (apply is_ld; refine w_ldA rfl ?_) | apply ai_seq | apply ai_regW | (apply ai_ret; repeat (first | rw [thenQ_r] | rw [blockQ_r] | rw [roundE_r])))
  exact end_one rfl ⟨rfl,rfl⟩
theorem mtput_ok (h : Hp) {T : Tg} {M : Nat} {m : Mt} {n t v : Int} (a : MtF h T M m) (b : MtB m n) (hT : 0 ≤ n) (ht : t = n + 1) (h0 : t ≤ 1099511627776) (hv : 0 ≤ v ∧ v ≤ 9223372036854775807) :
  ACall PX 94 [ptr M,nI t,nI v] h (fun _ g => ∃ T',MtF g T' M (mtPut m t v) ∧ Tn [5,6,7] T h T' g) := by
 obtain ⟨hM,t5,Ra,Rb,hg,a1,a2⟩ := a
 refine acallA Tryz.func94 c94 ?_
 unfold ir94
 dsimp only [qo,qm,qk,q2,qi,qg,qn,qc,dq,ci,cb,qh,qs]
 repeat (first | apply sS | apply sE | refine w_mv rfl ?_ | (refine is_okn rfl ?_; refine w_op rfl ?_) | (refine w_callE ((of0_ok _ hg).mono ?_) rfl rfl; rintro _ _ ⟨rfl,rfl⟩) | apply ai_seq | apply ai_regW | refine ai_cF rfl ?_ | apply ai_skip)
 refine w_call rfl ((rgput_ok h a1 b.a hT ht h0 hv).mono ?_)
 rintro _ g1 ⟨⟨c1,rfl⟩,r1,f1⟩
 have x1 := Tn.of_fr f1
 have r1 := r1.up
 have hg1 := (f1.2 M hM (by dsimp only; rw [t5]; decide)).trans hg
 have a21 := a2.tr x1 (by decide)
 have t51 : tg T h g1 6 M = 5 := (x1.ex M hM).trans t5
 have hM1 := Nat.lt_of_lt_of_le hM x1.nx
 repeat (first | apply sS | apply sE | refine w_mv rfl ?_ | (refine w_callE ((of1_ok _ hg1).mono ?_) rfl rfl; rintro _ _ ⟨rfl,rfl⟩) | apply ai_seq | apply ai_regW)
 refine w_call rfl ((rgput_ok g1 a21 b.b hT ht h0 hv).mono ?_)
 rintro _ g2 ⟨⟨c2,rfl⟩,r2,f2⟩
 have x2 := Tn.of_fr f2
 have r2 := r2.up
 have hg2 := (f2.2 M hM1 (by dsimp only; rw [t51]; decide)).trans hg1
 repeat (first | apply sS | apply sE | refine w_mv rfl ?_ | (apply ai_ret; repeat (first | rw [thenQ_r] | rw [blockQ_r] | rw [roundE_r])))
 exact end_one rfl ⟨_,⟨Nat.lt_of_lt_of_le hM1 x2.nx,(x2.ex M hM1).trans t51,Ra,Rb,hg2,r1.tr x2 (by decide),r2⟩,(x1.mono (by decide)).trans (x2.mono (by decide))⟩
theorem MtB.put {m : Mt} {n t v : Int} (b : MtB m n) (hT : 0 ≤ n) (ht : t = n + 1) (h0 : t ≤ 1099511627776) (hv : 0 ≤ v ∧ v ≤ 9223372036854775807) : MtB (mtPut m t v) t := by
 have e : ∀ r : Rg,(rgPut r t v).window = r.window ∧ (rgPut r t v).grain = r.grain := by
  intro r
  unfold rgPut
  split
  ·exact ⟨rfl,rfl⟩
  ·split <;> exact ⟨rfl,rfl⟩
 exact ⟨b.c,b.a.put hT ht h0 hv,b.b.put hT ht h0 hv,⟨(e _).1.trans b.aw.1,(e _).2.trans b.aw.2⟩,⟨(e _).1.trans b.bw.1,(e _).2.trans b.bw.2⟩⟩
theorem means_ok (h : Hp) {T : Tg} {M : Nat} {m : Mt} {n t : Int} (a : MtF h T M m) (w : Tw T h) (b : MtB m n) (hT : n ≤ 1099511627776) (ht : 0 ≤ t ∧ t ≤ 1099511627776) :
  ACall PX 98 [ptr M,nI t] h (fun v g => v = .tuple #[nI (rgMean m.a t),nI (rgMean m.b t)] ∧ MtF g T M (mtSeen m t) ∧ Tn [5,6,7] T h T g) := by
 obtain ⟨hM,t5,Ra,Rb,hg,a1,a2⟩ := a
 have same : ∀ {a b : Hp} {i : Nat},Tw T a → FrP (fun k => T k = i) a b → b.nx = a.nx → Tn [i] T a T b := fun w f e => ⟨f.1,fun k hk hn => f.2 k hk fun e => hn (by simp [e]),fun _ _ => rfl,fun k hk => w k (by omega),fun k hk => .inl (w k (by omega))⟩
 refine acallA Tryz.func98 c98 ?_
 unfold ir98
 dsimp only [qo,qm,qk,q2,qi,qg,qn,qc,dq,ci,cb,qh,qs]
 repeat (first | apply sS | apply sE | refine w_mv rfl ?_ | (refine is_okn rfl ?_; refine w_op rfl ?_) | (refine w_callE ((of0_ok _ hg).mono ?_) rfl rfl; rintro _ _ ⟨rfl,rfl⟩) | apply ai_seq | apply ai_regW | refine ai_cF rfl ?_ | apply ai_skip)
 refine w_call rfl ((rgmean_ok h a1 b.a hT ht).mono ?_)
 rintro _ g1 ⟨rfl,r1,f1,e1⟩
 have x1 := same w f1 e1
 have hg1 := (f1.2 M hM (by dsimp only; rw [t5]; decide)).trans hg
 have a21 := a2.tr x1 (by decide)
 repeat (first | apply sS | refine w_mv rfl ?_ | (refine w_callE ((of1_ok _ hg1).mono ?_) rfl rfl; rintro _ _ ⟨rfl,rfl⟩))
 refine w_call rfl ((rgmean_ok g1 a21 b.b hT ht).mono ?_)
 rintro _ g2 ⟨rfl,r2,f2,e2⟩
 have x2 := same x1.w f2 e2
 have hg2 := (f2.2 M (by omega) (by dsimp only; rw [t5]; decide)).trans hg1
 repeat (first | apply sS | apply sE | refine w_mv rfl ?_ | (apply ai_ret; repeat (first | rw [thenQ_r] | rw [blockQ_r] | rw [roundE_r])))
 exact end_two rfl rfl ⟨rfl,⟨by omega,t5,Ra,Rb,hg2,r1.tr x2 (by decide),r2⟩,(x1.mono (by decide)).trans (x2.mono (by decide))⟩
theorem MtB.seen {m : Mt} {n t : Int} (b : MtB m n) : MtB (mtSeen m t) n := ⟨b.c,b.a.seen,b.b.seen,b.aw,b.bw⟩
theorem RgB.new {w g n : Int} (hw : 1 ≤ w ∧ w ≤ 600) (hg : 1 ≤ g ∧ g ≤ w) (hn : 0 ≤ n) : RgB (rgNew w g) n := ⟨hw,hg,rfl,(by show -1 ≤ (-1 : Int) ∧ (-1 : Int) ≤ n; omega),(fun b hb => by cases hb),(by simpa [rgNew] using hn)⟩
theorem MtB.new {c : Cf20} (hm : mayB c = true) {n : Int} (hn : 0 ≤ n) : MtB (mtNew c) n := by
 have k := cf_ok hm
 have h1 := k.stable; have h2 := k.panic; have h3 := k.grain
 exact ⟨hm,.new (by omega) (by omega) hn,.new (by omega) (by omega) hn,⟨rfl,rfl⟩,⟨rfl,rfl⟩⟩
set_option maxHeartbeats 2000000 in
theorem mtnew_ok (h : Hp) {T : Tg} (_ : Tw T h) {c : Cf20} (hm : mayB c = true) : ACall PX 44 [.agg ⟨cs20 c⟩] h (fun v g => ∃ M T',v = ptr M ∧ MtF g T' M (mtNew c) ∧ Tn [5,6,7] T h T' g ∧ Ext h g ∧ h.nx ≤ M) := by
 have k := cf_ok hm
 have q1 := k.stable; have q2 := k.panic; have q3 := k.grain
 refine acallA Tryz.func44 c44 ?_
 unfold ir44
 dsimp only [qo,qm,qk,q2,qi,qg,qn,qc,dq,ci,cb,qh,qs]
 repeat (first | apply sS | apply ai_seq | apply ai_regW)
 refine w_box rfl fun g1 x1 k1 n1 => ?_
 replace k1 : g1.get h.nx = some ⟨cs20 c,true,0⟩ := k1
 repeat (first | apply sS | apply sE | refine w_mv rfl ?_ | (apply is_ldn; refine w_ldnA rfl ?_) | apply ai_seq | apply ai_regW)
 refine w_call rfl ((mayT hm _).mono ?_)
 rintro _ g2 ⟨rfl,x2⟩
 have k2 := (x2.2 _ n1).trans k1
 have o1 := x1.1
 have o2 := x2.1
 repeat (first | apply sS | apply dS | apply dSR | apply sE | (refine is_okn rfl ?_; refine w_op rfl ?_) | (apply is_ld; refine w_ldA rfl ?_) | (apply is_ldn; refine w_ldnA rfl ?_) | apply ai_seq | refine ai_cF rfl ?_ | apply ai_skip | refine ai_drwW (by kernel_rfl) ?_)
 refine w_call rfl ((rgnew_ok g2 (by omega) (by omega)).mono ?_)
 rintro _ g3 ⟨rfl,r3,x3,e3⟩
 have k3 := (x3.2 _ (by omega)).trans k2
 repeat (first | apply dS | apply dSR | (apply is_ag; refine agSA ?_) | (refine is_okn rfl ?_; refine w_op rfl ?_))
 refine w_call rfl ((rgnew_ok g3 (by omega) (by omega)).mono ?_)
 rintro _ g4 ⟨rfl,r4,x4,e4⟩
 have k4 := (x4.2 _ (by omega)).trans k3
 refine agSA ?_
 refine dS (w_op rfl ?_)
 refine dS (w_bldG (us := [rE g2.nx,rE g3.nx]) rfl rfl rfl ?_)
 refine dS (w_bldG (us := mtV c g2.nx g3.nx false) rfl rfl rfl ?_)
 refine dS (w_box rfl fun g5 x5 k5 n5 => ?_)
 repeat (first | apply dS | apply dE | refine w_mv rfl ?_ | (apply ai_ret; repeat (first | rw [thenQ_r] | rw [blockQ_r] | rw [roundE_r])))
 have x05 := (((x1.trans x2).trans x3).trans x4).trans x5
 have o5 := x5.1
 refine end_one rfl ⟨g4.nx,fun k => if k < h.nx then T k else if k = g4.nx then 5 else if k = g2.nx then 6 else if k = g3.nx then 7 else 0,rfl,⟨n5,?_,g2.nx,g3.nx,k5,?_,?_⟩,⟨x05.1,fun k hk _ => x05.2 k hk,fun k hk => by rw [if_pos hk],fun k hk => ?_,fun k hk => ?_⟩,x05,by omega⟩
 ·dsimp only; rw [if_neg (by omega),if_pos rfl]
 ·refine r3.keep (by omega) (fun k hk hs => (x5.2 k (by omega)).trans (x4.2 k hk)) fun k hk hs => ?_
  have e : k = g2.nx := by omega
  subst e
  dsimp only
  rw [if_neg (by omega),if_neg (by omega),if_pos rfl]
 ·refine r4.keep (by omega) (fun k hk hs => x5.2 k (by omega)) fun k hk hs => ?_
  have e : k = g3.nx := by omega
  subst e
  dsimp only
  rw [if_neg (by omega),if_neg (by omega),if_neg (by omega),if_pos rfl]
 ·rw [if_neg (by omega),if_neg (by omega),if_neg (by omega),if_neg (by omega)]
 ·rw [if_neg (by omega)]
  split
  ·exact .inr (by decide)
  ·split
   ·exact .inr (by decide)
   ·split
    ·exact .inr (by decide)
    ·exact .inl rfl
set_option maxHeartbeats 2000000 in
theorem mtchange_ok (h : Hp) {T : Tg} (w : Tw T h) {M : Nat} {m : Mt} {n : Int} (a : MtF h T M m) (b : MtB m n) (hn : n ≤ 1099511627776) {c : Cf20} (hm : mayB c = true) : ACall PX 91 [ptr M,.agg ⟨cs20 c⟩] h (fun _ g => ∃ T',MtF g T' M (mtChange m c) ∧ Tn [5,6,7] T h T' g) := by
 have k := cf_ok hm
 have q1 := k.stable; have q2 := k.panic; have q3 := k.grain
 have ha := a
 obtain ⟨hM,t5,Ra,Rb,hg,a1,a2⟩ := a
 refine acallA Tryz.func91 c91 ?_
 unfold ir91
 dsimp only [qo,qm,qk,q2,qi,qg,qn,qc,dq,ci,cb,qh,qs]
 repeat (first | apply sS | apply ai_seq | apply ai_regW)
 refine w_box rfl fun g1 x1 k1 n1 => ?_
 replace k1 : g1.get h.nx = some ⟨cs20 c,true,0⟩ := k1
 repeat (first | apply sS | apply sE | refine w_mv rfl ?_ | (refine is_okn rfl ?_; refine w_op rfl ?_) | (apply is_ldn; refine w_ldnA rfl ?_) | apply ai_seq | apply ai_regW | refine ai_cF rfl ?_ | apply ai_block)
 refine w_call rfl ((mayT hm _).mono ?_)
 rintro _ g2 ⟨rfl,x2⟩
 have k2 := (x2.2 _ n1).trans k1
 have o1 := x1.1
 have o2 := x2.1
 have x02 := x1.trans x2
 have y2 : Tn [5,6,7] T h T g2 := .of_ext w x02
 have hg2 := (x02.2 M hM).trans hg
 have m2 := ha.tr (I := []) (.of_ext w x02) (by decide) (by decide) (by decide)
 repeat (first | apply sS | apply dS | apply sE | refine w_mv rfl ?_ | (refine is_okn rfl ?_; refine w_op rfl ?_) | (apply is_ld; refine w_ldA rfl ?_) | apply ai_seq | refine ai_cF rfl ?_ | refine ai_drwW (by kernel_rfl) ?_)
 by_cases qg : c.grain = m.c.grain
 ·have ech : mtChange m c = { m with a := rgSize m.a c.stable,b := rgSize m.b c.panic,c := c } := if_neg (by simp [qg])
  rw [ech]
  obtain ⟨_,_,Ra2,Rb2,hg2',a12,a22⟩ := m2
  have hRR : Ra2 = Ra ∧ Rb2 = Rb := by
   rw [hg2] at hg2'
   simp [mtV,rE] at hg2'
   exact ⟨hg2'.1.symm,hg2'.2.symm⟩
  obtain ⟨rfl,rfl⟩ := hRR
  clear hg2'
  repeat (first | apply dS | apply dSR | apply dE | (apply is_ag; refine agSA ?_) | refine w_mv rfl ?_ | (refine is_okn rfl ?_; refine w_op rfl ?_) | (apply is_ld; refine w_ldA rfl ?_) | (apply is_bin; refine w_cF rfl ?_) | (refine w_callE ((of0_ok _ hg2).mono ?_) rfl rfl; rintro _ _ ⟨rfl,rfl⟩) | apply ai_seq | refine ai_cF rfl ?_ | apply ai_skip | refine ai_drwW (by kernel_rfl) ?_)
  refine w_call rfl ((resize_ok g2 a12 b.a hn (w := c.stable) (by have := b.aw; omega)).mono ?_)
  rintro _ g3 ⟨r3,f3⟩
  have y3 := Tn.of_fr f3
  have r3 := r3.up
  have hg3 := (f3.2 M (by omega) (by dsimp only; rw [t5]; decide)).trans hg2
  have k3 := (f3.2 h.nx (by omega) (by dsimp only; rw [w _ (Nat.le_refl _)]; decide)).trans k2
  have o3 := f3.1
  have a23 := a22.tr y3 (by decide)
  have t53 : tg T g2 g3 6 M = 5 := (y3.ex M (by omega)).trans t5
  repeat (first | apply dS | apply dSR | apply dE | (apply is_ag; refine agSA ?_) | refine w_mv rfl ?_ | (refine is_okn rfl ?_; refine w_op rfl ?_) | (apply is_ld; refine w_ldA rfl ?_) | (refine w_callE ((of1_ok _ hg3).mono ?_) rfl rfl; rintro _ _ ⟨rfl,rfl⟩) | apply ai_seq | refine ai_drwW (by kernel_rfl) ?_)
  refine w_call rfl ((resize_ok g3 a23 b.b hn (w := c.panic) (by have := b.bw; omega)).mono ?_)
  rintro _ g4 ⟨r4,f4⟩
  have y4 := Tn.of_fr f4
  have r4 := r4.up
  have hg4 := (f4.2 M (by omega) (by dsimp only; rw [t53]; decide)).trans hg3
  have k4 := (f4.2 h.nx (by omega) (by dsimp only; rw [y3.ex h.nx (by omega),w _ (Nat.le_refl _)]; decide)).trans k3
  have o4 := f4.1
  have t54 : tg (tg T g2 g3 6) g3 g4 7 M = 5 := (y4.ex M (by omega)).trans t53
  repeat (first | apply sS | apply sSn | apply dE | refine w_mv rfl ?_ | (refine is_okn rfl ?_; refine w_op rfl ?_) | (apply is_ldn; refine w_ldnA rfl ?_) | apply ai_seq | apply ai_regW)
  refine w_stP rfl rfl hg4 (by show 0 + 20 ≤ 23; decide) rfl fun g5 m5 k5 n5 => ?_
  rw [splice_take _ _ _ (by show 0 + 20 ≤ 23; decide)] at k5
  replace k5 : g5.get M = some ⟨mtV c Ra2 Rb2 m.over,true,0⟩ := k5
  repeat (first | apply sS | apply sE | refine w_mv rfl ?_ | apply ai_seq | apply ai_regW | (apply ai_ret; repeat (first | rw [thenQ_r] | rw [blockQ_r] | rw [roundE_r])))
  have y5 : Tn [5] (tg (tg T g2 g3 6) g3 g4 7) g4 (tg (tg T g2 g3 6) g3 g4 7) g5 := .of_one y4.w (by rw [t54]; decide) m5 n5
  exact end_one rfl ⟨_,⟨by omega,t54,Ra2,Rb2,k5,(r3.tr y4 (by decide)).tr y5 (by decide),r4.tr y5 (by decide)⟩,(y2.trans (y3.mono (by decide))).trans ((y4.mono (by decide)).trans (y5.mono (by decide)))⟩
 ·have ech : mtChange m c = { mtNew c with over := mtOver m } := if_pos qg
  rw [ech]
  repeat (first | apply sS | apply dS | apply dE | refine w_mv rfl ?_ | (apply is_bin; refine w_cT rfl ?_) | apply ai_seq | apply ai_regW | refine ai_cT rfl ?_)
  refine w_call rfl ((mtover_ok g2 m2).mono ?_)
  rintro _ _ ⟨rfl,rfl⟩
  repeat (first | apply sS | apply sE | refine w_mv rfl ?_ | (apply is_ldn; refine w_ldnA rfl ?_) | apply ai_seq | apply ai_regW)
  refine w_call rfl ((mtnew_ok g2 y2.w hm).mono ?_)
  rintro _ g3 ⟨M3,T3,rfl,⟨hM3,t3,Ra3,Rb3,hg3,r1,r2⟩,y3,x3,l3⟩
  have hgM := (x3.2 M (by omega)).trans hg2
  have o3 := x3.1
  repeat (first | apply sS | apply sSn | (refine is_okn rfl ?_; refine w_op rfl ?_) | (apply is_ldn; refine w_ldnA rfl ?_))
  refine w_stN rfl rfl hgM rfl rfl fun g4 m4 k4 n4 => ?_
  replace k4 : g4.get M = some ⟨mtV c Ra3 Rb3 false,true,0⟩ := k4
  repeat (first | apply sS | apply sSn | apply sE | refine w_mv rfl ?_ | (refine is_okn rfl ?_; refine w_op rfl ?_) | apply ai_seq | apply ai_regW)
  refine w_st1 rfl rfl k4 (by show 22 < 23; decide) rfl fun g5 m5 k5 n5 => ?_
  repeat (first | apply sS | apply sE | refine w_mv rfl ?_ | apply ai_seq | apply ai_regW | (apply ai_ret; repeat (first | rw [thenQ_r] | rw [blockQ_r] | rw [roundE_r])))
  have t5' : T3 M = 5 := (y3.ex M (by omega)).trans t5
  have y4 : Tn [5] T3 g3 T3 g5 := .of_one y3.w (by rw [t5']; decide) (fun k hk => (m5 k hk).trans (m4 k hk)) (by omega)
  exact end_one rfl ⟨T3,⟨by omega,t5',Ra3,Rb3,k5,r1.tr y4 (by decide),r2.tr y4 (by decide)⟩,(y2.trans y3).trans (y4.mono (by decide))⟩
theorem RgB.size {r : Rg} {n w : Int} (b : RgB r n) (hw : r.grain ≤ w ∧ w ≤ 600) : RgB (rgSize r w) n ∧ (rgSize r w).window = w ∧ (rgSize r w).grain = r.grain := by
 have hg := b.g
 unfold rgSize
 rw [if_neg (by omega)]
 exact ⟨⟨by dsimp only; omega,by dsimp only; omega,rfl,b.nw,fun c hc => b.b c (List.mem_filter.1 hc).1,Int.le_trans (sum_filter _ fun c hc => (b.b c hc).2.2.2.2) b.s⟩,rfl,rfl⟩
theorem MtB.change {m : Mt} {n : Int} (b : MtB m n) (h0 : 0 ≤ n) {c : Cf20} (hm : mayB c = true) : MtB (mtChange m c) n := by
 have k := cf_ok hm
 have q1 := k.stable; have q2 := k.panic; have q3 := k.grain
 unfold mtChange
 split
 ·have := MtB.new hm h0
  exact ⟨hm,this.a,this.b,this.aw,this.bw⟩
 ·next q =>
  have q : c.grain = m.c.grain := by simpa using q
  have h1 := b.a.size (w := c.stable) (by have := b.aw; omega)
  have h2 := b.b.size (w := c.panic) (by have := b.bw; omega)
  exact ⟨hm,h1.1,h2.1,⟨h1.2.1,by rw [h1.2.2,b.aw.2,q]⟩,⟨h2.2.1,by rw [h2.2.2,b.bw.2,q]⟩⟩
section
def mE (M : Nat) : Value := .iface 88 (ptr M)
def hE (H : Nat) : Value := .iface 90 (ptr H)
def ddV (c : Cf20) (P : Nat) (mode : Md2) (last : Int) : List Value := [nI c.target,nI c.util,nI c.stable,nI c.panic,nI c.grain,nI c.threshold,nI c.up,nI c.down,nI c.min,nI c.max,nI c.initial,nI c.grace,nI c.delay,nI c.burst,nI c.limit,nI c.queue,nI c.timeout,nI c.ready,nI c.subset,nI c.sample,.slice (some ⟨P,0,none⟩) 2 2,nI mode.1,nI mode.2,nI last]
structure DdG (g : Hp) (T : Tg) (D P M H : Nat) (c : Cf20) (mode : Md2) (last : Int) (m : Mt) (d : Dl) : Prop where
 w : Tw T g
 dl : D < g.nx
 td : T D = 4
 dg : g.get D = some ⟨ddV c P mode last,true,0⟩
 pl : P < g.nx
 tp : T P = 4
 pg : g.get P = some ⟨[mE M,hE H],true,1⟩
 ne : P ≠ D
 mt : MtF g T M m
 de : DlF g (fun k => T k = 8) H d
def DdF (g : Hp) (T : Tg) (D : Nat) (d : Dd) : Prop := ∃ P M H,DdG g T D P M H d.c d.mode d.last d.m d.d
section
variable {g g' : Hp} {T T' : Tg} {D P M H : Nat} {c c' : Cf20} {mode mode' : Md2} {last last' : Int} {m m' : Mt} {d d' : Dl}
theorem DdG.tr {I : List Nat} (a : DdG g T D P M H c mode last m d) (x : Tn I T g T' g') (h : ∀ i ∈ [4,5,6,7,8],i ∉ I) : DdG g' T' D P M H c mode last m d :=
 ⟨x.w,Nat.lt_of_lt_of_le a.dl x.nx,(x.ex _ a.dl).trans a.td,(x.fr _ a.dl (by rw [a.td]; exact h 4 (by decide))).trans a.dg,Nat.lt_of_lt_of_le a.pl x.nx,(x.ex _ a.pl).trans a.tp,(x.fr _ a.pl (by rw [a.tp]; exact h 4 (by decide))).trans a.pg,a.ne,a.mt.tr x (h 5 (by decide)) (h 6 (by decide)) (h 7 (by decide)),a.de.tr x (h 8 (by decide))⟩
theorem DdG.ext (a : DdG g T D P M H c mode last m d) (x : Ext g g') : DdG g' T D P M H c mode last m d := a.tr (I := []) (.of_ext a.w x) (by decide)
theorem DdG.trM (a : DdG g T D P M H c mode last m d) (x : Tn [5,6,7] T g T' g') (b : MtF g' T' M m') : DdG g' T' D P M H c mode last m' d :=
 ⟨x.w,Nat.lt_of_lt_of_le a.dl x.nx,(x.ex _ a.dl).trans a.td,(x.fr _ a.dl (by rw [a.td]; decide)).trans a.dg,Nat.lt_of_lt_of_le a.pl x.nx,(x.ex _ a.pl).trans a.tp,(x.fr _ a.pl (by rw [a.tp]; decide)).trans a.pg,a.ne,b,a.de.tr x (by decide)⟩
theorem DdG.trD (a : DdG g T D P M H c mode last m d) (x : Tn [8] T g T' g') (b : DlF g' (fun k => T' k = 8) H d') : DdG g' T' D P M H c mode last m d' :=
 ⟨x.w,Nat.lt_of_lt_of_le a.dl x.nx,(x.ex _ a.dl).trans a.td,(x.fr _ a.dl (by rw [a.td]; decide)).trans a.dg,Nat.lt_of_lt_of_le a.pl x.nx,(x.ex _ a.pl).trans a.tp,(x.fr _ a.pl (by rw [a.tp]; decide)).trans a.pg,a.ne,a.mt.tr x (by decide) (by decide) (by decide),b⟩
theorem DdG.own (a : DdG g T D P M H c mode last m d) (mk : ∀ k,k ≠ D → g'.get k = g.get k) (nx : g'.nx = g.nx) (k : g'.get D = some ⟨ddV c' P mode' last',true,0⟩) : DdG g' T D P M H c' mode' last' m d ∧ Tn [4] T g T g' := by
 have x : Tn [4] T g T g' := .of_one a.w (by rw [a.td]; decide) mk nx
 exact ⟨⟨x.w,by rw [nx]; exact a.dl,a.td,k,by rw [nx]; exact a.pl,a.tp,(mk _ a.ne).trans a.pg,a.ne,a.mt.tr x (by decide) (by decide) (by decide),a.de.tr x (by decide)⟩,x⟩
theorem dmet_ok (a : DdG g T D P M H c mode last m d) : ACall PX 71 [ptr D] g (fun v h => v = ptr M ∧ g = h) := by
 have h1 := a.dg; have h2 := a.pg
 refine acallA Tryz.func71 c71 ?_
 unfold ir71
 dsimp only [qo,qm,qk,q2,qi,qg,qn,qc,dq,ci,cb,qh,qs]
 repeat (first | apply sS | apply sE | refine w_mv rfl ?_ | (refine is_okn rfl ?_; refine w_op rfl ?_) | refine w_ext rfl rfl ?_ | (apply is_ld; refine w_ldA rfl ?_) | (apply is_iad; refine w_iadA rfl ?_) | apply ai_seq | apply ai_regW | (apply ai_ret; repeat (first | rw [thenQ_r] | rw [blockQ_r] | rw [roundE_r])))
 exact end_one rfl ⟨rfl,rfl⟩
theorem dhold_ok (a : DdG g T D P M H c mode last m d) : ACall PX 92 [ptr D] g (fun v h => v = ptr H ∧ g = h) := by
 have h1 := a.dg; have h2 := a.pg
 refine acallA Tryz.func92 c92 ?_
 unfold ir92
 dsimp only [qo,qm,qk,q2,qi,qg,qn,qc,dq,ci,cb,qh,qs]
 repeat (first | apply sS | apply sE | refine w_mv rfl ?_ | (refine is_okn rfl ?_; refine w_op rfl ?_) | refine w_ext rfl rfl ?_ | (apply is_ld; refine w_ldA rfl ?_) | (apply is_iad; refine w_iadA rfl ?_) | apply ai_seq | apply ai_regW | (apply ai_ret; repeat (first | rw [thenQ_r] | rw [blockQ_r] | rw [roundE_r])))
 exact end_one rfl ⟨rfl,rfl⟩
end
structure DdB (d : Dd) (nm nd : Int) : Prop where
 c : mayB d.c = true
 m : MtB d.m nm
 dl : DlB d.d nd
 mode : -1 ≤ d.mode.1 ∧ d.mode.1 ≤ nd
 most : 0 ≤ d.mode.2 ∧ d.mode.2 ≤ 1000000
 last : 0 ≤ d.last ∧ d.last ≤ nd
theorem DdB.mono {d : Dd} {nm nd nm' nd' : Int} (b : DdB d nm nd) (h1 : nm ≤ nm') (h2 : nd ≤ nd') : DdB d nm' nd' := ⟨b.c,b.m.mono h1,b.dl.mono h2,by have := b.mode; omega,b.most,by have := b.last; omega⟩
theorem ddput_ok (h : Hp) {T : Tg} {D : Nat} {d : Dd} {n nd t v : Int} (a : DdF h T D d) (b : DdB d n nd) (hT : 0 ≤ n) (ht : t = n + 1) (h0 : t ≤ 1099511627776) (hv : 0 ≤ v ∧ v ≤ 9223372036854775807) :
  ACall PX 64 [ptr D,nI t,nI v] h (fun _ g => ∃ T',DdF g T' D (ddPut d t v) ∧ Tn [5,6,7] T h T' g) := by
 obtain ⟨P,M,H,a⟩ := a
 refine acallA Tryz.func64 c64 ?_
 unfold ir64
 dsimp only [qo,qm,qk,q2,qi,qg,qn,qc,dq,ci,cb,qh,qs]
 repeat (first | apply sS | apply sE | refine w_mv rfl ?_ | (refine is_okn rfl ?_; refine w_op rfl ?_) | (refine w_callE ((dmet_ok a).mono ?_) rfl rfl; rintro _ _ ⟨rfl,rfl⟩) | apply ai_seq | apply ai_regW | refine ai_cF rfl ?_ | apply ai_skip)
 refine w_call rfl ((mtput_ok h a.mt b.m hT ht h0 hv).mono ?_)
 rintro _ g1 ⟨T1,m1,x1⟩
 repeat (first | apply sS | apply sE | refine w_mv rfl ?_ | (apply ai_ret; repeat (first | rw [thenQ_r] | rw [blockQ_r] | rw [roundE_r])))
 exact end_one rfl ⟨T1,⟨P,M,H,a.trM x1 m1⟩,x1⟩
theorem DdB.put {d : Dd} {n nd t v : Int} (b : DdB d n nd) (hT : 0 ≤ n) (ht : t = n + 1) (h0 : t ≤ 1099511627776) (hv : 0 ≤ v ∧ v ≤ 9223372036854775807) : DdB (ddPut d t v) t nd := ⟨b.c,b.m.put hT ht h0 hv,b.dl,b.mode,b.most,b.last⟩
theorem ddover_ok (h : Hp) {T : Tg} {D : Nat} {d : Dd} (a : DdF h T D d) : ACall PX 38 [ptr D] h (fun v g => v = .bool (mtOver d.m) ∧ h = g) := by
 obtain ⟨P,M,H,a⟩ := a
 refine acallA Tryz.func38 c38 ?_
 unfold ir38
 dsimp only [qo,qm,qk,q2,qi,qg,qn,qc,dq,ci,cb,qh,qs]
 repeat (first | apply sS | apply sE | refine w_mv rfl ?_ | refine w_pickT rfl ?_ | (refine is_okn rfl ?_; refine w_op rfl ?_) | refine w_gT rfl rfl ?_ | (refine w_callE ((dmet_ok a).mono ?_) rfl rfl; rintro _ _ ⟨rfl,rfl⟩) | (refine w_callE ((mtover_ok _ a.mt).mono ?_) rfl rfl; rintro _ _ ⟨rfl,rfl⟩) | apply ai_seq | apply ai_regW | (apply ai_ret; repeat (first | rw [thenQ_r] | rw [blockQ_r] | rw [roundE_r])))
 exact end_one rfl ⟨rfl,rfl⟩
set_option maxHeartbeats 1000000 in
theorem ddchange_ok (h : Hp) {T : Tg} {D : Nat} {d : Dd} {n nd : Int} (a : DdF h T D d) (b : DdB d n nd) (hn : n ≤ 1099511627776) {c : Cf20} (hm : mayB c = true) :
  ACall PX 61 [ptr D,.agg ⟨cs20 c⟩] h (fun _ g => ∃ T',DdF g T' D (ddChange d c) ∧ Tn [4,5,6,7,8] T h T' g) := by
 obtain ⟨P,M,H,a⟩ := a
 have k := cf_ok hm
 have q1 := k.delay
 refine acallA Tryz.func61 c61 ?_
 unfold ir61
 dsimp only [qo,qm,qk,q2,qi,qg,qn,qc,dq,ci,cb,qh,qs]
 repeat (first | apply sS | apply ai_seq | apply ai_regW)
 refine w_box rfl fun g1 x1 k1 n1 => ?_
 replace k1 : g1.get h.nx = some ⟨cs20 c,true,0⟩ := k1
 repeat (first | apply sS | apply sE | refine w_mv rfl ?_ | (refine is_okn rfl ?_; refine w_op rfl ?_) | (apply is_ldn; refine w_ldnA rfl ?_) | apply ai_seq | apply ai_regW | refine ai_cF rfl ?_ | apply ai_block)
 refine w_call rfl ((mayT hm _).mono ?_)
 rintro _ g2 ⟨rfl,x2⟩
 have k2 := (x2.2 _ n1).trans k1
 have o1 := x1.1
 have o2 := x2.1
 have y2 : Tn [4,5,6,7,8] T h T g2 := .of_ext a.w (x1.trans x2)
 have a2 := a.ext (x1.trans x2)
 have t0 : T h.nx = 0 := a.w _ (Nat.le_refl _)
 repeat (first | apply sS | apply dS | apply dSR | apply sE | (apply is_ag; refine agSA ?_) | refine w_mv rfl ?_ | (refine is_okn rfl ?_; refine w_op rfl ?_) | (apply is_ldn; refine w_ldnA rfl ?_) | (refine w_callE ((dmet_ok a2).mono ?_) rfl rfl; rintro _ _ ⟨rfl,rfl⟩) | apply ai_seq | refine ai_cF rfl ?_ | apply ai_skip | refine ai_drwW (by kernel_rfl) ?_)
 refine w_call rfl ((mtchange_ok g2 a2.w a2.mt b.m hn hm).mono ?_)
 rintro _ g3 ⟨T3,m3,x3⟩
 have k3 := (x3.fr h.nx (by omega) (by rw [t0]; decide)).trans k2
 have a3 := a2.trM x3 m3
 have o3 := x3.nx
 have t3 : T3 h.nx = 0 := (x3.ex _ (by omega)).trans t0
 repeat (first | apply dS | apply dSR | apply dE | (apply is_ag; refine agSA ?_) | refine w_mv rfl ?_ | (refine is_okn rfl ?_; refine w_op rfl ?_) | (apply is_ld; refine w_ldA rfl ?_) | (refine w_callE ((dhold_ok a3).mono ?_) rfl rfl; rintro _ _ ⟨rfl,rfl⟩) | apply ai_seq | refine ai_drwW (by kernel_rfl) ?_)
 refine w_call rfl ((span_ok g3 a3.de (by omega)).mono ?_)
 rintro _ g4 ⟨m4,f4,e4⟩
 have x4 : Tn [8] T3 g3 T3 g4 := ⟨f4.1,fun k hk hn => f4.2 k hk fun e => hn (by simp [e]),fun _ _ => rfl,fun k hk => x3.w k (by omega),fun k hk => .inl (x3.w k (by omega))⟩
 have k4 := (x4.fr h.nx (by omega) (by rw [t3]; decide)).trans k3
 have a4 := a3.trD x4 m4
 have dg4 := a4.dg
 repeat (first | apply dS | apply dSR | apply dE | refine w_mv rfl ?_ | (refine is_okn rfl ?_; refine w_op rfl ?_) | (apply is_ld; refine w_ldA rfl ?_) | (apply is_ldn; refine w_ldnA rfl ?_) | apply ai_seq | refine ai_drwW (by kernel_rfl) ?_)
 refine w_call rfl ((most_ok _ c).mono ?_)
 rintro _ g5 ⟨rfl,x5⟩
 have k5 := (x5.2 h.nx (by omega)).trans k4
 have a5 := a4.ext x5
 have dg5 := a5.dg
 have o5 := x5.1
 repeat (first | apply dS | apply dSn | (apply is_ag; refine agSA ?_) | (refine is_okn rfl ?_; refine w_op rfl ?_) | refine w_min rfl ?_)
 refine w_st1 rfl rfl dg5 (by show 22 < 24; decide) rfl fun g6 m6 k6 n6 => ?_
 replace k6 : g6.get D = some ⟨ddV d.c P (d.mode.1,min d.mode.2 (topF c)) d.last,true,0⟩ := k6
 obtain ⟨a6,x6⟩ := a5.own m6 n6 k6
 have hD := a.dl
 have k66 := (m6 h.nx (by omega)).trans k5
 repeat (first | apply sS | apply sSn | apply dE | refine w_mv rfl ?_ | (refine is_okn rfl ?_; refine w_op rfl ?_) | (apply is_ldn; refine w_ldnA rfl ?_) | apply ai_seq | apply ai_regW)
 refine w_stP rfl rfl k6 (by show 0 + 20 ≤ 24; decide) rfl fun g7 m7 k7 n7 => ?_
 rw [splice_take _ _ _ (by show 0 + 20 ≤ 24; decide)] at k7
 replace k7 : g7.get D = some ⟨ddV c P (d.mode.1,min d.mode.2 (topF c)) d.last,true,0⟩ := k7
 obtain ⟨a7,x7⟩ := a6.own m7 n7 k7
 repeat (first | apply sS | apply sE | refine w_mv rfl ?_ | apply ai_seq | apply ai_regW | (apply ai_ret; repeat (first | rw [thenQ_r] | rw [blockQ_r] | rw [roundE_r])))
 exact end_one rfl ⟨T3,⟨P,M,H,a7⟩,(y2.trans (x3.mono (by decide))).trans ((x4.mono (by decide)).trans ((Tn.of_ext x4.w x5).trans ((x6.mono (by decide)).trans (x7.mono (by decide)))))⟩
theorem DdB.change {d : Dd} {n nd : Int} (b : DdB d n nd) (h0 : 0 ≤ n) {c : Cf20} (hm : mayB c = true) : DdB (ddChange d c) n nd := by
 have k := cf_ok hm
 have h1 := k.delay
 have h2 := k.top
 have h3 := b.most
 exact ⟨hm,b.m.change h0 hm,⟨h1,b.dl.la,b.dl.l,b.dl.n⟩,b.mode,by show 0 ≤ min d.mode.2 (topF c) ∧ min d.mode.2 (topF c) ≤ 1000000; omega,b.last⟩
end
def dcV (d : Dc) : List Value := [nI d.t,nI d.stable,nI d.quick,nI d.want,.bool d.panic,nI d.excess]
theorem topc_ok (h : Hp) (c : Cf20) : ACall PX 70 [.agg ⟨cs20 c⟩] h (fun v g => v = nI (topF c) ∧ Ext h g) := most_ok h c
theorem limitR_bd {c : Cf20} (k : CfOk c) (want ready : Int) : 0 ≤ limitR c want ready ∧ limitR c want ready ≤ 1000000 := by
 have hu := k.up
 have hd := k.down
 have b1 := there_bd ready (lo := 1) (by omega)
 have b0 := there_bd ready (lo := 0) (by omega)
 have b3 : 0 ≤ c.up * thereF ready 1 := Int.mul_nonneg (by omega) (by omega)
 have h1 : 0 ≤ mUp (c.up * thereF ready 1) 1000 := by
  unfold mUp
  have := Int.ediv_nonneg b3 (show (0 : Int) ≤ 1000 by decide)
  split <;> omega
 have h2 : 0 ≤ leastR c ready := Int.ediv_nonneg (by omega) (by omega)
 unfold limitR mostR
 omega
theorem ddLim_bd {c : Cf20} (k : CfOk c) (m : Md2) (stable quick ready : Int) : 0 ≤ ddLim c m stable quick ready ∧ ddLim c m stable quick ready ≤ 1000000 := by
 have h1 := limitR_bd k (wantF c stable) ready
 have h2 := limitR_bd k (wantF c quick) ready
 unfold ddLim
 split <;> omega
theorem nextM_bd {c : Cf20} {m : Md2} {now n : Int} {over : Bool} (h : -1 ≤ m.1 ∧ m.1 ≤ n) (h2 : 0 ≤ m.2 ∧ m.2 ≤ 1000000) (hn : n ≤ now) (h0 : 0 ≤ now) : (-1 ≤ (nextM c m now over).1 ∧ (nextM c m now over).1 ≤ now) ∧ 0 ≤ (nextM c m now over).2 ∧ (nextM c m now over).2 ≤ 1000000 := by
 unfold nextM
 split
 ·split <;> (dsimp only; omega)
 ·split
  ·dsimp only; omega
  ·omega
theorem keepM_bd {m : Md2} {want n : Int} (h : -1 ≤ m.1 ∧ m.1 ≤ n) (h2 : 0 ≤ m.2 ∧ m.2 ≤ 1000000) (hw : 0 ≤ want ∧ want ≤ 1000000) : (-1 ≤ (keepM m want).1.1 ∧ (keepM m want).1.1 ≤ n) ∧ (0 ≤ (keepM m want).1.2 ∧ (keepM m want).1.2 ≤ 1000000) ∧ 0 ≤ (keepM m want).2 ∧ (keepM m want).2 ≤ 1000000 := by
 unfold keepM
 split <;> (dsimp only; omega)
theorem DdB.next {d : Dd} {nm nd now ready : Int} (b : DdB d nm nd) (hn : now = nd + 1) (h0 : 0 ≤ nd) (h1 : now ≤ 1099511627776) : DdB (ddNext d now ready).1 nm now := by
 have k := cf_ok b.c
 have hl := ddLim_bd k (nextM d.c d.mode now (overF d.c (wantF d.c (rgMean d.m.b now)) ready)) (rgMean d.m.a now) (rgMean d.m.b now) ready
 have hd := b.dl.put hn (by omega) hl
 have hm := nextM_bd (c := d.c) (over := overF d.c (wantF d.c (rgMean d.m.b now)) ready) b.mode b.most (show nd ≤ now by omega) (by omega)
 have hk := keepM_bd hm.1 hm.2 (dlMost_bd (t := now) hd)
 exact ⟨b.c,b.m.seen,hd,hk.1,hk.2.1,by show 0 ≤ now ∧ now ≤ now; omega⟩
set_option maxHeartbeats 4000000 in
theorem ddnext_ok (h : Hp) {T : Tg} {D : Nat} {d : Dd} {nm nd now ready : Int} (a : DdF h T D d) (b : DdB d nm nd) (hn : now = nd + 1) (h0 : 0 ≤ nd) (h1 : now ≤ 1099511627776) (hm2 : nm ≤ 1099511627776) (hr : 0 ≤ ready ∧ ready ≤ 100) :
  ACall PX 67 [ptr D,nI now,nI ready] h (fun v g => v = .tuple #[.agg ⟨dcV (ddNext d now ready).2⟩,nI 0] ∧ ∃ T',DdF g T' D (ddNext d now ready).1 ∧ Tn [4,5,6,7,8] T h T' g) := by
 obtain ⟨P,M,H,a⟩ := a
 have hc := b.c
 have k := cf_ok hc
 have hla := b.last
 have hmo := b.mode
 have t0 : T h.nx = 0 := a.w _ (Nat.le_refl _)
 have hD := a.dl
 have bd1 := rgMean_bd b.m.a (t := now) (by omega)
 have bd2 := rgMean_bd b.m.b (t := now) (by omega)
 unfold ddNext
 dsimp only
 generalize hst : rgMean d.m.a now = stable at *
 generalize hqk : rgMean d.m.b now = quick at *
 have bdl := fun md => ddLim_bd k md stable quick ready
 have bnm := nextM_bd (c := d.c) (over := overF d.c (wantF d.c quick) ready) b.mode b.most (show nd ≤ now by omega) (by omega)
 generalize hmd : nextM d.c d.mode now (overF d.c (wantF d.c quick) ready) = md at *
 have bdp := b.dl.put hn (by omega) (bdl md)
 have bmo := dlMost_bd (t := now) bdp
 refine acallA Tryz.func67 c67 ?_
 unfold ir67
 dsimp only [qo,qm,qk,q2,qi,qg,qn,qc,dq,ci,cb,qh,qs]
 repeat (first | apply sS | apply ai_seq | apply ai_regW)
 refine w_new fun g1 x1 k1 n1 => ?_
 replace k1 : g1.get h.nx = some ⟨[nI 0,nI 0,nI 0,nI 0,.bool false,nI 0],true,0⟩ := k1
 have a1 := a.ext x1
 have dg1 := a1.dg
 have y1 : Tn [4,5,6,7,8] T h T g1 := .of_ext a.w x1
 repeat (first | apply sS | apply sSn | apply sE | refine w_mv rfl ?_ | refine w_pickF rfl ?_ | (refine is_okn rfl ?_; refine w_op rfl ?_) | refine w_gT rfl rfl ?_ | (apply is_ld; refine w_ldA rfl ?_) | (apply is_bin; refine w_cF rfl ?_) | apply ai_seq | apply ai_regW | refine ai_cF rfl ?_ | apply ai_skip | apply ai_block)
 refine w_st1 rfl rfl dg1 (by show 23 < 24; decide) rfl fun g2 m2 k2 n2 => ?_
 replace k2 : g2.get D = some ⟨ddV d.c P d.mode now,true,0⟩ := k2
 obtain ⟨a2,x2⟩ := a1.own m2 n2 k2
 have r2 := (m2 h.nx (by omega)).trans k1
 repeat (first | apply sS | apply sE | refine w_mv rfl ?_ | (refine w_callE ((dmet_ok a2).mono ?_) rfl rfl; rintro _ _ ⟨rfl,rfl⟩) | apply ai_seq | apply ai_regW)
 refine w_call rfl ((means_ok g2 a2.mt a2.w b.m hm2 (by omega)).mono ?_)
 rintro _ g3 ⟨rfl,m3,x3⟩
 rw [hst,hqk]
 have a3 := a2.trM x3 m3
 have r3 := (x3.fr h.nx (by omega) (by rw [t0]; decide)).trans r2
 have dg3 := a3.dg
 have o3 := x3.nx
 repeat (first | apply sS | apply dS | apply dSR | apply sE | refine w_mv rfl ?_ | (refine is_okn rfl ?_; refine w_op rfl ?_) | refine w_ext rfl rfl ?_ | (apply is_ldn; refine w_ldnA rfl ?_) | apply ai_seq | refine ai_drwW (by kernel_rfl) ?_)
 refine w_call rfl ((wof_ok g3 hc bd1).mono ?_)
 rintro _ g4 ⟨rfl,x4⟩
 have a4 := a3.ext x4
 have r4 := (x4.2 h.nx (by omega)).trans r3
 have dg4 := a4.dg
 have o4 := x4.1
 repeat (first | apply dS | (apply is_ag; refine agSA ?_))
 refine w_call rfl ((wof_ok g4 hc bd2).mono ?_)
 rintro _ g5 ⟨rfl,x5⟩
 have a5 := a4.ext x5
 have r5 := (x5.2 h.nx (by omega)).trans r4
 have dg5 := a5.dg
 have o5 := x5.1
 clear dg1 dg3 dg4 k2
 repeat (first | apply dS | apply dSR | apply dE | refine w_mv rfl ?_ | (refine is_okn rfl ?_; refine w_op rfl ?_) | (apply is_ldn; refine w_ldnA rfl ?_) | apply ai_seq | refine ai_drwW (by kernel_rfl) ?_)
 refine w_call rfl ((wover_ok g5 hc).mono ?_)
 rintro _ g6 ⟨rfl,x6⟩
 have a6 := a5.ext x6
 have r6 := (x6.2 h.nx (by omega)).trans r5
 have dg6 := a6.dg
 have o6 := x6.1
 clear dg5
 repeat (first | apply dS | (apply is_ag; refine agSA ?_))
 refine w_call rfl ((anext_ok g6 hc (m := d.mode) (by omega) (by omega) _).mono ?_)
 rintro _ g7 ⟨rfl,x7⟩
 rw [hmd]
 have a7 := a6.ext x7
 have r7 := (x7.2 h.nx (by omega)).trans r6
 have dg7 := a7.dg
 have o7 := x7.1
 clear dg6
 repeat (first | apply dS | apply dSn | (refine is_okn rfl ?_; refine w_op rfl ?_))
 refine w_stP rfl rfl dg7 (by show 21 + 2 ≤ 24; decide) rfl fun g8 m8 k8 n8 => ?_
 rw [splice_take _ _ _ (by show 21 + 2 ≤ 24; decide)] at k8
 replace k8 : g8.get D = some ⟨ddV d.c P md now,true,0⟩ := k8
 obtain ⟨a8,x8⟩ := a7.own m8 n8 k8
 have r8 := (m8 h.nx (by omega)).trans r7
 clear dg7
 repeat (first | apply sS | apply dE | refine w_mv rfl ?_ | (refine is_okn rfl ?_; refine w_op rfl ?_) | (apply is_ldn; refine w_ldnA rfl ?_) | apply ai_seq | apply ai_regW)
 refine w_call rfl ((rlimit_ok g8 hc _ _).mono ?_)
 rintro _ g9 ⟨rfl,x9⟩
 have a9 := a8.ext x9
 have r9 := (x9.2 h.nx (by omega)).trans r8
 have dg9 := a9.dg
 have o9 := x9.1
 clear k8
 repeat (first | apply sS | apply sE | refine w_mv rfl ?_)
 refine ai_join (γ := Unit) (fun _ => [(0,ptr D),(1,nI now),(2,nI ready),(6,ptr h.nx),(8,nI stable),(9,nI quick),(12,nI (ddLim d.c md stable quick ready))]) (fun _ g => Ext g9 g) ?_ ?_
 ·repeat (first | apply sS | refine w_mv rfl ?_ | (refine is_okn rfl ?_; refine w_op rfl ?_) | (apply is_ldn; refine w_ldnA rfl ?_) | apply ai_seq | apply ai_regW)
  refine w_call rfl ((ais_ok g9 md).mono ?_)
  rintro _ g10 ⟨rfl,x10⟩
  have a10 := a9.ext x10
  have dg10 := a10.dg
  unfold ddLim
  obtain ⟨q,hq⟩ : ∃ q,isM md = q := ⟨_,rfl⟩
  rw [hq]
  cases q
  ·rw [if_neg (by decide)]
   repeat (first | apply sE | refine ai_cF rfl ?_ | apply ai_skip)
   exact ⟨rfl,(),leX,x10⟩
  ·rw [if_pos rfl]
   repeat (first | apply sS | apply sE | refine w_mv rfl ?_ | (refine is_okn rfl ?_; refine w_op rfl ?_) | (apply is_ldn; refine w_ldnA rfl ?_) | apply ai_regW | refine ai_cT rfl ?_)
   refine w_call rfl ((rlimit_ok g10 hc _ _).mono ?_)
   rintro _ g11 ⟨rfl,x11⟩
   repeat (first | apply sS | apply sE | refine w_mv rfl ?_ | refine w_max rfl ?_)
   exact ⟨rfl,(),leX,x10.trans x11⟩
 rintro _ g10 x10
 have a10 := a9.ext x10
 have r10 := (x10.2 h.nx (by omega)).trans r9
 have dg10 := a10.dg
 have o10 := x10.1
 clear dg9
 have y10 : Tn [4,5,6,7,8] T h T g10 := (y1.trans (x2.mono (by decide))).trans ((x3.mono (by decide)).trans ((Tn.of_ext a3.w ((((x4.trans x5).trans x6).trans x7))).trans ((x8.mono (by decide)).trans (Tn.of_ext a8.w (x9.trans x10)))))
 repeat (first | apply sS | refine w_mv rfl ?_ | (refine w_callE ((dhold_ok a10).mono ?_) rfl rfl; rintro _ _ ⟨rfl,rfl⟩) | apply ai_seq | apply ai_regW)
 refine w_call rfl ((dlput_ok g10 a10.de b.dl (show nd ≤ now by omega) (by omega) (bdl md)).mono ?_)
 rintro _ g11 ⟨d11,f11⟩
 have x11 := Tn.of_fr f11
 have a11 := a10.trD x11 d11.up
 have t11 : tg T g10 g11 8 h.nx = 0 := (x11.ex _ (by omega)).trans t0
 have r11 := (f11.2 h.nx (by omega) (by dsimp only; rw [t0]; decide)).trans r10
 have dg11 := a11.dg
 have o11 := f11.1
 clear dg10
 repeat (first | apply dS | apply dSR | apply sE | (apply is_ag; refine agSA ?_) | refine w_mv rfl ?_ | (refine is_okn rfl ?_; refine w_op rfl ?_) | (apply is_ldn; refine w_ldnA rfl ?_) | (refine w_callE ((dhold_ok a11).mono ?_) rfl rfl; rintro _ _ ⟨rfl,rfl⟩) | apply ai_seq | refine ai_drwW (by kernel_rfl) ?_)
 refine w_call rfl ((dlmost_ok g11 a11.de bdp (by omega) (by omega)).mono ?_)
 rintro _ g12 ⟨rfl,x12⟩
 have a12 := a11.ext x12
 have r12 := (x12.2 h.nx (by omega)).trans r11
 have dg12 := a12.dg
 have o12 := x12.1
 clear dg11
 generalize hkp : keepM md (dlMost (dlPut d.d now (ddLim d.c md stable quick ready)) now) = kp
 repeat (first | apply dS | (apply is_ag; refine agSA ?_))
 refine w_call rfl ((akeep_ok g12 md _).mono ?_)
 rintro _ g13 ⟨rfl,x13⟩
 rw [hkp]
 have a13 := a12.ext x13
 have r13 := (x13.2 h.nx (by omega)).trans r12
 have dg13 := a13.dg
 have o13 := x13.1
 clear dg12
 repeat (first | apply dS | apply dSn | refine w_mv rfl ?_ | (refine is_okn rfl ?_; refine w_op rfl ?_) | refine w_ext rfl rfl ?_)
 refine w_stP rfl rfl dg13 (by show 21 + 2 ≤ 24; decide) rfl fun g14 m14 k14 n14 => ?_
 rw [splice_take _ _ _ (by show 21 + 2 ≤ 24; decide)] at k14
 replace k14 : g14.get D = some ⟨ddV d.c P kp.1 now,true,0⟩ := k14
 obtain ⟨a14,x14⟩ := a13.own m14 n14 k14
 have r14 := (m14 h.nx (by omega)).trans r13
 clear dg13
 repeat (first | apply dS | apply dSR | apply dE | refine w_mv rfl ?_ | (refine is_okn rfl ?_; refine w_op rfl ?_) | (apply is_ld; refine w_ldA rfl ?_) | (apply is_ldn; refine w_ldnA rfl ?_) | apply ai_seq | refine ai_drwW (by kernel_rfl) ?_)
 refine w_call rfl ((topc_ok g14 d.c).mono ?_)
 rintro _ g15 ⟨rfl,x15⟩
 have a15 := a14.ext x15
 have r15 := (x15.2 h.nx (by omega)).trans r14
 have dg15 := a15.dg
 have o15 := x15.1
 clear k14
 repeat (first | apply dS | apply dSR | apply dE | (apply is_ag; refine agSA ?_) | refine w_mv rfl ?_ | (refine is_okn rfl ?_; refine w_op rfl ?_) | (apply is_ldn; refine w_ldnA rfl ?_) | refine w_max rfl ?_ | refine w_min rfl ?_ | apply ai_seq | refine ai_drwW (by kernel_rfl) ?_)
 refine w_call rfl ((ais_ok g15 kp.1).mono ?_)
 rintro _ g16 ⟨rfl,x16⟩
 have a16 := a15.ext x16
 have r16 := (x16.2 h.nx (by omega)).trans r15
 have dg16 := a16.dg
 have o16 := x16.1
 clear dg15
 repeat (first | apply dS | (apply is_ag; refine agSA ?_))
 refine w_call rfl ((bexc_ok g16 hc ready (quick := quick) ⟨by omega,bd2.2⟩).mono ?_)
 rintro _ g17 ⟨rfl,x17⟩
 have a17 := a16.ext x17
 have r17 := (x17.2 h.nx (by omega)).trans r16
 repeat (first | apply dS | apply dSn | refine w_bldF rfl rfl rfl rfl rfl ?_)
 refine w_stN rfl rfl r17 rfl rfl fun g18 m18 k18 n18 => ?_
 repeat (first | apply dS | apply dE | refine w_mv rfl ?_ | (apply ai_ret; repeat (first | rw [thenQ_r] | rw [blockQ_r] | rw [roundE_r])))
 have o17 := x17.1
 have x18 : Tn [0] (tg T g10 g11 8) g17 (tg T g10 g11 8) g18 := .of_one a17.w (by rw [t11]; decide) m18 n18
 have y17 : Tn [4,5,6,7,8] T h (tg T g10 g11 8) g17 := y10.trans ((x11.mono (by decide)).trans ((Tn.of_ext a11.w (x12.trans x13)).trans ((x14.mono (by decide)).trans (Tn.of_ext a14.w ((x15.trans x16).trans x17)))))
 exact end_cell2 rfl k18 rfl Tryz.underlying42 rfl (by kernel_rfl) rfl ⟨rfl,_,⟨P,M,H,a17.tr x18 (by decide)⟩,y17.late (Nat.le_refl _) m18 n18⟩
set_option maxHeartbeats 2000000 in
theorem ddnew_ok (h : Hp) {T : Tg} (w : Tw T h) {c : Cf20} (hm : mayB c = true) : ACall PX 21 [.agg ⟨cs20 c⟩] h (fun v g => ∃ D T',v = ptr D ∧ DdF g T' D (ddNew c) ∧ Tn [4,5,6,7,8] T h T' g ∧ Ext h g ∧ h.nx ≤ D) := by
 have k := cf_ok hm
 have q1 := k.delay
 have t0 : T h.nx = 0 := w _ (Nat.le_refl _)
 refine acallA Tryz.func21 c21 ?_
 unfold ir21
 dsimp only [qo,qm,qk,q2,qi,qg,qn,qc,dq,ci,cb,qh,qs]
 repeat (first | apply sS | apply ai_seq | apply ai_regW)
 refine w_box rfl fun g1 x1 k1 n1 => ?_
 replace k1 : g1.get h.nx = some ⟨cs20 c,true,0⟩ := k1
 repeat (first | apply sS | apply sE | refine w_mv rfl ?_ | (apply is_ldn; refine w_ldnA rfl ?_) | apply ai_seq | apply ai_regW)
 refine w_call rfl ((mayT hm _).mono ?_)
 rintro _ g2 ⟨rfl,x2⟩
 have k2 := (x2.2 _ n1).trans k1
 have o1 := x1.1
 have o2 := x2.1
 have y2 : Tn [4,5,6,7,8] T h T g2 := .of_ext w (x1.trans x2)
 repeat (first | apply sS | apply sE | (refine is_okn rfl ?_; refine w_op rfl ?_) | (apply is_ld; refine w_ldA rfl ?_) | (apply is_ldn; refine w_ldnA rfl ?_) | apply tS | apply tSR | apply ai_seq | refine ai_cF rfl ?_ | apply ai_skip | refine ai_drtW (by kernel_rfl) ?_)
 refine w_call rfl ((mtnew_ok g2 y2.w hm).mono ?_)
 rintro _ g3 ⟨M,T3,rfl,m3,y3,x3,l3⟩
 have k3 := (x3.2 _ (by omega)).trans k2
 have o3 := x3.1
 repeat (first | (refine is_okn rfl ?_; refine w_op rfl ?_) | apply tS | apply tSR | (apply is_ag; refine agTA ?_))
 refine w_call rfl ((dlnew_ok g3 (by omega)).mono ?_)
 rintro _ g4 ⟨rfl,d4,x4,e4⟩
 have k4 := (x4.2 _ (by omega)).trans k3
 have o4 := x4.1
 have x34 := x3.trans x4
 have fin : ∀ (P D : Nat) (g6 g7 : Hp),Ext g4 g6 → Ext g6 g7 → g4.nx ≤ P → P < g6.nx → g6.nx ≤ D → D < g7.nx → g6.get P = some ⟨[mE M,hE g3.nx],true,1⟩ → g7.get D = some ⟨ddV c P (-1,0) 0,true,0⟩ →
   ∃ D' T',ptr D = ptr D' ∧ DdF g7 T' D' (ddNew c) ∧ Tn [4,5,6,7,8] T h T' g7 ∧ Ext h g7 ∧ h.nx ≤ D' := by
  intro P D g6 g7 x6 x7 p1 p2 d1 d2 hP hD
  have o6 := x6.1
  have o7 := x7.1
  have x07 : Ext h g7 := (((x1.trans x2).trans x34).trans x6).trans x7
  have x37 : Ext g3 g7 := (x4.trans x6).trans x7
  refine ⟨D,fun k => if k < g3.nx then T3 k else if k = g3.nx then 8 else if k = P ∨ k = D then 4 else 0,rfl,⟨P,M,g3.nx,⟨?_,d2,?_,hD,by omega,?_,(x7.2 P p2).trans hP,by omega,?_,?_⟩⟩,⟨x07.1,fun k hk _ => x07.2 k hk,?_,?_,?_⟩,x07,by omega⟩
  ·intro k hk
   try dsimp only
   rw [if_neg (by omega),if_neg (by omega),if_neg (by omega)]
  ·try dsimp only
   rw [if_neg (by omega),if_neg (by omega),if_pos (.inr rfl)]
  ·try dsimp only
   rw [if_neg (by omega),if_neg (by omega),if_pos (.inl rfl)]
  ·obtain ⟨hM,t5,Ra,Rb,hg,r1,r2⟩ := m3
   refine ⟨by omega,by dsimp only; rw [if_pos hM]; exact t5,Ra,Rb,(x37.2 M hM).trans hg,?_,?_⟩
   ·exact r1.keep (by omega) (fun k hk _ => x37.2 k hk) fun k hk e => by dsimp only; rw [if_pos hk]; exact e
   ·exact r2.keep (by omega) (fun k hk _ => x37.2 k hk) fun k hk e => by dsimp only; rw [if_pos hk]; exact e
  ·refine d4.keep (by omega) (fun k hk _ => (x7.2 k (by omega)).trans (x6.2 k hk)) fun k hk e => ?_
   have e' : k = g3.nx := by omega
   subst e'
   try dsimp only
   rw [if_neg (by omega),if_pos rfl]
  ·intro k hk
   try dsimp only
   rw [if_pos (by omega),y3.ex k (by omega)]
  ·intro k hk
   try dsimp only
   rw [if_neg (by omega),if_neg (by omega),if_neg (by omega)]
  ·intro k hk
   try dsimp only
   split
   ·rcases Nat.lt_or_ge k g2.nx with q | q
    ·rw [y3.ex k q]; exact .inl (w k hk)
    ·exact (y3.ni k q).imp id fun q => by simp at q ⊢; omega
   ·split
    ·exact .inr (by decide)
    ·split
     ·exact .inr (by decide)
     ·exact .inl rfl
 repeat (first | (refine is_okn rfl ?_; refine w_op rfl ?_) | apply tS | (apply is_ag; refine agTA ?_))
 refine tA ?_ ?_
 ·repeat (first | apply tSR)
  refine w_bslF rfl rfl rfl rfl rfl fun g5 x5 k5 n5 => ?_
  have p5 := (x5.2 _ (by omega)).trans k4
  have o5 := x5.1
  replace k5 : g5.get g4.nx = some ⟨[mE M,hE g3.nx],true,1⟩ := k5
  repeat (first | apply tSR | (apply is_ag; refine agTA ?_))
  refine w_call rfl ((calm_ok _).mono ?_)
  rintro _ g6 ⟨rfl,x6⟩
  have p6 := (x6.2 _ (by omega)).trans p5
  have o6 := x6.1
  refine agT (by repeat (first | exact ag_nil | refine ag_cons (by first | exact ag_gF rfl rfl | exact ag_l rfl rfl (by first | exact rd_g ‹_› rfl | exact rd_new rfl | assumption) | exact ag_gT rfl rfl (ag_l rfl rfl (by first | exact rd_g ‹_› rfl | exact rd_new rfl | assumption)) | exact ag_ln rfl rfl (by first | exact rd_all ‹_› rfl | exact rd_newn rfl | assumption | exact rd_cut ‹_› rfl rfl) | exact ag_gT rfl rfl (ag_ln rfl rfl (by first | exact rd_all ‹_› rfl | exact rd_newn rfl | assumption | exact rd_cut ‹_› rfl rfl))) ?_)) ?_
  refine tS (w_bldG (us := ddV c g4.nx (-1,0) 0) rfl rfl rfl ?_)
  refine tS (w_box rfl fun g7 x7 k7 n7 => ?_)
  repeat (first | refine w_mv rfl ?_ | apply tS | apply tE | (apply ai_ret; repeat (first | rw [thenQ_r] | rw [blockQ_r] | rw [roundE_r])))
  exact end_one rfl (fin g4.nx g6.nx g6 g7 (x5.trans x6) x7 (Nat.le_refl _) (by omega) (Nat.le_refl _) n7 ((x6.2 _ n5).trans k5) k7)
 ·repeat (first | apply tSR)
  refine w_call rfl ((calm_ok _).mono ?_)
  rintro _ g5 ⟨rfl,x5⟩
  have p5 := (x5.2 _ (by omega)).trans k4
  have o5 := x5.1
  repeat (first | apply tSR | (apply is_ag; refine agTA ?_))
  refine w_bslF rfl rfl rfl rfl rfl fun g6 x6 k6 n6 => ?_
  have p6 := (x6.2 _ (by omega)).trans p5
  have o6 := x6.1
  replace k6 : g6.get g5.nx = some ⟨[mE M,hE g3.nx],true,1⟩ := k6
  refine agT (by repeat (first | exact ag_nil | refine ag_cons (by first | exact ag_gF rfl rfl | exact ag_l rfl rfl (by first | exact rd_g ‹_› rfl | exact rd_new rfl | assumption) | exact ag_gT rfl rfl (ag_l rfl rfl (by first | exact rd_g ‹_› rfl | exact rd_new rfl | assumption)) | exact ag_ln rfl rfl (by first | exact rd_all ‹_› rfl | exact rd_newn rfl | assumption | exact rd_cut ‹_› rfl rfl) | exact ag_gT rfl rfl (ag_ln rfl rfl (by first | exact rd_all ‹_› rfl | exact rd_newn rfl | assumption | exact rd_cut ‹_› rfl rfl))) ?_)) ?_
  refine tS (w_bldG (us := ddV c g5.nx (-1,0) 0) rfl rfl rfl ?_)
  refine tS (w_box rfl fun g7 x7 k7 n7 => ?_)
  repeat (first | refine w_mv rfl ?_ | apply tS | apply tE | (apply ai_ret; repeat (first | rw [thenQ_r] | rw [blockQ_r] | rw [roundE_r])))
  exact end_one rfl (fin g5.nx g6.nx g6 g7 (x5.trans x6) x7 o5 n6 (Nat.le_refl _) n7 k6 k7)
theorem DdB.new {c : Cf20} (hm : mayB c = true) : DdB (ddNew c) 0 0 := by
 have k := cf_ok hm
 exact ⟨hm,.new hm (Int.le_refl _),⟨k.delay,⟨Int.le_refl _,Int.le_refl _⟩,(fun w hw => by cases hw),Int.le_refl _⟩,(by show -1 ≤ (-1 : Int) ∧ (-1 : Int) ≤ 0; omega),(by show 0 ≤ (0 : Int) ∧ (0 : Int) ≤ 1000000; omega),⟨Int.le_refl _,Int.le_refl _⟩⟩
theorem LA.sep {h : Hp} {L j : Nat} {ps : List (Nat × Pd)} {made : Int} (a : LA h L j ps made) {k : Nat} (hk : k < ps.length) : j ≠ L := by
 obtain ⟨s,_,hs⟩ := a.row
 rcases hs with ⟨_,e⟩ | ⟨_,_,_,_,e⟩
 ·rw [List.map_eq_nil_iff] at e; subst e; simp at hk
 ·exact e
theorem LA.del {h h1 : Hp} {L j : Nat} {ps : List (Nat × Pd)} {made : Int} {v : Value} (a : LA h L j ps made) {i : Nat} (hi : i < ps.length) (lr : LR h1 L j v ((ps.map fun p => pE p.1).take i ++ (ps.map fun p => pE p.1).drop (i + 1))) (hn : h1.nx = h.nx) (hk : ∀ k,k ≠ j → h1.get k = h.get k) :
  LA (h1.put L ⟨[v,nI made],true,0⟩) L j (ps.take i ++ ps.drop (i + 1)) made ∧ ModL L j ps h (h1.put L ⟨[v,nI made],true,0⟩) := by
 have hjL := a.sep hi
 obtain ⟨hL,hj,⟨s,hg,hs⟩,hp,hnd⟩ := a
 have hsub : List.Sublist (ps.take i ++ ps.drop (i + 1)) ps := by
  have h1 : List.Sublist (ps.take i ++ ps.drop (i + 1)) (ps.take i ++ ps.drop i) := List.Sublist.append_left (by rw [List.drop_eq_getElem_cons hi]; exact List.sublist_cons_self _ _) _
  rwa [List.take_append_drop] at h1
 refine ⟨⟨by rw [hput_nx]; omega,by rw [hput_nx]; omega,⟨v,hput_same _ _ _,?_⟩,fun q hq => ?_,(hsub.map _).nodup hnd⟩,⟨by rw [hput_nx]; omega,fun k _ k2 k3 _ => (hput_ne _ _ k2).trans (hk k k3)⟩⟩
 ·rw [List.map_append,List.map_take,List.map_drop]
  exact lr.keep fun _ => hput_ne _ _ hjL
 ·have hq' := hp q (hsub.subset hq)
  exact ⟨(hput_ne _ _ hq'.2.2.1).trans ((hk _ hq'.2.2.2).trans hq'.1),by rw [hput_nx,hn]; exact hq'.2.1,hq'.2.2⟩
theorem leave_no (h : Hp) {L j : Nat} {ps : List (Nat × Pd)} {made id : Int} (a : LA h L j ps made) (hb : ps.length ≤ 1000000) (hn : ixF ps id = -1 ∨ ∃ k p,ixF ps id = (k : Nat) ∧ ps[k]? = some p ∧ p.2.2.2.1 = 0) : ACall PX 58 [ptr L,nI id] h (fun v h' => v = nI 7 ∧ Ext h h') := by
 refine acallA Tryz.func58 c58 ?_
 unfold ir58
 dsimp only [qo,qm,qk,q2,qi,qg,qn,qc,dq,ci,cb,qh,qs]
 refine ai_seq (ai_reg ?_)
 refine st rfl ?_
 refine ai_seq (ai_seq (ai_reg ?_))
 iterate 2 refine st rfl ?_
 refine ai_cond (b := false) rfl (fun hb => by cases hb) (fun _ => ai_skip ?_)
 refine ai_seq (ai_reg ?_)
 iterate 2 refine st rfl ?_
 refine stC rfl ((at_ok h a hb).mono ?_)
 rintro v h1 ⟨rfl,x1⟩
 refine st rfl ?_
 refine ai_seq (ai_seq (ai_reg ?_))
 refine st rfl ?_
 rcases hn with e | ⟨k,p,e,hk,hne⟩
 ·rw [e]
  iterate 2 refine st rfl ?_
  iterate 7 refine stF rfl rfl ?_
  refine st rfl ?_
  refine ai_cond (b := true) rfl (fun _ => ?_) (fun hb => by cases hb)
  refine ai_seq (ai_reg ?_)
  refine st rfl ?_
  refine ai_ret ?_
  simp only [thenQ_r]
  exact end_one rfl ⟨rfl,x1⟩
 ·rw [e]
  have a1 := a.ext x1
  refine st_v (v2 := .bool false) rfl (congrArg Value.bool (by simp)) ?_
  refine st rfl ?_
  iterate 2 refine stT rfl rfl rfl ?_
  refine stCT rfl rfl rfl ((pod_ok h1 a1 hk).mono ?_)
  rintro v _ ⟨rfl,rfl⟩
  iterate 2 refine stT rfl rfl rfl ?_
  refine stT rfl rfl (o_ld rfl (rd_f (x := 2) (a1.cell hk) rfl)) ?_
  refine stT (v := .bool true) rfl rfl (o_v rfl (congrArg Value.bool (by simp [hne]))) ?_
  refine st rfl ?_
  refine ai_cond (b := true) rfl (fun _ => ?_) (fun hb => by cases hb)
  refine ai_seq (ai_reg ?_)
  refine st rfl ?_
  refine ai_ret ?_
  simp only [thenQ_r]
  exact end_one rfl ⟨rfl,x1⟩
theorem leave_ok (h : Hp) {L j : Nat} {ps : List (Nat × Pd)} {made id : Int} (a : LA h L j ps made) (hb : ps.length ≤ 1000000) {k : Nat} {p : Nat × Pd} (e : ixF ps id = (k : Nat)) (hk : ps[k]? = some p) (hB : 1 ≤ p.2.2.2.1 ∧ p.2.2.2.1 ≤ 1000000) :
  ACall PX 58 [ptr L,nI id] h (fun v h' => v = nI 0 ∧ LA h' L j (if p.2.2.2.1 = 1 ∧ p.2.2.1 = 3 then ps.take k ++ ps.drop (k + 1) else ps.set k (p.1,(p.2.1,p.2.2.1,p.2.2.2.1 - 1,p.2.2.2.2))) made ∧ ModL L j ps h h') := by
 have hkl := (List.getElem?_eq_some_iff.1 hk).1
 refine acallA Tryz.func58 c58 ?_
 unfold ir58
 dsimp only [qo,qm,qk,q2,qi,qg,qn,qc,dq,ci,cb,qh,qs]
 refine ai_seq (ai_reg ?_)
 refine st rfl ?_
 refine ai_seq (ai_seq (ai_reg ?_))
 iterate 2 refine st rfl ?_
 refine ai_cond (b := false) rfl (fun hb => by cases hb) (fun _ => ai_skip ?_)
 refine ai_seq (ai_reg ?_)
 iterate 2 refine st rfl ?_
 refine stC rfl ((at_ok h a hb).mono ?_)
 rintro v h1 ⟨rfl,x1⟩
 refine st rfl ?_
 have a1 := a.ext x1
 refine ai_seq (ai_seq (ai_reg ?_))
 refine st rfl ?_
 rw [e]
 refine st_v (v2 := .bool false) rfl (congrArg Value.bool (by simp)) ?_
 refine st rfl ?_
 iterate 2 refine stT rfl rfl rfl ?_
 refine stCT rfl rfl rfl ((pod_ok h1 a1 hk).mono ?_)
 rintro v _ ⟨rfl,rfl⟩
 iterate 2 refine stT rfl rfl rfl ?_
 refine stT rfl rfl (o_ld rfl (rd_f (x := 2) (a1.cell hk) rfl)) ?_
 refine stT (v := .bool false) rfl rfl (o_v rfl (congrArg Value.bool (by simp; omega))) ?_
 refine st rfl ?_
 refine ai_cond (b := false) rfl (fun hb => by cases hb) (fun _ => ai_skip ?_)
 refine ai_seq (ai_reg ?_)
 iterate 2 refine st rfl ?_
 refine stC rfl ((pod_ok h1 a1 hk).mono ?_)
 rintro v _ ⟨rfl,rfl⟩
 refine st rfl ?_
 refine ai_seq (ai_seq (ai_reg ?_))
 iterate 3 refine st rfl ?_
 refine st_ld rfl (rd_f (x := 2) (a1.cell hk) rfl) ?_
 refine st_w rfl (by omega) ?_
 iterate 2 refine st rfl ?_
 have hset := a1.set hk (p.2.1,p.2.2.1,p.2.2.2.1 - 1,p.2.2.2.2)
 refine st_st (h' := h1.put p.1 ⟨p4 (p.2.1,p.2.2.1,p.2.2.2.1 - 1,p.2.2.2.2),true,0⟩) rfl rfl (wr_f (a1.cell hk) (x := 2) (by simp [p4]) rfl) ?_
 have hP : (h1.put p.1 ⟨p4 (p.2.1,p.2.2.1,p.2.2.2.1 - 1,p.2.2.2.2),true,0⟩).get p.1 = some ⟨p4 (p.2.1,p.2.2.1,p.2.2.2.1 - 1,p.2.2.2.2),true,0⟩ := hput_same _ _ _
 obtain ⟨a2,m2⟩ := hset
 generalize h1.put p.1 ⟨p4 (p.2.1,p.2.2.1,p.2.2.2.1 - 1,p.2.2.2.2),true,0⟩ = h2 at a2 m2 hP
 have m3 : ModL L j ps h h2 := (ModL.of_ext x1).trans m2
 refine ai_seq (ai_reg ?_)
 iterate 3 refine st rfl ?_
 refine st_ld rfl (rd_f (x := 2) hP rfl) ?_
 by_cases h1b : p.2.2.2.1 = 1
 ·refine st_v (v2 := .bool true) rfl (congrArg Value.bool (by simp; omega)) ?_
  refine st rfl ?_
  iterate 3 refine stT rfl rfl rfl ?_
  refine stT rfl rfl (o_ld rfl (rd_f (x := 1) hP rfl)) ?_
  by_cases h3 : p.2.2.1 = 3
  ·refine stT (v := .bool true) rfl rfl (o_v rfl (congrArg Value.bool (by simp [h3]))) ?_
   refine st rfl ?_
   refine ai_cond (b := true) rfl (fun _ => ?_) (fun hb => by cases hb)
   have hkl2 : k < (ps.set k (p.1,(p.2.1,p.2.2.1,p.2.2.2.1 - 1,p.2.2.2.2))).length := by simpa using hkl
   obtain ⟨s,hg,hs⟩ := a2.row
   refine ai_reg ?_
   iterate 4 refine st rfl ?_
   refine st_ld rfl (rd_f hg rfl) ?_
   iterate 2 refine st rfl ?_
   refine st_w rfl (by omega) ?_
   refine stC rfl ((delete_ok h2 hs (i := k) (by simpa using hkl) (by simpa using hb)).mono ?_)
   rintro w h3' ⟨lr,hn3,hk3⟩
   iterate 2 refine st rfl ?_
   have hjL := a2.sep hkl2
   have hg3 := (hk3 L (Ne.symm hjL)).trans hg
   have hone : one w = true ∧ w.cells = #[w] := by rcases lr with ⟨rfl,_⟩ | ⟨_,rfl,_⟩ <;> exact ⟨rfl,rfl⟩
   refine st_st (h' := h3'.put L ⟨[w,nI made],true,0⟩) rfl (by rw [hone.2]; rfl) (by rw [hone.2]; exact wr_f hg3 (x := 0) (by simp) hone.1) ?_
   refine ai_seq (ai_reg ?_)
   refine st rfl ?_
   refine ai_ret ?_
   obtain ⟨a4,m4⟩ := a2.del hkl2 lr hn3 hk3
   have e1 : (ps.set k (p.1,(p.2.1,p.2.2.1,p.2.2.2.1 - 1,p.2.2.2.2))).take k ++ (ps.set k (p.1,(p.2.1,p.2.2.1,p.2.2.2.1 - 1,p.2.2.2.2))).drop (k + 1) = ps.take k ++ ps.drop (k + 1) := by
    rw [List.take_set_of_le (by omega),List.drop_set_of_lt (by omega)]
   rw [e1] at a4
   refine end_one rfl ⟨rfl,by rw [if_pos ⟨h1b,h3⟩]; exact a4,Nat.le_trans m3.1 m4.1,fun q q1 q2 q3 q4 => (m4.2 q (Nat.lt_of_lt_of_le q1 m3.1) q2 q3 fun r hr => ?_).trans (m3.2 q q1 q2 q3 q4)⟩
   rcases List.mem_or_eq_of_mem_set hr with hr | rfl
   ·exact q4 r hr
   ·exact q4 p (List.mem_of_getElem? hk)
  ·refine stT (v := .bool false) rfl rfl (o_v rfl (congrArg Value.bool (by simp [h3]))) ?_
   refine st rfl ?_
   refine ai_cond (b := false) rfl (fun hb => by cases hb) (fun _ => ai_skip ?_)
   refine ai_seq (ai_reg ?_)
   refine st rfl ?_
   refine ai_ret ?_
   exact end_one rfl ⟨rfl,by rw [if_neg fun h => h3 h.2]; exact a2,m3⟩
 ·refine st_v (v2 := .bool false) rfl (congrArg Value.bool (by simp; omega)) ?_
  refine st rfl ?_
  iterate 5 refine stF rfl rfl ?_
  refine st rfl ?_
  refine ai_cond (b := false) rfl (fun hb => by cases hb) (fun _ => ai_skip ?_)
  refine ai_seq (ai_reg ?_)
  refine st rfl ?_
  refine ai_ret ?_
  exact end_one rfl ⟨rfl,by rw [if_neg fun h => h1b h.1]; exact a2,m3⟩
theorem end_cell {t u : Nat} {R : Value → Hp → Prop} {env : Env} {h : Hp} {i : Nat} {p : Pd} {w : Value} (e : env.get t = some (ptr i)) (hg : h.get i = some ⟨p4 p,true,0⟩) (e2 : env.get u = some w) (r : R (.tuple #[.agg ⟨p4 p⟩,w]) h) : endQ PX [.cell t 81,.tmp u] R .ret env h := by
 refine ⟨[.agg ⟨p4 p⟩,w],?_,r⟩
 have hi : ∃ d ti,PX.underlying 81 = some d ∧ PX.info? 81 = some ti ∧ isAggD d = true ∧ ti.size = 4 := by
  have hm : (PX.info? 81).map (·.size) = some 4 := by kernel_rfl
  cases hti : PX.info? 81 with
  | none => rw [hti] at hm; cases hm
  | some ti =>
   rw [hti] at hm
   refine ⟨_,ti,Tryz.underlying81,rfl,rfl,?_⟩
   exact Option.some.inj hm
 obtain ⟨d,ti,h1,h2,h3,h4⟩ := hi
 have hr : h.rd i 0 4 = some (p4 p) := by unfold Hp.rd; simp only [hg]; rfl
 simp only [resAll,resOne,e,h1,h2,h3,if_true,h4,hr,Option.map_some,e2]
theorem crash_no (h : Hp) {L j : Nat} {ps : List (Nat × Pd)} {made k : Int} (a : LA h L j ps made) (hk : k < 0 ∨ (ps.length : Int) ≤ k) : ACall PX 59 [ptr L,nI k] h (fun v h' => v = .tuple #[.agg ⟨p4 (0,0,0,0)⟩,nI 7] ∧ Ext h h') := by
 have a1 := a.ext (Ext.new h ⟨p4 (0,0,0,0),true,0⟩)
 obtain ⟨s,hg,hs⟩ := a1.row
 have hO : (h.new ⟨p4 (0,0,0,0),true,0⟩).get h.nx = some ⟨p4 (0,0,0,0),true,0⟩ := by simp [Hp.new]
 refine acallA Tryz.func59 c59 ?_
 unfold ir59
 dsimp only [qo,qm,qk,q2,qi,qg,qn,qc,dq,ci,cb,qh,qs]
 refine ai_seq (ai_reg ?_)
 refine st (v := ptr h.nx) (h' := h.new ⟨p4 (0,0,0,0),true,0⟩) rfl ?_
 refine st rfl ?_
 have x1 := Ext.new h ⟨p4 (0,0,0,0),true,0⟩
 have hnx : h.nx < (h.new ⟨p4 (0,0,0,0),true,0⟩).nx := by simp [Hp.new]
 generalize h.new ⟨p4 (0,0,0,0),true,0⟩ = h1 at *
 have hx2 : Ext h (h1.put h.nx ⟨p4 (0,0,0,0),true,0⟩) := ⟨x1.1,fun q hq => (hput_ne _ _ (by omega)).trans (x1.2 q hq)⟩
 refine ai_seq (ai_block ?_)
 refine ai_seq (ai_reg ?_)
 iterate 3 refine st rfl ?_
 refine ai_cond (b := false) rfl (fun hb => by cases hb) (fun _ => ?_)
 refine ai_seq (ai_reg ?_)
 refine st rfl ?_
 have hwr : h1.wr h.nx 0 (p4 (0,0,0,0)) = some (h1.put h.nx ⟨p4 (0,0,0,0),true,0⟩) := by
  unfold Hp.wr
  rw [hO]
  rfl
 by_cases h0 : k < 0
 ·refine st_v (v2 := .bool true) rfl (congrArg Value.bool (by simp; omega)) ?_
  refine st rfl ?_
  iterate 7 refine stF rfl rfl ?_
  iterate 2 refine st rfl ?_
  refine ai_cond (b := true) rfl (fun _ => ?_) (fun hb => by cases hb)
  refine ai_seq (ai_reg ?_)
  refine st (v := .agg ⟨p4 (0,0,0,0)⟩) (h' := h1) rfl ?_
  refine st_st rfl rfl hwr ?_
  refine st rfl ?_
  refine ai_ret ?_
  simp only [thenQ_r,blockQ_r]
  exact end_cell rfl (hput_same _ _ _) rfl ⟨rfl,hx2⟩
 ·have hk2 : (ps.length : Int) ≤ k := hk.resolve_left h0
  obtain ⟨x,c,e⟩ := hs.len
  subst e
  rw [List.length_map] at hg
  refine st_v (v2 := .bool false) rfl (congrArg Value.bool (by simp; omega)) ?_
  refine st rfl ?_
  iterate 4 refine stT rfl rfl rfl ?_
  refine stT rfl rfl (o_ld rfl (rd_f (x := 0) hg rfl)) ?_
  refine stT rfl rfl rfl ?_
  refine stT (v := .bool true) rfl rfl (o_v rfl (congrArg Value.bool (by simp; omega))) ?_
  iterate 2 refine st rfl ?_
  refine ai_cond (b := true) rfl (fun _ => ?_) (fun hb => by cases hb)
  refine ai_seq (ai_reg ?_)
  refine st (v := .agg ⟨p4 (0,0,0,0)⟩) (h' := h1) rfl ?_
  refine st_st rfl rfl hwr ?_
  refine st rfl ?_
  refine ai_ret ?_
  simp only [thenQ_r,blockQ_r]
  exact end_cell rfl (hput_same _ _ _) rfl ⟨rfl,hx2⟩
set_option maxHeartbeats 1000000 in
theorem crash_ok (h : Hp) {L j : Nat} {ps : List (Nat × Pd)} {made : Int} (a : LA h L j ps made) (hb : ps.length ≤ 1000000) {k : Nat} {p : Nat × Pd} (hk : ps[k]? = some p) :
  ACall PX 59 [ptr L,nI k] h (fun v h' => v = .tuple #[.agg ⟨p4 p.2⟩,nI 0] ∧ LA h' L j (ps.take k ++ ps.drop (k + 1)) made ∧ ModL L j ps h h') := by
 have hkl := (List.getElem?_eq_some_iff.1 hk).1
 have hLl := a.ll
 have hjl := a.jl
 have hpl := (a.pods p (List.mem_of_getElem? hk)).2.1
 have a1 := a.ext (Ext.new h ⟨p4 (0,0,0,0),true,0⟩)
 have hO : (h.new ⟨p4 (0,0,0,0),true,0⟩).get h.nx = some ⟨p4 (0,0,0,0),true,0⟩ := by simp [Hp.new]
 refine acallA Tryz.func59 c59 ?_
 unfold ir59
 dsimp only [qo,qm,qk,q2,qi,qg,qn,qc,dq,ci,cb,qh,qs]
 refine ai_seq (ai_reg ?_)
 refine st (v := ptr h.nx) (h' := h.new ⟨p4 (0,0,0,0),true,0⟩) rfl ?_
 refine st rfl ?_
 have x1 := Ext.new h ⟨p4 (0,0,0,0),true,0⟩
 have hnx : h.nx < (h.new ⟨p4 (0,0,0,0),true,0⟩).nx := by simp [Hp.new]
 generalize h.new ⟨p4 (0,0,0,0),true,0⟩ = h1 at *
 obtain ⟨s,hg,hs⟩ := a1.row
 have hlen := hs.len
 refine ai_seq (ai_block ?_)
 refine ai_seq (ai_reg ?_)
 iterate 3 refine st rfl ?_
 refine ai_cond (b := false) rfl (fun hb => by cases hb) (fun _ => ?_)
 refine ai_seq (ai_reg ?_)
 refine st rfl ?_
 refine st_v (v2 := .bool false) rfl (congrArg Value.bool (by simp)) ?_
 refine st rfl ?_
 iterate 4 refine stT rfl rfl rfl ?_
 refine stT rfl rfl (o_ld rfl (rd_f (x := 0) hg rfl)) ?_
 refine stT (v := nI ps.length) (h' := h1) rfl rfl (by obtain ⟨x,c,rfl⟩ := hlen; rw [List.length_map]; rfl) ?_
 refine stT (v := .bool false) rfl rfl (o_v rfl (congrArg Value.bool (by simp; omega))) ?_
 iterate 2 refine st rfl ?_
 refine ai_cond (b := false) rfl (fun hb => by cases hb) (fun _ => ai_skip ?_)
 refine ai_seq (ai_reg ?_)
 iterate 2 refine st rfl ?_
 refine stC rfl ((pod_ok h1 a1 hk).mono ?_)
 rintro v _ ⟨rfl,rfl⟩
 refine st rfl ?_
 refine st_ldn (us := p4 p.2) rfl (by simp only [Hp.rd,a1.cell hk]; rfl) ?_
 refine st (v := ptr h1.nx) (h' := h1.new ⟨[nI 0,nI 0,nI 0,nI 0],true,0⟩) rfl ?_
 refine st_st (h' := (h1.new ⟨[nI 0,nI 0,nI 0,nI 0],true,0⟩).put h1.nx ⟨p4 p.2,true,0⟩) rfl rfl (copy_wr h1 p.2) ?_
 have x2 := copy_ext h1 p.2
 have hC : ((h1.new ⟨[nI 0,nI 0,nI 0,nI 0],true,0⟩).put h1.nx ⟨p4 p.2,true,0⟩).get h1.nx = some ⟨p4 p.2,true,0⟩ := hput_same _ _ _
 generalize (h1.new ⟨[nI 0,nI 0,nI 0,nI 0],true,0⟩).put h1.nx ⟨p4 p.2,true,0⟩ = h2 at x2 hC ⊢
 have a2 := a1.ext x2
 have hg2 := (x2.2 L a1.ll).trans hg
 have hs2 : LR h2 L j s (ps.map fun p => pE p.1) := hs.keep fun _ => x2.2 j a1.jl
 have hO2 := (x2.2 h.nx hnx).trans hO
 refine ai_seq (ai_reg ?_)
 iterate 4 refine st rfl ?_
 refine st_ld rfl (rd_f hg2 rfl) ?_
 iterate 2 refine st rfl ?_
 refine st_w rfl (by omega) ?_
 refine stC rfl ((delete_ok h2 hs2 (i := k) (by simpa using hkl) (by simpa using hb)).mono ?_)
 rintro w h3 ⟨lr,hn3,hk3⟩
 iterate 2 refine st rfl ?_
 have hjL := a2.sep hkl
 have hg3 := (hk3 L (Ne.symm hjL)).trans hg2
 have hone : one w = true ∧ w.cells = #[w] := by rcases lr with ⟨rfl,_⟩ | ⟨_,rfl,_⟩ <;> exact ⟨rfl,rfl⟩
 refine st_st (h' := h3.put L ⟨[w,nI made],true,0⟩) rfl (by rw [hone.2]; rfl) (by rw [hone.2]; exact wr_f hg3 (x := 0) (by simp) hone.1) ?_
 obtain ⟨a4,m4⟩ := a2.del hkl lr hn3 hk3
 have hnx1 : h1.nx ≠ L ∧ h1.nx ≠ j := by have := a1.ll; have := a1.jl; omega
 have hC4 : (h3.put L ⟨[w,nI made],true,0⟩).get h1.nx = some ⟨p4 p.2,true,0⟩ := (hput_ne _ _ hnx1.1).trans ((hk3 _ hnx1.2).trans hC)
 have hO4 : (h3.put L ⟨[w,nI made],true,0⟩).get h.nx = some ⟨p4 (0,0,0,0),true,0⟩ := (hput_ne _ _ (by omega)).trans ((hk3 _ (by omega)).trans hO2)
 have hn4 : (h3.put L ⟨[w,nI made],true,0⟩).nx = h2.nx := by rw [hput_nx,hn3]
 generalize h3.put L ⟨[w,nI made],true,0⟩ = h4 at a4 m4 hC4 hO4 hn4 ⊢
 refine ai_seq (ai_reg ?_)
 refine st_ldn (us := p4 p.2) rfl (by simp only [Hp.rd,hC4]; rfl) ?_
 refine st_st (h' := h4.put h.nx ⟨p4 p.2,true,0⟩) rfl rfl (by unfold Hp.wr; rw [hO4]; rfl) ?_
 refine st rfl ?_
 refine ai_ret ?_
 have hx2n := x2.1
 have hx1n := x1.1
 refine end_cell rfl (hput_same _ _ _) rfl ⟨rfl,?_,by rw [hput_nx]; omega,fun q q1 q2 q3 q4 => ?_⟩
 ·obtain ⟨b1,b2,⟨s4,b3,b4⟩,b5,b6⟩ := a4
  refine ⟨b1,b2,⟨s4,(hput_ne _ _ (by omega)).trans b3,b4.keep fun _ => hput_ne _ _ (by omega)⟩,fun r hr => ?_,b6⟩
  have hr1 := b5 r hr
  have hrl : r.1 < h.nx := by
   have : r ∈ ps := by
    rcases List.mem_append.1 hr with hr | hr
    ·exact List.mem_of_mem_take hr
    ·exact List.mem_of_mem_drop hr
   exact (a.pods r this).2.1
  exact ⟨(hput_ne _ _ (by omega)).trans hr1.1,hr1.2⟩
 ·exact (hput_ne _ _ (by omega)).trans ((m4.2 q (by omega) q2 q3 q4).trans ((x2.2 q (by omega)).trans (x1.2 q q1)))
theorem drU {P : Program} {CT : CTy} {env : Env} {h : Hp} {Q : Env → Hp → Prop} {d : Option Nat} {ix t : Nat} {b : Bool} {eff : Bool} {ik : IK} {L : List DE} (g : env.get t = some undef) (n : wpD P CT L (env.put d undef) h Q) : wpD P CT (⟨ix,⟨d,some (t,b),ik⟩,eff,[]⟩ :: L) env h Q := by
 unfold wpD wpIn
 simp only [wanted,g,undef]
 exact ⟨trivial,n⟩
theorem nxF_bd (l : List Pd) : ∀ i,-1 ≤ nxF l i ∧ nxF l i < i
 | 0 => by simp [nxF]
 | i + 1 => by
  have := nxF_bd l i
  simp only [nxF,nxS]
  split
  ·omega
  ·split
   ·omega
   ·split <;> omega
set_option maxHeartbeats 1000000 in
theorem next_ok (h : Hp) {L j : Nat} {ps : List (Nat × Pd)} {made : Int} (a : LA h L j ps made) (hb : ps.length ≤ 1000000) : ACall PX 48 [ptr L] h (fun v h' => v = nI (nxF (ps.map (·.2)) ps.length) ∧ Ext h h') := by
 refine acallA Tryz.func48 c48 ?_
 unfold ir48
 dsimp only [qo,qm,qk,q2,qi,qg,qn,qc,dq,ci,cb,qh,qs]
 refine ai_seq (ai_reg ?_)
 refine st rfl ?_
 refine ai_seq (ai_reg ?_)
 refine st rfl ?_
 refine ai_join (γ := Unit) (fun _ => [(3,nI (nxF (ps.map (·.2)) ps.length))]) (fun _ h' => Ext h h') ?_ ?_
 case refine_2 =>
  rintro _ h1 x1
  refine ai_seq (ai_reg ?_)
  iterate 2 refine st rfl ?_
  refine ai_ret ?_
  exact end_one rfl ⟨rfl,x1⟩
 refine ai_seq (ai_reg ?_)
 refine st rfl ?_
 refine stC rfl ((lall_ok h a hb).mono ?_)
 rintro v h1 ⟨x1,a1⟩
 obtain ⟨vx,vc,e⟩ := a1.len
 subst e
 have hpl : (ps.map (·.2)).length = ps.length := by simp
 have hget : ∀ (i : Nat) (p : Pd),(ps.map (·.2))[i]? = some p → ∃ q : Nat × Pd,ps[i]? = some q ∧ q.2 = p := by
  intro i p hp
  rw [List.getElem?_map] at hp
  cases hq : ps[i]? with
  | none => rw [hq] at hp; cases hp
  | some q => rw [hq] at hp; exact ⟨q,rfl,Option.some.inj hp⟩
 have hll : (ps.map (·.2)).length ≤ 1000000 := by simpa using hb
 rw [← hpl]
 clear hpl
 generalize ps.map (·.2) = l at a1 hget hll ⊢
 iterate 2 refine st rfl ?_
 refine ai_block (ai_loopE (γ := Nat) (fun i => [(0,ptr L),(3,nI (nxF l i)),(8,.slice vx l.length vc),(9,nI l.length),(10,nI i)]) (fun i h' => Ext h1 h' ∧ i ≤ l.length) (fun i => l.length - i) 0
  (le_cons rfl (le_cons rfl (le_cons rfl (le_cons rfl (le_cons rfl le_nil))))) ⟨Ext.refl _,Nat.zero_le _⟩ ?_)
 rintro i h2 ⟨x2,hi⟩
 refine ai_seq (ai_reg ?_)
 refine st rfl ?_
 by_cases hlt : i < l.length
 case neg =>
  obtain rfl : i = l.length := by omega
  refine ai_seq (ai_cond (b := false) (by simp [evA,Env.get,Env.put]) (fun hb => by cases hb) fun _ => ?_)
  refine ai_exit ?_
  exact ⟨rfl,(),le_cons rfl le_nil,x1.trans x2⟩
 refine ai_seq (ai_cond (b := true) (by simp [evA,Env.get,Env.put,hlt]) (fun _ => ?_) fun hb => by cases hb)
 refine ai_skip ?_
 have hu : l[i]? = some l[i] := by simp [hlt]
 have hgd : l.getD i (0,0,0,0) = l[i] := by simp [List.getD_eq_getElem?_getD,hlt]
 have hnx : nxF l (i + 1) = nxS l (nxF l i) i l[i] := by simp only [nxF,hgd]
 have hbd := nxF_bd l i
 generalize l[i] = p at hu hnx
 obtain ⟨k,e,_,_,hr⟩ := (a1.move x2).at hu
 cases e
 refine ai_join (γ := Unit) (fun _ => [(0,ptr L),(3,nI (nxF l (i + 1))),(8,.slice (some ⟨k,0,some 0⟩) l.length l.length),(9,nI l.length),(10,nI i)]) (fun _ h' => Ext h1 h') ?_ ?_
 case refine_2 =>
  rintro _ h3 x3
  refine ai_reg ?_
  refine st_w rfl (by omega) ?_
  refine st rfl ?_
  exact ⟨i + 1,le_cons rfl (le_cons rfl (le_cons rfl (le_cons rfl (le_cons (by simp [Env.get,Env.put]) le_nil)))),⟨x3,by omega⟩,by dsimp only; omega⟩
 rw [hnx]
 generalize nxF l i = best at hbd ⊢
 refine ai_block ?_
 refine ai_seq (ai_reg ?_)
 refine st rfl ?_
 refine st_iad rfl (by omega) ?_
 refine st_ldn rfl (by rw [Int.toNat_natCast]; exact hr) ?_
 refine st (v := ptr h2.nx) (h' := h2.new ⟨[nI 0,nI 0,nI 0,nI 0],true,0⟩) rfl ?_
 refine st rfl ?_
 refine st_st (h' := (h2.new ⟨[nI 0,nI 0,nI 0,nI 0],true,0⟩).put h2.nx ⟨p4 p,true,0⟩) rfl rfl (copy_wr h2 p) ?_
 have x3 := x2.trans (copy_ext h2 p)
 have hO : ((h2.new ⟨[nI 0,nI 0,nI 0,nI 0],true,0⟩).put h2.nx ⟨p4 p,true,0⟩).get h2.nx = some ⟨p4 p,true,0⟩ := hput_same _ _ _
 generalize (h2.new ⟨[nI 0,nI 0,nI 0,nI 0],true,0⟩).put h2.nx ⟨p4 p,true,0⟩ = h3 at x3 hO ⊢
 refine ai_seq (ai_block ?_)
 refine ai_seq (ai_reg ?_)
 refine st rfl ?_
 refine st_ld rfl (rd_f (x := 1) hO rfl) ?_
 by_cases hc : p.2.1 = 3
 ·refine st_v (v2 := .bool true) rfl (congrArg Value.bool (by simp [hc])) ?_
  refine st rfl ?_
  refine ai_cond (b := true) rfl (fun _ => ?_) fun hb => by cases hb
  refine ai_exit ?_
  exact ⟨rfl,(),le_cons rfl (le_cons (by simp only [nxS,if_pos hc]; rfl) (le_cons rfl (le_cons rfl (le_cons rfl le_nil)))),x3⟩
 refine st_v (v2 := .bool false) rfl (congrArg Value.bool (by simp [hc])) ?_
 refine st rfl ?_
 refine ai_cond (b := false) rfl (fun hb => by cases hb) fun _ => ?_
 refine ai_seq (ai_reg ?_)
 refine st rfl ?_
 by_cases hb0 : best < 0
 ·refine st_v (v2 := .bool true) rfl (congrArg Value.bool (by simp; omega)) ?_
  refine st rfl ?_
  refine ai_cond (b := true) rfl (fun _ => ?_) fun hb => by cases hb
  refine ai_seq (ai_reg ?_)
  iterate 2 refine st rfl ?_
  refine ai_exit ?_
  exact ⟨rfl,(),le_cons rfl (le_cons (by simp only [nxS,if_neg hc,if_pos hb0]; rfl) (le_cons rfl (le_cons rfl (le_cons rfl le_nil)))),x3⟩
 refine st_v (v2 := .bool false) rfl (congrArg Value.bool (by simp; omega)) ?_
 refine st rfl ?_
 refine ai_cond (b := false) rfl (fun hb => by cases hb) fun _ => ai_skip ?_
 obtain ⟨B,rfl⟩ := Int.eq_ofNat_of_zero_le (show 0 ≤ best by omega)
 have hBl : l[B]? = some l[B] := by simp
 have hBg : l.getD B (0,0,0,0) = l[B] := by simp [List.getD_eq_getElem?_getD,show B < l.length by omega]
 generalize l[B] = b at hBl hBg
 obtain ⟨q,hq,rfl⟩ := hget B b hBl
 have a3 := a.ext (x1.trans x3)
 refine ai_seq (ai_reg ?_)
 iterate 2 refine st rfl ?_
 refine stC rfl ((pod_ok h3 a3 hq).mono ?_)
 rintro w _ ⟨rfl,rfl⟩
 refine st rfl ?_
 have hQ := a3.cell hq
 have key : nxS l (B : Int) i p = if p.2.1 = 1 ∨ (q.2.2.1 = 2 ∧ p.2.2.1 ≤ q.2.2.2.1) then (i : Int) else B := by
  simp only [nxS,if_neg hc,if_neg hb0,Int.toNat_natCast,hBg]
 refine ai_seq (ai_drw (by kernel_rfl) ?_)
 refine dr rfl ?_
 refine dr (o_ld rfl (rd_f (x := 1) hO rfl)) ?_
 by_cases h1s : p.2.1 = 1
 ·rw [if_pos (.inl h1s)] at key
  rw [key]
  refine dr (v := .bool true) (o_v rfl (congrArg Value.bool (by simp [h1s]))) ?_
  refine dr rfl ?_
  iterate 6 refine drF rfl rfl ?_
  iterate 7 refine drU rfl ?_
  refine drF rfl rfl ?_
  refine dr rfl ?_
  refine ai_cond (b := true) rfl (fun _ => ?_) fun hb => by cases hb
  refine ai_reg ?_
  iterate 2 refine st rfl ?_
  exact ⟨rfl,(),le_cons rfl (le_cons rfl (le_cons rfl (le_cons rfl (le_cons rfl le_nil)))),x3⟩
 refine dr (v := .bool false) (o_v rfl (congrArg Value.bool (by simp [h1s]))) ?_
 refine dr rfl ?_
 iterate 3 refine drT rfl rfl rfl ?_
 refine drT rfl rfl (o_ld rfl (rd_f (x := 1) hQ rfl)) ?_
 by_cases h2s : q.2.2.1 = 2
 ·refine drT (v := .bool true) rfl rfl (o_v rfl (congrArg Value.bool (by simp [h2s]))) ?_
  iterate 2 refine drT rfl rfl rfl ?_
  refine drT rfl rfl (o_ld rfl (rd_f (x := 2) hO rfl)) ?_
  iterate 3 refine drT rfl rfl rfl ?_
  refine drT rfl rfl (o_ld rfl (rd_f (x := 2) hQ rfl)) ?_
  by_cases h3s : p.2.2.1 ≤ q.2.2.2.1
  ·rw [if_pos (.inr ⟨h2s,h3s⟩)] at key
   rw [key]
   refine drT (v := .bool true) rfl rfl (o_v rfl (congrArg Value.bool (by simp; omega))) ?_
   refine drT rfl rfl rfl ?_
   refine dr rfl ?_
   refine ai_cond (b := true) rfl (fun _ => ?_) fun hb => by cases hb
   refine ai_reg ?_
   iterate 2 refine st rfl ?_
   exact ⟨rfl,(),le_cons rfl (le_cons rfl (le_cons rfl (le_cons rfl (le_cons rfl le_nil)))),x3⟩
  ·rw [if_neg (by rintro (h | h); exact h1s h; exact h3s h.2)] at key
   rw [key]
   refine drT (v := .bool false) rfl rfl (o_v rfl (congrArg Value.bool (by simp; omega))) ?_
   refine drT rfl rfl rfl ?_
   refine dr rfl ?_
   refine ai_cond (b := false) rfl (fun hb => by cases hb) fun _ => ai_skip ?_
   exact ⟨rfl,(),le_cons rfl (le_cons rfl (le_cons rfl (le_cons rfl (le_cons rfl le_nil)))),x3⟩
 ·rw [if_neg (by rintro (h | h); exact h1s h; exact h2s h.1)] at key
  rw [key]
  refine drT (v := .bool false) rfl rfl (o_v rfl (congrArg Value.bool (by simp [h2s]))) ?_
  refine drT rfl rfl rfl ?_
  iterate 7 refine drF rfl rfl ?_
  refine drT rfl rfl rfl ?_
  refine dr rfl ?_
  refine ai_cond (b := false) rfl (fun hb => by cases hb) fun _ => ai_skip ?_
  exact ⟨rfl,(),le_cons rfl (le_cons rfl (le_cons rfl (le_cons rfl (le_cons rfl le_nil)))),x3⟩
theorem drR {P : Program} {CT : CTy} {env : Env} {h h' : Hp} {Q : Env → Hp → Prop} {d : Option Nat} {k : K} {xs : List Operand} {v : Value} {ix : Nat} {eff : Bool} {re : List In} {L : List DE} (e : opS env k xs h = some (v,h')) (ag : allAgain re env h') (n : wpD P CT L (env.put d v) h' Q) : wpD P CT (⟨ix,⟨d,none,.op k xs⟩,eff,re⟩ :: L) env h Q := by
 unfold opS at e
 unfold wpD wpIn
 simp only [wanted]
 split at e
 ·next vs hv => simp only [hv,e]; exact ⟨ag,n⟩
 ·cases e
theorem LR.push {h : Hp} {L j : Nat} {s : Value} {us : List Value} (a : LR h L j s us) (hj : j < h.nx) (hL : L < h.nx) {u : Value} (hu : Am.one u = true) (hb : us.length ≤ 1000000) :
  ∃ s' h2 j',stepK (.app 20 1 16) [s,.slice (some ⟨h.nx,0,none⟩) 1 1] (h.new ⟨[u],true,1⟩) = some (s',h2) ∧ LR h2 L j' s' (us ++ [u]) ∧ h.nx < h2.nx ∧ j' < h2.nx ∧ (j' = j ∨ h.nx ≤ j') ∧ ∀ k,k < h.nx → (k ≠ j ∨ j = L) → h2.get k = h.get k := by
 have hrd : rdS (h.new ⟨[u],true,1⟩) (some ⟨h.nx,0,none⟩) (1 * 1) = some [u] := by
  simp [rdS,Hp.rd,Hp.new]
 have hall : [u].all Am.one = true := by simp [hu]
 rcases a with ⟨rfl,rfl⟩ | ⟨tl,rfl,hg,hal,hjL⟩
 ·refine ⟨.slice (some ⟨h.nx + 1,0,some 0⟩) 1 1,(h.new ⟨[u],true,1⟩).new ⟨[u],true,1⟩,h.nx + 1,?_,.inr ⟨[],rfl,?_,hall,by omega⟩,by simp [Hp.new]; omega,by simp [Hp.new],.inr (by omega),?_⟩
  ·simp only [stepK,hrd]
   simp [appA,hu,Hp.new]
  ·simp [Hp.new]
  ·intro k hk _
   have e1 : ¬ k = h.nx + 1 := by omega
   have e3 : ¬ k = h.nx := by omega
   simp only [Hp.new,e1,e3,if_false]
 ·have hne : j ≠ h.nx := by omega
  have hg2 : (h.new ⟨[u],true,1⟩).get j = some ⟨us ++ tl,true,1⟩ := by simp [Hp.new,hne,hg]
  have hal' := hal
  simp only [List.all_append,Bool.and_eq_true] at hal
  cases tl with
  | nil =>
   rw [List.append_nil] at hg2
   have hold : (if us.length = 0 then some [] else (h.new ⟨[u],true,1⟩).rd j 0 (us.length * 1)) = some us := by
    split
    ·next hz => rw [List.eq_nil_of_length_eq_zero hz]
    ·simp [Hp.rd,hg2]
   refine ⟨.slice (some ⟨h.nx + 1,0,some 0⟩) (us.length + 1) (us.length + 1),(((h.new ⟨[u],true,1⟩)).del j).new ⟨us ++ [u],true,1⟩,h.nx + 1,?_,.inr ⟨[],by simp,?_,by simp [hu,hal.1],by omega⟩,by simp [Hp.new,Hp.del]; omega,by simp [Hp.new,Hp.del],.inr (by omega),?_⟩
   ·simp only [stepK,hrd]
    simp only [appA]
    rw [if_pos ⟨by simp,hall,by omega,by omega,by omega⟩]
    simp only [Nat.one_ne_zero,if_false,List.length_nil,Nat.add_zero,show ¬ (us.length + 1 ≤ us.length) by omega,hold,hg2]
    simp [hal.1,Hp.del,Hp.new]
   ·simp [Hp.new,Hp.del]
   ·intro k hk hkj
    have e1 : ¬ k = h.nx + 1 := by omega
    have e2 : ¬ k = j := by omega
    have e3 : ¬ k = h.nx := by omega
    simp only [Hp.new,Hp.del,e1,e2,e3,if_false]
  | cons x tl =>
   refine ⟨.slice (some ⟨j,0,some 0⟩) (us.length + 1) (us.length + (tl.length + 1)),(h.new ⟨[u],true,1⟩).put j ⟨us ++ u :: tl,true,1⟩,j,?_,.inr ⟨tl,by simp; omega,by rw [hput_same]; simp,by simp only [List.all_append,List.all_cons,Bool.and_eq_true] at hal ⊢; simp [hu,hal],hjL⟩,by rw [hput_nx]; simp [Hp.new],by rw [hput_nx]; simp [Hp.new]; omega,.inl rfl,?_⟩
   ·simp only [stepK,hrd]
    simp only [appA]
    rw [if_pos ⟨by simp,hall,by omega,by omega,by omega⟩]
    simp only [Nat.one_ne_zero,if_false,List.length_cons]
    rw [if_pos (by omega)]
    simp only [Hp.wr,hg2,Nat.zero_add,Nat.mul_one]
    rw [if_pos ⟨trivial,by simp,hall⟩]
    simp [splice]
   ·intro k hk hkj
    have e2 : k ≠ j := by omega
    rw [hput_ne _ _ e2]
    simp [Hp.new,show k ≠ h.nx by omega]
theorem LA.grow {h h2 : Hp} {L j j' : Nat} {ps : List (Nat × Pd)} {made m : Int} {v : Pd} {s' : Value} (a : LA h L j ps made) (lr : LR h2 L j' s' ((ps.map fun p => pE p.1) ++ [pE h.nx])) (hn : h.nx + 1 ≤ h2.nx) (jl : j' < h2.nx) (hj' : j' = j ∨ h.nx + 1 ≤ j')
  (hk : ∀ k,k < h.nx + 1 → (k ≠ j ∨ j = L) → h2.get k = (h.new ⟨p4 v,true,0⟩).get k) : LA (h2.put L ⟨[s',nI m],true,0⟩) L j' (ps ++ [(h.nx,v)]) m := by
 obtain ⟨hL,hj,⟨s,hg,hs⟩,hp,hnd⟩ := a
 refine ⟨by rw [hput_nx]; omega,by rw [hput_nx]; omega,⟨s',hput_same _ _ _,?_⟩,fun q hq => ?_,?_⟩
 ·rw [List.map_append]
  exact lr.keep fun e => hput_ne _ _ e
 ·rw [hput_nx]
  rcases List.mem_append.1 hq with hq | hq
  ·have h1 := hp q hq
   refine ⟨?_,by omega,h1.2.2.1,by omega⟩
   rw [hput_ne _ _ h1.2.2.1,hk q.1 (by omega) (.inl h1.2.2.2)]
   simp only [Hp.new,show ¬ q.1 = h.nx by omega,if_false]
   exact h1.1
  ·rw [List.mem_singleton] at hq
   subst hq
   refine ⟨?_,by dsimp only; omega,by dsimp only; omega,by dsimp only; omega⟩
   rw [hput_ne _ _ (by dsimp only; omega),hk h.nx (by omega) (.inl (by omega))]
   simp [Hp.new]
 ·rw [List.map_append,List.nodup_append]
  refine ⟨hnd,by simp,fun x hx y hy => ?_⟩
  obtain ⟨q,hq,rfl⟩ := List.mem_map.1 hx
  have := (hp q hq).2.1
  simp at hy
  omega
theorem newF_succ (made now : Int) (k : Nat) : newF made now (k + 1) = newF made now k ++ [(made + k,1,0,now)] := by simp [newF,List.range_succ]
theorem cF_app (l : List Pd) (made now : Int) (k : Nat) : cF (l ++ newF made now k) = cF l + k := by
 induction k with
 | zero => simp [newF]
 | succ k ih => rw [newF_succ,← List.append_assoc,cF_snoc,ih]; simp; omega
theorem put_put (h : Hp) (i : Nat) (a b : Ob) : (h.put i a).put i b = h.put i b := by
 simp only [Hp.put]
 congr 1
 funext k
 split <;> rfl
set_option maxHeartbeats 1000000 in
theorem scale_up (h : Hp) {L j : Nat} {ps : List (Nat × Pd)} {made now : Int} {d : Nat} (a : LA h L j ps made) (hb : ps.length ≤ 900000) (hc : cF (ps.map (·.2)) + d ≤ 100) (hm : 0 ≤ made ∧ made ≤ 1000000000000000) (hn : 0 ≤ now ∧ now ≤ 1099511627776) :
  ACall PX 24 [ptr L,nI ((cF (ps.map (·.2)) + d : Nat) : Int),nI now] h (fun v h' => v = nI 0 ∧ ∃ j' nw,nw.map (·.2) = newF made now d ∧ (∀ p ∈ nw,h.nx ≤ p.1) ∧ LA h' L j' (ps ++ nw) (made + d) ∧ (j' = j ∨ h.nx ≤ j') ∧ ModL L j ps h h') := by
 refine acallA Tryz.func24 c24 ?_
 unfold ir24
 dsimp only [qo,qm,qk,q2,qi,qg,qn,qc,dq,ci,cb,qh,qs]
 refine ai_seq (ai_reg ?_)
 refine st rfl ?_
 refine ai_seq (ai_block ?_)
 refine ai_seq (ai_reg ?_)
 iterate 3 refine st rfl ?_
 refine ai_cond (b := false) rfl (fun hb => by cases hb) (fun _ => ?_)
 refine ai_seq (ai_reg ?_)
 refine st rfl ?_
 refine st_v (v2 := .bool false) rfl (congrArg Value.bool (by simp; omega)) ?_
 refine st rfl ?_
 refine stT rfl rfl rfl ?_
 refine stT (v := .bool false) rfl rfl (o_v rfl (congrArg Value.bool (by simp; omega))) ?_
 iterate 2 refine st rfl ?_
 refine stT rfl rfl rfl ?_
 refine stT (v := .bool false) rfl rfl (o_v rfl (congrArg Value.bool (by simp; omega))) ?_
 iterate 2 refine st rfl ?_
 refine stT rfl rfl rfl ?_
 refine stT (v := .bool false) rfl rfl (o_v rfl (congrArg Value.bool (by simp; omega))) ?_
 iterate 2 refine st rfl ?_
 refine ai_cond (b := false) rfl (fun hb => by cases hb) (fun _ => ai_skip ?_)
 refine ai_join (γ := Unit) (fun _ => [(0,ptr L),(1,nI ((cF (ps.map (·.2)) + d : Nat) : Int)),(2,nI now)]) (fun _ h' => ∃ j' nw,nw.map (·.2) = newF made now d ∧ (∀ p ∈ nw,h.nx ≤ p.1) ∧ LA h' L j' (ps ++ nw) (made + d) ∧ (j' = j ∨ h.nx ≤ j') ∧ ModL L j ps h h') ?_ ?_
 case refine_2 =>
  rintro _ h1 ⟨j1,nw,hnw,hge,a1,hj1,m1⟩
  have hcnt : cF ((ps ++ nw).map (·.2)) = cF (ps.map (·.2)) + d := by rw [List.map_append,hnw,cF_app]
  have hnl : nw.length = d := by have := congrArg List.length hnw; simpa [newF] using this
  refine ai_join (γ := Unit) (fun _ => []) (fun _ h' => ∃ j' nw,nw.map (·.2) = newF made now d ∧ (∀ p ∈ nw,h.nx ≤ p.1) ∧ LA h' L j' (ps ++ nw) (made + d) ∧ (j' = j ∨ h.nx ≤ j') ∧ ModL L j ps h h') ?_ ?_
  ·refine ai_block (ai_loopE (γ := Unit) (fun _ => [(0,ptr L),(1,nI ((cF (ps.map (·.2)) + d : Nat) : Int)),(2,nI now)]) (fun _ h' => Ext h1 h') (fun _ => 0) () (le_cons rfl (le_cons rfl (le_cons rfl le_nil))) (Ext.refl _) ?_)
   rintro _ h2 x2
   refine ai_seq (ai_seq (ai_reg ?_))
   refine st rfl ?_
   refine stC rfl ((count_ok h2 (a1.ext x2) (by simp; omega)).mono ?_)
   rintro v h3 ⟨rfl,x3⟩
   rw [hcnt]
   refine st rfl ?_
   refine st_v (v2 := .bool false) rfl (congrArg Value.bool (by simp)) ?_
   refine ai_cond (b := false) rfl (fun hb => by cases hb) fun _ => ?_
   refine ai_exit ?_
   exact ⟨rfl,(),le_nil,j1,nw,hnw,hge,a1.ext (x2.trans x3),hj1,m1.trans (ModL.of_ext (x2.trans x3))⟩
  rintro _ h2 hR
  refine ai_seq (ai_reg ?_)
  refine st rfl ?_
  refine ai_ret ?_
  exact end_one rfl ⟨rfl,hR⟩
 refine ai_block (ai_loopE (γ := Nat) (fun _ => [(0,ptr L),(1,nI ((cF (ps.map (·.2)) + d : Nat) : Int)),(2,nI now)]) (fun k h' => (∃ j' nw,nw.map (·.2) = newF made now k ∧ (∀ p ∈ nw,h.nx ≤ p.1) ∧ LA h' L j' (ps ++ nw) (made + k) ∧ (j' = j ∨ h.nx ≤ j') ∧ ModL L j ps h h') ∧ k ≤ d) (fun k => d - k) 0
  (le_cons rfl (le_cons rfl (le_cons rfl le_nil))) ⟨⟨j,[],rfl,by simp,by simpa using a,.inl rfl,ModL.of_ext (Ext.refl _)⟩,Nat.zero_le _⟩ ?_)
 rintro k h1 ⟨⟨j1,nw,hnw,hge,a1,hj1,m1⟩,hkd⟩
 have hcnt : cF ((ps ++ nw).map (·.2)) = cF (ps.map (·.2)) + k := by rw [List.map_append,hnw,cF_app]
 have hnl : nw.length = k := by have := congrArg List.length hnw; simpa [newF] using this
 refine ai_seq (ai_seq (ai_reg ?_))
 refine st rfl ?_
 refine stC rfl ((count_ok h1 a1 (by simp; omega)).mono ?_)
 rintro v h2 ⟨rfl,x2⟩
 rw [hcnt]
 have a2 := a1.ext x2
 have m2 := m1.trans (ModL.of_ext (L := L) (j := j) (ps := ps) x2)
 refine st rfl ?_
 by_cases hlt : k < d
 case neg =>
  obtain rfl : k = d := by omega
  refine st_v (v2 := .bool false) rfl (congrArg Value.bool (by simp)) ?_
  refine ai_cond (b := false) rfl (fun hb => by cases hb) fun _ => ?_
  refine ai_exit ?_
  exact ⟨rfl,(),le_cons rfl (le_cons rfl (le_cons rfl le_nil)),j1,nw,hnw,hge,a2,hj1,m2⟩
 refine st_v (v2 := .bool true) rfl (congrArg Value.bool (by simp; omega)) ?_
 refine ai_cond (b := true) rfl (fun _ => ?_) fun hb => by cases hb
 refine ai_skip ?_
 obtain ⟨sv,hg,hs⟩ := a2.row
 have hml := a2.ll
 have hjl := a2.jl
 refine ai_block ?_
 refine ai_seq (ai_drw (by kernel_rfl) ?_)
 iterate 4 refine dr rfl ?_
 refine dr (o_ld rfl (rd_f (x := 0) hg rfl)) ?_
 iterate 3 refine dr rfl ?_
 refine dr (o_ld rfl (rd_f (x := 1) hg rfl)) ?_
 refine dr rfl ?_
 refine dr (v := .agg ⟨p4 (made + k,1,0,now)⟩) (h' := h2) rfl ?_
 have hgB : (h2.new ⟨p4 (made + k,1,0,now),true,0⟩).get L = some ⟨[sv,nI (made + k)],true,0⟩ := by simp [Hp.new,show L ≠ h2.nx by omega,hg]
 have hgC : ((h2.new ⟨p4 (made + k,1,0,now),true,0⟩).new ⟨[pE h2.nx],true,1⟩).get L = some ⟨[sv,nI (made + k)],true,0⟩ := by simp [Hp.new,show L ≠ h2.nx by omega,show L ≠ h2.nx + 1 by omega,hg]
 refine drR (v := ptr h2.nx) (h' := h2.new ⟨p4 (made + k,1,0,now),true,0⟩) rfl ⟨ag_ld rfl rfl (rd_f (x := 0) hgB rfl),trivial⟩ ?_
 refine dr (v := pE h2.nx) (h' := h2.new ⟨p4 (made + k,1,0,now),true,0⟩) rfl ?_
 refine drR (v := .slice (some ⟨(h2.new ⟨p4 (made + k,1,0,now),true,0⟩).nx,0,none⟩) 1 1) (h' := (h2.new ⟨p4 (made + k,1,0,now),true,0⟩).new ⟨[pE h2.nx],true,1⟩) rfl ⟨ag_ld rfl rfl (rd_f (x := 0) hgC rfl),trivial⟩ ?_
 have hs3 : LR (h2.new ⟨p4 (made + k,1,0,now),true,0⟩) L j1 sv ((ps ++ nw).map fun p => pE p.1) := hs.keep fun _ => by simp [Hp.new,show j1 ≠ h2.nx by omega]
 obtain ⟨s',h3,j',hst,lr3,hn3,hjl3,hj3,hk3⟩ := hs3.push (by simp [Hp.new]; omega) (by simp [Hp.new]; omega) (u := pE h2.nx) rfl (by simp; omega)
 refine dr hst ?_
 have hnb : (h2.new ⟨p4 (made + k,1,0,now),true,0⟩).nx = h2.nx + 1 := by simp [Hp.new]
 rw [hnb] at hn3 hj3 hk3
 have hone : one s' = true ∧ s'.cells = #[s'] := by rcases lr3 with ⟨rfl,_⟩ | ⟨_,rfl,_⟩ <;> exact ⟨rfl,rfl⟩
 have hg3 : h3.get L = some ⟨[sv,nI (made + k)],true,0⟩ := (hk3 L (by omega) (by by_cases e : j1 = L; exact .inr e; exact .inl fun e' => e e'.symm)).trans hgB
 iterate 2 refine dr rfl ?_
 refine dr (o_st (h' := h3.put L ⟨[s',nI (made + k)],true,0⟩) rfl (by rw [hone.2]; rfl) (by rw [hone.2]; exact wr_f hg3 (x := 0) (by simp) hone.1)) ?_
 have hg4 : (h3.put L ⟨[s',nI (made + k)],true,0⟩).get L = some ⟨[s',nI (made + k)],true,0⟩ := hput_same _ _ _
 refine ai_reg ?_
 iterate 3 refine st rfl ?_
 refine st_ld rfl (rd_f (x := 1) hg4 rfl) ?_
 refine st_w rfl (by omega) ?_
 iterate 2 refine st rfl ?_
 refine st_st (h' := (h3.put L ⟨[s',nI (made + k)],true,0⟩).put L ⟨[s',nI (made + k + 1)],true,0⟩) rfl rfl (wr_f hg4 (x := 1) (by simp) rfl) ?_
 rw [put_put]
 have hgrow := a2.grow (v := (made + k,1,0,now)) (m := made + k + 1) lr3 (by omega) hjl3 (by omega) hk3
 rw [List.append_assoc] at hgrow
 have em : made + ((k + 1 : Nat) : Int) = made + k + 1 := by omega
 refine ⟨k + 1,le_cons rfl (le_cons rfl (le_cons rfl le_nil)),⟨⟨j',nw ++ [(h2.nx,(made + k,1,0,now))],by rw [List.map_append,hnw,newF_succ]; rfl,?_,by rw [em]; exact hgrow,by have := m2.1; omega,?_⟩,by omega⟩,by dsimp only; omega⟩
 case refine_1 =>
  intro q hq
  rcases List.mem_append.1 hq with hq | hq
  ·exact hge q hq
  ·rw [List.mem_singleton] at hq; subst hq; exact m2.1
 refine ⟨by rw [hput_nx]; have := m2.1; omega,fun q q1 q2 q3 q4 => ?_⟩
 have := m2.1
 rw [hput_ne _ _ q2,hk3 q (by omega) (.inl (by omega))]
 simp only [Hp.new,show ¬ q = h2.nx by omega,if_false]
 exact m2.2 q q1 q2 q3 q4
theorem nxF_st (l : List Pd) : ∀ i,0 ≤ nxF l i → (l.getD (nxF l i).toNat p0).2.1 ≠ 3
 | 0,h => by simp [nxF] at h
 | i + 1,h => by
  have ih := nxF_st l i
  simp only [nxF,nxS] at h ⊢
  split
  ·next h3 => rw [if_pos h3] at h; exact ih h
  ·next h3 =>
   split
   ·rw [Int.toNat_natCast]; exact h3
   ·split
    ·rw [Int.toNat_natCast]; exact h3
    ·exact ih (by omega)
theorem nxF_ge (l : List Pd) : ∀ i,(∃ m,m < i ∧ (l.getD m p0).2.1 ≠ 3) → 0 ≤ nxF l i
 | 0,⟨m,h,_⟩ => by omega
 | i + 1,⟨m,h,h2⟩ => by
  simp only [nxF,nxS]
  split
  ·next h3 =>
   refine nxF_ge l i ⟨m,?_,h2⟩
   rcases Nat.lt_or_ge m i with h4 | h4
   ·exact h4
   ·exact absurd h3 (by rw [show i = m by omega]; exact h2)
  ·next h3 =>
   split
   ·omega
   ·split <;> omega
theorem cF_pos (l : List Pd) (h : 0 < cF l) : ∃ m,m < l.length ∧ (l.getD m p0).2.1 ≠ 3 := by
 obtain ⟨p,hp⟩ := List.exists_mem_of_length_pos h
 obtain ⟨h1,h2⟩ := List.mem_filter.1 hp
 obtain ⟨m,hm,rfl⟩ := List.getElem_of_mem h1
 exact ⟨m,hm,by rw [List.getD_eq_getElem?_getD,List.getElem?_eq_getElem hm]; simpa using h2⟩
theorem cF_app2 (l k : List Pd) : cF (l ++ k) = cF l + cF k := by simp [cF]
theorem cF_split (l : List Pd) {k : Nat} (hk : k < l.length) : cF l = cF (l.take k) + cF [l[k]] + cF (l.drop (k + 1)) := by
 rw [← cF_app2,← cF_app2]
 congr 1
 rw [List.append_assoc]
 simp
theorem nx_at (l : List Pd) (h : 0 < cF l) : ∃ (k : Nat) (hk : k < l.length),nxF l l.length = k ∧ (l[k]).2.1 ≠ 3 := by
 have h0 := nxF_ge l l.length (cF_pos l h)
 have h1 := nxF_bd l l.length
 have h2 := nxF_st l l.length h0
 refine ⟨(nxF l l.length).toNat,by omega,by omega,?_⟩
 rwa [List.getD_eq_getElem?_getD,List.getElem?_eq_getElem (by omega)] at h2
theorem dnF_at (now : Int) (l : List Pd) {k : Nat} (hk : k < l.length) (e : nxF l l.length = k) : dnF now l = if (l[k]).2.2.1 = 0 then l.take k ++ l.drop (k + 1) else l.set k ((l[k]).1,3,(l[k]).2.2.1,now) := by
 unfold dnF
 have : l.getD k p0 = l[k] := by rw [List.getD_eq_getElem?_getD,List.getElem?_eq_getElem hk]; rfl
 rw [e,Int.toNat_natCast,this]
theorem dnF_c (now : Int) (l : List Pd) (h : 0 < cF l) : cF (dnF now l) + 1 = cF l := by
 obtain ⟨k,hk,e,h3⟩ := nx_at l h
 have hs := cF_split l hk
 have h1 : cF [l[k]] = 1 := by simp [cF,h3]
 rw [dnF_at now l hk e]
 split
 ·rw [cF_app2]; omega
 ·have hs2 := cF_split (l.set k ((l[k]).1,3,(l[k]).2.2.1,now)) (k := k) (by simpa using hk)
  rw [List.take_set_of_le (by omega),List.drop_set_of_lt (by omega)] at hs2
  have : cF [(l.set k ((l[k]).1,3,(l[k]).2.2.1,now))[k]'(by simpa using hk)] = 0 := by simp [cF]
  omega
theorem dnN_c (now : Int) (l : List Pd) : ∀ k,k ≤ cF l → cF (dnN now l k) + k = cF l
 | 0,_ => rfl
 | k + 1,h => by
  have := dnN_c now l k (by omega)
  have := dnF_c now (dnN now l k) (by omega)
  simp only [dnN]
  omega
theorem dnF_len (now : Int) (l : List Pd) : (dnF now l).length ≤ l.length := by
 unfold dnF
 split
 ·simp; omega
 ·simp
theorem dnN_len (now : Int) (l : List Pd) : ∀ k,(dnN now l k).length ≤ l.length
 | 0 => Nat.le_refl _
 | k + 1 => Nat.le_trans (dnF_len now _) (dnN_len now l k)
theorem ModL.sub {L j : Nat} {ps qs : List (Nat × Pd)} {h h' : Hp} (m : ModL L j ps h h') (hs : ∀ p ∈ ps,∃ q ∈ qs,q.1 = p.1) : ModL L j qs h h' :=
 ⟨m.1,fun k h1 h2 h3 h4 => m.2 k h1 h2 h3 fun p hp => let ⟨q,hq,e⟩ := hs p hp; e ▸ h4 q hq⟩
set_option maxHeartbeats 1000000 in
theorem scale_dn (h : Hp) {L j : Nat} {ps : List (Nat × Pd)} {made now : Int} {w : Nat} (a : LA h L j ps made) (hb : ps.length ≤ 900000) (hc : w ≤ cF (ps.map (·.2))) (hw : w ≤ 100) (hn : 0 ≤ now ∧ now ≤ 1099511627776) :
  ACall PX 24 [ptr L,nI w,nI now] h (fun v h' => v = nI 0 ∧ ∃ ps',ps'.map (·.2) = dnN now (ps.map (·.2)) (cF (ps.map (·.2)) - w) ∧ (∀ p ∈ ps',∃ q ∈ ps,q.1 = p.1) ∧ LA h' L j ps' made ∧ ModL L j ps h h') := by
 refine acallA Tryz.func24 c24 ?_
 unfold ir24
 dsimp only [qo,qm,qk,q2,qi,qg,qn,qc,dq,ci,cb,qh,qs]
 refine ai_seq (ai_reg ?_)
 refine st rfl ?_
 refine ai_seq (ai_block ?_)
 refine ai_seq (ai_reg ?_)
 iterate 3 refine st rfl ?_
 refine ai_cond (b := false) rfl (fun hb => by cases hb) (fun _ => ?_)
 refine ai_seq (ai_reg ?_)
 refine st rfl ?_
 refine st_v (v2 := .bool false) rfl (congrArg Value.bool (by first | (simp; done) | (simp; omega))) ?_
 refine st rfl ?_
 refine stT rfl rfl rfl ?_
 refine stT (v := .bool false) rfl rfl (o_v rfl (congrArg Value.bool (by first | (simp; done) | (simp; omega)))) ?_
 iterate 2 refine st rfl ?_
 refine stT rfl rfl rfl ?_
 refine stT (v := .bool false) rfl rfl (o_v rfl (congrArg Value.bool (by first | (simp; done) | (simp; omega)))) ?_
 iterate 2 refine st rfl ?_
 refine stT rfl rfl rfl ?_
 refine stT (v := .bool false) rfl rfl (o_v rfl (congrArg Value.bool (by first | (simp; done) | (simp; omega)))) ?_
 iterate 2 refine st rfl ?_
 refine ai_cond (b := false) rfl (fun hb => by cases hb) (fun _ => ?_)
 refine ai_skip ?_
 refine ai_join (γ := Unit) (fun _ => [(0,ptr L),(1,nI w),(2,nI now)]) (fun _ h' => Ext h h') ?_ ?_
 ·refine ai_block (ai_loopE (γ := Unit) (fun _ => [(0,ptr L),(1,nI w),(2,nI now)]) (fun _ h' => Ext h h') (fun _ => 0) () (le_cons rfl (le_cons rfl (le_cons rfl le_nil))) (Ext.refl _) ?_)
  rintro _ h2 x2
  refine ai_seq (ai_seq (ai_reg ?_))
  refine st rfl ?_
  refine stC rfl ((count_ok h2 (a.ext x2) (by omega)).mono ?_)
  rintro v h3 ⟨rfl,x3⟩
  refine st rfl ?_
  refine st_v (v2 := .bool false) rfl (congrArg Value.bool (by first | (simp; done) | (simp; omega))) ?_
  refine ai_cond (b := false) rfl (fun hb => by cases hb) (fun _ => ?_)
  refine ai_exit ?_
  exact ⟨rfl,(),le_cons rfl (le_cons rfl (le_cons rfl le_nil)),x2.trans x3⟩
 rintro _ h1 x1
 have a1 := a.ext x1
 refine ai_join (γ := Unit) (fun _ => []) (fun _ h' => ∃ ps',ps'.map (·.2) = dnN now (ps.map (·.2)) (cF (ps.map (·.2)) - w) ∧ (∀ p ∈ ps',∃ q ∈ ps,q.1 = p.1) ∧ LA h' L j ps' made ∧ ModL L j ps h h') ?_ ?_
 case refine_2 =>
  rintro _ h2 hR
  refine ai_seq (ai_reg ?_)
  refine st rfl ?_
  refine ai_ret ?_
  exact end_one rfl ⟨rfl,hR⟩
 refine ai_block (ai_loopE (γ := Nat) (fun _ => [(0,ptr L),(1,nI w),(2,nI now)]) (fun k h' => (∃ ps',ps'.map (·.2) = dnN now (ps.map (·.2)) k ∧ (∀ p ∈ ps',∃ q ∈ ps,q.1 = p.1) ∧ LA h' L j ps' made ∧ ModL L j ps h h') ∧ k + w ≤ cF (ps.map (·.2))) (fun k => cF (ps.map (·.2)) - k) 0
  (le_cons rfl (le_cons rfl (le_cons rfl le_nil))) ⟨⟨ps,rfl,fun p hp => ⟨p,hp,rfl⟩,a1,ModL.of_ext x1⟩,by omega⟩ ?_)
 rintro k h2 ⟨⟨qs,hq,hsub,a2,m2⟩,hk⟩
 have hcn := dnN_c now (ps.map (·.2)) k (by omega)
 have hln := dnN_len now (ps.map (·.2)) k
 rw [← hq] at hcn hln
 simp only [List.length_map] at hln
 refine ai_seq (ai_seq (ai_reg ?_))
 refine st rfl ?_
 refine stC rfl ((count_ok h2 a2 (by omega)).mono ?_)
 rintro v h3 ⟨rfl,x3⟩
 have a3 := a2.ext x3
 have m3 := m2.trans (ModL.of_ext (L := L) (j := j) (ps := ps) x3)
 refine st rfl ?_
 by_cases hlt : w < cF (qs.map (·.2))
 case neg =>
  refine st_v (v2 := .bool false) rfl (congrArg Value.bool (by first | (simp; done) | (simp; omega))) ?_
  refine ai_cond (b := false) rfl (fun hb => by cases hb) (fun _ => ?_)
  refine ai_exit ?_
  exact ⟨rfl,(),le_nil,qs,by rw [hq]; congr 1; omega,hsub,a3,m3⟩
 refine st_v (v2 := .bool true) rfl (congrArg Value.bool (by first | (simp; done) | (simp; omega))) ?_
 refine ai_cond (b := true) rfl (fun _ => ?_) (fun hb => by cases hb)
 refine ai_skip ?_
 refine ai_block ?_
 refine ai_seq (ai_reg ?_)
 refine st rfl ?_
 refine stC rfl ((next_ok h3 a3 (by omega)).mono ?_)
 rintro v h4 ⟨rfl,x4⟩
 have a4 := a3.ext x4
 have m4 := m3.trans (ModL.of_ext (L := L) (j := j) (ps := ps) x4)
 obtain ⟨i,hi,hx,hst⟩ := nx_at (qs.map (·.2)) (by omega)
 have hdn := dnF_at now (qs.map (·.2)) hi hx
 rw [List.length_map] at hx hi
 rw [hx]
 have hu : qs[i]? = some qs[i] := List.getElem?_eq_getElem hi
 rw [List.getElem_map] at hdn
 have hmem : ∃ r ∈ ps,r.1 = qs[i].1 := hsub _ (List.getElem_mem hi)
 generalize qs[i] = p at hu hdn hmem
 refine st rfl ?_
 refine ai_seq (ai_reg ?_)
 iterate 2 refine st rfl ?_
 refine stC rfl ((pod_ok h4 a4 hu).mono ?_)
 rintro v _ ⟨rfl,rfl⟩
 refine st rfl ?_
 refine ai_seq (ai_seq (ai_reg ?_))
 iterate 3 refine st rfl ?_
 refine st_ld rfl (rd_f (x := 2) (a4.cell hu) rfl) ?_
 by_cases hB : p.2.2.2.1 = 0
 ·refine st_v (v2 := .bool true) rfl (congrArg Value.bool (by simp [hB])) ?_
  refine ai_cond (b := true) rfl (fun _ => ?_) (fun hb => by cases hb)
  refine ai_seq (ai_reg ?_)
  obtain ⟨s,hg,hs⟩ := a4.row
  iterate 4 refine st rfl ?_
  refine st_ld rfl (rd_f hg rfl) ?_
  iterate 2 refine st rfl ?_
  refine st_w rfl (by omega) ?_
  refine stC rfl ((delete_ok h4 hs (i := i) (by simpa using hi) (by simpa using by omega)).mono ?_)
  rintro v h5 ⟨lr,hn5,hk5⟩
  iterate 2 refine st rfl ?_
  have hjL := a4.sep hi
  have hg5 := (hk5 L (Ne.symm hjL)).trans hg
  have hone : one v = true ∧ v.cells = #[v] := by rcases lr with ⟨rfl,_⟩ | ⟨_,rfl,_⟩ <;> exact ⟨rfl,rfl⟩
  refine st_st (h' := h5.put L ⟨[v,nI made],true,0⟩) rfl (by rw [hone.2]; rfl) (by rw [hone.2]; exact wr_f hg5 (x := 0) (by simp) hone.1) ?_
  refine ai_exit ?_
  obtain ⟨a6,m6⟩ := a4.del hi lr hn5 hk5
  refine ⟨k + 1,le_cons rfl (le_cons rfl (le_cons rfl le_nil)),⟨⟨_,?_,?_,a6,m4.trans (m6.sub hsub)⟩,by omega⟩,by dsimp only; omega⟩
  ·simp only [dnN]
   rw [← hq,hdn,if_pos hB,List.map_append,List.map_take,List.map_drop]
  ·intro r hr
   rcases List.mem_append.1 hr with hr | hr
   ·exact hsub r (List.mem_of_mem_take hr)
   ·exact hsub r (List.mem_of_mem_drop hr)
 ·refine st_v (v2 := .bool false) rfl (congrArg Value.bool (by simp [hB])) ?_
  refine ai_cond (b := false) rfl (fun hb => by cases hb) (fun _ => ?_)
  refine ai_skip ?_
  refine ai_reg ?_
  iterate 5 refine st rfl ?_
  have hw1 := wr_f (a4.cell hu) (x := 1) (by simp [p4]) (v := nI 3) rfl
  refine st_st (h' := h4.put p.1 ⟨p4 (p.2.1,3,p.2.2.2.1,p.2.2.2.2),true,0⟩) rfl rfl hw1 ?_
  have hP : (h4.put p.1 ⟨p4 (p.2.1,3,p.2.2.2.1,p.2.2.2.2),true,0⟩).get p.1 = some ⟨p4 (p.2.1,3,p.2.2.2.1,p.2.2.2.2),true,0⟩ := hput_same _ _ _
  iterate 2 refine st rfl ?_
  refine st_st (h' := (h4.put p.1 ⟨p4 (p.2.1,3,p.2.2.2.1,p.2.2.2.2),true,0⟩).put p.1 ⟨p4 (p.2.1,3,p.2.2.2.1,now),true,0⟩) rfl rfl (wr_f hP (x := 3) (by simp [p4]) rfl) ?_
  rw [put_put]
  obtain ⟨a6,m6⟩ := a4.set hu (p.2.1,3,p.2.2.2.1,now)
  refine ⟨k + 1,le_cons rfl (le_cons rfl (le_cons rfl le_nil)),⟨⟨_,?_,?_,a6,m4.trans (m6.sub hsub)⟩,by omega⟩,by dsimp only; omega⟩
  ·simp only [dnN]
   rw [← hq,hdn,if_neg hB,List.map_set]
  ·intro r hr
   rcases List.mem_or_eq_of_mem_set hr with hr | rfl
   ·exact hsub r hr
   ·exact hmem
def LF (h : Hp) (S : List Nat) (L : Nat) (l : List Pd) (made : Int) : Prop := ∃ j ps,LA h L j ps made ∧ ps.map (·.2) = l ∧ S = L :: j :: ps.map (·.1)
def Fr (S : List Nat) (h h' : Hp) : Prop := h.nx ≤ h'.nx ∧ ∀ k,k < h.nx → k ∉ S → h'.get k = h.get k
def Gr (h : Hp) (S S' : List Nat) : Prop := ∀ k,k ∈ S' → k ∈ S ∨ h.nx ≤ k
theorem Gr.refl (h : Hp) (S : List Nat) : Gr h S S := fun _ hk => .inl hk
theorem Fr.of_ext {S : List Nat} {h h' : Hp} (x : Ext h h') : Fr S h h' := ⟨x.1,fun k hk _ => x.2 k hk⟩
theorem Fr.of_mod {L j : Nat} {ps : List (Nat × Pd)} {h h' : Hp} (m : ModL L j ps h h') : Fr (L :: j :: ps.map (·.1)) h h' :=
 ⟨m.1,fun k hk hn => m.2 k hk (fun e => hn (by simp [e])) (fun e => hn (by simp [e])) fun p hp e => hn (by rw [e]; exact List.mem_cons_of_mem _ (List.mem_cons_of_mem _ (List.mem_map_of_mem hp)))⟩
theorem LF.lt {h : Hp} {S : List Nat} {L : Nat} {l : List Pd} {made : Int} (a : LF h S L l made) : ∀ k ∈ S,k < h.nx := by
 obtain ⟨j,ps,a,_,rfl⟩ := a
 intro k hk
 rcases List.mem_cons.1 hk with rfl | hk
 ·exact a.ll
 ·rcases List.mem_cons.1 hk with rfl | hk
  ·exact a.jl
  ·obtain ⟨p,hp,rfl⟩ := List.mem_map.1 hk
   exact (a.pods p hp).2.1
theorem LF.keep {h h' : Hp} {S : List Nat} {L : Nat} {l : List Pd} {made : Int} (a : LF h S L l made) (hn : h.nx ≤ h'.nx) (hk : ∀ k ∈ S,h'.get k = h.get k) : LF h' S L l made := by
 obtain ⟨j,ps,⟨hL,hj,⟨s,hg,hs⟩,hp,hnd⟩,hl,rfl⟩ := a
 exact ⟨j,ps,⟨by omega,by omega,⟨s,(hk L (by simp)).trans hg,hs.keep fun _ => hk j (by simp)⟩,fun p hp' => ⟨(hk p.1 (List.mem_cons_of_mem _ (List.mem_cons_of_mem _ (List.mem_map_of_mem hp')))).trans (hp p hp').1,by have := (hp p hp').2.1; omega,(hp p hp').2.2⟩,hnd⟩,hl,rfl⟩
theorem new_lf (h : Hp) : ACall PX 19 [] h (fun v h' => v = ptr h.nx ∧ LF h' [h.nx,h.nx] h.nx [] 0 ∧ Ext h h') :=
 (lnew_ok h).mono fun _ _ ⟨h1,h2,h3⟩ => ⟨h1,⟨_,[],h2,rfl,rfl⟩,h3⟩
theorem all_lf (h : Hp) {S : List Nat} {L : Nat} {l : List Pd} {made : Int} (a : LF h S L l made) (hb : l.length ≤ 900000) : ACall PX 34 [ptr L] h (fun v h' => A4 h.nx h' v l ∧ Ext h h') := by
 obtain ⟨j,ps,a,rfl,rfl⟩ := a
 exact (lall_ok h a (by simp at hb; omega)).mono fun _ _ ⟨h1,h2⟩ => ⟨h2,h1⟩
theorem count_lf (h : Hp) {S : List Nat} {L : Nat} {l : List Pd} {made : Int} (a : LF h S L l made) (hb : l.length ≤ 900000) : ACall PX 47 [ptr L] h (fun v h' => v = nI (cF l) ∧ Ext h h') := by
 obtain ⟨j,ps,a,rfl,rfl⟩ := a
 exact count_ok h a (by simp at hb; omega)
theorem ready_lf (h : Hp) {S : List Nat} {L : Nat} {l : List Pd} {made : Int} (a : LF h S L l made) (hb : l.length ≤ 900000) : ACall PX 66 [ptr L] h (fun v h' => Ow h.nx h' v ((rF l).map nI) ∧ Ext h h') := by
 obtain ⟨j,ps,a,rfl,rfl⟩ := a
 exact (ready_ok h a (by simp at hb; omega)).mono fun _ _ ⟨h1,h2⟩ => ⟨h2,h1⟩
theorem scale_lf (h : Hp) {S : List Nat} {L : Nat} {l : List Pd} {made now w : Int} (a : LF h S L l made) (hb : l.length ≤ 900000) (hw : 0 ≤ w ∧ w ≤ 100) (hm : 0 ≤ made ∧ made ≤ 1000000000000000) (hn : 0 ≤ now ∧ now ≤ 1099511627776) :
  ACall PX 24 [ptr L,nI w,nI now] h (fun v h' => v = nI 0 ∧ ∃ S',LF h' S' L (scL made now w.toNat l) (scM made w.toNat l) ∧ Gr h S S' ∧ Fr S h h') := by
 obtain ⟨j,ps,a,rfl,rfl⟩ := a
 obtain ⟨w,rfl⟩ : ∃ u : Nat,w = u := ⟨w.toNat,by omega⟩
 rw [List.length_map] at hb
 simp only [Int.toNat_natCast]
 unfold scL scM
 by_cases hc : cF (ps.map (·.2)) ≤ w
 ·have := scale_up h a hb (d := w - cF (ps.map (·.2))) (by omega) hm hn
  rw [show cF (ps.map (·.2)) + (w - cF (ps.map (·.2))) = w by omega] at this
  refine this.mono ?_
  rintro v h' ⟨rfl,j',nw,hnw,hge,a',hj,m⟩
  rw [if_pos hc]
  refine ⟨rfl,_,⟨j',_,a',by rw [List.map_append,hnw],rfl⟩,?_,.of_mod m⟩
  intro k hk
  simp only [List.mem_cons,List.map_append,List.mem_append] at hk ⊢
  rcases hk with rfl | rfl | hk | hk
  ·exact .inl (.inl rfl)
  ·rcases hj with rfl | hj
   ·exact .inl (.inr (.inl rfl))
   ·exact .inr hj
  ·exact .inl (.inr (.inr hk))
  ·obtain ⟨p,hp,rfl⟩ := List.mem_map.1 hk
   exact .inr (hge p hp)
 ·refine (scale_dn h a hb (w := w) (by omega) (by omega) hn).mono ?_
  rintro v h' ⟨rfl,ps',hps,hsub,a',m⟩
  rw [if_neg hc,show w - cF (ps.map (·.2)) = 0 by omega]
  refine ⟨rfl,_,⟨j,ps',by simpa using a',hps,rfl⟩,?_,.of_mod m⟩
  intro k hk
  refine .inl ?_
  simp only [List.mem_cons,List.mem_map] at hk ⊢
  rcases hk with rfl | rfl | ⟨p,hp,rfl⟩
  ·exact .inl rfl
  ·exact .inr (.inl rfl)
  ·obtain ⟨q,hq,e⟩ := hsub p hp
   exact .inr (.inr ⟨q,hq,e⟩)
theorem ripe_lf (h : Hp) {S : List Nat} {L : Nat} {l : List Pd} {made now after : Int} (a : LF h S L l made) (hb : l.length ≤ 900000) (h0 : 0 ≤ after) (h1 : after ≤ 100) (hs : ∀ p ∈ l,0 ≤ p.2.2.2 ∧ p.2.2.2 ≤ 1099511627776) :
  ACall PX 25 [ptr L,nI now,nI after] h (fun _ h' => LF h' S L (l.map (rpF now after)) made ∧ Fr S h h') := by
 obtain ⟨j,ps,a,rfl,rfl⟩ := a
 refine (ripe_ok h a (by simp at hb; omega) h0 h1 fun p hp => hs _ (List.mem_map_of_mem hp)).mono fun _ h' ⟨a',m⟩ => ⟨⟨j,_,a',by simp,by simp⟩,.of_mod m⟩
theorem fI_map (ps : List (Nat × Pd)) (id : Int) : ps.findIdx (fun p => decide (p.2.1 = id)) = fI (ps.map (·.2)) id := by
 unfold fI
 rw [List.findIdx_map]
 rfl
theorem getD_map {ps : List (Nat × Pd)} {k : Nat} (hk : k < ps.length) : (ps.map (·.2)).getD k p0 = ps[k].2 := by
 rw [List.getD_eq_getElem?_getD,List.getElem?_map,List.getElem?_eq_getElem hk]
 rfl
theorem getD_out {l : List Pd} {k : Nat} (hk : l.length ≤ k) : l.getD k p0 = p0 := by
 rw [List.getD_eq_getElem?_getD,List.getElem?_eq_none hk]
 rfl
theorem ixF_lf (ps : List (Nat × Pd)) (id : Int) : (ixF ps id = -1 ∧ (ps.map (·.2)).getD (fI (ps.map (·.2)) id) p0 = p0) ∨ ∃ p,ixF ps id = (fI (ps.map (·.2)) id : Nat) ∧ ps[fI (ps.map (·.2)) id]? = some p ∧ (ps.map (·.2)).getD (fI (ps.map (·.2)) id) p0 = p.2 := by
 unfold ixF
 rw [fI_map]
 split
 ·next hlt => exact .inr ⟨_,rfl,List.getElem?_eq_getElem hlt,getD_map hlt⟩
 ·next hlt => exact .inl ⟨rfl,getD_out (by simp; omega)⟩
theorem set_fst {ps : List (Nat × Pd)} {k : Nat} {p : Nat × Pd} (e : ps[k]? = some p) (v : Pd) : (ps.set k (p.1,v)).map (·.1) = ps.map (·.1) := by
 obtain ⟨hk,rfl⟩ := List.getElem?_eq_some_iff.1 e
 rw [List.map_set]
 refine List.ext_getElem (by simp) fun i h1 h2 => ?_
 rw [List.getElem_set]
 split
 ·next h => subst h; simp
 ·rfl
theorem enter_lf (h : Hp) {S : List Nat} {L : Nat} {l : List Pd} {made id : Int} (a : LF h S L l made) (hb : l.length ≤ 900000) (hB : ∀ p ∈ l,0 ≤ p.2.2.1 ∧ p.2.2.1 ≤ 1000000) :
  ACall PX 84 [ptr L,nI id] h (fun v h' => v = nI (enF l id).2 ∧ LF h' S L (enF l id).1 made ∧ Fr S h h') := by
 obtain ⟨j,ps,a,rfl,rfl⟩ := a
 rw [List.length_map] at hb
 unfold enF
 rcases ixF_lf ps id with ⟨e1,e2⟩ | ⟨p,e1,e2,e3⟩
 ·rw [e2,if_neg (by decide)]
  exact (enter_no h a (by omega) (.inl e1)).mono fun v h' ⟨e,x⟩ => ⟨e,⟨j,ps,a.ext x,rfl,rfl⟩,.of_ext x⟩
 ·rw [e3]
  by_cases hs : p.2.2.1 = 2
  ·rw [if_pos hs]
   have hp := hB p.2 (List.mem_map_of_mem (List.mem_of_getElem? e2))
   refine (enter_ok h a (by omega) e1 e2 hs hp).mono fun v h' ⟨e,a',m⟩ => ⟨e,⟨j,_,a',?_,?_⟩,.of_mod m⟩
   ·rw [List.map_set,hs]
   ·rw [set_fst e2]
  ·rw [if_neg hs]
   exact (enter_no h a (by omega) (.inr ⟨_,p,e1,e2,hs⟩)).mono fun v h' ⟨e,x⟩ => ⟨e,⟨j,ps,a.ext x,rfl,rfl⟩,.of_ext x⟩
theorem sub_fst {ps : List (Nat × Pd)} {k : Nat} {h : Hp} {L j : Nat} : Gr h (L :: j :: ps.map (·.1)) (L :: j :: (ps.take k ++ ps.drop (k + 1)).map (·.1)) := by
 intro x hx
 refine .inl ?_
 simp only [List.mem_cons,List.map_append,List.mem_append,List.map_take,List.map_drop] at hx ⊢
 rcases hx with rfl | rfl | hx | hx
 ·exact .inl rfl
 ·exact .inr (.inl rfl)
 ·exact .inr (.inr (List.mem_of_mem_take hx))
 ·exact .inr (.inr (List.mem_of_mem_drop hx))
theorem leave_lf (h : Hp) {S : List Nat} {L : Nat} {l : List Pd} {made id : Int} (a : LF h S L l made) (hb : l.length ≤ 900000) (hB : ∀ p ∈ l,0 ≤ p.2.2.1 ∧ p.2.2.1 ≤ 1000000) :
  ACall PX 58 [ptr L,nI id] h (fun v h' => v = nI (lvF l id).2 ∧ ∃ S',LF h' S' L (lvF l id).1 made ∧ Gr h S S' ∧ Fr S h h') := by
 obtain ⟨j,ps,a,rfl,rfl⟩ := a
 rw [List.length_map] at hb
 unfold lvF
 rcases ixF_lf ps id with ⟨e1,e2⟩ | ⟨p,e1,e2,e3⟩
 ·rw [e2,if_pos rfl]
  exact (leave_no h a (by omega) (.inl e1)).mono fun v h' ⟨e,x⟩ => ⟨e,_,⟨j,ps,a.ext x,rfl,rfl⟩,.refl _ _,.of_ext x⟩
 ·rw [e3]
  by_cases hs : p.2.2.2.1 = 0
  ·rw [if_pos hs]
   exact (leave_no h a (by omega) (.inr ⟨_,p,e1,e2,hs⟩)).mono fun v h' ⟨e,x⟩ => ⟨e,_,⟨j,ps,a.ext x,rfl,rfl⟩,.refl _ _,.of_ext x⟩
  ·rw [if_neg hs]
   have hp := hB p.2 (List.mem_map_of_mem (List.mem_of_getElem? e2))
   refine (leave_ok h a (by omega) e1 e2 ⟨by omega,hp.2⟩).mono ?_
   rintro v h' ⟨e,a',m⟩
   by_cases hd : p.2.2.2.1 = 1 ∧ p.2.2.1 = 3
   ·rw [if_pos hd] at a' ⊢
    exact ⟨e,_,⟨j,_,a',by rw [List.map_append,List.map_take,List.map_drop],rfl⟩,sub_fst,.of_mod m⟩
   ·rw [if_neg hd] at a' ⊢
    exact ⟨e,_,⟨j,_,a',by rw [List.map_set],rfl⟩,by rw [set_fst e2]; exact .refl _ _,.of_mod m⟩
theorem crash_lf (h : Hp) {S : List Nat} {L : Nat} {l : List Pd} {made : Int} {k : Nat} {p : Pd} (a : LF h S L l made) (hb : l.length ≤ 900000) (hk : l[k]? = some p) :
  ACall PX 59 [ptr L,nI k] h (fun v h' => v = .tuple #[.agg ⟨p4 p⟩,nI 0] ∧ ∃ S',LF h' S' L (l.take k ++ l.drop (k + 1)) made ∧ Gr h S S' ∧ Fr S h h') := by
 obtain ⟨j,ps,a,rfl,rfl⟩ := a
 rw [List.length_map] at hb
 rw [List.getElem?_map] at hk
 cases hq : ps[k]? with
 | none => rw [hq] at hk; cases hk
 | some q =>
  rw [hq] at hk
  cases hk
  exact (crash_ok h a (by omega) hq).mono fun v h' ⟨e,a',m⟩ => ⟨e,_,⟨j,_,a',by rw [List.map_append,List.map_take,List.map_drop],rfl⟩,sub_fst,.of_mod m⟩
theorem crash_out (h : Hp) {S : List Nat} {L : Nat} {l : List Pd} {made k : Int} (a : LF h S L l made) (hk : k < 0 ∨ (l.length : Int) ≤ k) :
  ACall PX 59 [ptr L,nI k] h (fun v h' => v = .tuple #[.agg ⟨p4 (0,0,0,0)⟩,nI 7] ∧ LF h' S L l made ∧ Fr S h h') := by
 obtain ⟨j,ps,a,rfl,rfl⟩ := a
 exact (crash_no h a (by simpa using hk)).mono fun v h' ⟨e,x⟩ => ⟨e,⟨j,ps,a.ext x,rfl,rfl⟩,.of_ext x⟩
def qE (p : Int × Int) : Value := .iface 119 (.agg #[nI p.1,nI p.2])
def QS (h : Hp) (q j : Nat) (s : Value) (us : List Value) : Prop :=
 (s = .slice none 0 0 ∧ us = []) ∨ ∃ xs sp,s = .slice (some ⟨j,xs.length,some sp⟩) us.length us.length ∧ h.get j = some ⟨xs ++ us,true,1⟩ ∧ (us ≠ [] → sp = 0) ∧ (xs ++ us).all one = true ∧ j ≠ q
structure QA (h : Hp) (q j : Nat) (depth last : Int) (l : List (Int × Int)) : Prop where
 ql : q < h.nx
 jl : j < h.nx
 ex : ∃ s,h.get q = some ⟨[s,nI depth,nI last],true,0⟩ ∧ QS h q j s (l.map qE)
theorem QS.push {h : Hp} {q j e bytes : Nat} {s : Value} {us : List Value} (a : QS h q j s us) (hj : j < h.nx) (hq : q < h.nx) {u : Value} (hu : one u = true) (hb : us.length ≤ 1000) (hby : bytes ≤ 100) :
  ∃ s' h2,stepK (.app e 1 bytes) [s,.slice (some ⟨h.nx,0,none⟩) 1 1] (h.new ⟨[u],true,1⟩) = some (s',h2) ∧ QS h2 q (h.nx + 1) s' (us ++ [u]) ∧ h2.nx = h.nx + 2 ∧ ∀ k,k < h.nx → (k ≠ j ∨ j = q) → h2.get k = h.get k := by
 have hrd : rdS (h.new ⟨[u],true,1⟩) (some ⟨h.nx,0,none⟩) (1 * 1) = some [u] := by
  simp [rdS,Hp.rd,Hp.new]
 have hall : [u].all one = true := by simp [hu]
 rcases a with ⟨rfl,rfl⟩ | ⟨xs,sp,rfl,hg,hsp,hal,hjq⟩
 ·refine ⟨.slice (some ⟨h.nx + 1,0,some 0⟩) 1 1,(h.new ⟨[u],true,1⟩).new ⟨[u],true,1⟩,?_,.inr ⟨[],0,rfl,?_,fun _ => rfl,hall,by omega⟩,by simp [Hp.new],?_⟩
  ·simp only [stepK,hrd]
   have : bytes ≤ 140737488355328 := by omega
   simp [appA,hu,Hp.new,this]
  ·simp [Hp.new]
  ·intro k hk _
   have e1 : ¬ k = h.nx + 1 := by omega
   have e3 : ¬ k = h.nx := by omega
   simp only [Hp.new,e1,e3,if_false]
 ·have hne : j ≠ h.nx := by omega
  have hg2 : (h.new ⟨[u],true,1⟩).get j = some ⟨xs ++ us,true,1⟩ := by simp [Hp.new,hne,hg]
  have hold : (if us.length = 0 then some [] else (h.new ⟨[u],true,1⟩).rd j xs.length (us.length * 1)) = some us := by
   split
   ·next hz => rw [List.eq_nil_of_length_eq_zero hz]
   ·simp [Hp.rd,hg2]
  simp only [List.all_append,Bool.and_eq_true] at hal
  refine ⟨.slice (some ⟨h.nx + 1,0,some 0⟩) (us.length + 1) (us.length + 1),(((h.new ⟨[u],true,1⟩)).del j).new ⟨us ++ [u],true,1⟩,?_,.inr ⟨[],0,by simp,?_,fun _ => rfl,by simp [hu,hal.2],by omega⟩,by simp [Hp.new,Hp.del],?_⟩
  ·simp only [stepK,hrd]
   simp only [appA]
   rw [if_pos ⟨by simp,hall,by omega,Nat.le_trans (Nat.mul_le_mul (show us.length + 1 ≤ 1001 by omega) hby) (by omega),by omega⟩]
   simp only [Nat.one_ne_zero,if_false,show ¬ (us.length + 1 ≤ us.length) by omega,hold,hg2]
   simp [hal.2,Hp.del,Hp.new]
  ·simp [Hp.new,Hp.del]
  ·intro k hk hkj
   have e1 : ¬ k = h.nx + 1 := by omega
   have e2 : ¬ k = j := by omega
   have e3 : ¬ k = h.nx := by omega
   simp only [Hp.new,Hp.del,e1,e2,e3,if_false]
theorem new_ok {d : Int} (h : Hp) (hd : 0 ≤ d) (hd2 : d ≤ 200) : ACall PX 20 [nI d] h (fun v h' => v = ptr h.nx ∧ QA h' h.nx h.nx d (-9223372036854775808) [] ∧ Ext h h') := by
 refine acallA Tryz.func20 c20 ?_
 unfold ir20
 dsimp only [qo,qm,qk,q2,qi,qg,qn,qc,dq,ci,cb,qh,qs]
 refine ai_seq (ai_reg ?_)
 refine st rfl ?_
 refine ai_seq (ai_seq (ai_reg ?_))
 refine st rfl ?_
 refine st_v (v2 := .bool false) rfl (congrArg Value.bool (by simp; omega)) ?_
 refine st rfl ?_
 refine stT rfl rfl rfl ?_
 refine stT (v := .bool false) rfl rfl (o_v rfl (congrArg Value.bool (by simp; omega))) ?_
 refine st rfl ?_
 refine ai_cond (b := false) rfl (fun hb => by cases hb) fun _ => ai_skip ?_
 refine ai_seq (ai_reg ?_)
 refine st rfl ?_
 refine st (v := .agg #[.slice none 0 0,nI d,nI (-9223372036854775808)]) (h' := h) rfl ?_
 refine st (v := ptr h.nx) (h' := h.new ⟨[.slice none 0 0,nI d,nI (-9223372036854775808)],true,0⟩) rfl ?_
 refine st rfl ?_
 refine ai_ret ?_
 exact end_one rfl ⟨rfl,⟨by simp [Hp.new],by simp [Hp.new],_,by simp [Hp.new],.inl ⟨rfl,rfl⟩⟩,Ext.new _ _⟩
theorem QA.f2 {h : Hp} {q j : Nat} {depth last : Int} {l : List (Int × Int)} (a : QA h q j depth last l) : h.rd q (0 + 2) 1 = some [nI last] := by
 obtain ⟨_,_,s,hg,_⟩ := a
 exact rd_f hg rfl
theorem put_full {h : Hp} {q j : Nat} {depth last : Int} {l : List (Int × Int)} (a : QA h q j depth last l) {id t : Int} (h0 : 0 ≤ id) (h1 : last ≤ t) (hf : depth ≤ l.length) : ACall PX 54 [ptr q,nI id,nI t] h (fun v h' => v = nI 6 ∧ h = h') := by
 refine acallA Tryz.func54 c54 ?_
 unfold ir54
 dsimp only [qo,qm,qk,q2,qi,qg,qn,qc,dq,ci,cb,qh,qs]
 refine ai_seq (ai_reg ?_)
 refine st rfl ?_
 refine ai_seq (ai_block ?_)
 refine ai_seq (ai_reg ?_)
 iterate 3 refine st rfl ?_
 refine ai_cond (b := false) rfl (fun hb => by cases hb) (fun _ => ?_)
 refine ai_seq (ai_reg ?_)
 refine st rfl ?_
 refine st_v (v2 := .bool false) rfl (congrArg Value.bool (by simp; omega)) ?_
 refine st rfl ?_
 iterate 4 refine stT rfl rfl rfl ?_
 refine stT rfl rfl (o_ld rfl a.f2) ?_
 refine stT (v := .bool false) rfl rfl (o_v rfl (congrArg Value.bool (by simp; omega))) ?_
 iterate 2 refine st rfl ?_
 refine ai_cond (b := false) rfl (fun hb => by cases hb) (fun _ => ?_)
 refine ai_seq (ai_drw (by kernel_rfl) ?_)
 obtain ⟨hq,hj,s,hg,hs⟩ := a
 iterate 3 refine dr rfl ?_
 refine dr (o_ld rfl (rd_f hg rfl)) ?_
 refine dr (v := nI l.length) (h' := h) (by rcases hs with ⟨rfl,hn⟩ | ⟨xs,sp,rfl,_⟩ <;> simp_all [opS,mapE,evA,Env.get,Env.put,stepK]) ?_
 iterate 3 refine dr rfl ?_
 refine dr (o_ld rfl (rd_f hg rfl)) ?_
 refine dr (v := .bool true) (o_v rfl (congrArg Value.bool (by simp; omega))) ?_
 refine dr rfl ?_
 refine ai_cond (b := true) rfl (fun _ => ?_) (fun hb => by cases hb)
 refine ai_seq (ai_reg ?_)
 refine st rfl ?_
 refine ai_ret ?_
 simp only [thenQ_r,blockQ_r]
 exact end_one rfl ⟨rfl,rfl⟩
theorem put_ok {h : Hp} {q j : Nat} {depth last : Int} {l : List (Int × Int)} (a : QA h q j depth last l) {id t : Int} (h0 : 0 ≤ id) (h1 : last ≤ t) (hf : (l.length : Int) < depth) (hb : l.length ≤ 1000) :
  ACall PX 54 [ptr q,nI id,nI t] h (fun v h' => v = nI 0 ∧ ∃ j',QA h' q j' depth t (l ++ [(id,t)]) ∧ Mod q j h h' ∧ h.nx ≤ j') := by
 refine acallA Tryz.func54 c54 ?_
 unfold ir54
 dsimp only [qo,qm,qk,q2,qi,qg,qn,qc,dq,ci,cb,qh,qs]
 refine ai_seq (ai_reg ?_)
 refine st rfl ?_
 refine ai_seq (ai_block ?_)
 refine ai_seq (ai_reg ?_)
 iterate 3 refine st rfl ?_
 refine ai_cond (b := false) rfl (fun hb => by cases hb) (fun _ => ?_)
 refine ai_seq (ai_reg ?_)
 refine st rfl ?_
 refine st_v (v2 := .bool false) rfl (congrArg Value.bool (by simp; omega)) ?_
 refine st rfl ?_
 iterate 4 refine stT rfl rfl rfl ?_
 refine stT rfl rfl (o_ld rfl a.f2) ?_
 refine stT (v := .bool false) rfl rfl (o_v rfl (congrArg Value.bool (by simp; omega))) ?_
 iterate 2 refine st rfl ?_
 refine ai_cond (b := false) rfl (fun hb => by cases hb) (fun _ => ?_)
 refine ai_seq (ai_drw (by kernel_rfl) ?_)
 obtain ⟨hq,hj,s,hg,hs⟩ := a
 iterate 3 refine dr rfl ?_
 refine dr (o_ld rfl (rd_f hg rfl)) ?_
 refine dr (v := nI l.length) (h' := h) (by rcases hs with ⟨rfl,hn⟩ | ⟨xs,sp,rfl,_⟩ <;> simp_all [opS,mapE,evA,Env.get,Env.put,stepK]) ?_
 iterate 3 refine dr rfl ?_
 refine dr (o_ld rfl (rd_f hg rfl)) ?_
 refine dr (v := .bool false) (o_v rfl (congrArg Value.bool (by simp; omega))) ?_
 refine dr rfl ?_
 refine ai_cond (b := false) rfl (fun hb => by cases hb) (fun _ => ai_skip ?_)
 refine ai_seq (ai_reg ?_)
 iterate 4 refine st rfl ?_
 refine st_st rfl rfl (wr_f hg (by simp) rfl) ?_
 have hg1 : (h.put q ⟨[s,nI depth,nI t],true,0⟩).get q = some ⟨[s,nI depth,nI t],true,0⟩ := hput_same _ _ _
 have hs1 : QS (h.put q ⟨[s,nI depth,nI t],true,0⟩) q j s (l.map qE) := by
  rcases hs with hs | ⟨xs,sp,e1,e2,e3,e4,e5⟩
  ·exact .inl hs
  ·exact .inr ⟨xs,sp,e1,(hput_ne _ _ e5).trans e2,e3,e4,e5⟩
 refine ai_seq (ai_reg ?_)
 iterate 4 refine st rfl ?_
 refine st_ld rfl (rd_f hg1 rfl) ?_
 iterate 2 refine st rfl ?_
 refine st (v := .agg #[nI id,nI t]) (h' := h.put q ⟨[s,nI depth,nI t],true,0⟩) rfl ?_
 refine st (v := qE (id,t)) rfl ?_
 refine st (v := .slice (some ⟨(h.put q ⟨[s,nI depth,nI t],true,0⟩).nx,0,none⟩) 1 1) (h' := (h.put q ⟨[s,nI depth,nI t],true,0⟩).new ⟨[qE (id,t)],true,1⟩) rfl ?_
 obtain ⟨s',h2,hst,hs2,hnx,hk⟩ := hs1.push hj hq (u := qE (id,t)) rfl (by simpa using hb) (e := 20) (bytes := 16) (by omega)
 refine st (v := s') (h' := h2) hst ?_
 iterate 2 refine st rfl ?_
 have hg2 : h2.get q = some ⟨[s,nI depth,nI t],true,0⟩ := by
  refine (hk q hq ?_).trans hg1
  by_cases e : q = j
  ·exact .inr e.symm
  ·exact .inl e
 have hone : one s' = true := by
  rcases hs2 with ⟨rfl,_⟩ | ⟨_,_,rfl,_⟩ <;> rfl
 have hcell : s'.cells = #[s'] := by
  rcases hs2 with ⟨rfl,_⟩ | ⟨_,_,rfl,_⟩ <;> rfl
 refine st_st (h' := h2.put q ⟨[s',nI depth,nI t],true,0⟩) rfl (by rw [hcell]; rfl) (by rw [hcell]; exact wr_f hg2 (by simp) hone) ?_
 refine ai_seq (ai_reg ?_)
 refine st rfl ?_
 refine ai_ret ?_
 rw [hput_nx] at hs2 hnx hk
 refine end_one rfl ⟨rfl,h.nx + 1,⟨by rw [hput_nx]; omega,by rw [hput_nx]; omega,s',hput_same _ _ _,?_⟩,⟨by rw [hput_nx]; omega,?_⟩,by omega⟩
 ·rw [List.map_append]
  rcases hs2 with hs2 | ⟨xs,sp,e1,e2,e3,e4,e5⟩
  ·exact .inl hs2
  ·exact .inr ⟨xs,sp,e1,(hput_ne _ _ e5).trans e2,e3,e4,e5⟩
 ·intro k hk1 hk2 hk3
  rw [hput_ne _ _ hk2,hk k hk1 (.inl hk3),hput_ne _ _ hk2]
theorem slc_one {j o n : Nat} {h : Hp} : stepK (.slc 1 true false false) [.slice (some ⟨j,o,some 0⟩) (n + 1) (n + 1),.int .i64 1] h = some (.slice (some ⟨j,o + 1,some (if n = 0 then 1 else 0)⟩) n n,h) := by
 have h1 : (1 : Int) ≤ (n : Int) + 1 := by omega
 have h2 : (n : Int) + 1 ≤ (n : Int) + 1 := by omega
 by_cases hn : n = 0
 ·subst hn; rfl
 ·have e : ¬ n + 1 = 1 := by omega
  simp [stepK,get3,takeB,sliceA,bounds,bnd,hn,h1]
theorem take_ok (h : Hp) {q j : Nat} {depth last : Int} {p : Int × Int} {l : List (Int × Int)} (a : QA h q j depth last (p :: l)) : ACall PX 83 [ptr q] h (fun v h' => v = .tuple #[nI p.1,.bool true] ∧ QA h' q j depth last l ∧ Mod q j h h') := by
 obtain ⟨hq,hj,s,hg,hs⟩ := a
 obtain ⟨_,hs⟩ | ⟨xs,sp,rfl,hgj,hsp,hal,hjq⟩ := hs
 ·cases hs
 obtain rfl := hsp (by simp)
 rw [List.map_cons,List.length_cons] at hg
 refine acallA Tryz.func83 c83 ?_
 unfold ir83
 dsimp only [qo,qm,qk,q2,qi,qg,qn,qc,dq,ci,cb,qh,qs]
 refine ai_seq (ai_reg ?_)
 iterate 2 refine st rfl ?_
 refine ai_seq (ai_seq (ai_reg ?_))
 iterate 3 refine st rfl ?_
 iterate 3 refine stT rfl rfl rfl ?_
 refine stT rfl rfl (o_ld rfl (rd_f hg rfl)) ?_
 refine stT rfl rfl rfl ?_
 refine stT (v := .bool false) rfl rfl (o_v rfl (congrArg Value.bool (by simp; omega))) ?_
 refine st rfl ?_
 refine ai_cond (b := false) rfl (fun hb => by cases hb) (fun _ => ai_skip ?_)
 refine ai_seq (ai_reg ?_)
 iterate 3 refine st rfl ?_
 refine st_ld rfl (rd_f hg rfl) ?_
 refine st_iad rfl (by omega) ?_
 refine st_ld rfl (rd_app hgj (x := 0) (v := qE p) rfl) ?_
 refine st (v := .tuple #[.agg #[nI p.1,nI p.2],.bool true]) rfl ?_
 iterate 3 refine st rfl ?_
 have hgq : (h.new ⟨[nI 0,nI 0],true,0⟩).get q = some ⟨[.slice (some ⟨j,xs.length,some 0⟩) ((l.map qE).length + 1) ((l.map qE).length + 1),nI depth,nI last],true,0⟩ := by simp [Hp.new,hg,show q ≠ h.nx by omega]
 have hgx : (h.new ⟨[nI 0,nI 0],true,0⟩).get h.nx = some ⟨[nI 0,nI 0],true,0⟩ := by simp [Hp.new]
 refine st (v := ptr h.nx) (h' := h.new ⟨[nI 0,nI 0],true,0⟩) rfl ?_
 refine st_st (h' := (h.new ⟨[nI 0,nI 0],true,0⟩).put h.nx ⟨[nI p.1,nI p.2],true,0⟩) rfl rfl ?_ ?_
 ·unfold Hp.wr
  rw [hgx]
  rfl
 generalize hh1 : (h.new ⟨[nI 0,nI 0],true,0⟩).put h.nx ⟨[nI p.1,nI p.2],true,0⟩ = h1
 have hq1 : h1.get q = some ⟨[.slice (some ⟨j,xs.length,some 0⟩) ((l.map qE).length + 1) ((l.map qE).length + 1),nI depth,nI last],true,0⟩ := by
  rw [← hh1,hput_ne _ _ (by omega)]; exact hgq
 have hx1 : h1.get h.nx = some ⟨[nI p.1,nI p.2],true,0⟩ := by rw [← hh1,hput_same]
 have hk1 : ∀ k,k < h.nx → h1.get k = h.get k := by
  intro k hk
  rw [← hh1,hput_ne _ _ (by omega)]
  simp [Hp.new,show k ≠ h.nx by omega]
 have hn1 : h1.nx = h.nx + 1 := by rw [← hh1]; rfl
 refine st rfl ?_
 refine ai_seq (ai_reg ?_)
 iterate 4 refine st rfl ?_
 refine st_ld rfl (rd_f hq1 rfl) ?_
 refine st slc_one ?_
 iterate 2 refine st rfl ?_
 refine st_st rfl rfl (wr_f hq1 (by simp) rfl) ?_
 refine ai_seq (ai_reg ?_)
 refine st rfl ?_
 refine st_ld rfl (rd_f (x := 0) (v := nI p.1) (by rw [hput_ne _ _ (by omega)]; exact hx1) rfl) ?_
 iterate 3 refine st rfl ?_
 refine ai_ret ?_
 refine end_two rfl rfl ⟨rfl,⟨by rw [hput_nx]; omega,by rw [hput_nx]; omega,_,hput_same _ _ _,.inr ⟨xs ++ [qE p],if (l.map qE).length = 0 then 1 else 0,by simp,?_,?_,by simpa using hal,hjq⟩⟩,⟨by rw [hput_nx]; omega,?_⟩⟩
 ·rw [hput_ne _ _ hjq,hk1 j hj,hgj]
  simp
 ·intro hne
  rw [if_neg fun h => hne (List.eq_nil_of_length_eq_zero h)]
 ·intro k h1 h2 h3
  rw [hput_ne _ _ h2,hk1 k h1]
theorem depth_ok (h : Hp) {q j : Nat} {depth last n : Int} {l : List (Int × Int)} (a : QA h q j depth last l) (h0 : 0 ≤ n) (h1 : n ≤ 200) : ACall PX 62 [ptr q,nI n] h (fun v h' => v = nI 0 ∧ QA h' q j n last l ∧ Mod q j h h') := by
 obtain ⟨hq,hj,s,hg,hs⟩ := a
 refine acallA Tryz.func62 c62 ?_
 unfold ir62
 dsimp only [qo,qm,qk,q2,qi,qg,qn,qc,dq,ci,cb,qh,qs]
 refine ai_seq (ai_reg ?_)
 refine st rfl ?_
 refine ai_seq (ai_block ?_)
 refine ai_seq (ai_reg ?_)
 iterate 3 refine st rfl ?_
 refine ai_cond (b := false) rfl (fun hb => by cases hb) (fun _ => ?_)
 refine ai_seq (ai_reg ?_)
 refine st rfl ?_
 refine st_v (v2 := .bool false) rfl (congrArg Value.bool (by simp; omega)) ?_
 refine st rfl ?_
 refine stT rfl rfl rfl ?_
 refine stT (v := .bool false) rfl rfl (o_v rfl (congrArg Value.bool (by simp; omega))) ?_
 iterate 2 refine st rfl ?_
 refine ai_cond (b := false) rfl (fun hb => by cases hb) (fun _ => ai_skip ?_)
 refine ai_seq (ai_reg ?_)
 iterate 4 refine st rfl ?_
 refine st_st rfl rfl (wr_f hg (by simp) rfl) ?_
 refine ai_seq (ai_reg ?_)
 refine st rfl ?_
 refine ai_ret ?_
 refine end_one rfl ⟨rfl,⟨hq,hj,s,hput_same _ _ _,?_⟩,⟨Nat.le_refl _,fun k _ h2 _ => hput_ne _ _ h2⟩⟩
 rcases hs with hs | ⟨xs,sp,e1,e2,e3,e4,e5⟩
 ·exact .inl hs
 ·exact .inr ⟨xs,sp,e1,(hput_ne _ _ e5).trans e2,e3,e4,e5⟩
theorem QS.rd {h : Hp} {q j : Nat} {s : Value} {us : List Value} (a : QS h q j s us) : Rd h s us := by
 rcases a with a | ⟨xs,sp,rfl,hg,_⟩
 ·exact .inl a
 ·exact .inr ⟨j,_,_,_,rfl,fun x v hx => rd_app hg hx⟩
theorem all_ok (h : Hp) {q j : Nat} {depth last : Int} {l : List (Int × Int)} (a : QA h q j depth last l) (hb : l.length ≤ 1000) : ACall PX 36 [ptr q] h (fun v h' => Ext h h' ∧ Ow h.nx h' v (l.map fun p => nI p.1)) := by
 obtain ⟨hq,hj,s,hg,hs⟩ := a
 refine acallA Tryz.func36 c36 ?_
 unfold ir36
 dsimp only [qo,qm,qk,q2,qi,qg,qn,qc,dq,ci,cb,qh,qs]
 refine ai_seq (ai_reg ?_)
 refine st rfl ?_
 refine ai_seq (ai_seq (ai_reg ?_))
 iterate 2 refine st rfl ?_
 refine ai_cond (b := false) rfl (fun hb => by cases hb) (fun _ => ai_skip ?_)
 refine ai_seq (ai_reg ?_)
 refine st rfl ?_
 have hrd := hs.rd
 have hjs : ∀ i o sp n c,s = .slice (some ⟨i,o,sp⟩) n c → i < h.nx := by
  intro i o sp n c e
  rcases hs with ⟨rfl,_⟩ | ⟨xs,sp',rfl,_⟩
  ·cases e
  ·cases e; exact hj
 obtain ⟨x,c,rfl⟩ := hrd.len
 refine ai_join (γ := Value) (fun v => [(3,v)]) (fun v h' => Ext h h' ∧ Ow h.nx h' v (l.map fun p => nI p.1)) ?_ ?_
 ·refine ai_seq (ai_reg ?_)
  iterate 3 refine st rfl ?_
  refine st_ld rfl (rd_f hg rfl) ?_
  iterate 2 refine st rfl ?_
  refine ai_block (ai_loopE (γ := Nat × Value) (fun g => [(3,g.2),(11,.slice x (l.map qE).length c),(12,nI l.length),(13,nI g.1)]) (fun g h' => Ext h h' ∧ Ow h.nx h' g.2 ((l.map fun p => nI p.1).take g.1) ∧ g.1 ≤ l.length) (fun g => l.length - g.1) (0,.slice none 0 0)
   (le_cons rfl (le_cons rfl (le_cons (by simp [Env.get,Env.put]) (le_cons rfl le_nil)))) ⟨Ext.refl _,Ow.nil _ _,Nat.zero_le _⟩ ?_)
  rintro ⟨i,v⟩ h1 ⟨hx,how,hi⟩
  dsimp only at how hi ⊢
  refine ai_seq (ai_reg ?_)
  refine st rfl ?_
  by_cases hlt : i < l.length
  case neg =>
   refine ai_seq (ai_cond (b := false) (by simp [evA,Env.get,Env.put,hlt]) (fun hb => by cases hb) fun _ => ?_)
   refine ai_exit ?_
   rw [List.take_of_length_le (by simp; omega)] at how
   exact ⟨rfl,v,le_cons rfl le_nil,hx,how⟩
  refine ai_seq (ai_cond (b := true) (by simp [evA,Env.get,Env.put,hlt]) (fun _ => ?_) fun hb => by cases hb)
  refine ai_skip ?_
  have hu : (l.map qE)[i]? = some (qE l[i]) := by simp [hlt]
  have hrd1 : Rd h1 (.slice x (l.map qE).length c) (l.map qE) := hrd.ext fun i o sp n c e => hx.2 i (hjs i o sp n c e)
  obtain ⟨_,hn⟩ | ⟨i2,o2,sp2,c2,e2,hr2⟩ := hrd1
  ·simp at hn
   subst hn
   simp at hlt
  cases e2
  refine ai_seq (ai_block ?_)
  refine ai_seq (ai_reg ?_)
  refine st_iad rfl (by simp; omega) ?_
  refine st_ld rfl (hr2 _ _ (by rw [Int.toNat_natCast]; exact hu)) ?_
  refine st rfl ?_
  refine ai_reg ?_
  iterate 2 refine st rfl ?_
  refine st (v := .agg #[nI l[i].1,nI l[i].2]) (h' := h1) rfl ?_
  refine st (v := nI l[i].1) (h' := h1) rfl ?_
  refine st (v := .slice (some ⟨h1.nx,0,none⟩) 1 1) (h' := h1.new ⟨[nI l[i].1],true,1⟩) rfl ?_
  have hlen : ((l.map fun p => nI p.1).take i).length ≤ 1000 := by simp; omega
  obtain ⟨s',h2,hst,how2,hx2⟩ := how.push (e := 3) (e2 := 1) (bytes := 8) rfl hx (u := nI l[i].1) rfl (by omega) (by omega)
  refine st (v := s') (h' := h2) hst ?_
  refine st rfl ?_
  refine ai_reg ?_
  refine st_w rfl (by omega) ?_
  refine st rfl ?_
  refine ⟨(i + 1,s'),le_cons rfl (le_cons rfl (le_cons rfl (le_cons (by simp [Env.get,Env.put]) le_nil))),⟨hx2,?_,by dsimp only; omega⟩,by dsimp only; omega⟩
  have : (l.map fun p => nI p.1).take (i + 1) = (l.map fun p => nI p.1).take i ++ [nI l[i].1] := by
   rw [List.take_succ_eq_append_getElem (by simp; omega)]
   simp
  dsimp only
  rw [this]
  exact how2
 rintro v h1 ⟨hx,how⟩
 refine ai_seq (ai_reg ?_)
 iterate 2 refine st rfl ?_
 refine ai_ret ?_
 exact end_one rfl ⟨hx,how⟩
theorem QS.tail {h : Hp} {q j : Nat} {s : Value} {u : Value} {us : List Value} (a : QS h q j s (u :: us)) : ∃ o,s = .slice (some ⟨j,o,some 0⟩) (us.length + 1) (us.length + 1) ∧ QS h q j (.slice (some ⟨j,o + 1,some (if us.length = 0 then 1 else 0)⟩) us.length us.length) us ∧ ∀ h' : Hp,h'.get j = h.get j → h'.rd j (o + 0 * 1) 1 = some [u] := by
 obtain ⟨_,hs⟩ | ⟨xs,sp,rfl,hgj,hsp,hal,hjq⟩ := a
 ·cases hs
 obtain rfl := hsp (by simp)
 refine ⟨xs.length,rfl,.inr ⟨xs ++ [u],if us.length = 0 then 1 else 0,by simp,by rw [hgj]; simp,fun hne => by rw [if_neg fun h => hne (List.eq_nil_of_length_eq_zero h)],by simpa using hal,hjq⟩,fun h' e => rd_app (e.trans hgj) (x := 0) rfl⟩
set_option maxHeartbeats 1000000 in
theorem late_ok (h : Hp) {q j : Nat} {depth last now age : Int} {l : List (Int × Int)} (a : QA h q j depth last l) (hb : l.length ≤ 1000) : ACall PX 63 [ptr q,nI now,nI age] h
  (fun v h' => ∃ d,d ≤ l.length ∧ (∀ p ∈ l.take d,lateB now age p.2 = true) ∧ (∀ p,l[d]? = some p → lateB now age p.2 = false) ∧ Ow h.nx h' v ((l.take d).map fun p => nI p.1) ∧ QA h' q j depth last (l.drop d) ∧ Mod q j h h') := by
 obtain ⟨hq,hj,s,hg,hs⟩ := a
 refine acallA Tryz.func63 c63 ?_
 unfold ir63
 dsimp only [qo,qm,qk,q2,qi,qg,qn,qc,dq,ci,cb,qh,qs]
 refine ai_seq (ai_reg ?_)
 refine st rfl ?_
 refine ai_seq (ai_seq (ai_reg ?_))
 iterate 2 refine st rfl ?_
 refine ai_cond (b := false) rfl (fun hb => by cases hb) (fun _ => ai_skip ?_)
 refine ai_seq (ai_reg ?_)
 refine st rfl ?_
 refine ai_join (γ := Value) (fun v => [(7,v)]) (fun v h' => ∃ d,d ≤ l.length ∧ (∀ p ∈ l.take d,lateB now age p.2 = true) ∧ (∀ p,l[d]? = some p → lateB now age p.2 = false) ∧ Ow h.nx h' v ((l.take d).map fun p => nI p.1) ∧ QA h' q j depth last (l.drop d) ∧ Mod q j h h') ?_ ?_
 case refine_2 =>
  rintro v h1 hR
  refine ai_seq (ai_reg ?_)
  iterate 2 refine st rfl ?_
  refine ai_ret ?_
  exact end_one rfl hR
 refine ai_block (ai_loopE (γ := Nat × Value) (fun g => [(0,ptr q),(1,nI now),(2,nI age),(7,g.2)])
  (fun g h' => (∃ s,Ext (h.put q ⟨[s,nI depth,nI last],true,0⟩) h' ∧ QS h q j s ((l.drop g.1).map qE)) ∧ Ow h.nx h' g.2 ((l.take g.1).map fun p => nI p.1) ∧ g.1 ≤ l.length ∧ (∀ p ∈ l.take g.1,lateB now age p.2 = true)) (fun g => l.length - g.1) (0,.slice none 0 0)
  (le_cons rfl (le_cons rfl (le_cons rfl (le_cons rfl le_nil)))) ⟨⟨s,⟨Nat.le_refl _,fun k hk => ?_⟩,hs⟩,Ow.nil _ _,Nat.zero_le _,by simp⟩ ?_)
 ·by_cases e : k = q
  ·subst e; rw [hput_same,hg]
  ·rw [hput_ne _ _ e]
 rintro ⟨d,v⟩ h1 ⟨⟨s,hx,hs⟩,how,hd,hall⟩
 dsimp only at hs how hd hall ⊢
 have hg1 : h1.get q = some ⟨[s,nI depth,nI last],true,0⟩ := (hx.2 q hq).trans (hput_same _ _ _)
 have hrd := hs.rd
 have hlen : (List.map qE (List.drop d l)).length = l.length - d := by simp
 have hQA : ∀ h2 : Hp,Ext h1 h2 → QA h2 q j depth last (l.drop d) := by
  intro h2 hx2
  have h0 := hx.1
  rw [hput_nx] at h0
  have := hx2.1
  refine ⟨by omega,by omega,s,(hx2.2 q (by omega)).trans hg1,?_⟩
  rcases hs with hs | ⟨xs,sp,e1,e2,e3,e4,e5⟩
  ·exact .inl hs
  ·exact .inr ⟨xs,sp,e1,(hx2.2 j (by omega)).trans ((hx.2 j hj).trans ((hput_ne _ _ e5).trans e2)),e3,e4,e5⟩
 have hMod : ∀ h2 : Hp,Ext h1 h2 → Mod q j h h2 := by
  intro h2 hx2
  have h0 := hx.1
  rw [hput_nx] at h0
  have := hx2.1
  refine ⟨by omega,fun k k1 k2 _ => (hx2.2 k (by omega)).trans ((hx.2 k k1).trans (hput_ne _ _ k2))⟩
 refine ai_seq (ai_seq (ai_reg ?_))
 iterate 3 refine st rfl ?_
 refine st_ld rfl (rd_f hg1 rfl) ?_
 refine st (v := nI (l.length - d : Nat)) (h' := h1) (by obtain ⟨x,c,rfl⟩ := hrd.len; rw [← hlen]; rfl) ?_
 by_cases hlt : d < l.length
 case neg =>
  refine st_v (v2 := .bool false) rfl (congrArg Value.bool (by simp; omega)) ?_
  refine ai_cond (b := false) rfl (fun hb => by cases hb) fun _ => ?_
  refine ai_exit ?_
  exact ⟨rfl,v,le_cons rfl le_nil,d,hd,hall,fun p hp => (by rw [List.getElem?_eq_none (by omega)] at hp; cases hp),how,hQA _ (Ext.refl _),hMod _ (Ext.refl _)⟩
 refine st_v (v2 := .bool true) rfl (congrArg Value.bool (by simp; omega)) ?_
 refine ai_cond (b := true) rfl (fun _ => ?_) fun hb => by cases hb
 refine ai_skip ?_
 have hdr : l.drop d = l[d] :: l.drop (d + 1) := List.drop_eq_getElem_cons hlt
 have hld : l[d]? = some l[d] := by simp [hlt]
 have htk : l.take (d + 1) = l.take d ++ [l[d]] := List.take_succ_eq_append_getElem hlt
 generalize l[d] = p at hdr hld htk
 rw [hdr,List.map_cons] at hs
 obtain ⟨o,rfl,hs',hrd'⟩ := hs.tail
 have hjq : j ≠ q := by
  rcases hs with ⟨e,_⟩ | ⟨_,_,_,_,_,_,e⟩
  ·cases e
  ·exact e
 refine ai_block ?_
 refine ai_seq (ai_reg ?_)
 iterate 3 refine st rfl ?_
 refine st_ld rfl (rd_f hg1 rfl) ?_
 refine st_iad rfl (by omega) ?_
 refine st_ld rfl (hrd' h1 ((hx.2 j hj).trans (hput_ne _ _ hjq))) ?_
 refine st (v := .agg #[nI p.1,nI p.2]) rfl ?_
 refine st (v := ptr h1.nx) (h' := h1.new ⟨[nI 0,nI 0],true,0⟩) rfl ?_
 have hgx : (h1.new ⟨[nI 0,nI 0],true,0⟩).get h1.nx = some ⟨[nI 0,nI 0],true,0⟩ := by simp [Hp.new]
 refine st_st (h' := (h1.new ⟨[nI 0,nI 0],true,0⟩).put h1.nx ⟨[nI p.1,nI p.2],true,0⟩) rfl rfl ?_ ?_
 ·unfold Hp.wr
  rw [hgx]
  rfl
 have hx2 : Ext h1 ((h1.new ⟨[nI 0,nI 0],true,0⟩).put h1.nx ⟨[nI p.1,nI p.2],true,0⟩) :=
  ⟨by simp [Hp.new,Hp.put],fun k hk => by rw [hput_ne _ _ (by omega)]; simp [Hp.new,show k ≠ h1.nx by omega]⟩
 have hy : ((h1.new ⟨[nI 0,nI 0],true,0⟩).put h1.nx ⟨[nI p.1,nI p.2],true,0⟩).get h1.nx = some ⟨[nI p.1,nI p.2],true,0⟩ := hput_same _ _ _
 generalize (h1.new ⟨[nI 0,nI 0],true,0⟩).put h1.nx ⟨[nI p.1,nI p.2],true,0⟩ = h2 at hx2 hy
 have fin : lateB now age p.2 = false → ∃ d,d ≤ l.length ∧ (∀ p ∈ l.take d,lateB now age p.2 = true) ∧ (∀ p,l[d]? = some p → lateB now age p.2 = false) ∧ Ow h.nx h2 v ((l.take d).map fun p => nI p.1) ∧ QA h2 q j depth last (l.drop d) ∧ Mod q j h h2 :=
  fun hl => ⟨d,hd,hall,fun p' hp' => (by rw [hld] at hp'; cases hp'; exact hl),how.move hx2,hQA _ hx2,hMod _ hx2⟩
 refine ai_seq (ai_seq (ai_reg ?_))
 iterate 2 refine st rfl ?_
 refine st_ld rfl (rd_f (x := 1) hy rfl) ?_
 by_cases hc : now < p.2
 ·refine st_v (v2 := .bool true) rfl (congrArg Value.bool (by simp; omega)) ?_
  refine st rfl ?_
  iterate 10 refine stF rfl rfl ?_
  refine st rfl ?_
  refine ai_cond (b := true) rfl (fun _ => ?_) fun hb => by cases hb
  refine ai_exit ?_
  exact ⟨rfl,v,le_cons rfl le_nil,fin (by simp [lateB,hc])⟩
 refine st_v (v2 := .bool false) rfl (congrArg Value.bool (by simp; omega)) ?_
 refine st rfl ?_
 iterate 3 refine stT rfl rfl rfl ?_
 refine stT rfl rfl (o_ld rfl (rd_f (x := 1) hy rfl)) ?_
 iterate 6 refine stT rfl rfl rfl ?_
 refine st rfl ?_
 by_cases hc2 : IntKind.u64.wrap (IntKind.u64.wrap now - IntKind.u64.wrap p.2) < IntKind.u64.wrap (if 0 > age then 0 else age)
 ·refine ai_cond (b := true) (congrArg some (congrArg Value.bool (decide_eq_true hc2))) (fun _ => ?_) fun hb => by cases hb
  refine ai_exit ?_
  exact ⟨rfl,v,le_cons rfl le_nil,fin (by simp only [lateB,decide_eq_true hc2,Bool.or_true]; rfl)⟩
 refine ai_cond (b := false) (congrArg some (congrArg Value.bool (decide_eq_false hc2))) (fun hb => by cases hb) fun _ => ?_
 refine ai_skip ?_
 have hl : lateB now age p.2 = true := by simp only [lateB,decide_eq_false hc,decide_eq_false hc2]; rfl
 clear fin
 refine ai_seq (ai_reg ?_)
 iterate 2 refine st rfl ?_
 refine st_ld rfl (rd_f (x := 0) hy rfl) ?_
 refine st (v := .slice (some ⟨h2.nx,0,none⟩) 1 1) (h' := h2.new ⟨[nI p.1],true,1⟩) rfl ?_
 have hlen2 : ((l.take d).map fun p => nI p.1).length ≤ 1000 := by simp; omega
 obtain ⟨v',h3,hst,how3,hx3⟩ := (how.move hx2).push (e := 3) (e2 := 1) (bytes := 8) (h0 := h.put q ⟨[.slice (some ⟨j,o,some 0⟩) ((List.map qE (List.drop (d + 1) l)).length + 1) ((List.map qE (List.drop (d + 1) l)).length + 1),nI depth,nI last],true,0⟩) rfl (hx.trans hx2) (u := nI p.1) rfl (by omega) (by omega)
 refine st (v := v') (h' := h3) hst ?_
 refine st rfl ?_
 have hg3 := (hx3.2 q hq).trans (hput_same _ _ _)
 refine ai_reg ?_
 iterate 4 refine st rfl ?_
 refine st_ld rfl (rd_f hg3 rfl) ?_
 refine st slc_one ?_
 iterate 2 refine st rfl ?_
 refine st_st rfl rfl (wr_f hg3 (by simp) rfl) ?_
 refine ⟨(d + 1,v'),le_cons rfl (le_cons rfl (le_cons rfl (le_cons rfl le_nil))),⟨⟨.slice (some ⟨j,o + 1,some (if (List.map qE (List.drop (d + 1) l)).length = 0 then 1 else 0)⟩) (List.map qE (List.drop (d + 1) l)).length (List.map qE (List.drop (d + 1) l)).length,⟨hx3.1,fun k hk => ?_⟩,hs'⟩,?_,by dsimp only; omega,?_⟩,by dsimp only; omega⟩
 ·by_cases e : k = q
  ·subst e; rw [hput_same,hput_same]; rfl
  ·rw [hput_ne _ _ e,hput_ne _ _ e,hx3.2 k hk,hput_ne _ _ e]
 ·dsimp only
  rw [htk,List.map_append]
  exact how3.put hq _
 ·dsimp only
  rw [htk]
  intro p' hp'
  rw [List.mem_append] at hp'
  rcases hp' with hp' | hp'
  ·exact hall p' hp'
  ·rw [List.mem_singleton] at hp'; subst hp'; exact hl
section
def LfT (h : Hp) (T : Tg) (L : Nat) (l : List Pd) (made : Int) : Prop := ∃ S,LF h S L l made ∧ ∀ k ∈ S,T k = 1
def QuT (h : Hp) (T : Tg) (q : Nat) (depth put : Int) (l : List (Int × Int)) : Prop := ∃ j,QA h q j depth put l ∧ T q = 2 ∧ T j = 2
def rQ (l : List Rq) : List (List Value) := l.map p4
theorem rQ_len (l : List Rq) : (rQ l).length = l.length := by simp [rQ]
theorem rQ_get {l : List Rq} {i : Nat} {a : Rq} (h : l[i]? = some a) : (rQ l)[i]? = some (p4 a) := by simp [rQ,h]
theorem rQ_app (l m : List Rq) : rQ (l ++ m) = rQ l ++ rQ m := by simp [rQ]
def RqF (h : Hp) (T : Tg) (s : Value) (l : List Rq) : Prop := GR 4 0 h s (rQ l) ∧ ∀ a n c,s = .slice (some a) n c → T a.block = 3
def vwV (v : Vw) (ps : Value) : List Value := [nI v.t,nI v.want,.bool v.panic,.bool v.proxy,ps,nI v.waiting,nI v.busy] ++ v.ends.map nI ++ [.bool v.over]
def PdR (h : Hp) (T : Tg) (s : Value) (l : List Pd) : Prop := (s = .slice none 0 0 ∧ l = []) ∨ ∃ i,T i = 9 ∧ i < h.nx ∧ s = .slice (some ⟨i,0,some 0⟩) l.length l.length ∧ h.get i = some ⟨fl4 l,true,4⟩ ∧ l ≠ []
def TrF (h : Hp) (T : Tg) (s : Value) (l : List Vw) : Prop :=
 (s = .slice none 0 0 ∧ l = []) ∨ ∃ (i : Nat) (xs : List Value) (us : List (List Value)),T i = 11 ∧ i < h.nx ∧ s = .slice (some ⟨i,xs.length,some 0⟩) us.length us.length ∧ h.get i = some ⟨xs ++ us.flatten,true,15⟩ ∧ xs.all one = true ∧ us ≠ [] ∧
  us.length = l.length ∧ ∀ (k : Nat) (u : List Value) (v : Vw),us[k]? = some u → l[k]? = some v → v.ends.length = 7 ∧ ∃ ps,u = vwV v ps ∧ PdR h T ps v.pods
def lE (L : Nat) : Value := .iface 53 (ptr L)
def quE (q : Nat) : Value := .iface 55 (ptr q)
def dE' (D : Nat) : Value := .iface 57 (ptr D)
def syV (s : Sy) (P : Nat) (rs ts : Value) : List Value := [nI s.c.target,nI s.c.util,nI s.c.stable,nI s.c.panic,nI s.c.grain,nI s.c.threshold,nI s.c.up,nI s.c.down,nI s.c.min,nI s.c.max,nI s.c.initial,nI s.c.grace,nI s.c.delay,nI s.c.burst,nI s.c.limit,nI s.c.queue,nI s.c.timeout,nI s.c.ready,nI s.c.subset,nI s.c.sample,
 nI s.now,.slice (some ⟨P,0,none⟩) 3 3,rs,nI s.last.t,nI s.last.stable,nI s.last.quick,nI s.last.want,.bool s.last.panic,nI s.last.excess,nI s.want,.bool s.proxy,nI s.since,nI s.lost,ts]
theorem LfT.tr {I : List Nat} {T T' : Tg} {h g : Hp} {L : Nat} {l : List Pd} {made : Int} (a : LfT h T L l made) (x : Tn I T h T' g) (h1 : 1 ∉ I) : LfT g T' L l made := by
 obtain ⟨S,a,ht⟩ := a
 exact ⟨S,a.keep x.nx fun k hk => x.fr k (a.lt k hk) (by rw [ht k hk]; exact h1),fun k hk => (x.ex k (a.lt k hk)).trans (ht k hk)⟩
theorem QA.keep {h g : Hp} {q j : Nat} {depth put : Int} {l : List (Int × Int)} (a : QA h q j depth put l) (hn : h.nx ≤ g.nx) (hq : g.get q = h.get q) (hj : g.get j = h.get j) : QA g q j depth put l := by
 obtain ⟨h1,h2,s,hg,hs⟩ := a
 refine ⟨by omega,by omega,s,hq.trans hg,?_⟩
 rcases hs with hs | ⟨xs,sp,e1,e2,e3,e4,e5⟩
 ·exact .inl hs
 ·exact .inr ⟨xs,sp,e1,hj.trans e2,e3,e4,e5⟩
theorem QuT.tr {I : List Nat} {T T' : Tg} {h g : Hp} {q : Nat} {depth put : Int} {l : List (Int × Int)} (a : QuT h T q depth put l) (x : Tn I T h T' g) (h2 : 2 ∉ I) : QuT g T' q depth put l := by
 obtain ⟨j,a,t1,t2⟩ := a
 exact ⟨j,a.keep x.nx (x.fr q a.ql (by rw [t1]; exact h2)) (x.fr j a.jl (by rw [t2]; exact h2)),(x.ex q a.ql).trans t1,(x.ex j a.jl).trans t2⟩
theorem RqF.tr {I : List Nat} {T T' : Tg} {h g : Hp} {s : Value} {l : List Rq} (a : RqF h T s l) (x : Tn I T h T' g) (h3 : 3 ∉ I) : RqF g T' s l := by
 obtain ⟨a,ht⟩ := a
 rcases a with ⟨rfl,e⟩ | ⟨i,h1,h2,rfl,hg,h4,h5⟩
 ·exact ⟨.inl ⟨rfl,e⟩,fun _ _ _ e => by cases e⟩
 ·have t := ht _ _ _ rfl
  exact ⟨.inr ⟨i,h1,Nat.lt_of_lt_of_le h2 x.nx,rfl,(x.fr i h2 (by rw [show T i = 3 from t]; exact h3)).trans hg,h4,h5⟩,fun a n c e => by cases e; exact (x.ex i h2).trans t⟩
theorem PdR.tr {I : List Nat} {T T' : Tg} {h g : Hp} {s : Value} {l : List Pd} (a : PdR h T s l) (x : Tn I T h T' g) (h9 : 9 ∉ I) : PdR g T' s l := by
 rcases a with a | ⟨i,t,h1,h2,h3,h4⟩
 ·exact .inl a
 ·exact .inr ⟨i,(x.ex i h1).trans t,Nat.lt_of_lt_of_le h1 x.nx,h2,(x.fr i h1 (by rw [t]; exact h9)).trans h3,h4⟩
theorem TrF.tr {I : List Nat} {T T' : Tg} {h g : Hp} {s : Value} {l : List Vw} (a : TrF h T s l) (x : Tn I T h T' g) (h9 : 9 ∉ I ∧ 11 ∉ I) : TrF g T' s l := by
 rcases a with a | ⟨i,xs,us,t,h1,h2,h3,h4,h5,h6,h7⟩
 ·exact .inl a
 ·exact .inr ⟨i,xs,us,(x.ex i h1).trans t,Nat.lt_of_lt_of_le h1 x.nx,h2,(x.fr i h1 (by rw [t]; exact h9.2)).trans h3,h4,h5,h6,fun k u v e1 e2 => by
   obtain ⟨e,ps,e3,e4⟩ := h7 k u v e1 e2
   exact ⟨e,ps,e3,e4.tr x h9.1⟩⟩
theorem DdF.tr {I : List Nat} {T T' : Tg} {h g : Hp} {D : Nat} {d : Dd} (a : DdF h T D d) (x : Tn I T h T' g) (hI : ∀ i ∈ [4,5,6,7,8],i ∉ I) : DdF g T' D d := by
 obtain ⟨P,M,H,a⟩ := a
 exact ⟨P,M,H,a.tr x hI⟩
structure SyG (g : Hp) (T : Tg) (s P L q D : Nat) (rs ts : Value) (st : Sy) : Prop where
 w : Tw T g
 sl : s < g.nx
 ts_ : T s = 10
 sg : g.get s = some ⟨syV st P rs ts,true,0⟩
 pl : P < g.nx
 tp : T P = 10
 pg : g.get P = some ⟨[lE L,quE q,dE' D],true,1⟩
 ne : P ≠ s
 lf : LfT g T L st.ps st.made
 qu : QuT g T q st.depth st.put st.q
 dd : DdF g T D st.d
 rq : RqF g T rs st.r
 tr : TrF g T ts st.tr
def SyF (g : Hp) (T : Tg) (s : Nat) (st : Sy) : Prop := ∃ P L q D rs ts,SyG g T s P L q D rs ts st
section
variable {g g' : Hp} {T T' : Tg} {s P L q D : Nat} {rs ts rs' ts' : Value} {st st' : Sy}
theorem SyG.any {I : List Nat} (a : SyG g T s P L q D rs ts st) (x : Tn I T g T' g') (h : ∀ i ∈ [1,2,3,4,5,6,7,8,9,10,11],i ∉ I) : SyG g' T' s P L q D rs ts st :=
 ⟨x.w,Nat.lt_of_lt_of_le a.sl x.nx,(x.ex _ a.sl).trans a.ts_,(x.fr _ a.sl (by rw [a.ts_]; exact h 10 (by decide))).trans a.sg,Nat.lt_of_lt_of_le a.pl x.nx,(x.ex _ a.pl).trans a.tp,(x.fr _ a.pl (by rw [a.tp]; exact h 10 (by decide))).trans a.pg,a.ne,
  a.lf.tr x (h 1 (by decide)),a.qu.tr x (h 2 (by decide)),a.dd.tr x (fun i hi => h i (by revert hi; simp; omega)),a.rq.tr x (h 3 (by decide)),a.tr.tr x ⟨h 9 (by decide),h 11 (by decide)⟩⟩
theorem SyG.ext (a : SyG g T s P L q D rs ts st) (x : Ext g g') : SyG g' T s P L q D rs ts st := a.any (I := []) (.of_ext a.w x) (by decide)
theorem SyG.life (a : SyG g T s P L q D rs ts st) (x : Tn [1] T g T' g') {ps : List Pd} {made : Int} (b : LfT g' T' L ps made) : SyG g' T' s P L q D rs ts { st with ps := ps,made := made } :=
 ⟨x.w,Nat.lt_of_lt_of_le a.sl x.nx,(x.ex _ a.sl).trans a.ts_,(x.fr _ a.sl (by rw [a.ts_]; decide)).trans a.sg,Nat.lt_of_lt_of_le a.pl x.nx,(x.ex _ a.pl).trans a.tp,(x.fr _ a.pl (by rw [a.tp]; decide)).trans a.pg,a.ne,
  b,a.qu.tr x (by decide),a.dd.tr x (by decide),a.rq.tr x (by decide),a.tr.tr x (by decide)⟩
theorem SyG.queue (a : SyG g T s P L q D rs ts st) (x : Tn [2] T g T' g') {depth put : Int} {l : List (Int × Int)} (b : QuT g' T' q depth put l) : SyG g' T' s P L q D rs ts { st with q := l,depth := depth,put := put } :=
 ⟨x.w,Nat.lt_of_lt_of_le a.sl x.nx,(x.ex _ a.sl).trans a.ts_,(x.fr _ a.sl (by rw [a.ts_]; decide)).trans a.sg,Nat.lt_of_lt_of_le a.pl x.nx,(x.ex _ a.pl).trans a.tp,(x.fr _ a.pl (by rw [a.tp]; decide)).trans a.pg,a.ne,
  a.lf.tr x (by decide),b,a.dd.tr x (by decide),a.rq.tr x (by decide),a.tr.tr x (by decide)⟩
theorem SyG.dec (a : SyG g T s P L q D rs ts st) (x : Tn [4,5,6,7,8] T g T' g') {d : Dd} (b : DdF g' T' D d) : SyG g' T' s P L q D rs ts { st with d := d } :=
 ⟨x.w,Nat.lt_of_lt_of_le a.sl x.nx,(x.ex _ a.sl).trans a.ts_,(x.fr _ a.sl (by rw [a.ts_]; decide)).trans a.sg,Nat.lt_of_lt_of_le a.pl x.nx,(x.ex _ a.pl).trans a.tp,(x.fr _ a.pl (by rw [a.tp]; decide)).trans a.pg,a.ne,
  a.lf.tr x (by decide),a.qu.tr x (by decide),b,a.rq.tr x (by decide),a.tr.tr x (by decide)⟩
theorem SyG.req (a : SyG g T s P L q D rs ts st) (x : Tn [3] T g T' g') {r : List Rq} (b : RqF g' T' rs r) : SyG g' T' s P L q D rs ts { st with r := r } :=
 ⟨x.w,Nat.lt_of_lt_of_le a.sl x.nx,(x.ex _ a.sl).trans a.ts_,(x.fr _ a.sl (by rw [a.ts_]; decide)).trans a.sg,Nat.lt_of_lt_of_le a.pl x.nx,(x.ex _ a.pl).trans a.tp,(x.fr _ a.pl (by rw [a.tp]; decide)).trans a.pg,a.ne,
  a.lf.tr x (by decide),a.qu.tr x (by decide),a.dd.tr x (by decide),b,a.tr.tr x (by decide)⟩
theorem SyG.own (a : SyG g T s P L q D rs ts st) (mk : ∀ k,k ≠ s → g'.get k = g.get k) (nx : g'.nx = g.nx) (k : g'.get s = some ⟨syV st' P rs ts,true,0⟩) (e1 : st'.ps = st.ps ∧ st'.made = st.made) (e2 : st'.q = st.q ∧ st'.depth = st.depth ∧ st'.put = st.put) (e3 : st'.d = st.d) (e4 : st'.r = st.r) (e5 : st'.tr = st.tr) :
  SyG g' T s P L q D rs ts st' ∧ Tn [10] T g T g' := by
 have x : Tn [10] T g T g' := .of_one a.w (by rw [a.ts_]; decide) mk nx
 refine ⟨⟨x.w,by rw [nx]; exact a.sl,a.ts_,k,by rw [nx]; exact a.pl,a.tp,(mk _ a.ne).trans a.pg,a.ne,?_,?_,?_,?_,?_⟩,x⟩
 ·rw [e1.1,e1.2]; exact a.lf.tr x (by decide)
 ·rw [e2.1,e2.2.1,e2.2.2]; exact a.qu.tr x (by decide)
 ·rw [e3]; exact a.dd.tr x (by decide)
 ·rw [e4]; exact a.rq.tr x (by decide)
 ·rw [e5]; exact a.tr.tr x (by decide)
theorem pods_ok (a : SyG g T s P L q D rs ts st) : ACall PX 23 [ptr s] g (fun v h => v = ptr L ∧ g = h) := by
 have h1 := a.sg; have h2 := a.pg
 refine acallA Tryz.func23 c23 ?_
 unfold ir23
 dsimp only [qo,qm,qk,q2,qi,qg,qn,qc,dq,ci,cb,qh,qs]
 repeat (first | apply sS | apply sE | refine w_mv rfl ?_ | (refine is_okn rfl ?_; refine w_op rfl ?_) | (apply is_ld; refine w_ldA rfl ?_) | (apply is_iad; refine w_iadA rfl ?_) | apply ai_seq | apply ai_regW | (apply ai_ret; repeat (first | rw [thenQ_r] | rw [blockQ_r] | rw [roundE_r])))
 exact end_one rfl ⟨rfl,rfl⟩
theorem waits_ok (a : SyG g T s P L q D rs ts st) : ACall PX 35 [ptr s] g (fun v h => v = ptr q ∧ g = h) := by
 have h1 := a.sg; have h2 := a.pg
 refine acallA Tryz.func35 c35 ?_
 unfold ir35
 dsimp only [qo,qm,qk,q2,qi,qg,qn,qc,dq,ci,cb,qh,qs]
 repeat (first | apply sS | apply sE | refine w_mv rfl ?_ | (refine is_okn rfl ?_; refine w_op rfl ?_) | (apply is_ld; refine w_ldA rfl ?_) | (apply is_iad; refine w_iadA rfl ?_) | apply ai_seq | apply ai_regW | (apply ai_ret; repeat (first | rw [thenQ_r] | rw [blockQ_r] | rw [roundE_r])))
 exact end_one rfl ⟨rfl,rfl⟩
theorem decs_ok (a : SyG g T s P L q D rs ts st) : ACall PX 37 [ptr s] g (fun v h => v = ptr D ∧ g = h) := by
 have h1 := a.sg; have h2 := a.pg
 refine acallA Tryz.func37 c37 ?_
 unfold ir37
 dsimp only [qo,qm,qk,q2,qi,qg,qn,qc,dq,ci,cb,qh,qs]
 repeat (first | apply sS | apply sE | refine w_mv rfl ?_ | (refine is_okn rfl ?_; refine w_op rfl ?_) | (apply is_ld; refine w_ldA rfl ?_) | (apply is_iad; refine w_iadA rfl ?_) | apply ai_seq | apply ai_regW | (apply ai_ret; repeat (first | rw [thenQ_r] | rw [blockQ_r] | rw [roundE_r])))
 exact end_one rfl ⟨rfl,rfl⟩
end
theorem lf_tn {T : Tg} {h g : Hp} {S S' : List Nat} {L : Nat} {l l' : List Pd} {made made' : Int} (_ : Tw T h) (a : LF h S L l made) (ht : ∀ k ∈ S,T k = 1) (b : LF g S' L l' made') (gr : Gr h S S') (fr : Fr S h g) : LfT g (tg T h g 1) L l' made' ∧ Tn [1] T h (tg T h g 1) g := by
 have x : Tn [1] T h (tg T h g 1) g := .of_fr ⟨fr.1,fun k hk hn => fr.2 k hk fun hs => hn (ht k hs)⟩
 refine ⟨⟨S',b,fun k hk => ?_⟩,x⟩
 rcases gr k hk with h1 | h1
 ·exact (x.ex k (a.lt k h1)).trans (ht k h1)
 ·unfold tg
  rw [if_neg (by omega),if_pos (b.lt k hk)]
end
theorem getD_of {l : List Pd} {k : Nat} {p : Pd} (h : l[k]? = some p) : l.getD k p0 = p := by rw [List.getD_eq_getElem?_getD,h]; rfl
theorem newF_mem {made now : Int} {k : Nat} {p : Pd} (h : p ∈ newF made now k) : ∃ i : Nat,i < k ∧ p = (made + i,1,0,now) := by
 simp only [newF,List.mem_map,List.mem_range] at h
 obtain ⟨i,hi,rfl⟩ := h
 exact ⟨i,hi,rfl⟩
theorem fI_at {l : List Pd} {id : Int} {k : Nat} {p : Pd} (h : l[k]? = some p) (hp : p.1 = id) (hn : ∀ j q,j < k → l[j]? = some q → q.1 ≠ id) : fI l id = k := by
 obtain ⟨hk,rfl⟩ := List.getElem?_eq_some_iff.1 h
 refine (List.findIdx_eq hk).2 ⟨decide_eq_true hp,fun j hj => decide_eq_false (hn j _ hj (List.getElem?_eq_getElem (by omega)))⟩
def sB : List Pd → Int
 | [] => 0
 | p :: l => p.2.2.1 + sB l
theorem sB_app : ∀ l k,sB (l ++ k) = sB l + sB k
 | [],k => by simp [sB]
 | p :: l,k => by simp only [List.cons_append,sB,sB_app l k]; omega
theorem sB_split {l : List Pd} {k : Nat} (hk : k < l.length) : sB l = sB (l.take k) + l[k].2.2.1 + sB (l.drop (k + 1)) := by
 have : l = l.take k ++ l[k] :: l.drop (k + 1) := by simp
 conv => lhs; rw [this,sB_app]
 simp only [sB]
 omega
theorem sB_set {l : List Pd} {k : Nat} {p : Pd} (hk : l[k]? = some p) (q : Pd) : sB (l.set k q) = sB l - p.2.2.1 + q.2.2.1 := by
 obtain ⟨h,rfl⟩ := List.getElem?_eq_some_iff.1 hk
 have h1 := sB_split h
 have h2 := sB_split (l := l.set k q) (k := k) (by simpa using h)
 rw [List.take_set_of_le (by omega),List.drop_set_of_lt (by omega),List.getElem_set_self] at h2
 omega
theorem sB_del {l : List Pd} {k : Nat} {p : Pd} (hk : l[k]? = some p) : sB (l.take k ++ l.drop (k + 1)) = sB l - p.2.2.1 := by
 obtain ⟨h,rfl⟩ := List.getElem?_eq_some_iff.1 hk
 have h1 := sB_split h
 rw [sB_app]
 omega
theorem sB_newF (made now : Int) : ∀ k,sB (newF made now k) = 0
 | 0 => rfl
 | k + 1 => by rw [newF_succ,sB_app,sB_newF made now k]; rfl
structure CtP (made : Int) (l : List Pd) : Prop where
 up : (l.map (·.1)).Pairwise (· < ·)
 each : ∀ p ∈ l,0 ≤ p.1 ∧ p.1 < made ∧ 0 ≤ p.2.2.1 ∧ (p.2.1 = 3 → 0 < p.2.2.1) ∧ 0 ≤ p.2.2.2 ∧ p.2.2.2 ≤ 1099511627776
theorem map_set_same {α : Type} {f : Pd → α} {l : List Pd} {k : Nat} {p q : Pd} (hk : l[k]? = some p) (e : f q = f p) : (l.set k q).map f = l.map f := by
 obtain ⟨h,rfl⟩ := List.getElem?_eq_some_iff.1 hk
 rw [List.map_set]
 refine List.ext_getElem (by simp) fun i h1 h2 => ?_
 rw [List.getElem_set]
 split
 ·next h => subst h; simp [e]
 ·rfl
theorem CtP.set {made : Int} {l : List Pd} (c : CtP made l) {k : Nat} {p q : Pd} (hk : l[k]? = some p) (e : q.1 = p.1) (h : 0 ≤ q.2.2.1 ∧ (q.2.1 = 3 → 0 < q.2.2.1) ∧ 0 ≤ q.2.2.2 ∧ q.2.2.2 ≤ 1099511627776) : CtP made (l.set k q) := by
 refine ⟨by rw [map_set_same hk e]; exact c.up,fun r hr => ?_⟩
 rcases List.mem_or_eq_of_mem_set hr with hr | rfl
 ·exact c.each r hr
 ·have := c.each p (List.mem_of_getElem? hk)
  omega
theorem del_sub {l : List Pd} {k : Nat} : List.Sublist (l.take k ++ l.drop (k + 1)) l := by
 have h1 : List.Sublist (l.take k ++ l.drop (k + 1)) (l.take k ++ l.drop k) := List.Sublist.append_left (by
  rw [← List.drop_drop]
  exact List.drop_sublist _ _) _
 rwa [List.take_append_drop] at h1
theorem CtP.del {made : Int} {l : List Pd} (c : CtP made l) (k : Nat) : CtP made (l.take k ++ l.drop (k + 1)) :=
 ⟨c.up.sublist (del_sub.map _),fun r hr => c.each r (del_sub.subset hr)⟩
theorem CtP.dn {made now : Int} {l : List Pd} (c : CtP made l) (hn : 0 ≤ now ∧ now ≤ 1099511627776) (hp : 0 < cF l) : CtP made (dnF now l) ∧ sB (dnF now l) = sB l := by
 obtain ⟨k,hk,e,h3⟩ := nx_at l hp
 have hq : l[k]? = some l[k] := List.getElem?_eq_getElem hk
 have hc := c.each _ (List.getElem_mem hk)
 rw [dnF_at now l hk e]
 split
 ·next h0 => exact ⟨c.del k,by rw [sB_del hq]; omega⟩
 ·next h0 => exact ⟨c.set hq rfl (by dsimp only; omega),by rw [sB_set hq]; dsimp only; omega⟩
theorem CtP.dnN {made now : Int} {l : List Pd} (c : CtP made l) (hn : 0 ≤ now ∧ now ≤ 1099511627776) : ∀ k,k ≤ cF l → CtP made (dnN now l k) ∧ sB (dnN now l k) = sB l
 | 0,_ => ⟨c,rfl⟩
 | k + 1,hk => by
  have h1 := c.dnN hn k (by omega)
  have h2 := dnN_c now l k (by omega)
  have h3 := h1.1.dn hn (by omega)
  exact ⟨h3.1,h3.2.trans h1.2⟩
theorem CtP.sc {made now : Int} {l : List Pd} (c : CtP made l) (hn : 0 ≤ now ∧ now ≤ 1099511627776) (h0 : 0 ≤ made) (w : Nat) : CtP (scM made w l) (scL made now w l) ∧ sB (scL made now w l) = sB l := by
 unfold scM scL
 split
 ·refine ⟨⟨?_,fun p hp => ?_⟩,by rw [sB_app,sB_newF]; omega⟩
  ·rw [List.map_append,List.pairwise_append]
   refine ⟨c.up,?_,fun x hx y hy => ?_⟩
   ·simp only [newF,List.map_map]
    rw [List.pairwise_map]
    refine List.pairwise_lt_range.imp fun {a b} hab => ?_
    simp
    omega
   ·obtain ⟨p,hp,rfl⟩ := List.mem_map.1 hx
    obtain ⟨q,hq,rfl⟩ := List.mem_map.1 hy
    obtain ⟨i,_,rfl⟩ := newF_mem hq
    have := c.each p hp
    dsimp only; omega
  ·rcases List.mem_append.1 hp with hp | hp
   ·have := c.each p hp; omega
   ·obtain ⟨i,hi,rfl⟩ := newF_mem hp
    dsimp only; omega
 ·next hlt =>
  obtain ⟨h1,h2⟩ := c.dnN hn (cF l - w) (by omega)
  refine ⟨⟨h1.up,fun p hp => ?_⟩,h2⟩
  have := h1.each p hp
  omega
theorem CtP.ripe {made now after : Int} {l : List Pd} (c : CtP made l) : CtP made (l.map (rpF now after)) ∧ sB (l.map (rpF now after)) = sB l ∧ (l.map (rpF now after)).length = l.length := by
 have h1 : ∀ p,(rpF now after p).1 = p.1 ∧ (rpF now after p).2.2 = p.2.2 ∧ ((rpF now after p).2.1 = 3 → p.2.1 = 3) := by
  intro p
  unfold rpF
  split
  ·exact ⟨rfl,rfl,fun h => by cases h⟩
  ·exact ⟨rfl,rfl,fun h => h⟩
 refine ⟨⟨?_,fun p hp => ?_⟩,?_,by simp⟩
 ·rw [List.map_map,show ((fun p : Pd => p.1) ∘ rpF now after) = (fun p => p.1) from funext fun p => (h1 p).1]
  exact c.up
 ·obtain ⟨q,hq,rfl⟩ := List.mem_map.1 hp
  have := c.each q hq
  obtain ⟨e1,e2,e3⟩ := h1 q
  rw [e1,e2]
  exact ⟨this.1,this.2.1,this.2.2.1,fun h => this.2.2.2.1 (e3 h),this.2.2.2.2⟩
 ·induction l with
  | nil => rfl
  | cons p l ih =>
   simp only [List.map,sB]
   rw [ih ⟨by have := c.up; simp at this; exact this.2,fun q hq => c.each q (by simp [hq])⟩,(h1 p).2.1]
theorem cF_ripe (now after : Int) : ∀ l,cF (l.map (rpF now after)) = cF l
 | [] => rfl
 | p :: l => by
  have h1 : cF (p :: l) = cF [p] + cF l := cF_app2 [p] l
  have h2 : cF (rpF now after p :: l.map (rpF now after)) = cF [rpF now after p] + cF (l.map (rpF now after)) := cF_app2 [_] _
  have h3 : cF [rpF now after p] = cF [p] := by
   unfold rpF
   split
   ·next h => simp [cF,h.1]
   ·rfl
  rw [List.map_cons,h2,h1,h3,cF_ripe now after l]
theorem cF_set {l : List Pd} {k : Nat} {p q : Pd} (hk : l[k]? = some p) (e : q.2.1 = p.2.1) : cF (l.set k q) = cF l := by
 obtain ⟨h,rfl⟩ := List.getElem?_eq_some_iff.1 hk
 have h1 := cF_split l h
 have h2 := cF_split (l.set k q) (k := k) (by simpa using h)
 rw [List.take_set_of_le (by omega),List.drop_set_of_lt (by omega),List.getElem_set_self] at h2
 have h3 : cF [q] = cF [l[k]] := by simp only [cF,List.filter_cons,e,List.filter_nil]; split <;> rfl
 omega
theorem cF_del {l : List Pd} (k : Nat) : cF (l.take k ++ l.drop (k + 1)) ≤ cF l := by
 unfold cF
 exact (del_sub.filter _).length_le
theorem CtP.len {made : Int} {l : List Pd} (c : CtP made l) : (l.length : Int) ≤ cF l + sB l := by
 have := c.each
 clear c
 induction l with
 | nil => simp [sB,cF]
 | cons p l ih =>
  have h1 := ih fun q hq => this q (by simp [hq])
  have h2 := this p (by simp)
  have h3 : cF (p :: l) = cF [p] + cF l := cF_app2 [p] l
  have h4 : p.2.1 = 3 ∨ cF [p] = 1 := by
   by_cases e : p.2.1 = 3
   ·exact .inl e
   ·exact .inr (by simp [cF,e])
  simp only [List.length_cons,sB]
  omega
theorem CtP.at {made : Int} {l : List Pd} (c : CtP made l) {k : Nat} {p : Pd} (hk : l[k]? = some p) : fI l p.1 = k := by
 refine fI_at hk rfl fun j q hj hq => ?_
 have h1 := List.pairwise_iff_getElem.1 c.up
 obtain ⟨hk',rfl⟩ := List.getElem?_eq_some_iff.1 hk
 obtain ⟨hj',rfl⟩ := List.getElem?_eq_some_iff.1 hq
 have := h1 j k (by simpa using hj') (by simpa using hk') hj
 simp at this
 omega
theorem CtP.enter {made : Int} {l : List Pd} (c : CtP made l) {k : Nat} {p : Pd} (hk : l[k]? = some p) (h2 : p.2.1 = 2) : enF l p.1 = (l.set k (p.1,2,p.2.2.1 + 1,p.2.2.2),0) := by
 unfold enF
 rw [c.at hk,getD_of hk,if_pos h2]
theorem rF_at {l : List Pd} {i : Nat} {id : Int} (h : (rF l)[i]? = some id) : ∃ (k : Nat) (p : Pd),l[k]? = some p ∧ p.1 = id ∧ p.2.1 = 2 := by
 have := List.mem_of_getElem? h
 simp only [rF,List.mem_map,List.mem_filter,decide_eq_true_eq] at this
 obtain ⟨p,⟨h1,h2⟩,h3⟩ := this
 obtain ⟨k,hk,rfl⟩ := List.getElem_of_mem h1
 exact ⟨k,_,List.getElem?_eq_getElem hk,h3,h2⟩
section
theorem rQ_els (l : List Rq) : Els 4 (rQ l) := fun u hu => by
 obtain ⟨a,_,rfl⟩ := List.mem_map.1 hu
 exact ⟨rfl,rfl⟩
theorem rQ_set (l : List Rq) (k : Nat) (x : Rq) : (rQ l).set k (p4 x) = rQ (l.set k x) := by simp [rQ,List.map_set]
theorem getD_r {r : List Rq} {k : Nat} {x : Rq} (h : r[k]? = some x) : r.getD k r0 = x := by rw [List.getD_eq_getElem?_getD,h]; rfl
theorem RqF.row {h : Hp} {T : Tg} {s : Value} {l : List Rq} (a : RqF h T s l) {k : Nat} {x : Rq} (hk : l[k]? = some x) : ∃ i,s = .slice (some ⟨i,0,some 0⟩) l.length l.length ∧ i < h.nx ∧ T i = 3 ∧ h.get i = some ⟨(rQ l).flatten,true,4⟩ := by
 obtain ⟨a,ht⟩ := a
 rcases a with ⟨rfl,e⟩ | ⟨i,h1,h2,rfl,hg,h4,h5⟩
 ·have : l = [] := by simpa [rQ] using e
  rw [this] at hk
  cases hk
 ·exact ⟨i,by rw [rQ_len],h2,ht _ _ _ rfl,hg⟩
theorem RqF.of {h : Hp} {T : Tg} {l : List Rq} {i : Nat} (h2 : i < h.nx) (ht : T i = 3) (hg : h.get i = some ⟨(rQ l).flatten,true,4⟩) (h0 : l ≠ []) : RqF h T (.slice (some ⟨i,0,some 0⟩) l.length l.length) l :=
 ⟨.inr ⟨i,Nat.zero_le _,h2,by rw [rQ_len],hg,by simpa [rQ] using h0,rQ_els l⟩,fun _ _ _ e => by cases e; exact ht⟩
section
variable {g : Hp} {T : Tg} {s P L q D : Nat} {rs ts : Value} {st : Sy}
theorem rq_upd (a : SyG g T s P L q D rs ts st) {k : Nat} {x : Rq} (hk : st.r[k]? = some x) {i : Nat} (e : rs = .slice (some ⟨i,0,some 0⟩) st.r.length st.r.length) (hi : i < g.nx) (ht : T i = 3) {g' : Hp} (mk : ∀ j,j ≠ i → g'.get j = g.get j) (nx : g'.nx = g.nx) (y : Rq) (hg : g'.get i = some ⟨(rQ (st.r.set k y)).flatten,true,4⟩) :
  SyG g' T s P L q D rs ts { st with r := st.r.set k y } ∧ Tn [3] T g T g' := by
 have x3 : Tn [3] T g T g' := .of_one a.w (by rw [ht]; decide) mk nx
 refine ⟨a.req x3 ?_,x3⟩
 have hl := (List.getElem?_eq_some_iff.1 hk).1
 have := RqF.of (T := T) (h := g') (l := st.r.set k y) (i := i) (by omega) ht hg (by intro h; have := congrArg List.length h; rw [List.length_set,List.length_nil] at this; omega)
 rw [List.length_set] at this
 rw [e]
 exact this
theorem stand_ok (a : SyG g T s P L q D rs ts st) {k : Nat} {x : Rq} (hk : st.r[k]? = some x) (state : Int) :
  ACall PX 57 [ptr s,nI k,nI state] g (fun _ h => SyG h T s P L q D rs ts { st with r := setR st.r k fun x => (x.1,st.now,state,x.2.2.2) } ∧ Tn [3] T g T h) := by
 obtain ⟨i,e,hi,ht,hg⟩ := a.rq.row hk
 have hl := (List.getElem?_eq_some_iff.1 hk).1
 have hsg := a.sg
 have hne : s ≠ i := fun e' => by have := a.ts_; rw [e',ht] at this; exact absurd this (by decide)
 subst e
 have hfl : (rQ st.r).flatten.length = st.r.length * 4 := by rw [(rQ_els st.r).len,rQ_len]
 unfold setR
 rw [getD_r hk]
 refine acallA Tryz.func57 c57 ?_
 unfold ir57
 dsimp only [qo,qm,qk,q2,qi,qg,qn,qc,dq,ci,cb,qh,qs]
 repeat (first | apply dS | apply dSn | refine w_mv rfl ?_ | (refine is_okn rfl ?_; refine w_op rfl ?_) | (apply is_ld; refine w_ldA rfl ?_) | (apply is_iad; refine w_iadA rfl ?_) | refine ai_drwW (by kernel_rfl) ?_)
 refine w_st1 rfl rfl hg (by simp only [Int.toNat_natCast]; omega) rfl fun g1 m1 k1 n1 => ?_
 repeat (first | apply dS | apply dSn | (refine is_okn rfl ?_; refine w_op rfl ?_) | (apply is_iad; refine w_iadA rfl ?_))
 refine w_st1 rfl rfl k1 (by simp only [Int.toNat_natCast,List.length_set]; omega) rfl fun g2 m2 k2 n2 => ?_
 repeat (first | apply dE)
 refine end_zeroN (rq_upd a hk rfl hi ht (fun j hj => (m2 j hj).trans (m1 j hj)) (by omega) _ ?_)
 rw [k2]
 simp only [Int.toNat_natCast,Nat.zero_add]
 rw [(rQ_els st.r).set (rQ_get hk) (f := 2) (by decide),((rQ_els st.r).put (u := (p4 x).set 2 (nI state)) rfl rfl).set (u := (p4 x).set 2 (nI state)) (by rw [List.getElem?_set_self (by rw [rQ_len]; exact hl)]) (f := 1) (by decide),List.set_set]
 congr 2
 exact congrArg List.flatten (rQ_set st.r k (x.1,st.now,state,x.2.2.2))
theorem flyA_app : ∀ (l m : List Rq) (k : Nat),flyA k (l ++ m) = flyA k l ++ flyA (k + l.length) m
 | [],m,k => by simp [flyA]
 | x :: l,m,k => by
  simp only [List.cons_append,flyA,flyA_app l m (k + 1),List.length_cons]
  rw [show k + 1 + l.length = k + (l.length + 1) by omega]
  split <;> simp
theorem flyF_take {r : List Rq} {i : Nat} {x : Rq} (h : r[i]? = some x) : flyF (r.take (i + 1)) = flyF (r.take i) ++ if x.2.2.1 = 2 then [i] else [] := by
 obtain ⟨h1,rfl⟩ := List.getElem?_eq_some_iff.1 h
 unfold flyF
 rw [List.take_succ_eq_append_getElem h1,flyA_app,List.length_take,Nat.min_eq_left (by omega),Nat.zero_add]
 rfl
theorem flyA_len : ∀ (r : List Rq) (k : Nat),(flyA k r).length ≤ r.length
 | [],_ => Nat.le_refl _
 | x :: r,k => by
  have := flyA_len r (k + 1)
  simp only [flyA]
  split <;> (simp only [List.length_cons]; omega)
def nL (l : List Nat) : List Int := l.map fun (n : Nat) => (n : Int)
theorem nL_app (l m : List Nat) : nL (l ++ m) = nL l ++ nL m := by simp [nL]
set_option maxHeartbeats 1000000 in
theorem flying_ok (a : SyG g T s P L q D rs ts st) (hb : st.r.length ≤ 1000000) : ACall PX 56 [ptr s] g (fun v h => GR 1 g.nx h v (rI (nL (flyF st.r))) ∧ Ext g h) := by
 have hsg := a.sg
 obtain ⟨ra,hta⟩ := a.rq
 obtain ⟨x,c,e⟩ := ra.len
 rw [rQ_len] at e
 subst e
 have hrr := ra.rr
 refine acallA Tryz.func56 c56 ?_
 unfold ir56
 dsimp only [qo,qm,qk,q2,qi,qg,qn,qc,dq,ci,cb,qh,qs]
 repeat (first | apply sS | apply sE | refine w_mv rfl ?_ | (refine is_okn rfl ?_; refine w_op rfl ?_) | (apply is_ld; refine w_ldA rfl ?_) | apply ai_seq | apply ai_regW | apply ai_block)
 refine ai_loopE (γ := Nat × Value) (fun e => [(9,.slice x st.r.length c),(10,nI st.r.length),(11,nI e.1),(3,e.2)])
  (fun e h => GR 1 g.nx h e.2 (rI (nL (flyF (st.r.take e.1)))) ∧ Ext g h ∧ e.1 ≤ st.r.length) (fun e => st.r.length - e.1) (0,.slice none 0 0) leX ⟨.nil _ _ _,Ext.refl _,Nat.zero_le _⟩ ?_
 rintro ⟨i,sv⟩ g1 ⟨r1,x1,hi⟩
 dsimp only at r1 hi ⊢
 by_cases hil : i < st.r.length
 ·obtain ⟨y,hy⟩ : ∃ y,st.r[i]? = some y := ⟨_,List.getElem?_eq_getElem hil⟩
  obtain ⟨bi,bo,bs,rfl,_,hr⟩ := (hrr.ext x1).at (rQ_get hy)
  have hf := flyF_take hy
  have hlen : (rI (nL (flyF (st.r.take i)))).length ≤ 1000000 := by
   rw [rI_len,nL,List.length_map]
   have := flyA_len (st.r.take i) 0
   rw [List.length_take] at this
   unfold flyF
   omega
  repeat (first | apply sS | apply sE | refine w_mv rfl ?_ | (apply is_ldn; refine w_ldnA rfl ?_) | (apply is_bin; refine w_cT rfl ?_) | (apply is_iad; refine w_iadA rfl ?_) | apply ai_seq | apply ai_regW | refine ai_cT rfl ?_ | apply ai_skip | apply ai_block)
  refine w_new fun g2 x2 k2 n2 => ?_
  repeat (first | apply sS | apply sSn | refine w_mv rfl ?_)
  refine w_stN rfl rfl k2 rfl rfl fun g3 m3 k3 n3 => ?_
  have x3 := x2.own m3 n3
  replace k3 : g3.get g1.nx = some ⟨p4 y,true,0⟩ := k3
  by_cases q2 : y.2.2.1 = 2
  ·rw [if_pos q2] at hf
   repeat (first | apply sS | apply sE | refine w_mv rfl ?_ | (refine is_okn rfl ?_; refine w_op rfl ?_) | (apply is_ld; refine w_ldA rfl ?_) | (apply is_bin; refine w_cT rfl ?_) | apply ai_seq | apply ai_regW | refine ai_cT rfl ?_)
   refine w_bslF rfl rfl rfl rfl rfl fun g4 x4 k4 n4 => ?_
   repeat (first | apply sS)
   refine w_app1 rfl ((r1.ext x3).ext x4) k4 rfl rfl (by decide) (by omega) (by omega) (Nat.le_trans (x1.trans x3).1 x4.1) fun s' g5 r5 y5 _ => ?_
   repeat (first | apply sS | apply sE | refine w_mv rfl ?_ | (apply is_bin; refine w_addA rfl ?_) | apply ai_regW)
   refine ⟨(i + 1,s'),leX,⟨?_,((x1.trans x3).trans x4).xtr y5 (Nat.le_refl _),by dsimp only; omega⟩,by dsimp only; omega⟩
   dsimp only
   rw [hf,nL_app,rI_app]
   exact r5
  ·rw [if_neg q2,List.append_nil] at hf
   repeat (first | apply sS | apply sE | refine w_mv rfl ?_ | (refine is_okn rfl ?_; refine w_op rfl ?_) | (apply is_ld; refine w_ldA rfl ?_) | (apply is_bin; refine w_addA rfl ?_) | (apply is_bin; refine w_cF rfl ?_) | apply ai_seq | apply ai_regW | refine ai_cF rfl ?_ | apply ai_skip)
   exact ⟨(i + 1,sv),leX,⟨by dsimp only; rw [hf]; exact r1.ext x3,x1.trans x3,by dsimp only; omega⟩,by dsimp only; omega⟩
 ·obtain rfl : i = st.r.length := by omega
  rw [List.take_length] at r1
  repeat (first | apply sS | apply sE | refine w_mv rfl ?_ | (apply is_bin; refine w_cF rfl ?_) | apply ai_seq | apply ai_regW | refine ai_cF rfl ?_ | apply ai_exit | (apply ai_ret; repeat (first | rw [thenQ_r] | rw [blockQ_r] | rw [roundE_r])))
  exact end_one rfl ⟨r1,x1⟩
set_option maxHeartbeats 1000000 in
theorem busy_ok (a : SyG g T s P L q D rs ts st) (hb : st.ps.length ≤ 900000) (id : Int) : ACall PX 81 [ptr s,nI id] g (fun v h => v = nI (busyF st.ps id) ∧ Ext g h) := by
 obtain ⟨S,lf,_⟩ := a.lf
 refine acallA Tryz.func81 c81 ?_
 unfold ir81
 dsimp only [qo,qm,qk,q2,qi,qg,qn,qc,dq,ci,cb,qh,qs]
 repeat (first | apply sS | apply sE | refine w_mv rfl ?_ | (refine w_callE ((pods_ok a).mono ?_) rfl rfl; rintro _ _ ⟨rfl,rfl⟩) | apply ai_seq | apply ai_regW)
 refine w_call rfl ((all_lf g lf hb).mono ?_)
 rintro v g1 ⟨a4,x1⟩
 obtain ⟨x,c,e⟩ := a4.len
 subst e
 repeat (first | apply sS | apply sE | refine w_mv rfl ?_ | (refine is_okn rfl ?_; refine w_op rfl ?_) | apply ai_block)
 refine ai_loopE (γ := Nat) (fun i => [(0,ptr s),(1,nI id),(9,.slice x st.ps.length c),(10,nI st.ps.length),(11,nI i)])
  (fun i h => Ext g1 h ∧ i ≤ st.ps.length ∧ i ≤ fI st.ps id) (fun i => st.ps.length - i) 0 leX ⟨Ext.refl _,Nat.zero_le _,Nat.zero_le _⟩ ?_
 rintro i g2 ⟨x2,hi,hif⟩
 by_cases hil : i < st.ps.length
 ·obtain ⟨p,hp⟩ : ∃ p,st.ps[i]? = some p := ⟨_,List.getElem?_eq_getElem hil⟩
  obtain ⟨k,e,_,_,hr⟩ := (a4.move x2).at hp
  cases e
  repeat (first | apply sS | apply sE | (apply is_ldn; refine w_ldnA rfl ?_) | (apply is_bin; refine w_cT rfl ?_) | (apply is_iad; refine w_iadA rfl ?_) | apply ai_seq | apply ai_regW | refine ai_cT rfl ?_ | apply ai_skip | apply ai_block)
  refine w_new fun g3 x3 k3 n3 => ?_
  repeat (first | apply sSn)
  refine w_stN rfl rfl k3 rfl rfl fun g4 m4 k4 n4 => ?_
  have x4 := x3.own m4 n4
  replace k4 : g4.get g2.nx = some ⟨p4 p,true,0⟩ := k4
  have hpe : st.ps[i] = p := (List.getElem?_eq_some_iff.1 hp).2
  by_cases q1 : p.1 = id
  ·have e : fI st.ps id = i := by
    refine (List.findIdx_eq hil).2 ⟨by rw [hpe]; exact decide_eq_true q1,fun k hk => ?_⟩
    have := List.not_of_lt_findIdx (show k < st.ps.findIdx (fun p => decide (p.1 = id)) from Nat.lt_of_lt_of_le hk hif)
    simpa using this
   have e2 : busyF st.ps id = p.2.2.1 := by unfold busyF; rw [e,getD_of hp]
   rw [e2]
   repeat (first | apply sS | apply sE | refine w_mv rfl ?_ | (refine is_okn rfl ?_; refine w_op rfl ?_) | (apply is_ld; refine w_ldA rfl ?_) | (apply is_bin; refine w_cT rfl ?_) | apply ai_seq | apply ai_regW | refine ai_cT rfl ?_ | (apply ai_ret; repeat (first | rw [thenQ_r] | rw [blockQ_r] | rw [roundE_r])))
   exact end_one rfl ⟨rfl,(x1.trans x2).trans x4⟩
  ·repeat (first | apply sS | apply sE | refine w_mv rfl ?_ | (refine is_okn rfl ?_; refine w_op rfl ?_) | (apply is_ld; refine w_ldA rfl ?_) | (apply is_bin; refine w_addA rfl ?_) | (apply is_bin; refine w_cF rfl ?_) | apply ai_seq | apply ai_regW | refine ai_cF rfl ?_ | apply ai_skip)
   refine ⟨i + 1,leX,⟨x2.trans x4,by omega,?_⟩,by dsimp only; omega⟩
   rcases Nat.lt_or_ge i (fI st.ps id) with h1 | h1
   ·omega
   ·exfalso
    have e : fI st.ps id = i := by omega
    have := List.findIdx_getElem (xs := st.ps) (p := fun p => decide (p.1 = id)) (w := by show fI st.ps id < _; omega)
    have e3 : st.ps.findIdx (fun p => decide (p.1 = id)) = i := e
    simp only [e3,hpe] at this
    exact q1 (of_decide_eq_true this)
 ·have e2 : busyF st.ps id = 0 := by
   unfold busyF
   rw [getD_out (by omega)]
  rw [e2]
  repeat (first | apply sS | apply sE | refine w_mv rfl ?_ | (apply is_bin; refine w_cF rfl ?_) | apply ai_seq | apply ai_regW | refine ai_cF rfl ?_ | apply ai_exit | (apply ai_ret; repeat (first | rw [thenQ_r] | rw [blockQ_r] | rw [roundE_r])))
  exact end_one rfl ⟨rfl,x1.trans x2⟩
end
end
def cmpF (a b : Int) : Int := if a < b then -1 else if b < a then 1 else 0
def on2 (p : Int × Int) : Value := .iface 186 (.agg ⟨[nI p.1,nI p.2]⟩)
theorem score_ok [Fl] (h : Hp) (id : Int) : ACall PX 150 [nI id] h (fun v g => v = .int .u32 (scF id) ∧ h = g) := by
 refine acallA Tryz.func150 c150 ?_
 unfold ir150
 dsimp only [qo,qm,qk,q2,qi,qg,qn,qc,dq,ci,cb,qh,qs]
 repeat (first | apply sS | apply sE | refine w_mv rfl ?_ | refine w_cuw rfl ?_ | apply ai_seq | apply ai_regW)
 refine w_op (v := .int .u64 (IntKind.u64.wrap (IntKind.u64.wrap id * 2654435761))) (h' := h) rfl ?_
 repeat (first | apply sS)
 refine w_op (v := .int .u32 (scF id)) (h' := h) rfl ?_
 repeat (first | apply sS | apply sE | refine w_mv rfl ?_ | (apply ai_ret; repeat (first | rw [thenQ_r] | rw [blockQ_r] | rw [roundE_r])))
 exact end_one rfl ⟨rfl,rfl⟩
theorem nan_ok [Fl] (h : Hp) (a : Int) : ACall PX 151 [nI a] h (fun v g => v = .bool false ∧ h = g) := by
 refine acallA Tryz.func151 c151 ?_
 unfold ir151
 dsimp only [qo,qm,qk,q2,qi,qg,qn,qc,dq,ci,cb,qh,qs]
 repeat (first | apply sS | apply sE | refine w_mv rfl ?_ | (apply is_bin; refine w_cF rfl ?_) | apply ai_seq | apply ai_regW | (apply ai_ret; repeat (first | rw [thenQ_r] | rw [blockQ_r] | rw [roundE_r])))
 exact end_one rfl ⟨rfl,rfl⟩
theorem nan32_ok [Fl] (h : Hp) (a : Int) : ACall PX 183 [.int .u32 a] h (fun v g => v = .bool false ∧ h = g) := by
 refine acallA Tryz.func183 c183 ?_
 unfold ir183
 dsimp only [qo,qm,qk,q2,qi,qg,qn,qc,dq,ci,cb,qh,qs]
 repeat (first | apply sS | apply sE | refine w_mv rfl ?_ | (apply is_bin; refine w_cF rfl ?_) | apply ai_seq | apply ai_regW | (apply ai_ret; repeat (first | rw [thenQ_r] | rw [blockQ_r] | rw [roundE_r])))
 exact end_one rfl ⟨rfl,rfl⟩
theorem cmp_ok [Fl] (h : Hp) (a b : Int) : ACall PX 116 [nI a,nI b] h (fun v g => v = nI (cmpF a b) ∧ h = g) := by
 unfold cmpF
 refine acallA Tryz.func116 c116 ?_
 unfold ir116
 dsimp only [qo,qm,qk,q2,qi,qg,qn,qc,dq,ci,cb,qh,qs]
 repeat (first | apply sS | apply sE | refine w_mv rfl ?_ | (refine w_callE ((nan_ok _ _).mono ?_) rfl rfl; rintro _ _ ⟨rfl,rfl⟩) | apply ai_seq | apply ai_regW | refine ai_cF rfl ?_ | apply ai_skip)
 by_cases h1 : a < b
 ·rw [if_pos h1]
  repeat (first | apply sS | apply sE | refine w_mv rfl ?_ | (apply is_bin; refine w_cT rfl ?_) | apply ai_seq | apply ai_regW | refine ai_cT rfl ?_ | (apply ai_ret; repeat (first | rw [thenQ_r] | rw [blockQ_r] | rw [roundE_r])))
  exact end_one rfl ⟨rfl,rfl⟩
 rw [if_neg h1]
 by_cases h2 : b < a
 ·rw [if_pos h2]
  repeat (first | apply sS | apply sE | refine w_mv rfl ?_ | (apply is_bin; refine w_cT rfl ?_) | (apply is_bin; refine w_cF rfl ?_) | apply ai_seq | apply ai_regW | refine ai_cT rfl ?_ | refine ai_cF rfl ?_ | apply ai_skip | (apply ai_ret; repeat (first | rw [thenQ_r] | rw [blockQ_r] | rw [roundE_r])))
  exact end_one rfl ⟨rfl,rfl⟩
 ·rw [if_neg h2]
  repeat (first | apply sS | apply sE | refine w_mv rfl ?_ | (apply is_bin; refine w_cF rfl ?_) | apply ai_seq | apply ai_regW | refine ai_cF rfl ?_ | apply ai_skip | (apply ai_ret; repeat (first | rw [thenQ_r] | rw [blockQ_r] | rw [roundE_r])))
  exact end_one rfl ⟨rfl,rfl⟩
theorem cmp32_ok [Fl] (h : Hp) (a b : Int) : ACall PX 149 [.int .u32 a,.int .u32 b] h (fun v g => v = nI (cmpF a b) ∧ h = g) := by
 unfold cmpF
 refine acallA Tryz.func149 c149 ?_
 unfold ir149
 dsimp only [qo,qm,qk,q2,qi,qg,qn,qc,dq,ci,cb,qh,qs]
 repeat (first | apply sS | apply sE | refine w_mv rfl ?_ | (refine w_callE ((nan32_ok _ _).mono ?_) rfl rfl; rintro _ _ ⟨rfl,rfl⟩) | apply ai_seq | apply ai_regW | refine ai_cF rfl ?_ | apply ai_skip)
 by_cases h1 : a < b
 ·rw [if_pos h1]
  repeat (first | apply sS | apply sE | refine w_mv rfl ?_ | (apply is_bin; refine w_cT rfl ?_) | apply ai_seq | apply ai_regW | refine ai_cT rfl ?_ | (apply ai_ret; repeat (first | rw [thenQ_r] | rw [blockQ_r] | rw [roundE_r])))
  exact end_one rfl ⟨rfl,rfl⟩
 rw [if_neg h1]
 by_cases h2 : b < a
 ·rw [if_pos h2]
  repeat (first | apply sS | apply sE | refine w_mv rfl ?_ | (apply is_bin; refine w_cT rfl ?_) | (apply is_bin; refine w_cF rfl ?_) | apply ai_seq | apply ai_regW | refine ai_cT rfl ?_ | refine ai_cF rfl ?_ | apply ai_skip | (apply ai_ret; repeat (first | rw [thenQ_r] | rw [blockQ_r] | rw [roundE_r])))
  exact end_one rfl ⟨rfl,rfl⟩
 ·rw [if_neg h2]
  repeat (first | apply sS | apply sE | refine w_mv rfl ?_ | (apply is_bin; refine w_cF rfl ?_) | apply ai_seq | apply ai_regW | refine ai_cF rfl ?_ | apply ai_skip | (apply ai_ret; repeat (first | rw [thenQ_r] | rw [blockQ_r] | rw [roundE_r])))
  exact end_one rfl ⟨rfl,rfl⟩
def orF (a b c : Int) : Int := if a ≠ 0 then a else if b ≠ 0 then b else c
theorem or_ok [Fl] (h : Hp) (q : Nat) (a b c : Int) (hq : h.get q = some ⟨[nI a,nI b,nI c],true,1⟩) : ACall PX 148 [.slice (some ⟨q,0,none⟩) 3 3] h (fun v g => v = nI (orF a b c) ∧ h = g) := by
 unfold orF
 refine acallA Tryz.func148 c148 ?_
 unfold ir148
 dsimp only [qo,qm,qk,q2,qi,qg,qn,qc,dq,ci,cb,qh,qs]
 repeat (first | apply sS | apply sE | refine w_mv rfl ?_ | (refine is_okn rfl ?_; refine w_op rfl ?_) | apply ai_seq | apply ai_regW | apply ai_block)
 refine ai_loopE (γ := Nat) (fun i => [(3,nI 0),(6,.slice (some ⟨q,0,none⟩) 3 3),(7,nI 3),(8,nI i)]) (fun i g => g = h ∧ i ≤ 3 ∧ (0 < i → a = 0) ∧ (1 < i → b = 0) ∧ (2 < i → c = 0)) (fun i => 3 - i) 0
  leX ⟨rfl,Nat.zero_le _,fun h => absurd h (by omega),fun h => absurd h (by omega),fun h => absurd h (by omega)⟩ ?_
 rintro i g ⟨rfl,hi,h0,h1,h2⟩
 rcases (show i = 0 ∨ i = 1 ∨ i = 2 ∨ i = 3 by omega) with rfl | rfl | rfl | rfl
 ·by_cases ha : a = 0
  ·repeat (first | apply sS | apply sE | refine w_mv rfl ?_ | (apply is_ld; refine w_ldA rfl ?_) | (apply is_bin; refine w_addA rfl ?_) | (apply is_bin; refine w_cT rfl ?_) | (apply is_bin; refine w_cF rfl ?_) | (apply is_iad; refine w_iadA rfl ?_) | apply ai_seq | apply ai_regW | refine ai_cT rfl ?_ | refine ai_cF rfl ?_ | apply ai_skip | apply ai_block)
   exact ⟨1,leX,⟨rfl,by omega,fun _ => ha,fun h => absurd h (by omega),fun h => absurd h (by omega)⟩,by dsimp only; omega⟩
  ·rw [if_pos ha]
   repeat (first | apply sS | apply sE | refine w_mv rfl ?_ | (apply is_ld; refine w_ldA rfl ?_) | (apply is_bin; refine w_cT rfl ?_) | (apply is_iad; refine w_iadA rfl ?_) | apply ai_seq | apply ai_regW | refine ai_cT rfl ?_ | apply ai_skip | apply ai_block | (apply ai_ret; repeat (first | rw [thenQ_r] | rw [blockQ_r] | rw [roundE_r])))
   exact end_one rfl ⟨rfl,rfl⟩
 ·rw [if_neg (by simp [h0])]
  by_cases hb : b = 0
  ·repeat (first | apply sS | apply sE | refine w_mv rfl ?_ | (apply is_ld; refine w_ldA rfl ?_) | (apply is_bin; refine w_addA rfl ?_) | (apply is_bin; refine w_cT rfl ?_) | (apply is_bin; refine w_cF rfl ?_) | (apply is_iad; refine w_iadA rfl ?_) | apply ai_seq | apply ai_regW | refine ai_cT rfl ?_ | refine ai_cF rfl ?_ | apply ai_skip | apply ai_block)
   exact ⟨2,leX,⟨rfl,by omega,fun _ => h0 (by omega),fun _ => hb,fun h => absurd h (by omega)⟩,by dsimp only; omega⟩
  ·rw [if_pos hb]
   repeat (first | apply sS | apply sE | refine w_mv rfl ?_ | (apply is_ld; refine w_ldA rfl ?_) | (apply is_bin; refine w_cT rfl ?_) | (apply is_iad; refine w_iadA rfl ?_) | apply ai_seq | apply ai_regW | refine ai_cT rfl ?_ | apply ai_skip | apply ai_block | (apply ai_ret; repeat (first | rw [thenQ_r] | rw [blockQ_r] | rw [roundE_r])))
   exact end_one rfl ⟨rfl,rfl⟩
 ·rw [if_neg (by simp [h0]),if_neg (by simp [h1])]
  by_cases hc : c = 0
  ·repeat (first | apply sS | apply sE | refine w_mv rfl ?_ | (apply is_ld; refine w_ldA rfl ?_) | (apply is_bin; refine w_addA rfl ?_) | (apply is_bin; refine w_cT rfl ?_) | (apply is_bin; refine w_cF rfl ?_) | (apply is_iad; refine w_iadA rfl ?_) | apply ai_seq | apply ai_regW | refine ai_cT rfl ?_ | refine ai_cF rfl ?_ | apply ai_skip | apply ai_block)
   exact ⟨3,leX,⟨rfl,by omega,fun _ => h0 (by omega),fun _ => h1 (by omega),fun _ => hc⟩,by dsimp only; omega⟩
  ·repeat (first | apply sS | apply sE | refine w_mv rfl ?_ | (apply is_ld; refine w_ldA rfl ?_) | (apply is_bin; refine w_cT rfl ?_) | (apply is_iad; refine w_iadA rfl ?_) | apply ai_seq | apply ai_regW | refine ai_cT rfl ?_ | apply ai_skip | apply ai_block | (apply ai_ret; repeat (first | rw [thenQ_r] | rw [blockQ_r] | rw [roundE_r])))
   exact end_one rfl ⟨rfl,rfl⟩
 ·have e0 := h0 (by omega)
  have e1 := h1 (by omega)
  have e2 := h2 (by omega)
  rw [if_neg (by simp [e0]),if_neg (by simp [e1]),e2]
  repeat (first | apply sS | apply sE | refine w_mv rfl ?_ | (apply is_bin; refine w_cF rfl ?_) | apply ai_seq | apply ai_regW | refine ai_cF rfl ?_ | apply ai_exit | (apply ai_ret; repeat (first | rw [thenQ_r] | rw [blockQ_r] | rw [roundE_r])))
  exact end_one rfl ⟨rfl,rfl⟩
def befF (x y : Int × Int) : Int := orF (cmpF (scF x.1) (scF y.1)) (cmpF x.1 y.1) (cmpF x.2 y.2)
set_option maxHeartbeats 1000000 in
set_option maxRecDepth 10000 in
theorem before_ok [Fl] (x y : Int × Int) : ACall PX 114 [on2 x,on2 y] Hp.empty (fun v _ => v = nI (befF x y)) := by
 refine acallA Tryz.func114 c114 ?_
 unfold ir114
 dsimp only [qo,qm,qk,q2,qi,qg,qn,qc,dq,ci,cb,qh,qs]
 repeat (first | apply sS | apply sE | refine w_mv rfl ?_ | (refine is_okn rfl ?_; refine w_op rfl ?_) | refine w_ext rfl rfl ?_ | apply ai_seq | apply ai_regW)
 refine w_new fun g1 x1 k1 n1 => ?_
 repeat (first | apply sSn)
 refine w_stN rfl rfl k1 rfl rfl fun g2 m2 k2 n2 => ?_
 repeat (first | apply sS | apply sE | refine w_mv rfl ?_ | (refine is_okn rfl ?_; refine w_op rfl ?_) | refine w_ext rfl rfl ?_ | apply ai_seq | apply ai_regW)
 refine w_new fun g3 x3 k3 n3 => ?_
 repeat (first | apply sSn)
 refine w_stN rfl rfl k3 rfl rfl fun g4 m4 k4 n4 => ?_
 have k24 := (m4 Hp.empty.nx (by omega)).trans ((x3.2 _ (by omega)).trans k2)
 clear k1 k2 k3 m2 m4 x1 x3
 repeat (first | apply sS | apply dS | apply dSR | apply sE | (apply is_ag; refine agSA ?_) | refine w_mv rfl ?_ | (refine is_okk rfl ?_; refine w_op rfl ?_) | (apply is_ld; refine w_ldA rfl ?_) | (refine w_callE ((score_ok _ _).mono ?_) rfl rfl; rintro _ _ ⟨rfl,rfl⟩) | (refine w_callE ((cmp32_ok _ _ _).mono ?_) rfl rfl; rintro _ _ ⟨rfl,rfl⟩) | (refine w_callE ((cmp_ok _ _ _).mono ?_) rfl rfl; rintro _ _ ⟨rfl,rfl⟩) | apply ai_seq | refine ai_drwW (by kernel_rfl) ?_)
 refine w_call rfl ((or_ok _ _ _ _ _ (new_get _ _)).mono ?_)
 rintro v _ ⟨rfl,rfl⟩
 repeat (first | apply dS | apply dE | refine w_mv rfl ?_ | (apply ai_ret; repeat (first | rw [thenQ_r] | rw [blockQ_r] | rw [roundE_r])))
 exact end_one rfl rfl
theorem place_ok [Fl] (x y : Int × Int) : ACall PX 115 [on2 x,on2 y] Hp.empty (fun v _ => v = nI (cmpF x.2 y.2)) := by
 refine acallA Tryz.func115 c115 ?_
 unfold ir115
 dsimp only [qo,qm,qk,q2,qi,qg,qn,qc,dq,ci,cb,qh,qs]
 repeat (first | apply sS | apply dS | apply sE | apply dE | refine w_mv rfl ?_ | (refine is_okk rfl ?_; refine w_op rfl ?_) | (refine w_callE ((cmp_ok _ _ _).mono ?_) rfl rfl; rintro _ _ ⟨rfl,rfl⟩) | apply ai_seq | apply ai_regW | refine ai_drwW (by kernel_rfl) ?_ | (apply ai_ret; repeat (first | rw [thenQ_r] | rw [blockQ_r] | rw [roundE_r])))
 exact end_one rfl rfl
theorem Sim.repl [Fl] {base w0 m h w} (s : Sim base w0 m h w) {i : Nat} {ob : Ob} {l : Loc} {cs : List Value} {w' : World} (hi : h.get i = some ob) (hl : m i = some l) (hw : ob.rw = true) (hlen : cs.length = ob.cells.length)
  (hb : Below base w w') (hd : Fl.on → w.drawn ≤ w'.drawn) (hsame : ∀ b,b < w.heap.size → b ≠ l.blk → w'.heap[b]? = w.heap[b]?)
  (hblk : ∀ c e f,w.heap[l.blk]? = some (.cells c e f) → ∃ c',w'.heap[l.blk]? = some (.cells c' e f) ∧ c'.size = c.size) (hlies : Lies m w' l cs) : Sim base w0 m (h.put i { ob with cells := cs }) w' := by
 refine ⟨s.below.trans hb hd,Nat.le_trans s.big hb.size,s.fresh,fun k q hq => Nat.lt_of_lt_of_le (s.lt k q hq) hb.size,?_,?_,?_⟩
 ·obtain ⟨l2,hl2,_,hob⟩ := s.obs i ob hi (s.ms.ex _ _ hl)
  rw [hl] at hl2; cases hl2
  obtain ⟨_,c,e,f,h1,_⟩ := hob hw
  refine s.ms.keep rfl (fun b es ck hm => hsame b (Array.getElem?_eq_some_iff.1 hm).1 fun e => by rw [e,h1] at hm; cases hm) (fun k b hm => ?_) (Nat.le_refl _) s.ms.ex
  simp only [Hp.put]
  rw [if_neg (fun e => by rw [e,s.ms.ex _ _ hl] at hm; cases hm)]
 ·intro k o ek hno
  simp only [Hp.put] at ek
  split at ek
  ·next hk =>
   subst hk; cases ek
   obtain ⟨l2,hl2,_,hob⟩ := s.obs k ob hi hno
   rw [hl] at hl2; cases hl2
   obtain ⟨hbase,c,e,f,h1,h2,h3⟩ := hob hw
   obtain ⟨c',h4,h5⟩ := hblk c e f h1
   exact ⟨l,hl,hlies,fun _ => ⟨hbase,c',e,f,h4,by rw [h5]; exact h2,by dsimp only; rw [h5,hlen]; exact h3⟩⟩
  ·next hk =>
   obtain ⟨q,hq,h1,h2⟩ := s.obs k o ek hno
   have hne : q.blk ≠ l.blk := fun eb => s.apart i k ob o l q hi ek (fun e => hk e.symm) hw hl hq eb.symm
   have hs := hsame q.blk (s.lt k q hq) hne
   refine ⟨q,hq,fun n x ex => ?_,fun r => ⟨(h2 r).1,?_⟩⟩
   ·obtain ⟨x',hx,rx⟩ := h1 n x ex
    refine ⟨x',?_,rx⟩
    unfold World.cell? at hx ⊢
    rw [hs]; exact hx
   ·obtain ⟨c',e',f',h3,h4⟩ := (h2 r).2
    exact ⟨c',e',f',hs.trans h3,h4⟩
 ·intro k n a b p q ek en hkn ra ep eq
  simp only [Hp.put] at ek en
  split at ek <;> split at en
  ·next h1 h2 => exact absurd (h1.trans h2.symm) hkn
  ·next h1 h2 => cases ek; subst h1; exact s.apart k n ob b p q hi en hkn hw ep eq
  ·next h1 h2 => cases en; subst h2; exact s.apart k n a ob p q ek hi hkn ra ep eq
  ·exact s.apart k n a b p q ek en hkn ra ep eq
theorem sw_heap [Fl] {α : Type} [Inhabited α] {enc : α → Value} {w : World} {blk off n : Nat} {d : Array α} {os : Array Obj} {b : Nat} (hb : b < w.heap.size) :
  (sortWorld enc w blk off n d os).heap[b]? = (Go.Sort.putRow enc w blk off d).heap[b]? := by
 have hs : b < (Go.Sort.putRow enc (Go.Sort.ahead w n) blk off d).heap.size := by rw [Go.Sort.size_putRow]; exact hb
 show ((Go.Sort.putRow enc (Go.Sort.ahead w n) blk off d).heap ++ os)[b]? = _
 rw [Array.getElem?_append_left hs]
 rfl
theorem pr_heap [Fl] {α : Type} [Inhabited α] {enc : α → Value} {w : World} {blk off : Nat} {d : Array α} {b : Nat} (h : b ≠ blk) : (Go.Sort.putRow enc w blk off d).heap[b]? = w.heap[b]? := by
 unfold Go.Sort.putRow Go.Sort.mapBlock
 simp only [Array.getElem?_modify]
 rw [if_neg (fun e => h e.symm)]
theorem pr_blk [Fl] {α : Type} [Inhabited α] {enc : α → Value} {w : World} {blk off : Nat} {d : Array α} {c : Array Value} {e : TypeId} {f : Nat × Nat} (h : w.heap[blk]? = some (.cells c e f)) : (Go.Sort.putRow enc w blk off d).heap[blk]? = some (.cells (Go.Sort.putCells enc off d c) e f) := by
 unfold Go.Sort.putRow Go.Sort.mapBlock
 simp only [Array.getElem?_modify,if_true,h]
 rfl
theorem sort_br [Fl] {P : Program} {ρ : Go.Shelf.Ren} {α : Type} [Inhabited α] (L : Go.Proofs.SlLaysF.n6 P ρ) (enc : α → Value) (h1 : Go.Proofs.OneCell enc) (hfl : ∀ x,flat (enc x) = true) (cf : α → α → Int) (hO : Go.Sort.SWO (Go.Proofs.ltOf cf)) (g : Nat)
  (eg : ∀ args w,(callFunc g args).run P w = .ok (.enter g args) w)
  (hcmp : ∀ W x y,Calls P g #[enc x,enc y] W fun e w' => e = .returned (.int .i64 (cf x y)) ∧ ∃ q os',w' = Go.Sort.grow (W.drewN q) os')
  (he : Enters P (ρ.f 6)) (h : Hp) {j c : Nat} {l : List α} {tl : List Value} (hg : h.get j = some ⟨l.map enc ++ tl,true,1⟩) (hsz : l.length < 4611686018427387904) :
  ACall P (ρ.f 6) [.slice (some ⟨j,0,some 0⟩) l.length c,.func (.func g) #[] #[]] h (fun _ g' => ∃ l' : List α,Go.Sort.PermIn 0 l.length l.toArray l'.toArray ∧ Go.Sort.SortedIn (Go.Proofs.ltOf cf) 0 l.length l'.toArray ∧ l'.length = l.length ∧ g' = h.put j ⟨l'.map enc ++ tl,true,1⟩) := by
 refine ⟨he,fun base w0 m w args' ra s => ?_⟩
 obtain ⟨v',b',rfl,r1,r2⟩ := ra.cases_cons
 obtain ⟨u',b2',rfl,r3,r4⟩ := r2.cases_cons
 obtain rfl := r4.cases_nil
 have r3 := r3.flat_eq rfl
 subst r3
 cases r1 with
 | @sliceX _ _ _ _ lc hm =>
 obtain ⟨l2,hl2,hlies,hob⟩ := s.obs j _ hg (s.ms.ex _ _ hm)
 rw [hm] at hl2; cases hl2
 obtain ⟨hbase,cc,ce,cfz,hblk,hfr,hbig⟩ := hob rfl
 have hcell : ∀ i,i < l.length → w.cell? ⟨lc.blk,lc.off + 0 + i,none⟩ = some (enc l.toArray[i]!) ∧ w.frozen? ⟨lc.blk,lc.off + 0 + i,none⟩ = false := by
  intro i hi
  have hi2 : (l.map enc ++ tl)[i]? = some (enc l[i]) := by rw [List.getElem?_append_left (by simpa using hi),List.getElem?_map,List.getElem?_eq_getElem hi]; rfl
  obtain ⟨x',hx,rx⟩ := hlies i _ hi2
  have := rx.flat_eq (hfl _)
  subst this
  refine ⟨by rw [Nat.add_zero,hx]; simp [getElem!_pos,hi],?_⟩
  simp only [World.frozen?,hblk]
  have := hfr (lc.off + 0 + i) (by simp at hbig; omega)
  simp; omega
 have hH : Go.Sort.Holds enc w lc.blk (lc.off + 0) l.toArray := fun i hi => hcell i (by simpa using hi)
 have hlt := s.lt j lc hm
 have key := Go.Proofs.Any.slices_SortFunc L enc h1 cf hO g #[] lc.blk (lc.off + 0) (c + lc.slack) l.toArray w eg (fun _ _ _ _ x y => hcmp _ x y) hH hlt (by simpa using hsz)
 rw [List.size_toArray] at key
 refine key.mono ?_
 rintro e w' ⟨rfl,d',n,os,hp,hs,rfl⟩
 have hds : d'.size = l.length := by have := hp.1; simpa using this
 have hheap : ∀ b,b < w.heap.size → (sortWorld enc w lc.blk (lc.off + 0) n d' os).heap[b]? = (Go.Sort.putRow enc w lc.blk (lc.off + 0) d').heap[b]? := fun b hb => sw_heap hb
 have hbel : Below base w (sortWorld enc w lc.blk (lc.off + 0) n d' os) := by
  refine ⟨rfl,rfl,rfl,?_,fun b hb => ?_⟩
  ·show w.heap.size ≤ ((Go.Sort.putRow enc (Go.Sort.ahead w n) lc.blk (lc.off + 0) d').heap ++ os).size
   rw [Array.size_append,Go.Sort.size_putRow]
   exact Nat.le_add_right _ _
  ·rw [hheap b (Nat.lt_of_lt_of_le hb s.big),pr_heap (by omega)]
 refine ⟨m,.tuple #[],.tuple #[],h.put j ⟨d'.toList.map enc ++ tl,true,1⟩,rfl,m.le_refl,.tuple rfl (by simp),?_,d'.toList,hp,hs,by simpa using hds,rfl⟩
 refine s.repl (cs := d'.toList.map enc ++ tl) hg hm rfl (by simp [hds]) hbel (fun _ => Nat.le_add_right _ _) (fun b hb hne => by rw [hheap b hb,pr_heap hne]) (fun c2 e2 f2 h2 => ⟨_,(hheap _ hlt).trans (pr_blk h2),by simp [Go.Sort.putCells]⟩) ?_
 intro i v hv
 rcases Nat.lt_or_ge i l.length with hi | hi
 ·rw [List.getElem?_append_left (by simp [hds,hi]),List.getElem?_map] at hv
  have hi2 : i < d'.toList.length := by simp [hds,hi]
  rw [List.getElem?_eq_getElem hi2] at hv
  cases hv
  refine ⟨_,?_,RV.of_flat m _ (hfl _)⟩
  simp only [World.cell?,(hheap _ hlt).trans (pr_blk hblk)]
  simp only [Option.isSome_none,Bool.false_eq_true,if_false,Go.Sort.putCells,Array.getElem?_mapIdx]
  have hc2 : lc.off + i < cc.size := by simp at hbig; omega
  rw [Array.getElem?_eq_getElem hc2,Option.map_some,if_pos (by rw [hds]; omega)]
  simp [getElem!_pos,hds,hi]
 ·rw [List.getElem?_append_right (by simp [hds,hi])] at hv
  have hv2 : (l.map enc ++ tl)[i]? = some v := by
   rw [List.getElem?_append_right (by simpa using hi)]
   simpa [hds] using hv
  obtain ⟨x',hx,rx⟩ := hlies i v hv2
  refine ⟨x',?_,rx⟩
  simp only [World.cell?,hblk] at hx
  simp only [World.cell?,(hheap _ hlt).trans (pr_blk hblk)]
  simp only [Option.isSome_none,Bool.false_eq_true,if_false,Go.Sort.putCells,Array.getElem?_mapIdx] at hx ⊢
  rw [hx,Option.map_some,if_neg (by rw [hds]; omega)]
end Go.Proofs.YtelmcfnkclihcaaGreatDoorW.Am
namespace Go.Proofs
open Go.Shelf
def Tryz.sortA_ren : Go.Shelf.Ren := ⟨fun | 6 => 113 | 15 => 147 | 14 => 146 | 28 => 181 | 29 => 182 | 20 => 173 | 21 => 174 | 22 => 175 | 23 => 176 | 24 => 177 | 25 => 178 | 26 => 179 | 27 => 180 | 46 => 200 | 47 => 201 | 48 => 202 | 49 => 203 | 50 => 204 | 57 => 216 | n => n, fun | 22 => 59 | 24 => 20 | 25 => 188 | 3 => 3 | 39 => 35 | 0 => 0 | 53 => 229 | 55 => 159 | 4 => 4 | 46 => 253 | 45 => 252 | 50 => 139 | 5 => 5 | 9 => 9 | 66 => 268 | 70 => 205 | 76 => 288 | 77 => 289 | n => n, fun | n => n⟩
theorem Tryz.sortA : Go.Proofs.SlLaysF.n6 Tryz.prog Tryz.sortA_ren := {
  mixed := by kernel_rfl
  f6 := ⟨Tryz.f113.name, by decide, Tryz.func113.trans (congrArg some (by kernel_rfl))⟩
  f14 := ⟨Tryz.f146.name, by decide, Tryz.func146.trans (congrArg some (by kernel_rfl))⟩
  f15 := Tryz.func147.trans (congrArg some (by kernel_rfl))
  f20 := ⟨Tryz.f173.name, by decide, Tryz.func173.trans (congrArg some (by kernel_rfl))⟩
  f21 := ⟨Tryz.f174.name, by decide, Tryz.func174.trans (congrArg some (by kernel_rfl))⟩
  f22 := ⟨Tryz.f175.name, by decide, Tryz.func175.trans (congrArg some (by kernel_rfl))⟩
  f23 := ⟨Tryz.f176.name, by decide, Tryz.func176.trans (congrArg some (by kernel_rfl))⟩
  f24 := ⟨Tryz.f177.name, by decide, Tryz.func177.trans (congrArg some (by kernel_rfl))⟩
  f25 := ⟨Tryz.f178.name, by decide, Tryz.func178.trans (congrArg some (by kernel_rfl))⟩
  f26 := ⟨Tryz.f179.name, by decide, Tryz.func179.trans (congrArg some (by kernel_rfl))⟩
  f27 := ⟨Tryz.f180.name, by decide, Tryz.func180.trans (congrArg some (by kernel_rfl))⟩
  f28 := Tryz.func181.trans (congrArg some (by kernel_rfl))
  f29 := Tryz.func182.trans (congrArg some (by kernel_rfl))
  f46 := ⟨Tryz.f200.name, by decide, Tryz.func200.trans (congrArg some (by kernel_rfl))⟩
  f47 := Tryz.func201.trans (congrArg some (by kernel_rfl))
  f48 := Tryz.func202.trans (congrArg some (by kernel_rfl))
  f49 := ⟨Tryz.f203.name, by decide, Tryz.func203.trans (congrArg some (by kernel_rfl))⟩
  f50 := ⟨Tryz.f204.name, by decide, Tryz.func204.trans (congrArg some (by kernel_rfl))⟩
  f57 := ⟨Tryz.f216.name, by decide, Tryz.func216.trans (congrArg some (by kernel_rfl))⟩
  t0 := Tryz.underlying0
  a0 := Tryz.isAgg0
  z0 := Tryz.sizeOf0
  v0 := Tryz.zeroValue0
  t3 := Tryz.underlying3
  a3 := Tryz.isAgg3
  z3 := Tryz.sizeOf3
  v3 := Tryz.zeroValue3
  t4 := Tryz.underlying4
  a4 := Tryz.isAgg4
  z4 := Tryz.sizeOf4
  v4 := Tryz.zeroValue4
  t5 := Tryz.underlying5
  a5 := Tryz.isAgg5
  z5 := Tryz.sizeOf5
  v5 := Tryz.zeroValue5
  t9 := Tryz.underlying9
  a9 := Tryz.isAgg9
  z9 := Tryz.sizeOf9
  v9 := Tryz.zeroValue9
  t22 := Tryz.underlying59
  a22 := Tryz.isAgg59
  z22 := Tryz.sizeOf59
  v22 := Tryz.zeroValue59
  a24 := Tryz.isAgg20
  z24 := Tryz.sizeOf20
  t25 := Tryz.underlying188
  a25 := Tryz.isAgg188
  z25 := Tryz.sizeOf188
  v25 := Tryz.zeroValue188
  t39 := Tryz.underlying35
  a39 := Tryz.isAgg35
  z39 := Tryz.sizeOf35
  v39 := Tryz.zeroValue35
  t45 := Tryz.underlying252
  a45 := Tryz.isAgg252
  z45 := Tryz.sizeOf252
  v45 := Tryz.zeroValue252
  t46 := Tryz.underlying253
  a46 := Tryz.isAgg253
  z46 := Tryz.sizeOf253
  v46 := Tryz.zeroValue253
  t50 := Tryz.underlying139
  a50 := Tryz.isAgg139
  z50 := Tryz.sizeOf139
  v50 := Tryz.zeroValue139
  t53 := Tryz.underlying229
  a53 := Tryz.isAgg229
  z53 := Tryz.sizeOf229
  v53 := Tryz.zeroValue229
  t55 := Tryz.underlying159
  a55 := Tryz.isAgg159
  z55 := Tryz.sizeOf159
  v55 := Tryz.zeroValue159
  t66 := Tryz.underlying268
  a66 := Tryz.isAgg268
  z66 := Tryz.sizeOf268
  v66 := Tryz.zeroValue268
  t70 := Tryz.underlying205
  a70 := Tryz.isAgg205
  z70 := Tryz.sizeOf205
  v70 := Tryz.zeroValue205
  t76 := Tryz.underlying288
  a76 := Tryz.isAgg288
  z76 := Tryz.sizeOf288
  v76 := Tryz.zeroValue288
  t77 := Tryz.underlying289
  a77 := Tryz.isAgg289
  z77 := Tryz.sizeOf289
  v77 := Tryz.zeroValue289 }
end Go.Proofs
namespace Go.Proofs.YtelmcfnkclihcaaGreatDoorW.Am
open Go Go.RowKit
theorem cmpF_lt (a b : Int) : cmpF a b < 0 ↔ a < b := by unfold cmpF; split <;> (try split) <;> omega
theorem cmpF_0 (a b : Int) : cmpF a b = 0 ↔ a = b := by unfold cmpF; split <;> (try split) <;> omega
theorem befF_lt (x y : Int × Int) : befF x y < 0 ↔ ahF x y := by
 have h1 := cmpF_lt (scF x.1) (scF y.1)
 have h2 := cmpF_0 (scF x.1) (scF y.1)
 have h3 := cmpF_lt x.1 y.1
 have h4 := cmpF_0 x.1 y.1
 have h5 := cmpF_lt x.2 y.2
 unfold befF orF ahF
 split
 ·omega
 ·split <;> omega
theorem ltB (x y : Int × Int) : Go.Proofs.ltOf befF x y = decide (ahF x y) := by
 unfold Go.Proofs.ltOf
 exact decide_eq_decide.2 (befF_lt x y)
theorem swoB : Go.Sort.SWO (Go.Proofs.ltOf befF) where
 irrefl x := by rw [ltB]; simp [ahF]
 trans x y z h1 h2 := by
  rw [ltB,decide_eq_true_eq] at *
  unfold ahF at *
  omega
 ntrans x y z h1 h2 := by
  rw [ltB,decide_eq_false_iff_not] at *
  unfold ahF at *
  omega
def atF (x y : Int × Int) : Int := cmpF x.2 y.2
theorem ltA (x y : Int × Int) : Go.Proofs.ltOf atF x y = decide (x.2 < y.2) := by
 unfold Go.Proofs.ltOf atF
 exact decide_eq_decide.2 (cmpF_lt _ _)
theorem swoA : Go.Sort.SWO (Go.Proofs.ltOf atF) where
 irrefl x := by rw [ltA]; simp
 trans x y z h1 h2 := by rw [ltA] at *; simp at *; omega
 ntrans x y z h1 h2 := by rw [ltA] at *; simp at *; omega
theorem on2_flat (x : Int × Int) : flat (on2 x) = true := rfl
theorem perm_of {l l' : List (Int × Int)} (h : Go.Sort.PermIn 0 l.length l.toArray l'.toArray) (hl : l'.length = l.length) : l'.Perm l := by
 have h3 := h.2.2
 rw [Array.toList_extract,Array.toList_extract,List.extract_eq_take_drop,List.extract_eq_take_drop] at h3
 simpa [List.take_of_length_le,hl] using h3
theorem sorted_of {lt : Int × Int → Int × Int → Bool} {l : List (Int × Int)} {n : Nat} (h : Go.Sort.SortedIn lt 0 n l.toArray) (hl : l.length = n) : l.Pairwise fun x y => lt y x = false := by
 rw [List.pairwise_iff_getElem]
 intro i j hi hj hij
 have := h i j (Nat.zero_le _) hij (by omega)
 simpa [getElem!_pos,hi,hj] using this
theorem sortB_ok (h : Hp) {j c : Nat} {l : List (Int × Int)} {tl : List Value} (hg : h.get j = some ⟨l.map on2 ++ tl,true,1⟩) (hsz : l.length < 1000000) :
  ACall PX 113 [.slice (some ⟨j,0,some 0⟩) l.length c,.func (.func 114) #[] #[]] h (fun _ g' => ∃ l' : List (Int × Int),l'.Perm l ∧ (l'.Pairwise fun x y => ¬ ahF y x) ∧ g' = h.put j ⟨l'.map on2 ++ tl,true,1⟩) := by
 have eg : ∀ args w,(callFunc 114 args).run PX w = .ok (.enter 114 args) w := enters_of Tryz.func114 (by kernel_rfl) rfl
 have he : Enters PX 113 := enters_comp Tryz.func113 c113
 refine (sort_br Tryz.sortA on2 (fun _ => rfl) on2_flat befF swoB 114 eg (fun W x y => ?_) he h hg (by omega)).mono ?_
 ·exact @unbridge ⟨True,fun _ => True⟩ _ _ _ (x := nI (befF x y)) rfl rfl (@before_ok ⟨True,fun _ => True⟩ x y) trivial W (fun _ _ _ => trivial) trivial
 ·rintro v g' ⟨l',hp,hs,hl,rfl⟩
  exact ⟨l',perm_of hp hl,(sorted_of hs hl).imp fun h => by rw [ltB] at h; simpa using h,rfl⟩
theorem sortA_ok (h : Hp) {j c : Nat} {l : List (Int × Int)} {tl : List Value} (hg : h.get j = some ⟨l.map on2 ++ tl,true,1⟩) (hsz : l.length < 1000000) :
  ACall PX 113 [.slice (some ⟨j,0,some 0⟩) l.length c,.func (.func 115) #[] #[]] h (fun _ g' => ∃ l' : List (Int × Int),l'.Perm l ∧ (l'.Pairwise fun x y => ¬ y.2 < x.2) ∧ g' = h.put j ⟨l'.map on2 ++ tl,true,1⟩) := by
 have eg : ∀ args w,(callFunc 115 args).run PX w = .ok (.enter 115 args) w := enters_of Tryz.func115 (by kernel_rfl) rfl
 have he : Enters PX 113 := enters_comp Tryz.func113 c113
 refine (sort_br Tryz.sortA on2 (fun _ => rfl) on2_flat atF swoA 115 eg (fun W x y => ?_) he h hg (by omega)).mono ?_
 ·exact @unbridge ⟨True,fun _ => True⟩ _ _ _ (x := nI (cmpF x.2 y.2)) rfl rfl (@place_ok ⟨True,fun _ => True⟩ x y) trivial W (fun _ _ _ => trivial) trivial
 ·rintro v g' ⟨l',hp,hs,hl,rfl⟩
  exact ⟨l',perm_of hp hl,(sorted_of hs hl).imp fun h => by rw [ltA] at h; simpa using h,rfl⟩
theorem zL_len : ∀ (l : List Int) (k : Nat),(zL k l).length = l.length
 | [],_ => rfl
 | a :: l,k => by simp [zL,zL_len l]
theorem zL_fst : ∀ (l : List Int) (k : Nat),(zL k l).map (·.1) = l
 | [],_ => rfl
 | a :: l,k => by simp [zL,zL_fst l]
theorem zL_app : ∀ (l : List Int) (k : Nat) (a : Int),zL k (l ++ [a]) = zL k l ++ [(a,((k + l.length : Nat) : Int))]
 | [],k,a => by simp [zL]
 | b :: l,k,a => by simp [zL,zL_app l (k + 1) a]; omega
theorem zL_mem : ∀ {l : List Int} {k : Nat} {p : Int × Int},p ∈ zL k l → (k : Int) ≤ p.2
 | [],_,_,h => by cases h
 | a :: l,k,p,h => by
  simp only [zL,List.mem_cons] at h
  rcases h with rfl | h
  ·exact Int.le_refl _
  ·have := zL_mem h; omega
theorem zL_pw : ∀ (l : List Int) (k : Nat),(zL k l).Pairwise fun x y => x.2 < y.2
 | [],_ => .nil
 | a :: l,k => .cons (fun p hp => by have := zL_mem hp; dsimp only; omega) (zL_pw l (k + 1))
theorem ahF_irr (x : Int × Int) : ¬ ahF x x := by unfold ahF; omega
theorem ahF_asym {x y : Int × Int} (h : ahF x y) : ¬ ahF y x := by unfold ahF at *; omega
theorem ahF_tri {x y : Int × Int} (h : ¬ ahF y x) : ahF x y ∨ x = y := by
 obtain ⟨a,b⟩ := x
 obtain ⟨c,d⟩ := y
 unfold ahF at *
 dsimp only at *
 rcases Int.lt_trichotomy (scF a) (scF c) with h1 | h1 | h1
 ·exact .inl (.inl h1)
 ·rcases Int.lt_trichotomy a c with h2 | h2 | h2
  ·exact .inl (.inr ⟨h1,.inl h2⟩)
  ·rcases Int.lt_trichotomy b d with h3 | h3 | h3
   ·exact .inl (.inr ⟨h1,.inr ⟨h2,h3⟩⟩)
   ·exact .inr (by rw [h2,h3])
   ·exact absurd (.inr ⟨h1.symm,.inr ⟨h2.symm,h3⟩⟩) h
  ·exact absurd (.inr ⟨h1.symm,.inl h2⟩) h
 ·exact absurd (.inl h1) h
theorem rk_at : ∀ {S : List (Int × Int)},S.Pairwise ahF → ∀ {i : Nat} {x},S[i]? = some x → rk S x = i
 | [],_,_,_,h => by cases h
 | a :: S,hp,0,x,h => by
  cases h
  have hp := List.pairwise_cons.1 hp
  unfold rk
  rw [List.countP_cons,if_neg (by simp [ahF_irr])]
  rw [List.countP_eq_zero.2 fun y hy => by simp [ahF_asym (hp.1 y hy)]]
 | a :: S,hp,i + 1,x,h => by
  have hp := List.pairwise_cons.1 hp
  have h2 : S[i]? = some x := by simpa using h
  have := rk_at hp.2 h2
  unfold rk at *
  rw [List.countP_cons,this,if_pos (by simp [hp.1 x (List.mem_of_getElem? h2)])]
theorem filter_take {α : Type} {p : α → Bool} : ∀ (S : List α) (m : Nat),(∀ (i : Nat) x,S[i]? = some x → (p x = true ↔ i < m)) → S.filter p = S.take m
 | [],m,_ => by simp
 | a :: S,0,h => by
  have h0 := h 0 a rfl
  rw [List.take_zero,List.filter_eq_nil_iff]
  intro x hx
  obtain ⟨i,hi⟩ := List.mem_iff_getElem?.1 hx
  have := h i x hi
  simp at this
  simpa using this
 | a :: S,m + 1,h => by
  have h0 := (h 0 a rfl).2 (by omega)
  rw [List.filter_cons,if_pos h0,List.take_succ_cons,filter_take S m fun i x hx => (h (i + 1) x (by simpa using hx)).trans (by omega)]
theorem pw_of {S : List (Int × Int)} (hs : S.Pairwise fun x y => ¬ ahF y x) (hn : S.Nodup) : S.Pairwise ahF := by
 refine (hs.and hn).imp ?_
 rintro x y ⟨h1,h2⟩
 exact (ahF_tri h1).resolve_right h2
theorem pw2_nodup {L : List (Int × Int)} (h : L.Pairwise fun x y => x.2 < y.2) : L.Nodup := h.imp fun h e => by rw [e] at h; omega
theorem pw2_uniq : ∀ {L : List (Int × Int)},(L.Pairwise fun x y => x.2 < y.2) → ∀ {a b : Int × Int},a ∈ L → b ∈ L → a.2 = b.2 → a = b
 | [],_,_,_,h,_,_ => by cases h
 | c :: L,h,a,b,ha,hb,e => by
  have h := List.pairwise_cons.1 h
  rcases List.mem_cons.1 ha with h1 | h1 <;> rcases List.mem_cons.1 hb with h2 | h2
  ·rw [h1,h2]
  ·have := h.1 b h2; rw [h1] at e; omega
  ·have := h.1 a h1; rw [h2] at e; omega
  ·exact pw2_uniq h.2 h1 h2 e
theorem two_sorts {L S T : List (Int × Int)} {m : Nat} (hL : L.Pairwise fun x y => x.2 < y.2) (hS : S.Perm L) (hs : S.Pairwise fun x y => ¬ ahF y x) (hT : T.Perm (S.take m)) (ht : T.Pairwise fun x y => ¬ y.2 < x.2) :
  T = L.filter fun x => decide (rk L x < m) := by
 have hn := pw2_nodup hL
 have hp := pw_of hs (hS.nodup_iff.2 hn)
 have hrk : ∀ x,rk L x = rk S x := fun x => (hS.countP_eq _).symm
 have h1 : S.take m = S.filter fun x => decide (rk L x < m) := (filter_take S m fun i x hx => by rw [hrk,rk_at hp hx]; simp).symm
 rw [h1] at hT
 have h2 : T.Perm (L.filter fun x => decide (rk L x < m)) := hT.trans (hS.filter _)
 refine List.Perm.eq_of_pairwise (le := fun x y => x.2 ≤ y.2 ∧ (x ∈ L → y ∈ L → x.2 = y.2 → x = y)) ?_ ?_ ?_ h2
 ·intro a b ha hb h3 h4
  have hab : a.2 = b.2 := by omega
  have ma : a ∈ L := (List.mem_filter.1 (h2.subset ha)).1
  have mb : b ∈ L := (List.mem_filter.1 hb).1
  exact h3.2 ma mb hab
 ·refine ht.imp_of_mem fun {a b} ha hb h => ⟨by omega,fun ma mb e => ?_⟩
  exact pw2_uniq hL ma mb e
 ·exact ((hL.sublist List.filter_sublist).imp fun h => ⟨by omega,fun ma mb e => by omega⟩)
end Go.Proofs.YtelmcfnkclihcaaGreatDoorW.Am
