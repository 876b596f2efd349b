/- The system over abstract heaps: New. -/
import Derived.Test.YtelmcfnkclihcaaGreatDoorTopK5
import Derived.Test.YtelmcfnkclihcaaGreatDoorTopK3
import Derived.Test.YtelmcfnkclihcaaGreatDoorTopK2
import Derived.ChangeSlices
import Derived.OpenShut
import Derived.ChangeArms
import Derived.DataReads
import Derived.ChangeKeysEq
import Derived.Test.YtelmcfnkclihcaaGreatDoorTopK1
import Derived.Handed
import Derived.HandedShaped
import Derived.Test.YtelmcfnkclihcaaGreatDoorRows
import Derived.Deep.DeepLaidRun
import Derived.Stop.LaidErr
namespace Go.Proofs.YtelmcfnkclihcaaGreatDoorW.Am
open Go Go.RowKit
theorem Tn.of_extT {T : Tg} {h g : Hp} {t : Nat} (_ : Tw T h) (x : Ext h g) : Tn [t] T h (tg T h g t) g := .of_fr ⟨x.1,fun k hk _ => x.2 k hk⟩
def syN0 (c : Cf20) : Sy := { syNew c with ps := [],made := 0,proxy := false }
theorem SyI.new {c : Cf20} (hm : mayB c = true) : SyI (syNew c) := by
 have k := cf_ok hm
 have ht := k.top
 have h1 := k.initial
 have h2 := k.queue
 have c0 : CtP 0 [] := ⟨.nil,fun p hp => by cases hp⟩
 obtain ⟨c1,c2⟩ := c0.sc (now := 0) (by omega) (Int.le_refl _) c.initial.toNat
 obtain ⟨c3,c4,c5⟩ := c1.ripe (now := 0) (after := 0)
 have em : scM 0 c.initial.toNat [] = c.initial := by simp [scM,cF]; omega
 rw [em] at c3
 have hbz : ∀ p ∈ scL 0 0 c.initial.toNat [],p.2.2.1 ≤ 1000 ∧ p.2.2.2 ≤ 0 := sc_bz (fun p hp => by cases hp)
 unfold syNew
 refine ⟨hm,by dsimp only; omega,c3,by dsimp only; omega,by dsimp only; rw [cF_ripe,cF_sc]; omega,fun p hp => ?_,by dsimp only; rw [c4,c2]; simp [sB],by simp,by dsimp only; omega,by dsimp only; omega,(fun w hw => by cases hw),(fun x hx => by cases hx),.new hm,by dsimp only; omega,by dsimp only; omega,by simp⟩
 obtain ⟨p',hp',rfl⟩ := List.mem_map.1 hp
 have := hbz p' hp'
 unfold rpF
 split
 ·exact this
 ·exact this
set_option maxHeartbeats 2000000 in
theorem snew_no (h : Hp) {c : Cf20} (hm : mayB c = false) : ACall PX 6 [.agg ⟨cs20 c⟩] h (fun v g => v = .tuple #[.pointer none,nI 1] ∧ Ext h g) := by
 refine acallA Tryz.func6 c6 ?_
 unfold ir6
 dsimp only [qo,qm,qk,q2,qi,qg,qn,qc,dq,ci,cb,qh,qs]
 repeat (first | apply sS | apply ai_seq | apply ai_regW)
 refine w_box rfl fun g1 x1 k1 n1 => ?_
 replace k1 : g1.get h.nx = some ⟨cs20 c,true,0⟩ := k1
 repeat (first | apply sS | apply sE | refine w_mv rfl ?_ | (apply is_ldn; refine w_ldnA rfl ?_) | apply ai_seq | apply ai_regW)
 refine w_call rfl ((may_ok g1 c).mono ?_)
 rintro _ g2 ⟨rfl,x2⟩
 rw [hm]
 repeat (first | apply sS | apply sE | refine w_mv rfl ?_ | (refine is_okn rfl ?_; refine w_op rfl ?_) | apply ai_seq | apply ai_regW | refine ai_cT rfl ?_ | (apply ai_ret; repeat (first | rw [thenQ_r] | rw [blockQ_r] | rw [roundE_r])))
 exact end_two rfl rfl ⟨rfl,x1.trans x2⟩
set_option maxHeartbeats 2000000 in
theorem new_sy (h : Hp) {c : Cf20} (hm : mayB c = true) : ACall PX 6 [.agg ⟨cs20 c⟩] h (fun v g => ∃ s P L q D T,v = .tuple #[ptr s,nI 0] ∧ SyG g T s P L q D (.slice none 0 0) (.slice none 0 0) (syNew c) ∧ (∀ k,T k ≠ 0 → h.nx ≤ k) ∧ Ext h g) := by
 have hcf := cf_ok hm
 have hq := hcf.queue
 have hi := hcf.initial
 have ht := hcf.top
 refine acallA Tryz.func6 c6 ?_
 unfold ir6
 dsimp only [qo,qm,qk,q2,qi,qg,qn,qc,dq,ci,cb,qh,qs]
 repeat (first | apply sS | apply ai_seq | apply ai_regW)
 refine w_box rfl fun g1 x1 k1 n1 => ?_
 replace k1 : g1.get h.nx = some ⟨cs20 c,true,0⟩ := k1
 repeat (first | apply sS | apply sE | refine w_mv rfl ?_ | (apply is_ldn; refine w_ldnA rfl ?_) | apply ai_seq | apply ai_regW)
 refine w_call rfl ((mayT hm g1).mono ?_)
 rintro _ g2 ⟨rfl,x2⟩
 have B2 : Hd g2 h.nx ⟨cs20 c,true,0⟩ := Hd.ext ⟨n1,k1⟩ x2
 clear k1
 repeat (first | apply sS | apply sE | (refine is_okk rfl ?_; refine w_op rfl ?_) | refine ai_cF rfl ?_ | apply ai_skip)
 refine ai_join (γ := Nat × Nat × Nat × Nat × Nat × Tg) (fun e => [(1,ptr h.nx),(4,ptr e.1)])
  (fun e g => SyG g e.2.2.2.2.2 e.1 e.2.1 e.2.2.1 e.2.2.2.1 e.2.2.2.2.1 (.slice none 0 0) (.slice none 0 0) (syN0 c) ∧ (∀ k,e.2.2.2.2.2 k ≠ 0 → h.nx < k) ∧ Ext h g ∧ Hd g h.nx ⟨cs20 c,true,0⟩) ?_ ?_
 ·obtain ⟨hB2,kB2⟩ := B2
  repeat (first | (refine is_okn rfl ?_; refine w_op rfl ?_) | (apply is_ld; refine w_ldA rfl ?_) | (apply is_ldn; refine w_ldnA rfl ?_) | apply tS | apply tSR | refine ai_drtW (by kernel_rfl) ?_)
  refine w_call rfl ((new_lf g2).mono ?_)
  rintro _ g3 ⟨rfl,lf3,x3⟩
  obtain ⟨hB3,kB3⟩ := Hd.ext ⟨hB2,kB2⟩ x3
  clear kB2
  repeat (first | (refine is_okn rfl ?_; refine w_op rfl ?_) | apply tS | apply tSR | (apply is_ag; refine agTA ?_))
  refine w_call rfl ((new_ok g3 (d := c.queue) (by omega) (by omega)).mono ?_)
  rintro _ g4 ⟨rfl,qa4,x4⟩
  obtain ⟨hB4,kB4⟩ := Hd.ext ⟨hB3,kB3⟩ x4
  clear kB3
  have y3 := Tn.of_extT (T := fun _ => 0) (t := 1) (fun _ _ => rfl) x3
  have y4 := Tn.of_extT (T := tg (fun _ => 0) g2 g3 1) (t := 2) y3.w x4
  repeat (first | (refine is_okn rfl ?_; refine w_op rfl ?_) | apply tS | apply tSR | (apply is_ag; refine agTA ?_))
  refine w_call rfl ((ddnew_ok g4 y4.w hm).mono ?_)
  rintro _ g5 ⟨D,T5,rfl,dd5,y5,x5,hD⟩
  have hL : g2.nx < g3.nx := lf3.lt _ (by simp)
  have hQ : g3.nx < g4.nx := qa4.ql
  have fin : ∀ {P s : Nat} {g8 : Hp},Ext g5 g8 → g5.nx ≤ P → P < g8.nx → g5.nx ≤ s → s < g8.nx → P ≠ s → g8.get P = some ⟨[lE g2.nx,quE g3.nx,dE' D],true,1⟩ → g8.get s = some ⟨syV (syN0 c) P (.slice none 0 0) (.slice none 0 0),true,0⟩ →
    SyG g8 (tg T5 g5 g8 10) s P g2.nx g3.nx D (.slice none 0 0) (.slice none 0 0) (syN0 c) ∧ (∀ k,tg T5 g5 g8 10 k ≠ 0 → h.nx < k) ∧ Ext h g8 ∧ Hd g8 h.nx ⟨cs20 c,true,0⟩ := by
   intro P s g8 X hP1 hP2 hs1 hs2 hne kP ks
   have y8 := Tn.of_extT (T := T5) (t := 10) y5.w X
   have tn : ∀ k,g5.nx ≤ k → k < g8.nx → tg T5 g5 g8 10 k = 10 := fun k h1 h2 => by unfold tg; rw [if_neg (by omega),if_pos h2]
   have o1 := x1.1; have o2 := x2.1
   have lt : LfT g3 (tg (fun _ => 0) g2 g3 1) g2.nx [] 0 := ⟨_,lf3,fun k hk => by
    have : k = g2.nx := by simpa using hk
    subst this
    unfold tg
    rw [if_neg (by omega),if_pos hL]⟩
   have qt : QuT g4 (tg (tg (fun _ => 0) g2 g3 1) g3 g4 2) g3.nx c.queue (-9223372036854775808) [] := ⟨_,qa4,by unfold tg; rw [if_neg (by omega),if_pos hQ],by unfold tg; rw [if_neg (by omega),if_pos hQ]⟩
   refine ⟨⟨y8.w,hs2,tn s hs1 hs2,ks,hP2,tn P hP1 hP2,kP,hne,((lt.tr y4 (by decide)).tr y5 (by decide)).tr y8 (by decide),(qt.tr y5 (by decide)).tr y8 (by decide),dd5.tr y8 (by decide),⟨.inl ⟨rfl,rfl⟩,fun _ _ _ e => by cases e⟩,.inl ⟨rfl,rfl⟩⟩,fun k hk => ?_,x1.trans (x2.trans (x3.trans (x4.trans (x5.trans X)))),Hd.ext ⟨hB4,kB4⟩ (x5.trans X)⟩
   rcases Nat.lt_or_ge h.nx k with q | q
   ·exact q
   ·exfalso
    apply hk
    have o3 := x3.1; have o4 := x4.1; have o5 := x5.1
    rw [y8.ex k (by omega),y5.ex k (by omega),y4.ex k (by omega),y3.ex k (by omega)]
  obtain ⟨hB5,kB5⟩ := Hd.ext ⟨hB4,kB4⟩ x5
  clear kB4
  repeat (first | (refine is_okn rfl ?_; refine w_op rfl ?_) | apply tS | (apply is_ag; refine agTA ?_))
  refine tA ?_ ?_
  ·repeat (first | apply tSR)
   refine w_bslF rfl rfl rfl rfl rfl fun g6 x6 k6 n6 => ?_
   obtain ⟨hB6,kB6⟩ := Hd.ext ⟨hB5,kB5⟩ x6
   clear kB5
   repeat (first | apply tSR | (apply is_ag; refine agTA ?_))
   refine w_call rfl ((znew_ok g6).mono ?_)
   rintro _ g7 ⟨rfl,x7⟩
   obtain ⟨hB7,kB7⟩ := Hd.ext ⟨hB6,kB6⟩ x7
   clear kB6
   repeat (first | apply tS | (apply is_ag; refine agTA ?_))
   refine w_bldG (us := syV (syN0 c) g5.nx (.slice none 0 0) (.slice none 0 0)) rfl rfl rfl ?_
   repeat (first | apply tS)
   refine w_box rfl fun g8 x8 k8 n8 => ?_
   repeat (first | refine w_mv rfl ?_ | apply tS | apply tE)
   exact ⟨rfl,(g7.nx,g5.nx,g2.nx,g3.nx,D,_),leX,fin (P := g5.nx) (s := g7.nx) (x6.trans (x7.trans x8)) (Nat.le_refl _) (by have := x7.1; have := x8.1; omega) (by have := x7.1; have := x6.1; omega) n8 (by have := x7.1; omega) (((x7.trans x8).2 _ n6).trans k6) k8⟩
  ·repeat (first | apply tSR)
   refine w_call rfl ((znew_ok g5).mono ?_)
   rintro _ g6 ⟨rfl,x6⟩
   obtain ⟨hB6,kB6⟩ := Hd.ext ⟨hB5,kB5⟩ x6
   clear kB5
   repeat (first | apply tSR | (apply is_ag; refine agTA ?_))
   refine w_bslF rfl rfl rfl rfl rfl fun g7 x7 k7 n7 => ?_
   obtain ⟨hB7,kB7⟩ := Hd.ext ⟨hB6,kB6⟩ x7
   clear kB6
   repeat (first | apply tS | (apply is_ag; refine agTA ?_))
   refine w_bldG (us := syV (syN0 c) g6.nx (.slice none 0 0) (.slice none 0 0)) rfl rfl rfl ?_
   repeat (first | apply tS)
   refine w_box rfl fun g8 x8 k8 n8 => ?_
   repeat (first | refine w_mv rfl ?_ | apply tS | apply tE)
   exact ⟨rfl,(g7.nx,g6.nx,g2.nx,g3.nx,D,_),leX,fin (P := g6.nx) (s := g7.nx) (x6.trans (x7.trans x8)) x6.1 (by have := x8.1; omega) (by have := x6.1; omega) n8 (by omega) ((x8.2 _ n7).trans k7) k8⟩
 rintro ⟨s,P,L,q,D,T⟩ g8 ⟨a8,hT,x8,B8⟩
 dsimp only at a8 hT ⊢
 obtain ⟨hB8,kB8⟩ := B8
 have hT0 : T h.nx = 0 := by
  rcases Nat.eq_zero_or_pos (T h.nx) with q | q
  ·exact q
  ·have := hT h.nx (by omega); omega
 obtain ⟨S8,lf8,ht8⟩ := a8.lf
 replace lf8 : LF g8 S8 L [] 0 := lf8
 repeat (first | apply dS | apply dSR | (apply is_ag; refine agSA ?_) | refine w_mv rfl ?_ | (refine is_okn rfl ?_; refine w_op rfl ?_) | (apply is_ld; refine w_ldA rfl ?_) | (refine w_callE ((pods_ok a8).mono ?_) rfl rfl; rintro _ _ ⟨rfl,rfl⟩) | apply ai_seq | refine ai_drwW (by kernel_rfl) ?_)
 refine w_call rfl ((scale_lf g8 (w := c.initial) (now := 0) lf8 (by simp) (by omega) (by omega) (by omega)).mono ?_)
 rintro _ g9 ⟨rfl,S9,lf9,gr9,fr9⟩
 obtain ⟨lt9,y9⟩ := lf_tn a8.w lf8 ht8 lf9 gr9 fr9
 have a9 := a8.life y9 lt9
 have kB9 := (y9.fr _ hB8 (by rw [hT0]; decide)).trans kB8
 have hB9 := Nat.lt_of_lt_of_le hB8 y9.nx
 have hT9 := (y9.ex _ hB8).trans hT0
 clear kB8
 generalize tg T g8 g9 1 = T9 at *
 obtain ⟨S9',lf9',ht9⟩ := a9.lf
 have c0 : CtP 0 [] := ⟨.nil,fun p hp => by cases hp⟩
 have hsc := (c0.sc (now := 0) (by omega) (Int.le_refl _) c.initial.toNat).1
 have hcl : (scL 0 0 c.initial.toNat []).length ≤ 900000 := by
  have h1 := hsc.len
  rw [cF_sc,(c0.sc (now := 0) (by omega) (Int.le_refl _) c.initial.toNat).2] at h1
  simp only [sB] at h1
  omega
 repeat (first | apply sS | apply dE | refine w_mv rfl ?_ | (refine w_callE ((pods_ok a9).mono ?_) rfl rfl; rintro _ _ ⟨rfl,rfl⟩) | apply ai_seq | apply ai_regW)
 refine w_call rfl ((ripe_lf g9 (now := 0) (after := 0) lf9' hcl (by omega) (by omega) (fun p hp => (hsc.each p hp).2.2.2.2)).mono ?_)
 rintro _ g10 ⟨lf10,fr10⟩
 obtain ⟨lt10,y10⟩ := lf_tn a9.w lf9' ht9 lf10 (Gr.refl _ _) fr10
 have a10 := a9.life y10 lt10
 have kB10 := (y10.fr _ hB9 (by rw [hT9]; decide)).trans kB9
 have hB10 := Nat.lt_of_lt_of_le hB9 y10.nx
 have hT10 := (y10.ex _ hB9).trans hT9
 clear kB9
 generalize tg T9 g9 g10 1 = T10 at *
 repeat (first | apply dS | apply dSR | apply sE | refine w_mv rfl ?_ | (refine is_okn rfl ?_; refine w_op rfl ?_) | (apply is_ld; refine w_ldA rfl ?_) | (apply is_ldn; refine w_ldnA rfl ?_) | apply ai_seq | refine ai_drwW (by kernel_rfl) ?_)
 refine w_call rfl ((bexc_ok g10 hm c.initial (quick := 0) (by unfold L64; omega)).mono ?_)
 rintro _ g11 ⟨rfl,x11⟩
 have a11 := a10.ext x11
 have kB11 := (x11.2 _ hB10).trans kB10
 have hB11 := Nat.lt_of_lt_of_le hB10 x11.1
 clear kB10
 repeat (first | apply dS | (apply is_ag; refine agSA ?_))
 refine w_call rfl ((bprox_ok g11 hm c.initial (excF c c.initial 0)).mono ?_)
 rintro _ g12 ⟨rfl,x12⟩
 have a12 := a11.ext x12
 have hsg12 := a12.sg
 clear kB11
 repeat (first | apply dS | apply dSn | (refine is_okn rfl ?_; refine w_op rfl ?_))
 refine w_st1 rfl rfl hsg12 (by show 30 < 34; decide) rfl fun g13 m13 k13 n13 => ?_
 have em : scM 0 c.initial.toNat [] = c.initial := by simp [scM,cF]; omega
 replace k13 : g13.get s = some ⟨syV (syNew c) P (.slice none 0 0) (.slice none 0 0),true,0⟩ := k13
 obtain ⟨a13,y13⟩ := a12.own (st' := syNew c) m13 n13 k13 ⟨rfl,em.symm⟩ ⟨rfl,rfl,rfl⟩ rfl rfl rfl
 have y : Tn [1,10] T g8 T10 g13 := (y9.mono (by decide)).trans ((y10.mono (by decide)).trans ((Tn.of_ext a10.w (x11.trans x12)).trans (y13.mono (by decide))))
 have hT' : ∀ k,T10 k ≠ 0 → h.nx ≤ k := fun k hk => by
  rcases Nat.lt_or_ge k g8.nx with q1 | q1
  ·rw [y.ex k q1] at hk
   exact Nat.le_of_lt (hT k hk)
  ·exact Nat.le_trans x8.1 q1
 repeat (first | apply sS | apply sE | apply dE | refine w_mv rfl ?_ | apply ai_seq | apply ai_regW | (apply ai_ret; repeat (first | rw [thenQ_r] | rw [blockQ_r] | rw [roundE_r])))
 refine end_two rfl rfl ⟨s,P,L,q,D,T10,rfl,a13,hT',Nat.le_trans x8.1 y.nx,fun k hk => ?_⟩
 refine (y.fr k (Nat.lt_of_lt_of_le hk x8.1) ?_).trans (x8.2 k hk)
 have : T k = 0 := by
  rcases Nat.eq_zero_or_pos (T k) with q1 | q1
  ·exact q1
  ·have := hT k (by omega); omega
 rw [this]
 decide
section
section
variable {T Tb : Tg} {g h : Hp} {s P L q D s' P' L' q' D' : Nat} {rs ts rs' ts' : Value} {st st' : Sy}
def Apt (T Tb : Tg) : Prop := ∀ k,T k = 0 ∨ Tb k = 0
theorem SyG.other {I : List Nat} {T' : Tg} (b : SyG g Tb s' P' L' q' D' rs' ts' st') (x : Tn I T g T' h) (ap : Apt T Tb) (h0 : 0 ∉ I) : SyG h Tb s' P' L' q' D' rs' ts' st' ∧ Apt T' Tb := by
 have y : Tn [0] Tb g Tb h := ⟨x.nx,fun k hk hn => x.fr k hk (by
  rcases ap k with e | e
  ·rw [e]; exact h0
  ·exact absurd (by rw [e]; decide) hn),fun _ _ => rfl,fun k hk => b.w k (Nat.le_trans x.nx hk),fun k hk => .inl (b.w k hk)⟩
 refine ⟨b.any y (by decide),fun k => ?_⟩
 rcases Nat.lt_or_ge k g.nx with q1 | q1
 ·rw [x.ex k q1]; exact ap k
 ·exact .inr (b.w k q1)
theorem Apt.new {N : Nat} (h1 : ∀ k,T k ≠ 0 → N ≤ k) (h2 : ∀ k,N ≤ k → Tb k = 0) : Apt T Tb := fun k => by
 rcases Nat.eq_zero_or_pos (T k) with e | e
 ·exact .inl e
 ·exact .inr (h2 k (h1 k (by omega)))
theorem Apt.symm (a : Apt T Tb) : Apt Tb T := fun k => (a k).symm
theorem last_ok (a : SyG g T s P L q D rs ts st) : ACall PX 13 [ptr s] g (fun v h => v = .agg ⟨dcV st.last⟩ ∧ Ext g h) := by
 have hsg := a.sg
 refine acallA Tryz.func13 c13 ?_
 unfold ir13
 dsimp only [qo,qm,qk,q2,qi,qg,qn,qc,dq,ci,cb,qh,qs]
 repeat (first | apply sS | apply ai_seq | apply ai_regW)
 refine w_new fun g1 x1 k1 n1 => ?_
 have a1 := a.ext x1
 clear hsg
 have hsg1 := a1.sg
 have hrd : g1.rd s (0 + 23) 6 = some (dcV st.last) := rd_cut hsg1 rfl rfl
 repeat (first | apply sS | apply sSn | apply sE | refine w_mv rfl ?_ | (refine is_okn rfl ?_; refine w_op rfl ?_) | (apply is_ldn; refine w_ldnA rfl ?_) | apply ai_seq | apply ai_regW | refine ai_cF rfl ?_ | apply ai_skip)
 refine w_stN rfl rfl k1 rfl rfl fun g2 m2 k2 n2 => ?_
 repeat (first | apply sE | (apply ai_ret; repeat (first | rw [thenQ_r] | rw [blockQ_r] | rw [roundE_r])))
 exact end_cell1 rfl k2 Tryz.underlying42 rfl (by kernel_rfl) rfl ⟨rfl,x1.own m2 n2⟩
theorem conf_ok' (a : SyG g T s P L q D rs ts st) : ACall PX 17 [ptr s] g (fun v h => v = .agg ⟨cs20 st.c⟩ ∧ Ext g h) := by
 have hsg := a.sg
 refine acallA Tryz.func17 c17 ?_
 unfold ir17
 dsimp only [qo,qm,qk,q2,qi,qg,qn,qc,dq,ci,cb,qh,qs]
 repeat (first | apply sS | apply ai_seq | apply ai_regW)
 refine w_new fun g1 x1 k1 n1 => ?_
 have a1 := a.ext x1
 clear hsg
 have hsg1 := a1.sg
 have hrd : g1.rd s (0 + 0) 20 = some (cs20 st.c) := rd_cut hsg1 rfl rfl
 repeat (first | apply sS | apply sSn | apply sE | refine w_mv rfl ?_ | (refine is_okn rfl ?_; refine w_op rfl ?_) | (apply is_ldn; refine w_ldnA rfl ?_) | apply ai_seq | apply ai_regW | refine ai_cF rfl ?_ | apply ai_skip)
 refine w_stN rfl rfl k1 rfl rfl fun g2 m2 k2 n2 => ?_
 repeat (first | apply sE | (apply ai_ret; repeat (first | rw [thenQ_r] | rw [blockQ_r] | rw [roundE_r])))
 exact end_cell1 rfl k2 Tryz.underlying27 rfl (by kernel_rfl) rfl ⟨rfl,x1.own m2 n2⟩
theorem rclone_ok (h : Hp) {v : Value} {l : List Rq} (r : RR 4 h v (rQ l)) (hl : l.length ≤ 1000000) : ACall PX 42 [v] h (fun v g => RR 4 g v (rQ l) ∧ New h.nx v ∧ Ext h g) := by
 obtain ⟨x,c,rfl⟩ := r.len
 cases x with
 | none =>
  refine acallA Tryz.func42 c42 ?_
  unfold ir42
  dsimp only [qo,qm,qk,q2,qi,qg,qn,qc,dq,ci,cb,qh,qs]
  repeat (first | apply sS | apply sE | refine w_mv rfl ?_ | (refine is_okn rfl ?_; refine w_op rfl ?_) | apply ai_seq | apply ai_regW | refine ai_cT rfl ?_ | (apply ai_ret; repeat (first | rw [thenQ_r] | rw [blockQ_r] | rw [roundE_r])))
  rcases r with ⟨_,hu⟩ | ⟨i,o,sp,c',e,_⟩
  ·exact end_one rfl ⟨by rw [hu]; exact .inl ⟨rfl,rfl⟩,(fun _ _ _ e => by cases e),Ext.refl _⟩
  ·cases e
 | some a =>
  refine acallA Tryz.func42 c42 ?_
  unfold ir42
  dsimp only [qo,qm,qk,q2,qi,qg,qn,qc,dq,ci,cb,qh,qs]
  repeat (first | apply sS | apply sE | refine w_mv rfl ?_ | (refine is_okn rfl ?_; refine w_op rfl ?_) | apply ai_seq | apply ai_regW | refine ai_cF rfl ?_ | apply ai_skip)
  refine w_bslF rfl rfl rfl rfl rfl fun g1 x1 k1 n1 => ?_
  repeat (first | apply sS | refine w_mv rfl ?_)
  refine w_clone rfl (r.ext x1) (rQ_els l) n1 (by decide) (by rw [rQ_len]; omega) (by rw [rQ_len]; omega) fun v g2 r2 x2 f2 => ?_
  repeat (first | apply sS | apply sE | refine w_mv rfl ?_ | (apply ai_ret; repeat (first | rw [thenQ_r] | rw [blockQ_r] | rw [roundE_r])))
  exact end_one rfl ⟨r2,f2,x1.trans x2⟩
theorem reqs_ok (a : SyG g T s P L q D rs ts st) (hb : st.r.length ≤ 1000000) : ACall PX 16 [ptr s] g (fun v h => RR 4 h v (rQ st.r) ∧ New g.nx v ∧ Ext g h) := by
 have hsg := a.sg
 refine acallA Tryz.func16 c16 ?_
 unfold ir16
 dsimp only [qo,qm,qk,q2,qi,qg,qn,qc,dq,ci,cb,qh,qs]
 repeat (first | apply sS | apply sE | refine w_mv rfl ?_ | (refine is_okn rfl ?_; refine w_op rfl ?_) | (apply is_ld; refine w_ldA rfl ?_) | apply ai_seq | apply ai_regW | refine ai_cF rfl ?_ | apply ai_skip)
 refine w_call rfl ((rclone_ok g a.rq.1.rr hb).mono ?_)
 rintro v g1 ⟨r1,f1,x1⟩
 repeat (first | apply sS | apply sE | refine w_mv rfl ?_ | (apply ai_ret; repeat (first | rw [thenQ_r] | rw [blockQ_r] | rw [roundE_r])))
 exact end_one rfl ⟨r1,f1,x1⟩
end
theorem SyI.do_ {st : Sy} (i : SyI st) (e : Ev) : SyI (syDo st e).1 ∧ (syDo st e).1.r.length ≤ st.r.length + 100 := by
 have hf : ∀ n,(syFinish st n).1.r.length = st.r.length := fun n => by
  rw [syFinish_eq]
  split
  ·rfl
  ·rw [sySent_len.1]; unfold finS; dsimp only; rw [setR_len]
 have hc : ∀ n,(syCrash st n).1.r.length = st.r.length := fun n => by
  rw [syCrash_eq]
  split
  ·rfl
  ·rw [sySent_len.1]; unfold crS; dsimp only; rw [List.length_map]
 have hh : ∀ t,(syChange st t).1.r.length = st.r.length := fun t => by
  rw [syChange_eq]
  split
  ·rfl
  ·rw [sySent_len.1]; rfl
 cases hm : mayE e with
 | false => rw [syDo_no st hm]; exact ⟨i,by dsimp only; omega⟩
 | true =>
  rcases may_kind hm with ⟨hk,h1,h2⟩ | ⟨hk,h1,h2⟩ | ⟨hk,h1,h2⟩ | ⟨hk,h1,h2⟩ | ⟨hk,h1,h2⟩ | ⟨hk,h1,h2⟩
  ·rw [syDo_1 st hm hk]
   split
   ·exact ⟨i,by dsimp only; omega⟩
   ·obtain ⟨i1,l1,_⟩ := ticks i e.n.toNat (by omega)
    exact ⟨i1,by dsimp only; omega⟩
  ·rw [syDo_2 st hm hk]
   obtain ⟨i1,l1⟩ := arrives i e.n.toNat
   exact ⟨i1,by dsimp only; omega⟩
  ·rw [syDo_3 st hm hk]; exact ⟨i.finish _,by rw [hf]; omega⟩
  ·rw [syDo_4 st hm hk]; exact ⟨i.crash _,by rw [hc]; omega⟩
  ·rw [syDo_5 st hm hk]; exact ⟨i.change _,by rw [hh]; omega⟩
  ·rw [syDo_6 st hm hk]; exact ⟨i.lose (by omega),by show st.r.length ≤ _; omega⟩
end
section
section
variable {P : Program} {CT : CTy} {env : Env} {h : Hp} {d : Option Nat} {xs : List Operand} {R : Value → Hp → Prop}
theorem w_cloneG {k bytes : Nat} {t : TypeId} {us : List (List Value)} {q : Nat} {x : Option Addr} {n0 c : Nat} (e : mapF env xs = some [.slice (some ⟨q,0,none⟩) 0 0,.slice x n0 c]) (r : RR k h (.slice x n0 c) us) (he : Els k us) (h0 : us ≠ []) (hk : 0 < k)
  (hb : us.length * bytes ≤ 140737488355328) (hl : us.length ≤ 140737488355328)
  (n : ∀ g,h.nx < g.nx → g.get h.nx = some ⟨us.flatten,true,k⟩ → Ext h g → R (.slice (some ⟨h.nx,0,some 0⟩) us.length us.length) g) : WI P CT ⟨d,none,.op (.app t k bytes) xs⟩ env h R := by
 obtain ⟨i,o,sp,rfl,rfl,hsp,hr⟩ := r.all h0
 have hlen : us.length ≠ 0 := fun hz => h0 (List.eq_nil_of_length_eq_zero hz)
 have hmul : us.length * k ≠ 0 := Nat.mul_ne_zero hlen (by omega)
 refine w_appc e (by simp only [rdS,if_neg hmul,hsp,if_true]; exact hr) he h0 hk hb hl fun g hg x hn => ?_
 exact n g hn hg x
end
theorem fl4_flat : ∀ l : List Pd,(l.map p4).flatten = fl4 l
 | [] => rfl
 | p :: l => by rw [List.map_cons,List.flatten_cons,fl4_flat l]; rfl
theorem p4_els (l : List Pd) : Els 4 (l.map p4) := fun u hu => by
 obtain ⟨a,_,rfl⟩ := List.mem_map.1 hu
 exact ⟨rfl,rfl⟩
theorem A4.gr {N : Nat} {h : Hp} {s : Value} {l : List Pd} (a : A4 N h s l) : GR 4 N h s (l.map p4) := by
 rcases a with ⟨rfl,rfl⟩ | ⟨i,h1,h2,rfl,hg,h5⟩
 ·exact .inl ⟨rfl,rfl⟩
 ·exact .inr ⟨i,h1,h2,by rw [List.length_map],by rw [fl4_flat]; exact hg,by simpa using h5,p4_els l⟩
theorem pclone_ok (h : Hp) {N : Nat} {v : Value} {l : List Pd} (a : A4 N h v l) (hl : l.length ≤ 1000000) : ACall PX 40 [v] h (fun v g => A4 h.nx g v l ∧ Ext h g) := by
 have r := a.gr.rr
 rcases a with ⟨rfl,rfl⟩ | ⟨i,h1,h2,rfl,hg,h5⟩
 ·refine acallA Tryz.func40 c40 ?_
  unfold ir40
  dsimp only [qo,qm,qk,q2,qi,qg,qn,qc,dq,ci,cb,qh,qs]
  repeat (first | apply sS | apply sE | refine w_mv rfl ?_ | (refine is_okn rfl ?_; refine w_op rfl ?_) | apply ai_seq | apply ai_regW | refine ai_cT rfl ?_ | (apply ai_ret; repeat (first | rw [thenQ_r] | rw [blockQ_r] | rw [roundE_r])))
  exact end_one rfl ⟨.inl ⟨rfl,rfl⟩,Ext.refl _⟩
 ·refine acallA Tryz.func40 c40 ?_
  unfold ir40
  dsimp only [qo,qm,qk,q2,qi,qg,qn,qc,dq,ci,cb,qh,qs]
  repeat (first | apply sS | apply sE | refine w_mv rfl ?_ | (refine is_okn rfl ?_; refine w_op rfl ?_) | apply ai_seq | apply ai_regW | refine ai_cF rfl ?_ | apply ai_skip)
  refine w_bslF rfl rfl rfl rfl rfl fun g1 x1 k1 n1 => ?_
  repeat (first | apply sS | refine w_mv rfl ?_)
  refine w_cloneG rfl (r.ext x1) (p4_els l) (by simpa using h5) (by decide) (by rw [List.length_map]; omega) (by rw [List.length_map]; omega) fun g2 n2 k2 x2 => ?_
  repeat (first | apply sS | apply sE | refine w_mv rfl ?_ | (apply ai_ret; repeat (first | rw [thenQ_r] | rw [blockQ_r] | rw [roundE_r])))
  refine end_one rfl ⟨.inr ⟨g1.nx,x1.1,n2,by rw [List.length_map],by rw [k2,fl4_flat],h5⟩,x1.trans x2⟩
def TvR (h : Hp) (s : Value) (l : List Vw) : Prop := (s = .slice none 0 0 ∧ l = []) ∨ ∃ (i : Nat) (us : List (List Value)),i < h.nx ∧ s = .slice (some ⟨i,0,some 0⟩) l.length l.length ∧ h.get i = some ⟨us.flatten,true,15⟩ ∧ us.length = l.length ∧ l ≠ [] ∧
 ∀ (k : Nat) (v : Vw),l[k]? = some v → v.ends.length = 7 ∧ ∃ ps,us[k]? = some (vwV v ps) ∧ A4 0 h ps v.pods
theorem TvR.len {h : Hp} {s : Value} {l : List Vw} (a : TvR h s l) : ∃ x c,s = .slice x l.length c := by
 rcases a with ⟨rfl,rfl⟩ | ⟨_,_,_,rfl,_⟩ <;> exact ⟨_,_,rfl⟩
theorem A4.one {N : Nat} {h : Hp} {s : Value} {l : List Pd} (a : A4 N h s l) : Am.one s = true := by
 obtain ⟨_,_,rfl⟩ := a.len
 rfl
theorem rows_els {h : Hp} {us : List (List Value)} {l : List Vw} (hl : us.length = l.length) (hu : ∀ (k : Nat) (v : Vw),l[k]? = some v → v.ends.length = 7 ∧ ∃ ps,us[k]? = some (vwV v ps) ∧ A4 0 h ps v.pods) : Els 15 us := fun u hm => by
 obtain ⟨k,hk,rfl⟩ := List.getElem_of_mem hm
 obtain ⟨w7,ps,e1,e2⟩ := hu k l[k] (List.getElem?_eq_getElem (by omega))
 obtain ⟨_,e1⟩ := List.getElem?_eq_some_iff.1 e1
 rw [e1]
 exact ⟨vwV_len w7,vwV_one e2.one⟩
theorem rd_pre {h : Hp} {i k : Nat} {x0 : List Value} {us : List (List Value)} {b : Bool} {e : Nat} (hg : h.get i = some ⟨x0 ++ us.flatten,b,e⟩) (he : Els k us) {x : Nat} {u : List Value} (hx : us[x]? = some u) : h.rd i (x0.length + x * k) k = some u := by
 obtain ⟨hl,rfl⟩ := List.getElem?_eq_some_iff.1 hx
 have hn := he.len
 have hm := (he _ (List.getElem_mem hl)).1
 have hmul : x * k + k ≤ us.length * k := by rw [← Nat.succ_mul]; exact Nat.mul_le_mul_right _ hl
 unfold Hp.rd
 simp only [hg]
 rw [if_pos (by rw [List.length_append]; omega),← List.drop_drop,List.drop_left,he.drop,List.drop_eq_getElem_cons hl,List.flatten_cons,List.take_append_of_le_length (by omega),List.take_of_length_le (by omega)]
section
variable {T : Tg} {g : Hp} {s P L q D : Nat} {rs ts : Value} {st : Sy}
set_option maxHeartbeats 2000000 in
theorem trace_ok (a : SyG g T s P L q D rs ts st) (i : SyI st) (hp : ∀ v ∈ st.tr,v.pods.length ≤ 1000000) : ACall PX 14 [ptr s] g (fun v h => TvR h v st.tr ∧ Ext g h) := by
 have hsg := a.sg
 have htl := i.trl
 rcases a.tr with ⟨rfl,e0⟩ | ⟨ti,x0,us,tt,h1,rfl,hg,hx0,hu0,hul,hu⟩
 ·refine acallA Tryz.func14 c14 ?_
  unfold ir14
  dsimp only [qo,qm,qk,q2,qi,qg,qn,qc,dq,ci,cb,qh,qs]
  repeat (first | apply sS | apply sE | refine w_mv rfl ?_ | (refine is_okn rfl ?_; refine w_op rfl ?_) | (apply is_ld; refine w_ldA rfl ?_) | apply ai_seq | apply ai_regW | refine ai_cF rfl ?_ | apply ai_skip)
  have c0 : ACall PX 39 [.slice none 0 0] g (fun v h => v = .slice none 0 0 ∧ g = h) := by
   refine acallA Tryz.func39 c39 ?_
   unfold ir39
   dsimp only [qo,qm,qk,q2,qi,qg,qn,qc,dq,ci,cb,qh,qs]
   repeat (first | apply sS | apply sE | refine w_mv rfl ?_ | (refine is_okn rfl ?_; refine w_op rfl ?_) | apply ai_seq | apply ai_regW | refine ai_cT rfl ?_ | (apply ai_ret; repeat (first | rw [thenQ_r] | rw [blockQ_r] | rw [roundE_r])))
   exact end_one rfl ⟨rfl,rfl⟩
  refine w_call rfl (c0.mono ?_)
  rintro _ _ ⟨rfl,rfl⟩
  repeat (first | apply sS | apply sE | refine w_mv rfl ?_ | (refine is_okn rfl ?_; refine w_op rfl ?_) | apply ai_seq | apply ai_regW | apply ai_block)
  refine ai_loopE (γ := Unit) (fun _ => [(3,.slice none 0 0),(13,nI 0),(14,nI 0)]) (fun _ h' => g = h') (fun _ => 0) () leX rfl ?_
  rintro _ _ rfl
  repeat (first | apply sS | apply sE | refine w_mv rfl ?_ | (apply is_bin; refine w_cF rfl ?_) | apply ai_seq | apply ai_regW | refine ai_cF rfl ?_ | apply ai_exit | (apply ai_ret; repeat (first | rw [thenQ_r] | rw [blockQ_r] | rw [roundE_r])))
  exact end_one rfl ⟨.inl ⟨rfl,e0⟩,Ext.refl _⟩
 ·have hv : ∀ (k : Nat) (v : Vw),st.tr[k]? = some v → v.ends.length = 7 ∧ ∃ ps,us[k]? = some (vwV v ps) ∧ A4 0 g ps v.pods := fun k v hk => by
   have hkl := (List.getElem?_eq_some_iff.1 hk).1
   obtain ⟨w7,ps,e1,e2⟩ := hu k us[k] v (List.getElem?_eq_getElem (by omega)) hk
   refine ⟨w7,ps,by rw [List.getElem?_eq_getElem (by omega),e1],?_⟩
   rcases e2 with e2 | ⟨j,_,j1,j2,j3,j4⟩
   ·exact .inl e2
   ·exact .inr ⟨j,Nat.zero_le _,j1,j2,j3,j4⟩
  have hE := rows_els hul hv
  have rr : RR 15 g (.slice (some ⟨ti,x0.length,some 0⟩) us.length us.length) us := by
   exact .inr ⟨ti,x0.length,some 0,us.length,rfl,h1,fun _ => rfl,fun x u hx => rd_pre hg hE hx⟩
  have hvp : ∀ (k : Nat) (v : Vw),st.tr[k]? = some v → v.pods.length ≤ 1000000 := fun k v hk => hp v (List.mem_of_getElem? hk)
  refine acallA Tryz.func14 c14 ?_
  unfold ir14
  dsimp only [qo,qm,qk,q2,qi,qg,qn,qc,dq,ci,cb,qh,qs]
  repeat (first | apply sS | apply sE | refine w_mv rfl ?_ | (refine is_okn rfl ?_; refine w_op rfl ?_) | (apply is_ld; refine w_ldA rfl ?_) | apply ai_seq | apply ai_regW | refine ai_cF rfl ?_ | apply ai_skip)
  have c1 : ACall PX 39 [.slice (some ⟨ti,x0.length,some 0⟩) us.length us.length] g (fun v h => ∃ b,g.nx ≤ b ∧ b < h.nx ∧ v = .slice (some ⟨b,0,some 0⟩) us.length us.length ∧ h.get b = some ⟨us.flatten,true,15⟩ ∧ Ext g h) := by
   refine acallA Tryz.func39 c39 ?_
   unfold ir39
   dsimp only [qo,qm,qk,q2,qi,qg,qn,qc,dq,ci,cb,qh,qs]
   repeat (first | apply sS | apply sE | refine w_mv rfl ?_ | (refine is_okn rfl ?_; refine w_op rfl ?_) | apply ai_seq | apply ai_regW | refine ai_cF rfl ?_ | apply ai_skip)
   refine w_bslF rfl rfl rfl rfl rfl fun g1 x1 k1 n1 => ?_
   repeat (first | apply sS | refine w_mv rfl ?_)
   refine w_cloneG rfl (rr.ext x1) hE hu0 (by decide) (by omega) (by omega) fun g2 n2 k2 x2 => ?_
   repeat (first | apply sS | apply sE | refine w_mv rfl ?_ | (apply ai_ret; repeat (first | rw [thenQ_r] | rw [blockQ_r] | rw [roundE_r])))
   exact end_one rfl ⟨g1.nx,x1.1,n2,rfl,k2,x1.trans x2⟩
  refine w_call rfl (c1.mono ?_)
  rintro _ g1 ⟨b,hb1,hb2,rfl,hgb,x1⟩
  repeat (first | apply sS | apply sE | refine w_mv rfl ?_ | (refine is_okn rfl ?_; refine w_op rfl ?_) | apply ai_seq | apply ai_regW | apply ai_block)
  refine ai_loopE (γ := Nat × List (List Value)) (fun e => [(3,.slice (some ⟨b,0,some 0⟩) us.length us.length),(13,nI us.length),(14,nI e.1)])
   (fun e h => b < h.nx ∧ h.get b = some ⟨e.2.flatten,true,15⟩ ∧ e.2.length = st.tr.length ∧ Ext g h ∧ e.1 ≤ us.length ∧
    ∀ (k : Nat) (v : Vw),st.tr[k]? = some v → v.ends.length = 7 ∧ ∃ ps,e.2[k]? = some (vwV v ps) ∧ A4 0 h ps v.pods ∧ ∀ q n c,ps = .slice (some q) n c → q.block ≠ b) (fun e => us.length - e.1) (0,us) leX
   ⟨hb2,hgb,hul,x1,Nat.zero_le _,fun k v hk => by
    obtain ⟨w7,ps,e1,e2⟩ := hv k v hk
    exact ⟨w7,ps,e1,e2.move x1,fun q n c e => by have := (e2.blk e).2; omega⟩⟩ ?_
  rintro ⟨m,us2⟩ h ⟨hb3,hgb3,hl3,x3,hm,hv3⟩
  dsimp only at hgb3 hl3 hm hv3 ⊢
  have hE3 : Els 15 us2 := rows_els hl3 fun k v hk => by
   obtain ⟨w7,ps,e1,e2,_⟩ := hv3 k v hk
   exact ⟨w7,ps,e1,e2⟩
  by_cases hml : m < us.length
  ·obtain ⟨v,hvm⟩ : ∃ v,st.tr[m]? = some v := ⟨_,List.getElem?_eq_getElem (by omega)⟩
   obtain ⟨w7,ps,e1,e2,e3⟩ := hv3 m v hvm
   have hrd : h.rd b (0 + m * 15 + 4) 1 = some [ps] := rd_part (rd_row2 (tl := []) (by rw [List.append_nil]; exact hgb3) hE3 e1) (f := 4) rfl
   repeat (first | apply sS | apply sE | refine w_mv rfl ?_ | (refine is_okn rfl ?_; refine w_op rfl ?_) | (apply is_ld; refine w_ldA rfl ?_) | (apply is_bin; refine w_cT rfl ?_) | (apply is_iad; refine w_iadA rfl ?_) | apply ai_seq | apply ai_regW | refine ai_cT rfl ?_ | apply ai_skip | apply ai_block)
   refine w_call rfl ((pclone_ok h e2 (hvp m v hvm)).mono ?_)
   rintro v' h2 ⟨A2,x2⟩
   obtain ⟨xp,cp,rfl⟩ := A2.len
   have hgb4 := (x2.2 b hb3).trans hgb3
   have hfl : us2.flatten.length = us2.length * 15 := hE3.len
   repeat (first | apply sS | apply sSn | (refine is_okn rfl ?_; refine w_op rfl ?_) | (apply is_iad; refine w_iadA rfl ?_))
   refine w_st1 rfl rfl hgb4 (by simp only [Int.toNat_natCast]; omega) rfl fun h3 m3 k3 n3 => ?_
   have hk3 : h3.get b = some ⟨(us2.set m (vwV v (.slice xp v.pods.length cp))).flatten,true,15⟩ := by
    rw [k3]
    simp only [Int.toNat_natCast,Nat.zero_add]
    rw [hE3.set e1 (f := 4) (by decide)]
    rfl
   have h2n := x2.1
   repeat (first | apply sS | apply sE | refine w_mv rfl ?_ | (apply is_bin; refine w_addA rfl ?_) | apply ai_regW)
   refine ⟨(m + 1,us2.set m (vwV v (.slice xp v.pods.length cp))),leX,⟨by omega,hk3,by dsimp only; rw [List.length_set]; exact hl3,⟨by have := x3.1; omega,fun j hj => (m3 j (by omega)).trans ((x3.trans x2).2 j hj)⟩,by dsimp only; omega,fun k w hk => ?_⟩,by dsimp only; omega⟩
   dsimp only
   by_cases hkm : m = k
   ·subst hkm
    rw [hvm] at hk
    cases hk
    refine ⟨w7,_,List.getElem?_set_self (by omega),(A2.mono (Nat.zero_le _)).own (fun q n c e => ?_) m3 n3,fun q n c e => ?_⟩
    all_goals
     have := (A2.blk e).1
     omega
   ·obtain ⟨u7,ps',f1,f2,f3⟩ := hv3 k w hk
    exact ⟨u7,ps',by rw [List.getElem?_set_ne hkm]; exact f1,(f2.move x2).own f3 m3 n3,f3⟩
  ·obtain rfl : m = us.length := by omega
   repeat (first | apply sS | apply sE | refine w_mv rfl ?_ | (apply is_bin; refine w_cF rfl ?_) | apply ai_seq | apply ai_regW | refine ai_cF rfl ?_ | apply ai_exit | (apply ai_ret; repeat (first | rw [thenQ_r] | rw [blockQ_r] | rw [roundE_r])))
   refine end_one rfl ⟨.inr ⟨b,us2,hb3,by rw [hul],hgb3,hl3,fun h0 => hu0 (List.eq_nil_of_length_eq_zero (by rw [hul,h0]; rfl)),fun k v hk => ?_⟩,x3⟩
   obtain ⟨u7,ps',f1,f2,_⟩ := hv3 k v hk
   exact ⟨u7,ps',f1,f2⟩
end
end
def rV (l : List Ev) : List (List Value) := l.map evV
theorem rV_len (l : List Ev) : (rV l).length = l.length := by simp [rV]
theorem rV_get {l : List Ev} {i : Nat} {a : Ev} (h : l[i]? = some a) : (rV l)[i]? = some (evV a) := by simp [rV,h]
def fewF (l : List Ev) (most : Int) : Bool := l.all (fun e => decide (e.text.length ≤ 300)) && decide ((l.length : Int) ≤ most)
theorem few_ok (h : Hp) {v : Value} {l : List Ev} (r : RR 3 h v (rV l)) (hl : l.length ≤ 9223372036854775807) (ht : ∀ e ∈ l,e.text.length ≤ 9223372036854775807) (most : Int) : ACall PX 8 [v,nI most] h (fun v g => v = .bool (fewF l most) ∧ h = g) := by
 obtain ⟨x,c,e⟩ := r.len
 rw [rV_len] at e
 subst e
 refine acallA Tryz.func8 c8 ?_
 unfold ir8
 dsimp only [qo,qm,qk,q2,qi,qg,qn,qc,dq,ci,cb,qh,qs]
 repeat (first | apply sS | apply sE | refine w_mv rfl ?_ | apply ai_seq | apply ai_regW | apply ai_block)
 refine ai_loopE (γ := Nat) (fun i => [(0,.slice x l.length c),(1,nI most),(5,nI i)]) (fun i g => h = g ∧ i ≤ l.length ∧ (l.take i).all (fun e => decide (e.text.length ≤ 300)) = true) (fun i => l.length - i) 0 leX ⟨rfl,Nat.zero_le _,rfl⟩ ?_
 rintro i _ ⟨rfl,hi,ha⟩
 by_cases hil : i < l.length
 ·obtain ⟨e,he⟩ : ∃ e,l[i]? = some e := ⟨_,List.getElem?_eq_getElem hil⟩
  obtain ⟨bi,bo,bs',rfl,_,hr⟩ := r.at (rV_get he)
  have hrd : h.rd bi (bo + i * 3 + 2) 1 = some [bs e.text] := rd_part hr (f := 2) rfl
  have hz := sz_mk e.text
  have htx := ht e (List.mem_of_getElem? he)
  by_cases q : e.text.length ≤ 300
  ·repeat (first | apply sS | apply sE | refine w_mv rfl ?_ | (refine is_okn rfl ?_; refine w_op rfl ?_) | (apply is_ld; refine w_ldA rfl ?_) | (apply is_bin; refine w_addA rfl ?_) | (apply is_bin; refine w_cT rfl ?_) | (apply is_bin; refine w_cF rfl ?_) | (apply is_iad; refine w_iadA rfl ?_) | apply ai_seq | apply ai_regW | refine ai_cT rfl ?_ | refine ai_cF rfl ?_ | apply ai_skip | apply ai_block)
   refine ⟨i + 1,leX,⟨rfl,by omega,?_⟩,by dsimp only; omega⟩
   obtain ⟨h1,rfl⟩ := List.getElem?_eq_some_iff.1 he
   rw [List.take_succ_eq_append_getElem h1,List.all_append,ha]
   simpa using q
  ·have hf : fewF l most = false := by
    unfold fewF
    rw [Bool.and_eq_false_iff]
    refine .inl ?_
    rw [List.all_eq_false]
    exact ⟨e,List.mem_of_getElem? he,by simpa using q⟩
   rw [hf]
   repeat (first | apply sS | apply sE | refine w_mv rfl ?_ | (refine is_okn rfl ?_; refine w_op rfl ?_) | (apply is_ld; refine w_ldA rfl ?_) | (apply is_bin; refine w_cT rfl ?_) | (apply is_iad; refine w_iadA rfl ?_) | apply ai_seq | apply ai_regW | refine ai_cT rfl ?_ | apply ai_skip | apply ai_block | (apply ai_ret; repeat (first | rw [thenQ_r] | rw [blockQ_r] | rw [roundE_r])))
   exact end_one rfl ⟨rfl,rfl⟩
 ·obtain rfl : i = l.length := by omega
  rw [List.take_length] at ha
  have hf : fewF l most = decide ((l.length : Int) ≤ most) := by unfold fewF; rw [ha]; rfl
  rw [hf]
  by_cases q : (l.length : Int) ≤ most
  ·rw [decide_eq_true q]
   repeat (first | apply sS | apply sE | refine w_mv rfl ?_ | (refine is_okn rfl ?_; refine w_op rfl ?_) | (apply is_bin; refine w_cT rfl ?_) | (apply is_bin; refine w_cF rfl ?_) | apply ai_seq | apply ai_regW | refine ai_cF rfl ?_ | apply ai_exit | (apply ai_ret; repeat (first | rw [thenQ_r] | rw [blockQ_r] | rw [roundE_r])))
   exact end_one rfl ⟨rfl,rfl⟩
  ·rw [decide_eq_false q]
   repeat (first | apply sS | apply sE | refine w_mv rfl ?_ | (refine is_okn rfl ?_; refine w_op rfl ?_) | (apply is_bin; refine w_cF rfl ?_) | apply ai_seq | apply ai_regW | refine ai_cF rfl ?_ | apply ai_exit | (apply ai_ret; repeat (first | rw [thenQ_r] | rw [blockQ_r] | rw [roundE_r])))
   exact end_one rfl ⟨rfl,rfl⟩
def nrT : List (List UInt8) := [[109,97,120,58,32,53],[109,105,110,58,32,49],[108,105,109,105,116,58,32,50],[113,117,101,117,101,58,32,51],[98,117,114,115,116,58,32,45,49],[98,117,114,115,116,58,32,48],[100,101,108,97,121,58,32,50,48],[115,116,97,98,108,101,58,32,49,50,10,112,97,110,105,99,58,32,51],[115,117,98,115,101,116,58,32,50],[103,114,97,105,110,58,32,50],[116,105,109,101,111,117,116,58,32,52],[120]]
def nearF (e : Ev) (i : Nat) : Ev :=
 if i % 11 = 10 then e else
  let n := IntKind.u64.wrap e.n
  let k := IntKind.u64.wrap e.kind % 16
  if k < 4 then ⟨1,1 + n % 6,[]⟩ else if k < 8 then ⟨2,1 + n % 9,[]⟩ else if k < 12 then ⟨3,n % 12,[]⟩ else if k = 12 then ⟨4,n % 4,[]⟩
  else if k = 13 then ⟨6,1 + n % 5,[]⟩ else if k = 14 then ⟨1,1 + n % 80,[]⟩ else ⟨5,0,nrT.getD (n % 12).toNat []⟩
set_option maxHeartbeats 1000000 in
theorem near_ok (h : Hp) (e : Ev) (i : Nat) (hi : i ≤ 1000000) : ACall PX 10 [.agg ⟨evV e⟩,nI i] h (fun v g => v = .agg ⟨evV (nearF e i)⟩ ∧ Ext h g) := by
 refine acallA Tryz.func10 c10 ?_
 unfold ir10
 dsimp only [qo,qm,qk,q2,qi,qg,qn,qc,dq,ci,cb,qh,qs]
 repeat (first | apply sS | apply ai_seq | apply ai_regW)
 refine w_box rfl fun g1 x1 k1 n1 => ?_
 replace k1 : g1.get h.nx = some ⟨[nI e.kind,nI e.n,bs e.text],true,0⟩ := k1
 repeat (first | apply sS)
 refine w_new fun g2 x2 k2 n2 => ?_
 have k12 := (x2.2 _ n1).trans k1
 have hall : g2.rd h.nx 0 3 = some (evV e) := rd_all k12 rfl
 by_cases q : i % 11 = 10
 ·have hn : nearF e i = e := by unfold nearF; rw [if_pos q]
  rw [hn]
  repeat (first | apply sS | apply sSn | apply sE | refine w_mv rfl ?_ | (apply is_ldn; refine w_ldnA rfl ?_) | (apply is_bin; refine w_cT rfl ?_) | (refine w_rem rfl ?_ ?_ ?_; (focus omega); (focus omega)) | apply ai_seq | apply ai_regW | refine ai_cT rfl ?_)
  refine w_stN rfl rfl k2 rfl rfl fun g3 m3 k3 n3 => ?_
  repeat (first | apply sE | (apply ai_ret; repeat (first | rw [thenQ_r] | rw [blockQ_r] | rw [roundE_r])))
  exact end_cell1 rfl k3 Tryz.underlying32 rfl (by kernel_rfl) rfl ⟨rfl,x1.trans (x2.own m3 n3)⟩
 ·have hN := u64_rng e.n
  have hK := u64_rng e.kind
  have hn : nearF e i = (if IntKind.u64.wrap e.kind % 16 < 4 then ⟨1,1 + IntKind.u64.wrap e.n % 6,[]⟩ else if IntKind.u64.wrap e.kind % 16 < 8 then ⟨2,1 + IntKind.u64.wrap e.n % 9,[]⟩ else if IntKind.u64.wrap e.kind % 16 < 12 then ⟨3,IntKind.u64.wrap e.n % 12,[]⟩ else if IntKind.u64.wrap e.kind % 16 = 12 then ⟨4,IntKind.u64.wrap e.n % 4,[]⟩
   else if IntKind.u64.wrap e.kind % 16 = 13 then ⟨6,1 + IntKind.u64.wrap e.n % 5,[]⟩ else if IntKind.u64.wrap e.kind % 16 = 14 then ⟨1,1 + IntKind.u64.wrap e.n % 80,[]⟩ else ⟨5,0,nrT.getD (IntKind.u64.wrap e.n % 12).toNat []⟩ : Ev) := by unfold nearF; rw [if_neg q]
  rw [hn]
  clear hn hall
  by_cases c1 : IntKind.u64.wrap e.kind % 16 < 4
  ·rw [if_pos c1]
   repeat (first | apply sS | apply sE | refine w_mv rfl ?_ | (refine is_okn rfl ?_; refine w_op rfl ?_) | (apply is_ld; refine w_ldA rfl ?_) | (apply is_bin; refine w_addA rfl ?_) | (refine w_ci rfl ?_ ?_; (focus omega)) | (apply is_bin; refine w_cT rfl ?_) | (apply is_bin; refine w_cF rfl ?_) | (refine w_rem rfl ?_ ?_ ?_; (focus omega); (focus omega)) | refine w_cuw rfl ?_ | apply ai_seq | apply ai_regW | refine ai_cT rfl ?_ | refine ai_cF rfl ?_ | apply ai_skip | apply ai_block)
   refine w_bldG (us := evV ⟨1,1 + IntKind.u64.wrap e.n % 6,[]⟩) rfl rfl rfl ?_
   repeat (first | apply sSn)
   refine w_stN rfl rfl k2 rfl rfl fun g3 m3 k3 n3 => ?_
   repeat (first | apply sE | (apply ai_ret; repeat (first | rw [thenQ_r] | rw [blockQ_r] | rw [roundE_r])))
   exact end_cell1 rfl k3 Tryz.underlying32 rfl (by kernel_rfl) rfl ⟨rfl,x1.trans (x2.own m3 n3)⟩
  rw [if_neg c1]
  by_cases c2 : IntKind.u64.wrap e.kind % 16 < 8
  ·rw [if_pos c2]
   repeat (first | apply sS | apply sE | refine w_mv rfl ?_ | (refine is_okn rfl ?_; refine w_op rfl ?_) | (apply is_ld; refine w_ldA rfl ?_) | (apply is_bin; refine w_addA rfl ?_) | (refine w_ci rfl ?_ ?_; (focus omega)) | (apply is_bin; refine w_cT rfl ?_) | (apply is_bin; refine w_cF rfl ?_) | (refine w_rem rfl ?_ ?_ ?_; (focus omega); (focus omega)) | refine w_cuw rfl ?_ | apply ai_seq | apply ai_regW | refine ai_cT rfl ?_ | refine ai_cF rfl ?_ | apply ai_skip | apply ai_block)
   refine w_bldG (us := evV ⟨2,1 + IntKind.u64.wrap e.n % 9,[]⟩) rfl rfl rfl ?_
   repeat (first | apply sSn)
   refine w_stN rfl rfl k2 rfl rfl fun g3 m3 k3 n3 => ?_
   repeat (first | apply sE | (apply ai_ret; repeat (first | rw [thenQ_r] | rw [blockQ_r] | rw [roundE_r])))
   exact end_cell1 rfl k3 Tryz.underlying32 rfl (by kernel_rfl) rfl ⟨rfl,x1.trans (x2.own m3 n3)⟩
  rw [if_neg c2]
  by_cases c3 : IntKind.u64.wrap e.kind % 16 < 12
  ·rw [if_pos c3]
   repeat (first | apply sS | apply sE | refine w_mv rfl ?_ | (refine is_okn rfl ?_; refine w_op rfl ?_) | (apply is_ld; refine w_ldA rfl ?_) | (refine w_ci rfl ?_ ?_; (focus omega)) | (apply is_bin; refine w_cT rfl ?_) | (apply is_bin; refine w_cF rfl ?_) | (refine w_rem rfl ?_ ?_ ?_; (focus omega); (focus omega)) | refine w_cuw rfl ?_ | apply ai_seq | apply ai_regW | refine ai_cT rfl ?_ | refine ai_cF rfl ?_ | apply ai_skip | apply ai_block)
   refine w_bldG (us := evV ⟨3,IntKind.u64.wrap e.n % 12,[]⟩) rfl rfl rfl ?_
   repeat (first | apply sSn)
   refine w_stN rfl rfl k2 rfl rfl fun g3 m3 k3 n3 => ?_
   repeat (first | apply sE | (apply ai_ret; repeat (first | rw [thenQ_r] | rw [blockQ_r] | rw [roundE_r])))
   exact end_cell1 rfl k3 Tryz.underlying32 rfl (by kernel_rfl) rfl ⟨rfl,x1.trans (x2.own m3 n3)⟩
  rw [if_neg c3]
  by_cases c4 : IntKind.u64.wrap e.kind % 16 = 12
  ·rw [if_pos c4]
   repeat (first | apply sS | apply sE | refine w_mv rfl ?_ | (refine is_okn rfl ?_; refine w_op rfl ?_) | (apply is_ld; refine w_ldA rfl ?_) | (refine w_ci rfl ?_ ?_; (focus omega)) | (apply is_bin; refine w_cT rfl ?_) | (apply is_bin; refine w_cF rfl ?_) | (refine w_rem rfl ?_ ?_ ?_; (focus omega); (focus omega)) | refine w_cuw rfl ?_ | apply ai_seq | apply ai_regW | refine ai_cT rfl ?_ | refine ai_cF rfl ?_ | apply ai_skip | apply ai_block)
   refine w_bldG (us := evV ⟨4,IntKind.u64.wrap e.n % 4,[]⟩) rfl rfl rfl ?_
   repeat (first | apply sSn)
   refine w_stN rfl rfl k2 rfl rfl fun g3 m3 k3 n3 => ?_
   repeat (first | apply sE | (apply ai_ret; repeat (first | rw [thenQ_r] | rw [blockQ_r] | rw [roundE_r])))
   exact end_cell1 rfl k3 Tryz.underlying32 rfl (by kernel_rfl) rfl ⟨rfl,x1.trans (x2.own m3 n3)⟩
  rw [if_neg c4]
  by_cases c5 : IntKind.u64.wrap e.kind % 16 = 13
  ·rw [if_pos c5]
   repeat (first | apply sS | apply sE | refine w_mv rfl ?_ | (refine is_okn rfl ?_; refine w_op rfl ?_) | (apply is_ld; refine w_ldA rfl ?_) | (apply is_bin; refine w_addA rfl ?_) | (refine w_ci rfl ?_ ?_; (focus omega)) | (apply is_bin; refine w_cT rfl ?_) | (apply is_bin; refine w_cF rfl ?_) | (refine w_rem rfl ?_ ?_ ?_; (focus omega); (focus omega)) | refine w_cuw rfl ?_ | apply ai_seq | apply ai_regW | refine ai_cT rfl ?_ | refine ai_cF rfl ?_ | apply ai_skip | apply ai_block)
   refine w_bldG (us := evV ⟨6,1 + IntKind.u64.wrap e.n % 5,[]⟩) rfl rfl rfl ?_
   repeat (first | apply sSn)
   refine w_stN rfl rfl k2 rfl rfl fun g3 m3 k3 n3 => ?_
   repeat (first | apply sE | (apply ai_ret; repeat (first | rw [thenQ_r] | rw [blockQ_r] | rw [roundE_r])))
   exact end_cell1 rfl k3 Tryz.underlying32 rfl (by kernel_rfl) rfl ⟨rfl,x1.trans (x2.own m3 n3)⟩
  rw [if_neg c5]
  by_cases c6 : IntKind.u64.wrap e.kind % 16 = 14
  ·rw [if_pos c6]
   repeat (first | apply sS | apply sE | refine w_mv rfl ?_ | (refine is_okn rfl ?_; refine w_op rfl ?_) | (apply is_ld; refine w_ldA rfl ?_) | (apply is_bin; refine w_addA rfl ?_) | (refine w_ci rfl ?_ ?_; (focus omega)) | (apply is_bin; refine w_cT rfl ?_) | (apply is_bin; refine w_cF rfl ?_) | (refine w_rem rfl ?_ ?_ ?_; (focus omega); (focus omega)) | refine w_cuw rfl ?_ | apply ai_seq | apply ai_regW | refine ai_cT rfl ?_ | refine ai_cF rfl ?_ | apply ai_skip | apply ai_block)
   refine w_bldG (us := evV ⟨1,1 + IntKind.u64.wrap e.n % 80,[]⟩) rfl rfl rfl ?_
   repeat (first | apply sSn)
   refine w_stN rfl rfl k2 rfl rfl fun g3 m3 k3 n3 => ?_
   repeat (first | apply sE | (apply ai_ret; repeat (first | rw [thenQ_r] | rw [blockQ_r] | rw [roundE_r])))
   exact end_cell1 rfl k3 Tryz.underlying32 rfl (by kernel_rfl) rfl ⟨rfl,x1.trans (x2.own m3 n3)⟩
  rw [if_neg c6]
  repeat (first | apply sS | apply sE | refine w_mv rfl ?_ | (refine is_okn rfl ?_; refine w_op rfl ?_) | (apply is_ld; refine w_ldA rfl ?_) | (apply is_bin; refine w_cF rfl ?_) | (refine w_rem rfl ?_ ?_ ?_; (focus omega); (focus omega)) | refine w_cuw rfl ?_ | apply ai_seq | apply ai_regW | refine ai_cF rfl ?_ | apply ai_skip | apply ai_block)
  refine w_bslF rfl rfl rfl rfl rfl fun g3 x3 k3 n3 => ?_
  replace k3 : g3.get g2.nx = some ⟨nrT.map bs,true,1⟩ := k3
  obtain ⟨m,hm⟩ : ∃ m : Nat,IntKind.u64.wrap e.n % 12 = m := ⟨(IntKind.u64.wrap e.n % 12).toNat,by omega⟩
  have hm12 : m < 12 := by omega
  have hrd : g3.rd g2.nx (0 + (IntKind.u64.wrap e.n % 12).toNat * 1) 1 = some [bs (nrT.getD m [])] := by
   rw [hm,Int.toNat_natCast]
   refine rd_row k3 ?_
   rw [List.getElem?_map,List.getD_eq_getElem?_getD,List.getElem?_eq_getElem (show m < nrT.length from hm12)]
   rfl
  rw [hm,Int.toNat_natCast]
  have k23 := (x3.2 _ n2).trans k2
  repeat (first | apply sS | refine w_mv rfl ?_ | (apply is_ld; refine w_ldA rfl ?_) | (apply is_iad; refine w_iadA rfl ?_) | (refine w_rem rfl ?_ ?_ ?_; (focus omega); (focus omega)))
  refine w_bldG (us := evV ⟨5,0,nrT.getD m []⟩) rfl rfl rfl ?_
  repeat (first | apply sSn)
  refine w_stN rfl rfl k23 rfl rfl fun g4 m4 k4 n4 => ?_
  repeat (first | apply sE | (apply ai_ret; repeat (first | rw [thenQ_r] | rw [blockQ_r] | rw [roundE_r])))
  refine end_cell1 rfl k4 Tryz.underlying32 rfl (by kernel_rfl) rfl ⟨rfl,⟨by have := x1.1; have := x2.1; have := x3.1; omega,fun j hj => ?_⟩⟩
  rw [m4 j (by omega)]
  exact (x1.trans (x2.trans x3)).2 j hj
end Go.Proofs.YtelmcfnkclihcaaGreatDoorW.Am
namespace Go.Proofs.YtelmcfnkclihcaaGreatDoorW.Am
open Go
def dfC : Cf20 := ⟨10000,700,60,6,1,2000,10000,2000,0,0,1,30,0,20000,10,100,60,3,0,0⟩
def opTick (n : Int) : Ev := ⟨1,n,[]⟩
def opArr (n : Int) : Ev := ⟨2,n,[]⟩
def opFin (n : Int) : Ev := ⟨3,n,[]⟩
def toU : Sy := (syDo (syDo (syNew dfC) (opArr 30)).1 (opTick 10)).1
def toD : Sy := (syDo (nTimes (fun s => (syDo s (opFin 0)).1) 30 toU) (opTick 200)).1
def toldB : Bool := decide ((seeF toU).busy = 30) && decide (1 < (seeF toU).pods.length) && (seeF toU).panic && decide ((seeF toD).pods.length = 0) && decide ((seeF toD).want = 0) && decide ((endsF toD.r)[3]? = some 30) && (seeF toD).proxy
theorem toldB_ok : toldB = true := by decide +kernel
end Go.Proofs.YtelmcfnkclihcaaGreatDoorW.Am
namespace Go.Proofs.YtelmcfnkclihcaaGreatDoorW.Am
open Go Go.RowKit
section
section
variable {P : Sy → Prop}
end
theorem do_no {s : Sy} {e : Ev} (h : (syDo s e).2 ≠ 0) : (syDo s e).1 = s := by
 cases hm : mayE e with
 | false => rw [syDo_no s hm]
 | true =>
  rcases may_kind hm with ⟨hk,h1,h2⟩ | ⟨hk,h1,h2⟩ | ⟨hk,h1,h2⟩ | ⟨hk,h1,h2⟩ | ⟨hk,h1,h2⟩ | ⟨hk,h1,h2⟩
  ·rw [syDo_1 s hm hk] at h ⊢
   split at h
   ·next q => rw [if_pos q]
   ·exact absurd rfl h
  ·rw [syDo_2 s hm hk] at h
   exact absurd rfl h
  ·rw [syDo_3 s hm hk,syFinish_eq] at h ⊢
   split at h
   ·next q => rw [if_pos q]
   ·exact absurd rfl h
  ·rw [syDo_4 s hm hk,syCrash_eq] at h ⊢
   split at h
   ·next q => rw [if_pos q]
   ·exact absurd rfl h
  ·rw [syDo_5 s hm hk,syChange_eq] at h ⊢
   split at h
   ·next q => rw [if_pos q]
   ·exact absurd rfl h
  ·rw [syDo_6 s hm hk] at h
   exact absurd rfl h
theorem arrives_now (st : Sy) : ∀ m,(nTimes syArrive m st).now = st.now
 | 0 => rfl
 | m + 1 => by
  rw [nTimes_snoc,syArrive_eq]
  split <;> exact arrives_now st m
theorem do_now {st : Sy} (i : SyI st) (e : Ev) : (syDo st e).1.now ≤ st.now + 200 := by
 cases hm : mayE e with
 | false => rw [syDo_no st hm]; dsimp only; omega
 | true =>
  rcases may_kind hm with ⟨hk,h1,h2⟩ | ⟨hk,h1,h2⟩ | ⟨hk,h1,h2⟩ | ⟨hk,h1,h2⟩ | ⟨hk,h1,h2⟩ | ⟨hk,h1,h2⟩
  ·rw [syDo_1 st hm hk]
   split
   ·dsimp only; omega
   ·have := (ticks i e.n.toNat (by omega)).2.2
    dsimp only; omega
  ·rw [syDo_2 st hm hk]
   have := arrives_now st e.n.toNat
   dsimp only; omega
  ·rw [syDo_3 st hm hk,syFinish_eq]
   split
   ·dsimp only; omega
   ·show st.now ≤ _; omega
  ·rw [syDo_4 st hm hk,syCrash_eq]
   split
   ·dsimp only; omega
   ·show st.now ≤ _; omega
  ·rw [syDo_5 st hm hk,syChange_eq]
   split
   ·dsimp only; omega
   ·show st.now ≤ _; omega
  ·rw [syDo_6 st hm hk]
   show st.now ≤ _; omega
theorem do_tick1 (st : Sy) (h : st.now + 1 ≤ 1099511627776) : syDo st (opTick 1) = (syTick st,0) := by
 rw [syDo_1 st (e := opTick 1) rfl rfl,if_neg (by show ¬ 1099511627776 < st.now + 1; omega)]
 rfl
theorem do_tickN (st : Sy) (k : Nat) (h1 : 1 ≤ k) (h2 : k ≤ 200) (h : st.now + k ≤ 1099511627776) : syDo st (opTick k) = (nTimes syTick k st,0) := by
 rw [syDo_1 st (e := opTick k) (by unfold mayE opTick; simp; omega) rfl,if_neg (by show ¬ 1099511627776 < st.now + (k : Int); omega)]
 rfl
def TrL (st : Sy) : Prop := ∀ v ∈ st.tr,v.pods.length ≤ 1000000
theorem tk5_tr (s : Sy) : ∀ v ∈ (tk5 s).tr,v ∈ s.tr ∨ v = seeF s := fun v hv => by
 have h : v ∈ s.tr ++ [seeF s] := by
  unfold tk5 at hv
  dsimp only at hv
  split at hv
  ·exact List.mem_of_mem_drop hv
  ·exact hv
 simpa using h
theorem tick_tr0 (st : Sy) : (sySent (tk4 (tk3 (tk2 (tk1 st))))).tr = st.tr ∧ (sySent (tk4 (tk3 (tk2 (tk1 st))))).r.length = st.r.length := by
 have e2 : ∀ s,(tk2 s).tr = s.tr ∧ (tk2 s).r = s.r := by intro s; unfold tk2; split <;> exact ⟨rfl,rfl⟩
 rw [sySent_len.1,sySent_len.2,(tk4_same _).1,(tk4_same _).2]
 show (tk2 (tk1 st)).tr = _ ∧ (tk2 (tk1 st)).r.length = _
 rw [(e2 _).1,(e2 _).2]
 exact ⟨rfl,lateR_len _ _ _⟩
theorem tick_tr {st : Sy} (i : SyI st) (hn : st.now < 1099511627776) (hb : st.r.length ≤ 800000) (t : TrL st) : TrL (syTick st) := fun v hv => by
 obtain ⟨_,_,_,_,i4,_⟩ := i.steps hn
 rw [syTick_eq] at hv
 obtain ⟨e1,e2⟩ := tick_tr0 st
 rcases tk5_tr _ v hv with h | rfl
 ·rw [e1] at h
  exact t v h
 ·have := i4.sent.len (by rw [e2]; exact hb)
  show List.length _ ≤ _
  unfold seeF
  dsimp only
  omega
theorem do_tr {st : Sy} (i : SyI st) (hb : st.r.length ≤ 799000) (t : TrL st) (e : Ev) : TrL (syDo st e).1 := by
 have sn : ∀ s,(sySent s).tr = s.tr := fun s => sySent_len.2
 cases hm : mayE e with
 | false => rw [syDo_no st hm]; exact t
 | true =>
  rcases may_kind hm with ⟨hk,h1,h2⟩ | ⟨hk,h1,h2⟩ | ⟨hk,h1,h2⟩ | ⟨hk,h1,h2⟩ | ⟨hk,h1,h2⟩ | ⟨hk,h1,h2⟩
  ·rw [syDo_1 st hm hk]
   split
   ·exact t
   ·have : ∀ m : Nat,st.now + m ≤ 1099511627776 → TrL (nTimes syTick m st) := by
     intro m
     induction m with
     | zero => exact fun _ => t
     | succ m ih =>
      intro hm
      obtain ⟨i1,l1,n1⟩ := ticks i m (by omega)
      rw [nTimes_snoc]
      exact tick_tr i1 (by omega) (by omega) (ih (by omega))
    exact this _ (by omega)
  ·rw [syDo_2 st hm hk]
   have : ∀ m,(nTimes syArrive m st).tr = st.tr := by
    intro m
    induction m with
    | zero => rfl
    | succ m ih =>
     rw [nTimes_snoc,syArrive_eq]
     split <;> (rw [sn]; exact ih)
   intro v hv
   exact t v (by rw [← this]; exact hv)
  ·rw [syDo_3 st hm hk,syFinish_eq]
   split
   ·exact t
   ·intro v hv; rw [sn] at hv; exact t v hv
  ·rw [syDo_4 st hm hk,syCrash_eq]
   split
   ·exact t
   ·intro v hv; rw [sn] at hv; exact t v hv
  ·rw [syDo_5 st hm hk,syChange_eq]
   split
   ·exact t
   ·intro v hv; rw [sn] at hv; exact t v hv
  ·rw [syDo_6 st hm hk]
   exact t
def runF (g : Ev → Nat → Ev) : List Ev → Nat → Sy → Sy
 | [],_,s => s
 | e :: l,i,s => runF g l (i + 1) (syDo s (g e i)).1
theorem runF_snoc (g : Ev → Nat → Ev) : ∀ (l : List Ev) (i : Nat) (s : Sy) (e : Ev),runF g (l ++ [e]) i s = (syDo (runF g l i s) (g e (i + l.length))).1
 | [],i,s,e => rfl
 | x :: l,i,s,e => by
  show runF g (l ++ [e]) (i + 1) _ = _
  rw [runF_snoc g l (i + 1) _ e]
  show _ = (syDo (runF g l (i + 1) _) (g e (i + (l.length + 1)))).1
  rw [show i + (l.length + 1) = i + 1 + l.length by omega]
theorem runF_take (g : Ev → Nat → Ev) {l : List Ev} {k : Nat} {e : Ev} (h : l[k]? = some e) (s : Sy) : runF g (l.take (k + 1)) 0 s = (syDo (runF g (l.take k) 0 s) (g e k)).1 := by
 obtain ⟨h1,rfl⟩ := List.getElem?_eq_some_iff.1 h
 rw [List.take_succ_eq_append_getElem h1,runF_snoc,List.length_take,Nat.min_eq_left (by omega),Nat.zero_add]
structure RnI (n : Nat) (s : Sy) : Prop where
 i : SyI s
 r : s.r.length ≤ 100 * n
 now : s.now ≤ 200 * n
 tr : TrL s
theorem RnI.do_ {n : Nat} {s : Sy} (a : RnI n s) (hn : n ≤ 5000) (e : Ev) : RnI (n + 1) (syDo s e).1 := by
 have h1 := a.r
 have h2 := a.now
 obtain ⟨i1,l1⟩ := a.i.do_ e
 have := do_now a.i e
 exact ⟨i1,by omega,by omega,do_tr a.i (by omega) a.tr e⟩
theorem RnI.new {c : Cf20} (h : mayB c = true) : RnI 0 (syNew c) := ⟨.new h,Nat.zero_le _,Int.le_refl _,fun _ h => by cases h⟩
theorem RnI.run {c : Cf20} (h : mayB c = true) (g : Ev → Nat → Ev) {l : List Ev} : ∀ {k : Nat},k ≤ l.length → l.length ≤ 5000 → RnI k (runF g (l.take k) 0 (syNew c))
 | 0,_,_ => .new h
 | k + 1,hk,hl => by
  rw [runF_take g (List.getElem?_eq_getElem (show k < l.length by omega))]
  exact (RnI.run h g (by omega) hl).do_ (by omega) _
end
section
structure R1 (h0 g : Hp) (T : Tg) (s : Nat) (st : Sy) : Prop where
 f : SyF g T s st
 x : Ext h0 g
 z : ∀ k,T k ≠ 0 → h0.nx ≤ k
abbrev TA : List Nat := [1,2,3,4,5,6,7,8,9,10,11]
theorem Tn.hd {T T' : Tg} {g h : Hp} {i : Nat} {o : Ob} (x : Tn TA T g T' h) (a : Hd g i o) (h0 : T i = 0) : Hd h i o ∧ T' i = 0 :=
 ⟨⟨Nat.lt_of_lt_of_le a.1 x.nx,(x.fr i a.1 (by rw [h0]; decide)).trans a.2⟩,(x.ex i a.1).trans h0⟩
def cnR (r : List Rq) (k : Int) : Int := ((r.countP fun x => decide (x.2.2.1 = k) : Nat) : Int)
def vS (st : Sy) (ps : Value) : List Value := [nI st.now,nI st.want,.bool st.last.panic,.bool st.proxy,ps,nI st.q.length,nI (cnR st.r 2),nI (cnR st.r 0),nI (cnR st.r 1),nI (cnR st.r 2),nI (cnR st.r 3),nI (cnR st.r 4),nI (cnR st.r 5),nI (cnR st.r 6),.bool (mtOver st.d.m)]
section
variable {h0 g h : Hp} {T T' Tb : Tg} {s s' : Nat} {st st' : Sy}
theorem R1.ext (a : R1 h0 g T s st) (x : Ext g h) : R1 h0 h T s st := by
 obtain ⟨⟨P,L,q,D,rs,ts,a1⟩,h1,h2⟩ := a
 exact ⟨⟨P,L,q,D,rs,ts,a1.ext x⟩,h1.trans x,h2⟩
theorem R1.w (a : R1 h0 g T s st) : Tw T g := by
 obtain ⟨⟨P,L,q,D,rs,ts,a1⟩,h1,h2⟩ := a
 exact a1.w
theorem R1.old (a : R1 h0 g T s st) (x : Tn TA T g T' h) : Ext h0 h ∧ ∀ k,T' k ≠ 0 → h0.nx ≤ k := by
 refine ⟨⟨Nat.le_trans a.x.1 x.nx,fun k hk => ?_⟩,fun k hk => ?_⟩
 ·have : T k = 0 := by
   rcases Nat.eq_zero_or_pos (T k) with e | e
   ·exact e
   ·have := a.z k (by omega); omega
  exact (x.fr k (Nat.lt_of_lt_of_le hk a.x.1) (by rw [this]; decide)).trans (a.x.2 k hk)
 ·rcases Nat.lt_or_ge k g.nx with q | q
  ·rw [x.ex k q] at hk; exact a.z k hk
  ·exact Nat.le_trans a.x.1 q
theorem R1.other (b : R1 h0 g Tb s' st') (x : Tn TA T g T' h) (ap : Apt T Tb) (x0 : Ext h0 h) : R1 h0 h Tb s' st' ∧ Apt T' Tb := by
 obtain ⟨⟨P,L,q,D,rs,ts,b1⟩,h1,h2⟩ := b
 obtain ⟨b2,ap2⟩ := b1.other x ap (by decide)
 exact ⟨⟨⟨P,L,q,D,rs,ts,b2⟩,x0,h2⟩,ap2⟩
theorem R1.new (h : Hp) {c : Cf20} (hm : mayB c = true) : ACall PX 6 [.agg ⟨cs20 c⟩] h (fun v g => ∃ s T,v = .tuple #[ptr s,nI 0] ∧ R1 h g T s (syNew c)) :=
 (new_sy h hm).mono fun _ _ ⟨s,P,L,q,D,T,e,a,hz,x⟩ => ⟨s,T,e,⟨P,L,q,D,_,_,a⟩,x,hz⟩
theorem R1.do_ {n : Nat} (a : R1 h0 g T s st) (i : RnI n st) (hn : n ≤ 5000) (e : Ev) (he : e.text.length ≤ 1000000) :
  ACall PX 11 [ptr s,.agg ⟨evV e⟩] g (fun v h => v = nI (syDo st e).2 ∧ ∃ T',R1 h0 h T' s (syDo st e).1 ∧ Tn TA T g T' h) := by
 have a0 := a
 obtain ⟨⟨P,L,q,D,rs,ts,a1⟩,h1,h2⟩ := a
 have hr := i.r
 refine (do_ok a1 i.i (by omega) e he).mono ?_
 rintro v h ⟨rfl,T',rs',ts',a',x⟩
 obtain ⟨x0,z0⟩ := a0.old x
 exact ⟨rfl,T',⟨⟨P,L,q,D,rs',ts',a'⟩,x0,z0⟩,x⟩
theorem R1.see {n : Nat} (a : R1 h0 g T s st) (i : RnI n st) (hn : n ≤ 5000) : ACall PX 12 [ptr s] g (fun v h => ∃ ps,v = .agg ⟨vS st ps⟩ ∧ A4 g.nx h ps st.ps ∧ Ext g h) := by
 obtain ⟨⟨P,L,q,D,rs,ts,a1⟩,h1,h2⟩ := a
 have hr := i.r
 exact see_ok a1 i.i (by omega)
theorem R1.last (a : R1 h0 g T s st) : ACall PX 13 [ptr s] g (fun v h => v = .agg ⟨dcV st.last⟩ ∧ Ext g h) := by
 obtain ⟨⟨P,L,q,D,rs,ts,a1⟩,h1,h2⟩ := a
 exact last_ok a1
theorem R1.trace {n : Nat} (a : R1 h0 g T s st) (i : RnI n st) : ACall PX 14 [ptr s] g (fun v h => TvR h v st.tr ∧ Ext g h) := by
 obtain ⟨⟨P,L,q,D,rs,ts,a1⟩,h1,h2⟩ := a
 exact trace_ok a1 i.i i.tr
end
structure W2 (h0 g : Hp) (T : Tg) (s : Nat) (st : Sy) (Tb : Tg) (s' : Nat) (st' : Sy) : Prop where
 a : R1 h0 g T s st
 b : R1 h0 g Tb s' st'
 ap : Apt T Tb
section
variable {h0 g h : Hp} {T T' Tb Tb' : Tg} {s s' : Nat} {st st' stx : Sy}
theorem W2.ext (a : W2 h0 g T s st Tb s' st') (x : Ext g h) : W2 h0 h T s st Tb s' st' := ⟨a.a.ext x,a.b.ext x,a.ap⟩
theorem W2.fst (a : W2 h0 g T s st Tb s' st') (b : R1 h0 h T' s stx) (x : Tn TA T g T' h) : W2 h0 h T' s stx Tb s' st' := by
 obtain ⟨b2,ap2⟩ := a.b.other x a.ap b.x
 exact ⟨b,b2,ap2⟩
theorem W2.snd (a : W2 h0 g T s st Tb s' st') (b : R1 h0 h Tb' s' stx) (x : Tn TA Tb g Tb' h) : W2 h0 h T s st Tb' s' stx := by
 obtain ⟨b2,ap2⟩ := a.a.other x a.ap.symm b.x
 exact ⟨b2,b,ap2.symm⟩
theorem W2.new (a : R1 h0 g T s st) (b : R1 g h Tb s' st') : W2 h0 h T s st Tb s' st' := by
 refine ⟨a.ext b.x,⟨b.f,a.x.trans b.x,fun k hk => Nat.le_trans a.x.1 (b.z k hk)⟩,?_⟩
 exact (Apt.new b.z a.w).symm
end
end
theorem dfC_may : mayB dfC = true := by kernel_rfl
def toF (m : Nat) : Sy := nTimes (fun s => (syDo s (opFin 0)).1) m toU
theorem toF_succ (m : Nat) : toF (m + 1) = (syDo (toF m) (opFin 0)).1 := nTimes_snoc _ m toU
theorem toU_rn : RnI 2 toU := ((RnI.new dfC_may).do_ (by decide) (opArr 30)).do_ (by decide) (opTick 10)
theorem toF_rn : ∀ m,m ≤ 1000 → RnI (2 + m) (toF m)
 | 0,_ => toU_rn
 | m + 1,h => by
  rw [toF_succ]
  exact (toF_rn m (by omega)).do_ (by omega) _
theorem told_of (u d : Sy) (h : (decide ((seeF u).busy = 30) && decide (1 < (seeF u).pods.length) && (seeF u).panic && decide ((seeF d).pods.length = 0) && decide ((seeF d).want = 0) && decide ((endsF d.r)[3]? = some 30) && (seeF d).proxy) = true) :
  cnR u.r 2 = 30 ∧ 1 < u.ps.length ∧ u.last.panic = true ∧ d.ps.length = 0 ∧ d.want = 0 ∧ cnR d.r 3 = 30 ∧ d.proxy = true := by
 simp only [Bool.and_eq_true,decide_eq_true_eq] at h
 obtain ⟨⟨⟨⟨⟨⟨h1,h2⟩,h3⟩,h4⟩,h5⟩,h6⟩,h7⟩ := h
 exact ⟨h1,h2,h3,h4,h5,Option.some.inj ((endsF_get (r := d.r) (k := 3) (by decide)).symm.trans h6),h7⟩
theorem told_true : cnR toU.r 2 = 30 ∧ 1 < toU.ps.length ∧ toU.last.panic = true ∧ toD.ps.length = 0 ∧ toD.want = 0 ∧ cnR toD.r 3 = 30 ∧ toD.proxy = true := by
 refine told_of toU toD ?_
 have h := toldB_ok
 unfold toldB at h
 exact h
set_option maxHeartbeats 4000000 in
theorem ttold_ok (h : Hp) : ACall PX 9 [] h (fun v g => v = .bool true ∧ Ext h g) := by
 obtain ⟨t1,t2,t3,t4,t5,t6,t7⟩ := told_true
 refine acallA Tryz.func9 c9 ?_
 unfold ir9
 dsimp only [qo,qm,qk,q2,qi,qg,qn,qc,dq,ci,cb,qh,qs]
 repeat (first | apply sS | apply sE | refine w_mv rfl ?_ | apply ai_seq | apply ai_regW)
 refine w_call rfl ((default_ok h).mono ?_)
 rintro _ g1 ⟨rfl,x1⟩
 repeat (first | apply sS)
 refine w_call rfl ((R1.new g1 (c := dfC) dfC_may).mono ?_)
 rintro _ g2 ⟨s,T,rfl,a2⟩
 repeat (first | apply sS | apply sE | refine w_mv rfl ?_ | refine w_pickF rfl ?_ | (refine is_okn rfl ?_; refine w_op rfl ?_) | refine w_ext rfl rfl ?_ | refine w_gT rfl rfl ?_ | (apply is_bin; refine w_cF rfl ?_) | apply ai_seq | apply ai_regW | refine ai_cF rfl ?_ | apply ai_skip)
 refine w_bldG (us := evV (opArr 30)) rfl rfl rfl ?_
 have i2 := RnI.new dfC_may
 repeat (first | apply sS)
 refine w_call rfl ((a2.do_ i2 (by omega) (opArr 30) (by simp [opArr])).mono ?_)
 rintro _ g3 ⟨rfl,T3,a3,x3⟩
 have i3 := i2.do_ (by omega) (opArr 30)
 repeat (first | apply sS | apply sE | refine w_mv rfl ?_ | apply ai_seq | apply ai_regW)
 refine w_bldG (us := evV (opTick 10)) rfl rfl rfl ?_
 repeat (first | apply sS)
 refine w_call rfl ((a3.do_ i3 (by omega) (opTick 10) (by simp [opTick])).mono ?_)
 rintro _ g4 ⟨rfl,T4,a4,x4⟩
 replace a4 : R1 g1 g4 T4 s toU := a4
 repeat (first | apply sS | apply sE | refine w_mv rfl ?_ | apply ai_seq | apply ai_regW)
 refine w_call rfl ((a4.see toU_rn (by omega)).mono ?_)
 rintro _ g5 ⟨ps,rfl,A5,x5⟩
 have a5 := a4.ext x5
 obtain ⟨px,pc,rfl⟩ := A5.len
 repeat (first | apply sS)
 refine w_new fun g6 x6 k6 n6 => ?_
 repeat (first | apply sSn)
 refine w_stN rfl rfl k6 rfl rfl fun g7 m7 k7 n7 => ?_
 have x57 := x6.own m7 n7
 have a7 := a5.ext x57
 have H7 : Hd g7 g5.nx ⟨vS toU (.slice px toU.ps.length pc),true,0⟩ := ⟨by rw [n7]; exact n6,k7⟩
 have z7 : T4 g5.nx = 0 := a5.w _ (Nat.le_refl _)
 generalize g5.nx = i5 at *
 clear k7 k6
 repeat (first | apply sS | apply sE | refine w_mv rfl ?_ | apply ai_seq | apply ai_regW | apply ai_block)
 refine ai_loopE (γ := Nat × Tg) (fun e => [(1,ptr s),(3,ptr i5),(4,nI e.1)]) (fun e h => R1 g1 h e.2 s (toF e.1) ∧ Hd h i5 ⟨vS toU (.slice px toU.ps.length pc),true,0⟩ ∧ e.2 i5 = 0 ∧ e.1 ≤ 30) (fun e => 30 - e.1) (0,T4) leX ⟨a7,H7,z7,by dsimp only; omega⟩ ?_
 rintro ⟨m,T8⟩ g8 ⟨a8,H8,z8,hm⟩
 dsimp only at a8 z8 hm ⊢
 by_cases hml : m < 30
 ·repeat (first | apply sS | apply sE | refine w_mv rfl ?_ | (apply is_bin; refine w_cT rfl ?_) | apply ai_seq | apply ai_regW | refine ai_cT rfl ?_ | apply ai_skip | apply ai_block)
  refine w_bldG (us := evV (opFin 0)) rfl rfl rfl ?_
  repeat (first | apply sS)
  refine w_call rfl ((a8.do_ (toF_rn m (by omega)) (by omega) (opFin 0) (by simp [opFin])).mono ?_)
  rintro _ g9 ⟨rfl,T9,a9,x9⟩
  obtain ⟨H9,z9⟩ := x9.hd H8 z8
  repeat (first | apply sS | apply sE | refine w_mv rfl ?_ | (apply is_bin; refine w_addA rfl ?_) | apply ai_regW)
  exact ⟨(m + 1,T9),leX,⟨by dsimp only; rw [toF_succ]; exact a9,H9,z9,by dsimp only; omega⟩,by dsimp only; omega⟩
 ·obtain rfl : m = 30 := by omega
  repeat (first | apply sS | apply sE | refine w_mv rfl ?_ | (apply is_bin; refine w_cF rfl ?_) | apply ai_seq | apply ai_regW | refine ai_cF rfl ?_ | apply ai_exit)
  refine w_bldG (us := evV (opTick 200)) rfl rfl rfl ?_
  repeat (first | apply sS)
  have i8 := toF_rn 30 (by omega)
  refine w_call rfl ((a8.do_ i8 (by omega) (opTick 200) (by simp [opTick])).mono ?_)
  rintro _ g9 ⟨rfl,T9,a9,x9⟩
  obtain ⟨H9,z9⟩ := x9.hd H8 z8
  replace a9 : R1 g1 g9 T9 s toD := a9
  have iD : RnI 33 toD := i8.do_ (by omega) (opTick 200)
  repeat (first | apply sS | apply sE | refine w_mv rfl ?_ | apply ai_seq | apply ai_regW)
  refine w_call rfl ((a9.see iD (by omega)).mono ?_)
  rintro _ g10 ⟨ps,rfl,A10,x10⟩
  obtain ⟨qx,qc,rfl⟩ := A10.len
  have H10 := H9.ext x10
  repeat (first | apply sS)
  refine w_new fun g11 x11 k11 n11 => ?_
  have H11 := H10.ext x11
  repeat (first | apply sSn)
  refine w_stN rfl rfl k11 rfl rfl fun g12 m12 k12 n12 => ?_
  have x12 := x11.own m12 n12
  obtain ⟨hl12,kU⟩ := H10.ext x12
  replace kU : g12.get i5 = some ⟨[nI toU.now,nI toU.want,.bool toU.last.panic,.bool toU.proxy,.slice px toU.ps.length pc,nI toU.q.length,nI (cnR toU.r 2),nI (cnR toU.r 0),nI (cnR toU.r 1),nI (cnR toU.r 2),nI (cnR toU.r 3),nI (cnR toU.r 4),nI (cnR toU.r 5),nI (cnR toU.r 6),.bool (mtOver toU.d.m)],true,0⟩ := kU
  replace k12 : g12.get g10.nx = some ⟨[nI toD.now,nI toD.want,.bool toD.last.panic,.bool toD.proxy,.slice qx toD.ps.length qc,nI toD.q.length,nI (cnR toD.r 2),nI (cnR toD.r 0),nI (cnR toD.r 1),nI (cnR toD.r 2),nI (cnR toD.r 3),nI (cnR toD.r 4),nI (cnR toD.r 5),nI (cnR toD.r 6),.bool (mtOver toD.d.m)],true,0⟩ := k12
  rw [t1,t3] at kU
  rw [t4,t5,t6,t7] at k12
  have aF := (a9.ext (x10.trans x12)).x
  generalize toU.ps.length = nU at *
  repeat (first | apply sS | apply sE | refine w_mv rfl ?_ | refine w_pickT rfl ?_ | (refine is_okn rfl ?_; refine w_op rfl ?_) | refine w_gT rfl rfl ?_ | (apply is_ld; refine w_ldA rfl ?_) | (apply is_bin; refine w_cT rfl ?_) | (refine w_iaa rfl ?_ ?_; focus (first | omega | (simp; done) | (simp; omega))) | apply ai_seq | apply ai_regW | (apply ai_ret; repeat (first | rw [thenQ_r] | rw [blockQ_r] | rw [roundE_r])))
  exact end_one rfl ⟨rfl,x1.trans aF⟩
abbrev Ro := Option (Loc × List Value)
def roN (rs : List Ro) : Hp := ⟨fun j => match rs[j]? with | some (some (_,cs)) => some ⟨cs,false,0⟩ | _ => none,rs.length⟩
def roM (rs : List Ro) : Mu := ⟨fun j => match rs[j]? with | some (some (l,_)) => some l | _ => none,fun _ => none⟩
theorem roN_get {rs : List Ro} {j : Nat} {l : Loc} {cs : List Value} (h : rs[j]? = some (some (l,cs))) : (roN rs).get j = some ⟨cs,false,0⟩ ∧ roM rs j = some l := by simp [roN,roM,h]
theorem roN_of {rs : List Ro} {j : Nat} {ob : Ob} (h : (roN rs).get j = some ob) : ∃ l,rs[j]? = some (some (l,ob.cells)) ∧ ob.rw = false := by
 simp only [roN] at h
 split at h
 ·next l cs hj => cases h; exact ⟨l,hj,rfl⟩
 ·cases h
section
def Fld (T : TypeId → List Value → Prop) : List TypeId → List Value → Prop
 | [],cs => cs = []
 | t :: r,cs => ∃ a b,cs = a ++ b ∧ T t a ∧ Fld T r b
def Tv (P : Program) (h : Hp) : Nat → TypeId → List Value → Prop
 | 0,_,_ => False
 | n + 1,t,cs => match P.underlying t with
  | some .bool => ∃ b,cs = [.bool b]
  | some (.int k) => ∃ x,cs = [.int k x] ∧ (Lit.int k x).wf = true
  | some .string => ∃ s,cs = [.string s] ∧ s.size ≤ maxLen
  | some (.slice e) => ∃ s us,cs = [s] ∧ RR (P.cellsOf e) h s us ∧ (∀ u ∈ us,Tv P h n e u) ∧ us.length ≤ maxLen ∧ ∃ x c,s = .slice x us.length c ∧ us.length ≤ c
  | some (.struct fs) => Fld (Tv P h n) (fs.toList.map (·.type)) cs
  | some (.array m e) => ∃ us : List (List Value),cs = us.flatten ∧ us.length = m ∧ ∀ u ∈ us,Tv P h n e u
  | _ => False
def offs (P : Program) (pl : TypeId → Bool) : Nat → List Field → Nat → Bool
 | o,[],z => o == z
 | o,f :: r,z => f.offset == o && pl f.type && offs P pl (o + P.cellsOf f.type) r z
def plT (P : Program) : Nat → TypeId → Bool
 | 0,_ => false
 | n + 1,t => match P.underlying t with
  | some .bool | some (.int _) | some .string => true
  | some (.slice e) => decide (0 < P.cellsOf e) && plT P n e
  | some (.struct fs) => offs P (plT P n) 0 fs.toList (P.cellsOf t)
  | some (.array m e) => decide (P.cellsOf t = m * P.cellsOf e) && plT P n e
  | _ => false
theorem Fld.mono {T T' : TypeId → List Value → Prop} (h : ∀ t cs,T t cs → T' t cs) : ∀ {l : List TypeId} {cs : List Value},Fld T l cs → Fld T' l cs
 | [],_,e => e
 | _ :: _,_,⟨a,b,e,x,y⟩ => ⟨a,b,e,h _ _ x,Fld.mono h y⟩
theorem Tv.ext {P : Program} {h g : Hp} (x : Ext h g) : ∀ {n : Nat} {t : TypeId} {cs : List Value},Tv P h n t cs → Tv P g n t cs
 | 0,_,_,e => e
 | n + 1,t,cs,e => by
  unfold Tv at e ⊢
  split at e
  ·exact e
  ·exact e
  ·exact e
  ·obtain ⟨s,us,e1,e2,e3,e4⟩ := e
   exact ⟨s,us,e1,e2.ext x,fun u hu => (e3 u hu).ext x,e4⟩
  ·exact e.mono fun _ _ y => y.ext x
  ·obtain ⟨us,e1,e2,e3⟩ := e
   exact ⟨us,e1,e2,fun u hu => (e3 u hu).ext x⟩
  ·exact e
theorem Fld.one {T : TypeId → List Value → Prop} (h : ∀ t cs,T t cs → cs.all Am.one = true) : ∀ {l : List TypeId} {cs : List Value},Fld T l cs → cs.all Am.one = true
 | [],_,e => by subst e; rfl
 | _ :: _,_,⟨a,b,e,x,y⟩ => by subst e; rw [List.all_append,h _ _ x,Fld.one h y]; rfl
theorem flat_one {us : List (List Value)} (h : ∀ u ∈ us,u.all one = true) : us.flatten.all one = true := by
 rw [List.all_eq_true]
 intro v hv
 obtain ⟨u,hu,hv⟩ := List.mem_flatten.1 hv
 exact List.all_eq_true.1 (h u hu) v hv
theorem Tv.one {P : Program} {h : Hp} : ∀ {n : Nat} {t : TypeId} {cs : List Value},Tv P h n t cs → cs.all Am.one = true
 | 0,_,_,e => e.elim
 | n + 1,t,cs,e => by
  unfold Tv at e
  split at e
  ·obtain ⟨b,rfl⟩ := e; rfl
  ·obtain ⟨b,rfl,_⟩ := e; rfl
  ·obtain ⟨b,rfl,_⟩ := e; rfl
  ·obtain ⟨s,us,rfl,e2,_⟩ := e
   simp [e2.one]
  ·exact e.one fun _ _ y => y.one
  ·obtain ⟨us,rfl,_,e3⟩ := e
   exact flat_one fun u hu => (e3 u hu).one
  ·exact e.elim
def Wn (W : World) (rs : List Ro) : Prop := ∀ (j : Nat) l cs,rs[j]? = some (some (l,cs)) → l.blk < W.heap.size ∧ ∀ (i : Nat) v,cs[i]? = some v → ∃ v',W.cell? ⟨l.blk,l.off + i,none⟩ = some v' ∧ RV (roM rs) v v'
theorem Wn.nil (W : World) : Wn W [] := fun _ _ _ h => by simp at h
theorem roM_app (rs ms : List Ro) : (roM rs).le (roM (rs ++ ms)) := by
 refine ⟨fun i l e => ?_,fun i b e => by simp [roM] at e⟩
 simp only [roM] at e ⊢
 split at e
 ·next l' cs hj =>
  have hi := (List.getElem?_eq_some_iff.1 hj).1
  rw [List.getElem?_append_left hi,hj]
  exact e
 ·cases e
theorem roN_app (rs ms : List Ro) : Ext (roN rs) (roN (rs ++ ms)) := by
 refine ⟨by simp [roN],fun i hi => ?_⟩
 have hi : i < rs.length := hi
 simp only [roN]
 rw [List.getElem?_append_left hi]
theorem Wn.snoc {W : World} {rs : List Ro} (w : Wn W rs) {l : Loc} {cs : List Value} (hb : l.blk < W.heap.size) (hc : ∀ (i : Nat) v,cs[i]? = some v → ∃ v',W.cell? ⟨l.blk,l.off + i,none⟩ = some v' ∧ RV (roM rs) v v') : Wn W (rs ++ [some (l,cs)]) := by
 intro j l' cs' hj
 have hm := roM_app rs [some (l,cs)]
 by_cases hjl : j < rs.length
 ·rw [List.getElem?_append_left hjl] at hj
  obtain ⟨h1,h2⟩ := w j l' cs' hj
  exact ⟨h1,fun i v hv => by obtain ⟨v',e1,e2⟩ := h2 i v hv; exact ⟨v',e1,e2.mono hm⟩⟩
 ·rw [List.getElem?_append_right (by omega)] at hj
  have h0 : j - rs.length = 0 := by
   have := (List.getElem?_eq_some_iff.1 hj).1
   simp at this
   omega
  rw [h0] at hj
  cases hj
  exact ⟨hb,fun i v hv => by obtain ⟨v',e1,e2⟩ := hc i v hv; exact ⟨v',e1,e2.mono hm⟩⟩
theorem wn_sim {W : World} {rs : List Ro} (h : Wn W rs) (t : Tb W.heap.size W) : Sim W.heap.size W (roM rs) (roN rs) W := by
 refine ⟨Bel.refl t,Nat.le_refl _,fun i hi => ?_,fun i l e => ?_,MS.empty _ _ _ _,fun i ob e _ => ?_,fun i j x y l l' e e' hij hrw => ?_⟩
 ·have : rs[i]? = none := List.getElem?_eq_none hi
  simp [roM,this]
 ·simp only [roM] at e
  split at e
  ·next l' cs hj => cases e; exact (h _ _ _ hj).1
  ·cases e
 ·obtain ⟨l,hj,hw⟩ := roN_of e
  exact ⟨l,(roN_get hj).2,fun k v hv => (h _ _ _ hj).2 k v hv,fun hr => by rw [hw] at hr; cases hr⟩
 ·obtain ⟨_,_,hw⟩ := roN_of e
  rw [hw] at hrw; cases hrw
theorem law_op {P : Program} {f : FuncId} {W : World} {rs : List Ro} {args args' : List Value} (h : Wn W rs) (ra : RVs (roM rs) args args') (c : ACall P f args (roN rs) (fun v _ => v = .bool true)) (t : Tb W.heap.size W := by first | exact fun _ _ => trivial | assumption) :
  Calls P f args'.toArray W fun e W' => e = .returned (.bool true) ∧ Below W.heap.size W W' := by
 refine (c.2 W.heap.size W _ W _ ra (wn_sim h t)).mono ?_
 rintro e W' ⟨m',v,v',h',rfl,_,rv,s,rfl⟩
 cases rv
 exact ⟨rfl,s.below.bl⟩
def R2 (m : Mu) (us cs : List (List Value)) : Prop := us.length = cs.length ∧ ∀ (i : Nat) u c,us[i]? = some u → cs[i]? = some c → RVs m u c
theorem R2.cons {m : Mu} {u c : List Value} {us cs : List (List Value)} (a : RVs m u c) (b : R2 m us cs) : R2 m (u :: us) (c :: cs) := by
 refine ⟨by simp [b.1],fun i => ?_⟩
 cases i with
 | zero => intro x y e e'; simp at e e'; subst e e'; exact a
 | succ i => intro x y e e'; simp at e e'; exact b.2 i x y e e'
theorem R2.flat {m : Mu} : ∀ {us cs : List (List Value)},R2 m us cs → RVs m us.flatten cs.flatten
 | [],[],_ => RVs.nil m
 | [],_ :: _,h => by have := h.1; simp at this
 | _ :: _,[],h => by have := h.1; simp at this
 | u :: us,c :: cs,h => by
  rw [List.flatten_cons,List.flatten_cons]
  exact (h.2 0 u c rfl rfl).append (R2.flat ⟨by have := h.1; simpa using this,fun i x y e e' => h.2 (i + 1) x y (by simpa using e) (by simpa using e')⟩)
theorem flat_get {α : Type} {k : Nat} : ∀ {css : List (List α)},(∀ c ∈ css,c.length = k) → ∀ i,i < css.length * k → css.flatten[i]? = (css[i / k]?).bind (·[i % k]?)
 | [],_,i,h => by simp at h
 | c :: r,hc,i,h => by
  have hl := hc c List.mem_cons_self
  rw [List.length_cons,Nat.add_mul,Nat.one_mul] at h
  rw [List.flatten_cons]
  by_cases hi : i < k
  ·rw [List.getElem?_append_left (by omega),Nat.div_eq_of_lt hi,Nat.mod_eq_of_lt hi]
   rfl
  ·have hk : 0 < k := by
    rcases Nat.eq_zero_or_pos k with e | e
    ·subst e; simp at h
    ·exact e
   have hki : k ≤ i := by omega
   have e1 : i / k = (i - k) / k + 1 := Nat.div_eq_sub_div hk hki
   have e2 : i % k = (i - k) % k := Nat.mod_eq_sub_mod hki
   rw [List.getElem?_append_right (by omega),hl,flat_get (fun x hx => hc x (List.mem_cons_of_mem _ hx)) (i - k) (by omega),e1,e2,List.getElem?_cons_succ]
theorem add_add (a : Addr) (x y : Nat) : (a.add x).add y = a.add (x + y) := by
 by_cases hx : x = 0 <;> by_cases hy : y = 0 <;> simp [Addr.add,hx,hy,Nat.add_assoc]
theorem cell_at {W : World} {a : Addr} {v : Value} (h : W.cell? a = some v) : a.spot = none ∧ a.block < W.heap.size := by
 unfold World.cell? at h
 split at h
 ·next hb =>
  refine ⟨?_,(Array.getElem?_eq_some_iff.1 hb).1⟩
  split at h
  ·cases h
  ·next hs => simpa using hs
 ·cases h
theorem flat_len {α : Type} {k : Nat} : ∀ {css : List (List α)},(∀ c ∈ css,c.length = k) → css.flatten.length = css.length * k
 | [],_ => by simp
 | c :: r,h => by
  rw [List.flatten_cons,List.length_append,flat_len fun x hx => h x (List.mem_cons_of_mem _ hx),h c List.mem_cons_self,List.length_cons,Nat.add_mul,Nat.one_mul,Nat.add_comm]
theorem chunks {α : Type} {k : Nat} : ∀ (n : Nat) (cs : List α),cs.length = n * k → ((List.range n).map fun i => (cs.drop (i * k)).take k).flatten = cs
 | 0,cs,h => by
  rw [Nat.zero_mul] at h
  rw [List.eq_nil_of_length_eq_zero h]
  rfl
 | n + 1,cs,h => by
  have e : ((List.range n).map fun i => (cs.drop ((i + 1) * k)).take k) = ((List.range n).map fun i => ((cs.drop k).drop (i * k)).take k) := by
   refine List.map_congr_left fun i _ => ?_
   rw [List.drop_drop,Nat.add_mul,Nat.one_mul,Nat.add_comm]
  have h' := h
  rw [Nat.add_mul,Nat.one_mul] at h'
  have ih := chunks (k := k) n (cs.drop k) (by rw [List.length_drop]; omega)
  rw [List.range_succ_eq_map,List.map_cons,List.map_map,List.flatten_cons]
  show (cs.drop (0 * k)).take k ++ ((List.range n).map fun i => (cs.drop ((i + 1) * k)).take k).flatten = cs
  rw [e,ih,Nat.zero_mul,List.drop_zero,List.take_append_drop]
theorem open_list {W : World} {T : Hp → List Value → Prop} (mono : ∀ h g cs,Ext h g → T h cs → T g cs) {D : List Value → Prop}
  (ih : ∀ cs rs,D cs → Wn W rs → ∃ more cs',Wn W (rs ++ more) ∧ RVs (roM (rs ++ more)) cs' cs ∧ T (roN (rs ++ more)) cs') :
  ∀ css rs,(∀ c ∈ css,D c) → Wn W rs → ∃ more uss,Wn W (rs ++ more) ∧ R2 (roM (rs ++ more)) uss css ∧ ∀ u ∈ uss,T (roN (rs ++ more)) u
 | [],rs,_,w => ⟨[],[],by simpa using w,⟨rfl,by simp⟩,by simp⟩
 | c :: r,rs,hd,w => by
  obtain ⟨m1,u,w1,r1,t1⟩ := ih c rs (hd c List.mem_cons_self) w
  obtain ⟨m2,us,w2,r2,t2⟩ := open_list mono ih r (rs ++ m1) (fun x hx => hd x (List.mem_cons_of_mem _ hx)) w1
  refine ⟨m1 ++ m2,u :: us,?_⟩
  rw [← List.append_assoc]
  refine ⟨w2,R2.cons (r1.mono (roM_app _ _)) r2,fun x hx => ?_⟩
  rcases List.mem_cons.1 hx with rfl | hx
  ·exact mono _ _ _ (roN_app _ _) t1
  ·exact t2 x hx
theorem offs_le {P : Program} {pl : TypeId → Bool} : ∀ {fs : List Field} {o z : Nat},offs P pl o fs z = true → o ≤ z ∧ ∀ f ∈ fs,o ≤ f.offset
 | [],o,z,h => by
  have : o = z := by simpa [offs] using h
  exact ⟨by omega,by simp⟩
 | f :: r,o,z,h => by
  simp only [offs,Bool.and_eq_true,beq_iff_eq] at h
  obtain ⟨h1,h2⟩ := offs_le h.2
  refine ⟨by omega,fun g hg => ?_⟩
  rcases List.mem_cons.1 hg with rfl | hg
  ·omega
  ·have := h2 g hg; omega
theorem open_fld {P : Program} {W : World} {pl : TypeId → Bool} {T : Hp → TypeId → List Value → Prop} (mono : ∀ h g t cs,Ext h g → T h t cs → T g t cs) {D : TypeId → List Value → Prop}
  (ih : ∀ t cs rs,pl t = true → D t cs → Wn W rs → ∃ more cs',Wn W (rs ++ more) ∧ RVs (roM (rs ++ more)) cs' cs ∧ T (roN (rs ++ more)) t cs') :
  ∀ (fs : List Field) (o z : Nat) (cs : List Value) rs,offs P pl o fs z = true → cs.length + o = z → (∀ f ∈ fs,D f.type ((cs.drop (f.offset - o)).take (P.cellsOf f.type))) → Wn W rs →
   ∃ more cs',Wn W (rs ++ more) ∧ RVs (roM (rs ++ more)) cs' cs ∧ Fld (T (roN (rs ++ more))) (fs.map (·.type)) cs'
 | [],o,z,cs,rs,h,hl,_,w => by
  have : o = z := by simpa [offs] using h
  obtain rfl : cs = [] := List.eq_nil_of_length_eq_zero (by omega)
  exact ⟨[],[],by simpa using w,RVs.nil _,rfl⟩
 | f :: r,o,z,cs,rs,h,hl,hd,w => by
  have h' := h
  simp only [offs,Bool.and_eq_true,beq_iff_eq] at h'
  obtain ⟨⟨ho,hp⟩,hr⟩ := h'
  obtain ⟨hz,hge⟩ := offs_le hr
  have hd0 := hd f List.mem_cons_self
  rw [ho,Nat.sub_self,List.drop_zero] at hd0
  obtain ⟨m1,u,w1,r1,t1⟩ := ih f.type _ rs hp hd0 w
  obtain ⟨m2,us,w2,r2,t2⟩ := open_fld mono ih r (o + P.cellsOf f.type) z (cs.drop (P.cellsOf f.type)) (rs ++ m1) hr (by rw [List.length_drop]; omega) (fun g hg => by
   have h1 := hd g (List.mem_cons_of_mem _ hg)
   have h2 := hge g hg
   rw [List.drop_drop,show P.cellsOf f.type + (g.offset - (o + P.cellsOf f.type)) = g.offset - o by omega]
   exact h1) w1
  refine ⟨m1 ++ m2,u ++ us,?_⟩
  rw [← List.append_assoc]
  refine ⟨w2,?_,u,us,rfl,mono _ _ _ _ (roN_app _ _) t1,t2⟩
  have := (r1.mono (roM_app (rs ++ m1) m2)).append r2
  rwa [List.take_append_drop] at this
section
variable {P : Program} {CT : FuncId → List Value → Hp → (Value → Hp → Prop) → Prop} {d : Option Nat} {xs : List Operand} {env : Env} {h : Hp} {R : Value → Hp → Prop}
end
theorem open_gen {H : Type} {enc : TypeId × Value → H} {P : Program} {W : World} {held : Bool} (hz : 0 < W.heap.size) : ∀ (n : Nat) (t : TypeId) (cs : List Value) (x : DataW H × List MemPlace) (fuel : Nat) (rs : List Ro),plT P n t = true →
  DataW.trod enc P W 0 (fun _ => true) held fuel t cs = some x → Wn W rs → ∃ more cs',Wn W (rs ++ more) ∧ RVs (roM (rs ++ more)) cs' cs ∧ Tv P (roN (rs ++ more)) n t cs'
 | 0,_,_,_,_,_,h,_,_ => by simp [plT] at h
 | n + 1,t,cs,x,fuel,rs,hp,hx,w => by
  unfold plT at hp
  unfold Tv
  split at hp
  ·next ht =>
   obtain ⟨b,rfl,_⟩ := DataW.trod_bool ht hx
   exact ⟨[],[.bool b],by simpa using w,RVs.cons (.bool b) (RVs.nil _),⟨b,rfl⟩⟩
  ·next k ht =>
   obtain ⟨b,rfl,_,hw⟩ := DataW.trod_int ht hx
   exact ⟨[],[.int k b],by simpa using w,RVs.cons (.int k b) (RVs.nil _),⟨b,rfl,hw⟩⟩
  ·next ht =>
   obtain ⟨b,rfl,_,hw⟩ := DataW.trod_string ht hx
   exact ⟨[],[.string b],by simpa using w,RVs.cons (.string b) (RVs.nil _),⟨b,rfl,hw⟩⟩
  ·next e ht =>
   rw [Bool.and_eq_true,decide_eq_true_eq] at hp
   obtain ⟨hk,hp⟩ := hp
   rcases DataW.trod_slice ht hx with ⟨rfl,_⟩ | ⟨a,len,cap,elems,rest,m,_,rfl,_,_,hlc,hcm,hln,hel,hsp,_⟩
   ·exact ⟨[],[.slice none 0 0],by simpa using w,RVs.cons (.nils 0 0) (RVs.nil _),_,[],rfl,.inl ⟨rfl,rfl⟩,by simp,Nat.zero_le _,_,_,rfl,Nat.le_refl _⟩
   obtain ⟨hrl,hrest⟩ := hsp rfl
   by_cases hc : cap = 0
   ·obtain rfl : len = 0 := by omega
    subst hc
    exact ⟨[some (⟨0,0,0⟩,[])],[.slice (some ⟨rs.length,0,some 1⟩) 0 0],w.snoc hz (by simp),RVs.cons (.sliceY (l := ⟨0,0,0⟩) a (roN_get (cs := []) (by simp)).2) (RVs.nil _),_,[],rfl,
     .inr ⟨rs.length,0,some 1,0,rfl,by simp [roN],fun h => absurd rfl h,fun x u hu => by cases hu⟩,by simp,Nat.zero_le _,_,_,rfl,Nat.le_refl _⟩
   have hcs : ∀ i,i < len → ∃ c,W.cells? 0 (a.add (i * P.cellsOf e)) (P.cellsOf e) = some c ∧ ∃ y,DataW.trod enc P W 0 (fun _ => true) held m e c = some y := by
    intro i hi
    have h1 := hel i hi
    rw [List.getElem?_eq_getElem (by omega),Option.bind_eq_some_iff] at h1
    obtain ⟨c,h2,h3⟩ := h1
    exact ⟨c,h2,_,h3⟩
   have h0 : ∃ c,W.cells? 0 (a.add 0) (P.cellsOf e) = some c := by
    by_cases hl : 0 < len
    ·obtain ⟨c,h1,_⟩ := hcs 0 hl
     rw [Nat.zero_mul] at h1
     exact ⟨c,h1⟩
    ·have h1 := hrest 0 (by omega)
     rw [List.getElem?_eq_getElem (by omega),Option.bind_eq_some_iff,show len + 0 = 0 by omega,Nat.zero_mul] at h1
     exact ⟨_,h1.choose_spec.1⟩
   obtain ⟨c0,h0⟩ := h0
   obtain ⟨_,hl0,hc0⟩ := World.cells?_some h0
   have h00 := hc0 0 hk
   rw [add_add,List.getElem?_eq_getElem (by omega)] at h00
   have hat := cell_at h00
   have hadd : a.add (0 + 0) = a := by simp [Addr.add]
   rw [hadd] at hat
   obtain ⟨b,off,sp⟩ := a
   obtain ⟨hs,hb⟩ := hat
   have hs : sp = none := hs
   subst hs
   have hb : b < W.heap.size := hb
   obtain ⟨more,uss,w1,r2,t2⟩ := open_list (W := W) (T := fun h c => Tv P h n e c) (fun _ _ _ x y => y.ext x) (D := fun c => c.length = P.cellsOf e ∧ ∃ y,DataW.trod enc P W 0 (fun _ => true) held m e c = some y)
    (fun cs rs d w => open_gen hz n e cs _ m rs hp d.2.choose_spec w) ((List.range len).map fun i => (W.cells? 0 ((⟨b,off,none⟩ : Addr).add (i * P.cellsOf e)) (P.cellsOf e)).getD []) rs (fun c hcm => by
     obtain ⟨i,hi,rfl⟩ := List.mem_map.1 hcm
     rw [List.mem_range] at hi
     obtain ⟨c,h1,h2⟩ := hcs i hi
     rw [h1]
     exact ⟨(World.cells?_some h1).2.1,h2⟩) w
   have hlk : ∀ c ∈ ((List.range len).map fun i => (W.cells? 0 ((⟨b,off,none⟩ : Addr).add (i * P.cellsOf e)) (P.cellsOf e)).getD []),c.length = P.cellsOf e := by
    intro c hcm
    obtain ⟨i,hi,rfl⟩ := List.mem_map.1 hcm
    rw [List.mem_range] at hi
    obtain ⟨c,h1,h2⟩ := hcs i hi
    rw [h1]
    exact (World.cells?_some h1).2.1
   have hul : uss.length = len := by rw [r2.1]; simp
   have hels : Els (P.cellsOf e) uss := by
    intro u hu
    refine ⟨?_,(t2 u hu).one⟩
    obtain ⟨i,hi,rfl⟩ := List.getElem_of_mem hu
    have hi2 : i < ((List.range len).map fun i => (W.cells? 0 ((⟨b,off,none⟩ : Addr).add (i * P.cellsOf e)) (P.cellsOf e)).getD []).length := by rw [← r2.1]; exact hi
    have := (r2.2 i _ _ (List.getElem?_eq_getElem hi) (List.getElem?_eq_getElem hi2)).1
    rw [this]
    exact hlk _ (List.getElem_mem hi2)
   refine ⟨more ++ [some (⟨b,off,0⟩,uss.flatten)],[.slice (some ⟨(rs ++ more).length,0,none⟩) len cap],?_⟩
   rw [← List.append_assoc]
   have hJ : (rs ++ more ++ [some (⟨b,off,0⟩,uss.flatten)])[(rs ++ more).length]? = some (some (⟨b,off,0⟩,uss.flatten)) := by simp
   refine ⟨w1.snoc hb fun i v hv => ?_,RVs.cons (.slice (roN_get hJ).2) (RVs.nil _),_,uss,rfl,.inr ⟨(rs ++ more).length,0,none,cap,by rw [hul],by simp [roN],fun _ => rfl,fun x u hu => rd_row2 (tl := []) (by rw [List.append_nil]; exact (roN_get hJ).1) hels hu⟩,fun u hu => (t2 u hu).ext (roN_app _ _),by omega,_,_,by rw [hul],by omega⟩
   obtain ⟨v',hv',rv⟩ := r2.flat.get hv
   refine ⟨v',?_,rv⟩
   have hi := (List.getElem?_eq_some_iff.1 hv').1
   rw [flat_len hlk] at hi
   rw [flat_get hlk i hi] at hv'
   have hq : i / P.cellsOf e < len := by
    rw [List.length_map,List.length_range] at hi
    exact Nat.div_lt_of_lt_mul (by rw [Nat.mul_comm]; exact hi)
   obtain ⟨c,h1,_⟩ := hcs _ hq
   rw [List.getElem?_map,List.getElem?_range hq,Option.map_some,h1] at hv'
   have hv' : c[i % P.cellsOf e]? = some v' := hv'
   have h2 := (World.cells?_some h1).2.2 (i % P.cellsOf e) (Nat.mod_lt _ hk)
   rw [add_add,Nat.mul_comm,Nat.div_add_mod,hv'] at h2
   rw [← h2]
   unfold Addr.add
   split
   ·next e0 => subst e0; rfl
   ·rfl
  ·next fs ht =>
   obtain ⟨xs,m,_,_,hl,hlen,hf⟩ := DataW.trod_struct ht hx
   exact open_fld (T := fun h => Tv P h n) (fun _ _ _ _ x y => y.ext x) (D := fun t c => ∃ y,DataW.trod enc P W 0 (fun _ => true) held m t c = some y) (fun t cs rs hp d w => open_gen hz n t cs _ m rs hp d.choose_spec w)
    fs.toList 0 _ cs rs hp (by omega) (fun f hfm => by
     obtain ⟨i,hi,rfl⟩ := List.getElem_of_mem hfm
     have hi2 : i < fs.size := by simpa using hi
     have := hf i _ (Array.getElem?_eq_getElem hi2)
     rw [List.getElem?_eq_getElem (by omega)] at this
     exact ⟨_,by simpa using this⟩) w
  ·next m' e ht =>
   rw [Bool.and_eq_true,decide_eq_true_eq] at hp
   obtain ⟨xs,m,_,_,hl,hlen,hf⟩ := DataW.trod_array ht hx
   obtain ⟨more,uss,w1,r2,t2⟩ := open_list (W := W) (T := fun h c => Tv P h n e c) (fun _ _ _ x y => y.ext x) (D := fun c => ∃ y,DataW.trod enc P W 0 (fun _ => true) held m e c = some y)
    (fun cs rs d w => open_gen hz n e cs _ m rs hp.2 d.choose_spec w) ((List.range m').map fun i => (cs.drop (i * P.cellsOf e)).take (P.cellsOf e)) rs (fun c hcm => by
     obtain ⟨i,hi,rfl⟩ := List.mem_map.1 hcm
     rw [List.mem_range] at hi
     have := hf i hi
     rw [List.getElem?_eq_getElem (by omega)] at this
     exact ⟨_,this⟩) w
   refine ⟨more,uss.flatten,w1,?_,uss,rfl,by rw [r2.1]; simp,t2⟩
   have := r2.flat
   rwa [chunks m' cs (by rw [hl,hp.1])] at this
  ·cases hp
end
section
section
variable {P : Program} {h : Hp} {n : Nat} {t : TypeId} {cs : List Value}
theorem tv_int {k : IntKind} (hu : P.underlying t = some (.int k)) (e : Tv P h n t cs) : ∃ x,cs = [.int k x] ∧ (Lit.int k x).wf = true := by
 cases n with
 | zero => exact e.elim
 | succ n => unfold Tv at e; rw [hu] at e; exact e
theorem tv_string (hu : P.underlying t = some .string) (e : Tv P h n t cs) : ∃ s,cs = [.string s] ∧ s.size ≤ maxLen := by
 cases n with
 | zero => exact e.elim
 | succ n => unfold Tv at e; rw [hu] at e; exact e
theorem tv_slice {el : TypeId} (hu : P.underlying t = some (.slice el)) (e : Tv P h n t cs) : ∃ m s us,cs = [s] ∧ RR (P.cellsOf el) h s us ∧ (∀ u ∈ us,Tv P h m el u) ∧ us.length ≤ maxLen ∧ ∃ x c,s = .slice x us.length c ∧ us.length ≤ c := by
 cases n with
 | zero => exact e.elim
 | succ n => unfold Tv at e; rw [hu] at e; exact ⟨n,e⟩
theorem tv_struct {fs : Array Field} {l : List TypeId} (hu : P.underlying t = some (.struct fs)) (hl : fs.toList.map (·.type) = l) (e : Tv P h n t cs) : ∃ m,Fld (Tv P h m) l cs := by
 cases n with
 | zero => exact e.elim
 | succ n => unfold Tv at e; rw [hu] at e; subst hl; exact ⟨n,e⟩
end
def I64 (n : Int) : Prop := -9223372036854775808 ≤ n ∧ n ≤ 9223372036854775807
theorem i64_of {x : Int} (h : (Lit.int .i64 x).wf = true) : I64 x := by
 unfold Lit.wf at h
 rw [Bool.and_eq_true] at h
 have h1 := of_decide_eq_true h.1
 have h2 := of_decide_eq_true h.2
 have e1 : IntKind.i64.min = -9223372036854775808 := by decide
 have e2 : IntKind.i64.max = 9223372036854775807 := by decide
 rw [e1] at h1
 rw [e2] at h2
 exact ⟨h1,h2⟩
theorem tv_i64 {h : Hp} {n : Nat} {t : TypeId} {cs : List Value} (e : Tv PX h n t cs) (hu : PX.underlying t = some (.int .i64) := by first | exact Tryz.underlying3 | exact Tryz.underlying2) : ∃ x,cs = [nI x] ∧ I64 x := by
 obtain ⟨x,h1,h2⟩ := tv_int hu e
 exact ⟨x,h1,i64_of h2⟩
theorem str_of {h : Hp} {n : Nat} {cs : List Value} (e : Tv PX h n 9 cs) : ∃ s,cs = [bs s] ∧ s.length ≤ maxLen := by
 obtain ⟨s,rfl,hs⟩ := tv_string Tryz.underlying9 e
 exact ⟨s.data.toList,by simp [bs],by simpa using hs⟩
theorem map_of {α : Type} {f : α → List Value} : ∀ {us : List (List Value)},(∀ u ∈ us,∃ p,u = f p) → ∃ l : List α,us = l.map f
 | [],_ => ⟨[],rfl⟩
 | u :: us,h => by
  obtain ⟨p,rfl⟩ := h u List.mem_cons_self
  obtain ⟨l,rfl⟩ := map_of (f := f) (us := us) fun x hx => h x (List.mem_cons_of_mem _ hx)
  exact ⟨p :: l,rfl⟩
theorem ev_of {h : Hp} {n : Nat} {cs : List Value} (e : Tv PX h n 32 cs) : ∃ x : Ev,cs = evV x ∧ x.text.length ≤ maxLen := by
 obtain ⟨m,a,b,rfl,h1,a2,b2,rfl,h2,a3,b3,rfl,h3,h4⟩ := tv_struct (l := [3,3,9]) Tryz.underlying32 rfl e
 obtain ⟨x1,rfl,_⟩ := tv_i64 h1
 obtain ⟨x2,rfl,_⟩ := tv_i64 h2
 obtain ⟨x3,rfl,hx⟩ := str_of h3
 have h4 : b3 = [] := h4
 subst h4
 exact ⟨⟨x1,x2,x3⟩,rfl,hx⟩
theorem evs_of {h : Hp} {n : Nat} {cs : List Value} (e : Tv PX h n 22 cs) : ∃ s,∃ l : List Ev,cs = [s] ∧ RR 3 h s (rV l) ∧ l.length ≤ maxLen ∧ ∀ x ∈ l,x.text.length ≤ maxLen := by
 obtain ⟨m,s,us,rfl,r,hu,hl,_⟩ := tv_slice Tryz.underlying22 e
 have : ∃ l : List {x : Ev // x.text.length ≤ maxLen},us = l.map fun p => evV p.1 := map_of fun u hu' => by
  obtain ⟨p,e1,e2⟩ := ev_of (hu u hu')
  exact ⟨⟨p,e2⟩,e1⟩
 obtain ⟨l,rfl⟩ := this
 rw [List.length_map] at hl
 rw [show PX.cellsOf 32 = 3 by kernel_rfl] at r
 refine ⟨s,l.map (·.1),rfl,?_,by rw [List.length_map]; exact hl,fun x hx => ?_⟩
 ·unfold rV
  rw [List.map_map]
  exact r
 ·obtain ⟨y,_,rfl⟩ := List.mem_map.1 hx
  exact y.2
theorem fld_i64 : ∀ (k : Nat) {h : Hp} {n : Nat} {l : List TypeId} {cs : List Value},Fld (Tv PX h n) l cs → l.length = k → (∀ t ∈ l,t = 2 ∨ t = 3) → ∃ xs : List Int,cs = xs.map nI ∧ xs.length = k ∧ ∀ x ∈ xs,I64 x
 | 0,h,n,l,cs,e,hl,_ => by
  obtain rfl := List.length_eq_zero_iff.1 hl
  have e : cs = [] := e
  subst e
  exact ⟨[],rfl,rfl,fun _ h => by cases h⟩
 | k + 1,h,n,[],cs,e,hl,_ => by simp at hl
 | k + 1,h,n,t :: l,cs,e,hl,ht => by
  obtain ⟨a,b,rfl,h1,h2⟩ := e
  obtain ⟨xs,rfl,h3,h4⟩ := fld_i64 k h2 (by simpa using hl) fun t h => ht t (List.mem_cons_of_mem _ h)
  have : ∃ x,a = [nI x] ∧ I64 x := by
   rcases ht t List.mem_cons_self with rfl | rfl
   ·exact tv_i64 h1 Tryz.underlying2
   ·exact tv_i64 h1 Tryz.underlying3
  obtain ⟨x,rfl,hx⟩ := this
  refine ⟨x :: xs,rfl,by simp [h3],fun y hy => ?_⟩
  rcases List.mem_cons.1 hy with rfl | hy
  ·exact hx
  ·exact h4 y hy
def CfI (c : Cf20) : Prop := ∀ v ∈ cs20 c,∃ x,v = nI x ∧ I64 x
theorem conf_of {h : Hp} {n : Nat} {cs : List Value} (e : Tv PX h n 27 cs) : ∃ c : Cf20,cs = cs20 c ∧ CfI c := by
 obtain ⟨m,e⟩ := tv_struct (l := [2,2,3,3,3,2,2,2,3,3,3,3,3,2,3,3,3,3,3,3]) Tryz.underlying27 rfl e
 obtain ⟨xs,rfl,hl,hx⟩ := fld_i64 20 e rfl (by decide)
 match xs,hl with
 | [x1,x2,x3,x4,x5,x6,x7,x8,x9,x10,x11,x12,x13,x14,x15,x16,x17,x18,x19,x20],_ =>
  refine ⟨⟨x1,x2,x3,x4,x5,x6,x7,x8,x9,x10,x11,x12,x13,x14,x15,x16,x17,x18,x19,x20⟩,rfl,fun v hv => ?_⟩
  obtain ⟨x,hx',rfl⟩ := List.mem_map.1 (show v ∈ List.map nI [x1,x2,x3,x4,x5,x6,x7,x8,x9,x10,x11,x12,x13,x14,x15,x16,x17,x18,x19,x20] from hv)
  exact ⟨x,rfl,hx x hx'⟩
theorem agg_rv {m : Mu} {c : List Value} {a : Array Value} (h : RVs m c a.toList) : RV m (.agg ⟨c⟩) (.agg a) :=
 RV.agg h.1 h.2
theorem conf_rv {m : Mu} {c : Cf20} {a : Array Value} (h : RVs m (cs20 c) a.toList) : RV m (.agg ⟨cs20 c⟩) (.agg a) :=
 RV.agg h.1 h.2
end
section
section
variable {P : Program}
theorem ps_sizeOf [Fl] {e : TypeId} {i : TypeInfo} (hi : P.info? e = some i) : pureSem P (sizeOf e) = some i.size := by
 simp [sizeOf,typeInfo,ps_bind,ps_program,hi,ps_pure]
theorem ps_array [Fl] (d : Nat) {t e : TypeId} {n : Nat} {i : TypeInfo} (xs ys : Array Value) (hu : P.underlying t = some (.array n e)) (hi : P.info? e = some i) :
  pureSem P (Op.equalIn (d + 1) t (.agg xs) (.agg ys)) = pureSem P (Op.eqItems d e i.size xs ys (List.range n)) := by
 simp only [Op.equalIn,ps_bind,ps_underlying hu,Option.bind_some,ps_sizeOf hi]
 simp only [Std.Legacy.Range.forIn_eq_forIn_range',Std.Legacy.Range.size,Nat.sub_zero,Nat.add_one_sub_one,Nat.div_one,List.range_eq_range']
 generalize List.range' 0 n = is
 induction is with
 | nil => rfl
 | cons j is ih =>
  simp only [List.forIn_cons,Op.eqItems,ps_bind,ps_ite]
  generalize pureSem P (part e xs (j * i.size)) = r1
  cases r1 with
  | none => rfl
  | some a =>
   simp only [Option.bind_some]
   generalize pureSem P (part e ys (j * i.size)) = r2
   cases r2 with
   | none => rfl
   | some b =>
    simp only [Option.bind_some]
    generalize pureSem P (Op.equalIn d e a b) = r3
    cases r3 with
    | none => rfl
    | some r =>
     cases r
     ·rfl
     ·simp only [Option.bind_some,Bool.not_true,Bool.false_eq_true,if_false,ps_pure]
      exact ih
theorem ps_items [Fl] (d : Nat) {e : TypeId} {k : SK} (hk : skOf P e = some k) : ∀ (n i : Nat) (px py xs ys : List Value),px.length = i → py.length = i → skAll (List.replicate n k) xs = true → skAll (List.replicate n k) ys = true →
  pureSem P (Op.eqItems (d + 1) e 1 ⟨px ++ xs⟩ ⟨py ++ ys⟩ (List.range' i n)) = some (eqL xs ys)
 | 0,i,px,py,xs,ys,_,_,hx,hy => by
  cases xs <;> cases ys <;> simp_all [skAll,eqL,Op.eqItems] <;> rfl
 | n + 1,i,px,py,xs,ys,hpx,hpy,hx,hy => by
  rw [List.replicate_succ] at hx hy
  cases xs with
  | nil => cases hx
  | cons x xs =>
   cases ys with
   | nil => cases hy
   | cons y ys =>
    simp only [skAll,Bool.and_eq_true] at hx hy
    have gx : (⟨px ++ x :: xs⟩ : Array Value)[i * 1]? = some x := by simp [← hpx]
    have gy : (⟨py ++ y :: ys⟩ : Array Value)[i * 1]? = some y := by simp [← hpy]
    rw [List.range'_succ]
    simp only [Op.eqItems,ps_bind,ps_part hk gx,ps_part hk gy,Option.bind_some,ps_sc d hk hx.1 hy.1]
    cases hb : eqV x y
    ·simp [eqL,hb]; rfl
    ·simp only [Bool.not_true,Bool.false_eq_true,if_false,eqL,hb,Bool.true_and]
     have := ps_items d hk n (i + 1) (px ++ [x]) (py ++ [y]) xs ys (by simp [hpx]) (by simp [hpy]) hx.2 hy.2
     simpa using this
theorem ps_eqA [Fl] {t e : TypeId} {n : Nat} {k : SK} {i : TypeInfo} {xs ys : List Value} (hu : P.underlying t = some (.array n e)) (hk : skOf P e = some k) (hi : P.info? e = some i) (h1 : i.size = 1) (hg : P.eqGuardType P.depth t = false)
  (hx : skAll (List.replicate n k) xs = true) (hy : skAll (List.replicate n k) ys = true) (x y : Operand) :
  pureSem P (do eqGuard .eql t x y (.agg ⟨xs⟩) (.agg ⟨ys⟩); binOp .eql t (.agg ⟨xs⟩) (.agg ⟨ys⟩)) = some (.bool (eqL xs ys)) := by
 have he : pureSem P (Op.equal t (.agg ⟨xs⟩) (.agg ⟨ys⟩)) = some (eqL xs ys) := by
  show pureSem P (Op.equalIn (9999 + 1) t (.agg ⟨xs⟩) (.agg ⟨ys⟩)) = _
  rw [ps_array 9999 _ _ hu hi,h1]
  have := ps_items 9998 hk n 0 [] [] xs ys rfl rfl hx hy
  rw [List.range_eq_range']
  exact this
 have hg : pureSem P (eqGuard .eql t x y (.agg ⟨xs⟩) (.agg ⟨ys⟩)) = some () := by
  simp [eqGuard,ps_bind,ps_program,hg,ps_pure]
 rw [ps_bind,hg,Option.bind_some]
 simp only [binOp,ps_bind,he,Option.bind_some]
 rfl
theorem w_eqA [Fl] {CT : CTy} {env : Env} {h : Hp} {d : Option Nat} {R : Value → Hp → Prop} {t u ty e : TypeId} {x y : Operand} {n : Nat} {k : SK} {i : TypeInfo} {xs ys : List Value} (ex : evA env x = some (.agg ⟨xs⟩)) (ey : evA env y = some (.agg ⟨ys⟩)) (hu : P.underlying t = some (.array n e)) (hk : skOf P e = some k) (hi : P.info? e = some i) (h1 : i.size = 1) (hg : P.eqGuardType P.depth t = false)
  (hx : skAll (List.replicate n k) xs = true) (hy : skAll (List.replicate n k) ys = true)
  (nx : ∀ b : Bool,(b = true ↔ xs = ys) → R (.bool b) h) : WI P CT ⟨d,none,.fl (.binOp .eql t x y u) ty⟩ env h R := by
 refine ⟨?_⟩
 unfold wpIn
 have hs : flatStep P env (.binOp .eql t x y u) ty = some (.bool (eqL xs ys)) := by
  have fx := sk_flat hx
  have fy := sk_flat hy
  unfold flatStep
  have ha : allFlat env (Op.binOp .eql t x y u).operands.toList = true := by
   simp [allFlat,Op.operands,ex,ey,fx,fy]
  rw [if_pos ha]
  have he : pureSem P (execOp (fun x => (evA env x).getD undef) ⟨none, .binOp .eql t x y u, ty, "", #[], none⟩) = some (.value (.bool (eqL xs ys))) := by
   simp only [execOp,ex,ey,Option.getD_some]
   rw [ps_bind,ps_eqA hu hk hi h1 hg hx hy x y]
   rfl
  rw [he]
  rfl
 simp only [wanted,hs]
 exact nx _ (eqL_iff hx hy)
end
end
section
theorem few_of {l : List Ev} {most : Int} (h : fewF l most = true) : (l.length : Int) ≤ most ∧ ∀ e ∈ l,e.text.length ≤ 300 := by
 unfold fewF at h
 rw [Bool.and_eq_true] at h
 exact ⟨of_decide_eq_true h.2,fun e he => of_decide_eq_true (List.all_eq_true.1 h.1 e he)⟩
theorem nrT_len : ∀ x ∈ nrT,x.length ≤ 300 := by decide
theorem near_len {e : Ev} (h : e.text.length ≤ 300) (i : Nat) : (nearF e i).text.length ≤ 300 := by
  unfold nearF
  split
  · exact h
  · dsimp only
    repeat' split
    all_goals first
      | exact Nat.zero_le _
      | (dsimp only
         rw [List.getD_eq_getElem?_getD]
         cases q : nrT[(IntKind.u64.wrap e.n % 12).toNat]? with
         | none => exact Nat.zero_le _
         | some x => exact nrT_len x (List.mem_of_getElem? q))
theorem RnI.up {n m : Nat} {s : Sy} (a : RnI n s) (h : n ≤ m) : RnI m s := ⟨a.i,by have := a.r; omega,by have := a.now; omega,a.tr⟩
theorem RnI.ticks {n : Nat} {s : Sy} (a : RnI n s) (hn : n ≤ 5000) (j : Nat) (hj : j ≤ 200) : RnI (n + 1) (nTimes syTick j s) := by
 rcases Nat.eq_zero_or_pos j with rfl | h
 ·exact a.up (by omega)
 ·have h1 := a.now
  have := a.do_ hn (opTick j)
  rw [do_tickN s j h hj (by omega)] at this
  exact this
section
variable {CT : CTy} {env : Env} {h : Hp} {d : Option Nat} {R : Value → Hp → Prop}
theorem w_eqD {u ty : TypeId} {x y : Operand} {a b : Dc} (ex : evA env x = some (.agg ⟨dcV a⟩)) (ey : evA env y = some (.agg ⟨dcV b⟩)) (n : R (.bool (decide (a = b))) h) : WI PX CT ⟨d,none,.fl (.binOp .eql 42 x y u) ty⟩ env h R := by
 refine w_eqS ex ey (ks := [.int .i64,.int .i64,.int .i64,.int .i64,.bool,.int .i64]) (by kernel_rfl) rfl rfl fun c hc => ?_
 have : c = decide (a = b) := by
  by_cases q : a = b
  ·subst q; rw [hc.2 rfl]; simp
  ·have : ¬ c = true := fun h => q (by
    have := hc.1 h
    obtain ⟨a1,a2,a3,a4,a5,a6⟩ := a
    obtain ⟨b1,b2,b3,b4,b5,b6⟩ := b
    simp only [dcV,List.cons.injEq,Value.int.injEq,Value.bool.injEq,true_and,and_true] at this
    simp [this])
   rw [decide_eq_false q]; simpa using this
 rw [this]
 exact n
end
set_option maxHeartbeats 8000000 in
theorem tticks_ok (h : Hp) {v : Value} {l : List Ev} (r : RR 3 h v (rV l)) (hl : l.length ≤ 9223372036854775807) (ht : ∀ e ∈ l,e.text.length ≤ 9223372036854775807) (n : Int) : ACall PX 3 [v,nI n] h (fun v _ => v = .bool true) := by
 obtain ⟨x,c,e⟩ := r.len
 rw [rV_len] at e
 subst e
 refine acallA Tryz.func3 c3 ?_
 unfold ir3
 dsimp only [qo,qm,qk,q2,qi,qg,qn,qc,dq,ci,cb,qh,qs]
 repeat (first | apply sS | apply sE | refine w_mv rfl ?_ | apply ai_seq | apply ai_regW)
 refine w_call rfl ((default_ok h).mono ?_)
 rintro _ g1 ⟨rfl,x1⟩
 repeat (first | apply sS)
 refine w_call rfl ((R1.new g1 (c := dfC) dfC_may).mono ?_)
 rintro _ g2 ⟨s,T,rfl,a2⟩
 repeat (first | apply sS | apply sE | refine w_mv rfl ?_ | refine w_ext rfl rfl ?_ | apply ai_seq | apply ai_regW)
 refine w_call rfl ((default_ok g2).mono ?_)
 rintro _ g3 ⟨rfl,x3⟩
 repeat (first | apply sS)
 refine w_call rfl ((R1.new g3 (c := dfC) dfC_may).mono ?_)
 rintro _ g4 ⟨s',Tb,rfl,b4⟩
 have a4 : W2 g1 g4 T s (syNew dfC) Tb s' (syNew dfC) := W2.new (a2.ext x3) b4
 have r1 := r.ext x1
 repeat (first | apply sS | apply sE | refine w_mv rfl ?_ | refine w_pickF rfl ?_ | (refine is_okn rfl ?_; refine w_op rfl ?_) | refine w_ext rfl rfl ?_ | refine w_gT rfl rfl ?_ | (apply is_bin; refine w_cF rfl ?_) | apply ai_seq | apply ai_regW | refine ai_cF rfl ?_ | apply ai_skip)
 refine w_call rfl ((few_ok g4 (r1.ext a4.a.x) hl ht 30).mono ?_)
 rintro _ g5 ⟨rfl,rfl⟩
 cases hf : fewF l 30 with
 | false =>
  repeat (first | apply sS | apply sE | (refine is_okn rfl ?_; refine w_op rfl ?_) | apply ai_seq | apply ai_regW | refine ai_cT rfl ?_)
  refine w_call rfl ((ttold_ok g4).mono ?_)
  rintro _ g6 ⟨rfl,x6⟩
  repeat (first | apply sS | apply sE | refine w_mv rfl ?_ | (apply ai_ret; repeat (first | rw [thenQ_r] | rw [blockQ_r] | rw [roundE_r])))
  exact end_one rfl rfl
 | true =>
 obtain ⟨hlen,htx⟩ := few_of hf
 repeat (first | apply sS | apply sE | refine w_mv rfl ?_ | (refine is_okn rfl ?_; refine w_op rfl ?_) | apply ai_seq | apply ai_regW | refine ai_cF rfl ?_ | apply ai_skip | apply ai_block)
 refine ai_loopE (γ := Nat × Tg × Tg) (fun e => [(0,.slice x l.length c),(1,nI n),(5,ptr s),(7,ptr s'),(9,nI e.1)])
  (fun e h => W2 g1 h e.2.1 s (runF nearF (l.take e.1) 0 (syNew dfC)) e.2.2 s' (runF nearF (l.take e.1) 0 (syNew dfC)) ∧ e.1 ≤ l.length) (fun e => l.length - e.1) (0,T,Tb) leX ⟨a4,Nat.zero_le _⟩ ?_
 rintro ⟨i,T6,Tb6⟩ g6 ⟨a6,hi⟩
 dsimp only at a6 hi ⊢
 have i6 := RnI.run dfC_may nearF (l := l) (k := i) hi (by omega)
 by_cases hil : i < l.length
 ·obtain ⟨e,he⟩ : ∃ e,l[i]? = some e := ⟨_,List.getElem?_eq_getElem hil⟩
  obtain ⟨bi,bo,bs',rfl,_,hr⟩ := (r1.ext a6.a.x).at (rV_get he)
  have hnl := near_len (htx e (List.mem_of_getElem? he)) i
  have hrt := runF_take nearF he (syNew dfC)
  repeat (first | apply sS | apply sE | refine w_mv rfl ?_ | (refine is_okn rfl ?_; refine w_op rfl ?_) | (apply is_ldn; refine w_ldnA rfl ?_) | (apply is_bin; refine w_cT rfl ?_) | (apply is_iad; refine w_iadA rfl ?_) | apply ai_seq | apply ai_regW | refine ai_cT rfl ?_ | apply ai_skip | apply ai_block)
  refine w_call rfl ((near_ok g6 e i (by omega)).mono ?_)
  rintro _ g7 ⟨rfl,x7⟩
  have a7 := a6.ext x7
  repeat (first | apply sS)
  refine w_new fun g8 x8 k8 n8 => ?_
  repeat (first | apply sSn)
  refine w_stN rfl rfl k8 rfl rfl fun g9 m9 k9 n9 => ?_
  have a9 := a7.ext (x8.own m9 n9)
  have H9 : Hd g9 g7.nx ⟨evV (nearF e i),true,0⟩ := ⟨by rw [n9]; exact n8,k9⟩
  have z9 : T6 g7.nx = 0 := a7.a.w _ (Nat.le_refl _)
  repeat (first | apply sS | apply sE | refine w_mv rfl ?_ | (apply is_ldn; refine w_ldnA rfl ?_) | apply ai_seq | apply ai_regW)
  refine w_call rfl ((a9.a.do_ i6 (by omega) (nearF e i) (by omega)).mono ?_)
  rintro _ g10 ⟨rfl,T10,a10,x10⟩
  have b10 := a9.fst a10 x10
  obtain ⟨⟨_,k10⟩,_⟩ := x10.hd H9 z9
  clear k9
  repeat (first | apply sS | apply sE | refine w_mv rfl ?_ | (apply is_ldn; refine w_ldnA rfl ?_) | apply ai_regW)
  refine w_call rfl ((b10.b.do_ i6 (by omega) (nearF e i) (by omega)).mono ?_)
  rintro _ g11 ⟨rfl,T11,a11,x11⟩
  have b11 := b10.snd a11 x11
  repeat (first | apply sS | apply sE | refine w_mv rfl ?_ | (apply is_bin; refine w_addA rfl ?_) | apply ai_regW)
  exact ⟨(i + 1,T10,T11),leX,⟨by dsimp only; rw [hrt]; exact b11,by dsimp only; omega⟩,by dsimp only; omega⟩
 ·obtain rfl : i = l.length := by omega
  rw [List.take_length] at a6 i6
  generalize runF nearF l 0 (syNew dfC) = st at a6 i6
  have hN := u64_rng n
  repeat (first | apply sS | apply sE | refine w_mv rfl ?_ | (refine is_okn rfl ?_; refine w_op rfl ?_) | (apply is_bin; refine w_addA rfl ?_) | (refine w_ci rfl ?_ ?_; (focus omega)) | (apply is_bin; refine w_cF rfl ?_) | (refine w_rem rfl ?_ ?_ ?_; (focus omega); (focus omega)) | refine w_cuw rfl ?_ | apply ai_seq | apply ai_regW | refine ai_cF rfl ?_ | apply ai_exit)
  obtain ⟨k,hk⟩ : ∃ k : Nat,1 + IntKind.u64.wrap n % 200 = k := ⟨(1 + IntKind.u64.wrap n % 200).toNat,by omega⟩
  have hk1 : 1 ≤ k := by omega
  have hk2 : k ≤ 200 := by omega
  rw [hk]
  have hnow := i6.now
  have hdo := do_tickN st k hk1 hk2 (by omega)
  refine w_bldG (us := evV (opTick k)) rfl rfl rfl ?_
  repeat (first | apply sS)
  refine w_call rfl ((a6.a.do_ i6 (by omega) (opTick k) (by simp [opTick])).mono ?_)
  rintro _ g7 ⟨rfl,T7,a7,x7⟩
  rw [hdo] at a7
  have b7 := a6.fst a7 x7
  rw [hdo]
  repeat (first | apply sS | apply sE | refine w_mv rfl ?_ | (apply is_bin; refine w_cF rfl ?_) | apply ai_seq | apply ai_regW | refine ai_cF rfl ?_ | apply ai_skip | apply ai_block)
  refine ai_loopE (γ := Nat × Tg) (fun e => [(5,ptr s),(7,ptr s'),(11,nI k),(12,nI e.1)])
   (fun e h => W2 g1 h T7 s (nTimes syTick k st) e.2 s' (nTimes syTick e.1 st) ∧ e.1 ≤ k) (fun e => k - e.1) (0,Tb6) leX ⟨b7,Nat.zero_le _⟩ ?_
  rintro ⟨j,Tb8⟩ g8 ⟨a8,hj⟩
  dsimp only at a8 hj ⊢
  have i8 := i6.ticks (by omega) j (by omega)
  by_cases hjk : j < k
  ·have hnow8 := i8.now
   have hdo8 := do_tick1 (nTimes syTick j st) (by omega)
   repeat (first | apply sS | apply sE | refine w_mv rfl ?_ | (apply is_bin; refine w_cT rfl ?_) | apply ai_seq | apply ai_regW | refine ai_cT rfl ?_ | apply ai_skip | apply ai_block)
   refine w_bldG (us := evV (opTick 1)) rfl rfl rfl ?_
   repeat (first | apply sS)
   refine w_call rfl ((a8.b.do_ i8 (by omega) (opTick 1) (by simp [opTick])).mono ?_)
   rintro _ g9 ⟨rfl,T9,a9,x9⟩
   have b9 := a8.snd a9 x9
   rw [hdo8]
   rw [hdo8] at b9
   repeat (first | apply sS | apply sE | refine w_mv rfl ?_ | (apply is_bin; refine w_addA rfl ?_) | (apply is_bin; refine w_cF rfl ?_) | apply ai_regW | refine ai_cF rfl ?_ | apply ai_skip)
   exact ⟨(j + 1,T9),leX,⟨by dsimp only; rw [nTimes_snoc]; exact b9,by dsimp only; omega⟩,by dsimp only; omega⟩
  ·obtain rfl : j = k := by omega
   generalize nTimes syTick j st = sf at a8 i8
   repeat (first | apply sS | apply sE | refine w_mv rfl ?_ | (apply is_bin; refine w_cF rfl ?_) | apply ai_seq | apply ai_regW | refine ai_cF rfl ?_ | apply ai_exit)
   refine w_call rfl ((a8.a.see i8 (by omega)).mono ?_)
   rintro _ g9 ⟨ps,rfl,A9,x9⟩
   obtain ⟨px,pc,rfl⟩ := A9.len
   have a9 := a8.ext x9
   repeat (first | apply sS | refine w_mv rfl ?_)
   refine w_call rfl ((a9.b.see i8 (by omega)).mono ?_)
   rintro _ g10 ⟨ps,rfl,A10,x10⟩
   obtain ⟨qx,qc,rfl⟩ := A10.len
   have a10 := a9.ext x10
   repeat (first | apply sS)
   refine w_new fun g11 x11 k11 n11 => ?_
   repeat (first | apply sS)
   refine w_new fun g12 x12 k12 n12 => ?_
   have k11' := (x12.2 _ n11).trans k11
   repeat (first | apply sSn)
   refine w_stN rfl rfl k11' rfl rfl fun g13 m13 k13 n13 => ?_
   have k12' := (m13 _ (by have := x11.1; omega)).trans k12
   repeat (first | apply sSn)
   refine w_stN rfl rfl k12' rfl rfl fun g14 m14 k14 n14 => ?_
   have k13' := (m14 _ (by have := x11.1; omega)).trans k13
   have x14 : Ext g10 g14 := ⟨by have := x11.1; have := x12.1; omega,fun k hk => by
    have := x11.1
    rw [m14 k (by omega),m13 k (by omega)]
    exact (x11.trans x12).2 k hk⟩
   have a14 := a10.ext x14
   have H13 : Hd g14 g10.nx ⟨vS sf (.slice px sf.ps.length pc),true,0⟩ := ⟨by have := x12.1; omega,k13'⟩
   have H14 : Hd g14 g11.nx ⟨vS sf (.slice qx sf.ps.length qc),true,0⟩ := ⟨by omega,k14⟩
   clear k11 k12 k11' k12' k13 k13' k14
   repeat (first | apply sS | apply sE | apply ai_seq | apply ai_regW)
   refine w_call rfl ((ttold_ok g14).mono ?_)
   rintro _ g15 ⟨rfl,x15⟩
   have a15 := a14.ext x15
   repeat (first | apply sS | refine w_mv rfl ?_ | refine w_gT rfl rfl ?_)
   refine w_call rfl ((a15.a.last).mono ?_)
   rintro _ g16 ⟨rfl,x16⟩
   have a16 := a15.ext x16
   repeat (first | apply sS | refine w_mv rfl ?_ | refine w_gT rfl rfl ?_)
   refine w_call rfl ((a16.b.last).mono ?_)
   rintro _ g17 ⟨rfl,x17⟩
   have a17 := a16.ext x17
   repeat (first | apply sS | refine w_gT rfl rfl ?_)
   refine w_eqD rfl rfl ?_
   rw [decide_eq_true rfl]
   obtain ⟨hl13,k13⟩ := ((H13.ext x15).ext x16).ext x17
   obtain ⟨hl14,k14⟩ := ((H14.ext x15).ext x16).ext x17
   replace k13 : g17.get g10.nx = some ⟨[nI sf.now,nI sf.want,.bool sf.last.panic,.bool sf.proxy,.slice px sf.ps.length pc,nI sf.q.length,nI (cnR sf.r 2),nI (cnR sf.r 0),nI (cnR sf.r 1),nI (cnR sf.r 2),nI (cnR sf.r 3),nI (cnR sf.r 4),nI (cnR sf.r 5),nI (cnR sf.r 6),.bool (mtOver sf.d.m)],true,0⟩ := k13
   replace k14 : g17.get g11.nx = some ⟨[nI sf.now,nI sf.want,.bool sf.last.panic,.bool sf.proxy,.slice qx sf.ps.length qc,nI sf.q.length,nI (cnR sf.r 2),nI (cnR sf.r 0),nI (cnR sf.r 1),nI (cnR sf.r 2),nI (cnR sf.r 3),nI (cnR sf.r 4),nI (cnR sf.r 5),nI (cnR sf.r 6),.bool (mtOver sf.d.m)],true,0⟩ := k14
   have hr13 : g17.rd g10.nx (0 + 7) 7 = some [nI (cnR sf.r 0),nI (cnR sf.r 1),nI (cnR sf.r 2),nI (cnR sf.r 3),nI (cnR sf.r 4),nI (cnR sf.r 5),nI (cnR sf.r 6)] := rd_cut k13 rfl rfl
   have hr14 : g17.rd g11.nx (0 + 7) 7 = some [nI (cnR sf.r 0),nI (cnR sf.r 1),nI (cnR sf.r 2),nI (cnR sf.r 3),nI (cnR sf.r 4),nI (cnR sf.r 5),nI (cnR sf.r 6)] := rd_cut k14 rfl rfl
   repeat (first | apply sS | refine w_mv rfl ?_ | refine w_pickT rfl ?_ | (refine is_okn rfl ?_; refine w_op rfl ?_) | refine w_gT rfl rfl ?_ | (apply is_ld; refine w_ldA rfl ?_) | (apply is_ldn; refine w_ldnA rfl ?_) | (apply is_bin; refine w_cT rfl ?_))
   refine w_eqA rfl rfl Tryz.underlying37 (k := .int .i64) (by kernel_rfl) (i := (PX.info? 3).get (by kernel_rfl)) (by kernel_rfl) (by kernel_rfl) (by kernel_rfl) rfl rfl fun b hb => ?_
   obtain rfl : b = true := hb.2 rfl
   repeat (first | apply sS | refine w_mv rfl ?_ | refine w_pickT rfl ?_ | (refine is_okn rfl ?_; refine w_op rfl ?_) | refine w_gT rfl rfl ?_ | (apply is_ld; refine w_ldA rfl ?_) | (apply is_bin; refine w_cT rfl ?_))
   refine w_call rfl ((a17.a.trace i8).mono ?_)
   rintro _ g18 ⟨t18,x18⟩
   obtain ⟨tx,tc,rfl⟩ := t18.len
   have a18 := a17.ext x18
   repeat (first | apply sS | refine w_mv rfl ?_ | (refine is_okn rfl ?_; refine w_op rfl ?_) | refine w_gT rfl rfl ?_)
   refine w_call rfl ((a18.b.trace i8).mono ?_)
   rintro _ g19 ⟨t19,x19⟩
   obtain ⟨ux,uc,rfl⟩ := t19.len
   repeat (first | apply sS | apply sE | refine w_mv rfl ?_ | refine w_pickT rfl ?_ | (refine is_okn rfl ?_; refine w_op rfl ?_) | refine w_gT rfl rfl ?_ | (apply is_bin; refine w_cT rfl ?_) | (apply ai_ret; repeat (first | rw [thenQ_r] | rw [blockQ_r] | rw [roundE_r])))
   exact end_one rfl rfl
end
section
section
variable {h0 g : Hp} {T : Tg} {s : Nat} {st : Sy}
theorem R1.conf (a : R1 h0 g T s st) : ACall PX 17 [ptr s] g (fun v h => v = .agg ⟨cs20 st.c⟩ ∧ Ext g h) := by
 obtain ⟨⟨P,L,q,D,rs,ts,a1⟩,h1,h2⟩ := a
 exact conf_ok' a1
theorem R1.reqs {n : Nat} (a : R1 h0 g T s st) (i : RnI n st) (hn : n ≤ 5000) : ACall PX 16 [ptr s] g (fun v h => RR 4 h v (rQ st.r) ∧ New g.nx v ∧ Ext g h) := by
 obtain ⟨⟨P,L,q,D,rs,ts,a1⟩,h1,h2⟩ := a
 have := i.r
 exact reqs_ok a1 (by omega)
end
section
variable {CT : CTy} {env : Env} {h : Hp} {d : Option Nat} {R : Value → Hp → Prop}
theorem w_neD {u ty : TypeId} {x y : Operand} {a b : Dc} (ex : evA env x = some (.agg ⟨dcV a⟩)) (ey : evA env y = some (.agg ⟨dcV b⟩)) (e : a = b) (n : R (.bool false) h) : WI PX CT ⟨d,none,.fl (.binOp .neq 42 x y u) ty⟩ env h R := by
 refine w_neS ex ey (ks := [.int .i64,.int .i64,.int .i64,.int .i64,.bool,.int .i64]) (by kernel_rfl) rfl rfl fun c hc => ?_
 have : c = false := by
  cases c with
  | false => rfl
  | true => exact absurd (by rw [e]) (hc.1 rfl)
 rw [this]
 exact n
theorem w_neC {u ty : TypeId} {x y : Operand} {a b : Cf20} (ex : evA env x = some (.agg ⟨cs20 a⟩)) (ey : evA env y = some (.agg ⟨cs20 b⟩)) (e : a = b) (n : R (.bool false) h) : WI PX CT ⟨d,none,.fl (.binOp .neq 27 x y u) ty⟩ env h R := by
 refine w_neS ex ey (ks := List.replicate 20 (.int .i64)) (by kernel_rfl) rfl rfl fun c hc => ?_
 have : c = false := by
  cases c with
  | false => rfl
  | true => exact absurd (by rw [e]) (hc.1 rfl)
 rw [this]
 exact n
theorem w_neR {u ty : TypeId} {x y : Operand} {a b : Rq} (ex : evA env x = some (.agg ⟨p4 a⟩)) (ey : evA env y = some (.agg ⟨p4 b⟩)) (n : R (.bool (decide (a ≠ b))) h) : WI PX CT ⟨d,none,.fl (.binOp .neq 50 x y u) ty⟩ env h R := by
 refine w_neS ex ey (ks := List.replicate 4 (.int .i64)) (by kernel_rfl) rfl rfl fun c hc => ?_
 have : c = decide (a ≠ b) := by
  by_cases q : a = b
  ·subst q
   rw [decide_eq_false (by simp)]
   cases c with
   | false => rfl
   | true => exact absurd rfl (hc.1 rfl)
  ·rw [decide_eq_true q]
   refine hc.2 fun h => q ?_
   obtain ⟨a1,a2,a3,a4⟩ := a
   obtain ⟨b1,b2,b3,b4⟩ := b
   simp only [p4,List.cons.injEq,Value.int.injEq,true_and,and_true] at h
   simp [h]
 rw [this]
 exact n
end
set_option maxHeartbeats 8000000 in
theorem ttwice_ok (h : Hp) (cf : Cf20) {v : Value} {l : List Ev} (r : RR 3 h v (rV l)) (hl : l.length ≤ 9223372036854775807) (ht : ∀ e ∈ l,e.text.length ≤ 9223372036854775807) : ACall PX 4 [.agg ⟨cs20 cf⟩,v] h (fun v _ => v = .bool true) := by
 obtain ⟨x,c,e⟩ := r.len
 rw [rV_len] at e
 subst e
 refine acallA Tryz.func4 c4 ?_
 unfold ir4
 dsimp only [qo,qm,qk,q2,qi,qg,qn,qc,dq,ci,cb,qh,qs]
 repeat (first | apply sS | apply ai_seq | apply ai_regW)
 refine w_box rfl fun g1 x1 k1 n1 => ?_
 replace k1 : g1.get h.nx = some ⟨cs20 cf,true,0⟩ := k1
 have H1 : Hd g1 h.nx ⟨cs20 cf,true,0⟩ := ⟨n1,k1⟩
 generalize h.nx = ic at *
 have hc1 : g1.rd ic 0 20 = some (cs20 cf) := rd_all k1 rfl
 cases hm : mayB cf with
 | false =>
  clear k1
  repeat (first | apply sS | apply sE | refine w_mv rfl ?_ | (apply is_ldn; refine w_ldnA rfl ?_) | apply ai_seq | apply ai_regW)
  refine w_call rfl ((snew_no g1 hm).mono ?_)
  rintro _ g2 ⟨rfl,x2⟩
  clear hc1
  have hc2 : g2.rd ic 0 20 = some (cs20 cf) := rd_all (H1.ext x2).2 rfl
  repeat (first | apply sS | apply sE | refine w_mv rfl ?_ | refine w_ext rfl rfl ?_ | (apply is_ldn; refine w_ldnA rfl ?_) | apply ai_seq | apply ai_regW)
  refine w_call rfl ((snew_no g2 hm).mono ?_)
  rintro _ g3 ⟨rfl,x3⟩
  clear hc2
  repeat (first | apply sS | apply sE | refine w_mv rfl ?_ | refine w_pickT rfl ?_ | refine w_ext rfl rfl ?_ | refine w_gF rfl rfl ?_ | (apply is_bin; refine w_cT rfl ?_) | apply ai_seq | apply ai_regW | refine ai_cT rfl ?_)
  refine w_call rfl ((ttold_ok g3).mono ?_)
  rintro _ g4 ⟨rfl,x4⟩
  have hc4 : g4.rd ic 0 20 = some (cs20 cf) := rd_all (((H1.ext x2).ext x3).ext x4).2 rfl
  repeat (first | apply sS | refine w_mv rfl ?_ | refine w_pickT rfl ?_ | refine w_gT rfl rfl ?_ | (apply is_ldn; refine w_ldnA rfl ?_) | (apply is_bin; refine w_cT rfl ?_) | (apply is_bin; refine w_cF rfl ?_))
  refine w_call rfl ((rmay_ok g4 cf).mono ?_)
  rintro _ g5 ⟨rfl,x5⟩
  rw [hm]
  repeat (first | apply sS | apply sE | refine w_mv rfl ?_ | refine w_pickT rfl ?_ | (refine is_okn rfl ?_; refine w_op rfl ?_) | refine w_gT rfl rfl ?_ | (apply ai_ret; repeat (first | rw [thenQ_r] | rw [blockQ_r] | rw [roundE_r])))
  exact end_one rfl rfl
 | true =>
 clear k1
 repeat (first | apply sS | apply sE | refine w_mv rfl ?_ | (apply is_ldn; refine w_ldnA rfl ?_) | apply ai_seq | apply ai_regW)
 refine w_call rfl ((R1.new g1 (c := cf) hm).mono ?_)
 rintro _ g2 ⟨s,T,rfl,a2⟩
 clear hc1
 have hc2 : g2.rd ic 0 20 = some (cs20 cf) := rd_all (H1.ext a2.x).2 rfl
 repeat (first | apply sS | apply sE | refine w_mv rfl ?_ | refine w_ext rfl rfl ?_ | (apply is_ldn; refine w_ldnA rfl ?_) | apply ai_seq | apply ai_regW)
 refine w_call rfl ((R1.new g2 (c := cf) hm).mono ?_)
 rintro _ g4 ⟨s',Tb,rfl,b4⟩
 clear hc2
 have a4 : W2 g1 g4 T s (syNew cf) Tb s' (syNew cf) := W2.new a2 b4
 have r1 := r.ext x1
 repeat (first | apply sS | apply sE | refine w_mv rfl ?_ | refine w_pickF rfl ?_ | refine w_ext rfl rfl ?_ | refine w_gT rfl rfl ?_ | (apply is_bin; refine w_cF rfl ?_) | apply ai_seq | apply ai_regW)
 refine w_call rfl ((few_ok g4 (r1.ext a4.a.x) hl ht 60).mono ?_)
 rintro _ g5 ⟨rfl,rfl⟩
 cases hf : fewF l 60 with
 | false =>
  repeat (first | apply sS | apply sE | refine w_pickF rfl ?_ | (refine is_okn rfl ?_; refine w_op rfl ?_) | refine w_gT rfl rfl ?_ | apply ai_seq | apply ai_regW | refine ai_cT rfl ?_)
  refine w_call rfl ((ttold_ok g4).mono ?_)
  rintro _ g6 ⟨rfl,x6⟩
  have hc6 : g6.rd ic 0 20 = some (cs20 cf) := rd_all ((H1.ext a4.a.x).ext x6).2 rfl
  repeat (first | apply sS | refine w_mv rfl ?_ | refine w_pickT rfl ?_ | refine w_gT rfl rfl ?_ | (apply is_ldn; refine w_ldnA rfl ?_) | (apply is_bin; refine w_cT rfl ?_))
  refine w_call rfl ((rmay_ok g6 cf).mono ?_)
  rintro _ g7 ⟨rfl,x7⟩
  rw [hm]
  repeat (first | apply sS | apply sE | refine w_mv rfl ?_ | refine w_pickT rfl ?_ | (refine is_okn rfl ?_; refine w_op rfl ?_) | refine w_gT rfl rfl ?_ | (apply ai_ret; repeat (first | rw [thenQ_r] | rw [blockQ_r] | rw [roundE_r])))
  exact end_one rfl rfl
 | true =>
 obtain ⟨hlen,htx⟩ := few_of hf
 repeat (first | apply sS | apply sE | refine w_mv rfl ?_ | refine w_pickF rfl ?_ | (refine is_okn rfl ?_; refine w_op rfl ?_) | refine w_gT rfl rfl ?_ | apply ai_seq | apply ai_regW | refine ai_cF rfl ?_ | apply ai_skip | apply ai_block)
 refine ai_loopE (γ := Nat × Tg × Tg) (fun e => [(1,.slice x l.length c),(5,ptr s),(7,ptr s'),(9,nI e.1)])
  (fun e h => W2 g1 h e.2.1 s (runF nearF (l.take e.1) 0 (syNew cf)) e.2.2 s' (runF nearF (l.take e.1) 0 (syNew cf)) ∧ e.1 ≤ l.length) (fun e => l.length - e.1) (0,T,Tb) leX ⟨a4,Nat.zero_le _⟩ ?_
 rintro ⟨i,T6,Tb6⟩ g6 ⟨a6,hi⟩
 dsimp only at a6 hi ⊢
 have i6 := RnI.run hm nearF (l := l) (k := i) hi (by omega)
 by_cases hil : i < l.length
 ·obtain ⟨e,he⟩ : ∃ e,l[i]? = some e := ⟨_,List.getElem?_eq_getElem hil⟩
  obtain ⟨bi,bo,bs',rfl,_,hr⟩ := (r1.ext a6.a.x).at (rV_get he)
  have hnl := near_len (htx e (List.mem_of_getElem? he)) i
  have hrt := runF_take nearF he (syNew cf)
  repeat (first | apply sS | apply sE | refine w_mv rfl ?_ | (refine is_okn rfl ?_; refine w_op rfl ?_) | (apply is_ldn; refine w_ldnA rfl ?_) | (apply is_bin; refine w_cT rfl ?_) | (apply is_iad; refine w_iadA rfl ?_) | apply ai_seq | apply ai_regW | refine ai_cT rfl ?_ | apply ai_skip | apply ai_block)
  refine w_call rfl ((near_ok g6 e i (by omega)).mono ?_)
  rintro _ g7 ⟨rfl,x7⟩
  have a7 := a6.ext x7
  repeat (first | apply sS)
  refine w_new fun g8 x8 k8 n8 => ?_
  repeat (first | apply sSn)
  refine w_stN rfl rfl k8 rfl rfl fun g9 m9 k9 n9 => ?_
  have a9 := a7.ext (x8.own m9 n9)
  have H9 : Hd g9 g7.nx ⟨evV (nearF e i),true,0⟩ := ⟨by rw [n9]; exact n8,k9⟩
  have z9 : T6 g7.nx = 0 := a7.a.w _ (Nat.le_refl _)
  repeat (first | apply dS | apply dSR | apply sE | refine w_mv rfl ?_ | (apply is_ldn; refine w_ldnA rfl ?_) | apply ai_seq | refine ai_drwW (by kernel_rfl) ?_)
  refine w_call rfl ((a9.a.do_ i6 (by omega) (nearF e i) (by omega)).mono ?_)
  rintro _ g10 ⟨rfl,T10,a10,x10⟩
  have b10 := a9.fst a10 x10
  obtain ⟨⟨_,k10⟩,_⟩ := x10.hd H9 z9
  clear k9
  repeat (first | apply dS | (apply is_ag; refine agSA ?_))
  refine w_call rfl ((b10.b.do_ i6 (by omega) (nearF e i) (by omega)).mono ?_)
  rintro _ g11 ⟨rfl,T11,a11,x11⟩
  have b11 := b10.snd a11 x11
  repeat (first | apply sS | apply dS | apply sE | apply dE | refine w_mv rfl ?_ | (apply is_bin; refine w_addA rfl ?_) | (apply is_bin; refine w_cF rfl ?_) | apply ai_regW | refine ai_cF rfl ?_ | apply ai_skip)
  exact ⟨(i + 1,T10,T11),leX,⟨by dsimp only; rw [hrt]; exact b11,by dsimp only; omega⟩,by dsimp only; omega⟩
 ·obtain rfl : i = l.length := by omega
  rw [List.take_length] at a6 i6
  generalize runF nearF l 0 (syNew cf) = st at a6 i6
  repeat (first | apply sS | apply sE | refine w_mv rfl ?_ | (refine is_okn rfl ?_; refine w_op rfl ?_) | (apply is_bin; refine w_cF rfl ?_) | apply ai_seq | apply ai_regW | refine ai_cF rfl ?_ | apply ai_exit)
  refine w_call rfl ((a6.a.reqs i6 (by omega)).mono ?_)
  rintro w g7 ⟨r7,_,x7⟩
  have a7 := a6.ext x7
  obtain ⟨yx,yc,e7⟩ := r7.len
  rw [rQ_len] at e7
  subst e7
  repeat (first | apply sS | refine w_mv rfl ?_)
  refine w_call rfl ((a7.b.reqs i6 (by omega)).mono ?_)
  rintro w g8 ⟨r8,_,x8⟩
  have a8 := a7.ext x8
  obtain ⟨zx,zc,e8⟩ := r8.len
  rw [rQ_len] at e8
  subst e8
  repeat (first | apply sS | apply sE | refine w_mv rfl ?_ | (refine is_okn rfl ?_; refine w_op rfl ?_) | refine w_gT rfl rfl ?_ | (apply is_bin; refine w_cF rfl ?_) | apply ai_seq | apply ai_regW)
  refine w_call rfl ((a8.a.last).mono ?_)
  rintro _ g9 ⟨rfl,x9⟩
  have a9 := a8.ext x9
  repeat (first | apply sS | refine w_mv rfl ?_ | refine w_gT rfl rfl ?_)
  refine w_call rfl ((a9.b.last).mono ?_)
  rintro _ g10 ⟨rfl,x10⟩
  have a10 := a9.ext x10
  repeat (first | apply sS | refine w_gT rfl rfl ?_)
  refine w_neD rfl rfl rfl ?_
  repeat (first | apply sS | refine w_mv rfl ?_ | refine w_pickF rfl ?_ | refine w_gT rfl rfl ?_)
  refine w_call rfl ((a10.a.conf).mono ?_)
  rintro _ g11 ⟨rfl,x11⟩
  have a11 := a10.ext x11
  repeat (first | apply sS | refine w_mv rfl ?_ | refine w_gT rfl rfl ?_)
  refine w_call rfl ((a11.b.conf).mono ?_)
  rintro _ g12 ⟨rfl,x12⟩
  have a12 := a11.ext x12
  repeat (first | apply sS | refine w_gT rfl rfl ?_)
  refine w_neC rfl rfl rfl ?_
  repeat (first | apply sS | refine w_mv rfl ?_ | refine w_pickF rfl ?_ | refine w_gT rfl rfl ?_)
  refine w_call rfl ((a12.a.trace i6).mono ?_)
  rintro _ g13 ⟨t13,x13⟩
  obtain ⟨tx,tc,rfl⟩ := t13.len
  have a13 := a12.ext x13
  repeat (first | apply sS | refine w_mv rfl ?_ | (refine is_okn rfl ?_; refine w_op rfl ?_) | refine w_gT rfl rfl ?_)
  refine w_call rfl ((a13.b.trace i6).mono ?_)
  rintro _ g14 ⟨t14,x14⟩
  obtain ⟨ux,uc,rfl⟩ := t14.len
  have x814 := ((((x9.trans x10).trans x11).trans x12).trans x13).trans x14
  have r14 := (r7.ext x8).ext x814
  have s14 := r8.ext x814
  have hql := i6.r
  repeat (first | apply sS | apply sE | refine w_mv rfl ?_ | refine w_pickF rfl ?_ | (refine is_okn rfl ?_; refine w_op rfl ?_) | refine w_gT rfl rfl ?_ | (apply is_bin; refine w_cF rfl ?_) | apply ai_seq | apply ai_regW | refine ai_cF rfl ?_ | apply ai_skip | apply ai_block)
  refine ai_loopE (γ := Nat) (fun i => [(11,.slice yx st.r.length yc),(12,.slice zx st.r.length zc),(13,nI i)]) (fun i h => g14 = h ∧ i ≤ st.r.length) (fun i => st.r.length - i) 0 leX ⟨rfl,Nat.zero_le _⟩ ?_
  rintro j _ ⟨rfl,hj⟩
  by_cases hjl : j < st.r.length
  ·obtain ⟨q,hq⟩ : ∃ q,st.r[j]? = some q := ⟨_,List.getElem?_eq_getElem hjl⟩
   obtain ⟨b1,o1,s1,rfl,_,hr1⟩ := r14.at (rQ_get hq)
   obtain ⟨b2,o2,s2,rfl,_,hr2⟩ := s14.at (rQ_get hq)
   repeat (first | apply sS | apply dS | apply sE | refine w_mv rfl ?_ | (refine is_okn rfl ?_; refine w_op rfl ?_) | (apply is_ldn; refine w_ldnA rfl ?_) | (apply is_bin; refine w_cT rfl ?_) | (apply is_iad; refine w_iadA rfl ?_) | apply ai_seq | apply ai_regW | refine ai_cT rfl ?_ | apply ai_skip | refine ai_drwW (by kernel_rfl) ?_ | apply ai_block)
   refine w_neR rfl rfl ?_
   rw [decide_eq_false (by simp)]
   repeat (first | apply sS | apply sE | apply dE | refine w_mv rfl ?_ | (apply is_bin; refine w_addA rfl ?_) | apply ai_regW | refine ai_cF rfl ?_ | apply ai_skip)
   exact ⟨j + 1,leX,⟨rfl,by omega⟩,by dsimp only; omega⟩
  ·obtain rfl : j = st.r.length := by omega
   repeat (first | apply sS | apply sE | refine w_mv rfl ?_ | (refine is_okn rfl ?_; refine w_op rfl ?_) | (apply is_bin; refine w_cF rfl ?_) | apply ai_seq | apply ai_regW | refine ai_cF rfl ?_ | apply ai_exit)
   refine w_call rfl ((ttold_ok g14).mono ?_)
   rintro _ g15 ⟨rfl,x15⟩
   repeat (first | apply sS | apply sE | refine w_mv rfl ?_ | (apply ai_ret; repeat (first | rw [thenQ_r] | rw [blockQ_r] | rw [roundE_r])))
   exact end_one rfl rfl
end
section
section
variable {P : Program}
theorem ps_neA {t e : TypeId} {n : Nat} {k : SK} {i : TypeInfo} {xs ys : List Value} (hu : P.underlying t = some (.array n e)) (hk : skOf P e = some k) (hi : P.info? e = some i) (h1 : i.size = 1) (hg : P.eqGuardType P.depth t = false)
  (hx : skAll (List.replicate n k) xs = true) (hy : skAll (List.replicate n k) ys = true) (x y : Operand) :
  pureSem P (do eqGuard .neq t x y (.agg ⟨xs⟩) (.agg ⟨ys⟩); binOp .neq t (.agg ⟨xs⟩) (.agg ⟨ys⟩)) = some (.bool (!eqL xs ys)) := by
 have he : pureSem P (Op.equal t (.agg ⟨xs⟩) (.agg ⟨ys⟩)) = some (eqL xs ys) := by
  show pureSem P (Op.equalIn (9999 + 1) t (.agg ⟨xs⟩) (.agg ⟨ys⟩)) = _
  rw [ps_array 9999 _ _ hu hi,h1]
  have := ps_items 9998 hk n 0 [] [] xs ys rfl rfl hx hy
  rw [List.range_eq_range']
  exact this
 have hg : pureSem P (eqGuard .neq t x y (.agg ⟨xs⟩) (.agg ⟨ys⟩)) = some () := by
  simp [eqGuard,ps_bind,ps_program,hg,ps_pure]
 rw [ps_bind,hg,Option.bind_some]
 simp only [binOp,ps_bind,he,Option.bind_some]
 rfl
theorem w_neA {CT : CTy} {env : Env} {h : Hp} {d : Option Nat} {R : Value → Hp → Prop} {t u ty e : TypeId} {x y : Operand} {n : Nat} {k : SK} {i : TypeInfo} {xs ys : List Value} (ex : evA env x = some (.agg ⟨xs⟩)) (ey : evA env y = some (.agg ⟨ys⟩)) (hu : P.underlying t = some (.array n e)) (hk : skOf P e = some k) (hi : P.info? e = some i) (h1 : i.size = 1) (hg : P.eqGuardType P.depth t = false)
  (hx : skAll (List.replicate n k) xs = true) (hy : skAll (List.replicate n k) ys = true)
  (nx : ∀ b : Bool,(b = true ↔ xs ≠ ys) → R (.bool b) h) : WI P CT ⟨d,none,.fl (.binOp .neq t x y u) ty⟩ env h R := by
 refine ⟨?_⟩
 unfold wpIn
 have hs : flatStep P env (.binOp .neq t x y u) ty = some (.bool (!eqL xs ys)) := by
  have fx := sk_flat hx
  have fy := sk_flat hy
  unfold flatStep
  have ha : allFlat env (Op.binOp .neq t x y u).operands.toList = true := by
   simp [allFlat,Op.operands,ex,ey,fx,fy]
  rw [if_pos ha]
  have he : pureSem P (execOp (fun x => (evA env x).getD undef) ⟨none, .binOp .neq t x y u, ty, "", #[], none⟩) = some (.value (.bool (!eqL xs ys))) := by
   simp only [execOp,ex,ey,Option.getD_some]
   rw [ps_bind,ps_neA hu hk hi h1 hg hx hy x y]
   rfl
  rw [he]
  rfl
 simp only [wanted,hs]
 refine nx _ ?_
 have := eqL_iff hx hy
 constructor
 ·intro h1 h2
  rw [this.2 h2] at h1
  cases h1
 ·intro h1
  cases q : eqL xs ys with
  | false => rfl
  | true => exact absurd (this.1 q) h1
end
end
theorem RR.tn {k : Nat} {g h : Hp} {v : Value} {us : List (List Value)} {T T' : Tg} (r : RR k g v us) (x : Tn TA T g T' h) (z : ∀ a n c,v = .slice (some a) n c → T a.block = 0) : RR k h v us := by
 rcases r with r | ⟨i,o,sp,c,e,h2,h3,h4⟩
 ·exact .inl r
 ·refine .inr ⟨i,o,sp,c,e,Nat.lt_of_lt_of_le h2 x.nx,h3,fun j u hu => ?_⟩
  have h0 : T i = 0 := z _ _ _ e
  have := h4 j u hu
  unfold Hp.rd at this ⊢
  rw [x.fr i h2 (by rw [h0]; decide)]
  exact this
set_option maxHeartbeats 8000000 in
theorem trefused_ok (h : Hp) {v : Value} {l : List Ev} (r : RR 3 h v (rV l)) (hl : l.length ≤ 9223372036854775807) (ht : ∀ e ∈ l,e.text.length ≤ 9223372036854775807) (y : Ev) (hy : y.text.length ≤ 9223372036854775807) : ACall PX 5 [v,.agg ⟨evV y⟩] h (fun v _ => v = .bool true) := by
 obtain ⟨x,c,e⟩ := r.len
 rw [rV_len] at e
 subst e
 have hz := sz_mk y.text
 refine acallA Tryz.func5 c5 ?_
 unfold ir5
 dsimp only [qo,qm,qk,q2,qi,qg,qn,qc,dq,ci,cb,qh,qs]
 repeat (first | apply sS | apply ai_seq | apply ai_regW)
 refine w_box rfl fun g0 x0 k0 n0 => ?_
 have H0 : Hd g0 h.nx ⟨[nI y.kind,nI y.n,bs y.text],true,0⟩ := ⟨n0,k0⟩
 have r0 := r.ext x0
 generalize h.nx = iy at *
 clear k0
 repeat (first | apply sS | apply sE | refine w_mv rfl ?_ | apply ai_seq | apply ai_regW)
 refine w_call rfl ((default_ok g0).mono ?_)
 rintro _ g1 ⟨rfl,x1⟩
 repeat (first | apply sS)
 refine w_call rfl ((R1.new g1 (c := dfC) dfC_may).mono ?_)
 rintro _ g2 ⟨s,T,rfl,a2⟩
 have r1 := r0.ext x1
 have H1 := H0.ext x1
 repeat (first | apply sS | apply sE | refine w_mv rfl ?_ | refine w_pickF rfl ?_ | (refine is_okn rfl ?_; refine w_op rfl ?_) | refine w_ext rfl rfl ?_ | refine w_gT rfl rfl ?_ | (apply is_bin; refine w_cF rfl ?_) | apply ai_seq | apply ai_regW | refine ai_cF rfl ?_ | apply ai_skip)
 refine w_call rfl ((few_ok g2 (r1.ext a2.x) hl ht 30).mono ?_)
 rintro _ g5 ⟨rfl,rfl⟩
 have k2 := (H1.ext a2.x).2
 cases hf : fewF l 30 with
 | false =>
  repeat (first | apply sS | apply sE | refine w_mv rfl ?_ | refine w_pickT rfl ?_ | (refine is_okn rfl ?_; refine w_op rfl ?_) | refine w_gF rfl rfl ?_ | apply ai_seq | apply ai_regW | refine ai_cT rfl ?_)
  refine w_call rfl ((ttold_ok g2).mono ?_)
  rintro _ g6 ⟨rfl,x6⟩
  repeat (first | apply sS | apply sE | refine w_mv rfl ?_ | (apply ai_ret; repeat (first | rw [thenQ_r] | rw [blockQ_r] | rw [roundE_r])))
  exact end_one rfl rfl
 | true =>
 obtain ⟨hlen,htx⟩ := few_of hf
 by_cases hyl : y.text.length ≤ 300
 case neg =>
  repeat (first | apply sS | apply sE | refine w_mv rfl ?_ | refine w_pickF rfl ?_ | (refine is_okn rfl ?_; refine w_op rfl ?_) | refine w_gT rfl rfl ?_ | (apply is_ld; refine w_ldA rfl ?_) | (apply is_bin; refine w_cT rfl ?_) | apply ai_seq | apply ai_regW | refine ai_cT rfl ?_)
  refine w_call rfl ((ttold_ok g2).mono ?_)
  rintro _ g6 ⟨rfl,x6⟩
  repeat (first | apply sS | apply sE | refine w_mv rfl ?_ | (apply ai_ret; repeat (first | rw [thenQ_r] | rw [blockQ_r] | rw [roundE_r])))
  exact end_one rfl rfl
 repeat (first | apply sS | apply sE | refine w_mv rfl ?_ | refine w_pickF rfl ?_ | (refine is_okn rfl ?_; refine w_op rfl ?_) | refine w_gT rfl rfl ?_ | (apply is_ld; refine w_ldA rfl ?_) | (apply is_bin; refine w_cF rfl ?_) | apply ai_seq | apply ai_regW | refine ai_cF rfl ?_ | apply ai_skip | apply ai_block)
 refine ai_loopE (γ := Nat × Tg) (fun e => [(0,.slice x l.length c),(3,ptr iy),(5,ptr s),(7,nI e.1)])
  (fun e h => R1 g1 h e.2 s (runF nearF (l.take e.1) 0 (syNew dfC)) ∧ e.1 ≤ l.length) (fun e => l.length - e.1) (0,T) leX ⟨a2,Nat.zero_le _⟩ ?_
 rintro ⟨i,T6⟩ g6 ⟨a6,hi⟩
 dsimp only at a6 hi ⊢
 have i6 := RnI.run dfC_may nearF (l := l) (k := i) hi (by omega)
 clear k2
 by_cases hil : i < l.length
 ·obtain ⟨e,he⟩ : ∃ e,l[i]? = some e := ⟨_,List.getElem?_eq_getElem hil⟩
  obtain ⟨bi,bo,bs',rfl,_,hr⟩ := (r1.ext a6.x).at (rV_get he)
  have hnl := near_len (htx e (List.mem_of_getElem? he)) i
  have hrt := runF_take nearF he (syNew dfC)
  repeat (first | apply sS | apply sE | refine w_mv rfl ?_ | (refine is_okn rfl ?_; refine w_op rfl ?_) | (apply is_ldn; refine w_ldnA rfl ?_) | (apply is_bin; refine w_cT rfl ?_) | (apply is_iad; refine w_iadA rfl ?_) | apply ai_seq | apply ai_regW | refine ai_cT rfl ?_ | apply ai_skip | apply ai_block)
  refine w_call rfl ((near_ok g6 e i (by omega)).mono ?_)
  rintro _ g7 ⟨rfl,x7⟩
  have a7 := a6.ext x7
  repeat (first | apply sS)
  refine w_call rfl ((a7.do_ i6 (by omega) (nearF e i) (by omega)).mono ?_)
  rintro _ g10 ⟨rfl,T10,a10,x10⟩
  repeat (first | apply sS | apply sE | refine w_mv rfl ?_ | (apply is_bin; refine w_addA rfl ?_) | apply ai_regW)
  exact ⟨(i + 1,T10),leX,⟨by dsimp only; rw [hrt]; exact a10,by dsimp only; omega⟩,by dsimp only; omega⟩
 ·obtain rfl : i = l.length := by omega
  rw [List.take_length] at a6 i6
  generalize runF nearF l 0 (syNew dfC) = st at a6 i6
  have hql := i6.r
  repeat (first | apply sS | apply sE | refine w_mv rfl ?_ | (refine is_okn rfl ?_; refine w_op rfl ?_) | (apply is_bin; refine w_cF rfl ?_) | apply ai_seq | apply ai_regW | refine ai_cF rfl ?_ | apply ai_exit)
  refine w_call rfl ((a6.see i6 (by omega)).mono ?_)
  rintro _ g7 ⟨ps,rfl,A7,x7⟩
  obtain ⟨px,pc,rfl⟩ := A7.len
  have a7 := a6.ext x7
  repeat (first | apply sS | refine w_mv rfl ?_)
  refine w_call rfl ((a7.reqs i6 (by omega)).mono ?_)
  rintro w g8 ⟨r8,f8,x8⟩
  have z8 : ∀ a n c,w = .slice (some a) n c → T6 a.block = 0 := fun a n c e => a7.w _ (f8 a n c e)
  have a8 := a7.ext x8
  repeat (first | apply sS | refine w_mv rfl ?_)
  refine w_call rfl (a8.conf.mono ?_)
  rintro _ g9 ⟨rfl,x9⟩
  have a9 := a8.ext x9
  repeat (first | apply sS | refine w_mv rfl ?_)
  refine w_call rfl (a9.last.mono ?_)
  rintro _ g10 ⟨rfl,x10⟩
  have a10 := a9.ext x10
  repeat (first | apply sS | refine w_mv rfl ?_)
  refine w_call rfl ((a10.trace i6).mono ?_)
  rintro _ g11 ⟨t11,x11⟩
  obtain ⟨tx,tc,rfl⟩ := t11.len
  have a11 := a10.ext x11
  have r11 := ((r8.ext x9).ext x10).ext x11
  clear t11
  repeat (first | apply sS | (refine is_okn rfl ?_; refine w_op rfl ?_))
  refine w_new fun g12 x12 k12 n12 => ?_
  repeat (first | apply sS)
  refine w_new fun g13 x13 k13 n13 => ?_
  repeat (first | apply sS)
  refine w_new fun g14 x14 k14 n14 => ?_
  have o12 := x12.1
  have o13 := x13.1
  have o14 := x14.1
  have k12' := ((x13.trans x14).2 _ n12).trans k12
  have k13' := (x14.2 _ n13).trans k13
  repeat (first | apply sSn)
  refine w_stN rfl rfl k12' rfl rfl fun g15 m15 k15 n15 => ?_
  have k13a := (m15 _ (by omega)).trans k13'
  have k14a := (m15 _ (by omega)).trans k14
  clear k12 k12' k13 k13' k14
  repeat (first | apply sS | apply sSn | refine w_mv rfl ?_)
  refine w_stN rfl rfl k13a rfl rfl fun g16 m16 k16 n16 => ?_
  have k15b := (m16 _ (by omega)).trans k15
  have k14b := (m16 _ (by omega)).trans k14a
  clear k13a k14a k15
  repeat (first | apply sSn)
  refine w_stN rfl rfl k14b rfl rfl fun g17 m17 k17 n17 => ?_
  have k15c := (m17 _ (by omega)).trans k15b
  have k16c := (m17 _ (by omega)).trans k16
  clear k14b k15b k16
  have x17 : Ext g11 g17 := ⟨by omega,fun k hk => by
   rw [m17 k (by omega),m16 k (by omega),m15 k (by omega)]
   exact ((x12.trans x13).trans x14).2 k hk⟩
  have a17 := a11.ext x17
  have V17 : Hd g17 g11.nx ⟨vS st (.slice px st.ps.length pc),true,0⟩ := ⟨by omega,k15c⟩
  have C17 : Hd g17 g12.nx ⟨cs20 st.c,true,0⟩ := ⟨by omega,k16c⟩
  have D17 : Hd g17 g13.nx ⟨dcV st.last,true,0⟩ := ⟨by omega,k17⟩
  have zV := a11.w g11.nx (Nat.le_refl _)
  have zC := a11.w g12.nx (by omega)
  have zD := a11.w g13.nx (by omega)
  have r17 := r11.ext x17
  clear k15c k16c k17
  generalize g11.nx = iv at *
  generalize g12.nx = ic at *
  generalize g13.nx = id at *
  have ky := (H1.ext a17.x).2
  have ky3 : g17.rd iy 0 3 = some (evV y) := rd_all ky rfl
  repeat (first | apply sS | apply sE | refine w_mv rfl ?_ | (apply is_ldn; refine w_ldnA rfl ?_) | apply ai_seq | apply ai_regW)
  refine w_call rfl ((a17.do_ i6 (by omega) y (by omega)).mono ?_)
  rintro _ g18 ⟨rfl,T18,a18,x18⟩
  clear ky ky3
  by_cases h0 : (syDo st y).2 = 0
  ·rw [h0]
   repeat (first | apply sS | apply sE | (apply is_bin; refine w_cT rfl ?_) | apply ai_seq | apply ai_regW | refine ai_cT rfl ?_)
   refine w_call rfl ((ttold_ok g18).mono ?_)
   rintro _ g19 ⟨rfl,x19⟩
   repeat (first | apply sS | apply sE | refine w_mv rfl ?_ | (apply ai_ret; repeat (first | rw [thenQ_r] | rw [blockQ_r] | rw [roundE_r])))
   exact end_one rfl rfl
  rw [do_no h0] at a18
  obtain ⟨V18,_⟩ := x18.hd V17 zV
  obtain ⟨C18,_⟩ := x18.hd C17 zC
  obtain ⟨D18,_⟩ := x18.hd D17 zD
  have r18 := r17.tn x18 z8
  generalize (syDo st y).2 = code at h0
  have h0' : ¬ code = 0 := h0
  repeat (first | apply sS | apply sE | refine w_mv rfl ?_ | (apply is_bin; refine w_cF rfl ?_) | apply ai_seq | apply ai_regW | refine ai_cF rfl ?_ | apply ai_skip)
  refine w_call rfl ((a18.see i6 (by omega)).mono ?_)
  rintro _ g19 ⟨ps,rfl,A19,x19⟩
  obtain ⟨qx,qc,rfl⟩ := A19.len
  have a19 := a18.ext x19
  repeat (first | apply sS | refine w_mv rfl ?_)
  refine w_call rfl ((a19.reqs i6 (by omega)).mono ?_)
  rintro w2 g20 ⟨r20,_,x20⟩
  have a20 := a19.ext x20
  repeat (first | apply sS)
  refine w_new fun g21 x21 k21 n21 => ?_
  repeat (first | apply sSn)
  refine w_stN rfl rfl k21 rfl rfl fun g22 m22 k22 n22 => ?_
  have x22 := x21.own m22 n22
  have a22 := a20.ext x22
  have x1822 := (x19.trans x20).trans x22
  have U22 : Hd g22 g20.nx ⟨vS st (.slice qx st.ps.length qc),true,0⟩ := ⟨by omega,k22⟩
  have V22 := V18.ext x1822
  have C22 := C18.ext x1822
  have D22 := D18.ext x1822
  have r22 := r18.ext x1822
  have s22 := r20.ext x22
  clear k21 k22
  generalize g20.nx = iu at *
  obtain ⟨yx,yc,e1⟩ := r22.len
  obtain ⟨zx,zc,e2⟩ := s22.len
  rw [rQ_len] at e1 e2
  subst e1 e2
  obtain ⟨_,kU⟩ := U22
  obtain ⟨_,kV⟩ := V22
  replace kU : g22.get iu = some ⟨[nI st.now,nI st.want,.bool st.last.panic,.bool st.proxy,.slice qx st.ps.length qc,nI st.q.length,nI (cnR st.r 2),nI (cnR st.r 0),nI (cnR st.r 1),nI (cnR st.r 2),nI (cnR st.r 3),nI (cnR st.r 4),nI (cnR st.r 5),nI (cnR st.r 6),.bool (mtOver st.d.m)],true,0⟩ := kU
  replace kV : g22.get iv = some ⟨[nI st.now,nI st.want,.bool st.last.panic,.bool st.proxy,.slice px st.ps.length pc,nI st.q.length,nI (cnR st.r 2),nI (cnR st.r 0),nI (cnR st.r 1),nI (cnR st.r 2),nI (cnR st.r 3),nI (cnR st.r 4),nI (cnR st.r 5),nI (cnR st.r 6),.bool (mtOver st.d.m)],true,0⟩ := kV
  have hrU : g22.rd iu (0 + 7) 7 = some [nI (cnR st.r 0),nI (cnR st.r 1),nI (cnR st.r 2),nI (cnR st.r 3),nI (cnR st.r 4),nI (cnR st.r 5),nI (cnR st.r 6)] := rd_cut kU rfl rfl
  have hrV : g22.rd iv (0 + 7) 7 = some [nI (cnR st.r 0),nI (cnR st.r 1),nI (cnR st.r 2),nI (cnR st.r 3),nI (cnR st.r 4),nI (cnR st.r 5),nI (cnR st.r 6)] := rd_cut kV rfl rfl
  have kC : g22.rd ic 0 20 = some (cs20 st.c) := rd_all C22.2 rfl
  have kD : g22.rd id 0 6 = some (dcV st.last) := rd_all D22.2 rfl
  repeat (first | apply sS | apply dS | apply sE | refine w_mv rfl ?_ | refine w_pickF rfl ?_ | (refine is_okn rfl ?_; refine w_op rfl ?_) | refine w_gT rfl rfl ?_ | (apply is_ld; refine w_ldA rfl ?_) | (apply is_ldn; refine w_ldnA rfl ?_) | (apply is_bin; refine w_cF rfl ?_) | apply ai_seq | refine ai_drwW (by kernel_rfl) ?_)
  refine w_neA rfl rfl Tryz.underlying37 (k := .int .i64) (by kernel_rfl) (i := (PX.info? 3).get (by kernel_rfl)) (by kernel_rfl) (by kernel_rfl) (by kernel_rfl) rfl rfl fun b hb => ?_
  obtain rfl : b = false := by
   cases b with
   | false => rfl
   | true => exact absurd rfl (hb.1 rfl)
  repeat (first | apply dS | apply dSR | refine w_mv rfl ?_ | refine w_pickF rfl ?_ | (refine is_okn rfl ?_; refine w_op rfl ?_) | refine w_gT rfl rfl ?_ | (apply is_ld; refine w_ldA rfl ?_) | (apply is_ldn; refine w_ldnA rfl ?_) | (apply is_bin; refine w_cF rfl ?_))
  refine w_call rfl (a22.conf.mono ?_)
  rintro _ g23 ⟨rfl,x23⟩
  have a23 := a22.ext x23
  clear kC
  have kC : g23.rd ic 0 20 = some (cs20 st.c) := rd_all (C22.ext x23).2 rfl
  repeat (first | apply dS | (apply is_ag; refine agSA ?_) | refine w_gT rfl rfl ?_)
  refine w_neC rfl rfl rfl ?_
  clear kD kC
  have kD : g23.rd id 0 6 = some (dcV st.last) := rd_all (D22.ext x23).2 rfl
  repeat (first | apply dS | apply dSR | refine w_mv rfl ?_ | refine w_pickF rfl ?_ | refine w_gT rfl rfl ?_ | (apply is_ldn; refine w_ldnA rfl ?_))
  refine w_call rfl (a23.last.mono ?_)
  rintro _ g24 ⟨rfl,x24⟩
  have a24 := a23.ext x24
  clear kD
  have kD : g24.rd id 0 6 = some (dcV st.last) := rd_all ((D22.ext x23).ext x24).2 rfl
  repeat (first | apply dS | (apply is_ag; refine agSA ?_) | refine w_gT rfl rfl ?_)
  refine w_neD rfl rfl rfl ?_
  repeat (first | apply dS | refine w_mv rfl ?_ | refine w_pickF rfl ?_ | refine w_gT rfl rfl ?_)
  refine w_call rfl ((a24.trace i6).mono ?_)
  rintro _ g25 ⟨t25,x25⟩
  obtain ⟨ux,uc,rfl⟩ := t25.len
  have x2225 := (x23.trans x24).trans x25
  have r25 := r22.ext x2225
  have s25 := s22.ext x2225
  clear t25
  repeat (first | apply sS | apply dS | apply sE | apply dE | refine w_mv rfl ?_ | refine w_pickF rfl ?_ | (refine is_okn rfl ?_; refine w_op rfl ?_) | refine w_gT rfl rfl ?_ | (apply is_bin; refine w_cF rfl ?_) | apply ai_seq | apply ai_regW | refine ai_cF rfl ?_ | apply ai_skip | apply ai_block)
  refine ai_loopE (γ := Nat) (fun i => [(9,.slice yx st.r.length yc),(14,.slice zx st.r.length zc),(15,nI i)]) (fun i h => g25 = h ∧ i ≤ st.r.length) (fun i => st.r.length - i) 0 leX ⟨rfl,Nat.zero_le _⟩ ?_
  rintro j _ ⟨rfl,hj⟩
  by_cases hjl : j < st.r.length
  ·obtain ⟨q,hq⟩ : ∃ q,st.r[j]? = some q := ⟨_,List.getElem?_eq_getElem hjl⟩
   obtain ⟨b1,o1,s1,rfl,_,hr1⟩ := r25.at (rQ_get hq)
   obtain ⟨b2,o2,s2,rfl,_,hr2⟩ := s25.at (rQ_get hq)
   repeat (first | apply sS | apply dS | apply sE | refine w_mv rfl ?_ | (refine is_okn rfl ?_; refine w_op rfl ?_) | (apply is_ldn; refine w_ldnA rfl ?_) | (apply is_bin; refine w_cT rfl ?_) | (apply is_iad; refine w_iadA rfl ?_) | apply ai_seq | apply ai_regW | refine ai_cT rfl ?_ | apply ai_skip | refine ai_drwW (by kernel_rfl) ?_ | apply ai_block)
   refine w_neR rfl rfl ?_
   rw [decide_eq_false (by simp)]
   repeat (first | apply sS | apply sE | apply dE | refine w_mv rfl ?_ | (apply is_bin; refine w_addA rfl ?_) | apply ai_regW | refine ai_cF rfl ?_ | apply ai_skip)
   exact ⟨j + 1,leX,⟨rfl,by omega⟩,by dsimp only; omega⟩
  ·obtain rfl : j = st.r.length := by omega
   repeat (first | apply sS | apply sE | refine w_mv rfl ?_ | (refine is_okn rfl ?_; refine w_op rfl ?_) | (apply is_bin; refine w_cF rfl ?_) | apply ai_seq | apply ai_regW | refine ai_cF rfl ?_ | apply ai_exit)
   refine w_call rfl ((ttold_ok g25).mono ?_)
   rintro _ g26 ⟨rfl,x26⟩
   repeat (first | apply sS | apply sE | refine w_mv rfl ?_ | (apply ai_ret; repeat (first | rw [thenQ_r] | rw [blockQ_r] | rw [roundE_r])))
   exact end_one rfl rfl
section
variable {H : Type} {enc : TypeId × Value → H}
theorem handed_and_shaped {a : Assume} {C : Checked} {os : Os} {f : FuncId} {fn : Func} {s : ChangeSpec} {conds : List PathCond} {apart fresh handsOn again : Bool} {X : World → Array Value → Prop}
  (hX : ∀ (w w' : World) (args : Array Value),w.heap = w'.heap → X w args → X w' args)
  (own : ownKnob C.prog.godebug = none) (started : os.Started) (noInit : C.prog.inits.idxOf? f = none) (hfn : C.prog.funcs[f]? = some fn)
  (witness : ∃ (w : World) (tape : Tape) (i : Input),w.os = os ∧ (w.forCall tape i).Shaped C.prog ∧ i.vars = [] ∧ Input.okWide C.prog (w.forCall tape i) .any w.heap.size f i ∧
   ((s.pre enc C.prog fn conds apart (w.forCall tape i).memory i.args ∧ X (w.forCall tape i).memory i.args) ∧ sizedMet enc C.prog fn (OpenSpec.ofChange s) apart (w.forCall tape i).memory i.args) ∧ a.holds C.prog (lone (Frame.enter C.prog f i.args .normal) [] (w.forCall tape i)))
  (contract : ∀ (W : World) (base : Nat) (args : Array Value) (ds gs : List (DataW H)) (before : List MemPlace),
   (∀ (j : Nat) t v,fn.params[j]? = some t → args[j]? = some v → Value.okWide C.prog W .any base t v) →
   DataW.Whole enc C.prog fn.params.toList s.vars apart W args.toList ds gs before →
   conds.all (PathCond.test C.prog ⟨fn.params.toList,ds,s.plain.varTypes C.prog,gs⟩) = true →
   (DataW.weightsEach C.prog (fn.params.toList ++ s.plain.varTypes C.prog) (ds ++ gs)).all (· ≤ reachBytes) = true → X W args → W.ShapedOpen C.prog →
   a.holds C.prog (lone (Frame.enter C.prog f args .normal) [] W) →
   Calls C.prog f args W fun e W' => ∃ v,e = .returned v ∧ s.post enc C.prog fn apart fresh handsOn again W args v W') :
  ReturnsInHanded a C os f .any (fun w args => (s.pre enc C.prog fn conds apart w args ∧ X w args) ∧ sizedMet enc C.prog fn (OpenSpec.ofChange s) apart w args) (s.post enc C.prog fn apart fresh handsOn again) := by
 refine returnsInHanded_of_calls own started noInit witness ?_
 intro w tape i _ hsh _ hok hpre hholds
 obtain ⟨_,_,_,fn',hfn',_,_,_,_,hval⟩ := hok
 have e : fn' = fn := Option.some.inj (hfn'.symm.trans hfn)
 subst e
 obtain ⟨⟨⟨ds,gs,before,hw,hc⟩,hx⟩,hz⟩ := hpre
 have hw' := DataW.Whole.of_heap (w' := w.forCall tape i) (by rfl) hw
 refine (contract (w.forCall tape i) w.heap.size i.args ds gs before hval hw' hc (hz.weights hw) (hX _ _ _ (by rfl) hx) hsh hholds).mono fun e W' ⟨v,he,hp⟩ => ?_
 subst he
 exact ChangeSpec.post_blind hp
end
section
open Go.Proofs.YtelmcfnkclihcaaGreatDoor
def cellsL : DataW Unit → Array Value
 | .agg l => (l.flatMap fun
  | .lit (.int k z) => [Value.int k z]
  | .agg m => m.map fun | .lit (.int k z) => Value.int k z | _ => .bool false
  | _ => [.bool false]).toArray
 | _ => #[]
noncomputable def lowN : Nat := (World.holding Tryz.prog default ⟨#[],#[],[]⟩).heap.size
def setBlk (b : Nat) (c : Array Value) (h : Array Obj) : Array Obj := h.modify b fun
 | .cells _ t frozen => .cells c t frozen
 | o => o
noncomputable def laidWorld (os : Os) : World :=
  let w0 := World.holding Tryz.prog os ⟨#[.cells #[.string ⟨#[118,97,108,117,101,32,111,117,116,32,111,102,32,114,97,110,103,101]⟩] 301,.cells #[.string ⟨#[105,110,118,97,108,105,100,32,115,121,110,116,97,120]⟩] 301],#[],[]⟩
  { w0 with heap := setBlk 1 (cellsL Rows.laid_unicode_utf8_first) (setBlk 5 #[.iface 299 (.pointer (some ⟨lowN + 1,0,none⟩))] (setBlk 6 #[.iface 299 (.pointer (some ⟨lowN,0,none⟩))]
      (setBlk 2 (cellsL Rows.laid_unicode_utf8_acceptRanges) (setBlk 7 (cellsL Rows.laid_internal_strconv_uint64pow10) (setBlk 9 (cellsL Rows.laid_math_bits_deBruijn64tab) (setBlk 8 (cellsL Rows.laid_math_bits_deBruijn32tab) w0.heap)))))) }
abbrev laidL : List (String × DataW Unit) := [("math/bits.deBruijn32tab", Rows.laid_math_bits_deBruijn32tab), ("math/bits.deBruijn64tab", Rows.laid_math_bits_deBruijn64tab), ("internal/strconv.uint64pow10", Rows.laid_internal_strconv_uint64pow10), ("unicode/utf8.acceptRanges", Rows.laid_unicode_utf8_acceptRanges), ("strconv.ErrRange", Rows.laid_strconv_ErrRange), ("strconv.ErrSyntax", Rows.laid_strconv_ErrSyntax), ("unicode/utf8.first", Rows.laid_unicode_utf8_first)]
theorem gP : Tryz.prog.globalNamed "internal/strconv.uint64pow10" = some 7 := by kernel_rfl
theorem max_shape {W : World} (hsh : W.ShapedOpen Tryz.prog) : ∃ m,W.cell? ⟨gMax,0,none⟩ = some (.int .i64 m) :=
 Go.Proofs.cell_of_shapedOpen_int (zero := #[.int .i64 0]) (t := 3) hsh (of_decide_eq_true (by kernel_rfl)) (by kernel_rfl) rfl (by kernel_rfl) (by kernel_rfl) Tryz.underlying3
theorem tb_laid {W : World} (h : laidMet Tryz.prog laidL W) (hsh : W.ShapedOpen Tryz.prog) : TbP W :=
 ⟨Go.Lib.tabIs_of_head (rest := _) gP (by kernel_rfl : (Tryz.prog.globals[7]?).map (·.type) = some 308) Tryz.underlying308 Tryz.underlying159 (by kernel_rfl) (by kernel_rfl) (laidMet.tail (laidMet.tail h)),max_shape hsh⟩
theorem hz_laid {W : World} (h : laidMet Tryz.prog laidL W) (hsh : W.ShapedOpen Tryz.prog) : 0 < W.heap.size :=
 Nat.lt_of_le_of_lt (Nat.zero_le _) (cell_at (Go.Lib.TabIs.cell (tb_laid h hsh).1 gP 0 (by decide))).2
theorem laid_met (os : Os) (args : Array Value) : laidMet Tryz.prog laidL ((laidWorld os).forCall (fun _ _ => 0) ⟨#[],args,[]⟩).memory :=
 laidMet_of_run3 10 (by kernel_rfl) (by kernel_rfl) (by kernel_rfl)
end
end Go.Proofs.YtelmcfnkclihcaaGreatDoorW.Am
