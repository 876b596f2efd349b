/- The system, plain: what always holds of it; sending. -/
import Derived.Test.YtelmcfnkclihcaaGreatDoorTopK4
import Derived.Test.YtelmcfnkclihcaaGreatDoorTopK3
import Derived.Lib.SlTrimSet
import Derived.Lib.ParseIntB
import Derived.Lib.IndexMore
import Derived.Shelf.Strings.SlTrimAscii
import Derived.Lib.SmallJoins
import Derived.Lib.SplitLaws
import Derived.Lib.TrimByte
namespace Go.Proofs.YtelmcfnkclihcaaGreatDoorW.Am
open Go Go.RowKit
structure SyI (st : Sy) : Prop where
 c : mayB st.c = true
 now : 0 ≤ st.now ∧ st.now ≤ 1099511627776
 ct : CtP st.made st.ps
 made : 0 ≤ st.made ∧ st.made ≤ 100 * (st.now + 1)
 cf : cF st.ps ≤ 100
 bz : ∀ p ∈ st.ps,p.2.2.1 ≤ 1000 ∧ p.2.2.2 ≤ st.now
 sum : sB st.ps + st.q.length ≤ st.r.length
 ql : st.q.length ≤ 200
 qd : 0 ≤ st.depth ∧ st.depth ≤ 200
 qp : st.put ≤ st.now
 qi : ∀ w ∈ st.q,0 ≤ w.1 ∧ w.1 < st.r.length ∧ 0 ≤ w.2 ∧ w.2 ≤ st.now
 rs : ∀ x ∈ st.r,1 ≤ x.2.2.1 ∧ x.2.2.1 ≤ 6
 dd : DdB st.d st.now st.now
 lost : 0 ≤ st.lost ∧ st.lost ≤ 1000
 since : -1 ≤ st.since ∧ st.since ≤ st.now
 trl : st.tr.length ≤ 1000
theorem SyI.len {st : Sy} (i : SyI st) (hb : st.r.length ≤ 800000) : st.ps.length ≤ 900000 := by
 have h1 := i.ct.len
 have h2 := i.cf
 have h3 := i.sum
 omega
theorem pickA_sp {limit : Int} : ∀ {l : List Int} {k best bv : Int},pickA limit l k best bv = best ∨ ∃ (j : Nat) (a : Int),l[j]? = some a ∧ pickA limit l k best bv = k + j ∧ a < limit
 | [],_,_,_ => .inl rfl
 | z :: l,k,best,bv => by
  simp only [pickA]
  by_cases h : z < limit ∧ (best < 0 ∨ z < bv)
  ·rw [if_pos h]
   rcases pickA_sp (l := l) (limit := limit) (k := k + 1) (best := k) (bv := z) with e | ⟨j,a,h1,h2,h3⟩
   ·exact .inr ⟨0,z,rfl,by rw [e]; simp,h.1⟩
   ·exact .inr ⟨j + 1,a,h1,by rw [h2]; omega,h3⟩
  ·rw [if_neg h]
   rcases pickA_sp (l := l) (limit := limit) (k := k + 1) (best := best) (bv := bv) with e | ⟨j,a,h1,h2,h3⟩
   ·exact .inl e
   ·exact .inr ⟨j + 1,a,h1,by rw [h2]; omega,h3⟩
theorem pickF_sp {limit : Int} {l : List Int} : pickF l limit = -1 ∨ ∃ (j : Nat) (a : Int),l[j]? = some a ∧ pickF l limit = j ∧ a < limit := by
 rcases pickA_sp (l := l) (limit := limit) (k := 0) (best := -1) (bv := 0) with e | ⟨j,a,h1,h2,h3⟩
 ·exact .inl e
 ·exact .inr ⟨j,a,h1,by unfold pickF; rw [h2]; omega,h3⟩
theorem subF_mem {l : List Int} {most a : Int} (h : a ∈ subF l most) : a ∈ l := by
 unfold subF at h
 split at h
 ·exact h
 ·obtain ⟨p,hp,rfl⟩ := List.mem_map.1 h
  have h1 := (List.mem_filter.1 hp).1
  have h2 := List.mem_map_of_mem (f := fun p : Int × Int => p.1) h1
  rw [zL_fst] at h2
  exact h2
theorem idsF_mem {c : Cf20} {proxy : Bool} {ps : List Pd} {a : Int} (h : a ∈ idsF c proxy ps) : a ∈ rF ps := by
 unfold idsF at h
 cases proxy
 ·exact h
 ·exact subF_mem h
def pickK (st : Sy) : Int := pickF ((idsF st.c st.proxy st.ps).map (busyF st.ps)) st.c.limit
def sentS (st : Sy) (w : Int × Int) (q : List (Int × Int)) : Sy :=
 { st with q := q,ps := (enF st.ps ((idsF st.c st.proxy st.ps).getD (pickK st).toNat 0)).1,r := setR st.r w.1.toNat fun x => (x.1,st.now,2,(idsF st.c st.proxy st.ps).getD (pickK st).toNat 0) }
theorem sySent_nil {st : Sy} (h : st.q = []) : sySent st = st := by
 unfold sySent
 rw [h]
 simp only [sentF]
 rw [← h]
theorem sySent_no {st : Sy} (h : pickK st < 0) : sySent st = st := by
 cases hq : st.q with
 | nil => exact sySent_nil hq
 | cons w q =>
  unfold sySent
  rw [hq]
  unfold pickK at h
  simp only [sentF,if_pos h]
  rw [← hq]
theorem sySent_yes {st : Sy} {w : Int × Int} {q : List (Int × Int)} (hq : st.q = w :: q) (h : ¬ pickK st < 0) : sySent st = sySent (sentS st w q) := by
 unfold sySent
 rw [hq]
 have h' := h
 unfold pickK at h'
 simp only [sentF,if_neg h']
 rfl
theorem pick_at {st : Sy} (ct : CtP st.made st.ps) (h : ¬ pickK st < 0) : ∃ (j k : Nat) (p : Pd),pickK st = j ∧ (idsF st.c st.proxy st.ps)[j]? = some p.1 ∧ st.ps[k]? = some p ∧ p.2.1 = 2 ∧ p.2.2.1 < st.c.limit ∧ fI st.ps p.1 = k := by
 rcases pickF_sp (l := (idsF st.c st.proxy st.ps).map (busyF st.ps)) (limit := st.c.limit) with e | ⟨j,a,h1,h2,h3⟩
 ·exfalso
  unfold pickK at h
  omega
 ·rw [List.getElem?_map] at h1
  cases hid : (idsF st.c st.proxy st.ps)[j]? with
  | none => rw [hid] at h1; cases h1
  | some id =>
   rw [hid] at h1
   simp only [Option.map_some,Option.some.injEq] at h1
   have hm := idsF_mem (List.mem_of_getElem? hid)
   obtain ⟨n,hn,hn2⟩ := List.getElem_of_mem hm
   obtain ⟨k,p,hk,rfl,h4⟩ := rF_at (l := st.ps) (i := n) (id := id) (by rw [List.getElem?_eq_getElem hn,hn2])
   have hf := ct.at hk
   refine ⟨j,k,p,h2,hid,hk,h4,?_,hf⟩
   have : busyF st.ps p.1 = p.2.2.1 := by unfold busyF; rw [hf,getD_of hk]
   omega
theorem setR_len (r : List Rq) (k : Nat) (f : Rq → Rq) : (setR r k f).length = r.length := by simp [setR]
theorem setR_mem {r : List Rq} {k : Nat} {f : Rq → Rq} {x : Rq} (h : x ∈ setR r k f) : x ∈ r ∨ x = f (r.getD k r0) := by
 unfold setR at h
 exact List.mem_or_eq_of_mem_set h
theorem SyI.sent1 {st : Sy} (i : SyI st) {w : Int × Int} {q : List (Int × Int)} (hq : st.q = w :: q) (h : ¬ pickK st < 0) : SyI (sentS st w q) := by
 obtain ⟨j,k,p,e1,e2,e3,e4,e5,e6⟩ := pick_at i.ct h
 have hid : (idsF st.c st.proxy st.ps).getD (pickK st).toNat 0 = p.1 := by
  rw [e1,Int.toNat_natCast,List.getD_eq_getElem?_getD,e2]
  rfl
 have hen := i.ct.enter e3 e4
 have hb := i.bz p (List.mem_of_getElem? e3)
 have hl := (cf_ok i.c).limit
 have hc := i.ct.each p (List.mem_of_getElem? e3)
 have hw := i.qi w (by rw [hq]; simp)
 have hsum := i.sum
 have hql := i.ql
 rw [hq,List.length_cons] at hsum hql
 unfold sentS
 rw [hid,hen]
 refine ⟨i.c,i.now,i.ct.set e3 rfl ⟨by dsimp only; omega,fun e => absurd e (by dsimp only; omega),hc.2.2.2.2⟩,i.made,by rw [show cF (st.ps.set k (p.1,2,p.2.2.1 + 1,p.2.2.2)) = cF st.ps from cF_set e3 e4.symm]; exact i.cf,fun p' hp' => ?_,?_,by dsimp only; omega,i.qd,i.qp,fun v hv => ?_,fun x hx => ?_,i.dd,i.lost,i.since,i.trl⟩
 ·rcases List.mem_or_eq_of_mem_set hp' with hp' | rfl
  ·exact i.bz p' hp'
  ·exact ⟨by dsimp only; omega,hb.2⟩
 ·dsimp only
  rw [sB_set e3,setR_len]
  dsimp only
  omega
 ·have := i.qi v (by rw [hq]; simp [hv])
  dsimp only
  rw [setR_len]
  exact this
 ·have hx : x ∈ setR st.r w.1.toNat fun x => (x.1,st.now,2,p.1) := hx
  rcases setR_mem hx with hx | rfl
  ·exact i.rs x hx
  ·dsimp only; omega
theorem SyI.sent {st : Sy} (i : SyI st) : SyI (sySent st) := by
 generalize hn : st.q.length = n
 induction n generalizing st with
 | zero => rw [sySent_nil (List.eq_nil_of_length_eq_zero hn)]; exact i
 | succ n ih =>
  by_cases h : pickK st < 0
  ·rw [sySent_no h]; exact i
  ·cases hq : st.q with
   | nil => rw [hq] at hn; simp at hn
   | cons w q =>
    rw [sySent_yes hq h]
    exact ih (i.sent1 hq h) (by show q.length = n; rw [hq] at hn; simpa using hn)
def rO (l : List (Int × Int)) : List (List Value) := l.map fun p => [on2 p]
theorem rO_flat (l : List (Int × Int)) : (rO l).flatten = l.map on2 := by
 induction l with
 | nil => rfl
 | cons a l ih => simp [rO] at ih ⊢; exact ih
theorem rO_els (l : List (Int × Int)) : Els 1 (rO l) := fun u hu => by
 obtain ⟨a,_,rfl⟩ := List.mem_map.1 hu
 exact ⟨rfl,rfl⟩
theorem rO_len (l : List (Int × Int)) : (rO l).length = l.length := by simp [rO]
theorem iclone_ok (h : Hp) {s : Value} {l : List Int} (r : RR 1 h s (rI l)) (hl : l.length ≤ 100000) : ACall PX 112 [s] h (fun v g => RR 1 g v (rI l) ∧ Ext h g ∧ New h.nx v) := by
 obtain ⟨x,c,rfl⟩ := r.len
 cases x with
 | none =>
  refine acallA Tryz.func112 c112 ?_
  unfold ir112
  dsimp only [qo,qm,qk,q2,qi,qg,qn,qc,dq,ci,cb,qh,qs]
  repeat (first | apply sS | apply sE | refine w_mv rfl ?_ | (refine is_okn rfl ?_; refine w_op rfl ?_) | apply ai_seq | apply ai_regW | refine ai_cT rfl ?_ | (apply ai_ret; repeat (first | rw [thenQ_r] | rw [blockQ_r] | rw [roundE_r])))
  rcases r with ⟨_,hu⟩ | ⟨i,o,sp,c',e,_⟩
  ·exact end_one rfl ⟨by rw [hu]; exact .inl ⟨rfl,rfl⟩,Ext.refl _,fun a n c e => by cases e⟩
  ·cases e
 | some a =>
  refine acallA Tryz.func112 c112 ?_
  unfold ir112
  dsimp only [qo,qm,qk,q2,qi,qg,qn,qc,dq,ci,cb,qh,qs]
  repeat (first | apply sS | apply sE | refine w_mv rfl ?_ | (refine is_okn rfl ?_; refine w_op rfl ?_) | apply ai_seq | apply ai_regW | refine ai_cF rfl ?_ | apply ai_skip)
  refine w_bslF rfl rfl rfl rfl rfl fun g1 x1 k1 n1 => ?_
  repeat (first | apply sS | refine w_mv rfl ?_)
  refine w_clone rfl (r.ext x1) (rI_els l) n1 (by decide) (by rw [rI_len]; omega) (by rw [rI_len]; omega) fun v g2 r2 x2 f2 => ?_
  repeat (first | apply sS | apply sE | refine w_mv rfl ?_ | (apply ai_ret; repeat (first | rw [thenQ_r] | rw [blockQ_r] | rw [roundE_r])))
  exact end_one rfl ⟨r2,x1.trans x2,f2⟩
set_option maxHeartbeats 1000000 in
theorem of_ok (h : Hp) {s : Value} {l : List Int} {most : Int} (r : RR 1 h s (rI l)) (hl : l.length ≤ 1000) : ACall PX 79 [s,nI most] h (fun v g => RR 1 g v (rI (subF l most)) ∧ Ext h g ∧ New h.nx v) := by
 unfold subF
 obtain ⟨x,c,e⟩ := r.len
 rw [rI_len] at e
 subst e
 refine acallA Tryz.func79 c79 ?_
 unfold ir79
 dsimp only [qo,qm,qk,q2,qi,qg,qn,qc,dq,ci,cb,qh,qs]
 by_cases c1 : most < 1
 ·rw [if_pos (.inl c1)]
  repeat (first | apply sS | apply sE | refine w_mv rfl ?_ | refine w_pickT rfl ?_ | refine w_gF rfl rfl ?_ | (apply is_bin; refine w_cT rfl ?_) | apply ai_seq | apply ai_regW | refine ai_cT rfl ?_)
  refine w_call rfl ((iclone_ok _ r (by omega)).mono ?_)
  rintro v g ⟨h1,h2,h3⟩
  repeat (first | apply sS | apply sE | refine w_mv rfl ?_ | (apply ai_ret; repeat (first | rw [thenQ_r] | rw [blockQ_r] | rw [roundE_r])))
  exact end_one rfl ⟨h1,h2,h3⟩
 by_cases c2 : (l.length : Int) ≤ most
 ·rw [if_pos (.inr c2)]
  repeat (first | apply sS | apply sE | refine w_mv rfl ?_ | refine w_pickF rfl ?_ | (refine is_okn rfl ?_; refine w_op rfl ?_) | refine w_gT rfl rfl ?_ | (apply is_bin; refine w_cT rfl ?_) | (apply is_bin; refine w_cF rfl ?_) | apply ai_seq | apply ai_regW | refine ai_cT rfl ?_)
  refine w_call rfl ((iclone_ok _ r (by omega)).mono ?_)
  rintro v g ⟨h1,h2,h3⟩
  repeat (first | apply sS | apply sE | refine w_mv rfl ?_ | (apply ai_ret; repeat (first | rw [thenQ_r] | rw [blockQ_r] | rw [roundE_r])))
  exact end_one rfl ⟨h1,h2,h3⟩
 rw [if_neg (by omega)]
 obtain ⟨m,rfl⟩ : ∃ m : Nat,most = m := ⟨most.toNat,by omega⟩
 rw [Int.toNat_natCast]
 repeat (first | apply sS | apply sE | refine w_mv rfl ?_ | refine w_pickF rfl ?_ | (refine is_okn rfl ?_; refine w_op rfl ?_) | refine w_gT rfl rfl ?_ | (apply is_bin; refine w_cF rfl ?_) | apply ai_seq | apply ai_regW | refine ai_cF rfl ?_ | apply ai_skip | apply ai_block)
 refine ai_loopE (γ := Nat × Value) (fun e => [(1,nI m),(5,e.2),(21,.slice x l.length c),(22,nI l.length),(23,nI e.1)])
  (fun e g => GR 1 h.nx g e.2 (rO (zL 0 (l.take e.1))) ∧ Ext h g ∧ e.1 ≤ l.length) (fun e => l.length - e.1) (0,.slice none 0 0)
  leX ⟨.nil _ _ _,Ext.refl _,Nat.zero_le _⟩ ?_
 rintro ⟨i,s5⟩ g1 ⟨r1,x1,hi⟩
 dsimp only at r1 hi
 by_cases hil : i < l.length
 ·obtain ⟨a,ha⟩ : ∃ a,l[i]? = some a := ⟨_,List.getElem?_eq_getElem hil⟩
  obtain ⟨bi,bo,bs,rfl,_,hr⟩ := (r.ext x1).at (rI_get ha)
  repeat (first | apply sS | apply sE | refine w_mv rfl ?_ | refine w_bldF rfl rfl rfl rfl rfl ?_ | (refine is_okn rfl ?_; refine w_op rfl ?_) | (apply is_ld; refine w_ldA rfl ?_) | (apply is_bin; refine w_cT rfl ?_) | (apply is_iad; refine w_iadA rfl ?_) | apply ai_seq | apply ai_regW | refine ai_cT rfl ?_ | apply ai_skip | apply ai_block)
  refine w_bslF rfl rfl rfl rfl rfl fun g2 x2 k2 n2 => ?_
  repeat (first | apply sS)
  refine w_app1 rfl (r1.ext x2) k2 rfl rfl (by decide) (by rw [rO_len,zL_len,List.length_take]; omega) (by rw [rO_len,zL_len,List.length_take]; omega) (Nat.le_trans x1.1 x2.1) fun s' g3 r3 y3 _ => ?_
  repeat (first | apply sS | apply sE | refine w_mv rfl ?_ | (apply is_bin; refine w_addA rfl ?_) | apply ai_regW)
  refine ⟨(i + 1,s'),leX,⟨?_,(x1.trans x2).xtr y3 (Nat.le_refl _),by omega⟩,by dsimp only; omega⟩
  have ht : l.take (i + 1) = l.take i ++ [a] := by
   obtain ⟨h1,rfl⟩ := List.getElem?_eq_some_iff.1 ha
   exact List.take_succ_eq_append_getElem h1
  show GR 1 h.nx g3 s' (rO (zL 0 (l.take (i + 1))))
  rw [ht,zL_app,List.length_take,Nat.min_eq_left (by omega),Nat.zero_add]
  have : rO (zL 0 (l.take i) ++ [(a,(i : Int))]) = rO (zL 0 (l.take i)) ++ [[on2 (a,(i : Int))]] := by simp [rO]
  rw [this]
  exact r3
 ·have e : i = l.length := by omega
  subst e
  rw [List.take_length] at r1
  have hz : (zL 0 l).length = l.length := zL_len l 0
  rcases r1 with ⟨_,e⟩ | ⟨j,hj1,hj2,rfl,hj4,_,_⟩
  ·have := congrArg List.length e
   rw [rO_len,hz] at this
   have h0 : l.length = 0 := this
   omega
  rw [rO_len,hz]
  rw [rO_flat] at hj4
  repeat (first | apply sS | apply sE | refine w_mv rfl ?_ | (apply is_bin; refine w_cF rfl ?_) | apply ai_seq | apply ai_regW | refine ai_cF rfl ?_ | apply ai_exit)
  refine w_call rfl ?_
  rw [← hz]
  refine (sortB_ok g1 (j := j) (tl := []) (by rw [List.append_nil]; exact hj4) (by omega)).mono ?_
  rintro _ _ ⟨S,hp,hs,rfl⟩
  rw [hz]
  have hS : S.length = l.length := hp.length_eq.trans hz
  repeat (first | apply sS | apply sE | refine w_mv rfl ?_ | apply ai_seq | apply ai_regW)
  refine w_pre rfl (by omega) (by omega) ?_
  repeat (first | apply sS | apply sE | refine w_mv rfl ?_ | apply ai_seq | apply ai_regW)
  have hSt : (S.take m).length = m := by rw [List.length_take]; omega
  have hg2 : (g1.put j ⟨S.map on2 ++ [],true,1⟩).get j = some ⟨(S.take m).map on2 ++ (S.drop m).map on2,true,1⟩ := by
   rw [hput_same,List.append_nil,← List.map_append,List.take_append_drop]
  have hsa := sortA_ok (g1.put j ⟨S.map on2 ++ [],true,1⟩) (c := l.length) hg2 (by omega)
  rw [hSt] at hsa
  refine w_call rfl (hsa.mono ?_)
  rintro _ _ ⟨T,hpT,hsT,rfl⟩
  have hT : T.length = m := hpT.length_eq.trans hSt
  have hTe := two_sorts (zL_pw l 0) hp hs hpT hsT
  have hx2 : Ext h ((g1.put j ⟨S.map on2 ++ [],true,1⟩).put j ⟨T.map on2 ++ (S.drop m).map on2,true,1⟩) := ⟨x1.1,fun k hk => by rw [hput_ne _ _ (by omega),hput_ne _ _ (by omega)]; exact x1.2 k hk⟩
  have hgT : ((g1.put j ⟨S.map on2 ++ [],true,1⟩).put j ⟨T.map on2 ++ (S.drop m).map on2,true,1⟩).get j = some ⟨(rO T).flatten ++ (S.drop m).map on2,true,1⟩ := by rw [hput_same,rO_flat]
  have hnx : j < ((g1.put j ⟨S.map on2 ++ [],true,1⟩).put j ⟨T.map on2 ++ (S.drop m).map on2,true,1⟩).nx := hj2
  generalize ((g1.put j ⟨S.map on2 ++ [],true,1⟩).put j ⟨T.map on2 ++ (S.drop m).map on2,true,1⟩) = g3 at hx2 hgT hnx
  repeat (first | apply sS | apply sE | refine w_mv rfl ?_ | (refine is_okn rfl ?_; refine w_op rfl ?_) | apply ai_seq | apply ai_regW | apply ai_block)
  refine ai_loopE (γ := Nat × Value) (fun e => [(8,e.2),(43,.slice (some ⟨j,0,some 0⟩) m l.length),(44,nI m),(45,nI e.1)])
   (fun e g => GR 1 g3.nx g e.2 (rI ((T.take e.1).map (·.1))) ∧ Ext g3 g ∧ e.1 ≤ m) (fun e => m - e.1) (0,.slice none 0 0)
   leX ⟨.nil _ _ _,Ext.refl _,Nat.zero_le _⟩ ?_
  rintro ⟨i,s8⟩ g4 ⟨r4,x4,hi⟩
  dsimp only at r4 hi
  by_cases him : i < m
  ·obtain ⟨p,hp⟩ : ∃ p,T[i]? = some p := ⟨_,List.getElem?_eq_getElem (by omega)⟩
   have hr : g4.rd j (0 + ((i : Nat) : Int).toNat * 1) 1 = some [on2 p] := by
    rw [Int.toNat_natCast]
    exact rd_row2 ((x4.2 _ hnx).trans hgT) (rO_els T) (by simp [rO,hp])
   repeat (first | apply sS | apply sE | refine w_mv rfl ?_ | (refine is_okn rfl ?_; refine w_op rfl ?_) | (apply is_ld; refine w_ldA rfl ?_) | (apply is_bin; refine w_cT rfl ?_) | (apply is_iad; refine w_iadA rfl ?_) | apply ai_seq | apply ai_regW | refine ai_cT rfl ?_ | apply ai_skip | apply ai_block)
   refine w_bslF rfl rfl rfl rfl rfl fun g5 x5 k5 n5 => ?_
   repeat (first | apply sS)
   refine w_app1 rfl (r4.ext x5) k5 rfl rfl (by decide) (by rw [rI_len,List.length_map,List.length_take]; omega) (by rw [rI_len,List.length_map,List.length_take]; omega) (Nat.le_trans x4.1 x5.1) fun s' g6 r6 y6 _ => ?_
   repeat (first | apply sS | apply sE | refine w_mv rfl ?_ | (apply is_bin; refine w_addA rfl ?_) | apply ai_regW)
   refine ⟨(i + 1,s'),leX,⟨?_,(x4.trans x5).xtr y6 (Nat.le_refl _),by omega⟩,by dsimp only; omega⟩
   have ht : T.take (i + 1) = T.take i ++ [p] := by
    obtain ⟨h1,rfl⟩ := List.getElem?_eq_some_iff.1 hp
    exact List.take_succ_eq_append_getElem h1
   show GR 1 g3.nx g6 s' (rI ((T.take (i + 1)).map (·.1)))
   rw [ht,List.map_append,rI_app]
   exact r6
  ·have e : i = T.length := by omega
   rw [e,List.take_length,hTe] at r4
   repeat (first | apply sS | apply sE | refine w_mv rfl ?_ | (apply is_bin; refine w_cF rfl ?_) | apply ai_seq | apply ai_regW | refine ai_cF rfl ?_ | apply ai_exit | (apply ai_ret; repeat (first | rw [thenQ_r] | rw [blockQ_r] | rw [roundE_r])))
   exact end_one rfl ⟨r4.rr,hx2.trans x4,fun a n c e => Nat.le_trans hx2.1 (r4.new a n c e)⟩
section
section
variable {P : Program} {CT : CTy} {d : Option Nat} {env : Env} {h : Hp} {R : Value → Hp → Prop} {ty : TypeId}
theorem w_fl {op : Op} {v : Value} (e : flatStep P env op ty = some v) (n : R v h) : WI P CT ⟨d,none,.fl op ty⟩ env h R := by
 refine ⟨?_⟩
 unfold wpIn
 simp only [wanted,e]
 exact n
theorem pu_ok {t : TypeId} {dd : TypeDesc} (h : P.underlying t = some dd) {β : Type} (f : TypeDesc → Sem β) : pureSem P (underlying t >>= f) = pureSem P (f dd) := by
 have e : (underlying t >>= f) = Sem.program fun p => Sem.bind (match p.underlying t with | some d => Sem.pure d | none => stuck "no such type") f := rfl
 rw [e]
 simp only [pureSem,h]
 rfl
theorem fl_of {op : Op} {v : Value} (ha : allFlat env op.operands.toList = true) (hv : flat v = true) (e : pureSem P (execOp (fun x => (evA env x).getD undef) ⟨none, op, ty, "", #[], none⟩) = some (.value v)) : flatStep P env op ty = some v := by
 unfold flatStep
 rw [if_pos ha,e]
 simp only [hv,if_true]
theorem ex_val {s : Sem Value} {v : Value} (e : pureSem P s = some v) : pureSem P (s >>= fun x => (pure (Next.value x) : Sem Next)) = some (.value v) := by
 rw [ps_bind,e]
 rfl
theorem cv_IF {src dst : TypeId} {kk : IntKind} {n : Int} (h1 : P.underlying src = some (.int kk)) (h2 : P.underlying dst = some (.float .f64)) : pureSem P (convert src dst (.int kk n)) = some (.float .f64 (FloatKind.f64.nearest n)) := by
 unfold convert
 rw [pu_ok h1,pu_ok h2]
 rfl
theorem w_flIF {src dst : TypeId} {x : Operand} {kk : IntKind} {n : Int} (hx : evF env x = some (.int kk n)) (h1 : P.underlying src = some (.int kk)) (h2 : P.underlying dst = some (.float .f64))
  (r : R (.float .f64 (FloatKind.f64.nearest n)) h) : WI P CT ⟨d,none,.fl (.convert src dst x) ty⟩ env h R := by
 rw [evF_eq] at hx
 refine w_fl (fl_of (by simp [allFlat,Op.operands,hx,flat,flatN]) rfl ?_) r
 have := ex_val (P := P) (cv_IF (n := n) h1 h2)
 simpa only [execOp,hx,Option.getD_some] using this
theorem cv_FI {src dst : TypeId} {b : Nat} {n : Int} (h1 : P.underlying src = some (.float .f64)) (h2 : P.underlying dst = some (.int .i64)) (hn : (FloatKind.f64.decode b).toInt .zero = some n) (hb : IntKind.i64.min ≤ n ∧ n ≤ IntKind.i64.max) : pureSem P (convert src dst (.float .f64 b)) = some (.int .i64 n) := by
 unfold convert
 rw [pu_ok h1,pu_ok h2]
 show pureSem P (Conv.floatToInt .f64 b .i64) = _
 unfold Conv.floatToInt
 simp only [hn,if_pos hb]
 rfl
theorem w_flFI {src dst : TypeId} {x : Operand} {b : Nat} {n : Int} (hx : evF env x = some (.float .f64 b)) (h1 : P.underlying src = some (.float .f64)) (h2 : P.underlying dst = some (.int .i64)) (hn : (FloatKind.f64.decode b).toInt .zero = some n) (hb : IntKind.i64.min ≤ n ∧ n ≤ IntKind.i64.max)
  (r : R (.int .i64 n) h) : WI P CT ⟨d,none,.fl (.convert src dst x) ty⟩ env h R := by
 rw [evF_eq] at hx
 refine w_fl (fl_of (by simp [allFlat,Op.operands,hx,flat,flatN]) rfl ?_) r
 have := ex_val (P := P) (cv_FI h1 h2 hn hb)
 simpa only [execOp,hx,Option.getD_some] using this
theorem w_flGt {t u : TypeId} {x y : Operand} {a b : Nat} (hx : evF env x = some (.float .f64 a)) (hy : evF env y = some (.float .f64 b))
  (r : R (.bool (FloatKind.f64.format.order a b == some .gt)) h) : WI P CT ⟨d,none,.fl (.binOp .gtr t x y u) ty⟩ env h R := by
 rw [evF_eq] at hx hy
 refine w_fl (fl_of (by simp [allFlat,Op.operands,hx,hy,flat,flatN]) rfl ?_) r
 simp only [execOp,hx,hy,Option.getD_some]
 rfl
theorem w_flCx {t1 t2 : TypeId} {x y : Operand} {a b : Nat} (hx : evF env x = some (.float .f64 a)) (hy : evF env y = some (.float .f64 b))
  (r : R (.complex .f64 a b) h) : WI P CT ⟨d,none,.fl (.call ⟨.builtin .complex,#[x,y],#[t1,t2]⟩) ty⟩ env h R := by
 rw [evF_eq] at hx hy
 refine w_fl (fl_of (by simp [allFlat,Op.operands,Call.operands,hx,hy,flat,flatN]) rfl ?_) r
 simp only [execOp,resolve]
 simp [hx,hy]
 rfl
theorem w_flRe {t1 : TypeId} {x : Operand} {a b : Nat} (hx : evF env x = some (.complex .f64 a b))
  (r : R (.float .f64 a) h) : WI P CT ⟨d,none,.fl (.call ⟨.builtin .real,#[x],#[t1]⟩) ty⟩ env h R := by
 rw [evF_eq] at hx
 refine w_fl (fl_of (by simp [allFlat,Op.operands,Call.operands,hx,flat,flatN]) rfl ?_) r
 simp only [execOp,resolve]
 simp [hx]
 rfl
theorem w_flIm {t1 : TypeId} {x : Operand} {a b : Nat} (hx : evF env x = some (.complex .f64 a b))
  (r : R (.float .f64 b) h) : WI P CT ⟨d,none,.fl (.call ⟨.builtin .imag,#[x],#[t1]⟩) ty⟩ env h R := by
 rw [evF_eq] at hx
 refine w_fl (fl_of (by simp [allFlat,Op.operands,Call.operands,hx,flat,flatN]) rfl ?_) r
 simp only [execOp,resolve]
 simp [hx]
 rfl
end
def fb (n : Nat) : Nat := FloatKind.f64.nearest n
theorem fb_all : ((List.range 1001).all fun n => (FloatKind.f64.format.order (fb n) 0 == some .gt) == decide (0 < n) && !(FloatKind.f64.format.order (fb n) 4787326403894837248 == some .gt) && (FloatKind.f64.decode (fb n)).toInt .zero == some (n : Int)) = true := by
 decide +kernel
end
theorem fb_at {n : Nat} (h : n ≤ 1000) : (FloatKind.f64.format.order (fb n) 0 == some .gt) = decide (0 < n) ∧ (FloatKind.f64.format.order (fb n) 4787326403894837248 == some .gt) = false ∧ (FloatKind.f64.decode (fb n)).toInt .zero = some (n : Int) := by
 have := List.all_eq_true.1 fb_all n (List.mem_range.2 (by omega))
 simp only [Bool.and_eq_true,beq_iff_eq,Bool.not_eq_true'] at this
 exact ⟨this.1.1,this.1.2,this.2⟩
theorem fb_0 : fb 0 = 0 := by decide +kernel
def ldV (n : Nat) : Value := .complex .f64 (fb n) 0
theorem ldof_ok (h : Hp) {n : Nat} (hn : n ≤ 1000) : ACall PX 80 [nI n,nI 0] h (fun v g => v = ldV n ∧ h = g) := by
 refine acallA Tryz.func80 c80 ?_
 unfold ir80
 dsimp only [qo,qm,qk,q2,qi,qg,qn,qc,dq,ci,cb,qh,qs]
 repeat (first | apply sS | apply sE | refine w_mv rfl ?_ | refine w_max rfl ?_ | refine w_min rfl ?_ | apply ai_seq | apply ai_regW)
 refine w_flIF rfl Tryz.underlying3 Tryz.underlying190 ?_
 rw [show min (max (n : Int) 0) 1099511627776 = (n : Nat) by omega]
 repeat (first | apply sS | refine w_mv rfl ?_ | refine w_max rfl ?_ | refine w_min rfl ?_)
 refine w_flIF rfl Tryz.underlying3 Tryz.underlying190 ?_
 rw [show min (max (0 : Int) 0) 1099511627776 = ((0 : Nat) : Int) by omega]
 repeat (first | apply sS)
 refine w_flCx rfl rfl ?_
 repeat (first | apply sS | apply sE | refine w_mv rfl ?_ | (apply ai_ret; repeat (first | rw [thenQ_r] | rw [blockQ_r] | rw [roundE_r])))
 exact end_one rfl ⟨by show Value.complex .f64 (fb n) (fb 0) = _; rw [fb_0]; rfl,rfl⟩
theorem whole_ok (h : Hp) {n : Nat} (hn : n ≤ 1000) : ACall PX 152 [.float .f64 (fb n)] h (fun v g => v = nI n ∧ h = g) := by
 obtain ⟨h1,h2,h3⟩ := fb_at hn
 refine acallA Tryz.func152 c152 ?_
 unfold ir152
 dsimp only [qo,qm,qk,q2,qi,qg,qn,qc,dq,ci,cb,qh,qs]
 repeat (first | apply sS | apply sE | refine w_mv rfl ?_ | apply ai_seq | apply ai_regW | apply ai_block)
 refine w_flGt rfl rfl ?_
 rw [h1]
 by_cases h0 : 0 < n
 ·rw [decide_eq_true h0]
  repeat (first | apply sS | apply sE | refine w_mv rfl ?_ | (refine is_okk rfl ?_; refine w_op rfl ?_) | apply ai_seq | apply ai_regW | refine ai_cF rfl ?_)
  refine w_flGt rfl rfl ?_
  rw [h2]
  repeat (first | apply sS | apply sE | refine w_mv rfl ?_ | apply ai_seq | apply ai_regW | refine ai_cF rfl ?_ | apply ai_skip)
  refine w_flFI rfl Tryz.underlying190 Tryz.underlying3 h3 (by unfold IntKind.min IntKind.max; simp [IntKind.bits,IntKind.signed]; omega) ?_
  repeat (first | apply sS | apply sE | refine w_mv rfl ?_ | (apply ai_ret; repeat (first | rw [thenQ_r] | rw [blockQ_r] | rw [roundE_r])))
  exact end_one rfl ⟨rfl,rfl⟩
 ·obtain rfl : n = 0 := by omega
  repeat (first | apply sS | apply sE | refine w_mv rfl ?_ | (refine is_okk rfl ?_; refine w_op rfl ?_) | apply ai_seq | apply ai_regW | refine ai_cT rfl ?_ | (apply ai_ret; repeat (first | rw [thenQ_r] | rw [blockQ_r] | rw [roundE_r])))
  exact end_one rfl ⟨rfl,rfl⟩
theorem lbusy_ok (h : Hp) {n : Nat} (hn : n ≤ 1000) : ACall PX 117 [ldV n] h (fun v g => v = nI n ∧ h = g) := by
 refine acallA Tryz.func117 c117 ?_
 unfold ir117
 dsimp only [qo,qm,qk,q2,qi,qg,qn,qc,dq,ci,cb,qh,qs]
 repeat (first | apply sS | apply sE | refine w_mv rfl ?_ | apply ai_seq | apply ai_regW)
 refine w_flRe rfl ?_
 repeat (first | apply sS | apply sE | refine w_mv rfl ?_ | (refine w_callE ((whole_ok _ hn).mono ?_) rfl rfl; rintro _ _ ⟨rfl,rfl⟩) | (apply ai_ret; repeat (first | rw [thenQ_r] | rw [blockQ_r] | rw [roundE_r])))
 exact end_one rfl ⟨rfl,rfl⟩
theorem lwait_ok (h : Hp) (n : Nat) : ACall PX 153 [ldV n] h (fun v g => v = nI 0 ∧ h = g) := by
 have := @whole_ok
 refine acallA Tryz.func153 c153 ?_
 unfold ir153
 dsimp only [qo,qm,qk,q2,qi,qg,qn,qc,dq,ci,cb,qh,qs]
 repeat (first | apply sS | apply sE | refine w_mv rfl ?_ | apply ai_seq | apply ai_regW)
 refine w_flIm rfl ?_
 repeat (first | apply sS)
 refine w_callE ((fb_0 ▸ @whole_ok _ 0 (by omega)).mono ?_) rfl rfl
 rintro _ _ ⟨rfl,rfl⟩
 repeat (first | apply sS | apply sE | refine w_mv rfl ?_ | (apply ai_ret; repeat (first | rw [thenQ_r] | rw [blockQ_r] | rw [roundE_r])))
 exact end_one rfl ⟨rfl,rfl⟩
theorem lless_ok (h : Hp) {a b : Nat} (ha : a ≤ 1000) (hb : b ≤ 1000) : ACall PX 118 [ldV a,ldV b] h (fun v g => v = .bool (decide (a < b)) ∧ h = g) := by
 refine acallA Tryz.func118 c118 ?_
 unfold ir118
 dsimp only [qo,qm,qk,q2,qi,qg,qn,qc,dq,ci,cb,qh,qs]
 repeat (first | apply sS | apply sE | refine w_mv rfl ?_ | (refine w_callE ((lbusy_ok _ ha).mono ?_) rfl rfl; rintro _ _ ⟨rfl,rfl⟩) | (refine w_callE ((lbusy_ok _ hb).mono ?_) rfl rfl; rintro _ _ ⟨rfl,rfl⟩) | apply ai_seq | apply ai_regW)
 by_cases h0 : a = b
 ·subst h0
  rw [decide_eq_false (by omega)]
  repeat (first | apply sS | apply sE | refine w_mv rfl ?_ | (apply is_bin; refine w_cF rfl ?_) | (refine w_callE ((lwait_ok _ _).mono ?_) rfl rfl; rintro _ _ ⟨rfl,rfl⟩) | apply ai_seq | apply ai_regW | refine ai_cF rfl ?_ | apply ai_skip | (apply ai_ret; repeat (first | rw [thenQ_r] | rw [blockQ_r] | rw [roundE_r])))
  exact end_one rfl ⟨rfl,rfl⟩
 ·by_cases h1 : a < b
  ·rw [decide_eq_true h1]
   repeat (first | apply sS | apply sE | refine w_mv rfl ?_ | (apply is_bin; refine w_cT rfl ?_) | (refine w_callE ((lbusy_ok _ ha).mono ?_) rfl rfl; rintro _ _ ⟨rfl,rfl⟩) | (refine w_callE ((lbusy_ok _ hb).mono ?_) rfl rfl; rintro _ _ ⟨rfl,rfl⟩) | apply ai_seq | apply ai_regW | refine ai_cT rfl ?_ | (apply ai_ret; repeat (first | rw [thenQ_r] | rw [blockQ_r] | rw [roundE_r])))
   exact end_one rfl ⟨rfl,rfl⟩
  ·rw [decide_eq_false h1]
   repeat (first | apply sS | apply sE | refine w_mv rfl ?_ | (apply is_bin; refine w_cT rfl ?_) | (apply is_bin; refine w_cF rfl ?_) | (refine w_callE ((lbusy_ok _ ha).mono ?_) rfl rfl; rintro _ _ ⟨rfl,rfl⟩) | (refine w_callE ((lbusy_ok _ hb).mono ?_) rfl rfl; rintro _ _ ⟨rfl,rfl⟩) | apply ai_seq | apply ai_regW | refine ai_cT rfl ?_ | (apply ai_ret; repeat (first | rw [thenQ_r] | rw [blockQ_r] | rw [roundE_r])))
   exact end_one rfl ⟨rfl,rfl⟩
def rC (l : List Nat) : List (List Value) := l.map fun n => [ldV n]
theorem rC_len (l : List Nat) : (rC l).length = l.length := by simp [rC]
theorem rC_get {l : List Nat} {i : Nat} {a : Nat} (h : l[i]? = some a) : (rC l)[i]? = some [ldV a] := by simp [rC,h]
theorem rC_app (l m : List Nat) : rC (l ++ m) = rC l ++ rC m := by simp [rC]
def lI (l : List Nat) : List Int := l.map fun (n : Nat) => (n : Int)
theorem least_ok (h : Hp) {s : Value} {l : List Nat} (r : RR 1 h s (rC l)) (hl : l.length ≤ 1000000) (hx : ∀ x ∈ l,x ≤ 1000) (limit : Int) : ACall PX 82 [s,nI limit] h (fun v g => v = nI (pickF (lI l) limit) ∧ h = g) := by
 obtain ⟨x,c,e⟩ := r.len
 rw [rC_len] at e
 subst e
 refine acallA Tryz.func82 c82 ?_
 unfold ir82
 dsimp only [qo,qm,qk,q2,qi,qg,qn,qc,dq,ci,cb,qh,qs]
 repeat (first | apply sS | apply sE | refine w_mv rfl ?_ | (refine is_okk rfl ?_; refine w_op rfl ?_) | apply ai_seq | apply ai_regW | apply ai_block)
 refine ai_loopE (γ := Nat × Int) (fun e => [(0,.slice x l.length c),(1,nI limit),(8,.slice x l.length c),(9,nI l.length),(10,nI e.1),(5,nI e.2)])
  (fun e g => g = h ∧ e.1 ≤ l.length ∧ (e.2 = -1 ∧ pickA limit (lI (l.drop e.1)) e.1 (-1) 0 = pickF (lI l) limit ∨ ∃ (k : Nat) (a : Nat),e.2 = k ∧ l[k]? = some a ∧ pickA limit (lI (l.drop e.1)) e.1 k a = pickF (lI l) limit)) (fun e => l.length - e.1) (0,-1) leX ⟨rfl,Nat.zero_le _,.inl ⟨rfl,rfl⟩⟩ ?_
 rintro ⟨i,best⟩ _ ⟨rfl,hi,hb⟩
 dsimp only at hi hb
 by_cases hil : i < l.length
 ·obtain ⟨a,ha⟩ : ∃ a,l[i]? = some a := ⟨_,List.getElem?_eq_getElem hil⟩
  have ha1 := hx a (List.mem_of_getElem? ha)
  have hd : l.drop i = a :: l.drop (i + 1) := by
   obtain ⟨h1,rfl⟩ := List.getElem?_eq_some_iff.1 ha
   exact List.drop_eq_getElem_cons h1
  rw [hd] at hb
  simp only [lI,List.map_cons,pickA] at hb
  obtain ⟨bi,bo,bs,rfl,_,hr⟩ := r.at (rC_get ha)
  repeat (first | apply sS | apply sE | refine w_mv rfl ?_ | (apply is_ld; refine w_ldA rfl ?_) | (apply is_bin; refine w_cT rfl ?_) | (apply is_iad; refine w_iadA rfl ?_) | (refine w_callE ((lbusy_ok _ ha1).mono ?_) rfl rfl; rintro _ _ ⟨rfl,rfl⟩) | apply ai_seq | apply ai_regW | refine ai_cT rfl ?_ | apply ai_skip | apply ai_block)
  by_cases q0 : (a : Int) < limit
  ·rcases hb with ⟨rfl,hb⟩ | ⟨k,b,rfl,hk,hb⟩
   ·rw [if_pos ⟨q0,.inl (by omega)⟩] at hb
    repeat (first | apply sS | apply sE | refine w_mv rfl ?_ | refine w_pickT rfl ?_ | refine w_gT rfl rfl ?_ | refine w_gF rfl rfl ?_ | (apply is_bin; refine w_addA rfl ?_) | (apply is_bin; refine w_cT rfl ?_) | apply ai_regW | refine ai_cT rfl ?_)
    exact ⟨(i + 1,(i : Nat)),leX,⟨rfl,by omega,.inr ⟨i,a,rfl,ha,by simpa [lI] using hb⟩⟩,by dsimp only; omega⟩
   ·have hk1 := (List.getElem?_eq_some_iff.1 hk).1
    have hb1 := hx b (List.mem_of_getElem? hk)
    obtain ⟨bi2,bo2,bs2,e2,_,hr2⟩ := r.at (rC_get hk)
    cases e2
    repeat (first | apply sS | apply sE | refine w_mv rfl ?_ | refine w_pickT rfl ?_ | refine w_pickF rfl ?_ | refine w_gT rfl rfl ?_ | (apply is_ld; refine w_ldA rfl ?_) | (apply is_bin; refine w_cT rfl ?_) | (apply is_bin; refine w_cF rfl ?_) | (apply is_iad; refine w_iadA rfl ?_) | (refine w_callE ((lless_ok _ ha1 hb1).mono ?_) rfl rfl; rintro _ _ ⟨rfl,rfl⟩))
    by_cases q1 : a < b
    ·rw [if_pos ⟨q0,.inr (by omega)⟩] at hb
     rw [decide_eq_true q1]
     repeat (first | apply sS | apply sE | refine w_mv rfl ?_ | (apply is_bin; refine w_addA rfl ?_) | apply ai_regW | refine ai_cT rfl ?_)
     exact ⟨(i + 1,(i : Nat)),leX,⟨rfl,by omega,.inr ⟨i,a,rfl,ha,by simpa [lI] using hb⟩⟩,by dsimp only; omega⟩
    ·rw [if_neg (by omega)] at hb
     rw [decide_eq_false q1]
     repeat (first | apply sS | apply sE | refine w_mv rfl ?_ | (apply is_bin; refine w_addA rfl ?_) | apply ai_regW | refine ai_cF rfl ?_ | apply ai_skip)
     exact ⟨(i + 1,(k : Nat)),leX,⟨rfl,by omega,.inr ⟨k,b,rfl,hk,by simpa [lI] using hb⟩⟩,by dsimp only; omega⟩
  ·have hb2 : (best = -1 ∧ pickA limit (lI (l.drop (i + 1))) ((i + 1 : Nat) : Int) (-1) 0 = pickF (lI l) limit ∨ ∃ (k : Nat) (a : Nat),best = k ∧ l[k]? = some a ∧ pickA limit (lI (l.drop (i + 1))) ((i + 1 : Nat) : Int) k a = pickF (lI l) limit) := by
    rcases hb with ⟨rfl,hb⟩ | ⟨k,b,rfl,hk,hb⟩
    ·rw [if_neg (by omega)] at hb
     exact .inl ⟨rfl,by simpa [lI] using hb⟩
    ·rw [if_neg (by omega)] at hb
     exact .inr ⟨k,b,rfl,hk,by simpa [lI] using hb⟩
   repeat (first | apply sS | apply sE | refine w_mv rfl ?_ | refine w_pickF rfl ?_ | refine w_gF rfl rfl ?_ | refine w_gU rfl ?_ | (apply is_bin; refine w_addA rfl ?_) | (apply is_bin; refine w_cF rfl ?_) | apply ai_regW | refine ai_cF rfl ?_ | apply ai_skip)
   exact ⟨(i + 1,best),leX,⟨rfl,by omega,hb2⟩,by dsimp only; omega⟩
 ·have e : i = l.length := by omega
  subst e
  have hb2 : best = pickF (lI l) limit := by
   rw [List.drop_length] at hb
   rcases hb with ⟨rfl,hb⟩ | ⟨k,b,rfl,hk,hb⟩
   ·simpa [pickA,lI] using hb
   ·simpa [pickA,lI] using hb
  rw [← hb2]
  repeat (first | apply sS | apply sE | refine w_mv rfl ?_ | (apply is_bin; refine w_cF rfl ?_) | apply ai_seq | apply ai_regW | refine ai_cF rfl ?_ | apply ai_exit | (apply ai_ret; repeat (first | rw [thenQ_r] | rw [blockQ_r] | rw [roundE_r])))
  exact end_one rfl ⟨rfl,rfl⟩
theorem q_exit {γ : Type} {P : Program} {n id k : Nat} {b : IC} {Q : Exit → Env → Hp → Prop} {E : γ → Env} {H : γ → Hp → Prop} {mu : γ → Nat} {env : Env} {h : Hp} (q : Q .normal env h) : thenQ P n b (roundE E H mu k (blockQ id Q)) (.exit id) env h := by
 show (if id = id then Q .normal env h else Q (.exit id) env h)
 rw [if_pos rfl]
 exact q
theorem rI_flat : ∀ l : List Int,(rI l).flatten = l.map nI
 | [] => rfl
 | a :: l => by
  have := rI_flat l
  simp [rI] at this ⊢
  exact this
theorem Ow.gr {N : Nat} {h : Hp} {s : Value} {l : List Int} (a : Ow N h s (l.map nI)) : GR 1 N h s (rI l) := by
 have e := rI_flat l
 rcases a with ⟨h1,h2⟩ | ⟨i,h1,h2,h3,h4,h5,h6⟩
 ·exact .inl ⟨h1,by rw [List.map_eq_nil_iff] at h2; rw [h2]; rfl⟩
 ·refine .inr ⟨i,h1,h2,?_,by rw [e]; exact h4,?_,rI_els l⟩
  ·rw [rI_len]; simpa using h3
  ·intro hn; apply h5; rw [← e,hn]; rfl
theorem qu_tn {T : Tg} {h g : Hp} {q j : Nat} {depth put depth' put' : Int} {l l' : List (Int × Int)} (_ : Tw T h) (a : QA h q j depth put l) (t1 : T q = 2) (t2 : T j = 2) {j' : Nat} (b : QA g q j' depth' put' l') (m : Mod q j h g) (hj : j' = j ∨ h.nx ≤ j') : QuT g (tg T h g 2) q depth' put' l' ∧ Tn [2] T h (tg T h g 2) g := by
 have x : Tn [2] T h (tg T h g 2) g := .of_fr ⟨m.1,fun k hk hn => m.2 k hk (fun e => hn (e ▸ t1)) fun e => hn (e ▸ t2)⟩
 refine ⟨⟨j',b,(x.ex q a.ql).trans t1,?_⟩,x⟩
 rcases hj with rfl | hj
 ·exact (x.ex j' a.jl).trans t2
 ·unfold tg
  rw [if_neg (by omega),if_pos b.jl]
def bN (ps : List Pd) (id : Int) : Nat := (busyF ps id).toNat
theorem busyF_bd {ps : List Pd} (h : ∀ p ∈ ps,0 ≤ p.2.2.1 ∧ p.2.2.1 ≤ 1000) (id : Int) : 0 ≤ busyF ps id ∧ busyF ps id ≤ 1000 := by
 unfold busyF
 rw [List.getD_eq_getElem?_getD]
 cases e : ps[fI ps id]? with
 | none => simp
 | some p => exact h p (List.mem_of_getElem? e)
theorem rF_le_c : ∀ l : List Pd,(rF l).length ≤ cF l
 | [] => by simp [rF,cF]
 | p :: l => by
  have ih := rF_le_c l
  simp only [rF,cF,List.length_map] at ih ⊢
  rw [List.filter_cons,List.filter_cons]
  by_cases h2 : p.2.1 = 2
  ·rw [if_pos (by simpa using h2),if_pos (by simp [h2])]
   simp only [List.length_cons]; omega
  ·rw [if_neg (by simpa using h2)]
   split
   ·simp only [List.length_cons]; omega
   ·exact ih
theorem idsF_len (c : Cf20) (proxy : Bool) (ps : List Pd) : (idsF c proxy ps).length ≤ cF ps := by
 refine Nat.le_trans ?_ (rF_le_c ps)
 unfold idsF
 cases proxy
 ·exact Nat.le_refl _
 ·show (subF (rF ps) c.subset).length ≤ _
  unfold subF
  split
  ·exact Nat.le_refl _
  ·rw [List.length_map]
   refine Nat.le_trans (List.length_filter_le _ _) ?_
   rw [zL_len]
   exact Nat.le_refl _
set_option maxHeartbeats 4000000 in
theorem sent_ok {T0 : Tg} {g0 : Hp} {s P L q D : Nat} {rs ts : Value} {st0 : Sy} (a0 : SyG g0 T0 s P L q D rs ts st0) (i0 : SyI st0) (hb0 : st0.r.length ≤ 800000) :
  ACall PX 55 [ptr s] g0 (fun _ h => ∃ T',SyG h T' s P L q D rs ts (sySent st0) ∧ Tn [1,2,3] T0 g0 T' h) := by
 refine acallA Tryz.func55 c55 ?_
 unfold ir55
 dsimp only [qo,qm,qk,q2,qi,qg,qn,qc,dq,ci,cb,qh,qs]
 refine ai_block ?_
 refine ai_loopE (γ := Tg × Sy) (fun _ => [(0,ptr s)]) (fun e g => SyG g e.1 s P L q D rs ts e.2 ∧ SyI e.2 ∧ e.2.r.length ≤ 800000 ∧ Tn [1,2,3] T0 g0 e.1 g ∧ sySent e.2 = sySent st0) (fun e => e.2.q.length) (T0,st0) leX ⟨a0,i0,hb0,.refl a0.w,rfl⟩ ?_
 rintro ⟨T,st⟩ g ⟨a,i,hb,x0,hS⟩
 dsimp only at a i hb x0 hS
 have hlen := i.len hb
 obtain ⟨jq,qa,tq1,tq2⟩ := a.qu
 have hql := i.ql
 repeat (first | apply sS | refine w_mv rfl ?_ | (refine w_callE ((waits_ok a).mono ?_) rfl rfl; rintro _ _ ⟨rfl,rfl⟩) | apply ai_seq | apply ai_regW)
 refine w_call rfl ((all_ok g qa (by omega)).mono ?_)
 rintro v g1 ⟨x1,ow1⟩
 have a1 := a.ext x1
 have hlv : ∃ x c,v = .slice x st.q.length c := by
  rcases ow1 with ⟨rfl,e⟩ | ⟨_,_,_,rfl,_⟩
  ·exact ⟨none,0,by rw [List.map_eq_nil_iff] at e; rw [e]; rfl⟩
  ·exact ⟨_,_,by rw [List.length_map]⟩
 obtain ⟨xv,cv,rfl⟩ := hlv
 by_cases hq0 : st.q = []
 ·rw [hq0]
  repeat (first | apply sS | apply sE | (refine is_okn rfl ?_; refine w_op rfl ?_) | (apply is_bin; refine w_cF rfl ?_) | refine ai_cF rfl ?_ | apply ai_exit)
  rw [← hS,sySent_nil hq0]
  refine q_exit (end_zeroN ?_)
  exact ⟨T,a1,x0.trans (.of_ext a.w x1)⟩
 obtain ⟨w,qr,hq⟩ : ∃ w qr,st.q = w :: qr := by
  cases h : st.q with
  | nil => exact absurd h hq0
  | cons w qr => exact ⟨w,qr,rfl⟩
 have hqp : 0 < st.q.length := by rw [hq]; simp
 obtain ⟨S1,lf1,ht1⟩ := a1.lf
 repeat (first | apply sS | apply sE | refine w_mv rfl ?_ | (refine is_okn rfl ?_; refine w_op rfl ?_) | (apply is_bin; refine w_cT rfl ?_) | (refine w_callE ((pods_ok a1).mono ?_) rfl rfl; rintro _ _ ⟨rfl,rfl⟩) | apply ai_seq | apply ai_regW | refine ai_cT rfl ?_ | apply ai_skip | apply ai_block)
 refine w_call rfl ((ready_lf g1 lf1 hlen).mono ?_)
 rintro v2 g2 ⟨ow2,x2⟩
 have a2 := a1.ext x2
 have r2 := ow2.gr.rr
 have nw2 : New g1.nx v2 := ow2.gr.new
 have hsg2 := a2.sg
 repeat (first | apply sS | apply sE | refine w_mv rfl ?_)
 refine ai_join (γ := Value) (fun v => [(0,ptr s),(2,v)]) (fun v g => Ext g2 g ∧ RR 1 g v (rI (idsF st.c st.proxy st.ps)) ∧ New g1.nx v) ?_ ?_
 ·unfold idsF
  obtain ⟨px,hpx⟩ : ∃ px,st.proxy = px := ⟨_,rfl⟩
  have hrl : (rF st.ps).length ≤ 1000 := by
   have h1 := rF_le_c st.ps
   have h2 := i.cf
   omega
  simp only [syV,hpx] at hsg2
  rw [hpx]
  cases px
  ·rw [if_neg (by decide)]
   repeat (first | apply sS | apply sE | refine w_mv rfl ?_ | (refine is_okn rfl ?_; refine w_op rfl ?_) | (apply is_ld; refine w_ldA rfl ?_) | apply ai_seq | apply ai_regW | refine ai_cF rfl ?_ | apply ai_skip)
   exact ⟨rfl,v2,leX,Ext.refl _,r2,nw2⟩
  ·rw [if_pos rfl]
   repeat (first | apply sS | apply sE | refine w_mv rfl ?_ | (refine is_okn rfl ?_; refine w_op rfl ?_) | (apply is_ld; refine w_ldA rfl ?_) | apply ai_seq | apply ai_regW | refine ai_cT rfl ?_)
   refine w_call rfl ((of_ok g2 r2 hrl).mono ?_)
   rintro v3 g3 ⟨r3,x3,nw3⟩
   repeat (first | apply sS | apply sE | refine w_mv rfl ?_)
   exact ⟨rfl,v3,leX,x3,r3,fun a n c e => Nat.le_trans x2.1 (nw3 a n c e)⟩
 rintro v3 g3 ⟨x3,r3,nw3⟩
 have a3 := a2.ext x3
 obtain ⟨xi,ci,e⟩ := r3.len
 rw [rI_len] at e
 subst e
 have hbz : ∀ p ∈ st.ps,0 ≤ p.2.2.1 ∧ p.2.2.1 ≤ 1000 := fun p hp => ⟨(i.ct.each p hp).2.2.1,(i.bz p hp).1⟩
 have hidl : (idsF st.c st.proxy st.ps).length ≤ 1000000 := by
  have h1 := idsF_len st.c st.proxy st.ps
  have h2 := i.cf
  omega
 generalize hids : idsF st.c st.proxy st.ps = ids at *
 repeat (first | apply sS | apply sE | refine w_mv rfl ?_ | (refine is_okn rfl ?_; refine w_op rfl ?_) | apply ai_seq | apply ai_regW | apply ai_block)
 refine ai_loopE (γ := Nat × Value) (fun e => [(0,ptr s),(2,.slice xi ids.length ci),(28,.slice xi ids.length ci),(29,nI ids.length),(30,nI e.1),(3,e.2)])
  (fun e h => GR 1 g3.nx h e.2 (rC ((ids.take e.1).map (bN st.ps))) ∧ Ext g3 h ∧ e.1 ≤ ids.length) (fun e => ids.length - e.1) (0,.slice none 0 0) leX ⟨.nil _ _ _,Ext.refl _,Nat.zero_le _⟩ ?_
 rintro ⟨m,lv⟩ g4 ⟨r4,x4,hm⟩
 dsimp only at r4 hm ⊢
 have a4 := a3.ext x4
 by_cases hml : m < ids.length
 ·obtain ⟨id,hid⟩ : ∃ id,ids[m]? = some id := ⟨_,List.getElem?_eq_getElem hml⟩
  obtain ⟨bi,bo,bs,rfl,_,hr⟩ := (r3.ext x4).at (rI_get hid)
  have hbd := busyF_bd hbz id
  have hbn : busyF st.ps id = ((bN st.ps id : Nat) : Int) := by unfold bN; omega
  have hbl : bN st.ps id ≤ 1000 := by omega
  repeat (first | apply sS | apply sE | refine w_mv rfl ?_ | (apply is_ld; refine w_ldA rfl ?_) | (apply is_bin; refine w_cT rfl ?_) | (apply is_iad; refine w_iadA rfl ?_) | apply ai_seq | apply ai_regW | refine ai_cT rfl ?_ | apply ai_skip | apply ai_block)
  refine w_call rfl ((busy_ok a4 hlen id).mono ?_)
  rintro _ g5 ⟨rfl,x5⟩
  rw [hbn]
  repeat (first | apply sS | (refine w_callE ((ldof_ok _ hbl).mono ?_) rfl rfl; rintro _ _ ⟨rfl,rfl⟩))
  refine w_bslF rfl rfl rfl rfl rfl fun g6 x6 k6 n6 => ?_
  have hcl : (rC ((ids.take m).map (bN st.ps))).length ≤ 1000000 := by
   rw [rC_len,List.length_map,List.length_take]; omega
  repeat (first | apply sS)
  refine w_app1 rfl ((r4.ext x5).ext x6) k6 rfl rfl (by decide) (by omega) (by omega) (Nat.le_trans (x4.trans x5).1 x6.1) fun s' g7 r7 y7 _ => ?_
  repeat (first | apply sS | apply sE | refine w_mv rfl ?_ | (apply is_bin; refine w_addA rfl ?_) | apply ai_regW)
  refine ⟨(m + 1,s'),leX,⟨?_,((x4.trans x5).trans x6).xtr y7 (Nat.le_refl _),by dsimp only; omega⟩,by dsimp only; omega⟩
  dsimp only
  obtain ⟨h1,rfl⟩ := List.getElem?_eq_some_iff.1 hid
  rw [List.take_succ_eq_append_getElem h1,List.map_append,rC_app]
  exact r7
 ·obtain rfl : m = ids.length := by omega
  rw [List.take_length] at r4
  have hpk : pickF (lI (ids.map (bN st.ps))) st.c.limit = pickK st := by
   unfold pickK
   rw [hids]
   congr 1
   unfold lI
   rw [List.map_map]
   refine List.map_congr_left fun id _ => ?_
   have hbd := busyF_bd hbz id
   show ((bN st.ps id : Nat) : Int) = _
   unfold bN; omega
  have hsg4 := a4.sg
  repeat (first | apply sS | apply sE | refine w_mv rfl ?_ | (refine is_okn rfl ?_; refine w_op rfl ?_) | (apply is_ld; refine w_ldA rfl ?_) | (apply is_bin; refine w_cF rfl ?_) | apply ai_seq | apply ai_regW | refine ai_cF rfl ?_ | apply ai_exit)
  refine w_call rfl ((least_ok g4 r4.rr (by rw [List.length_map]; omega) (fun x hx => by
   obtain ⟨id,_,rfl⟩ := List.mem_map.1 hx
   have hbd := busyF_bd hbz id
   unfold bN; omega) st.c.limit).mono ?_)
  rintro _ _ ⟨rfl,rfl⟩
  rw [hpk]
  by_cases hpn : pickK st < 0
  ·repeat (first | apply sS | apply sE | refine w_mv rfl ?_ | (apply is_bin; refine w_cT rfl ?_) | apply ai_seq | apply ai_regW | refine ai_cT rfl ?_ | (apply ai_ret; repeat (first | rw [thenQ_r] | rw [blockQ_r] | rw [roundE_r])))
   rw [← hS,sySent_no hpn]
   exact end_zero ⟨T,a4,x0.trans (.of_ext a.w (((x1.trans x2).trans x3).trans x4))⟩
  ·obtain ⟨j,k,p,e1,e2,e3,e4,e5,e6⟩ := pick_at i.ct hpn
   rw [hids] at e2
   have hjl := (List.getElem?_eq_some_iff.1 e2).1
   have hid : (idsF st.c st.proxy st.ps).getD (pickK st).toNat 0 = p.1 := by
    rw [e1,Int.toNat_natCast,List.getD_eq_getElem?_getD,hids,e2]
    rfl
   rw [e1]
   have x04 := (((x1.trans x2).trans x3).trans x4)
   obtain ⟨jq4,qa4,tq41,tq42⟩ := a4.qu
   rw [hq] at qa4
   have hw := i.qi w (by rw [hq]; simp)
   obtain ⟨n,hn⟩ : ∃ n : Nat,w.1 = n := ⟨w.1.toNat,by omega⟩
   obtain ⟨y,hy⟩ : ∃ y,st.r[n]? = some y := ⟨_,List.getElem?_eq_getElem (by omega)⟩
   obtain ⟨bi,bo,bs,e,hbl,hr0⟩ := (r3.ext x4).at (rI_get e2)
   cases e
   have hbN := nw3 _ _ _ rfl
   have hT0 : T bi = 0 := a.w bi (Nat.le_trans x1.1 hbN)
   repeat (first | apply sS | apply sE | refine w_mv rfl ?_ | (apply is_bin; refine w_cF rfl ?_) | (refine w_callE ((waits_ok a4).mono ?_) rfl rfl; rintro _ _ ⟨rfl,rfl⟩) | apply ai_seq | apply ai_regW | refine ai_cF rfl ?_ | apply ai_skip)
   refine w_call rfl ((take_ok g4 qa4).mono ?_)
   rintro _ g5 ⟨rfl,qa5,md5⟩
   obtain ⟨qt5,x5⟩ := qu_tn (T := T) a4.w qa4 tq41 tq42 qa5 md5 (.inl rfl)
   have a5 := a4.queue x5 qt5
   have hgb5 := x5.fr bi hbl (by rw [hT0]; decide)
   rw [hn]
   repeat (first | apply sS | apply sE | refine w_mv rfl ?_ | refine w_ext rfl rfl ?_ | apply ai_seq | apply ai_regW)
   refine w_call rfl ((stand_ok a5 (k := n) (x := y) hy 2).mono ?_)
   rintro _ g6 ⟨a6,x6⟩
   have hbl5 := Nat.lt_of_lt_of_le hbl x5.nx
   have hT5 : tg T g4 g5 2 bi = 0 := (x5.ex bi hbl).trans hT0
   have hgb6 := (x6.fr bi hbl5 (by rw [hT5]; decide)).trans hgb5
   have hr6 : g6.rd bi (bo + j * 1) 1 = some [nI p.1] := by
    unfold Hp.rd at hr0 ⊢
    rw [hgb6]
    exact hr0
   have hy6 : (setR st.r n fun x => (x.1,st.now,2,x.2.2.2))[n]? = some (y.1,st.now,2,y.2.2.2) := by
    unfold setR
    rw [List.getElem?_set_self (by omega),getD_r hy]
   obtain ⟨ri,er,hri,htr,hgr⟩ := a6.rq.row hy6
   have hsg6 := a6.sg
   have hlr : (setR st.r n fun x => (x.1,st.now,2,x.2.2.2)).length = st.r.length := setR_len _ _ _
   have hfl : (rQ (setR st.r n fun x => (x.1,st.now,2,x.2.2.2))).flatten.length = st.r.length * 4 := by rw [(rQ_els _).len,rQ_len,hlr]
   dsimp only at hgr er
   subst er
   simp only [hlr] at hsg6
   repeat (first | apply dS | apply dSn | apply sE | refine w_mv rfl ?_ | (refine is_okn rfl ?_; refine w_op rfl ?_) | (apply is_ld; refine w_ldA rfl ?_) | (apply is_iad; refine w_iadA rfl ?_) | apply ai_seq | refine ai_drwW (by kernel_rfl) ?_)
   refine w_st1 rfl rfl hgr (by simp only [Int.toNat_natCast]; omega) rfl fun g7 m7 k7 n7 => ?_
   have hk7 : g7.get ri = some ⟨(rQ ((setR st.r n fun x => (x.1,st.now,2,x.2.2.2)).set n (y.1,st.now,2,p.1))).flatten,true,4⟩ := by
    rw [k7]
    simp only [Int.toNat_natCast,Nat.zero_add]
    rw [(rQ_els _).set (rQ_get hy6) (f := 3) (by decide)]
    congr 2
    exact congrArg List.flatten (rQ_set _ n (y.1,st.now,2,p.1))
   obtain ⟨a7,x7⟩ := rq_upd a6 hy6 rfl hri htr m7 n7 (y.1,st.now,2,p.1) hk7
   have hri0 : bi ≠ ri := fun e => by rw [e,htr] at hT5; exact absurd hT5 (by decide)
   have hr7 : g7.rd bi (bo + j * 1) 1 = some [nI p.1] := by
    unfold Hp.rd at hr6 ⊢
    rw [m7 _ hri0]
    exact hr6
   repeat (first | apply dS | apply dSR | apply dE | (apply is_ag; refine agSA ?_) | refine w_mv rfl ?_ | (apply is_ld; refine w_ldA rfl ?_) | (apply is_iad; refine w_iadA rfl ?_) | (refine w_callE ((pods_ok a7).mono ?_) rfl rfl; rintro _ _ ⟨rfl,rfl⟩) | refine ai_drwW (by kernel_rfl) ?_)
   obtain ⟨S7,lf7,ht7⟩ := a7.lf
   skip
   refine w_call rfl ((enter_lf g7 lf7 (by dsimp only; exact hlen) (fun p' hp' => by have := hbz p' hp'; omega)).mono ?_)
   rintro _ g8 ⟨rfl,lf8,fr8⟩
   obtain ⟨lt8,x8⟩ := lf_tn a7.w lf7 ht7 lf8 (fun k hk => .inl hk) fr8
   have a8 := a7.life x8 lt8
   have hsn : sentS st w qr = { st with q := qr,ps := (enF st.ps p.1).1,r := (setR st.r n fun x => (x.1,st.now,2,x.2.2.2)).set n (y.1,st.now,2,p.1) } := by
    unfold sentS
    rw [hid,hn,Int.toNat_natCast]
    unfold setR
    rw [List.set_set,getD_r hy]
   rw [← hsn] at a8
   repeat (first | apply dE)
   refine ⟨(_,sentS st w qr),leX,⟨a8,i.sent1 hq hpn,?_,?_,by rw [← hS,sySent_yes hq hpn]⟩,?_⟩
   ·dsimp only
    rw [hsn]
    simp only [List.length_set]
    omega
   ·exact x0.trans ((((Tn.of_ext (I := [1,2,3]) a.w x04).trans (x5.mono (by decide))).trans ((x6.mono (by decide)).trans (x7.mono (by decide)))).trans (x8.mono (by decide)))
   ·dsimp only
    rw [hsn,hq]
    simp
section
section
variable {P : Program} {CT : CTy} {env : Env} {h : Hp} {d : Option Nat} {xs : List Operand} {R : Value → Hp → Prop}
theorem w_app1N {N k bytes : Nat} {t : TypeId} {s : Value} {us : List (List Value)} {u : List Value} {q m : Nat} {b : Bool} (e : mapF env xs = some [s,.slice (some ⟨q,0,none⟩) 1 1]) (r : GR k N h s us) (hq : h.get q = some ⟨u,b,m⟩) (hu : u.length = k) (ho : u.all one = true) (hk : 0 < k)
  (hb : (us.length + 1) * bytes ≤ 140737488355328) (hl : us.length + 1 ≤ 140737488355328)
  (n : ∀ s' g,GR k h.nx g s' (us ++ [u]) → h.nx ≤ g.nx → Xo s h g → R s' g) : WI P CT ⟨d,none,.op (.app t k bytes) xs⟩ env h R := by
 have hrd : rdS h (some ⟨q,0,none⟩) (1 * k) = some u := by
  simp only [rdS,Nat.one_mul]
  rw [if_neg (by omega)]
  simp only [Option.getD_none,if_true]
  exact rd_all hq hu
 have key : ∃ s' g,stepK (.app t k bytes) [s,.slice (some ⟨q,0,none⟩) 1 1] h = some (s',g) ∧ GR k h.nx g s' (us ++ [u]) ∧ h.nx ≤ g.nx ∧ Xo s h g := by
  rcases r with ⟨rfl,rfl⟩ | ⟨i,h1,h2,rfl,h4,h5,h6⟩
  ·refine ⟨.slice (some ⟨h.nx,0,some 0⟩) 1 1,h.new ⟨u,true,k⟩,?_,.inr ⟨h.nx,Nat.le_refl _,by simp [Hp.new],rfl,by simp [Hp.new],by simp,Els.one hu ho⟩,(Ext.new _ _).1,fun j hj _ => (Ext.new h _).2 j hj⟩
   simp only [stepK,hrd,appA]
   simp only [List.length_nil,Nat.zero_add] at hb hl
   rw [if_pos ⟨by omega,ho,hk,by simpa using hb,by omega⟩]
   simp
  ·have hn0 : us.length ≠ 0 := fun hz => h5 (List.eq_nil_of_length_eq_zero hz)
   have hold : h.rd i 0 (us.length * k) = some us.flatten := rd_all h4 h6.len
   refine ⟨.slice (some ⟨h.nx,0,some 0⟩) (us.length + 1) (us.length + 1),(h.del i).new ⟨us.flatten ++ u,true,k⟩,?_,.inr ⟨h.nx,Nat.le_refl _,by simp [Hp.new,Hp.del],by simp,by simp [Hp.new,Hp.del],by simp,h6.app (Els.one hu ho)⟩,by simp [Hp.new,Hp.del],fun j hj hne => ?_⟩
   ·simp only [stepK,hrd,appA]
    rw [if_pos ⟨by omega,ho,hk,hb,hl⟩]
    simp only [Nat.one_ne_zero,if_false,show ¬ (us.length + 1 ≤ us.length) by omega,if_neg hn0,hold,h4]
    rw [if_pos ⟨trivial,trivial,by rw [h6.len]; omega,Nat.le_refl _,h6.all⟩]
   ·have e1 : ¬ j = h.nx := by omega
    have e2 : ¬ j = i := hne _ _ _ rfl
    simp [Hp.new,Hp.del,e1,e2]
 obtain ⟨s',g,hs,h1,h2,h3⟩ := key
 exact w_op (v := s') (h' := g) (by unfold opF; rw [e]; exact hs) (n s' g h1 h2 h3)
end
section
variable {g g1 g2 : Hp} {T : Tg} {s P L q D : Nat} {rs ts s' : Value} {st : Sy}
theorem rq_push (a : SyG g T s P L q D rs ts st) {y : Rq} (r1 : GR 4 g.nx g1 s' (rQ st.r ++ [p4 y])) (nx : g.nx ≤ g1.nx) (xo : Xo rs g g1) (m2 : ∀ k,k ≠ s → g2.get k = g1.get k) (n2 : g2.nx = g1.nx) (k2 : g2.get s = some ⟨syV st P s' ts,true,0⟩) :
  SyG g2 (tg T g g1 3) s P L q D s' ts { st with r := st.r ++ [y] } ∧ Tn [3,10] T g (tg T g g1 3) g2 := by
 have hrs : ∀ k,k < g.nx → T k ≠ 3 → g1.get k = g.get k := fun k hk ht => xo k hk fun a' n c e he => ht (by rw [he]; exact a.rq.2 _ _ _ e)
 have x : Tn [3,10] T g (tg T g g1 3) g2 := by
  refine ⟨by omega,fun k hk hn => ?_,fun k hk => by unfold tg; rw [if_pos hk],fun k hk => by unfold tg; rw [if_neg (by omega),if_neg (by omega)],fun k hk => ?_⟩
  ·have h3 : T k ≠ 3 := fun e => hn (by simp [e])
   have h10 : T k ≠ 10 := fun e => hn (by simp [e])
   exact (m2 k fun e => h10 (by rw [e]; exact a.ts_)).trans (hrs k hk h3)
  ·unfold tg
   rw [if_neg (by omega)]
   split
   ·exact .inr (by simp)
   ·exact .inl rfl
 refine ⟨⟨x.w,Nat.lt_of_lt_of_le a.sl x.nx,(x.ex _ a.sl).trans a.ts_,k2,Nat.lt_of_lt_of_le a.pl x.nx,(x.ex _ a.pl).trans a.tp,(m2 _ a.ne).trans ((hrs P a.pl (by rw [a.tp]; decide)).trans a.pg),a.ne,
  a.lf.tr x (by decide),a.qu.tr x (by decide),a.dd.tr x (by decide),⟨?_,?_⟩,a.tr.tr x (by decide)⟩,x⟩
 ·rw [rQ_app]
  rcases r1 with ⟨_,e⟩ | ⟨i,h1,h2,rfl,hg,h4,h5⟩
  ·exact absurd e (by simp)
  ·have his : i ≠ s := by have := a.sl; omega
   exact .inr ⟨i,Nat.zero_le _,by omega,rfl,(m2 i his).trans hg,h4,h5⟩
 ·intro b n c e
  have hb := (r1.blk e).1
  have hb2 := (r1.blk e).2
  unfold tg
  rw [if_neg (by omega),if_pos (by omega)]
end
def arrS (st : Sy) : Sy := { st with q := st.q ++ [((st.r.length : Int),st.now)],put := st.now,r := st.r ++ [(st.now,st.now,1,-1)] }
def refS (st : Sy) : Sy := { st with r := st.r ++ [(st.now,st.now,5,-1)] }
theorem syArrive_eq (st : Sy) : syArrive st = if (st.q.length : Int) < st.depth then sySent (arrS st) else sySent (refS st) := rfl
theorem SyI.arr {st : Sy} (i : SyI st) (h : (st.q.length : Int) < st.depth) : SyI (arrS st) := by
 have h1 := i.sum
 have h2 := i.qd
 have h3 := i.now
 unfold arrS
 refine ⟨i.c,i.now,i.ct,i.made,i.cf,i.bz,by simp only [List.length_append,List.length_singleton]; omega,by simp only [List.length_append,List.length_singleton]; omega,i.qd,Int.le_refl _,fun w hw => ?_,fun x hx => ?_,i.dd,i.lost,i.since,i.trl⟩
 ·simp only [List.length_append,List.length_singleton]
  rcases List.mem_append.1 hw with hw | hw
  ·have := i.qi w hw
   omega
  ·rw [List.mem_singleton] at hw
   subst hw
   dsimp only
   omega
 ·rcases List.mem_append.1 hx with hx | hx
  ·exact i.rs x hx
  ·rw [List.mem_singleton] at hx
   subst hx
   dsimp only
   omega
theorem SyI.ref {st : Sy} (i : SyI st) : SyI (refS st) := by
 have h1 := i.sum
 unfold refS
 refine ⟨i.c,i.now,i.ct,i.made,i.cf,i.bz,by simp only [List.length_append,List.length_singleton]; omega,i.ql,i.qd,i.qp,fun w hw => ?_,fun x hx => ?_,i.dd,i.lost,i.since,i.trl⟩
 ·have := i.qi w hw
  simp only [List.length_append,List.length_singleton]
  omega
 ·rcases List.mem_append.1 hx with hx | hx
  ·exact i.rs x hx
  ·rw [List.mem_singleton] at hx
   subst hx
   dsimp only
   omega
theorem SyI.arrive {st : Sy} (i : SyI st) : SyI (syArrive st) := by
 rw [syArrive_eq]
 split
 ·next h => exact (i.arr h).sent
 ·exact i.ref.sent
set_option maxHeartbeats 2000000 in
theorem arrive_ok {T : Tg} {g : Hp} {s P L q D : Nat} {rs ts : Value} {st : Sy} (a : SyG g T s P L q D rs ts st) (i : SyI st) (hb : st.r.length ≤ 799999) :
  ACall PX 29 [ptr s] g (fun _ h => ∃ T' rs',SyG h T' s P L q D rs' ts (syArrive st) ∧ Tn [1,2,3,10] T g T' h) := by
 have hsg := a.sg
 obtain ⟨ra,hta⟩ := a.rq
 obtain ⟨x,c,e⟩ := ra.len
 rw [rQ_len] at e
 subst e
 refine acallA Tryz.func29 c29 ?_
 unfold ir29
 dsimp only [qo,qm,qk,q2,qi,qg,qn,qc,dq,ci,cb,qh,qs]
 repeat (first | apply sS | apply dS | apply dSR | apply sE | refine w_mv rfl ?_ | refine w_bldF rfl rfl rfl rfl rfl ?_ | (refine is_okn rfl ?_; refine w_op rfl ?_) | (apply is_ld; refine w_ldA rfl ?_) | apply ai_seq | apply ai_regW | refine ai_drwW (by kernel_rfl) ?_)
 refine w_bslF rfl rfl rfl rfl rfl fun g1 x1 k1 n1 => ?_
 have a1 := a.ext x1
 have hsg1 := a1.sg
 repeat (first | apply dS | (apply is_ag; refine agSA ?_))
 refine w_app1N rfl a1.rq.1 k1 rfl rfl (by decide) (by rw [rQ_len]; omega) (by rw [rQ_len]; omega) fun s' g2 r2 n2 xo2 => ?_
 have hs2 : g2.get s = some ⟨syV st P _ ts,true,0⟩ := (xo2 s a1.sl fun b n c e he => by have := a1.rq.2 _ _ _ e; rw [← he,a1.ts_] at this; exact absurd this (by decide)).trans hsg1
 repeat (first | apply dS | apply dSn | (refine is_okn rfl ?_; refine w_op rfl ?_))
 obtain ⟨x',c',rfl⟩ := r2.len
 refine w_st1 rfl rfl hs2 (by show 22 < 34; decide) rfl fun g3 m3 k3 n3 => ?_
 replace k3 : g3.get s = some ⟨syV st P _ ts,true,0⟩ := k3
 obtain ⟨a3,x3⟩ := rq_push a1 (y := (st.now,st.now,1,-1)) r2 n2 xo2 m3 n3 k3
 have x03 : Tn [1,2,3,10] T g _ g3 := (Tn.of_ext (I := [1,2,3,10]) a.w x1).trans (x3.mono (by decide))
 repeat (first | apply dS | apply dSR | apply dE | (apply is_ag; refine agSA ?_) | refine w_mv rfl ?_ | (refine is_okn rfl ?_; refine w_op rfl ?_) | (apply is_ld; refine w_ldA rfl ?_) | (refine w_callE ((waits_ok a3).mono ?_) rfl rfl; rintro _ _ ⟨rfl,rfl⟩) | apply ai_seq | refine ai_drwW (by kernel_rfl) ?_)
 obtain ⟨jq,qa,tq1,tq2⟩ := a3.qu
 dsimp only at qa
 have hput := i.qp
 have hql := i.ql
 by_cases hd : (st.q.length : Int) < st.depth
 ·rw [syArrive_eq,if_pos hd]
  skip
  refine w_call rfl ((put_ok qa (id := (st.r.length : Int)) (t := st.now) (by omega) hput hd (by omega)).mono ?_)
  rintro _ g4 ⟨rfl,jq',qa4,md4,hj4⟩
  obtain ⟨qt4,x4⟩ := qu_tn a3.w qa tq1 tq2 qa4 md4 (.inr hj4)
  have a4 := a3.queue x4 qt4
  repeat (first | apply sS | apply dS | apply dE | refine w_mv rfl ?_ | (apply is_bin; refine w_cF rfl ?_) | apply ai_regW | refine ai_cF rfl ?_ | apply ai_skip)
  refine w_call rfl ((sent_ok a4 (i.arr hd) (by simp only [List.length_append,List.length_singleton]; omega)).mono ?_)
  rintro _ g5 ⟨T5,a5,x5⟩
  repeat (first | apply sE)
  exact end_zeroN ⟨_,_,a5,x03.trans ((x4.mono (by decide)).trans (x5.mono (by decide)))⟩
 ·rw [syArrive_eq,if_neg hd]
  skip
  refine w_call rfl ((put_full qa (id := (st.r.length : Int)) (t := st.now) (by omega) hput (by omega)).mono ?_)
  rintro _ _ ⟨rfl,rfl⟩
  have hy : (st.r ++ [(st.now,st.now,1,-1)])[st.r.length]? = some (st.now,st.now,1,-1) := by simp
  obtain ⟨ri,er,hri,htr,hgr⟩ := a3.rq.row hy
  have hsg3 := a3.sg
  rw [er] at hsg3
  dsimp only at hgr er
  simp only [List.length_append,List.length_singleton] at hsg3
  have hfl : (rQ (st.r ++ [(st.now,st.now,1,-1)])).flatten.length = st.r.length * 4 + 4 := by rw [(rQ_els _).len,rQ_len,List.length_append,List.length_singleton]; omega
  repeat (first | apply sS | apply sSn | apply dS | apply dE | refine w_mv rfl ?_ | (refine is_okn rfl ?_; refine w_op rfl ?_) | (apply is_ld; refine w_ldA rfl ?_) | (apply is_bin; refine w_cT rfl ?_) | (apply is_iad; refine w_iadA rfl ?_) | apply ai_regW | refine ai_cT rfl ?_)
  refine w_st1 rfl rfl hgr (by simp only [Int.toNat_natCast]; omega) rfl fun g4 m4 k4 n4 => ?_
  have hk4 : g4.get ri = some ⟨(rQ ((st.r ++ [(st.now,st.now,1,-1)]).set st.r.length (st.now,st.now,5,-1))).flatten,true,4⟩ := by
   rw [k4]
   simp only [Int.toNat_natCast,Nat.zero_add]
   rw [(rQ_els _).set (rQ_get hy) (f := 2) (by decide)]
   congr 2
   exact congrArg List.flatten (rQ_set _ st.r.length (st.now,st.now,5,-1))
  obtain ⟨a4,x4⟩ := rq_upd a3 hy er hri htr m4 n4 (st.now,st.now,5,-1) hk4
  have e4 : (st.r ++ [(st.now,st.now,1,-1)]).set st.r.length (st.now,st.now,5,-1) = st.r ++ [(st.now,st.now,5,-1)] := by simp
  dsimp only at a4
  rw [e4] at a4
  repeat (first | apply sS | apply sE | refine w_mv rfl ?_ | apply ai_regW)
  refine w_call rfl ((sent_ok a4 i.ref (by simp only [List.length_append,List.length_singleton]; omega)).mono ?_)
  rintro _ g5 ⟨T5,a5,x5⟩
  repeat (first | apply sE)
  exact end_zeroN ⟨_,_,a5,x03.trans ((x4.mono (by decide)).trans (x5.mono (by decide)))⟩
end
theorem flyA_at : ∀ {r : List Rq} {j i k : Nat},(flyA j r)[i]? = some k → j ≤ k ∧ ∃ x,r[k - j]? = some x ∧ x.2.2.1 = 2
 | [],_,_,_,h => by simp [flyA] at h
 | x :: r,j,i,k,h => by
  simp only [flyA] at h
  by_cases hx : x.2.2.1 = 2
  ·rw [if_pos hx] at h
   cases i with
   | zero =>
    simp only [List.getElem?_cons_zero,Option.some.injEq] at h
    subst h
    exact ⟨Nat.le_refl _,x,by simp,hx⟩
   | succ i =>
    obtain ⟨h1,y,h2,h3⟩ := flyA_at (r := r) (by simpa using h)
    refine ⟨by omega,y,?_,h3⟩
    rw [show k - j = (k - (j + 1)) + 1 by omega,List.getElem?_cons_succ]
    exact h2
  ·rw [if_neg hx] at h
   obtain ⟨h1,y,h2,h3⟩ := flyA_at (r := r) h
   refine ⟨by omega,y,?_,h3⟩
   rw [show k - j = (k - (j + 1)) + 1 by omega,List.getElem?_cons_succ]
   exact h2
theorem flyF_at {r : List Rq} {i k : Nat} (h : (flyF r)[i]? = some k) : ∃ x,r[k]? = some x ∧ x.2.2.1 = 2 := by
 obtain ⟨_,x,h1,h2⟩ := flyA_at h
 exact ⟨x,by simpa using h1,h2⟩
theorem lv_cases (l : List Pd) (id : Int) : (lvF l id).1 = l ∨ ∃ (k : Nat) (p : Pd),l[k]? = some p ∧ p.2.2.1 ≠ 0 ∧ ((p.2.2.1 = 1 ∧ p.2.1 = 3 ∧ (lvF l id).1 = l.take k ++ l.drop (k + 1)) ∨ (¬ (p.2.2.1 = 1 ∧ p.2.1 = 3) ∧ (lvF l id).1 = l.set k (p.1,p.2.1,p.2.2.1 - 1,p.2.2.2))) := by
 unfold lvF
 by_cases h0 : (l.getD (fI l id) p0).2.2.1 = 0
 ·rw [if_pos h0]; exact .inl rfl
 ·rw [if_neg h0]
  cases e : l[fI l id]? with
  | none => exfalso; apply h0; rw [List.getD_eq_getElem?_getD,e]; rfl
  | some p =>
   rw [getD_of e] at h0 ⊢
   refine .inr ⟨_,p,e,h0,?_⟩
   by_cases h1 : p.2.2.1 = 1 ∧ p.2.1 = 3
   ·rw [if_pos h1]; exact .inl ⟨h1.1,h1.2,rfl⟩
   ·rw [if_neg h1]; exact .inr ⟨h1,rfl⟩
theorem CtP.lv {made : Int} {l : List Pd} (c : CtP made l) (id : Int) : CtP made (lvF l id).1 ∧ sB (lvF l id).1 ≤ sB l ∧ cF (lvF l id).1 ≤ cF l ∧ ∀ p ∈ (lvF l id).1,∃ q ∈ l,p.2.2.1 ≤ q.2.2.1 ∧ p.2.2.2 = q.2.2.2 := by
 rcases lv_cases l id with e | ⟨k,p,hk,h0,⟨h1,h2,e⟩ | ⟨h1,e⟩⟩
 ·rw [e]; exact ⟨c,Int.le_refl _,Nat.le_refl _,fun p hp => ⟨p,hp,Int.le_refl _,rfl⟩⟩
 ·rw [e]
  refine ⟨c.del k,by rw [sB_del hk]; omega,cF_del k,fun p hp => ⟨p,del_sub.subset hp,Int.le_refl _,rfl⟩⟩
 ·rw [e]
  have hc := c.each p (List.mem_of_getElem? hk)
  refine ⟨c.set hk rfl ⟨by dsimp only; omega,fun e3 => ?_,hc.2.2.2.2⟩,by rw [sB_set hk]; dsimp only; omega,Nat.le_of_eq (cF_set hk rfl),fun r hr => ?_⟩
  ·dsimp only at e3 ⊢
   have : ¬ p.2.2.1 = 1 := fun h => h1 ⟨h,e3⟩
   omega
  ·rcases List.mem_or_eq_of_mem_set hr with hr | rfl
   ·exact ⟨r,hr,Int.le_refl _,rfl⟩
   ·exact ⟨p,List.mem_of_getElem? hk,by dsimp only; omega,rfl⟩
def finS (s : Sy) (k : Nat) : Sy := { s with r := setR s.r k fun x => (x.1,s.now,3,x.2.2.2),ps := (lvF s.ps (s.r.getD k r0).2.2.2).1 }
theorem SyI.fin {st : Sy} (i : SyI st) (k : Nat) : SyI (finS st k) := by
 obtain ⟨h1,h2,h3,h4⟩ := i.ct.lv (st.r.getD k r0).2.2.2
 have hsum := i.sum
 have hcf := i.cf
 unfold finS
 refine ⟨i.c,i.now,h1,i.made,by dsimp only; omega,fun p hp => ?_,by dsimp only; rw [setR_len]; omega,i.ql,i.qd,i.qp,fun w hw => ?_,fun x hx => ?_,i.dd,i.lost,i.since,i.trl⟩
 ·obtain ⟨q,hq,e1,e2⟩ := h4 p hp
  have := i.bz q hq
  dsimp only
  omega
 ·dsimp only
  rw [setR_len]
  exact i.qi w hw
 ·have hx : x ∈ setR st.r k fun x => (x.1,st.now,3,x.2.2.2) := hx
  rcases setR_mem hx with hx | rfl
  ·exact i.rs x hx
  ·dsimp only; omega
theorem syFinish_eq (s : Sy) (n : Int) : syFinish s n = if ((flyF s.r).length : Int) ≤ n then (s,7) else (sySent (finS s ((flyF s.r).getD n.toNat 0)),0) := rfl
theorem SyI.finish {st : Sy} (i : SyI st) (n : Int) : SyI (syFinish st n).1 := by
 rw [syFinish_eq]
 split
 ·exact i
 ·exact (i.fin _).sent
def crS (s : Sy) (n : Nat) (id : Int) : Sy := { s with ps := s.ps.take n ++ s.ps.drop (n + 1),r := s.r.map fun x => if x.2.2.1 = 2 ∧ x.2.2.2 = id then (x.1,s.now,6,x.2.2.2) else x }
theorem syCrash_eq (s : Sy) (n : Int) : syCrash s n = if n < 0 ∨ (s.ps.length : Int) ≤ n then (s,7) else (sySent (crS s n.toNat (s.ps.getD n.toNat p0).1),0) := rfl
theorem SyI.cr {st : Sy} (i : SyI st) (n : Nat) (id : Int) : SyI (crS st n id) := by
 have hsum := i.sum
 have hcf := i.cf
 have hd := cF_del (l := st.ps) n
 have hs : sB (st.ps.take n ++ st.ps.drop (n + 1)) ≤ sB st.ps := by
  cases e : st.ps[n]? with
  | none =>
   have := List.getElem?_eq_none_iff.1 e
   rw [List.take_of_length_le (by omega),List.drop_eq_nil_of_le (by omega),List.append_nil]
   exact Int.le_refl _
  | some p =>
   rw [sB_del e]
   have := i.ct.each p (List.mem_of_getElem? e)
   omega
 unfold crS
 refine ⟨i.c,i.now,i.ct.del n,i.made,by dsimp only; omega,fun p hp => i.bz p (del_sub.subset hp),by dsimp only; rw [List.length_map]; omega,i.ql,i.qd,i.qp,fun w hw => ?_,fun x hx => ?_,i.dd,i.lost,i.since,i.trl⟩
 ·dsimp only
  rw [List.length_map]
  exact i.qi w hw
 ·obtain ⟨y,hy,rfl⟩ := List.mem_map.1 hx
  have := i.rs y hy
  split
  ·dsimp only; omega
  ·exact this
theorem SyI.crash {st : Sy} (i : SyI st) (n : Int) : SyI (syCrash st n).1 := by
 rw [syCrash_eq]
 split
 ·exact i
 ·exact (i.cr _ _).sent
set_option maxHeartbeats 2000000 in
theorem finish_ok {T : Tg} {g : Hp} {s P L q D : Nat} {rs ts : Value} {st : Sy} (a : SyG g T s P L q D rs ts st) (i : SyI st) (hb : st.r.length ≤ 800000) {n : Int} (hn : 0 ≤ n ∧ n ≤ 999) :
  ACall PX 30 [ptr s,nI n] g (fun v h => v = nI (syFinish st n).2 ∧ ∃ T',SyG h T' s P L q D rs ts (syFinish st n).1 ∧ Tn [1,2,3,10] T g T' h) := by
 rw [syFinish_eq]
 refine acallA Tryz.func30 c30 ?_
 unfold ir30
 dsimp only [qo,qm,qk,q2,qi,qg,qn,qc,dq,ci,cb,qh,qs]
 repeat (first | apply sS | apply sE | refine w_mv rfl ?_ | apply ai_seq | apply ai_regW)
 refine w_call rfl ((flying_ok a (by omega)).mono ?_)
 rintro v g1 ⟨r1,x1⟩
 have a1 := a.ext x1
 obtain ⟨xv,cv,rfl⟩ := r1.len
 have hln : (rI (nL (flyF st.r))).length = (flyF st.r).length := by rw [rI_len,nL,List.length_map]
 rw [hln] at r1 ⊢
 obtain ⟨m,rfl⟩ : ∃ m : Nat,n = m := ⟨n.toNat,by omega⟩
 by_cases hm : (flyF st.r).length ≤ m
 ·rw [if_pos (by omega)]
  repeat (first | apply sS | apply sE | refine w_mv rfl ?_ | (refine is_okn rfl ?_; refine w_op rfl ?_) | (apply is_bin; refine w_cT rfl ?_) | apply ai_seq | apply ai_regW | refine ai_cT rfl ?_ | (apply ai_ret; repeat (first | rw [thenQ_r] | rw [blockQ_r] | rw [roundE_r])))
  exact end_one rfl ⟨rfl,T,a1,.of_ext a.w x1⟩
 rw [if_neg (by omega),Int.toNat_natCast]
 obtain ⟨k,hk⟩ : ∃ k,(flyF st.r)[m]? = some k := ⟨_,List.getElem?_eq_getElem (by omega)⟩
 obtain ⟨y,hy,_⟩ := flyF_at hk
 have hkl := (List.getElem?_eq_some_iff.1 hk).1
 have hyl := (List.getElem?_eq_some_iff.1 hy).1
 rw [show (flyF st.r).getD m 0 = k by rw [List.getD_eq_getElem?_getD,hk]; rfl]
 obtain ⟨bi,bo,bs,e,hbl,hr0⟩ := r1.rr.at (rI_get (show (nL (flyF st.r))[m]? = some (k : Int) by unfold nL; rw [List.getElem?_map,hk]; rfl))
 cases e
 have hT0 : T bi = 0 := a.w bi (r1.blk rfl).1
 repeat (first | apply sS | apply sE | refine w_mv rfl ?_ | (refine is_okn rfl ?_; refine w_op rfl ?_) | (apply is_ld; refine w_ldA rfl ?_) | (apply is_bin; refine w_cF rfl ?_) | (apply is_iad; refine w_iadA rfl ?_) | apply ai_seq | apply ai_regW | refine ai_cF rfl ?_ | apply ai_skip)
 refine w_call rfl ((stand_ok a1 (k := k) (x := y) hy 3).mono ?_)
 rintro _ g2 ⟨a2,x2⟩
 have hgb2 := x2.fr bi hbl (by rw [hT0]; decide)
 have hr2 : g2.rd bi (bo + m * 1) 1 = some [nI k] := by
  unfold Hp.rd at hr0 ⊢
  rw [hgb2]
  exact hr0
 have hy2 : (setR st.r k fun x => (x.1,st.now,3,x.2.2.2))[k]? = some (y.1,st.now,3,y.2.2.2) := by
  unfold setR
  rw [List.getElem?_set_self hyl,getD_r hy]
 obtain ⟨ri,er,hri,htr,hgr⟩ := a2.rq.row hy2
 have hsg2 := a2.sg
 rw [er] at hsg2
 dsimp only at hgr
 simp only [setR_len] at hsg2
 have hp2 : g2.rd ri (0 + k * 4 + 3) 1 = some [nI y.2.2.2] := rd_part (rd_row2 (tl := []) (by rw [List.append_nil]; exact hgr) (rQ_els _) (rQ_get hy2)) (f := 3) rfl
 repeat (first | apply dS | apply dSR | apply sE | (apply is_ag; refine agSA ?_) | refine w_mv rfl ?_ | (refine is_okn rfl ?_; refine w_op rfl ?_) | (apply is_ld; refine w_ldA rfl ?_) | (apply is_iad; refine w_iadA rfl ?_) | (refine w_callE ((pods_ok a2).mono ?_) rfl rfl; rintro _ _ ⟨rfl,rfl⟩) | apply ai_seq | refine ai_drwW (by kernel_rfl) ?_)
 obtain ⟨S2,lf2,ht2⟩ := a2.lf
 have hbz : ∀ p ∈ st.ps,0 ≤ p.2.2.1 ∧ p.2.2.1 ≤ 1000 := fun p hp => ⟨(i.ct.each p hp).2.2.1,(i.bz p hp).1⟩
 skip
 refine w_call rfl ((leave_lf g2 lf2 (i.len hb) (fun p' hp' => by have := hbz p' hp'; omega)).mono ?_)
 rintro _ g3 ⟨rfl,S3,lf3,gr3,fr3⟩
 obtain ⟨lt3,x3⟩ := lf_tn a2.w lf2 ht2 lf3 gr3 fr3
 have a3 := a2.life x3 lt3
 have hfs : finS st k = { st with r := setR st.r k fun x => (x.1,st.now,3,x.2.2.2),ps := (lvF st.ps y.2.2.2).1 } := by
  unfold finS
  rw [getD_r hy]
 dsimp only at a3
 rw [← hfs] at a3
 repeat (first | apply sS | apply dE | refine w_mv rfl ?_ | apply ai_seq | apply ai_regW)
 refine w_call rfl ((sent_ok a3 (i.fin k) (by unfold finS; dsimp only; rw [setR_len]; exact hb)).mono ?_)
 rintro _ g4 ⟨T4,a4,x4⟩
 repeat (first | apply sS | apply sE | refine w_mv rfl ?_ | apply ai_seq | apply ai_regW | (apply ai_ret; repeat (first | rw [thenQ_r] | rw [blockQ_r] | rw [roundE_r])))
 exact end_one rfl ⟨rfl,T4,a4,(Tn.of_ext (I := [1,2,3,10]) a.w x1).trans ((x2.mono (by decide)).trans ((x3.mono (by decide)).trans (x4.mono (by decide))))⟩
def crJ (f : Rq → Rq) (r : List Rq) (l : List Nat) : List Rq := r.mapIdx fun x y => if x ∈ l then f y else y
theorem crJ_nil (f : Rq → Rq) (r : List Rq) : crJ f r [] = r := by
 refine List.ext_getElem? fun x => ?_
 simp [crJ,List.getElem?_mapIdx]
theorem crJ_len (f : Rq → Rq) (r : List Rq) (l : List Nat) : (crJ f r l).length = r.length := by simp [crJ]
theorem crJ_get {f : Rq → Rq} {r : List Rq} {l : List Nat} {k : Nat} {y : Rq} (hk : r[k]? = some y) (hn : k ∉ l) : (crJ f r l)[k]? = some y := by
 simp [crJ,List.getElem?_mapIdx,hk,hn]
theorem crJ_step {f : Rq → Rq} {r : List Rq} {l : List Nat} {k : Nat} {y : Rq} (hk : r[k]? = some y) : crJ f r (l ++ [k]) = (crJ f r l).set k (f y) := by
 have hl := (List.getElem?_eq_some_iff.1 hk).1
 refine List.ext_getElem? fun x => ?_
 by_cases e : k = x
 ·subst e
  rw [List.getElem?_set_self (by rw [crJ_len]; exact hl)]
  simp [crJ,List.getElem?_mapIdx,hk]
 ·rw [List.getElem?_set_ne e]
  have e' : ¬ x = k := fun h => e h.symm
  simp [crJ,List.getElem?_mapIdx,e']
theorem flyA_has : ∀ {r : List Rq} {j x : Nat} {y : Rq},r[x]? = some y → y.2.2.1 = 2 → j + x ∈ flyA j r
 | [],_,_,_,h,_ => by simp at h
 | z :: r,j,0,y,h,h2 => by
  simp only [List.getElem?_cons_zero,Option.some.injEq] at h
  subst h
  simp [flyA,h2]
 | z :: r,j,x + 1,y,h,h2 => by
  have := flyA_has (r := r) (j := j + 1) (x := x) (by simpa using h) h2
  rw [show j + 1 + x = j + (x + 1) by omega] at this
  simp only [flyA]
  split
  ·exact List.mem_cons_of_mem _ this
  ·exact this
theorem flyA_up : ∀ (r : List Rq) (j : Nat),(flyA j r).Pairwise (· < ·)
 | [],_ => .nil
 | z :: r,j => by
  simp only [flyA]
  split
  ·refine List.Pairwise.cons (fun k hk => ?_) (flyA_up r (j + 1))
   obtain ⟨i,hi,e⟩ := List.getElem_of_mem hk
   have := (flyA_at (r := r) (j := j + 1) (i := i) (k := k) (by rw [List.getElem?_eq_getElem hi,e])).1
   omega
  ·exact flyA_up r (j + 1)
theorem flyF_new {r : List Rq} {j k : Nat} (h : (flyF r)[j]? = some k) : k ∉ (flyF r).take j := by
 intro hm
 obtain ⟨i,hi,e⟩ := List.getElem_of_mem hm
 rw [List.length_take] at hi
 rw [List.getElem_take] at e
 obtain ⟨hj,e2⟩ := List.getElem?_eq_some_iff.1 h
 have := List.pairwise_iff_getElem.1 (flyA_up r 0) i j (by unfold flyF at hi; omega) hj (by omega)
 unfold flyF at e e2
 omega
theorem crJ_all {f : Rq → Rq} {r : List Rq} (hf : ∀ y,y.2.2.1 ≠ 2 → f y = y) : crJ f r (flyF r) = r.map f := by
 refine List.ext_getElem? fun x => ?_
 simp only [crJ,List.getElem?_mapIdx,List.getElem?_map]
 cases e : r[x]? with
 | none => rfl
 | some y =>
  simp only [Option.map_some,Option.some.injEq]
  by_cases h2 : y.2.2.1 = 2
  ·have : 0 + x ∈ flyF r := flyA_has (j := 0) e h2
   rw [Nat.zero_add] at this
   rw [if_pos this]
  ·rw [hf y h2]; split <;> rfl
theorem set_same {α : Type} {l : List α} {k : Nat} {y : α} (h : l[k]? = some y) : l.set k y = l := by
 obtain ⟨h1,rfl⟩ := List.getElem?_eq_some_iff.1 h
 exact List.set_getElem_self h1
def crf (now id : Int) (x : Rq) : Rq := if x.2.2.1 = 2 ∧ x.2.2.2 = id then (x.1,now,6,x.2.2.2) else x
set_option maxHeartbeats 2000000 in
theorem scrash_ok {T : Tg} {g : Hp} {s P L q D : Nat} {rs ts : Value} {st : Sy} (a : SyG g T s P L q D rs ts st) (i : SyI st) (hb : st.r.length ≤ 800000) (n : Int) :
  ACall PX 31 [ptr s,nI n] g (fun v h => v = nI (syCrash st n).2 ∧ ∃ T',SyG h T' s P L q D rs ts (syCrash st n).1 ∧ Tn [1,2,3,10] T g T' h) := by
 rw [syCrash_eq]
 obtain ⟨S,lf,ht⟩ := a.lf
 refine acallA Tryz.func31 c31 ?_
 unfold ir31
 dsimp only [qo,qm,qk,q2,qi,qg,qn,qc,dq,ci,cb,qh,qs]
 repeat (first | apply sS | apply sE | refine w_mv rfl ?_ | (refine w_callE ((pods_ok a).mono ?_) rfl rfl; rintro _ _ ⟨rfl,rfl⟩) | apply ai_seq | apply ai_regW)
 by_cases hn : n < 0 ∨ (st.ps.length : Int) ≤ n
 ·rw [if_pos hn]
  skip
  refine w_call rfl ((crash_out g lf hn).mono ?_)
  rintro _ g1 ⟨rfl,lf1,fr1⟩
  obtain ⟨lt1,x1⟩ := lf_tn a.w lf ht lf1 (Gr.refl _ _) fr1
  have a1 := a.life x1 lt1
  repeat (first | apply sS | refine w_mv rfl ?_ | refine w_ext rfl rfl ?_)
  refine w_new fun g2 x2 k2 n2 => ?_
  repeat (first | apply sSn)
  refine w_stN rfl rfl k2 rfl rfl fun g3 m3 k3 n3 => ?_
  have x3 := x2.own m3 n3
  repeat (first | apply sS | apply sE | refine w_mv rfl ?_ | (apply is_bin; refine w_cT rfl ?_) | apply ai_seq | apply ai_regW | refine ai_cT rfl ?_ | (apply ai_ret; repeat (first | rw [thenQ_r] | rw [blockQ_r] | rw [roundE_r])))
  exact end_one rfl ⟨rfl,_,a1.ext x3,(x1.mono (by decide)).trans (.of_ext a1.w x3)⟩
 rw [if_neg hn]
 obtain ⟨k,rfl⟩ : ∃ k : Nat,n = k := ⟨n.toNat,by omega⟩
 rw [Int.toNat_natCast]
 obtain ⟨p,hp⟩ : ∃ p,st.ps[k]? = some p := ⟨_,List.getElem?_eq_getElem (by omega)⟩
 rw [getD_of hp]
 skip
 refine w_call rfl ((crash_lf g lf (i.len hb) hp).mono ?_)
 rintro _ g1 ⟨rfl,S1,lf1,gr1,fr1⟩
 obtain ⟨lt1,x1⟩ := lf_tn a.w lf ht lf1 gr1 fr1
 have a1 := a.life x1 lt1
 repeat (first | apply sS | refine w_mv rfl ?_ | refine w_ext rfl rfl ?_)
 refine w_new fun g2 x2 k2 n2 => ?_
 repeat (first | apply sSn)
 refine w_stN rfl rfl k2 rfl rfl fun g3 m3 k3 n3 => ?_
 have x3 := x2.own m3 n3
 replace k3 : g3.get g1.nx = some ⟨p4 p,true,0⟩ := k3
 have a3 := a1.ext x3
 have hB3 : g1.nx < g3.nx := by omega
 have hTB : tg T g g1 1 g1.nx = 0 := a1.w _ (Nat.le_refl _)
 repeat (first | apply sS | apply sE | refine w_mv rfl ?_ | (apply is_bin; refine w_cF rfl ?_) | apply ai_seq | apply ai_regW | refine ai_cF rfl ?_ | apply ai_skip)
 refine w_call rfl ((flying_ok a3 (by dsimp only; omega)).mono ?_)
 rintro v g4 ⟨r4,x4⟩
 have a4 := a3.ext x4
 have k4 := (x4.2 _ hB3).trans k3
 obtain ⟨xv,cv,rfl⟩ := r4.len
 have hln : (rI (nL (flyF st.r))).length = (flyF st.r).length := by rw [rI_len,nL,List.length_map]
 dsimp only at r4
 rw [hln] at r4 ⊢
 have hfl : (flyF st.r).length ≤ 800000 := Nat.le_trans (flyA_len st.r 0) hb
 generalize hT1 : tg T g g1 1 = T1 at *
 have hcr : ∀ r',({ st with ps := st.ps.take k ++ st.ps.drop (k + 1),r := r' } : Sy) = { st with ps := st.ps.take k ++ st.ps.drop (k + 1),r := r' } := fun _ => rfl
 have ec : crS st k p.1 = { st with ps := st.ps.take k ++ st.ps.drop (k + 1),r := crJ (crf st.now p.1) st.r (flyF st.r) } := by
  rw [crJ_all fun y hy => by unfold crf; rw [if_neg fun h => hy h.1]]
  rfl
 have hvb : ∀ b n c,Value.slice xv (flyF st.r).length cv = .slice (some b) n c → b.block < g4.nx ∧ T1 b.block = 0 := fun b n c e => ⟨(r4.blk e).2,a3.w _ (r4.blk e).1⟩
 have k4' : g4.get g1.nx = some ⟨p4 p,true,0⟩ := k4
 have hB4 : g1.nx < g4.nx := Nat.lt_of_lt_of_le hB3 x4.1
 repeat (first | apply sS | apply sE | refine w_mv rfl ?_ | (refine is_okn rfl ?_; refine w_op rfl ?_) | apply ai_block)
 refine ai_loopE (γ := Nat) (fun m => [(0,ptr s),(5,.pointer (some ⟨g1.nx,0,none⟩)),(20,.slice xv (flyF st.r).length cv),(21,nI (flyF st.r).length),(22,nI m)])
  (fun m h => SyG h T1 s P L q D rs ts { st with ps := st.ps.take k ++ st.ps.drop (k + 1),r := crJ (crf st.now p.1) st.r ((flyF st.r).take m) } ∧ Tn [3] T1 g4 T1 h ∧ m ≤ (flyF st.r).length) (fun m => (flyF st.r).length - m) 0 leX ⟨?_,.refl a4.w,Nat.zero_le _⟩ ?_
 ·rw [List.take_zero,crJ_nil]; exact a4
 rintro m h5 ⟨a5,x5,hm⟩
 have k5 := (x5.fr _ hB4 (by rw [hTB]; decide)).trans k4'
 by_cases hml : m < (flyF st.r).length
 ·obtain ⟨fk,hfk⟩ : ∃ fk,(flyF st.r)[m]? = some fk := ⟨_,List.getElem?_eq_getElem hml⟩
  obtain ⟨y,hy,hy2⟩ := flyF_at hfk
  have hym := crJ_get (f := crf st.now p.1) hy (flyF_new hfk)
  obtain ⟨bi,bo,bs,e,hbl,hr0⟩ := r4.rr.at (rI_get (show (nL (flyF st.r))[m]? = some (fk : Int) by unfold nL; rw [List.getElem?_map,hfk]; rfl))
  cases e
  obtain ⟨hb1,hb2⟩ := hvb _ _ _ rfl
  have hr5 : h5.rd bi (bo + m * 1) 1 = some [nI fk] := by
   unfold Hp.rd at hr0 ⊢
   rw [x5.fr bi hb1 (by rw [hb2]; decide)]
   exact hr0
  obtain ⟨ri,er,hri,htr,hgr⟩ := a5.rq.row hym
  have hsg5 := a5.sg
  rw [er] at hsg5
  dsimp only at hgr
  simp only [crJ_len] at hsg5
  have hyl := (List.getElem?_eq_some_iff.1 hy).1
  have hp5 : h5.rd ri (0 + fk * 4 + 3) 1 = some [nI y.2.2.2] := rd_part (rd_row2 (tl := []) (by rw [List.append_nil]; exact hgr) (rQ_els _) (rQ_get hym)) (f := 3) rfl
  have hst : (flyF st.r).take (m + 1) = (flyF st.r).take m ++ [fk] := by
   obtain ⟨h1,rfl⟩ := List.getElem?_eq_some_iff.1 hfk
   exact List.take_succ_eq_append_getElem h1
  by_cases hid : y.2.2.2 = p.1
  ·repeat (first | apply sS | apply dS | apply sE | apply dE | refine w_mv rfl ?_ | (refine is_okn rfl ?_; refine w_op rfl ?_) | (apply is_ld; refine w_ldA rfl ?_) | (apply is_bin; refine w_cT rfl ?_) | (apply is_iad; refine w_iadA rfl ?_) | apply ai_seq | apply ai_regW | refine ai_cT rfl ?_ | apply ai_skip | refine ai_drwW (by kernel_rfl) ?_ | apply ai_block)
   refine w_call rfl ((stand_ok a5 (k := fk) (x := y) hym 6).mono ?_)
   rintro _ h6 ⟨a6,x6⟩
   repeat (first | apply sS | apply sE | refine w_mv rfl ?_ | (apply is_bin; refine w_addA rfl ?_) | apply ai_regW)
   refine ⟨m + 1,leX,⟨?_,x5.trans x6,by omega⟩,by dsimp only; omega⟩
   rw [hst,crJ_step hy]
   unfold setR at a6
   rw [getD_r hym] at a6
   have : crf st.now p.1 y = (y.1,st.now,6,y.2.2.2) := by unfold crf; rw [if_pos ⟨hy2,hid⟩]
   rw [this]
   exact a6
  ·repeat (first | apply sS | apply dS | apply sE | apply dE | refine w_mv rfl ?_ | (refine is_okn rfl ?_; refine w_op rfl ?_) | (apply is_ld; refine w_ldA rfl ?_) | (apply is_bin; refine w_addA rfl ?_) | (apply is_bin; refine w_cT rfl ?_) | (apply is_bin; refine w_cF rfl ?_) | (apply is_iad; refine w_iadA rfl ?_) | apply ai_seq | apply ai_regW | refine ai_cT rfl ?_ | refine ai_cF rfl ?_ | apply ai_skip | refine ai_drwW (by kernel_rfl) ?_ | apply ai_block)
   refine ⟨m + 1,leX,⟨?_,x5,by omega⟩,by dsimp only; omega⟩
   rw [hst,crJ_step hy]
   have : crf st.now p.1 y = y := by unfold crf; rw [if_neg fun h => hid h.2]
   rw [this,set_same hym]
   exact a5
 ·obtain rfl : m = (flyF st.r).length := by omega
  rw [List.take_length,← ec] at a5
  repeat (first | apply sS | apply sE | refine w_mv rfl ?_ | (apply is_bin; refine w_cF rfl ?_) | apply ai_seq | apply ai_regW | refine ai_cF rfl ?_ | apply ai_exit)
  refine w_call rfl ((sent_ok a5 (i.cr k p.1) (by unfold crS; dsimp only; rw [List.length_map]; exact hb)).mono ?_)
  rintro _ h6 ⟨T6,a6,x6⟩
  repeat (first | apply sS | apply sE | refine w_mv rfl ?_ | apply ai_seq | apply ai_regW | (apply ai_ret; repeat (first | rw [thenQ_r] | rw [blockQ_r] | rw [roundE_r])))
  exact end_one rfl ⟨rfl,T6,a6,(x1.mono (by decide)).trans ((Tn.of_ext a1.w (x3.trans x4)).trans ((x5.mono (by decide)).trans (x6.mono (by decide))))⟩
end Go.Proofs.YtelmcfnkclihcaaGreatDoorW.Am
namespace Go.Proofs.YtelmcfnkclihcaaGreatDoorW.Am
open Go
def digB : List UInt8 := [48,49,50,51,52,53,54,55,56,57]
theorem dig_mem (b : UInt8) : digB.contains b = isDig b := by
 have h : ∀ n,n < 256 → digB.contains (UInt8.ofNat n) = isDig (UInt8.ofNat n) := by decide +kernel
 have := h b.toNat b.toNat_lt
 rwa [UInt8.ofNat_toNat] at this
theorem dropWhile_nil {α : Type} {p : α → Bool} : ∀ {l : List α},l.dropWhile p = [] ↔ l.all p = true
 | [] => by simp
 | a :: l => by
  rw [List.dropWhile_cons]
  cases h : p a
  ·simp [h]
  ·simp only [if_true,List.all_cons,h,Bool.true_and]
   exact dropWhile_nil
theorem trim_nil (l : List UInt8) : Go.Lib.trimS l digB = [] ↔ l.all isDig = true := by
 have e : (fun b => digB.contains b) = isDig := funext dig_mem
 unfold Go.Lib.trimS Go.Lib.trimLeftS Go.Lib.trimRightS
 rw [e,dropWhile_nil,List.all_reverse]
 constructor
 ·intro h
  by_cases hn : l.reverse.dropWhile isDig = []
  ·have := dropWhile_nil.1 hn
   rwa [List.all_reverse] at this
  ·exfalso
   obtain ⟨a,r,hr⟩ := List.exists_cons_of_ne_nil hn
   have h1 : isDig a = true := by rw [hr] at h; simp at h; exact h.1
   have h2 : ∀ (m : List UInt8) a r,m.dropWhile isDig = a :: r → isDig a = false := by
    intro m
    induction m with
    | nil => intro a r e; simp at e
    | cons x m ih =>
     intro a r e
     rw [List.dropWhile_cons] at e
     cases hx : isDig x
     ·rw [hx] at e; simp at e; rw [← e.1]; exact hx
     ·rw [hx] at e; exact ih _ _ (by simpa using e)
   rw [h2 _ _ _ hr] at h1
   cases h1
 ·intro h
  have : l.reverse.dropWhile isDig = [] := dropWhile_nil.2 (by rw [List.all_reverse]; exact h)
  rw [this]
  rfl
theorem valA_lt : ∀ (l : List UInt8) (a k : Nat),l.all isDig = true → a < 10 ^ k → valA a l < 10 ^ (k + l.length)
 | [],a,k,_,h => by rw [List.length_nil,Nat.add_zero]; exact h
 | b :: r,a,k,hd,h => by
  simp only [List.all_cons,Bool.and_eq_true,isDig,decide_eq_true_eq] at hd
  have := valA_lt r (a * 10 + (b.toNat - 48)) (k + 1) hd.2 (by rw [Nat.pow_succ]; omega)
  rw [List.length_cons,show k + (r.length + 1) = k + 1 + r.length by omega]
  exact this
theorem valA_le : ∀ (l : List UInt8) (a : Nat),a ≤ valA a l
 | [],a => Nat.le_refl _
 | b :: r,a => Nat.le_trans (by omega) (valA_le r (a * 10 + (b.toNat - 48)))
theorem parseM_ok (M : Nat) (hM : M ≤ 18446744073709551615) : ∀ (l : List UInt8) (a : Nat),l.all isDig = true → valA a l ≤ M → Go.Lib.parseUintM M a l = .ok (valA a l)
 | [],a,_,_ => rfl
 | b :: r,a,hd,h => by
  have hd' := hd
  simp only [List.all_cons,Bool.and_eq_true,isDig,decide_eq_true_eq] at hd'
  have hv : a * 10 + (b.toNat - 48) ≤ M := Nat.le_trans (valA_le r _) h
  have ih := parseM_ok M hM r (a * 10 + (b.toNat - 48)) hd'.2 h
  unfold Go.Lib.parseUintM
  simp only [hd'.1,and_self,if_true]
  rw [if_neg (by omega),if_neg (by omega)]
  exact ih
theorem parse_ok {l : List UInt8} (h0 : 1 ≤ l.length) (h9 : l.length ≤ 9) (hd : l.all isDig = true) : Go.Lib.parseIntB 64 l = .ok (valA 0 l : Int) := by
 have hlt := valA_lt l 0 0 hd (by decide)
 have hb : valA 0 l < 10 ^ 9 := Nat.lt_of_lt_of_le hlt (Nat.pow_le_pow_right (by decide) (by omega))
 cases l with
 | nil => simp at h0
 | cons c r =>
  have hc : 48 ≤ c.toNat ∧ c.toNat ≤ 57 := by
   simp only [List.all_cons,Bool.and_eq_true,isDig,decide_eq_true_eq] at hd
   exact hd.1
  unfold Go.Lib.parseIntB Go.Lib.parseUintB
  simp only
  rw [if_neg (by omega : ¬ (c.toNat = 43 ∨ c.toNat = 45)),if_neg (by simp : ¬ (c :: r = [])),parseM_ok _ (by decide) _ _ hd (by
   have : (10 : Nat) ^ 9 ≤ 2 ^ 64 - 1 := by decide
   omega)]
  have e63 : (10 : Nat) ^ 9 ≤ 2 ^ (64 - 1) := by decide
  simp only
  rw [if_neg (by omega),if_neg (by omega),if_neg (by omega)]
end Go.Proofs.YtelmcfnkclihcaaGreatDoorW.Am
namespace Go.Proofs.YtelmcfnkclihcaaGreatDoorW.Am
open Go Go.RowKit
section
theorem below_drewN (w : World) (k : Nat) : Below w.heap.size w (w.drewN k) := ⟨rfl,rfl,rfl,Nat.le_refl _,fun _ _ => rfl⟩
theorem dr_no : DrOn → False := id
def bs (l : List UInt8) : Value := .string ⟨l.toArray⟩
theorem hv116 (w : World) : (zeroValue (Tryz.lays160_ren.t 116)).run PX w = .ok (.agg (Array.replicate 256 (.bool false))) w := (Tryz.zeroValue199 w).trans (by kernel_rfl)
theorem trimD_br (l : List UInt8) (hl : l.length ≤ 1000000) (h : Hp) : ACall PX 87 [bs l,.string ⟨#[48,49,50,51,52,53,54,55,56,57]⟩] h (fun v g => v = bs (Go.Lib.trimS l digB) ∧ h = g) :=
 bridge (enters_comp Tryz.func87 c87) rfl rfl (fun w _ => (Any.strings_Trim_ascii Tryz.lays160 hv116 (by kernel_rfl) ⟨l.toArray⟩ ⟨#[48,49,50,51,52,53,54,55,56,57]⟩ w (by show l.toArray.size ≤ _; rw [List.size_toArray]; omega) (by decide) (by
  intro j b hb
  have := List.mem_of_getElem? hb
  have h2 : ∀ b ∈ digB,b.toNat < 128 := by decide
  exact h2 b this)).mono (by
  rintro e w' ⟨rfl,hb⟩
  exact ⟨rfl,hb,fun d => (dr_no d).elim⟩)) h
theorem parse_br {l : List UInt8} (h0 : 1 ≤ l.length) (h9 : l.length ≤ 9) (hd : l.all isDig = true) (h : Hp) : ACall PX 163 [bs l,nI 10,nI 64] h (fun v g => v = .tuple #[nI (valA 0 l),.nilIface] ∧ h = g) := by
 have hp : Go.Lib.parseIntB 64 (ByteArray.mk l.toArray).data.toList = .ok ((valA 0 l : Nat) : Int) := by
  rw [show (ByteArray.mk l.toArray).data.toList = l by simp]
  exact parse_ok h0 h9 hd
 exact bridge (enters_comp Tryz.func163 c163) rfl rfl (fun w _ => (Tryz.strconv_ParseInt_10_at64_ok ⟨l.toArray⟩ (by show l.toArray.size ≤ _; rw [List.size_toArray]; omega) ((valA 0 l : Nat) : Int) hp w).mono (by
  rintro e w' ⟨rfl,hw⟩
  refine ⟨rfl,?_,fun d => (dr_no d).elim⟩
  rcases hw with rfl | ⟨t,rfl⟩
  ·exact Below.refl _ _
  ·exact Go.Joins.below_bytesWorld _ _ _ _ (Nat.le_refl _))) h
theorem cutp_br (l : List UInt8) (h : Hp) : ACall PX 162 [bs l,.string ⟨#[45]⟩] h (fun v g => v = .tuple #[bs (Go.Lib.trimPrefix l [45]),.bool (Go.Lib.hasPrefix l [45])] ∧ h = g) :=
 bridge (enters_comp Tryz.func162 c162) rfl rfl (fun w _ => (Tryz.strings_CutPrefix ⟨l.toArray⟩ ⟨#[45]⟩ w).mono (by
  rintro e w' ⟨rfl,rfl⟩
  exact ⟨rfl,Below.refl _ _,fun d => (dr_no d).elim⟩)) h
theorem cut_br (l p : List UInt8) (hl : l.length ≤ 1000000) (h : Hp) : ACall PX 88 [bs l,bs p] h (fun v g => v = .tuple #[bs (Go.Lib.cut l p).1,bs (Go.Lib.cut l p).2.1,.bool (Go.Lib.cut l p).2.2] ∧ h = g) :=
 bridge (enters_comp Tryz.func88 c88) rfl rfl (fun w tb => by
  obtain ⟨m,hm⟩ := tb.2
  refine (Tryz.strings_Cut ⟨l.toArray⟩ ⟨p.toArray⟩ m w (by show l.toArray.size < _; rw [List.size_toArray]; omega) hm).mono ?_
  rintro e w' ⟨rfl,n,rfl⟩
  exact ⟨rfl,below_drewN _ _,fun d => (dr_no d).elim⟩) h
section
variable {P : Program} {CT : FuncId → List Value → Hp → (Value → Hp → Prop) → Prop} {d : Option Nat} {xs : List Operand} {env : Env} {h : Hp} {R : Value → Hp → Prop}
theorem w_neB {a b : List UInt8} (e : mapF env xs = some [bs a,bs b]) (n : R (.bool (!(a == b))) h) : WI P CT ⟨d,none,.op (.bin .neq) xs⟩ env h R :=
 w_v (v := .bool !((ByteArray.mk a.toArray).toList == (ByteArray.mk b.toArray).toList)) (by unfold opF; rw [e]; rfl) (by rw [ByteArray.toList_eq,ByteArray.toList_eq]) n
theorem w_eqB {a b : List UInt8} (e : mapF env xs = some [bs a,bs b]) (n : R (.bool (a == b)) h) : WI P CT ⟨d,none,.op (.bin .eql) xs⟩ env h R :=
 w_v (v := .bool ((ByteArray.mk a.toArray).toList == (ByteArray.mk b.toArray).toList)) (by unfold opF; rw [e]; rfl) (by rw [ByteArray.toList_eq,ByteArray.toList_eq]) n
end
theorem dw_len {α : Type} (p : α → Bool) : ∀ l : List α,(l.dropWhile p).length ≤ l.length
 | [] => Nat.le_refl _
 | a :: l => by
  rw [List.dropWhile_cons]
  split
  ·exact Nat.le_trans (dw_len p l) (by simp)
  ·exact Nat.le_refl _
theorem trimR_len (l : List UInt8) (c : UInt8) : (Go.Lib.trimRightB l c).length ≤ l.length := by
 unfold Go.Lib.trimRightB
 rw [List.length_reverse]
 have := dw_len (fun x => x == c) l.reverse
 rwa [List.length_reverse] at this
theorem sz_mk (l : List UInt8) : (ByteArray.mk l.toArray).size = l.length := by simp [ByteArray.size]
theorem digits_ok (l : List UInt8) (most : Nat) (hm : most ≤ 9) (hl : l.length ≤ 1000000) (h : Hp) : ACall PX 131 [bs l,nI most] h (fun v g => v = .tuple #[nI (((digF l most).getD 0 : Nat) : Int),.bool (digF l most).isSome] ∧ h = g) := by
 have hz := sz_mk l
 unfold digF
 refine acallA Tryz.func131 c131 ?_
 unfold ir131
 dsimp only [qo,qm,qk,q2,qi,qg,qn,qc,dq,ci,cb,qh,qs]
 by_cases h1 : 1 ≤ l.length
 case neg =>
  rw [if_neg (fun q => h1 q.1)]
  repeat (first | apply sS | apply sE | refine w_mv rfl ?_ | refine w_pickT rfl ?_ | (refine is_okn rfl ?_; refine w_op rfl ?_) | refine w_gF rfl rfl ?_ | (apply is_bin; refine w_cT rfl ?_) | apply ai_seq | apply ai_regW | refine ai_cT rfl ?_ | (apply ai_ret; repeat (first | rw [thenQ_r] | rw [blockQ_r] | rw [roundE_r])))
  exact ⟨_,rfl,rfl,rfl⟩
 by_cases h2 : l.length ≤ most
 case neg =>
  rw [if_neg (fun q => h2 q.2.1)]
  repeat (first | apply sS | apply sE | refine w_mv rfl ?_ | refine w_pickT rfl ?_ | refine w_pickF rfl ?_ | (refine is_okn rfl ?_; refine w_op rfl ?_) | refine w_gT rfl rfl ?_ | refine w_gF rfl rfl ?_ | (apply is_bin; refine w_cT rfl ?_) | (apply is_bin; refine w_cF rfl ?_) | apply ai_seq | apply ai_regW | refine ai_cT rfl ?_ | (apply ai_ret; repeat (first | rw [thenQ_r] | rw [blockQ_r] | rw [roundE_r])))
  exact ⟨_,rfl,rfl,rfl⟩
 repeat (first | apply sS | apply sE | refine w_mv rfl ?_ | refine w_pickF rfl ?_ | (refine is_okn rfl ?_; refine w_op rfl ?_) | refine w_gT rfl rfl ?_ | (apply is_bin; refine w_cF rfl ?_) | (refine w_callE ((trimD_br l hl _).mono ?_) rfl rfl; rintro _ _ ⟨rfl,rfl⟩) | apply ai_seq | apply ai_regW)
 refine w_neB (b := []) rfl ?_
 by_cases h3 : l.all isDig = true
 ·rw [if_pos ⟨h1,h2,h3⟩,trim_nil l |>.2 h3]
  repeat (first | apply sS | apply sE | refine w_mv rfl ?_ | refine w_pickF rfl ?_ | apply ai_seq | apply ai_regW | refine ai_cF rfl ?_ | apply ai_skip)
  refine w_call rfl ((parse_br h1 (by omega) h3 _).mono ?_)
  rintro _ _ ⟨rfl,rfl⟩
  repeat (first | apply sS | apply sE | refine w_mv rfl ?_ | refine w_ext rfl rfl ?_ | apply ai_seq | apply ai_regW | (apply ai_ret; repeat (first | rw [thenQ_r] | rw [blockQ_r] | rw [roundE_r])))
  exact ⟨_,rfl,rfl,rfl⟩
 ·have hne : (!(Go.Lib.trimS l digB == [])) = true := by
   have : ¬ Go.Lib.trimS l digB = [] := fun q => h3 ((trim_nil l).1 q)
   simpa using this
  rw [if_neg (fun q => h3 q.2.2),hne]
  repeat (first | apply sS | apply sE | refine w_mv rfl ?_ | refine w_pickF rfl ?_ | apply ai_seq | apply ai_regW | refine ai_cT rfl ?_ | (apply ai_ret; repeat (first | rw [thenQ_r] | rw [blockQ_r] | rw [roundE_r])))
  exact ⟨_,rfl,rfl,rfl⟩
end
theorem trimP_len (l p : List UInt8) : (Go.Lib.trimPrefix l p).length ≤ l.length := by
 unfold Go.Lib.trimPrefix
 split
 ·rw [List.length_drop]; omega
 ·exact Nat.le_refl _
theorem cut_len (l p : List UInt8) : (Go.Lib.cut l p).1.length ≤ l.length ∧ (Go.Lib.cut l p).2.1.length ≤ l.length := by
 unfold Go.Lib.cut
 split
 ·exact ⟨by rw [List.length_take]; omega,by rw [List.length_drop]; omega⟩
 ·exact ⟨Nat.le_refl _,Nat.zero_le _⟩
theorem digF_some {l : List UInt8} {most n : Nat} (h : digF l most = some n) : 1 ≤ l.length ∧ l.length ≤ most ∧ n < 10 ^ l.length := by
 unfold digF at h
 split at h
 ·next hc =>
  cases h
  have := valA_lt l 0 0 hc.2.2 (by decide)
  rw [Nat.zero_add] at this
  exact ⟨hc.1,hc.2.1,this⟩
 ·cases h
set_option maxRecDepth 10000 in
set_option maxHeartbeats 1000000 in
theorem number_ok (l : List UInt8) (hl : l.length ≤ 1000000) (h : Hp) : ACall PX 130 [bs l] h (fun v g => v = .tuple #[nI ((numF l).getD 0),.bool (numF l).isSome] ∧ h = g) := by
 have ht := trimP_len l [45]
 have hcl := cut_len (Go.Lib.trimPrefix l [45]) [46]
 obtain ⟨neg,hneg⟩ : ∃ b,Go.Lib.hasPrefix l [45] = b := ⟨_,rfl⟩
 obtain ⟨t,het⟩ : ∃ t,Go.Lib.trimPrefix l [45] = t := ⟨_,rfl⟩
 obtain ⟨⟨a,b,pt⟩,hc⟩ : ∃ c,Go.Lib.cut t [46] = c := ⟨_,rfl⟩
 unfold numF numU
 rw [het] at ht hcl ⊢
 rw [hc] at hcl ⊢
 rw [hneg]
 dsimp only at hcl ⊢
 have hzb := sz_mk b
 have c1 := fun g => cutp_br l g
 simp only [het,hneg] at c1
 have c2 := fun g => cut_br t [46] (by omega) g
 simp only [hc] at c2
 refine acallA Tryz.func130 c130 ?_
 unfold ir130
 dsimp only [qo,qm,qk,q2,qi,qg,qn,qc,dq,ci,cb,qh,qs]
 repeat (first | apply sS | apply sE | refine w_mv rfl ?_ | (refine is_okn rfl ?_; refine w_op rfl ?_) | refine w_ext rfl rfl ?_ | (refine w_callE ((c1 _).mono ?_) rfl rfl; rintro _ _ ⟨rfl,rfl⟩) | (refine w_callE ((c2 _).mono ?_) rfl rfl; rintro _ _ ⟨rfl,rfl⟩) | (refine w_callE ((digits_ok a 9 (by decide) (by omega) _).mono ?_) rfl rfl; rintro _ _ ⟨rfl,rfl⟩) | apply ai_seq | apply ai_regW)
 cases hA : digF a 9 with
 | none =>
  repeat (first | apply sS | apply sE | refine w_mv rfl ?_ | apply ai_seq | apply ai_regW | refine ai_cT rfl ?_ | (apply ai_ret; repeat (first | rw [thenQ_r] | rw [blockQ_r] | rw [roundE_r])))
  exact ⟨_,rfl,rfl,rfl⟩
 | some n =>
  obtain ⟨a1,a2,a3⟩ := digF_some hA
  have hn9 : n < 10 ^ 9 := Nat.lt_of_lt_of_le a3 (Nat.pow_le_pow_right (by decide) a2)
  simp only [Option.getD_some,Option.isSome_some]
  cases pt
  ·repeat (first | apply sS | apply sE | refine w_mv rfl ?_ | (refine w_mul rfl ?_ ?_; (focus omega)) | apply ai_seq | apply ai_regW | refine ai_cF rfl ?_ | apply ai_skip)
   cases neg
   ·repeat (first | apply sS | apply sE | refine w_mv rfl ?_ | apply ai_seq | apply ai_regW | refine ai_cF rfl ?_ | apply ai_skip | (apply ai_ret; repeat (first | rw [thenQ_r] | rw [blockQ_r] | rw [roundE_r])))
    exact ⟨_,rfl,rfl,rfl⟩
   ·repeat (first | apply sS | apply sE | refine w_mv rfl ?_ | (refine w_neg rfl ?_ ?_; (focus omega)) | apply ai_seq | apply ai_regW | refine ai_cT rfl ?_ | (apply ai_ret; repeat (first | rw [thenQ_r] | rw [blockQ_r] | rw [roundE_r])))
    exact ⟨_,rfl,rfl,rfl⟩
  ·repeat (first | apply sS | apply sE | refine w_mv rfl ?_ | (refine is_okn rfl ?_; refine w_op rfl ?_) | refine w_ext rfl rfl ?_ | (refine w_mul rfl ?_ ?_; (focus omega)) | (refine w_callE ((digits_ok b 3 (by decide) (by omega) _).mono ?_) rfl rfl; rintro _ _ ⟨rfl,rfl⟩) | apply ai_seq | apply ai_regW | refine ai_cT rfl ?_ | refine ai_cF rfl ?_ | apply ai_skip)
   cases hB : digF b 3 with
   | none =>
    repeat (first | apply sS | apply sE | refine w_mv rfl ?_ | apply ai_seq | apply ai_regW | refine ai_cT rfl ?_ | (apply ai_ret; repeat (first | rw [thenQ_r] | rw [blockQ_r] | rw [roundE_r])))
    exact ⟨_,rfl,rfl,rfl⟩
   | some k =>
    obtain ⟨b1,b2,b3⟩ := digF_some hB
    have hk3 : k < 10 ^ 3 := Nat.lt_of_lt_of_le b3 (Nat.pow_le_pow_right (by decide) b2)
    simp only [Option.getD_some,Option.isSome_some]
    repeat (first | apply sS | apply sE | refine w_mv rfl ?_ | (refine is_okn rfl ?_; refine w_op rfl ?_) | (apply is_bin; refine w_subA rfl ?_) | apply ai_seq | apply ai_regW | refine ai_cF rfl ?_ | apply ai_skip | apply ai_block)
    refine ai_loopE (γ := Nat × Nat) (fun e => [(4,.bool neg),(8,.int .i64 ((n : Int) * 1000)),(10,nI (e.2 : Nat)),(42,.int .i64 (3 - ((ByteArray.mk b.toArray).size : Int))),(43,nI e.1)])
     (fun e g => h = g ∧ e.1 ≤ 3 - b.length ∧ e.2 = k * 10 ^ e.1) (fun e => 3 - e.1) (0,k)
     leX ⟨rfl,Nat.zero_le _,by simp⟩ ?_
    rintro ⟨j,x⟩ g1 ⟨rfl,hj,hx⟩
    dsimp only at hj hx ⊢
    have hxb : x ≤ 99900 := by
     rcases (show j = 0 ∨ j = 1 ∨ j = 2 by omega) with rfl | rfl | rfl
     ·simp at hx; omega
     ·simp at hx; omega
     ·simp at hx; omega
    by_cases hj2 : j < 3 - b.length
    ·repeat (first | apply sS | apply sE | refine w_mv rfl ?_ | (apply is_bin; refine w_addA rfl ?_) | (apply is_bin; refine w_cT rfl ?_) | (refine w_mul rfl ?_ ?_; (focus omega)) | apply ai_seq | apply ai_regW | refine ai_cT rfl ?_ | apply ai_skip | apply ai_block)
     exact ⟨(j + 1,x * 10),leX,⟨rfl,by dsimp only; omega,by dsimp only; rw [hx,Nat.pow_succ,Nat.mul_assoc]⟩,by dsimp only; omega⟩
    ·obtain rfl : j = 3 - b.length := by omega
     rw [← hx]
     cases neg
     ·repeat (first | apply sS | apply sE | refine w_mv rfl ?_ | (apply is_bin; refine w_addA rfl ?_) | (apply is_bin; refine w_cF rfl ?_) | apply ai_seq | apply ai_regW | refine ai_cF rfl ?_ | apply ai_skip | apply ai_exit | (apply ai_ret; repeat (first | rw [thenQ_r] | rw [blockQ_r] | rw [roundE_r])))
      refine ⟨_,rfl,?_,rfl⟩
      simp [pack,sgn,nI]
     ·repeat (first | apply sS | apply sE | refine w_mv rfl ?_ | (apply is_bin; refine w_addA rfl ?_) | (apply is_bin; refine w_cF rfl ?_) | (refine w_neg rfl ?_ ?_; (focus omega)) | apply ai_seq | apply ai_regW | refine ai_cT rfl ?_ | refine ai_cF rfl ?_ | apply ai_exit | (apply ai_ret; repeat (first | rw [thenQ_r] | rw [blockQ_r] | rw [roundE_r])))
      refine ⟨_,rfl,?_,rfl⟩
      simp [pack,sgn,nI]
theorem in_ok (h : Hp) (n lo hi : Int) : ACall PX 74 [nI n,nI lo,nI hi] h (fun v g => v = .bool (inB n lo hi) ∧ h = g) := by
 unfold inB
 refine acallA Tryz.func74 c74 ?_
 unfold ir74
 dsimp only [qo,qm,qk,q2,qi,qg,qn,qc,dq,ci,cb,qh,qs]
 by_cases h1 : lo ≤ n
 ·rw [decide_eq_true h1,Bool.true_and]
  by_cases h2 : n ≤ hi
  ·rw [decide_eq_true h2]
   repeat (first | apply sS | apply sE | refine w_mv rfl ?_ | refine w_pickT rfl ?_ | refine w_gT rfl rfl ?_ | (apply is_bin; refine w_cT rfl ?_) | apply ai_seq | apply ai_regW | (apply ai_ret; repeat (first | rw [thenQ_r] | rw [blockQ_r] | rw [roundE_r])))
   exact end_one rfl ⟨rfl,rfl⟩
  ·rw [decide_eq_false h2]
   repeat (first | apply sS | apply sE | refine w_mv rfl ?_ | refine w_pickT rfl ?_ | refine w_gT rfl rfl ?_ | (apply is_bin; refine w_cT rfl ?_) | (apply is_bin; refine w_cF rfl ?_) | apply ai_seq | apply ai_regW | (apply ai_ret; repeat (first | rw [thenQ_r] | rw [blockQ_r] | rw [roundE_r])))
   exact end_one rfl ⟨rfl,rfl⟩
 ·rw [decide_eq_false h1,Bool.false_and]
  repeat (first | apply sS | apply sE | refine w_mv rfl ?_ | refine w_pickF rfl ?_ | refine w_gF rfl rfl ?_ | (apply is_bin; refine w_cF rfl ?_) | apply ai_seq | apply ai_regW | (apply ai_ret; repeat (first | rw [thenQ_r] | rw [blockQ_r] | rw [roundE_r])))
  exact end_one rfl ⟨rfl,rfl⟩
def bsV (l : List UInt8) : Value := .string ⟨l.toArray⟩
theorem names_ok (h : Hp) : ACall PX 75 [] h (fun v g => v = .slice (some ⟨h.nx,0,none⟩) 20 20 ∧ Ext h g ∧ g.get h.nx = some ⟨nmB.map bsV,true,1⟩ ∧ h.nx < g.nx) := by
 refine acallA Tryz.func75 c75 ?_
 unfold ir75
 dsimp only [qo,qm,qk,q2,qi,qg,qn,qc,dq,ci,cb,qh,qs]
 repeat (first | apply sS | apply sE | refine w_mv rfl ?_ | apply ai_seq | apply ai_regW)
 refine w_bslF rfl rfl rfl rfl rfl ?_
 intro g xg hg hng
 repeat (first | apply sS | apply sE | refine w_mv rfl ?_ | (apply ai_ret; repeat (first | rw [thenQ_r] | rw [blockQ_r] | rw [roundE_r])))
 exact end_one rfl ⟨rfl,xg,hg,hng⟩
theorem values_ok (h : Hp) (c : Cf20) : ACall PX 73 [.agg ⟨cs20 c⟩] h (fun v g => v = .slice (some ⟨h.nx + 1,0,none⟩) 20 20 ∧ Ext h g ∧ g.get (h.nx + 1) = some ⟨cs20 c,true,1⟩ ∧ h.nx + 1 < g.nx) := by
 refine acallA Tryz.func73 c73 ?_
 unfold ir73
 dsimp only [qo,qm,qk,q2,qi,qg,qn,qc,dq,ci,cb,qh,qs]
 repeat (first | apply sS | apply sE | refine w_mv rfl ?_ | (refine is_okk rfl ?_; refine w_op rfl ?_) | (apply is_ld; refine w_ldA rfl ?_) | apply ai_seq | apply ai_regW)
 refine w_bslF rfl rfl rfl rfl rfl ?_
 intro g xg hg hng
 repeat (first | apply sS | apply sE | refine w_mv rfl ?_ | (apply ai_ret; repeat (first | rw [thenQ_r] | rw [blockQ_r] | rw [roundE_r])))
 exact end_one rfl ⟨rfl,(Ext.new _ _).trans xg,hg,hng⟩
def wrR (c : Cf20) (b1 b2 : Bool) : List (ByteArray × Bool) := (nmB.map fun l => (⟨l.toArray⟩ : ByteArray)).zip [inB c.target 10 1000000,inB c.util 100 1000,inB c.stable 6 600,inB c.panic 1 c.stable,inB c.grain 1 c.panic,inB c.threshold 1100 10000,inB c.up 1001 1000000,inB c.down 1001 1000000,inB c.min 0 100,(b1 || inB c.max (if 1 > c.min then 1 else c.min) 100),inB c.initial 0 (if 0 < c.max then c.max else 100),inB c.grace 0 600,inB c.delay 0 600,(b2 || inB c.burst 0 100000000),inB c.limit 1 1000,inB c.queue 0 200,inB c.timeout 1 10000,inB c.ready 0 100,inB c.subset 0 100,inB c.sample 0 100]
set_option maxHeartbeats 4000000 in
set_option maxRecDepth 10000 in
theorem rwrong_ok (h : Hp) (c : Cf20) : ACall PX 41 [.agg ⟨cs20 c⟩] h (fun v g => v = .string (wrongF (wrR c (c.max == 0) (c.burst == -1000))) ∧ Ext h g) := by
 refine acallA Tryz.func41 c41 ?_
 unfold ir41
 dsimp only [qo,qm,qk,q2,qi,qg,qn,qc,dq,ci,cb,qh,qs]
 refine ai_seq (ai_regW (sS (w_box rfl fun g1 x1 k1 n1 => ?_)))
 repeat (first | apply sS | apply sE | refine w_mv rfl ?_ | (apply is_ldn; refine w_ldnA rfl ?_) | apply ai_seq | apply ai_regW)
 refine w_call rfl ((values_ok _ c).mono ?_)
 rintro v g2 ⟨rfl,x2,k2,n2⟩
 have k3 := (x2.2 _ n1).trans k1
 repeat (first | apply sS | apply sE | refine w_mv rfl ?_)
 refine ai_seq ?_
 repeat (first | apply sS | apply sE | refine w_mv rfl ?_ | apply ai_regW)
 refine ai_join (γ := Unit) (fun _ => [(3,.slice (some ⟨g1.nx + 1,0,none⟩) 20 20),(4,nI (if 0 < c.max then c.max else 100))]) (fun _ g => g = g2) ?_ ?_
 ·refine ai_seq ?_
  repeat (first | apply sS | (refine is_okk rfl ?_; refine w_op rfl ?_) | (apply is_ld; refine w_ldA rfl ?_) | apply ai_regW)
  by_cases h0 : 0 < c.max
  ·rw [if_pos h0]
   repeat (first | apply sS | apply sE | refine w_mv rfl ?_ | (refine is_okk rfl ?_; refine w_op rfl ?_) | (apply is_ld; refine w_ldA rfl ?_) | (apply is_bin; refine w_cT rfl ?_) | apply ai_regW | refine ai_cT rfl ?_)
   exact ⟨rfl,(),leX,rfl⟩
  ·rw [if_neg h0]
   repeat (first | apply sE | (apply is_bin; refine w_cF rfl ?_) | refine ai_cF rfl ?_ | apply ai_skip)
   exact ⟨rfl,(),leX,rfl⟩
 rintro _ _ rfl
 have x12 := x1.trans x2
 refine ai_join (γ := Nat) (fun j => [(5,.slice (some ⟨j,0,none⟩) 20 20)]) (fun j g' => Ext h g' ∧ j < g'.nx ∧ g'.get j = some ⟨(wrR c (c.max == 0) (c.burst == -1000)).map (fun p => .bool p.2),true,1⟩) ?_ ?_
 ·refine ai_drwW (by kernel_rfl) ?_
  repeat (first | apply dS | refine w_mv rfl ?_ | (apply is_ld; refine w_ldA rfl ?_) | (apply is_iad; refine w_iadA rfl ?_))
  refine w_op rfl ?_
  generalize (c.max == 0) = b1
  repeat (first | apply dS | refine w_mv rfl ?_ | (apply is_ld; refine w_ldA rfl ?_) | (apply is_iad; refine w_iadA rfl ?_))
  refine w_op rfl ?_
  generalize (c.burst == -1000) = b2
  repeat (first | apply dS | apply dSR | (apply is_ag; refine agSA ?_) | refine w_mv rfl ?_ | (apply is_ld; refine w_ldA rfl ?_) | (apply is_iad; refine w_iadA rfl ?_) | (refine w_callE ((in_ok _ _ _ _).mono ?_) rfl rfl; rintro _ _ ⟨rfl,rfl⟩))
  repeat (first | refine dS ?_ | refine dSR ?_ | refine w_gB rfl (by intro hc; simp at hc; subst hc; first | rfl | exact o_ldF rfl (rd_g ‹_› rfl)) ?_)
  refine w_gBc rfl (fun _ _ hr c => c.mono hr) (by intro hc; simp at hc; subst hc; rfl) (in_ok _ _ _ _) ?_
  refine agSA ?_
  refine dS (w_v rfl (v2 := .bool (b1 || inB c.max (if 1 > c.min then 1 else c.min) 100)) (by cases b1 <;> rfl) ?_)
  repeat (first | apply dS | apply dSR | (apply is_ag; refine agSA ?_) | refine w_mv rfl ?_ | (refine w_callE ((in_ok _ _ _ _).mono ?_) rfl rfl; rintro _ _ ⟨rfl,rfl⟩))
  repeat (first | refine dS ?_ | refine dSR ?_ | refine w_gB rfl (by intro hc; simp at hc; subst hc; first | rfl | exact o_ldF rfl (rd_g ‹_› rfl)) ?_)
  refine w_gBc rfl (fun _ _ hr c => c.mono hr) (by intro hc; simp at hc; subst hc; rfl) (in_ok _ _ _ _) ?_
  refine agSA ?_
  refine dS (w_v rfl (v2 := .bool (b2 || inB c.burst 0 100000000)) (by cases b2 <;> rfl) ?_)
  repeat (first | apply dS | apply dSR | (apply is_ag; refine agSA ?_) | (refine w_callE ((in_ok _ _ _ _).mono ?_) rfl rfl; rintro _ _ ⟨rfl,rfl⟩))
  refine w_bslF rfl rfl rfl rfl rfl ?_
  intro g3 x3 k4 n4
  repeat (first | apply dS | apply dE | refine w_mv rfl ?_)
  exact ⟨rfl,_,leX,x12.trans x3,n4,k4⟩
 rintro j g3 ⟨x3,nj,kj⟩
 have hn : ((wrR c (c.max == 0) (c.burst == -1000)).map fun p => p.1) = nmB.map fun l => (⟨l.toArray⟩ : ByteArray) := rfl
 have hl20 : (wrR c (c.max == 0) (c.burst == -1000)).length = 20 := rfl
 generalize wrR c (c.max == 0) (c.burst == -1000) = l at kj hl20 hn ⊢
 repeat (first | apply sS | apply sE | refine w_mv rfl ?_ | apply ai_seq | apply ai_regW | apply ai_block)
 refine ai_loopE (γ := Nat) (fun i => [(5,.slice (some ⟨j,0,none⟩) 20 20),(6,nI i)]) (fun i g' => Ext g3 g' ∧ i ≤ 20 ∧ wrongF (l.drop i) = wrongF l) (fun i => 20 - i) 0
  leX ⟨Ext.refl _,Nat.zero_le _,rfl⟩ ?_
 rintro i g4 ⟨x4,hi,hwr⟩
 by_cases hi20 : i < 20
 ·obtain ⟨p,hp⟩ : ∃ p,l[i]? = some p := ⟨_,List.getElem?_eq_getElem (by omega)⟩
  have hp2 : l.drop i = p :: l.drop (i + 1) := by
   obtain ⟨h1,rfl⟩ := List.getElem?_eq_some_iff.1 hp
   exact List.drop_eq_getElem_cons h1
  rw [hp2] at hwr
  have hrd := rd_row ((x4.2 j nj).trans kj) (x := i) (v := .bool p.2) (by rw [List.getElem?_map,hp]; rfl)
  obtain ⟨s,b⟩ := p
  dsimp only [wrongF] at hwr
  cases b
  ·rw [if_neg (by decide)] at hwr
   repeat (first | apply sS | apply sE | refine w_mv rfl ?_ | (refine is_okk rfl ?_; refine w_op rfl ?_) | (apply is_ld; refine w_ldA rfl ?_) | (apply is_bin; refine w_cT rfl ?_) | (apply is_iad; refine w_iadA rfl ?_) | apply ai_seq | apply ai_regW | refine ai_cT rfl ?_ | apply ai_skip | apply ai_block)
   refine w_call rfl ((names_ok _).mono ?_)
   rintro v g5 ⟨rfl,x5,k5,n5⟩
   have hs : (nmB.map bsV)[i]? = some (.string s) := by
    have h1 : (l.map fun p => p.1)[i]? = some s := by rw [List.getElem?_map,hp]; rfl
    rw [hn,List.getElem?_map] at h1
    rw [List.getElem?_map]
    cases hq : nmB[i]? with
    | none => rw [hq] at h1; cases h1
    | some q => rw [hq] at h1; exact congrArg some (congrArg Value.string (Option.some.inj h1))
   have hrd2 := rd_row k5 hs
   repeat (first | apply sS | apply sE | refine w_mv rfl ?_ | (apply is_ld; refine w_ldA rfl ?_) | (apply is_iad; refine w_iadA rfl ?_) | (apply ai_ret; repeat (first | rw [thenQ_r] | rw [blockQ_r] | rw [roundE_r])))
   exact end_one rfl ⟨by rw [hwr],(x3.trans x4).trans x5⟩
  ·rw [if_pos rfl] at hwr
   repeat (first | apply sS | apply sE | refine w_mv rfl ?_ | (refine is_okk rfl ?_; refine w_op rfl ?_) | (apply is_ld; refine w_ldA rfl ?_) | (apply is_bin; refine w_addA rfl ?_) | (apply is_bin; refine w_cT rfl ?_) | (apply is_iad; refine w_iadA rfl ?_) | apply ai_seq | apply ai_regW | refine ai_cT rfl ?_ | refine ai_cF rfl ?_ | apply ai_skip | apply ai_block)
   exact ⟨i + 1,leX,⟨x4,by omega,hwr⟩,by dsimp only; omega⟩
 ·have e20 : i = l.length := by omega
  rw [e20,List.drop_length] at hwr
  repeat (first | apply sS | apply sE | refine w_mv rfl ?_ | (refine is_okk rfl ?_; refine w_op rfl ?_) | (apply is_bin; refine w_cF rfl ?_) | apply ai_seq | apply ai_regW | refine ai_cF rfl ?_ | apply ai_exit | (apply ai_ret; repeat (first | rw [thenQ_r] | rw [blockQ_r] | rw [roundE_r])))
  exact end_one rfl ⟨by rw [← hwr]; rfl,x3.trans x4⟩
theorem all_snd : ∀ (l : List (ByteArray × Bool)),(l.all fun p => p.2) = (l.map fun p => p.2).all id
 | [] => rfl
 | p :: l => by rw [List.all_cons,List.map_cons,List.all_cons,all_snd l]; rfl
theorem wrR_may (c : Cf20) : ((wrR c (c.max == 0) (c.burst == -1000)).all fun p => p.2) = mayB c := by
 unfold mayB
 rw [all_snd,all_snd]
 show List.all [inB c.target 10 1000000,inB c.util 100 1000,inB c.stable 6 600,inB c.panic 1 c.stable,inB c.grain 1 c.panic,inB c.threshold 1100 10000,inB c.up 1001 1000000,inB c.down 1001 1000000,inB c.min 0 100,(c.max == 0 || inB c.max (if 1 > c.min then 1 else c.min) 100),inB c.initial 0 (if 0 < c.max then c.max else 100),inB c.grace 0 600,inB c.delay 0 600,(c.burst == -1000 || inB c.burst 0 100000000),inB c.limit 1 1000,inB c.queue 0 200,inB c.timeout 1 10000,inB c.ready 0 100,inB c.subset 0 100,inB c.sample 0 100] id
  = List.all [inB c.target 10 1000000,inB c.util 100 1000,inB c.stable 6 600,inB c.panic 1 c.stable,inB c.grain 1 c.panic,inB c.threshold 1100 10000,inB c.up 1001 1000000,inB c.down 1001 1000000,inB c.min 0 100,(c.max == 0 || inB c.max (if 1 > c.min then 1 else c.min) 100),inB c.initial 0 (if c.max = 0 then 100 else c.max),inB c.grace 0 600,inB c.delay 0 600,(c.burst == -1000 || inB c.burst 0 100000000),inB c.limit 1 1000,inB c.queue 0 200,inB c.timeout 1 10000,inB c.ready 0 100,inB c.subset 0 100,inB c.sample 0 100] id
 by_cases hm : (c.max == 0 || inB c.max (if 1 > c.min then 1 else c.min) 100) = true
 ·have he : (if 0 < c.max then c.max else 100) = (if c.max = 0 then 100 else c.max) := by
   simp only [inB,Bool.or_eq_true,beq_iff_eq,Bool.and_eq_true,decide_eq_true_eq] at hm
   split <;> split <;> (try split at hm) <;> omega
  rw [he]
 ·have hm2 : (c.max == 0 || inB c.max (if 1 > c.min then 1 else c.min) 100) = false := by simpa using hm
  rw [hm2]
  simp
theorem rmay_ok (h : Hp) (c : Cf20) : ACall PX 15 [.agg ⟨cs20 c⟩] h (fun v g => v = .bool (mayB c) ∧ Ext h g) := by
 refine acallA Tryz.func15 c15 ?_
 unfold ir15
 dsimp only [qo,qm,qk,q2,qi,qg,qn,qc,dq,ci,cb,qh,qs]
 refine ai_seq (ai_regW (sS (w_box rfl fun g1 x1 k1 n1 => ?_)))
 repeat (first | apply sS | apply sE | refine w_mv rfl ?_ | (apply is_ldn; refine w_ldnA rfl ?_) | apply ai_seq | apply ai_regW)
 refine w_call rfl ((rwrong_ok _ c).mono ?_)
 rintro v g2 ⟨rfl,x2⟩
 repeat (first | apply sS)
 refine w_cmp (c2 := mayB c) rfl ((wrong_empty _ (by kernel_rfl)).trans (wrR_may c)) ?_
 repeat (first | apply sS | apply sE | refine w_mv rfl ?_ | (apply ai_ret; repeat (first | rw [thenQ_r] | rw [blockQ_r] | rw [roundE_r])))
 exact end_one rfl ⟨rfl,x1.trans x2⟩
theorem default_ok (h : Hp) : ACall PX 7 [] h (fun v g => v = .agg ⟨[nI 10000,nI 700,nI 60,nI 6,nI 1,nI 2000,nI 10000,nI 2000,nI 0,nI 0,nI 1,nI 30,nI 0,nI 20000,nI 10,nI 100,nI 60,nI 3,nI 0,nI 0]⟩ ∧ Ext h g) := by
 refine acallA Tryz.func7 c7 ?_
 unfold ir7
 dsimp only [qo,qm,qk,q2,qi,qg,qn,qc,dq,ci,cb,qh,qs]
 refine ai_seq (ai_regW (sS (w_new fun g x k n => sE ?_)))
 refine ai_seq ?_
 repeat (first | apply sS | apply ai_regW)
 refine w_op rfl ?_
 repeat (first | apply sSn)
 refine w_stN rfl rfl k rfl rfl fun g3 m3 k3 n3 => ?_
 repeat (first | apply sE | (apply ai_ret; repeat (first | rw [thenQ_r] | rw [blockQ_r] | rw [roundE_r])))
 exact end_cell1 rfl k3 Tryz.underlying27 rfl (by kernel_rfl) rfl ⟨rfl,x.own m3 n3⟩
def ptT : Bool → TypeId
 | true => 204
 | false => 205
def ptC (i : Nat) : List Value := (nmB.zipIdx).flatMap fun p => [bsV p.1,.iface (ptT (thinK p.2)) (.pointer (some ⟨i,p.2,none⟩))]
theorem parts_ok (h : Hp) (i : Nat) : ACall PX 89 [.pointer (some ⟨i,0,none⟩)] h (fun v g => v = .slice (some ⟨h.nx,0,none⟩) 20 20 ∧ Ext h g ∧ g.get h.nx = some ⟨ptC i,true,2⟩ ∧ h.nx < g.nx) := by
 refine acallA Tryz.func89 c89 ?_
 unfold ir89
 dsimp only [qo,qm,qk,q2,qi,qg,qn,qc,dq,ci,cb,qh,qs]
 repeat (first | apply sS | apply dS | apply sE | refine w_mv rfl ?_ | refine w_bldF rfl rfl rfl rfl rfl ?_ | (refine is_okk rfl ?_; refine w_op rfl ?_) | apply ai_seq | apply ai_regW | refine ai_drwW (by kernel_rfl) ?_)
 refine w_bslF rfl rfl rfl rfl rfl ?_
 intro g xg hg hng
 repeat (first | apply dS | apply dE | refine w_mv rfl ?_ | (apply ai_ret; repeat (first | rw [thenQ_r] | rw [blockQ_r] | rw [roundE_r])))
 exact end_one rfl ⟨rfl,xg,hg,hng⟩
def Md (i : Nat) (h g : Hp) : Prop := h.nx ≤ g.nx ∧ ∀ j,j < h.nx → j ≠ i → g.get j = h.get j
theorem Md.refl (i : Nat) (h : Hp) : Md i h h := ⟨Nat.le_refl _,fun _ _ _ => rfl⟩
theorem Md.trans {i : Nat} {a b c : Hp} (x : Md i a b) (y : Md i b c) : Md i a c := ⟨Nat.le_trans x.1 y.1,fun j hj hi => (y.2 j (Nat.lt_of_lt_of_le hj x.1) hi).trans (x.2 j hj hi)⟩
theorem Ext.md {i : Nat} {a b : Hp} (x : Ext a b) : Md i a b := ⟨x.1,fun j hj _ => x.2 j hj⟩
theorem Md.put {i : Nat} {a b c : Hp} (x : Md i a b) (m : ∀ k,k ≠ i → c.get k = b.get k) (n : c.nx = b.nx) : Md i a c := ⟨by rw [n]; exact x.1,fun j hj hi => (m j hi).trans (x.2 j hj hi)⟩
set_option maxHeartbeats 1000000 in
theorem set_ok (h : Hp) (nm l : List UInt8) (hl : l.length ≤ 1000000) {i k e : Nat} {us : List Value} (hg : h.get i = some ⟨us,true,e⟩) (hi : i < h.nx) (hk : k < us.length) :
  ACall PX 90 [.agg ⟨[bsV nm,.iface (ptT (thinK k)) (.pointer (some ⟨i,k,none⟩))]⟩,bs l] h (fun v g => v = .bool (setF k l).isSome ∧ Md i h g ∧ g.get i = some ⟨(match setF k l with | some n => us.set k (nI n) | none => us),true,e⟩) := by
 unfold setF
 refine acallA Tryz.func90 c90 ?_
 unfold ir90
 dsimp only [qo,qm,qk,q2,qi,qg,qn,qc,dq,ci,cb,qh,qs]
 refine ai_seq (ai_regW (sS (w_box rfl fun g1 x1 k1 n1 => ?_)))
 have k2 := (x1.2 i hi).trans hg
 cases ht : thinK k
 ·rw [ht] at k1
  simp only [Bool.false_eq_true,if_false]
  repeat (first | apply sS | apply sE | refine w_mv rfl ?_ | (refine is_okn rfl ?_; refine w_op rfl ?_) | refine w_ext rfl rfl ?_ | (apply is_ld; refine w_ldA rfl ?_) | (refine w_callE ((digits_ok l 6 (by decide) hl _).mono ?_) rfl rfl; rintro _ _ ⟨rfl,rfl⟩) | apply ai_seq | apply ai_regW | refine ai_cF rfl ?_ | apply ai_skip)
  cases hd : digF l 6 with
  | none =>
   repeat (first | apply sS | apply sE | refine w_mv rfl ?_ | apply ai_seq | apply ai_regW | refine ai_cF rfl ?_ | apply ai_skip | (apply ai_ret; repeat (first | rw [thenQ_r] | rw [blockQ_r] | rw [roundE_r])))
   exact end_one rfl ⟨rfl,x1.md,k2⟩
  | some n =>
   repeat (first | apply sS | apply sSn | refine w_mv rfl ?_ | (refine is_okn rfl ?_; refine w_op rfl ?_) | (apply is_ld; refine w_ldA rfl ?_) | apply ai_regW | refine ai_cT rfl ?_)
   refine w_st1 rfl rfl k2 hk rfl fun g2 m2 k3 n3 => ?_
   repeat (first | apply sS | apply sE | refine w_mv rfl ?_ | apply ai_seq | apply ai_regW | (apply ai_ret; repeat (first | rw [thenQ_r] | rw [blockQ_r] | rw [roundE_r])))
   exact end_one rfl ⟨rfl,x1.md.put m2 n3,k3⟩
 ·rw [ht] at k1
  simp only [if_true]
  repeat (first | apply sS | apply sE | refine w_mv rfl ?_ | (refine is_okn rfl ?_; refine w_op rfl ?_) | refine w_ext rfl rfl ?_ | (apply is_ld; refine w_ldA rfl ?_) | (refine w_callE ((number_ok l hl _).mono ?_) rfl rfl; rintro _ _ ⟨rfl,rfl⟩) | apply ai_seq | apply ai_regW | refine ai_cT rfl ?_)
  cases hd : numF l with
  | none =>
   repeat (first | apply sS | apply sE | refine w_mv rfl ?_ | apply ai_seq | apply ai_regW | refine ai_cF rfl ?_ | apply ai_skip | (apply ai_ret; repeat (first | rw [thenQ_r] | rw [blockQ_r] | rw [roundE_r])))
   exact end_one rfl ⟨rfl,x1.md,k2⟩
  | some n =>
   repeat (first | apply sS | apply sSn | refine w_mv rfl ?_ | (refine is_okn rfl ?_; refine w_op rfl ?_) | apply ai_regW | refine ai_cT rfl ?_)
   refine w_st1 rfl rfl k2 hk rfl fun g2 m2 k3 n3 => ?_
   repeat (first | apply sS | apply sE | refine w_mv rfl ?_ | apply ai_seq | apply ai_regW | (apply ai_ret; repeat (first | rw [thenQ_r] | rw [blockQ_r] | rw [roundE_r])))
   exact end_one rfl ⟨rfl,x1.md.put m2 n3,k3⟩
end Go.Proofs.YtelmcfnkclihcaaGreatDoorW.Am
namespace Go.Proofs.YtelmcfnkclihcaaGreatDoorW.Am
open Go
section
theorem splitK_ne {b c : UInt8} (l : List UInt8) (h : b ≠ c) (k : Nat) : Go.Lib.splitK [c] 0 k (b :: l) = consH b (Go.Lib.splitK [c] 0 k l) := by
 cases k with
 | zero => rfl
 | succ k =>
  have hp : ([c] : List UInt8).isPrefixOf (b :: l) = false := by simp [List.isPrefixOf,Ne.symm h]
  have hix : Go.Lib.index (b :: l) [c] = if Go.Lib.index l [c] == -1 then -1 else Go.Lib.index l [c] + 1 := by rw [Go.Lib.index,hp]; simp
  simp only [Go.Lib.splitK]
  by_cases hm : Go.Lib.index l [c] = -1
  ·rw [if_pos (by rw [hix,if_pos (beq_iff_eq.2 hm)]; rfl),if_pos (beq_iff_eq.2 hm)]
   rfl
  ·have hge := Go.Lib.index_ge l [c]
   obtain ⟨j,hj⟩ : ∃ j : Nat,Go.Lib.index l [c] = j := ⟨(Go.Lib.index l [c]).toNat,by omega⟩
   have hb : ¬ (Go.Lib.index l [c] == -1) = true := fun e => hm (beq_iff_eq.1 e)
   have hix2 : Go.Lib.index (b :: l) [c] = ((j + 1 : Nat) : Int) := by rw [hix,if_neg hb,hj]; omega
   rw [if_neg (by rw [hix2]; intro e; have := beq_iff_eq.1 e; omega),if_neg hb,hix2,hj]
   simp [consH]
theorem splitK_eq (c : UInt8) (l : List UInt8) (k : Nat) : Go.Lib.splitK [c] 0 (k + 1) (c :: l) = [] :: Go.Lib.splitK [c] 0 k l := by
 have hix : Go.Lib.index (c :: l) [c] = ((0 : Nat) : Int) := by rw [Go.Lib.index]; simp [List.isPrefixOf]
 simp only [Go.Lib.splitK]
 rw [if_neg (by rw [hix]; decide),hix]
 simp
theorem lines_split : ∀ l : List UInt8,Go.Lib.splitK [10] 0 (l.count 10) l = linesL l
 | [] => rfl
 | b :: l => by
  by_cases h : b = 10
  ·subst h
   rw [List.count_cons_self,splitK_eq,lines_split l]
   rfl
  ·rw [List.count_cons_of_ne (by simpa using h),splitK_ne l h,lines_split l]
   simp [linesL,h]
theorem countB_10 (l : List UInt8) : Go.Lib.countB ⟨l.toArray⟩ ⟨#[10]⟩ = l.count 10 := Go.Lib.count_one 10 l
theorem splitB_lines (l : List UInt8) : (Go.Lib.splitB ⟨#[10]⟩ 0 (Go.Lib.countB ⟨l.toArray⟩ ⟨#[10]⟩) ⟨l.toArray⟩).map Value.string = (linesL l).map bsV := by
 have h1 := Go.Lib.splitB_data ⟨#[10]⟩ 0 (Go.Lib.countB ⟨l.toArray⟩ ⟨#[10]⟩) ⟨l.toArray⟩
 have h2 : ((Go.Lib.splitB ⟨#[10]⟩ 0 (Go.Lib.countB ⟨l.toArray⟩ ⟨#[10]⟩) ⟨l.toArray⟩).map (·.data.toList)).map bsV = (Go.Lib.splitB ⟨#[10]⟩ 0 (Go.Lib.countB ⟨l.toArray⟩ ⟨#[10]⟩) ⟨l.toArray⟩).map Value.string := by
  rw [List.map_map]
  rfl
 rw [← h2,h1,countB_10]
 exact congrArg (List.map bsV) (lines_split l)
theorem lines_len (l : List UInt8) : (linesL l).length = Go.Lib.countB ⟨l.toArray⟩ ⟨#[10]⟩ + 1 := by
 have := congrArg List.length (splitB_lines l)
 rw [List.length_map,List.length_map,Go.Lib.splitB_all ⟨#[10]⟩ (Nat.le_refl _) 0 _ _ rfl] at this
 exact this.symm
theorem consH_mem {b : UInt8} {L : List (List UInt8)} {n : Nat} (h : ∀ a ∈ L,a.length ≤ n) : ∀ a ∈ consH b L,a.length ≤ n + 1 := by
 intro a ha
 cases L with
 | nil => simp [consH] at ha; subst ha; simp
 | cons x t =>
  simp [consH] at ha
  rcases ha with rfl | ha
  ·have := h x (by simp); simp; omega
  ·have := h a (by simp [ha]); omega
theorem lines_short : ∀ (l : List UInt8),∀ a ∈ linesL l,a.length ≤ l.length
 | [],a,h => by simp [linesL] at h; subst h; simp
 | b :: l,a,h => by
  by_cases hb : b = 10
  ·simp [linesL,hb] at h
   rcases h with rfl | h
   ·simp
   ·have := lines_short l a h; simp; omega
  ·simp only [linesL,if_neg hb] at h
   exact consH_mem (lines_short l) a h
theorem findN_some {nm : List UInt8} {k : Nat} (h : findN nm = some k) : nmB[k]? = some nm := by
 unfold findN at h
 rw [List.findIdx?_eq_some_iff_getElem] at h
 obtain ⟨hk,h1,_⟩ := h
 rw [List.getElem?_eq_getElem hk]
 exact congrArg some (by simpa using h1)
theorem nm_inj {j k : Nat} {nm : List UInt8} (h1 : nmB[j]? = some nm) (h2 : nmB[k]? = some nm) : j = k := by
 have hj := (List.getElem?_eq_some_iff.1 h1).1
 have hk := (List.getElem?_eq_some_iff.1 h2).1
 have hn : nmB.Nodup := by decide
 have e1 := (List.getElem?_eq_some_iff.1 h1).2
 have e2 := (List.getElem?_eq_some_iff.1 h2).2
 exact (List.getElem_inj hn).1 (e1.trans e2.symm)
theorem findN_at {nm : List UInt8} {k : Nat} (h : nmB[k]? = some nm) : findN nm = some k := by
 cases hf : findN nm with
 | none =>
  unfold findN at hf
  rw [List.findIdx?_eq_none_iff] at hf
  have := hf nm (List.mem_of_getElem? h)
  simp at this
 | some j => rw [nm_inj (findN_some hf) h]
theorem findN_lt {nm : List UInt8} {k : Nat} (h : findN nm = some k) : k < 20 := (List.getElem?_eq_some_iff.1 (findN_some h)).1
section
variable (S : Nat → List UInt8 → Option Int)
end
theorem vl_of {l : List Int} (h : l.length = 20) : ∃ c,vl c = l := by
 match l,h with
 | [a0,a1,a2,a3,a4,a5,a6,a7,a8,a9,b0,b1,b2,b3,b4,b5,b6,b7,b8,b9],_ => exact ⟨⟨a0,a1,a2,a3,a4,a5,a6,a7,a8,a9,b0,b1,b2,b3,b4,b5,b6,b7,b8,b9⟩,rfl⟩
end
end Go.Proofs.YtelmcfnkclihcaaGreatDoorW.Am
namespace Go.Proofs.YtelmcfnkclihcaaGreatDoorW.Am
open Go Go.RowKit
section
theorem trim_br (l : List UInt8) (hl : l.length ≤ 1000000) (h : Hp) : ACall PX 87 [bs l,.string ⟨#[32]⟩] h (fun v g => v = bs (Go.Lib.trimB l 32) ∧ h = g) :=
 bridge (enters_comp Tryz.func87 c87) rfl rfl (fun w _ => (Tryz.strings_Trim_one ⟨l.toArray⟩ 32 (by decide) w (by show l.toArray.size ≤ _; rw [List.size_toArray]; omega)).mono (by
  rintro e w' ⟨rfl,hw⟩
  refine ⟨rfl,?_,fun d => (dr_no d).elim⟩
  rcases hw with rfl | rfl
  ·exact Below.refl _ _
  ·exact below_drewN w 1)) h
theorem split_br (l : List UInt8) (hl : l.length ≤ 1000000) (h : Hp) : ACall PX 86 [bs l,.string ⟨#[10]⟩] h (fun v g => v = .slice (some ⟨h.nx,0,none⟩) (linesL l).length (linesL l).length ∧ Ext h g ∧ g.get h.nx = some ⟨(linesL l).map bsV,true,1⟩ ∧ h.nx < g.nx) := by
 refine ⟨enters_comp Tryz.func86 c86,fun base w0 m w args' ra s => ?_⟩
 obtain rfl := ra.flat_eq rfl
 obtain ⟨mm,hm⟩ := (s.below.tb w s.below.bl).2
 refine (Tryz.strings_Split ⟨l.toArray⟩ ⟨#[10]⟩ mm w (by show l.toArray.size < _; rw [List.size_toArray]; omega) hm (Nat.le_refl _)).mono ?_
 rintro e w' ⟨rfl,rfl⟩
 rw [splitB_lines,← lines_len]
 have hr : RVs m ((linesL l).map bsV) ((linesL l).map bsV) := RVs.of_flat (List.all_eq_true.2 (by intro x hx; obtain ⟨b,_,rfl⟩ := List.mem_map.1 hx; rfl))
 obtain ⟨h1,h2⟩ := new_obj s 9 1 hr (fun q => absurd q (by decide))
 refine ⟨_,.slice (some ⟨h.nx,0,none⟩) (linesL l).length (linesL l).length,_,h.new ⟨(linesL l).map bsV,true,1⟩,rfl,h1,?_,h2,rfl,Ext.new _ _,new_get _ _,by simp [Hp.new]⟩
 have := RV.slice (m := m.add h.nx ⟨w.heap.size,0,0⟩) (i := h.nx) (o := 0) (n := (linesL l).length) (c := (linesL l).length) (Mu.add_same m h.nx ⟨w.heap.size,0,0⟩)
 simpa using this
def mpC (ws : List Nat) : List Value := ws.flatMap fun k => [bsV (nmB.getD k []),.bool true]
def seenB (nm : List UInt8) (ws : List Nat) : Bool := ws.any fun k => nm == nmB.getD k []
theorem baeq (l m : List UInt8) : ((⟨l.toArray⟩ : ByteArray) == ⟨m.toArray⟩) = (l == m) := by
 rw [beq_toListBytes,ByteArray.toList_eq,ByteArray.toList_eq]
theorem seen_cons (nm : List UInt8) (k : Nat) (ws : List Nat) : seenB nm (k :: ws) = (nm == nmB.getD k [] || seenB nm ws) := rfl
theorem mp_cons (k : Nat) (ws : List Nat) : mpC (k :: ws) = .string ⟨(nmB.getD k []).toArray⟩ :: .bool true :: mpC ws := rfl
theorem mfind_mp (nm : List UInt8) : ∀ ws,mfind ⟨nm.toArray⟩ (mpC ws) = some (if seenB nm ws = true then some (.bool true) else none)
 | [] => rfl
 | k :: ws => by
  have ih := mfind_mp nm ws
  rw [mp_cons,seen_cons]
  simp only [mfind,baeq]
  by_cases he : (nm == nmB.getD k []) = true
  ·rw [he]; rfl
  ·have he2 : (nm == nmB.getD k []) = false := by simpa using he
   rw [he2,if_neg (by simp),Bool.false_or]
   exact ih
theorem mput_new (nm : List UInt8) (x : Value) : ∀ ws,seenB nm ws = false → mput ⟨nm.toArray⟩ x (mpC ws) = some (mpC ws ++ [bsV nm,x])
 | [],_ => rfl
 | k :: ws,h => by
  rw [seen_cons,Bool.or_eq_false_iff] at h
  have ih := mput_new nm x ws h.2
  rw [mp_cons]
  simp only [mput,baeq]
  rw [h.1,ih,if_neg (by simp)]
  rfl
theorem mput_any (nm : List UInt8) (x : Value) : ∀ ws,∃ c,mput ⟨nm.toArray⟩ x (mpC ws) = some c
 | [] => ⟨_,rfl⟩
 | k :: ws => by
  obtain ⟨c,ih⟩ := mput_any nm x ws
  rw [mp_cons]
  simp only [mput,baeq]
  by_cases he : (nm == nmB.getD k []) = true
  ·rw [if_pos he]; exact ⟨_,rfl⟩
  ·rw [if_neg he,ih]; exact ⟨_,rfl⟩
theorem seen_mem {nm : List UInt8} {k : Nat} {ws : List Nat} (h : findN nm = some k) (hw : ∀ j ∈ ws,j < 20) : seenB nm ws = ws.contains k := by
 rw [Bool.eq_iff_iff]
 simp only [seenB,List.any_eq_true,List.contains_iff_mem,beq_iff_eq]
 have hk := findN_some h
 constructor
 ·rintro ⟨j,hj,e⟩
  have hj2 : nmB[j]? = some nm := by
   rw [e,List.getD_eq_getElem?_getD,List.getElem?_eq_getElem (show j < nmB.length from hw j hj)]
   rfl
  rwa [nm_inj hk hj2]
 ·intro hm
  refine ⟨k,hm,?_⟩
  rw [List.getD_eq_getElem?_getD,hk]
  rfl
section
variable {P : Program} {CT : FuncId → List Value → Hp → (Value → Hp → Prop) → Prop} {d : Option Nat} {xs : List Operand} {env : Env} {h : Hp} {R : Value → Hp → Prop}
theorem w_mlk {i e : Nat} {nm : List UInt8} {ws : List Nat} {b : Bool} (ex : mapF env xs = some [.map (some i),bs nm]) (hg : h.get i = some ⟨mpC ws,b,e⟩) (n : R (.bool (seenB nm ws)) h) : WI P CT ⟨d,none,.op (.mlk (.bool false) false) xs⟩ env h R := by
 refine w_op (v := .bool (seenB nm ws)) (h' := h) ?_ n
 unfold opF
 rw [ex]
 simp only [bs,stepK,hg,mfind_mp]
 cases seenB nm ws <;> rfl
theorem w_mup {i e : Nat} {nm : List UInt8} {x : Value} {us c : List Value} {b : Bool} (ex : mapF env xs = some [.map (some i),bs nm,x]) (hg : h.get i = some ⟨us,b,e⟩) (hf : flat x = true) (hc : mput ⟨nm.toArray⟩ x us = some c)
  (n : ∀ g,(∀ k,k ≠ i → g.get k = h.get k) → g.get i = some ⟨c,b,e⟩ → g.nx = h.nx → R undef g) : WI P CT ⟨d,none,.op .mup xs⟩ env h R := by
 refine w_op (v := undef) (h' := h.put i ⟨c,b,e⟩) ?_ (n _ (fun _ hk => hput_ne _ _ hk) (hput_same _ _ _) rfl)
 unfold opF
 rw [ex]
 simp only [bs,stepK,hg,hf,if_true,hc]
end
theorem end_cell3 {P : Program} {R : Value → Hp → Prop} {env : Env} {h : Hp} {a x y i n m : Nat} {t : TypeId} {dd : TypeDesc} {us : List Value} {b : Bool} {u v : Value} (e : getF env a = some (.pointer (some ⟨i,0,none⟩))) (e2 : getF env x = some u) (e3 : getF env y = some v) (hg : h.get i = some ⟨us,b,m⟩) (hu : P.underlying t = some dd) (hd : isAggD dd = true) (hi : (P.info? t).map (·.size) = some n) (hl : us.length = n) (r : R (.tuple #[.agg ⟨us⟩,u,v]) h) : endQ P [.cell a t,.tmp x,.tmp y] R .ret env h := by
 refine ⟨[.agg ⟨us⟩,u,v],?_,r⟩
 rw [getF_eq] at e e2 e3
 cases hti : P.info? t with
 | none => rw [hti] at hi; cases hi
 | some ti =>
 rw [hti] at hi
 have hn : ti.size = n := Option.some.inj hi
 have : h.rd i 0 ti.size = some us := rd_all hg (by rw [hl,hn])
 simp [resAll,resOne,e,e2,e3,hu,hd,hti,this]
theorem ptC_at (i : Nat) {j : Nat} (hj : j < 20) : ((ptC i).drop (j * 2)).take 2 = [bsV (nmB.getD j []),.iface (ptT (thinK j)) (.pointer (some ⟨i,j,none⟩))] := by
 have : j = 0 ∨ j = 1 ∨ j = 2 ∨ j = 3 ∨ j = 4 ∨ j = 5 ∨ j = 6 ∨ j = 7 ∨ j = 8 ∨ j = 9 ∨ j = 10 ∨ j = 11 ∨ j = 12 ∨ j = 13 ∨ j = 14 ∨ j = 15 ∨ j = 16 ∨ j = 17 ∨ j = 18 ∨ j = 19 := by omega
 rcases this with rfl | rfl | rfl | rfl | rfl | rfl | rfl | rfl | rfl | rfl | rfl | rfl | rfl | rfl | rfl | rfl | rfl | rfl | rfl | rfl <;> rfl
theorem ptC_rd {h : Hp} {q i e : Nat} {b : Bool} (hg : h.get q = some ⟨ptC i,b,e⟩) {j : Nat} (hj : j < 20) : h.rd q (0 + j * 2) 2 = some [bsV (nmB.getD j []),.iface (ptT (thinK j)) (.pointer (some ⟨i,j,none⟩))] := by
 have hl : (ptC i).length = 40 := rfl
 unfold Hp.rd
 simp only [hg,Nat.zero_add]
 rw [if_pos (by omega),ptC_at i hj]
end
theorem trimB_len (l : List UInt8) (c : UInt8) : (Go.Lib.trimB l c).length ≤ l.length := by
 unfold Go.Lib.trimB Go.Lib.trimLeftB
 exact Nat.le_trans (dw_len _ _) (trimR_len l c)
def hitB (nm : List UInt8) (was : List Nat) : Option Nat := match findN nm with
 | some k => if was.contains k = true then none else some k
 | none => none
def stp (nm val : List UInt8) (v : List Int) (was : List Nat) (j : Nat) : Bool × List Int := match hitB nm was with
 | some k => if k < j then ((setF k val).isSome,match setF k val with | some n => v.set k n | none => v) else (false,v)
 | none => (false,v)
theorem stp_zero (nm val : List UInt8) (v : List Int) (was : List Nat) : stp nm val v was 0 = (false,v) := by
 unfold stp
 split
 ·rw [if_neg (Nat.not_lt_zero _)]
 ·rfl
theorem stp_miss {nm val : List UInt8} {v : List Int} {was : List Nat} {j : Nat} (h : hitB nm was ≠ some j) : stp nm val v was (j + 1) = stp nm val v was j := by
 unfold stp
 split
 ·next k hk =>
  have : k ≠ j := fun e => h (by rw [hk,e])
  by_cases hj : k < j
  ·rw [if_pos hj,if_pos (by omega)]
  ·rw [if_neg hj,if_neg (by omega)]
 ·rfl
theorem stp_at {nm val : List UInt8} {v : List Int} {was : List Nat} {j : Nat} (h : hitB nm was = some j) : stp nm val v was j = (false,v) ∧ stp nm val v was (j + 1) = ((setF j val).isSome,match setF j val with | some n => v.set j n | none => v) := by
 unfold stp
 rw [h]
 simp
theorem stp_no {nm val : List UInt8} {v : List Int} {was : List Nat} (h : (stp nm val v was 20).1 = false) : ∀ k n,findN nm = some k → setF k val = some n → was.contains k = true := by
 intro k n hk hn
 cases hc : was.contains k
 ·exfalso
  have hh : hitB nm was = some k := by
   unfold hitB
   rw [hk]
   simp only [hc]
   rfl
  unfold stp at h
  rw [hh] at h
  simp only [if_pos (findN_lt hk),hn] at h
  cases h
 ·rfl
theorem stp_yes {nm val : List UInt8} {v us : List Int} {was : List Nat} (h : stp nm val v was 20 = (true,us)) : ∃ k n,findN nm = some k ∧ setF k val = some n ∧ was.contains k = false ∧ us = v.set k n := by
 unfold stp at h
 split at h
 ·next k hk =>
  unfold hitB at hk
  split at hk
  ·next k2 hf =>
   split at hk
   ·cases hk
   ·next hc =>
    cases hk
    rw [if_pos (findN_lt hf)] at h
    cases hn : setF k val with
    | none => rw [hn] at h; cases h
    | some n => rw [hn] at h; cases h; exact ⟨k,n,hf,hn,by simpa using hc,rfl⟩
  ·cases hk
 ·cases h
def MdT (x m : Nat) (h g : Hp) : Prop := h.nx ≤ g.nx ∧ ∀ j,j < h.nx → j ≠ x → j ≠ m → g.get j = h.get j
theorem MdT.refl (x m : Nat) (h : Hp) : MdT x m h h := ⟨Nat.le_refl _,fun _ _ _ _ => rfl⟩
theorem MdT.trans {x m : Nat} {a b c : Hp} (p : MdT x m a b) (q : MdT x m b c) : MdT x m a c := ⟨Nat.le_trans p.1 q.1,fun j hj h1 h2 => (q.2 j (Nat.lt_of_lt_of_le hj p.1) h1 h2).trans (p.2 j hj h1 h2)⟩
theorem Md.two {x m : Nat} {a b : Hp} (p : Md x a b) : MdT x m a b := ⟨p.1,fun j hj h1 _ => p.2 j hj h1⟩
theorem u8_eq (b c : UInt8) : ((b.toNat : Int) == (c.toNat : Int)) = (b == c) := by
 by_cases h : b = c
 ·subst h; simp
 ·have h2 : b.toNat ≠ c.toNat := fun q => h (UInt8.toNat_inj.1 q)
  rw [show (b == c) = false by simpa using h]
  simp
  omega
theorem map_set (v : List Int) (k : Nat) (n : Int) : (v.map nI).set k (nI n) = (v.set k n).map nI := by rw [List.map_set]
theorem Md.trans' {i k : Nat} {a b c : Hp} (p : Md i a b) (m : ∀ j,j ≠ k → c.get j = b.get j) (n : c.nx = b.nx) (hk : a.nx ≤ k) : Md i a c := ⟨by rw [n]; exact p.1,fun j hj hi => (m j (by omega)).trans (p.2 j hj hi)⟩
theorem Ext.own' {h a b : Hp} {i : Nat} (x : Ext h a) (m : ∀ k,k ≠ i → b.get k = a.get k) (n : b.nx = a.nx) (hi : h.nx ≤ i) : Ext h b := ⟨by rw [n]; exact x.1,fun k hk => (m k (by omega)).trans (x.2 k hk)⟩
set_option maxRecDepth 10000 in
set_option maxHeartbeats 8000000 in
theorem tparse_ok (c : Cf20) (s : List UInt8) (hs : s.length ≤ 1000000) (h : Hp) : ACall PX 60 [.agg ⟨cs20 c⟩,bs s] h (fun v g => v = .tuple #[.agg ⟨cs20 (parseF setF c s).1⟩,nI (parseF setF c s).2.1,nI (parseF setF c s).2.2] ∧ Ext h g) := by
 obtain ⟨R0,hR0⟩ : ∃ r,parseF setF c s = r := ⟨_,rfl⟩
 rw [hR0]
 unfold parseF at hR0
 obtain ⟨P0,hP0⟩ : ∃ p,parseL setF (linesL s) 0 (vl c) [] = p := ⟨_,rfl⟩
 rw [hP0] at hR0
 have hshort := lines_short s
 have hln := lines_len s
 have hc10 := Go.Lib.countB_le ⟨#[10]⟩ (Nat.le_refl _) _ ⟨s.toArray⟩ (Nat.le_refl _)
 have hsz := sz_mk s
 refine acallA Tryz.func60 c60 ?_
 unfold ir60
 dsimp only [qo,qm,qk,q2,qi,qg,qn,qc,dq,ci,cb,qh,qs]
 refine ai_seq (ai_regW (sS (w_box rfl fun g1 x1 k1 n1 => sS (w_new fun g2 x2 k2 n2 => ?_))))
 have q1 := (x2.2 _ n1).trans k1
 repeat (first | apply sS | apply sE | refine w_mv rfl ?_ | (refine is_okn rfl ?_; refine w_op rfl ?_) | (apply is_ldn; refine w_ldnA rfl ?_) | apply ai_seq | apply ai_regW)
 have x3 : Ext g2 (g2.new ⟨[],false,0⟩) := Ext.new _ _
 have k3 : (g2.new ⟨[],false,0⟩).get g2.nx = some ⟨[],false,0⟩ := new_get _ _
 have n3 : g2.nx < (g2.new ⟨[],false,0⟩).nx := by simp [Hp.new]
 generalize g2.new ⟨[],false,0⟩ = g3 at x3 k3 n3 ⊢
 have q13 := (x3.2 _ (Nat.lt_of_lt_of_le n1 x2.1)).trans q1
 have q23 := (x3.2 _ n2).trans k2
 refine w_new fun g4 x4 k4 n4 => ?_
 repeat (first | apply sSn)
 refine w_stN rfl rfl k4 rfl rfl fun g5 m5 k5 n5 => ?_
 have l1 := Nat.lt_of_lt_of_le n1 x2.1
 have l13 := Nat.lt_of_lt_of_le l1 x3.1
 have l23 := Nat.lt_of_lt_of_le n2 x3.1
 have q15 := (m5 _ (Nat.ne_of_lt l13)).trans ((x4.2 _ l13).trans q13)
 have q25 := (m5 _ (Nat.ne_of_lt l23)).trans ((x4.2 _ l23).trans q23)
 have q35 := (m5 _ (Nat.ne_of_lt n3)).trans ((x4.2 _ n3).trans k3)
 have x05 : Ext h g5 := ((x1.trans x2).trans (x3.trans x4)).own' m5 n5 (by have := x1.1; have := x2.1; have := x3.1; omega)
 repeat (first | apply sS | apply sE | refine w_mv rfl ?_ | apply ai_seq | apply ai_regW)
 refine w_call rfl ((split_br s hs _).mono ?_)
 rintro _ g6 ⟨rfl,x6,k6,n6⟩
 have p1 : h.nx < g5.nx := by rw [n5]; exact Nat.lt_of_lt_of_le l13 x4.1
 have p2 : g1.nx < g5.nx := by rw [n5]; exact Nat.lt_of_lt_of_le l23 x4.1
 have p3 : g2.nx < g5.nx := by rw [n5]; exact Nat.lt_of_lt_of_le n3 x4.1
 have p4 : g3.nx < g5.nx := by rw [n5]; exact n4
 have q16 := (x6.2 _ p1).trans q15
 have q26 := (x6.2 _ p2).trans q25
 have q36 := (x6.2 _ p3).trans q35
 have q46 := (x6.2 _ p4).trans k5
 have x06 := x05.trans x6
 have l6 := x6.1
 have o1 : h.nx < g1.nx := n1
 have o2 : g1.nx < g2.nx := n2
 have o3 : g2.nx < g3.nx := n3
 clear k1 k2 k3 k4 k5 q1 q13 q23 q15 q25 q35 m5 x1 x2 x3 x4 x05 x6
 obtain ⟨L,hL⟩ : ∃ L,linesL s = L := ⟨_,rfl⟩
 rw [hL] at hP0 hshort hln k6 ⊢
 repeat (first | apply sS | apply sE | refine w_mv rfl ?_ | (refine is_okn rfl ?_; refine w_op rfl ?_) | apply ai_block)
 refine ai_loopE (γ := Nat × List Int × List Nat) (fun e => [(2,.pointer (some ⟨h.nx,0,none⟩)),(4,.pointer (some ⟨g1.nx,0,none⟩)),(7,.pointer (some ⟨g3.nx,0,none⟩)),(8,.map (some g2.nx)),(20,.slice (some ⟨g5.nx,0,none⟩) L.length L.length),(21,nI L.length),(22,nI e.1)])
  (fun e g => MdT g3.nx g2.nx g6 g ∧ g.get g3.nx = some ⟨e.2.1.map nI,true,0⟩ ∧ g.get g2.nx = some ⟨mpC e.2.2,false,0⟩ ∧ e.1 ≤ L.length ∧ e.2.1.length = 20 ∧ (∀ j ∈ e.2.2,j < 20) ∧ parseL setF (L.drop e.1) e.1 e.2.1 e.2.2 = P0) (fun e => L.length - e.1) (0,vl c,[])
  leX ⟨MdT.refl _ _ _,q46,q36,Nat.zero_le _,rfl,by simp,hP0⟩ ?_
 clear q46 q36 hP0
 rintro ⟨i,v,was⟩ g ⟨md,kx,km,hi,hv,hw,hp⟩
 dsimp only at kx km hi hv hw hp ⊢
 have hmn := md.1
 have r1 := (md.2 h.nx (by omega) (by omega) (by omega)).trans q16
 have r2 := (md.2 g1.nx (by omega) (by omega) (by omega)).trans q26
 have r6 := (md.2 g5.nx n6 (by omega) (by omega)).trans k6
 by_cases hil : i < L.length
 ·obtain ⟨ln,hlni⟩ : ∃ ln,L[i]? = some ln := ⟨_,List.getElem?_eq_getElem hil⟩
  have hdr : L.drop i = ln :: L.drop (i + 1) := by
   obtain ⟨h1,rfl⟩ := List.getElem?_eq_some_iff.1 hlni
   exact List.drop_eq_getElem_cons h1
  rw [hdr] at hp
  simp only [parseL] at hp
  have hlnl := hshort ln (List.mem_of_getElem? hlni)
  have htl := trimB_len ln 32
  have hrd := rd_row r6 (x := i) (v := bsV ln) (by rw [List.getElem?_map,hlni]; rfl)
  repeat (first | apply sS | apply sE | refine w_mv rfl ?_ | (apply is_ld; refine w_ldA rfl ?_) | (apply is_bin; refine w_cT rfl ?_) | (apply is_iad; refine w_iadA rfl ?_) | apply ai_seq | apply ai_regW | refine ai_cT rfl ?_ | apply ai_skip | apply ai_block)
  refine w_call rfl ((trim_br ln (by omega) _).mono ?_)
  rintro _ _ ⟨rfl,rfl⟩
  repeat (first | apply sS | apply sE | refine w_mv rfl ?_ | apply ai_seq | apply ai_regW)
  refine w_eqB (a := Go.Lib.trimB ln 32) (b := []) rfl ?_
  generalize Go.Lib.trimB ln 32 = t at hp htl ⊢
  cases t with
  | nil =>
   rw [if_pos (c := blankB [] = true) rfl] at hp
   repeat (first | apply sS | apply sE | refine w_mv rfl ?_ | refine w_pickT rfl ?_ | refine w_gF rfl rfl ?_ | (apply is_bin; refine w_addA rfl ?_) | apply ai_regW | refine ai_cT rfl ?_ | apply ai_exit)
   exact ⟨(i + 1,v,was),leX,⟨md,kx,km,by dsimp only; omega,hv,hw,hp⟩,by dsimp only; omega⟩
  | cons b r =>
   repeat (first | apply sS | refine w_mv rfl ?_ | (refine is_okn rfl ?_; refine w_op rfl ?_) | refine w_gT rfl rfl ?_)
   refine w_cmp (c2 := (b == 35)) rfl (u8_eq b 35) ?_
   by_cases hb : b = 35
   ·subst hb
    rw [if_pos (c := blankB (35 :: r) = true) rfl] at hp
    repeat (first | apply sS | apply sE | refine w_mv rfl ?_ | refine w_pickF rfl ?_ | (apply is_bin; refine w_addA rfl ?_) | apply ai_regW | refine ai_cT rfl ?_ | apply ai_exit)
    exact ⟨(i + 1,v,was),leX,⟨md,kx,km,by dsimp only; omega,hv,hw,hp⟩,by dsimp only; omega⟩
   ·have hb2 : (b == 35) = false := by simpa using hb
    rw [hb2]
    rw [if_neg (by simpa [blankB] using hb)] at hp
    repeat (first | apply sS | apply sE | refine w_mv rfl ?_ | refine w_pickF rfl ?_ | apply ai_seq | apply ai_regW | refine ai_cF rfl ?_ | apply ai_skip)
    have htl2 : (b :: r).length ≤ 1000000 := by omega
    have hcl := cut_len (b :: r) [58,32]
    unfold lineF at hp
    obtain ⟨⟨nm,val,pt⟩,hc⟩ : ∃ c,Go.Lib.cut (b :: r) [58,32] = c := ⟨_,rfl⟩
    rw [hc] at hp hcl
    dsimp only at hp hcl
    have cb := fun g => cut_br (b :: r) [58,32] htl2 g
    simp only [hc] at cb
    repeat (first | apply sS | apply sE | refine w_mv rfl ?_ | refine w_ext rfl rfl ?_ | (refine w_callE ((cb _).mono ?_) rfl rfl; rintro _ _ ⟨rfl,rfl⟩) | apply ai_seq | apply ai_regW)
    refine w_call rfl ((parts_ok _ g3.nx).mono ?_)
    rintro _ g7 ⟨rfl,x7,k7,n7⟩
    have hvl : val.length ≤ 1000000 := by omega
    have kx7 := (x7.2 _ (by omega)).trans kx
    have hx7 := x7.1
    repeat (first | apply sS | apply sE | refine w_mv rfl ?_ | (refine is_okn rfl ?_; refine w_op rfl ?_) | apply ai_block)
    refine ai_loopE (γ := Nat × Bool × List Int) (fun e => [(2,.pointer (some ⟨h.nx,0,none⟩)),(4,.pointer (some ⟨g1.nx,0,none⟩)),(7,.pointer (some ⟨g3.nx,0,none⟩)),(8,.map (some g2.nx)),(9,nI i),(11,bs nm),(12,bs val),(14,.bool e.2.1),(20,.slice (some ⟨g5.nx,0,none⟩) L.length L.length),(21,nI L.length),(22,nI i),(42,.slice (some ⟨g.nx,0,none⟩) 20 20),(43,nI 20),(44,nI e.1)])
     (fun e g' => Md g3.nx g7 g' ∧ g'.get g3.nx = some ⟨e.2.2.map nI,true,0⟩ ∧ e.1 ≤ 20 ∧ e.2.2.length = 20 ∧ (e.2.1,e.2.2) = stp nm val v was e.1) (fun e => 20 - e.1) (0,false,v)
     leX ⟨Md.refl _ _,kx7,Nat.zero_le _,hv,(stp_zero _ _ _ _).symm⟩ ?_
    rintro ⟨j,good,us⟩ g8 ⟨md8,kx8,hj,hul,hst⟩
    dsimp only at kx8 hj hul hst ⊢
    have hx8 := md8.1
    have km8 := (md8.2 g2.nx (by omega) (by omega)).trans ((x7.2 _ (by omega)).trans km)
    have kp8 := (md8.2 g.nx (by omega) (by omega)).trans k7
    by_cases hj20 : j < 20
    ·have hrd2 := ptC_rd kp8 hj20
     repeat (first | apply sS | apply sE | (apply is_ldn; refine w_ldnA rfl ?_) | (apply is_bin; refine w_cT rfl ?_) | (apply is_iad; refine w_iadA rfl ?_) | apply ai_seq | apply ai_regW | refine ai_cT rfl ?_ | apply ai_skip | apply ai_block)
     refine w_new fun g9 x9 k9 n9 => ?_
     repeat (first | apply sSn)
     refine w_stN rfl rfl k9 rfl rfl fun ga ma ka na => ?_
     have kxa := (ma _ (by have := x9.1; omega)).trans ((x9.2 _ (by omega)).trans kx8)
     have kma := (ma _ (by have := x9.1; omega)).trans ((x9.2 _ (by omega)).trans km8)
     have mda : Md g3.nx g7 ga := (md8.trans x9.md).trans' ma na (by omega)
     repeat (first | apply sS | apply sE | refine w_mv rfl ?_ | (refine is_okn rfl ?_; refine w_op rfl ?_) | (apply is_ld; refine w_ldA rfl ?_) | apply ai_seq | apply ai_regW)
     refine w_eqB (a := nmB.getD j []) (b := nm) rfl ?_
     have hjn : nmB[j]? = some (nmB.getD j []) := by
      rw [List.getD_eq_getElem?_getD,List.getElem?_eq_getElem (show j < nmB.length from hj20)]
      rfl
     have hnga : g8.nx ≤ ga.nx := by rw [na]; exact x9.1
     by_cases hnm : nmB.getD j [] = nm
     ·have hnb : (nmB.getD j [] == nm) = true := by simpa using hnm
      have hjm := hjn
      rw [hnm] at hjm
      have hfn := findN_at hjm
      rw [hnb]
      repeat (first | apply sS | refine w_mv rfl ?_ | refine w_gT rfl rfl ?_)
      refine w_mlk rfl kma ?_
      rw [seen_mem hfn hw]
      cases hwas : was.contains j
      ·have hit : hitB nm was = some j := by
        unfold hitB
        rw [hfn]
        simp only [hwas]
        rfl
       obtain ⟨st1,st2⟩ := stp_at (val := val) (v := v) hit
       rw [st1] at hst
       cases hst
       repeat (first | apply sS | apply sE | refine w_mv rfl ?_ | refine w_pickT rfl ?_ | (refine is_okn rfl ?_; refine w_op rfl ?_) | refine w_gT rfl rfl ?_ | (apply is_ldn; refine w_ldnA rfl ?_) | apply ai_regW | refine ai_cT rfl ?_)
       refine w_call rfl ((set_ok _ (nmB.getD j []) val hvl (i := g3.nx) (k := j) kxa (by omega) (by rw [List.length_map]; omega)).mono ?_)
       rintro _ gb ⟨rfl,mdb,kxb⟩
       repeat (first | apply sS | apply sE | refine w_mv rfl ?_ | (apply is_bin; refine w_addA rfl ?_) | apply ai_regW)
       refine ⟨(j + 1,(setF j val).isSome,(match setF j val with | some n => v.set j n | none => v)),leX,⟨mda.trans mdb,?_,by dsimp only; omega,?_,st2.symm⟩,by dsimp only; omega⟩
       ·rw [kxb]
        cases setF j val with
        | none => rfl
        | some n =>
         show some (Ob.mk ((v.map nI).set j (nI n)) true 0) = _
         rw [map_set]
       ·cases setF j val with
        | none => exact hv
        | some n => show (v.set j n).length = 20; rw [List.length_set]; exact hv
      ·have hit : hitB nm was ≠ some j := by
        unfold hitB
        rw [hfn]
        simp only [hwas]
        simp
       repeat (first | apply sS | apply sE | refine w_mv rfl ?_ | refine w_pickT rfl ?_ | (refine is_okn rfl ?_; refine w_op rfl ?_) | refine w_gT rfl rfl ?_ | (apply is_bin; refine w_addA rfl ?_) | apply ai_regW | refine ai_cF rfl ?_ | apply ai_skip)
       exact ⟨(j + 1,good,us),leX,⟨mda,kxa,by dsimp only; omega,hul,by rw [stp_miss hit]; exact hst⟩,by dsimp only; omega⟩
     ·have hnb : (nmB.getD j [] == nm) = false := by simpa using hnm
      have hit : hitB nm was ≠ some j := by
       intro e
       unfold hitB at e
       split at e
       ·next k hk =>
        split at e
        ·cases e
        ·cases e
         have := findN_some hk
         rw [hjn] at this
         exact hnm (Option.some.inj this)
       ·cases e
      rw [hnb]
      repeat (first | apply sS | apply sE | refine w_mv rfl ?_ | refine w_pickF rfl ?_ | refine w_gF rfl rfl ?_ | (apply is_bin; refine w_addA rfl ?_) | apply ai_regW | refine ai_cF rfl ?_ | apply ai_skip)
      exact ⟨(j + 1,good,us),leX,⟨mda,kxa,by dsimp only; omega,hul,by rw [stp_miss hit]; exact hst⟩,by dsimp only; omega⟩
    ·obtain rfl : j = 20 := by omega
     repeat (first | apply sS | apply sSn | apply sE | refine w_mv rfl ?_ | (apply is_bin; refine w_cF rfl ?_) | apply ai_seq | apply ai_regW | refine ai_cF rfl ?_ | apply ai_exit)
     obtain ⟨cm,hcm⟩ := mput_any nm (.bool true) was
     refine w_mup rfl km8 rfl hcm fun ga ma ka na => ?_
     have kxa := (ma _ (by omega)).trans kx8
     have mga : MdT g3.nx g2.nx g8 ga := ⟨Nat.le_of_eq na.symm,fun j _ _ hm => ma j hm⟩
     have md6 : MdT g3.nx g2.nx g6 ga := ((md.trans x7.md.two).trans md8.two).trans mga
     have hnga := md6.1
     cases good
     ·have hpe := stp_no (nm := nm) (val := val) (v := v) (was := was) (by rw [← hst])
      have hpe2 : P0 = .error (i + 1) := by
       rw [← hp]
       cases hk : findN nm with
       | none => rfl
       | some k =>
        cases hn : setF k val with
        | none => simp [hn]
        | some n =>
         have h1 := hpe k n hk hn
         simp only [Option.bind_some,hn,Option.map_some,h1,if_true]
      have ra := (md6.2 h.nx (by omega) (by omega) (by omega)).trans q16
      have rb := (md6.2 g1.nx (by omega) (by omega) (by omega)).trans q26
      repeat (first | apply sS | apply sSn | apply sE | refine w_mv rfl ?_ | (refine is_okn rfl ?_; refine w_op rfl ?_) | (apply is_ldn; refine w_ldnA rfl ?_) | (apply is_bin; refine w_addA rfl ?_) | apply ai_seq | apply ai_regW | refine ai_cT rfl ?_)
      refine w_stN rfl rfl rb rfl rfl fun gb mb kb nb => ?_
      repeat (first | apply sS | apply sE | refine w_mv rfl ?_ | (apply ai_ret; repeat (first | rw [thenQ_r] | rw [blockQ_r] | rw [roundE_r])))
      refine end_cell3 rfl rfl rfl kb Tryz.underlying27 rfl (by kernel_rfl) rfl ⟨?_,?_⟩
      ·rw [hpe2] at hR0
       rw [← hR0]
       rfl
      ·exact ⟨by rw [nb]; have := x06.1; omega,fun q hq => (mb q (by omega)).trans ((md6.2 q (by omega) (by omega) (by omega)).trans (x06.2 q hq))⟩
     ·obtain ⟨k,n,e1,e2,e3,rfl⟩ := stp_yes hst.symm
      rw [e1] at hp
      simp only [Option.bind_some,e2,Option.map_some,e3,Bool.false_eq_true,if_false] at hp
      have hsn : seenB nm was = false := by rw [seen_mem e1 hw]; exact e3
      have hcm2 := mput_new nm (.bool true) was hsn
      rw [hcm] at hcm2
      cases hcm2
      have hnk : nmB.getD k [] = nm := by rw [List.getD_eq_getElem?_getD,findN_some e1]; rfl
      have hmp : mpC was ++ [bsV nm,.bool true] = mpC (was ++ [k]) := by
       unfold mpC
       rw [List.flatMap_append]
       show _ = _ ++ [bsV (nmB.getD k []),.bool true]
       rw [hnk]
      rw [hmp] at ka
      repeat (first | apply sS | apply sE | refine w_mv rfl ?_ | (refine is_okn rfl ?_; refine w_op rfl ?_) | (apply is_bin; refine w_addA rfl ?_) | apply ai_seq | apply ai_regW | refine ai_cF rfl ?_ | apply ai_skip)
      refine ⟨(i + 1,v.set k n,was ++ [k]),leX,⟨md6,kxa,ka,by dsimp only; omega,by dsimp only; rw [List.length_set]; exact hv,?_,hp⟩,by dsimp only; omega⟩
      intro q hq
      rcases List.mem_append.1 hq with hq | hq
      ·exact hw q hq
      ·rw [List.mem_singleton.1 hq]; exact findN_lt e1
 ·obtain rfl : i = L.length := by omega
  rw [List.drop_length] at hp
  obtain ⟨d,rfl⟩ := vl_of hv
  have hp2 : P0 = .ok (vl d) := hp.symm
  rw [hp2] at hR0
  replace hR0 : (if mayB d = true then (d,(0 : Int),(0 : Int)) else (c,5,0)) = R0 := hR0
  repeat (first | apply sS | apply sE | (apply is_ldn; refine w_ldnA rfl ?_) | (apply is_bin; refine w_cF rfl ?_) | apply ai_seq | apply ai_regW | refine ai_cF rfl ?_ | apply ai_exit)
  refine w_call rfl ((may_ok _ d).mono ?_)
  rintro _ g7 ⟨rfl,x7⟩
  have hn7 := x7.1
  have ra := (x7.2 h.nx (by omega)).trans r1
  have rb := (x7.2 g1.nx (by omega)).trans r2
  have rx := (x7.2 g3.nx (by omega)).trans kx
  have xf : ∀ gb,(∀ k,k ≠ g1.nx → gb.get k = g7.get k) → gb.nx = g7.nx → Ext h gb := fun gb mb nb => ⟨by rw [nb]; have := x06.1; omega,fun q hq => (mb q (by omega)).trans ((x7.2 q (by omega)).trans ((md.2 q (by omega) (by omega) (by omega)).trans (x06.2 q hq)))⟩
  obtain ⟨mb,hm⟩ : ∃ b,mayB d = b := ⟨_,rfl⟩
  rw [hm] at hR0 ⊢
  cases mb
  ·rw [← hR0]
   repeat (first | apply sS | apply sSn | apply sE | (refine is_okn rfl ?_; refine w_op rfl ?_) | (apply is_ldn; refine w_ldnA rfl ?_) | apply ai_seq | apply ai_regW | refine ai_cT rfl ?_)
   refine w_stN rfl rfl rb rfl rfl fun gb mb kb nb => ?_
   repeat (first | apply sS | apply sE | refine w_mv rfl ?_ | (apply ai_ret; repeat (first | rw [thenQ_r] | rw [blockQ_r] | rw [roundE_r])))
   exact end_cell3 rfl rfl rfl kb Tryz.underlying27 rfl (by kernel_rfl) rfl ⟨rfl,xf gb mb nb⟩
  ·rw [← hR0]
   repeat (first | apply sS | apply sSn | apply sE | (refine is_okn rfl ?_; refine w_op rfl ?_) | (apply is_ldn; refine w_ldnA rfl ?_) | apply ai_seq | apply ai_regW | refine ai_cF rfl ?_ | apply ai_skip)
   refine w_stN rfl rfl rb rfl rfl fun gb mb kb nb => ?_
   repeat (first | apply sS | apply sE | refine w_mv rfl ?_ | (apply ai_ret; repeat (first | rw [thenQ_r] | rw [blockQ_r] | rw [roundE_r])))
   exact end_cell3 rfl rfl rfl kb Tryz.underlying27 rfl (by kernel_rfl) rfl ⟨rfl,xf gb mb nb⟩
theorem parse_may {S : Nat → List UInt8 → Option Int} {c : Cf20} {t : List UInt8} (h : (parseF S c t).2.1 = 0) : mayB (parseF S c t).1 = true := by
 unfold parseF at h ⊢
 split
 ·next e => rw [e] at h; exact absurd h (by simp)
 ·next v e =>
  rw [e] at h
  by_cases hm : mayB (ofL v) = true
  ·simp only [if_pos hm]; exact hm
  ·simp only [if_neg hm] at h; exact absurd h (by simp)
def chS (s : Sy) (c : Cf20) : Sy := { s with c := c,d := ddChange s.d c,depth := c.queue }
theorem syChange_eq (s : Sy) (t : List UInt8) : syChange s t = if (parseF setF s.c t).2.1 ≠ 0 then (s,(parseF setF s.c t).2.1) else (sySent (chS s (parseF setF s.c t).1),0) := rfl
theorem SyI.ch {st : Sy} (i : SyI st) {c : Cf20} (hm : mayB c = true) : SyI (chS st c) := by
 have h := (cf_ok hm).queue
 unfold chS
 exact ⟨hm,i.now,i.ct,i.made,i.cf,i.bz,i.sum,i.ql,by dsimp only; omega,i.qp,i.qi,i.rs,i.dd.change i.now.1 hm,i.lost,i.since,i.trl⟩
theorem SyI.change {st : Sy} (i : SyI st) (t : List UInt8) : SyI (syChange st t).1 := by
 rw [syChange_eq]
 by_cases h : (parseF setF st.c t).2.1 = 0
 ·rw [if_neg (by simpa using h)]
  exact (i.ch (parse_may h)).sent
 ·rw [if_pos h]; exact i
set_option maxHeartbeats 2000000 in
theorem change_ok {T : Tg} {g : Hp} {s P L q D : Nat} {rs ts : Value} {st : Sy} (a : SyG g T s P L q D rs ts st) (i : SyI st) (hb : st.r.length ≤ 800000) (t : List UInt8) (ht : t.length ≤ 1000000) :
  ACall PX 32 [ptr s,bs t] g (fun v h => v = nI (syChange st t).2 ∧ ∃ T',SyG h T' s P L q D rs ts (syChange st t).1 ∧ Tn [1,2,3,4,5,6,7,8,10] T g T' h) := by
 have hsg := a.sg
 have hld : g.rd s 0 20 = some (cs20 st.c) := rd_cut hsg rfl rfl
 rw [syChange_eq]
 refine acallA Tryz.func32 c32 ?_
 unfold ir32
 dsimp only [qo,qm,qk,q2,qi,qg,qn,qc,dq,ci,cb,qh,qs]
 repeat (first | apply sS | apply sE | refine w_mv rfl ?_ | (refine is_okn rfl ?_; refine w_op rfl ?_) | (apply is_ldn; refine w_ldnA rfl ?_) | apply ai_seq | apply ai_regW)
 refine w_call rfl ((tparse_ok st.c t ht g).mono ?_)
 rintro _ g1 ⟨rfl,x1⟩
 have a1 := a.ext x1
 have hmay := parse_may (S := setF) (c := st.c) (t := t)
 obtain ⟨c',code,ln,hP⟩ : ∃ c' code ln,parseF setF st.c t = (c',code,ln) := ⟨_,_,_,rfl⟩
 rw [hP] at hmay ⊢
 dsimp only at hmay ⊢
 repeat (first | apply sS | refine w_mv rfl ?_ | refine w_ext rfl rfl ?_)
 refine w_new fun g2 x2 k2 n2 => ?_
 repeat (first | apply sSn)
 refine w_stN rfl rfl k2 rfl rfl fun g3 m3 k3 n3 => ?_
 have x3 := x2.own m3 n3
 replace k3 : g3.get g1.nx = some ⟨cs20 c',true,0⟩ := k3
 have a3 := a1.ext x3
 have hB3 : g1.nx < g3.nx := by omega
 have hTB : T g1.nx = 0 := a1.w _ (Nat.le_refl _)
 have x13 := Tn.of_ext (I := [1,2,3,4,5,6,7,8,10]) a.w (x1.trans x3)
 clear hld
 by_cases hc : code = 0
 ·subst hc
  rw [if_neg (by decide)]
  replace hmay := hmay rfl
  have hsg3 := a3.sg
  clear hsg k2
  repeat (first | apply sS | apply sSn | apply sE | refine w_mv rfl ?_ | (refine is_okn rfl ?_; refine w_op rfl ?_) | (apply is_ldn; refine w_ldnA rfl ?_) | (apply is_bin; refine w_cF rfl ?_) | apply ai_seq | apply ai_regW | refine ai_cF rfl ?_ | apply ai_skip)
  refine w_stP rfl rfl hsg3 (by show 0 + 20 ≤ 34; decide) rfl fun g4 m4 k4 n4 => ?_
  rw [splice_take _ _ _ (by show 0 + 20 ≤ 34; decide)] at k4
  replace k4 : g4.get s = some ⟨syV { st with c := c' } P rs ts,true,0⟩ := k4
  obtain ⟨a4,x4⟩ := a3.own m4 n4 k4 ⟨rfl,rfl⟩ ⟨rfl,rfl,rfl⟩ rfl rfl rfl
  have hB4 : g1.nx < g4.nx := by omega
  have k34 := (x4.fr _ hB3 (by rw [hTB]; decide)).trans k3
  clear k3 hsg3
  repeat (first | apply dS | apply dSR | apply sE | (apply is_ag; refine agSA ?_) | refine w_mv rfl ?_ | (apply is_ldn; refine w_ldnA rfl ?_) | (refine w_callE ((decs_ok a4).mono ?_) rfl rfl; rintro _ _ ⟨rfl,rfl⟩) | apply ai_seq | refine ai_drwW (by kernel_rfl) ?_)
  refine w_call rfl ((ddchange_ok g4 a4.dd i.dd i.now.2 hmay).mono ?_)
  rintro _ g5 ⟨T5,dd5,x5⟩
  have a5 := a4.dec x5 dd5
  have k35 := (x5.fr _ hB4 (by rw [hTB]; decide)).trans k34
  have hB5 := Nat.lt_of_lt_of_le hB4 x5.nx
  clear k34 k4
  repeat (first | apply dS | apply dSR | apply dE | (apply is_ag; refine agSA ?_) | refine w_mv rfl ?_ | (refine is_okn rfl ?_; refine w_op rfl ?_) | (apply is_ld; refine w_ldA rfl ?_) | (refine w_callE ((waits_ok a5).mono ?_) rfl rfl; rintro _ _ ⟨rfl,rfl⟩) | apply ai_seq | refine ai_drwW (by kernel_rfl) ?_)
  obtain ⟨jq,qa,tq1,tq2⟩ := a5.qu
  have hq := (cf_ok hmay).queue
  refine w_call rfl ((depth_ok g5 qa (n := c'.queue) (by omega) (by omega)).mono ?_)
  rintro _ g6 ⟨rfl,qa6,md6⟩
  obtain ⟨qt6,x6⟩ := qu_tn a5.w qa tq1 tq2 qa6 md6 (.inl rfl)
  have a6 : SyG g6 _ s P L q D rs ts (chS st c') := a5.queue x6 qt6
  repeat (first | apply sS | apply dE | refine w_mv rfl ?_ | apply ai_seq | apply ai_regW)
  refine w_call rfl ((sent_ok a6 (i.ch hmay) hb).mono ?_)
  rintro _ g7 ⟨T7,a7,x7⟩
  repeat (first | apply sS | apply sE | refine w_mv rfl ?_ | apply ai_seq | apply ai_regW | (apply ai_ret; repeat (first | rw [thenQ_r] | rw [blockQ_r] | rw [roundE_r])))
  exact end_one rfl ⟨rfl,T7,a7,x13.trans ((x4.mono (by decide)).trans ((x5.mono (by decide)).trans ((x6.mono (by decide)).trans (x7.mono (by decide)))))⟩
 ·rw [if_pos hc]
  repeat (first | apply sS | apply sE | refine w_mv rfl ?_ | (apply is_bin; refine w_cT rfl ?_) | apply ai_seq | apply ai_regW | refine ai_cT rfl ?_ | (apply ai_ret; repeat (first | rw [thenQ_r] | rw [blockQ_r] | rw [roundE_r])))
  exact end_one rfl ⟨rfl,T,a3,x13⟩
theorem size_ok (n : Int) (h : Hp) (hn : 0 ≤ n) (hn2 : n ≤ 1000000) : ACall PX 134 [.int .i64 n] h (fun v h' => v = .int .i64 (sizeF n) ∧ h = h') := by
 refine acallA Tryz.func134 c134 ?_
 unfold ir134
 dsimp only [qo,qm,qk,q2,qi,qg,qn,qc,dq,ci,cb,qh,qs]
 refine ai_seq (ai_reg ?_)
 refine st rfl ?_
 refine ai_seq (ai_block ?_)
 refine ai_seq (ai_reg ?_)
 iterate 3 refine st rfl ?_
 refine ai_cond (b := decide (n < 1)) rfl ?_ ?_
 ·intro hb
  refine ai_seq (ai_reg ?_)
  refine st rfl ?_
  refine ai_ret ?_
  simp only [thenQ_r,blockQ_r]
  refine end_one rfl ⟨?_,rfl⟩
  simp at hb
  simp [sizeF,hb]
 ·intro hb
  simp at hb
  refine ai_seq (ai_reg ?_)
  iterate 3 refine st rfl ?_
  refine ai_cond (b := decide (n ≤ 3)) rfl ?_ ?_
  ·intro hc
   simp at hc
   refine ai_seq (ai_reg ?_)
   iterate 2 refine st rfl ?_
   refine ai_ret ?_
   simp only [thenQ_r,blockQ_r]
   refine end_one rfl ⟨?_,rfl⟩
   simp [sizeF,hc,show ¬ n < 1 by omega]
  ·intro hc
   simp at hc
   refine ai_seq (ai_reg ?_)
   iterate 3 refine st rfl ?_
   refine ai_cond (b := decide (n > 208)) rfl ?_ ?_
   ·intro hd
    simp at hd
    refine ai_seq (ai_reg ?_)
    refine st rfl ?_
    refine ai_ret ?_
    simp only [thenQ_r,blockQ_r]
    refine end_one rfl ⟨?_,rfl⟩
    simp [sizeF,hd,show ¬ n < 1 by omega,show ¬ n ≤ 3 by omega]
   ·intro hd
    simp at hd
    refine ai_skip ?_
    show AI PX _ _ _ _ _
    refine ai_seq (ai_reg ?_)
    refine st rfl ?_
    refine st_w rfl (by omega) ?_
    refine st rfl ?_
    refine st_w rfl (by omega) ?_
    refine st_w rfl (by omega) ?_
    refine st_w rfl (by omega) ?_
    refine st rfl ?_
    refine st_w rfl (by omega) ?_
    refine st_quo rfl (by omega) (by omega) (by omega) ?_
    refine st rfl ?_
    refine st rfl ?_
    refine ai_ret ?_
    refine end_one rfl ⟨?_,rfl⟩
    have e : 16 * n + n + 13 - 1 = 16 * n + n + 12 := by omega
    simp only [sizeF,show ¬ n < 1 by omega,show ¬ n ≤ 3 by omega,show ¬ 208 < n by omega,if_false,e]
    congr 1
    rw [Int.max_def]
    simp only [if_true]
    split <;> split <;> omega
theorem sizeF_bd {n : Int} (h : 1 ≤ n) : 1 ≤ sizeF n ∧ sizeF n ≤ n := by
 unfold sizeF
 have h1 : 0 ≤ (16 * n + n + 12) / (n + 13) := Int.ediv_nonneg (by omega) (by omega)
 have h2 : (16 * n + n + 12) / (n + 13) ≤ 17 := by
  have : (16 * n + n + 12) / (n + 13) < 18 := Int.ediv_lt_of_lt_mul (by omega) (by omega)
  omega
 split
 ·omega
 ·split
  ·omega
  ·split
   ·omega
   ·rw [Int.max_def]
    split
    ·refine ⟨by omega,?_⟩
     by_cases h17 : 17 ≤ n
     ·omega
     ·have hn : n = 4 ∨ n = 5 ∨ n = 6 ∨ n = 7 ∨ n = 8 ∨ n = 9 ∨ n = 10 ∨ n = 11 ∨ n = 12 ∨ n = 13 ∨ n = 14 ∨ n = 15 ∨ n = 16 := by omega
      rcases hn with rfl | rfl | rfl | rfl | rfl | rfl | rfl | rfl | rfl | rfl | rfl | rfl | rfl <;> decide
    ·omega
theorem kF_bd {n most : Int} (h : 1 ≤ n) : 1 ≤ kF n most ∧ kF n most ≤ n := by
 have := sizeF_bd h
 unfold kF
 split <;> omega
theorem which_ok (ids : List Int) (most round : Int) (h : Hp) {i o c : Nat} {sp : Option Nat} (hi : i < h.nx) (hr : h.rd i o ids.length = some (ids.map (Value.int .i64))) (h1 : 1 ≤ ids.length) (h2 : ids.length ≤ 1000) :
  ACall PX 95 [.slice (some ⟨i,o,sp⟩) ids.length c,.int .i64 most,.int .i64 round] h (fun v h' => Ext h h' ∧ Ow h.nx h' v ((whichF ids most round).map (Value.int .i64))) := by
 have hs := sizeF_bd (n := ids.length) (by omega)
 have hk := kF_bd (n := ids.length) (most := most) (by omega)
 refine acallA Tryz.func95 c95 ?_
 unfold ir95
 dsimp only [qo,qm,qk,q2,qi,qg,qn,qc,dq,ci,cb,qh,qs]
 refine ai_seq (ai_reg ?_)
 refine st rfl ?_
 refine ai_seq (ai_reg ?_)
 iterate 3 refine st rfl ?_
 refine ai_seq (ai_reg ?_)
 refine st rfl ?_
 refine stC rfl ((size_ok ids.length h (by omega) (by omega)).mono ?_)
 rintro v h' ⟨rfl,rfl⟩
 refine st rfl ?_
 refine ai_join (γ := Unit) (fun _ => [(0,.slice (some ⟨i,o,sp⟩) ids.length c),(2,.int .i64 round),(7,.int .i64 ids.length),(8,.int .i64 (kF ids.length most))]) (fun _ h' => h = h') ?_ ?_
 ·by_cases hm : 0 < most
  ·refine ai_seq (ai_reg ?_)
   refine st rfl ?_
   refine st_v (v2 := .bool true) rfl (by simp [hm]) ?_
   refine st rfl ?_
   iterate 3 refine stT rfl rfl rfl ?_
   refine st rfl ?_
   refine ai_cond (b := decide (most < sizeF ids.length)) rfl ?_ ?_
   ·intro hb
    simp at hb
    refine ai_reg ?_
    iterate 2 refine st rfl ?_
    exact ⟨rfl,(),le_cons rfl (le_cons rfl (le_cons rfl (le_cons (by simp [kF,hm,hb]; rfl) le_nil))),rfl⟩
   ·intro hb
    simp at hb
    refine ai_skip ?_
    exact ⟨rfl,(),le_cons rfl (le_cons rfl (le_cons rfl (le_cons (by simp [kF,show ¬ most < sizeF ids.length by omega]; rfl) le_nil))),rfl⟩
  ·refine ai_seq (ai_reg ?_)
   refine st rfl ?_
   refine st_v (v2 := .bool false) rfl (by simp; omega) ?_
   refine st rfl ?_
   iterate 3 refine stF rfl rfl ?_
   refine st rfl ?_
   refine ai_cond (b := false) rfl (fun hb => by cases hb) ?_
   intro _
   refine ai_skip ?_
   exact ⟨rfl,(),le_cons rfl (le_cons rfl (le_cons rfl (le_cons (by simp [kF,hm]; rfl) le_nil))),rfl⟩
 rintro _ _ rfl
 refine ai_seq (ai_reg ?_)
 refine st rfl ?_
 refine ai_join (γ := Value) (fun v => [(9,v)]) (fun v h' => Ext h h' ∧ Ow h.nx h' v ((whichF ids most round).map (Value.int .i64))) ?_ ?_
 ·refine ai_seq (ai_reg ?_)
  iterate 2 refine st rfl ?_
  refine ai_block (ai_loopE (γ := Nat × Value) (fun g => [(0,.slice (some ⟨i,o,sp⟩) ids.length c),(2,.int .i64 round),(7,.int .i64 ids.length),(8,.int .i64 (kF ids.length most)),(9,g.2),(26,.int .i64 (kF ids.length most)),(27,.int .i64 g.1)])
   (fun g h' => Ext h h' ∧ Ow h.nx h' g.2 (((whichF ids most round).take g.1).map (Value.int .i64)) ∧ (g.1 : Int) ≤ kF ids.length most) (fun g => (kF ids.length most).toNat - g.1) (0,.slice none 0 0)
   (le_cons rfl (le_cons rfl (le_cons rfl (le_cons rfl (le_cons rfl (le_cons rfl (le_cons rfl le_nil))))))) ⟨Ext.refl h,Ow.nil _ _,by omega⟩ ?_)
  rintro ⟨j,v⟩ h' ⟨hx,how,hj⟩
  dsimp only at how hj ⊢
  refine ai_seq (ai_reg ?_)
  refine st rfl ?_
  by_cases hlt : (j : Int) < kF ids.length most
  case neg =>
   refine ai_seq (ai_cond (b := false) (by simp [evA,Env.get,Env.put,hlt]) (fun hb => by cases hb) fun _ => ?_)
   refine ai_exit ?_
   have hjk : (whichF ids most round).take j = whichF ids most round := List.take_of_length_le (by simp [whichF]; omega)
   rw [hjk] at how
   exact ⟨rfl,v,le_cons rfl le_nil,hx,how⟩
  refine ai_seq (ai_cond (b := true) (by simp [evA,Env.get,Env.put,hlt]) (fun _ => ?_) fun hb => by cases hb)
  refine ai_skip ?_
  refine ai_seq (ai_block ?_)
  refine ai_seq (ai_reg ?_)
  iterate 2 refine st rfl ?_
  refine ai_seq (ai_reg ?_)
  have hq0 : 0 ≤ max round 0 % (ids.length : Int) := Int.emod_nonneg _ (by omega)
  have hq1 : max round 0 % (ids.length : Int) < ids.length := Int.emod_lt_of_pos _ (by omega)
  have hqk0 : 0 ≤ max round 0 % (ids.length : Int) * kF ids.length most := Int.mul_nonneg hq0 (by omega)
  have hqk : max round 0 % (ids.length : Int) * kF ids.length most ≤ 1000 * 1000 := Int.mul_le_mul (by omega) (by omega) (by omega) (by omega)
  refine st rfl ?_
  refine st_v (v2 := .int .i64 (max round 0)) rfl (by simp [Int.max_def]; split <;> omega) ?_
  refine st rfl ?_
  refine st_rem rfl (by omega) (by omega) ?_
  refine st rfl ?_
  refine st_w rfl (by omega) ?_
  refine st rfl ?_
  refine st_w rfl (by omega) ?_
  refine st rfl ?_
  refine st_rem rfl (by omega) (by omega) ?_
  refine st rfl ?_
  have hp0 : 0 ≤ posF ids.length most round j := Int.emod_nonneg _ (by omega)
  have hp1 : posF ids.length most round j < ids.length := Int.emod_lt_of_pos _ (by omega)
  have hrd := rd_at ((hx.rd (o := o) (n := ids.length) hi).trans hr) (x := (posF ids.length most round j).toNat) (by omega)
  obtain ⟨hl,hrd⟩ := hrd
  rw [List.getElem_map] at hrd
  refine ai_seq (ai_reg ?_)
  iterate 2 refine st rfl ?_
  refine st_iad rfl ⟨hp0,hp1⟩ ?_
  refine st_ld rfl (by rw [Nat.mul_one]; exact hrd) ?_
  iterate 7 refine st rfl ?_
  refine ai_seq (ai_reg ?_)
  refine st rfl ?_
  refine ai_cond (b := true) rfl (fun _ => ?_) fun hb => by cases hb
  refine ai_reg ?_
  iterate 2 refine st rfl ?_
  refine st (v := .slice (some ⟨h'.nx,0,none⟩) 1 1) (h' := h'.new ⟨[.int .i64 (ids[(posF ids.length most round j).toNat]'(by simpa using hl))],true,1⟩) rfl ?_
  have hlen : (((whichF ids most round).take j).map (Value.int .i64)).length ≤ 1000 := by simp [whichF]; omega
  obtain ⟨s',h2,hst,how2,hx2⟩ := how.push (e := 3) (e2 := 1) (bytes := 8) rfl hx (u := .int .i64 (ids[(posF ids.length most round j).toNat]'(by simpa using hl))) rfl (by omega) (by omega)
  refine st (v := s') (h' := h2) hst ?_
  refine st rfl ?_
  refine ai_reg ?_
  refine st_w rfl (by omega) ?_
  refine st rfl ?_
  refine ⟨(j + 1,s'),le_cons rfl (le_cons rfl (le_cons rfl (le_cons rfl (le_cons rfl (le_cons rfl (le_cons (by simp [Env.get,Env.put]) le_nil)))))),⟨hx2,?_,by dsimp only; omega⟩,by dsimp only; omega⟩
  have hjl : j < (whichF ids most round).length := by simp [whichF]; omega
  have : (whichF ids most round).take (j + 1) = (whichF ids most round).take j ++ [ids[(posF ids.length most round j).toNat]'(by simpa using hl)] := by
   rw [List.take_succ_eq_append_getElem hjl]
   congr 2
   simp only [whichF,List.getElem_map,List.getElem_range]
   rw [List.getD_eq_getElem?_getD,List.getElem?_eq_getElem (by simpa using hl)]
   rfl
  rw [this]
  simpa using how2
 ·rintro v h' ⟨hx,how⟩
  refine ai_seq (ai_reg ?_)
  iterate 2 refine st rfl ?_
  refine ai_ret ?_
  exact end_one rfl ⟨hx,how⟩
theorem which_none (h : Hp) (most round : Int) : ACall PX 95 [.slice none 0 0,nI most,nI round] h (fun v g => v = .slice none 0 0 ∧ h = g) := by
 refine acallA Tryz.func95 c95 ?_
 unfold ir95
 dsimp only [qo,qm,qk,q2,qi,qg,qn,qc,dq,ci,cb,qh,qs]
 repeat (first | apply sS | apply sE | refine w_mv rfl ?_ | (refine is_okn rfl ?_; refine w_op rfl ?_) | apply ai_seq | apply ai_regW)
 refine w_call rfl ((size_ok 0 h (by omega) (by omega)).mono ?_)
 rintro v h' ⟨rfl,rfl⟩
 have e : sizeF 0 = 0 := rfl
 rw [e]
 by_cases hm : 0 < most
 all_goals
  repeat (first | apply sS | apply sE | refine w_mv rfl ?_ | refine w_pickT rfl ?_ | refine w_pickF rfl ?_ | refine w_gT rfl rfl ?_ | refine w_gF rfl rfl ?_ | (apply is_bin; refine w_cT rfl ?_) | (apply is_bin; refine w_cF rfl ?_) | apply ai_seq | apply ai_regW | refine ai_cF rfl ?_ | apply ai_skip | apply ai_block)
  refine ai_loopE (γ := Unit) (fun _ => [(9,.slice none 0 0),(26,.int .i64 0),(27,.int .i64 0)]) (fun _ h' => h = h') (fun _ => 0) () leX rfl ?_
  rintro _ _ rfl
  repeat (first | apply sS | apply sE | refine w_mv rfl ?_ | (apply is_bin; refine w_cF rfl ?_) | apply ai_seq | apply ai_regW | refine ai_cF rfl ?_ | apply ai_exit | (apply ai_ret; repeat (first | rw [thenQ_r] | rw [blockQ_r] | rw [roundE_r])))
  exact end_one rfl ⟨rfl,rfl⟩
theorem filt1 {l : List Pd} (h : (l.map (·.1)).Pairwise (· < ·)) (id : Int) : (l.filter fun p => decide (p.1 = id)).length ≤ 1 := by
 induction l with
 | nil => simp
 | cons p l ih =>
  rw [List.map_cons,List.pairwise_cons] at h
  rw [List.filter_cons]
  by_cases e : p.1 = id
  ·rw [if_pos (by simpa using e)]
   have : l.filter (fun p => decide (p.1 = id)) = [] := by
    rw [List.filter_eq_nil_iff]
    intro q hq
    have := h.1 q.1 (List.mem_map_of_mem hq)
    simp
    omega
   rw [this]
   simp
  ·rw [if_neg (by simpa using e)]
   exact ih h.2
theorem statsF_app (ps : List Pd) (now : Int) (a b : List Int) : statsF ps now (a ++ b) = statsF ps now a ++ statsF ps now b := by simp [statsF]
theorem statsF_len {ps : List Pd} (h : (ps.map (·.1)).Pairwise (· < ·)) (now : Int) : ∀ a,(statsF ps now a).length ≤ a.length
 | [] => by simp [statsF]
 | id :: a => by
  have h1 := statsF_len h now a
  have h2 := filt1 h id
  rw [show id :: a = [id] ++ a from rfl,statsF_app,List.length_append,List.length_append]
  have : (statsF ps now [id]).length = (ps.filter fun p => decide (p.1 = id)).length := by simp [statsF]
  simp only [List.length_singleton]
  omega
theorem statsF_mem {ps : List Pd} {now : Int} {a : List Int} {x : I3} (h : x ∈ statsF ps now a) : ∃ p ∈ ps,x = (p.1,now - p.2.2.2,p.2.2.1 * 1000) := by
 unfold statsF at h
 obtain ⟨id,_,h⟩ := List.mem_flatMap.1 h
 obtain ⟨p,hp,rfl⟩ := List.mem_map.1 h
 rw [List.mem_filter] at hp
 exact ⟨p,hp.1,by have := of_decide_eq_true hp.2; rw [this]⟩
theorem whichF_len (ids : List Int) (most round : Int) : (whichF ids most round).length ≤ ids.length := by
 unfold whichF
 rw [List.length_map,List.length_range]
 by_cases h : 1 ≤ ids.length
 ·have := kF_bd (n := ids.length) (most := most) (by omega)
  omega
 ·have e : ids.length = 0 := by omega
  rw [e]
  have : sizeF ((0 : Nat) : Int) = 0 := rfl
  unfold kF
  rw [this]
  split <;> simp <;> omega
theorem swhich_ok {g : Hp} {N : Nat} {v : Value} {l : List Int} (ow : Ow N g v (l.map nI)) (hl : l.length ≤ 1000) (most round : Int) : ACall PX 95 [v,nI most,nI round] g (fun v' h => Ext g h ∧ Ow g.nx h v' ((whichF l most round).map nI)) := by
 rcases ow with ⟨rfl,e⟩ | ⟨k,h1,h2,h3,h4,h5⟩
 ·rw [List.map_eq_nil_iff] at e
  subst e
  refine (which_none g most round).mono ?_
  rintro _ _ ⟨rfl,rfl⟩
  refine ⟨Ext.refl _,.inl ⟨rfl,?_⟩⟩
  have := whichF_len [] most round
  rw [List.length_nil] at this
  rw [List.eq_nil_of_length_eq_zero (Nat.le_zero.1 this)]
  rfl
 ·subst h3
  rw [List.length_map]
  have h1' : 1 ≤ l.length := by
   have := h5.1
   cases l with
   | nil => exact absurd rfl this
   | cons x l => simp
  exact which_ok l most round g h2 (rd_all h4 (by simp)) h1' hl
theorem spreadF_bd {l : List I3} (hx : ∀ x ∈ l,okS x) {ready : Int} (hr : 0 ≤ ready) : 0 ≤ spreadF l ready ∧ spreadF l ready ≤ 9223372036854775807 := by
 have hsb := sumF_bd hx
 have e : spreadF l ready = if l.length = 0 then 0 else (if 9223372036854775807 < sumF l * ready then 9223372036854775807 else sumF l * ready) / (l.length : Int) := rfl
 rw [e]
 have h0 : 0 ≤ sumF l * ready := Int.mul_nonneg (by omega) hr
 generalize sumF l * ready = z at h0
 split
 ·omega
 ·next hl =>
  have h1 : 0 ≤ (if 9223372036854775807 < z then 9223372036854775807 else z) ∧ (if 9223372036854775807 < z then 9223372036854775807 else z) ≤ 9223372036854775807 := by split <;> omega
  refine ⟨Int.ediv_nonneg h1.1 (by omega),?_⟩
  exact Int.le_trans (Int.ediv_le_self _ h1.1) h1.2
theorem scrape_okS {st : Sy} (i : SyI st) {asked : List Int} : ∀ x ∈ statsF st.ps st.now asked,okS x := fun x hx => by
 obtain ⟨p,hp,rfl⟩ := statsF_mem hx
 have h1 := i.ct.each p hp
 have h2 := i.bz p hp
 refine ⟨?_,?_,?_,?_⟩ <;> dsimp only <;> omega
theorem scrapeF_bd {st : Sy} (i : SyI st) : 0 ≤ scrapeF st ∧ scrapeF st ≤ 9223372036854775807 := by
 have h1 := i.ql
 exact mAdd_nn (spreadF_bd (scrape_okS i) (by omega)) (by omega)
set_option maxHeartbeats 2000000 in
theorem scrape_ok {T : Tg} {g : Hp} {s P L q D : Nat} {rs ts : Value} {st : Sy} (a : SyG g T s P L q D rs ts st) (i : SyI st) (hb : st.r.length ≤ 800000) :
  ACall PX 65 [ptr s] g (fun v h => v = nI (scrapeF st) ∧ Ext g h) := by
 have hlen := i.len hb
 refine acallA Tryz.func65 c65 ?_
 unfold ir65
 dsimp only [qo,qm,qk,q2,qi,qg,qn,qc,dq,ci,cb,qh,qs]
 obtain ⟨S,lf,ht⟩ := a.lf
 repeat (first | apply sS | apply sE | refine w_mv rfl ?_ | (refine w_callE ((pods_ok a).mono ?_) rfl rfl; rintro _ _ ⟨rfl,rfl⟩) | apply ai_seq | apply ai_regW)
 refine w_call rfl ((ready_lf g lf hlen).mono ?_)
 rintro v g1 ⟨ow1,x1⟩
 have a1 := a.ext x1
 have hsg := a1.sg
 have hrl : (rF st.ps).length ≤ 100 := Nat.le_trans (rF_le_c st.ps) i.cf
 have hct := i.ct
 repeat (first | apply sS | apply dS | apply sE | refine w_mv rfl ?_ | (refine is_okn rfl ?_; refine w_op rfl ?_) | (apply is_ld; refine w_ldA rfl ?_) | apply ai_seq | apply ai_regW | refine ai_drwW (by kernel_rfl) ?_)
 refine w_call rfl ((swhich_ok ow1 (by omega) st.c.sample st.now).mono ?_)
 rintro v2 g2 ⟨x2,ow2⟩
 have a2 := a1.ext x2
 have hwl := whichF_len (rF st.ps) st.c.sample st.now
 have r2 := ow2.gr.rr
 obtain ⟨c1,e⟩ : ∃ c,v = .slice (match v with | .slice x _ _ => x | _ => none) (rF st.ps).length c := by
  rcases ow1 with ⟨rfl,e⟩ | ⟨_,_,_,rfl,_⟩
  ·exact ⟨0,by rw [List.map_eq_nil_iff] at e; rw [e]; rfl⟩
  ·exact ⟨_,by rw [List.length_map]⟩
 generalize (match v with | .slice x _ _ => x | _ => none) = xv at e
 subst e
 generalize has : whichF (rF st.ps) st.c.sample st.now = asked at *
 obtain ⟨xa,ca,e⟩ := r2.len
 rw [rI_len] at e
 subst e
 repeat (first | apply sS | apply dS | apply sE | apply dE | refine w_mv rfl ?_ | (refine is_okn rfl ?_; refine w_op rfl ?_) | apply ai_seq | apply ai_regW | apply ai_block)
 refine ai_loopE (γ := Nat × Value) (fun e => [(0,ptr s),(3,.slice xv (rF st.ps).length c1),(4,e.2),(26,.slice xa asked.length ca),(27,nI asked.length),(28,nI e.1)])
  (fun e h => GR 3 g2.nx h e.2 (rT (statsF st.ps st.now (asked.take e.1))) ∧ Ext g2 h ∧ e.1 ≤ asked.length) (fun e => asked.length - e.1) (0,.slice none 0 0) leX ⟨.nil _ _ _,Ext.refl _,Nat.zero_le _⟩ ?_
 rintro ⟨m,lv⟩ g3 ⟨r3,x3,hm⟩
 dsimp only at r3 hm ⊢
 have a3 := a2.ext x3
 have hsl := statsF_len hct.up st.now (asked.take m)
 rw [List.length_take] at hsl
 by_cases hml : m < asked.length
 ·obtain ⟨id,hid⟩ : ∃ id,asked[m]? = some id := ⟨_,List.getElem?_eq_getElem hml⟩
  obtain ⟨bi,bo,bs,e,_,hr⟩ := (r2.ext x3).at (rI_get hid)
  cases e
  obtain ⟨S3,lf3,ht3⟩ := a3.lf
  repeat (first | apply sS | apply sE | refine w_mv rfl ?_ | (apply is_ld; refine w_ldA rfl ?_) | (apply is_bin; refine w_cT rfl ?_) | (apply is_iad; refine w_iadA rfl ?_) | (refine w_callE ((pods_ok a3).mono ?_) rfl rfl; rintro _ _ ⟨rfl,rfl⟩) | apply ai_seq | apply ai_regW | refine ai_cT rfl ?_ | apply ai_skip | apply ai_block)
  refine w_call rfl ((all_lf g3 lf3 hlen).mono ?_)
  rintro v4 g4 ⟨a4,x4⟩
  obtain ⟨xp,cp,e⟩ := a4.len
  subst e
  repeat (first | apply sS | apply sE | refine w_mv rfl ?_ | (refine is_okn rfl ?_; refine w_op rfl ?_) | apply ai_block)
  refine ai_loopE (γ := Nat × Value) (fun e => [(0,ptr s),(3,.slice xv (rF st.ps).length c1),(4,e.2),(7,nI id),(26,.slice (some ⟨bi,bo,bs⟩) asked.length ca),(27,nI asked.length),(28,nI m),(34,.slice xp st.ps.length cp),(35,nI st.ps.length),(36,nI e.1)])
   (fun e h => GR 3 g2.nx h e.2 (rT (statsF st.ps st.now (asked.take m) ++ ((st.ps.take e.1).filter fun p => decide (p.1 = id)).map fun p => (id,st.now - p.2.2.2,p.2.2.1 * 1000))) ∧ (g4.nx ≤ h.nx ∧ (∀ k,k < g4.nx → (k < g2.nx ∨ g3.nx ≤ k) → h.get k = g4.get k) ∧ ∀ a n c,e.2 = .slice (some a) n c → a.block < g3.nx ∨ g4.nx ≤ a.block) ∧ e.1 ≤ st.ps.length) (fun e => st.ps.length - e.1) (0,lv) leX
   ⟨by simpa using r3.ext x4,⟨Nat.le_refl _,fun _ _ _ => rfl,fun b n c e => .inl (r3.blk e).2⟩,Nat.zero_le _⟩ ?_
  rintro ⟨j,lw⟩ g5 ⟨r5,⟨n5,kp5,bl5⟩,hj⟩
  dsimp only at r5 hj bl5 ⊢
  have x34 := x3.trans x4
  have x25 : Ext g2 g5 := ⟨Nat.le_trans x34.1 n5,fun k hk => (kp5 k (Nat.lt_of_lt_of_le hk x34.1) (.inl hk)).trans (x34.2 k hk)⟩
  by_cases hjl : j < st.ps.length
  ·obtain ⟨p,hp⟩ : ∃ p,st.ps[j]? = some p := ⟨_,List.getElem?_eq_getElem hjl⟩
   obtain ⟨kp,e,hk1,hk2,hrp0⟩ := a4.at hp
   cases e
   have hrp : g5.rd kp (0 + j * 4) 4 = some (p4 p) := by
    unfold Hp.rd at hrp0 ⊢
    rw [kp5 kp hk1 (.inr hk2)]
    exact hrp0
   have hpm := List.mem_of_getElem? hp
   have hc := hct.each p hpm
   have hz := i.bz p hpm
   have hnow := i.now
   have a5 := a2.ext x25
   repeat (first | apply sS | apply sE | (apply is_ldn; refine w_ldnA rfl ?_) | (apply is_bin; refine w_cT rfl ?_) | (apply is_iad; refine w_iadA rfl ?_) | apply ai_seq | apply ai_regW | refine ai_cT rfl ?_ | apply ai_skip | apply ai_block)
   refine w_new fun g6 x6 k6 n6 => ?_
   repeat (first | apply sSn)
   refine w_stN rfl rfl k6 rfl rfl fun g7 m7 k7 n7 => ?_
   have x7 := x6.own m7 n7
   replace k7 : g7.get g5.nx = some ⟨p4 p,true,0⟩ := k7
   have a7 := a5.ext x7
   have hsg7 := a7.sg
   clear k6 hsg
   have htk : (st.ps.take (j + 1)).filter (fun p => decide (p.1 = id)) = (st.ps.take j).filter (fun p => decide (p.1 = id)) ++ if p.1 = id then [p] else [] := by
    obtain ⟨h1,rfl⟩ := List.getElem?_eq_some_iff.1 hp
    rw [List.take_succ_eq_append_getElem h1,List.filter_append]
    simp [List.filter_cons]
   by_cases hpi : p.1 = id
   ·rw [if_pos hpi] at htk
    have hf1 := filt1 hct.up id
    have hf2 : ((st.ps.take j).filter fun p => decide (p.1 = id)).length ≤ 1 := Nat.le_trans ((List.take_sublist j st.ps).filter _).length_le hf1
    have hrl5 : (rT (statsF st.ps st.now (asked.take m) ++ ((st.ps.take j).filter fun p => decide (p.1 = id)).map fun p => (id,st.now - p.2.2.2,p.2.2.1 * 1000))).length ≤ 102 := by
     rw [rT_len,List.length_append,List.length_map]; omega
    repeat (first | apply sS | apply dS | apply sE | refine w_mv rfl ?_ | refine w_bldF rfl rfl rfl rfl rfl ?_ | (refine is_okn rfl ?_; refine w_op rfl ?_) | (apply is_ld; refine w_ldA rfl ?_) | (apply is_bin; refine w_subA rfl ?_) | (apply is_bin; refine w_cT rfl ?_) | (refine w_mul rfl ?_ ?_; (focus omega)) | apply ai_seq | apply ai_regW | refine ai_cT rfl ?_ | refine ai_drwW (by kernel_rfl) ?_)
    refine w_bslF rfl rfl rfl rfl rfl fun g8 x8 k8 n8 => ?_
    repeat (first | apply dS)
    refine w_app1N rfl ((r5.ext x7).ext x8) k8 rfl rfl (by decide) (by omega) (by omega) fun s' g9 r9 y9 xo9 => ?_
    have x58 := x7.trans x8
    repeat (first | apply sS | apply dS | apply sE | apply dE | refine w_mv rfl ?_ | (apply is_bin; refine w_addA rfl ?_) | apply ai_regW)
    refine ⟨(j + 1,s'),leX,⟨?_,⟨by have := x58.1; omega,fun k hk hk' => ?_,fun b n c e => .inr ?_⟩,by dsimp only; omega⟩,by dsimp only; omega⟩
    rotate_left
    ·refine (xo9 k (by have := x58.1; omega) fun b n c e he => ?_).trans ((x58.2 k (by omega)).trans (kp5 k hk hk'))
     have h1 := (r5.blk e).1
     have h2 := bl5 _ _ _ e
     omega
    ·have := (r9.blk e).1
     have := x58.1
     omega
    dsimp only
    rw [htk,List.map_append,← List.append_assoc,rT_app]
    exact r9.mono (Nat.le_trans x25.1 x58.1)
   ·rw [if_neg hpi,List.append_nil] at htk
    repeat (first | apply sS | apply sE | refine w_mv rfl ?_ | (refine is_okn rfl ?_; refine w_op rfl ?_) | (apply is_ld; refine w_ldA rfl ?_) | (apply is_bin; refine w_addA rfl ?_) | (apply is_bin; refine w_cF rfl ?_) | apply ai_seq | apply ai_regW | refine ai_cF rfl ?_ | apply ai_skip)
    exact ⟨(j + 1,lw),leX,⟨by dsimp only; rw [htk]; exact r5.ext x7,⟨Nat.le_trans n5 x7.1,fun k hk hk' => (x7.2 k (by omega)).trans (kp5 k hk hk'),bl5⟩,by dsimp only; omega⟩,by dsimp only; omega⟩
  ·obtain rfl : j = st.ps.length := by omega
   have hst : asked.take (m + 1) = asked.take m ++ [id] := by
    obtain ⟨h1,rfl⟩ := List.getElem?_eq_some_iff.1 hid
    exact List.take_succ_eq_append_getElem h1
   repeat (first | apply sS | apply sE | refine w_mv rfl ?_ | (apply is_bin; refine w_addA rfl ?_) | (apply is_bin; refine w_cF rfl ?_) | apply ai_seq | apply ai_regW | refine ai_cF rfl ?_ | apply ai_exit)
   refine ⟨(m + 1,lw),leX,⟨?_,x25,by dsimp only; omega⟩,by dsimp only; omega⟩
   dsimp only
   rw [hst,statsF_app,show statsF st.ps st.now [id] = (st.ps.filter fun p => decide (p.1 = id)).map fun p => (id,st.now - p.2.2.2,p.2.2.1 * 1000) by simp [statsF]]
   rw [List.take_length] at r5
   exact r5
 ·obtain rfl : m = asked.length := by omega
  rw [List.take_length] at r3
  repeat (first | apply sS | apply sE | refine w_mv rfl ?_ | (refine is_okn rfl ?_; refine w_op rfl ?_) | (apply is_bin; refine w_cF rfl ?_) | apply ai_seq | apply ai_regW | refine ai_cF rfl ?_ | apply ai_exit)
  refine w_call rfl ((spread_ok g3 r3.rr (by have := statsF_len hct.up st.now asked; omega) (fun x hx => by
   obtain ⟨p,hp,rfl⟩ := statsF_mem hx
   have h1 := hct.each p hp
   have h2 := i.bz p hp
   refine ⟨?_,?_,?_,?_⟩ <;> dsimp only <;> omega) (ready := (rF st.ps).length) (by omega)).mono ?_)
  rintro _ g4 ⟨⟨code,rfl⟩,x4⟩
  have a4 := a3.ext x4
  obtain ⟨jq,qa,tq1,tq2⟩ := a4.qu
  have hql := i.ql
  repeat (first | apply sS | apply sE | refine w_mv rfl ?_ | refine w_ext rfl rfl ?_ | (refine w_callE ((waits_ok a4).mono ?_) rfl rfl; rintro _ _ ⟨rfl,rfl⟩) | apply ai_seq | apply ai_regW)
  refine w_call rfl ((all_ok g4 qa (by omega)).mono ?_)
  rintro v5 g5 ⟨x5,ow5⟩
  have hlv : ∃ x c,v5 = .slice x st.q.length c := by
   rcases ow5 with ⟨rfl,e⟩ | ⟨_,_,_,rfl,_⟩
   ·exact ⟨none,0,by rw [List.map_eq_nil_iff] at e; rw [e]; rfl⟩
   ·exact ⟨_,_,by rw [List.length_map]⟩
  obtain ⟨xv,cv,rfl⟩ := hlv
  have hsp := spreadF_bd (scrape_okS i (asked := asked)) (ready := (rF st.ps).length) (by omega)
  repeat (first | apply sS | (refine is_okn rfl ?_; refine w_op rfl ?_) | (refine w_mul rfl ?_ ?_; (focus omega)))
  refine w_call rfl ((madd_ok g5 (a := spreadF (statsF st.ps st.now asked) (rF st.ps).length) (b := (st.q.length : Int) * 1000) (by unfold L64; omega) (by unfold L64; omega)).mono ?_)
  rintro _ _ ⟨rfl,rfl⟩
  repeat (first | apply sS | apply sE | refine w_mv rfl ?_ | refine w_ext rfl rfl ?_ | apply ai_seq | apply ai_regW | (apply ai_ret; repeat (first | rw [thenQ_r] | rw [blockQ_r] | rw [roundE_r])))
  refine end_one rfl ⟨?_,x1.trans (x2.trans (x3.trans (x4.trans x5)))⟩
  unfold scrapeF
  rw [has]
def Hd (h : Hp) (i : Nat) (o : Ob) : Prop := i < h.nx ∧ h.get i = some o
theorem Hd.ext {h g : Hp} {i : Nat} {o : Ob} (a : Hd h i o) (x : Ext h g) : Hd g i o := ⟨Nat.lt_of_lt_of_le a.1 x.1,(x.2 i a.1).trans a.2⟩
theorem A4.blk {N : Nat} {h : Hp} {s : Value} {l : List Pd} (a : A4 N h s l) {b : Addr} {n c : Nat} (e : s = .slice (some b) n c) : N ≤ b.block ∧ b.block < h.nx := by
 rcases a with ⟨rfl,_⟩ | ⟨k,h1,h2,rfl,_⟩
 ·cases e
 ·cases e; exact ⟨h1,h2⟩
theorem A4.mono {N M : Nat} {h : Hp} {s : Value} {l : List Pd} (a : A4 N h s l) (hm : M ≤ N) : A4 M h s l := by
 rcases a with a | ⟨k,h1,r⟩
 ·exact .inl a
 ·exact .inr ⟨k,Nat.le_trans hm h1,r⟩
theorem A4.own {N i : Nat} {h g : Hp} {s : Value} {l : List Pd} (a : A4 N h s l) (ne : ∀ b n c,s = .slice (some b) n c → b.block ≠ i) (m : ∀ k,k ≠ i → g.get k = h.get k) (n : g.nx = h.nx) : A4 N g s l := by
 rcases a with a | ⟨k,h1,h2,rfl,hg,h5⟩
 ·exact .inl a
 ·exact .inr ⟨k,h1,by omega,rfl,(m k (ne _ _ _ rfl)).trans hg,h5⟩
theorem qlen {N : Nat} {h : Hp} {v : Value} {l : List (Int × Int)} (ow : Ow N h v (l.map fun p => nI p.1)) : ∃ x c,v = .slice x l.length c := by
 rcases ow with ⟨rfl,e⟩ | ⟨_,_,_,rfl,_⟩
 ·exact ⟨none,0,by rw [List.map_eq_nil_iff] at e; rw [e]; rfl⟩
 ·exact ⟨_,_,by rw [List.length_map]⟩
def z15 : List Value := [nI 0,nI 0,.bool false,.bool false,.slice none 0 0,nI 0,nI 0,nI 0,nI 0,nI 0,nI 0,nI 0,nI 0,nI 0,.bool false]
def vw0 (st : Sy) : Vw := ⟨st.now,st.want,st.last.panic,st.proxy,st.ps,st.q.length,0,[0,0,0,0,0,0,0],mtOver st.d.m⟩
theorem endsF_len (r : List Rq) : (endsF r).length = 7 := by simp [endsF]
theorem endsF_get {r : List Rq} {k : Nat} (hk : k < 7) : (endsF r)[k]? = some ((r.countP fun x => decide (x.2.2.1 = (k : Int)) : Nat) : Int) := by
 simp [endsF,hk]
theorem endsF_step {r : List Rq} {i k : Nat} {y : Rq} (hy : r[i]? = some y) (hk : y.2.2.1 = k) (h7 : k < 7) : (endsF (r.take i)).set k ((((r.take i).countP fun x => decide (x.2.2.1 = (k : Int)) : Nat) : Int) + 1) = endsF (r.take (i + 1)) := by
 obtain ⟨h1,rfl⟩ := List.getElem?_eq_some_iff.1 hy
 refine List.ext_getElem? fun j => ?_
 rw [List.take_succ_eq_append_getElem h1]
 by_cases hj : j < 7
 ·rw [endsF_get hj,List.countP_append]
  by_cases e : k = j
  ·subst e
   rw [List.getElem?_set_self (by rw [endsF_len]; exact h7)]
   simp [hk]
  ·rw [List.getElem?_set_ne e,endsF_get hj]
   have : ¬ (r[i].2.2.1 = (j : Int)) := by omega
   simp [this]
 ·rw [List.getElem?_eq_none (by rw [List.length_set,endsF_len]; omega),List.getElem?_eq_none (by rw [endsF_len]; omega)]
theorem vwV_get {v : Vw} {ps : Value} {k : Nat} {z : Int} (hk : v.ends[k]? = some z) : (vwV v ps)[7 + k]? = some (nI z) := by
 have hl := (List.getElem?_eq_some_iff.1 hk).1
 unfold vwV
 rw [List.append_assoc,List.getElem?_append_right (by simp)]
 rw [List.getElem?_append_left (by simp; omega)]
 simp [hk]
theorem vwV_set {v : Vw} {ps : Value} (h7 : v.ends.length = 7) {k : Nat} (hk : k < 7) (z : Int) : (vwV v ps).set (7 + k) (nI z) = vwV { v with ends := v.ends.set k z } ps := by
 unfold vwV
 rw [List.append_assoc,List.append_assoc,List.set_append_right _ _ (by simp)]
 rw [List.set_append_left _ _ (by simp; omega)]
 simp [List.map_set]
theorem vwV_len {v : Vw} {ps : Value} (h7 : v.ends.length = 7) : (vwV v ps).length = 15 := by simp [vwV,h7]
def vwE (st : Sy) (r : List Rq) : Vw := ⟨st.now,st.want,st.last.panic,st.proxy,st.ps,st.q.length,0,endsF r,mtOver st.d.m⟩
theorem vwE_nil (st : Sy) : vwE st [] = vw0 st := rfl
set_option maxHeartbeats 2000000 in
theorem see_ok {T : Tg} {g : Hp} {s P L q D : Nat} {rs ts : Value} {st : Sy} (a : SyG g T s P L q D rs ts st) (i : SyI st) (hb : st.r.length ≤ 800000) :
  ACall PX 12 [ptr s] g (fun v h => ∃ ps,v = .agg ⟨vwV (seeF st) ps⟩ ∧ A4 g.nx h ps st.ps ∧ Ext g h) := by
 have hlen := i.len hb
 have hql := i.ql
 refine acallA Tryz.func12 c12 ?_
 unfold ir12
 dsimp only [qo,qm,qk,q2,qi,qg,qn,qc,dq,ci,cb,qh,qs]
 repeat (first | apply sS | apply ai_seq | apply ai_regW)
 refine w_new fun g0 x0 k0 n0 => ?_
 have a0 := a.ext x0
 have hsg := a0.sg
 have H0 : Hd g0 g.nx ⟨z15,true,0⟩ := ⟨by omega,k0⟩
 clear k0
 refine sE ?_
 refine ai_seq (ai_seq ?_)
 repeat (first | apply sS | apply sE | refine w_mv rfl ?_ | (refine is_okk rfl ?_; refine w_op rfl ?_) | apply ai_regW | refine ai_cF rfl ?_ | apply ai_skip)
 refine ai_join (γ := Nat × Value) (fun e => [(0,ptr s),(2,ptr g.nx),(3,ptr e.1)])
  (fun e h => Hd h e.1 ⟨vwV (vw0 st) e.2,true,0⟩ ∧ Hd h g.nx ⟨z15,true,0⟩ ∧ g.nx ≠ e.1 ∧ (∀ b n c,e.2 = .slice (some b) n c → b.block ≠ e.1) ∧ A4 g0.nx h e.2 st.ps ∧ Ext g h ∧ g0.nx ≤ e.1) ?_ ?_
 ·have fin : ∀ {hL hN gz : Hp} {v1 : Value} {nA : Nat} {z : Ob},Ext g0 hL → Hd hL hN.nx z → Ext g0 hN → A4 nA hL v1 st.ps → (∀ b n c,v1 = .slice (some b) n c → b.block ≠ hN.nx) →
    (∀ k,k ≠ hN.nx → gz.get k = hL.get k) → gz.get hN.nx = some ⟨vwV (vw0 st) v1,true,0⟩ → gz.nx = hL.nx →
    Hd gz hN.nx ⟨vwV (vw0 st) v1,true,0⟩ ∧ Hd gz g.nx ⟨z15,true,0⟩ ∧ g.nx ≠ hN.nx ∧ (∀ b n c,v1 = .slice (some b) n c → b.block ≠ hN.nx) ∧ A4 nA gz v1 st.ps ∧ Ext g gz ∧ g0.nx ≤ hN.nx := by
   intro hL hN gz v1 nA z X P NX A ne m k n
   have h1 := NX.1
   refine ⟨⟨by have := P.1; omega,k⟩,⟨by have := X.1; omega,(m _ (by omega)).trans (H0.ext X).2⟩,by omega,ne,A.own ne m n,⟨by have := X.1; omega,fun j hj => (m j (by omega)).trans ((x0.trans X).2 j hj)⟩,h1⟩
  repeat (first | refine w_mv rfl ?_ | (refine is_okn rfl ?_; refine w_op rfl ?_) | (apply is_ld; refine w_ldA rfl ?_) | apply tS | refine ai_drtW (by kernel_rfl) ?_)
  skip
  refine tA ?_ ?_
  ·skip
   repeat (first | apply tSR | (apply is_ag; refine agTA ?_) | (refine w_callE ((pods_ok a0).mono ?_) rfl rfl; rintro _ _ ⟨rfl,rfl⟩))
   skip
   refine tA ?_ ?_
   ·skip
    obtain ⟨S1,lf2,_⟩ := a0.lf
    repeat (first | apply tSR)
    refine w_call rfl ((all_lf _ lf2 hlen).mono ?_)
    rintro v1 h3 ⟨W4,y5⟩
    obtain ⟨x1,c1,rfl⟩ := W4.len
    have a7 := a0.ext y5
    clear hsg
    have hsg8 := a7.sg
    have X9 := (Ext.refl g0).trans y5
    repeat (first | (apply is_ag; refine agTA ?_))
    refine tA ?_ ?_
    ·skip
     repeat (first | apply tSR | (apply is_ag; refine agTA ?_) | (refine w_callE ((waits_ok a7).mono ?_) rfl rfl; rintro _ _ ⟨rfl,rfl⟩))
     skip
     refine tA ?_ ?_
     ·skip
      obtain ⟨jq10,qa11,tq12,tr13⟩ := a7.qu
      repeat (first | apply tSR)
      refine w_call rfl ((all_ok _ qa11 (by omega)).mono ?_)
      rintro v2 h14 ⟨y16,ow15⟩
      obtain ⟨x2,c2,rfl⟩ := qlen ow15
      have a17 := a7.ext y16
      clear hsg8
      have hsg18 := a17.sg
      have X19 := X9.trans y16
      have W20 := W4.move y16
      repeat (first | (refine is_okn rfl ?_; refine w_op rfl ?_) | apply tS | (apply is_ag; refine agTA ?_))
      refine tA ?_ ?_
      ·skip
       repeat (first | apply tSR | (apply is_ag; refine agTA ?_) | (refine w_callE ((decs_ok a17).mono ?_) rfl rfl; rintro _ _ ⟨rfl,rfl⟩))
       skip
       refine tA ?_ ?_
       ·skip
        repeat (first | apply tSR)
        refine w_call rfl ((ddover_ok _ a17.dd).mono ?_)
        rintro _ _ ⟨rfl,rfl⟩
        repeat (first | apply tS | (apply is_ag; refine agTA ?_))
        refine w_bldG (us := vwV (vw0 st) (.slice x1 st.ps.length c1)) rfl rfl rfl ?_
        repeat (first | apply tSR)
        refine w_new fun h21 y22 k23 n24 => ?_
        have ne25 : ∀ b n c,Value.slice x1 st.ps.length c1 = .slice (some b) n c → b.block ≠ h14.nx := fun b n c e => by have q1 := (A4.blk W20 e).2; omega
        have a27 := a17.ext y22
        clear hsg18
        have hsg28 := a27.sg
        have X29 := X19.trans y22
        have W30 := W20.move y22
        have P26 : Hd h21 h14.nx _ := ⟨by omega,k23⟩
        repeat (first | apply tSn | (apply is_ag; refine agTA ?_))
        refine w_stN rfl rfl P26.2 rfl rfl fun gz mz kz nz => ?_
        repeat (first | apply tE)
        exact ⟨rfl,(h14.nx,.slice x1 st.ps.length c1),leX,fin X29 P26 X19 (W30.mono (Ext.refl g0).1) ne25 mz kz nz⟩
       ·skip
        repeat (first | apply tSR)
        refine w_new fun h31 y32 k33 n34 => ?_
        have ne35 : ∀ b n c,Value.slice x1 st.ps.length c1 = .slice (some b) n c → b.block ≠ h14.nx := fun b n c e => by have q1 := (A4.blk W20 e).2; omega
        have a37 := a17.ext y32
        clear hsg18
        have hsg38 := a37.sg
        have X39 := X19.trans y32
        have W40 := W20.move y32
        have P36 : Hd h31 h14.nx _ := ⟨by omega,k33⟩
        repeat (first | apply tSR | (apply is_ag; refine agTA ?_))
        refine w_call rfl ((ddover_ok _ a37.dd).mono ?_)
        rintro _ _ ⟨rfl,rfl⟩
        repeat (first | apply tS | (apply is_ag; refine agTA ?_))
        refine w_bldG (us := vwV (vw0 st) (.slice x1 st.ps.length c1)) rfl rfl rfl ?_
        repeat (first | apply tSn)
        refine w_stN rfl rfl P36.2 rfl rfl fun gz mz kz nz => ?_
        repeat (first | apply tE)
        exact ⟨rfl,(h14.nx,.slice x1 st.ps.length c1),leX,fin X39 P36 X19 (W40.mono (Ext.refl g0).1) ne35 mz kz nz⟩
      ·skip
       repeat (first | apply tSR)
       refine w_new fun h41 y42 k43 n44 => ?_
       have ne45 : ∀ b n c,Value.slice x1 st.ps.length c1 = .slice (some b) n c → b.block ≠ h14.nx := fun b n c e => by have q1 := (A4.blk W20 e).2; omega
       have a47 := a17.ext y42
       clear hsg18
       have hsg48 := a47.sg
       have X49 := X19.trans y42
       have W50 := W20.move y42
       have P46 : Hd h41 h14.nx _ := ⟨by omega,k43⟩
       repeat (first | apply tSR | (apply is_ag; refine agTA ?_) | (refine w_callE ((decs_ok a47).mono ?_) rfl rfl; rintro _ _ ⟨rfl,rfl⟩))
       skip
       refine w_call rfl ((ddover_ok _ a47.dd).mono ?_)
       rintro _ _ ⟨rfl,rfl⟩
       repeat (first | apply tS | (apply is_ag; refine agTA ?_))
       refine w_bldG (us := vwV (vw0 st) (.slice x1 st.ps.length c1)) rfl rfl rfl ?_
       repeat (first | apply tSn)
       refine w_stN rfl rfl P46.2 rfl rfl fun gz mz kz nz => ?_
       repeat (first | apply tE)
       exact ⟨rfl,(h14.nx,.slice x1 st.ps.length c1),leX,fin X49 P46 X19 (W50.mono (Ext.refl g0).1) ne45 mz kz nz⟩
     ·skip
      repeat (first | apply tSR)
      refine w_new fun h51 y52 k53 n54 => ?_
      have ne55 : ∀ b n c,Value.slice x1 st.ps.length c1 = .slice (some b) n c → b.block ≠ h3.nx := fun b n c e => by have q1 := (A4.blk W4 e).2; omega
      have a57 := a7.ext y52
      clear hsg8
      have hsg58 := a57.sg
      have X59 := X9.trans y52
      have W60 := W4.move y52
      have P56 : Hd h51 h3.nx _ := ⟨by omega,k53⟩
      obtain ⟨jq61,qa62,tq63,tr64⟩ := a57.qu
      repeat (first | apply tSR | (apply is_ag; refine agTA ?_))
      refine w_call rfl ((all_ok _ qa62 (by omega)).mono ?_)
      rintro v2 h65 ⟨y67,ow66⟩
      obtain ⟨x2,c2,rfl⟩ := qlen ow66
      have a68 := a57.ext y67
      clear hsg58
      have hsg69 := a68.sg
      have X70 := X59.trans y67
      have P71 := P56.ext y67
      have W72 := W60.move y67
      repeat (first | (refine is_okn rfl ?_; refine w_op rfl ?_) | apply tS | apply tSR | (apply is_ag; refine agTA ?_) | (refine w_callE ((decs_ok a68).mono ?_) rfl rfl; rintro _ _ ⟨rfl,rfl⟩))
      skip
      refine w_call rfl ((ddover_ok _ a68.dd).mono ?_)
      rintro _ _ ⟨rfl,rfl⟩
      repeat (first | apply tS | (apply is_ag; refine agTA ?_))
      refine w_bldG (us := vwV (vw0 st) (.slice x1 st.ps.length c1)) rfl rfl rfl ?_
      repeat (first | apply tSn)
      refine w_stN rfl rfl P71.2 rfl rfl fun gz mz kz nz => ?_
      repeat (first | apply tE)
      exact ⟨rfl,(h3.nx,.slice x1 st.ps.length c1),leX,fin X70 P71 X9 (W72.mono (Ext.refl g0).1) ne55 mz kz nz⟩
    ·skip
     repeat (first | apply tSR)
     refine w_new fun h73 y74 k75 n76 => ?_
     have ne77 : ∀ b n c,Value.slice x1 st.ps.length c1 = .slice (some b) n c → b.block ≠ h3.nx := fun b n c e => by have q1 := (A4.blk W4 e).2; omega
     have a79 := a7.ext y74
     clear hsg8
     have hsg80 := a79.sg
     have X81 := X9.trans y74
     have W82 := W4.move y74
     have P78 : Hd h73 h3.nx _ := ⟨by omega,k75⟩
     repeat (first | apply tSR | (apply is_ag; refine agTA ?_) | (refine w_callE ((waits_ok a79).mono ?_) rfl rfl; rintro _ _ ⟨rfl,rfl⟩))
     obtain ⟨jq83,qa84,tq85,tr86⟩ := a79.qu
     skip
     refine w_call rfl ((all_ok _ qa84 (by omega)).mono ?_)
     rintro v2 h87 ⟨y89,ow88⟩
     obtain ⟨x2,c2,rfl⟩ := qlen ow88
     have a90 := a79.ext y89
     clear hsg80
     have hsg91 := a90.sg
     have X92 := X81.trans y89
     have P93 := P78.ext y89
     have W94 := W82.move y89
     repeat (first | (refine is_okn rfl ?_; refine w_op rfl ?_) | apply tS | apply tSR | (apply is_ag; refine agTA ?_) | (refine w_callE ((decs_ok a90).mono ?_) rfl rfl; rintro _ _ ⟨rfl,rfl⟩))
     skip
     refine w_call rfl ((ddover_ok _ a90.dd).mono ?_)
     rintro _ _ ⟨rfl,rfl⟩
     repeat (first | apply tS | (apply is_ag; refine agTA ?_))
     refine w_bldG (us := vwV (vw0 st) (.slice x1 st.ps.length c1)) rfl rfl rfl ?_
     repeat (first | apply tSn)
     refine w_stN rfl rfl P93.2 rfl rfl fun gz mz kz nz => ?_
     repeat (first | apply tE)
     exact ⟨rfl,(h3.nx,.slice x1 st.ps.length c1),leX,fin X92 P93 X9 (W94.mono (Ext.refl g0).1) ne77 mz kz nz⟩
   ·skip
    repeat (first | apply tSR)
    refine w_new fun h95 y96 k97 n98 => ?_
    have a100 := a0.ext y96
    clear hsg
    have hsg101 := a100.sg
    have X102 := (Ext.refl g0).trans y96
    have P99 : Hd h95 g0.nx _ := ⟨by omega,k97⟩
    obtain ⟨S103,lf104,_⟩ := a100.lf
    repeat (first | apply tSR | (apply is_ag; refine agTA ?_))
    refine w_call rfl ((all_lf _ lf104 hlen).mono ?_)
    rintro v1 h105 ⟨W106,y107⟩
    obtain ⟨x1,c1,rfl⟩ := W106.len
    have ne109 : ∀ b n c,Value.slice x1 st.ps.length c1 = .slice (some b) n c → b.block ≠ g0.nx := fun b n c e => by have q1 := (A4.blk W106 e).1; have q2 := P99.1; omega
    have a110 := a100.ext y107
    clear hsg101
    have hsg111 := a110.sg
    have X112 := X102.trans y107
    have P113 := P99.ext y107
    repeat (first | apply tSR | (apply is_ag; refine agTA ?_) | (refine w_callE ((waits_ok a110).mono ?_) rfl rfl; rintro _ _ ⟨rfl,rfl⟩))
    obtain ⟨jq114,qa115,tq116,tr117⟩ := a110.qu
    skip
    refine w_call rfl ((all_ok _ qa115 (by omega)).mono ?_)
    rintro v2 h118 ⟨y120,ow119⟩
    obtain ⟨x2,c2,rfl⟩ := qlen ow119
    have a121 := a110.ext y120
    clear hsg111
    have hsg122 := a121.sg
    have X123 := X112.trans y120
    have P124 := P113.ext y120
    have W125 := W106.move y120
    repeat (first | (refine is_okn rfl ?_; refine w_op rfl ?_) | apply tS | apply tSR | (apply is_ag; refine agTA ?_) | (refine w_callE ((decs_ok a121).mono ?_) rfl rfl; rintro _ _ ⟨rfl,rfl⟩))
    skip
    refine w_call rfl ((ddover_ok _ a121.dd).mono ?_)
    rintro _ _ ⟨rfl,rfl⟩
    repeat (first | apply tS | (apply is_ag; refine agTA ?_))
    refine w_bldG (us := vwV (vw0 st) (.slice x1 st.ps.length c1)) rfl rfl rfl ?_
    repeat (first | apply tSn)
    refine w_stN rfl rfl P124.2 rfl rfl fun gz mz kz nz => ?_
    repeat (first | apply tE)
    exact ⟨rfl,(g0.nx,.slice x1 st.ps.length c1),leX,fin X123 P124 (Ext.refl g0) (W125.mono X102.1) ne109 mz kz nz⟩
  ·skip
   repeat (first | apply tSR)
   refine w_new fun h126 y127 k128 n129 => ?_
   have a131 := a0.ext y127
   clear hsg
   have hsg132 := a131.sg
   have X133 := (Ext.refl g0).trans y127
   have P130 : Hd h126 g0.nx _ := ⟨by omega,k128⟩
   repeat (first | apply tSR | (apply is_ag; refine agTA ?_) | (refine w_callE ((pods_ok a131).mono ?_) rfl rfl; rintro _ _ ⟨rfl,rfl⟩))
   obtain ⟨S134,lf135,_⟩ := a131.lf
   skip
   refine w_call rfl ((all_lf _ lf135 hlen).mono ?_)
   rintro v1 h136 ⟨W137,y138⟩
   obtain ⟨x1,c1,rfl⟩ := W137.len
   have ne140 : ∀ b n c,Value.slice x1 st.ps.length c1 = .slice (some b) n c → b.block ≠ g0.nx := fun b n c e => by have q1 := (A4.blk W137 e).1; have q2 := P130.1; omega
   have a141 := a131.ext y138
   clear hsg132
   have hsg142 := a141.sg
   have X143 := X133.trans y138
   have P144 := P130.ext y138
   repeat (first | apply tSR | (apply is_ag; refine agTA ?_) | (refine w_callE ((waits_ok a141).mono ?_) rfl rfl; rintro _ _ ⟨rfl,rfl⟩))
   obtain ⟨jq145,qa146,tq147,tr148⟩ := a141.qu
   skip
   refine w_call rfl ((all_ok _ qa146 (by omega)).mono ?_)
   rintro v2 h149 ⟨y151,ow150⟩
   obtain ⟨x2,c2,rfl⟩ := qlen ow150
   have a152 := a141.ext y151
   clear hsg142
   have hsg153 := a152.sg
   have X154 := X143.trans y151
   have P155 := P144.ext y151
   have W156 := W137.move y151
   repeat (first | (refine is_okn rfl ?_; refine w_op rfl ?_) | apply tS | apply tSR | (apply is_ag; refine agTA ?_) | (refine w_callE ((decs_ok a152).mono ?_) rfl rfl; rintro _ _ ⟨rfl,rfl⟩))
   skip
   refine w_call rfl ((ddover_ok _ a152.dd).mono ?_)
   rintro _ _ ⟨rfl,rfl⟩
   repeat (first | apply tS | (apply is_ag; refine agTA ?_))
   refine w_bldG (us := vwV (vw0 st) (.slice x1 st.ps.length c1)) rfl rfl rfl ?_
   repeat (first | apply tSn)
   refine w_stN rfl rfl P155.2 rfl rfl fun gz mz kz nz => ?_
   repeat (first | apply tE)
   exact ⟨rfl,(g0.nx,.slice x1 st.ps.length c1),leX,fin X154 P155 (Ext.refl g0) (W156.mono X133.1) ne140 mz kz nz⟩
 rintro ⟨nv,ps⟩ g1 ⟨H1,H2,hne,hps,A1,x1,hnv⟩
 dsimp only at H1 H2 hne hps A1 hnv ⊢
 obtain ⟨xp,cp,rfl⟩ := A1.len
 generalize hpsv : Value.slice xp st.ps.length cp = ps at *
 have a1 := a.ext x1
 have hsg1 := a1.sg
 obtain ⟨ra,hta⟩ := a1.rq
 obtain ⟨x,c,e⟩ := ra.len
 rw [rQ_len] at e
 subst e
 clear hsg
 repeat (first | apply sS | apply sE | refine w_mv rfl ?_ | (refine is_okn rfl ?_; refine w_op rfl ?_) | (apply is_ld; refine w_ldA rfl ?_) | apply ai_seq | apply ai_regW | apply ai_block)
 refine ai_loopE (γ := Nat) (fun m => [(0,ptr s),(2,ptr g.nx),(3,ptr nv),(40,.slice x st.r.length c),(41,nI st.r.length),(42,nI m)])
  (fun m h => Hd h nv ⟨vwV (vwE st (st.r.take m)) ps,true,0⟩ ∧ Hd h g.nx ⟨z15,true,0⟩ ∧ A4 g0.nx h ps st.ps ∧ Ext g h ∧ m ≤ st.r.length) (fun m => st.r.length - m) 0 leX ⟨by rw [List.take_zero,vwE_nil]; exact H1,H2,A1,x1,Nat.zero_le _⟩ ?_
 rintro m h ⟨K1,K2,A2,x2,hm⟩
 by_cases hml : m < st.r.length
 ·obtain ⟨y,hy⟩ : ∃ y,st.r[m]? = some y := ⟨_,List.getElem?_eq_getElem hml⟩
  obtain ⟨bi,bo,bs,e,hbl,hr⟩ := a.rq.1.rr.at (rQ_get hy)
  cases e
  have hr2 : h.rd bi (bo + m * 4) 4 = some (p4 y) := (x2.rd hbl).trans hr
  have hys := i.rs y (List.mem_of_getElem? hy)
  obtain ⟨k,hk⟩ : ∃ k : Nat,y.2.2.1 = k := ⟨y.2.2.1.toNat,by omega⟩
  have h7 := endsF_len (st.r.take m)
  have hk7 : k < 7 := by omega
  repeat (first | apply sS | apply sE | (apply is_ldn; refine w_ldnA rfl ?_) | (apply is_bin; refine w_cT rfl ?_) | (apply is_iad; refine w_iadA rfl ?_) | apply ai_seq | apply ai_regW | refine ai_cT rfl ?_ | apply ai_skip | apply ai_block)
  refine w_new fun g3 x3 k3 n3 => ?_
  repeat (first | apply sSn)
  refine w_stN rfl rfl k3 rfl rfl fun g4 m4 k4 n4 => ?_
  have x4 := x3.own m4 n4
  replace k4 : g4.get h.nx = some ⟨p4 y,true,0⟩ := k4
  have K14 := K1.ext x4
  have K24 := K2.ext x4
  clear k3
  have hcn : ((st.r.take m).countP fun x => decide (x.2.2.1 = (k : Int))) ≤ 800000 := by
   have h1 := List.countP_le_length (p := fun x : Rq => decide (x.2.2.1 = (k : Int))) (l := st.r.take m)
   rw [List.length_take] at h1
   omega
  have hrd : g4.rd nv (0 + 7 + y.2.2.1.toNat * 1) 1 = some [nI ((st.r.take m).countP fun x => decide (x.2.2.1 = (k : Int)) : Nat)] := by
   rw [hk,Int.toNat_natCast,Nat.zero_add,Nat.mul_one]
   have := rd_f K14.2 (vwV_get (v := vwE st (st.r.take m)) (endsF_get hk7))
   rwa [Nat.zero_add] at this
  repeat (first | apply sS | apply sSn | apply sE | (refine is_okn rfl ?_; refine w_op rfl ?_) | (apply is_ld; refine w_ldA rfl ?_) | (apply is_bin; refine w_addA rfl ?_) | (refine w_iaa rfl ?_ ?_; focus (first | omega | (simp; done) | (simp; omega))) | apply ai_regW)
  refine w_st1 rfl rfl K14.2 (by rw [vwV_len h7]; omega) rfl fun g5 m5 k5 n5 => ?_
  have hK5 : g5.get nv = some ⟨vwV (vwE st (st.r.take (m + 1))) ps,true,0⟩ := by
   rw [k5,hk,Int.toNat_natCast,Nat.zero_add,Nat.mul_one,vwV_set (v := vwE st (st.r.take m)) h7 hk7]
   congr 3
   exact congrArg (fun e => Vw.mk st.now st.want st.last.panic st.proxy st.ps st.q.length 0 e (mtOver st.d.m)) (endsF_step hy hk hk7)
  have x5 : Ext g g5 := ⟨by have := (x2.trans x4).1; omega,fun j hj => (m5 j (by have := x0.1; omega)).trans ((x2.trans x4).2 j hj)⟩
  repeat (first | apply sS | apply sE | refine w_mv rfl ?_ | (apply is_bin; refine w_addA rfl ?_) | apply ai_regW)
  exact ⟨m + 1,leX,⟨⟨by have := K14.1; omega,hK5⟩,⟨by have := K24.1; omega,(m5 _ hne).trans K24.2⟩,(A2.move x4).own hps m5 n5,x5,by omega⟩,by dsimp only; omega⟩
 ·obtain rfl : m = st.r.length := by omega
  rw [List.take_length] at K1
  have h7 := endsF_len st.r
  have hrd : h.rd nv (0 + 7 + Int.toNat 2 * 1) 1 = some [nI (st.r.countP fun x => decide (x.2.2.1 = 2) : Nat)] := rd_f K1.2 (vwV_get (v := vwE st st.r) (endsF_get (k := 2) (by decide)))
  repeat (first | apply sS | apply sSn | apply sE | (refine is_okn rfl ?_; refine w_op rfl ?_) | (apply is_ld; refine w_ldA rfl ?_) | (apply is_bin; refine w_cF rfl ?_) | (refine w_iaa rfl ?_ ?_; focus (first | omega | (simp; done) | (simp; omega))) | apply ai_seq | apply ai_regW | refine ai_cF rfl ?_ | apply ai_exit)
  refine w_st1 rfl rfl K1.2 (by rw [vwV_len h7]; decide) rfl fun g5 m5 k5 n5 => ?_
  replace k5 : g5.get nv = some ⟨vwV (seeF st) ps,true,0⟩ := k5
  have hall : g5.rd nv 0 15 = some (vwV (seeF st) ps) := rd_all k5 (vwV_len h7)
  have K25 := (m5 _ hne).trans K2.2
  repeat (first | apply sS | apply sSn | apply sE | (apply is_ldn; refine w_ldnA rfl ?_) | apply ai_seq | apply ai_regW)
  refine w_stN rfl (vwV_len (v := seeF st) h7) K25 rfl (by rw [← hpsv]; rfl) fun g6 m6 k6 n6 => ?_
  have A5 := A2.own hps m5 n5
  repeat (first | apply sE | (apply ai_ret; repeat (first | rw [thenQ_r] | rw [blockQ_r] | rw [roundE_r])))
  refine end_cell1 rfl k6 Tryz.underlying39 rfl (by kernel_rfl) (vwV_len (v := seeF st) h7) ⟨ps,rfl,(A5.own (fun b n c e => by have := (A5.blk e).1; omega) m6 n6).mono (Nat.le_of_lt n0),by have := x2.1; omega,fun j hj => ?_⟩
  rw [m6 j (by omega),m5 j (by omega)]
  exact x2.2 j hj
section
theorem syTick_eq (s : Sy) : syTick s = tk5 (sySent (tk4 (tk3 (tk2 (tk1 s))))) := rfl
theorem lateF_eq {now age : Int} {q : List (Int × Int)} {d : Nat} (h1 : ∀ p ∈ q.take d,lateB now age p.2 = true) (h2 : ∀ p,q[d]? = some p → lateB now age p.2 = false) : lateF now age q = q.take d := by
 unfold lateF
 induction q generalizing d with
 | nil => simp
 | cons x q ih =>
  cases d with
  | zero =>
   have := h2 x rfl
   simp [this]
  | succ d =>
   have hx := h1 x (by simp)
   rw [List.take_succ_cons,List.takeWhile_cons,if_pos hx,ih (fun p hp => h1 p (by rw [List.take_succ_cons]; exact List.mem_cons_of_mem _ hp)) (fun p hp => h2 p (by simpa using hp))]
theorem lateR_len (now : Int) : ∀ (late : List (Int × Int)) (r : List Rq),(lateR now late r).length = r.length
 | [],r => rfl
 | w :: late,r => by
  show (lateR now late (setR r w.1.toNat _)).length = _
  rw [lateR_len now late,setR_len]
theorem lateR_mem {now : Int} : ∀ {late : List (Int × Int)} {r : List Rq} {x : Rq},(∀ y ∈ r,1 ≤ y.2.2.1 ∧ y.2.2.1 ≤ 6) → x ∈ lateR now late r → 1 ≤ x.2.2.1 ∧ x.2.2.1 ≤ 6
 | [],_,_,h,hx => h _ hx
 | w :: late,r,x,h,hx => by
  refine lateR_mem (late := late) (fun y hy => ?_) hx
  rcases setR_mem hy with hy | rfl
  ·exact h y hy
  ·dsimp only; omega
theorem lateR_snoc (now : Int) (late : List (Int × Int)) (w : Int × Int) (r : List Rq) : lateR now (late ++ [w]) r = setR (lateR now late r) w.1.toNat fun x => (x.1,now,4,x.2.2.2) := by
 unfold lateR
 rw [List.foldl_append]
 rfl
section
variable {st : Sy}
theorem SyI.kp0 (i : SyI st) (hn : st.now < 1099511627776) : SyI (tk0 st) := by
 have h1 := i.now
 have h2 := i.made
 have h3 := i.qp
 have h4 := i.since
 unfold tk0
 exact ⟨i.c,by dsimp only; omega,i.ct,by dsimp only; omega,i.cf,fun p hp => by have := i.bz p hp; dsimp only; omega,i.sum,i.ql,i.qd,by dsimp only; omega,fun w hw => by have := i.qi w hw; dsimp only; omega,i.rs,i.dd.mono (by dsimp only; omega) (by dsimp only; omega),i.lost,by dsimp only; omega,i.trl⟩
theorem SyI.kp1 (i : SyI st) (hn : st.now < 1099511627776) : SyI (tk1 st) := by
 have i0 := i.kp0 hn
 obtain ⟨c1,c2,c3⟩ := i.ct.ripe (now := st.now + 1) (after := st.c.ready)
 have h1 := i.sum
 have h2 := i.ql
 have h3 := i.cf
 unfold tk1
 refine ⟨i.c,i0.now,c1,i0.made,by dsimp only; rw [cF_ripe]; exact h3,fun p hp => ?_,?_,by dsimp only; rw [List.length_drop]; omega,i.qd,i0.qp,fun w hw => ?_,fun x hx => lateR_mem i.rs hx,i0.dd,i.lost,i0.since,i.trl⟩
 ·obtain ⟨q,hq,rfl⟩ := List.mem_map.1 hp
  have := i0.bz q hq
  unfold rpF
  split
  ·exact this
  ·exact this
 ·dsimp only
  rw [lateR_len,c2,List.length_drop]
  omega
 ·have := i0.qi w (List.mem_of_mem_drop hw)
  dsimp only
  rw [lateR_len]
  exact this
theorem SyI.kp2 (i : SyI st) {nd : Int} (hd : DdB st.d nd nd) (hn : st.now = nd + 1) (h0 : 0 ≤ nd) : SyI (tk2 st) ∧ DdB (tk2 st).d st.now nd := by
 have h1 := i.now
 have h2 := i.lost
 unfold tk2
 split
 ·next hl => exact ⟨⟨i.c,i.now,i.ct,i.made,i.cf,i.bz,i.sum,i.ql,i.qd,i.qp,i.qi,i.rs,i.dd,by dsimp only; omega,i.since,i.trl⟩,hd.mono (by omega) (Int.le_refl _)⟩
 ·next hl =>
  have hp : DdB (ddPut st.d st.now (scrapeF st)) st.now nd := hd.put h0 hn h1.2 (scrapeF_bd i)
  exact ⟨⟨i.c,i.now,i.ct,i.made,i.cf,i.bz,i.sum,i.ql,i.qd,i.qp,i.qi,i.rs,hp.mono (Int.le_refl _) (by dsimp only; omega),i.lost,i.since,i.trl⟩,hp⟩
theorem zNext_bd {s now : Int} {proxy : Bool} (h : -1 ≤ s ∧ s ≤ now) (h0 : 0 ≤ now) : -1 ≤ zNext s now proxy ∧ zNext s now proxy ≤ now := by
 unfold zNext
 split
 ·split <;> omega
 ·omega
theorem zWant_nn (c : Cf20) (s now want have_ mean waiting busy : Int) : 0 ≤ zWant c s now want have_ mean waiting busy := by
 unfold zWant
 split
 ·omega
 ·split <;> omega
theorem SyI.kp3 (i : SyI st) {nd : Int} (hd : DdB st.d st.now nd) (hn : st.now = nd + 1) (h0 : 0 ≤ nd) : SyI (tk3 st) := by
 have h1 := i.now
 unfold tk3
 exact ⟨i.c,i.now,i.ct,i.made,i.cf,i.bz,i.sum,i.ql,i.qd,i.qp,i.qi,i.rs,hd.next hn h0 h1.2,i.lost,zNext_bd i.since h1.1,i.trl⟩
theorem tkN_bd {st : Sy} (hm : mayB st.c = true) (hw : 0 ≤ st.want) : 0 ≤ tkN st ∧ tkN st ≤ 100 := by
 have := (cf_ok hm).top
 unfold tkN
 omega
theorem dnF_mem {now : Int} {l : List Pd} {p : Pd} (h : p ∈ dnF now l) : p ∈ l ∨ (p.2.2.2 = now ∧ (p.2.2.1 = 0 ∨ ∃ q ∈ l,p.2.2.1 = q.2.2.1)) := by
 unfold dnF at h
 split at h
 ·exact .inl (del_sub.subset h)
 ·rcases List.mem_or_eq_of_mem_set h with h | rfl
  ·exact .inl h
  ·refine .inr ⟨rfl,?_⟩
   dsimp only
   rw [List.getD_eq_getElem?_getD]
   cases e : l[(nxF l l.length).toNat]? with
   | none => exact .inl rfl
   | some q => exact .inr ⟨q,List.mem_of_getElem? e,rfl⟩
theorem dnN_bz {now : Int} {l : List Pd} (h : ∀ p ∈ l,p.2.2.1 ≤ 1000 ∧ p.2.2.2 ≤ now) : ∀ k,∀ p ∈ dnN now l k,p.2.2.1 ≤ 1000 ∧ p.2.2.2 ≤ now
 | 0 => h
 | k + 1 => fun p hp => by
  have ih := dnN_bz h k
  rcases dnF_mem hp with hp | ⟨e,e2 | ⟨q,hq,e2⟩⟩
  ·exact ih p hp
  ·omega
  ·have := ih q hq; omega
theorem sc_bz {made now : Int} {w : Nat} {l : List Pd} (h : ∀ p ∈ l,p.2.2.1 ≤ 1000 ∧ p.2.2.2 ≤ now) : ∀ p ∈ scL made now w l,p.2.2.1 ≤ 1000 ∧ p.2.2.2 ≤ now := by
 unfold scL
 split
 ·intro p hp
  rcases List.mem_append.1 hp with hp | hp
  ·exact h p hp
  ·obtain ⟨j,_,rfl⟩ := newF_mem hp
   dsimp only; omega
 ·exact dnN_bz h _
theorem cF_sc (made now : Int) (w : Nat) (l : List Pd) : cF (scL made now w l) = w := by
 unfold scL
 split
 ·rw [cF_app]; omega
 ·have := dnN_c now l (cF l - w) (by omega)
  omega
theorem SyI.kp4 (i : SyI st) (hw : 0 ≤ st.want) (hm : st.made ≤ 100 * st.now) : SyI (tk4 st) := by
 have hb := tkN_bd i.c hw
 have h1 := i.now
 have h2 := i.made
 have h3 := i.sum
 unfold tk4
 split
 ·obtain ⟨c1,c2⟩ := i.ct.sc h1 h2.1 (tkN st).toNat
  refine ⟨i.c,i.now,c1,?_,by dsimp only; rw [cF_sc]; omega,sc_bz i.bz,by dsimp only; rw [c2]; exact h3,i.ql,i.qd,i.qp,i.qi,i.rs,i.dd,i.lost,i.since,i.trl⟩
  dsimp only
  unfold scM
  omega
 ·exact i
theorem SyI.kp5 (i : SyI st) : SyI (tk5 st) := by
 have h := i.trl
 unfold tk5
 refine ⟨i.c,i.now,i.ct,i.made,i.cf,i.bz,i.sum,i.ql,i.qd,i.qp,i.qi,i.rs,i.dd,i.lost,i.since,?_⟩
 dsimp only
 simp only [List.length_append,List.length_singleton]
 split
 ·rw [List.length_drop,List.length_append,List.length_singleton]; omega
 ·rw [List.length_append,List.length_singleton]; omega
end
theorem SyI.steps {st : Sy} (i : SyI st) (hn : st.now < 1099511627776) :
  SyI (tk1 st) ∧ SyI (tk2 (tk1 st)) ∧ DdB (tk2 (tk1 st)).d (st.now + 1) st.now ∧ SyI (tk3 (tk2 (tk1 st))) ∧ SyI (tk4 (tk3 (tk2 (tk1 st)))) ∧ SyI (syTick st) := by
 have i1 := i.kp1 hn
 have hd1 : DdB (tk1 st).d st.now st.now := i.dd
 obtain ⟨i2,hd2⟩ := i1.kp2 hd1 rfl i.now.1
 have e2 : ∀ s,(tk2 s).now = s.now ∧ (tk2 s).made = s.made := by intro s; unfold tk2; split <;> exact ⟨rfl,rfl⟩
 have hn2 : (tk2 (tk1 st)).now = st.now + 1 := (e2 _).1
 have i3 := i2.kp3 (nd := st.now) (by rw [hn2]; exact hd2) hn2 i.now.1
 have hm := i.made
 have i4 := i3.kp4 (zWant_nn _ _ _ _ _ _ _ _) (by
  show (tk2 (tk1 st)).made ≤ 100 * (tk2 (tk1 st)).now
  rw [hn2,(e2 _).2]
  show st.made ≤ _
  exact hm.2)
 exact ⟨i1,i2,hd2,i3,i4,by rw [syTick_eq]; exact i4.sent.kp5⟩
end
section
theorem PdR.one {h : Hp} {T : Tg} {s : Value} {l : List Pd} (a : PdR h T s l) : one s = true := by
 rcases a with ⟨rfl,_⟩ | ⟨i,_,_,rfl,_⟩ <;> rfl
theorem vwV_one {v : Vw} {ps : Value} (h : one ps = true) : (vwV v ps).all one = true := by
 have e : (v.ends.map nI).all one = true := by
  rw [List.all_eq_true]
  intro x hx
  obtain ⟨z,_,rfl⟩ := List.mem_map.1 hx
  rfl
 unfold vwV
 rw [List.all_append,List.all_append,e]
 simp only [List.all_cons,List.all_nil,h]
 rfl
theorem PdR.keep {h g : Hp} {T T' : Tg} {s : Value} {l : List Pd} (a : PdR h T s l) (hn : h.nx ≤ g.nx) (ht : ∀ k,k < h.nx → T' k = T k) (hk : ∀ k,k < h.nx → T k = 9 → g.get k = h.get k) : PdR g T' s l := by
 rcases a with a | ⟨i,t,h1,h2,h3,h4⟩
 ·exact .inl a
 ·exact .inr ⟨i,(ht i h1).trans t,by omega,h2,(hk i h1 t).trans h3,h4⟩
section
variable {P : Program} {CT : CTy} {env : Env} {h : Hp} {d : Option Nat} {xs : List Operand} {R : Value → Hp → Prop}
theorem w_trpush {T : Tg} {ts ps : Value} {l : List Vw} {v : Vw} {q m bytes : Nat} {b : Bool} {t : TypeId} (e : mapF env xs = some [ts,.slice (some ⟨q,0,none⟩) 1 1]) (a : TrF h T ts l) (hq : h.get q = some ⟨vwV v ps,b,m⟩) (h7 : v.ends.length = 7) (hp : one ps = true) (hl : l.length ≤ 1000) (hby : bytes ≤ 200)
  (n : ∀ g,g.nx = h.nx + 1 → (∀ j,j < h.nx → T j ≠ 11 → g.get j = h.get j) →
   (∀ T' : Tg,T' h.nx = 11 → (∀ k,k < h.nx → T' k = T k ∨ (T k = 0 ∧ T' k = 9)) → PdR h T' ps v.pods → TrF g T' (.slice (some ⟨h.nx,0,some 0⟩) (l.length + 1) (l.length + 1)) (l ++ [v])) →
   R (.slice (some ⟨h.nx,0,some 0⟩) (l.length + 1) (l.length + 1)) g) : WI P CT ⟨d,none,.op (.app t 15 bytes) xs⟩ env h R := by
 have hlen := vwV_len (ps := ps) h7
 have hone := vwV_one (v := v) hp
 have hrd : rdS h (some ⟨q,0,none⟩) (1 * 15) = some (vwV v ps) := by
  simp only [rdS,Nat.one_mul]
  rw [if_neg (by omega)]
  simp only [Option.getD_none,if_true]
  exact rd_all hq hlen
 have key : ∃ g,stepK (.app t 15 bytes) [ts,.slice (some ⟨q,0,none⟩) 1 1] h = some (.slice (some ⟨h.nx,0,some 0⟩) (l.length + 1) (l.length + 1),g) ∧ g.nx = h.nx + 1 ∧ (∀ j,j < h.nx → T j ≠ 11 → g.get j = h.get j) ∧
   (∀ T' : Tg,T' h.nx = 11 → (∀ k,k < h.nx → T' k = T k ∨ (T k = 0 ∧ T' k = 9)) → PdR h T' ps v.pods → TrF g T' (.slice (some ⟨h.nx,0,some 0⟩) (l.length + 1) (l.length + 1)) (l ++ [v])) := by
  rcases a with ⟨rfl,rfl⟩ | ⟨i,x0,us,ti,h1,rfl,hg,hx0,hu0,hul,hu⟩
  ·refine ⟨h.new ⟨vwV v ps,true,15⟩,?_,by simp [Hp.new],fun j hj _ => (Ext.new h _).2 j hj,fun T' t1 t2 pd => ?_⟩
   ·simp only [stepK,hrd,appA]
    rw [if_pos ⟨by omega,hone,by decide,by omega,by omega⟩]
    simp
   ·refine .inr ⟨h.nx,[],[vwV v ps],t1,by simp [Hp.new],rfl,by simp [Hp.new],rfl,by simp,rfl,fun k u w e1 e2 => ?_⟩
    cases k with
    | zero =>
     simp only [List.getElem?_cons_zero,Option.some.injEq,List.nil_append] at e1 e2
     subst e1; subst e2
     exact ⟨h7,ps,rfl,pd.keep (by simp [Hp.new]) (fun _ _ => rfl) fun k hk _ => (Ext.new h _).2 k hk⟩
    | succ k => simp at e1
  ·have hall : us.flatten.all one = true ∧ us.flatten.length = us.length * 15 := by
    have hE : Els 15 us := fun u hm => by
     obtain ⟨k,hk,rfl⟩ := List.getElem_of_mem hm
     obtain ⟨w7,ps',e1,e2⟩ := hu k us[k] l[k] (List.getElem?_eq_getElem hk) (List.getElem?_eq_getElem (by omega))
     rw [e1]
     exact ⟨vwV_len w7,vwV_one e2.one⟩
    exact ⟨hE.all,hE.len⟩
   have hn0 : us.length ≠ 0 := fun hz => hu0 (List.eq_nil_of_length_eq_zero hz)
   have hold : h.rd i x0.length (us.length * 15) = some us.flatten := by
    unfold Hp.rd
    simp only [hg]
    rw [if_pos (by rw [List.length_append,hall.2]; exact Nat.le_refl _),List.drop_left,← hall.2,List.take_length]
   have hgk : ∀ j,j < h.nx → j ≠ i → ((h.del i).new ⟨us.flatten ++ vwV v ps,true,15⟩).get j = h.get j := fun j hj hne => by
    have e1 : ¬ j = h.nx := by omega
    simp [Hp.new,Hp.del,e1,hne]
   refine ⟨(h.del i).new ⟨us.flatten ++ vwV v ps,true,15⟩,?_,by simp [Hp.new,Hp.del],fun j hj ht => hgk j hj fun e => ht (e ▸ ti),fun T' t1 t2 pd => ?_⟩
   ·simp only [stepK,hrd,appA]
    rw [if_pos ⟨by omega,hone,by decide,Nat.le_trans (Nat.mul_le_mul (show us.length + 1 ≤ 1001 by omega) hby) (by decide),by omega⟩]
    simp only [Nat.one_ne_zero,if_false,show ¬ (us.length + 1 ≤ us.length) by omega,if_neg hn0,hold,hg]
    rw [if_pos ⟨trivial,trivial,by rw [List.length_append,hall.2],Nat.le_refl _,hall.1⟩,hul]
   ·have hpd : ∀ {s' : Value} {l' : List Pd},PdR h T' s' l' → PdR ((h.del i).new ⟨us.flatten ++ vwV v ps,true,15⟩) T' s' l' := fun {s' l'} x => x.keep (by simp [Hp.new,Hp.del]) (fun _ _ => rfl) fun k hk hk9 => hgk k hk fun e => by
     have := t2 k hk
     rw [e,ti] at this
     rw [e] at hk9
     omega
    refine .inr ⟨h.nx,[],us ++ [vwV v ps],t1,by simp [Hp.new,Hp.del],by simp [hul],by simp [Hp.new,Hp.del],rfl,by simp,by simp [hul],fun k u w e1 e2 => ?_⟩
    by_cases hk : k < us.length
    ·rw [List.getElem?_append_left hk] at e1
     rw [List.getElem?_append_left (by omega)] at e2
     obtain ⟨w7,ps',e3,e4⟩ := hu k u w e1 e2
     refine ⟨w7,ps',e3,hpd ?_⟩
     rcases e4 with e4 | ⟨j,tj,j1,j2,j3,j4⟩
     ·exact .inl e4
     ·refine .inr ⟨j,?_,j1,j2,j3,j4⟩
      have := t2 j j1
      omega
    ·rw [List.getElem?_append_right (by omega)] at e1
     rw [List.getElem?_append_right (by omega),← hul] at e2
     cases hk2 : k - us.length with
     | zero =>
      rw [hk2] at e1 e2
      simp only [List.getElem?_cons_zero,Option.some.injEq] at e1 e2
      subst e1; subst e2
      exact ⟨h7,ps,rfl,hpd pd⟩
     | succ z => rw [hk2] at e1; simp at e1
 obtain ⟨g,hs,h1,h2,h3⟩ := key
 exact w_op (v := .slice (some ⟨h.nx,0,some 0⟩) (l.length + 1) (l.length + 1)) (h' := g) (by unfold opF; rw [e]; exact hs) (n g h1 h2 h3)
theorem w_trtail {T : Tg} {ts : Value} {l : List Vw} (e : mapF env xs = some [ts,.int .i64 1]) (a : TrF h T ts l) (hl : 2 ≤ l.length) (n : ∀ s' : Value,TrF h T s' (l.drop 1) → one s' = true → s'.cells = #[s'] → R s' h) : WI P CT ⟨d,none,.op (.slc 15 true false false) xs⟩ env h R := by
 rcases a with ⟨_,e0⟩ | ⟨i,x0,us,ti,h1,rfl,hg,hx0,hu0,hul,hu⟩
 ·rw [e0] at hl; simp at hl
 ·cases us with
  | nil => exact absurd rfl hu0
  | cons u us =>
   rw [List.length_cons] at hul
   obtain ⟨w7,ps',e1,e2⟩ := hu 0 u l[0] rfl (List.getElem?_eq_getElem (by omega))
   have h15 : u.length = 15 := by rw [e1]; exact vwV_len w7
   have hone : u.all one = true := by rw [e1]; exact vwV_one e2.one
   refine w_op (v := .slice (some ⟨i,x0.length + 15,some 0⟩) us.length us.length) (h' := h) ?_ (n _ (.inr ⟨i,x0 ++ u,us,ti,h1,by rw [List.length_append,h15],by rw [hg]; simp,by rw [List.all_append,hx0,hone]; rfl,fun hn => by rw [hn] at hul; simp at hul; omega,by rw [List.length_drop]; omega,fun k u' w e3 e4 => ?_⟩) rfl rfl)
   ·unfold opF
    rw [e]
    have h1z : ¬ us.length = 0 := by omega
    show stepK (.slc 15 true false false) [.slice (some ⟨i,x0.length,some 0⟩) (us.length + 1) (us.length + 1),.int .i64 1] h = _
    simp only [stepK,get3,takeB,sliceA,bounds,bnd]
    have hm3 : (1 : Int) ≤ (us.length : Int) + 1 := by omega
    simp [h1z,hm3]
   ·rw [List.getElem?_drop] at e4
    exact hu (k + 1) u' w (by simpa using e3) (by rw [Nat.add_comm]; exact e4)
end
theorem sySent_len {st : Sy} : (sySent st).r.length = st.r.length ∧ (sySent st).tr = st.tr := by
 generalize hn : st.q.length = n
 induction n generalizing st with
 | zero => rw [sySent_nil (List.eq_nil_of_length_eq_zero hn)]; exact ⟨rfl,rfl⟩
 | succ n ih =>
  by_cases h : pickK st < 0
  ·rw [sySent_no h]; exact ⟨rfl,rfl⟩
  ·cases hq : st.q with
   | nil => rw [hq] at hn; simp at hn
   | cons w q =>
    rw [sySent_yes hq h]
    have := ih (st := sentS st w q) (by show q.length = n; rw [hq] at hn; simpa using hn)
    refine ⟨this.1.trans ?_,this.2.trans rfl⟩
    unfold sentS
    dsimp only
    rw [setR_len]
theorem tk4_same (s : Sy) : (tk4 s).r = s.r ∧ (tk4 s).tr = s.tr := by unfold tk4; split <;> exact ⟨rfl,rfl⟩
section
variable {g g1 g2 g3 : Hp} {T : Tg} {s P L q D : Nat} {rs ts ts' ps : Value} {st st' : Sy}
def tgv (T : Tg) (g g1 g2 : Hp) : Tg := fun k => if k < g.nx then T k else if k < g1.nx then 9 else if k < g2.nx then 11 else 0
theorem tr_push (a : SyG g T s P L q D rs ts st) {v : Vw} (x1 : Ext g g1) (A : A4 g.nx g1 ps v.pods) (n2 : g2.nx = g1.nx + 1) (k2 : ∀ j,j < g1.nx → T j ≠ 11 → g2.get j = g1.get j) (m3 : ∀ k,k ≠ s → g3.get k = g2.get k) (n3 : g3.nx = g2.nx)
  (tr : ∀ T' : Tg,T' g1.nx = 11 → (∀ k,k < g1.nx → T' k = T k ∨ (T k = 0 ∧ T' k = 9)) → PdR g1 T' ps v.pods → TrF g2 T' ts' (st.tr ++ [v])) (k3 : g3.get s = some ⟨syV st P rs ts',true,0⟩) :
  SyG g3 (tgv T g g1 g2) s P L q D rs ts' { st with tr := st.tr ++ [v] } ∧ Tn [9,10,11] T g (tgv T g g1 g2) g3 := by
 have h1 := x1.1
 have x : Tn [9,10,11] T g (tgv T g g1 g2) g3 := by
  refine ⟨by omega,fun k hk hn => ?_,fun k hk => by unfold tgv; rw [if_pos hk],fun k hk => by unfold tgv; rw [if_neg (by omega),if_neg (by omega),if_neg (by omega)],fun k hk => ?_⟩
  ·simp only [List.mem_cons,List.not_mem_nil,or_false] at hn
   have hs : k ≠ s := fun e => hn (by rw [e,a.ts_]; omega)
   rw [m3 k hs,k2 k (by omega) (by omega)]
   exact x1.2 k hk
  ·unfold tgv
   rw [if_neg (by omega)]
   split
   ·exact .inr (by decide)
   ·split
    ·exact .inr (by decide)
    ·exact .inl rfl
 have t0 : ∀ k,g.nx ≤ k → T k = 0 := a.w
 have hs2 : s ≠ g1.nx := by have := a.sl; omega
 have tr2 := tr (tgv T g g1 g2) (by unfold tgv; rw [if_neg (by omega),if_neg (by omega),if_pos (by omega)]) (fun k hk => by
  unfold tgv
  by_cases q : k < g.nx
  ·rw [if_pos q]; exact .inl rfl
  ·rw [if_neg q,if_pos hk]; exact .inr ⟨t0 k (by omega),rfl⟩) (by
  rcases A with A | ⟨i,i1,i2,i3,i4,i5⟩
  ·exact .inl A
  ·exact .inr ⟨i,by unfold tgv; rw [if_neg (by omega),if_pos i2],i2,i3,i4,i5⟩)
 have hts : tgv T g g1 g2 s = 10 := (x.ex s a.sl).trans a.ts_
 refine ⟨⟨x.w,Nat.lt_of_lt_of_le a.sl x.nx,hts,k3,Nat.lt_of_lt_of_le a.pl x.nx,(x.ex _ a.pl).trans a.tp,?_,a.ne,
  a.lf.tr x (by decide),a.qu.tr x (by decide),a.dd.tr x (by decide),a.rq.tr x (by decide),?_⟩,x⟩
 ·rw [m3 P a.ne,k2 P (by have := a.pl; omega) (by rw [a.tp]; decide),x1.2 P a.pl]
  exact a.pg
 ·refine tr2.tr (I := [10]) ⟨by omega,fun k hk hn => m3 k fun e => hn (by rw [e,hts]; decide),fun _ _ => rfl,x.w,fun k hk => .inl (x.w k (by omega))⟩ (by decide)
theorem SyG.cut (a : SyG g T s P L q D rs ts st) {l' : List Vw} (tr2 : TrF g T ts' l') (mk : ∀ k,k ≠ s → g1.get k = g.get k) (nx : g1.nx = g.nx) (k : g1.get s = some ⟨syV st P rs ts',true,0⟩) :
  SyG g1 T s P L q D rs ts' { st with tr := l' } ∧ Tn [10] T g T g1 := by
 have x : Tn [10] T g T g1 := .of_one a.w (by rw [a.ts_]; decide) mk nx
 exact ⟨⟨x.w,by rw [nx]; exact a.sl,a.ts_,k,by rw [nx]; exact a.pl,a.tp,(mk _ a.ne).trans a.pg,a.ne,a.lf.tr x (by decide),a.qu.tr x (by decide),a.dd.tr x (by decide),a.rq.tr x (by decide),tr2.tr x (by decide)⟩,x⟩
end
end
set_option maxHeartbeats 4000000 in
theorem tick_ok {T : Tg} {g : Hp} {s P L q D : Nat} {rs ts : Value} {st : Sy} (a : SyG g T s P L q D rs ts st) (i : SyI st) (hb : st.r.length ≤ 800000) (hn : st.now < 1099511627776) :
  ACall PX 33 [ptr s] g (fun _ h => ∃ T' ts',SyG h T' s P L q D rs ts' (syTick st) ∧ Tn [1,2,3,4,5,6,7,8,9,10,11] T g T' h) := by
 have hlen := i.len hb
 obtain ⟨i1,i2,hd2,i3,i4,i5⟩ := i.steps hn
 have hnow := i.now
 have hcf := cf_ok i.c
 have hql := i.ql
 have hsg := a.sg
 refine acallA Tryz.func33 c33 ?_
 unfold ir33
 dsimp only [qo,qm,qk,q2,qi,qg,qn,qc,dq,ci,cb,qh,qs]
 repeat (first | apply sS | apply sSn | refine w_mv rfl ?_ | (refine is_okn rfl ?_; refine w_op rfl ?_) | (apply is_ld; refine w_ldA rfl ?_) | (apply is_bin; refine w_addA rfl ?_) | apply ai_seq | apply ai_regW)
 refine w_st1 rfl rfl hsg (by show 20 < 34; decide) rfl fun g1 m1 k1 n1 => ?_
 replace k1 : g1.get s = some ⟨syV (tk0 st) P rs ts,true,0⟩ := k1
 obtain ⟨a1,x1⟩ := a.own m1 n1 k1 ⟨rfl,rfl⟩ ⟨rfl,rfl,rfl⟩ rfl rfl rfl
 clear hsg
 repeat (first | apply dS | apply dSR | apply sE | (apply is_ag; refine agSA ?_) | refine w_mv rfl ?_ | (refine is_okn rfl ?_; refine w_op rfl ?_) | (apply is_ld; refine w_ldA rfl ?_) | (refine w_callE ((waits_ok a1).mono ?_) rfl rfl; rintro _ _ ⟨rfl,rfl⟩) | apply ai_seq | refine ai_drwW (by kernel_rfl) ?_)
 obtain ⟨jq,qa,tq1,tq2⟩ := a1.qu
 refine w_call rfl ((late_ok g1 qa (by show st.q.length ≤ 1000; omega)).mono ?_)
 rintro v g2 ⟨d,hd,hl1,hl2,ow2,qa2,md2⟩
 replace hd : d ≤ st.q.length := hd
 have hlate : tkL st = st.q.take d := lateF_eq hl1 hl2
 obtain ⟨qt2,x2⟩ := qu_tn a1.w qa tq1 tq2 qa2 md2 (.inl rfl)
 have a2 := a1.queue x2 qt2
 have hqd : (st.q.take d).length = d := by rw [List.length_take]; exact Nat.min_eq_left hd
 generalize hT2 : tg T g1 g2 2 = T2 at *
 have hT2n : ∀ k,g1.nx ≤ k → k < g2.nx → T2 k ≠ 3 := fun k h1 h2 => by rw [← hT2]; unfold tg; rw [if_neg (by omega),if_pos h2]; decide
 obtain ⟨ids,hids⟩ : ∃ ids,(st.q.take d).map (·.1) = ids := ⟨_,rfl⟩
 have hidl : ids.length = d := by rw [← hids,List.length_map,hqd]
 have ow : Ow g1.nx g2 v (ids.map nI) := by rw [← hids,List.map_map]; exact ow2
 have r2 := ow.gr.rr
 have bl2 := fun b n c e => ow.gr.blk (a := b) (n := n) (c := c) e
 obtain ⟨xv,cv,e⟩ := r2.len
 rw [rI_len,hidl] at e
 subst e
 have hd3 : d ≤ 200 := by omega
 repeat (first | apply dS | apply dE | (refine is_okn rfl ?_; refine w_op rfl ?_) | apply ai_block)
 refine ai_loopE (γ := Nat) (fun m => [(0,ptr s),(24,.slice xv d cv),(25,nI d),(26,nI m)])
  (fun m h => SyG h T2 s P L q D rs ts { tk0 st with q := st.q.drop d,r := lateR (st.now + 1) ((st.q.take d).take m) st.r } ∧ Tn [3] T2 g2 T2 h ∧ m ≤ d) (fun m => d - m) 0 leX ⟨a2,.refl a2.w,Nat.zero_le _⟩ ?_
 rintro m h ⟨a3,x3,hm⟩
 by_cases hml : m < d
 ·obtain ⟨w,hw⟩ : ∃ w,(st.q.take d)[m]? = some w := ⟨_,List.getElem?_eq_getElem (by omega)⟩
  obtain ⟨bi,bo,bs,e,hbl,hr0⟩ := r2.at (rI_get (show ids[m]? = some w.1 by rw [← hids,List.getElem?_map,hw]; rfl))
  cases e
  have hbb := bl2 _ _ _ rfl
  have hr3 : h.rd bi (bo + m * 1) 1 = some [nI w.1] := by
   unfold Hp.rd at hr0 ⊢
   rw [x3.fr bi hbl (by have := hT2n bi hbb.1 hbb.2; simp [this])]
   exact hr0
  have hwi := i.qi w (List.mem_of_mem_take (List.mem_of_getElem? hw))
  obtain ⟨k,hk⟩ : ∃ k : Nat,w.1 = k := ⟨w.1.toNat,by omega⟩
  obtain ⟨y,hy⟩ : ∃ y,(lateR (st.now + 1) ((st.q.take d).take m) st.r)[k]? = some y := ⟨_,List.getElem?_eq_getElem (by rw [lateR_len]; omega)⟩
  have hst : (st.q.take d).take (m + 1) = (st.q.take d).take m ++ [w] := by
   obtain ⟨h1,rfl⟩ := List.getElem?_eq_some_iff.1 hw
   exact List.take_succ_eq_append_getElem h1
  rw [hk] at hr3
  repeat (first | apply sS | apply sE | refine w_mv rfl ?_ | (apply is_ld; refine w_ldA rfl ?_) | (apply is_bin; refine w_cT rfl ?_) | (apply is_iad; refine w_iadA rfl ?_) | apply ai_seq | apply ai_regW | refine ai_cT rfl ?_ | apply ai_skip | apply ai_block)
  refine w_call rfl ((stand_ok a3 (k := k) (x := y) hy 4).mono ?_)
  rintro _ h4 ⟨a4,x4⟩
  repeat (first | apply sS | apply sE | refine w_mv rfl ?_ | (apply is_bin; refine w_addA rfl ?_) | apply ai_regW)
  refine ⟨m + 1,leX,⟨?_,x3.trans x4,by omega⟩,by dsimp only; omega⟩
  rw [hst,lateR_snoc,hk,Int.toNat_natCast]
  exact a4
 obtain rfl : m = d := by omega
 have e1 : tk1 st = { tk0 st with q := st.q.drop m,r := lateR (st.now + 1) ((st.q.take m).take m) st.r,ps := st.ps.map (rpF (st.now + 1) st.c.ready) } := by
  unfold tk1
  rw [hlate,hqd,List.take_of_length_le (Nat.le_of_eq hqd)]
  rfl
 have x03 := (x1.mono (J := [1,2,3,4,5,6,7,8,9,10,11]) (by decide)).trans ((x2.mono (by decide)).trans (x3.mono (by decide)))
 obtain ⟨S3,lf3,ht3⟩ := a3.lf
 have hrd := hcf.ready
 have hsg3 := a3.sg
 repeat (first | apply sS | apply dS | apply dSR | apply sE | (apply is_ag; refine agSA ?_) | refine w_mv rfl ?_ | (refine is_okn rfl ?_; refine w_op rfl ?_) | (apply is_ld; refine w_ldA rfl ?_) | (apply is_bin; refine w_cF rfl ?_) | (refine w_callE ((pods_ok a3).mono ?_) rfl rfl; rintro _ _ ⟨rfl,rfl⟩) | apply ai_seq | apply ai_regW | refine ai_cF rfl ?_ | refine ai_drwW (by kernel_rfl) ?_ | apply ai_exit)
 refine w_call rfl ((ripe_lf h lf3 hlen hrd.1 hrd.2 (fun p hp => (i.ct.each p hp).2.2.2.2)).mono ?_)
 rintro _ g4 ⟨lf4,fr4⟩
 obtain ⟨lt4,x4⟩ := lf_tn a3.w lf3 ht3 lf4 (Gr.refl _ _) fr4
 have a4 := a3.life x4 lt4
 have a4 : SyG g4 (tg T2 h g4 1) s P L q D rs ts (tk1 st) := by rw [e1]; exact a4
 have x04 := x03.trans (x4.mono (by decide))
 generalize tg T2 h g4 1 = T4 at *
 have hb1 : (tk1 st).r.length ≤ 800000 := by unfold tk1; dsimp only; rw [lateR_len]; exact hb
 have hn1 : (tk1 st).now = st.now + 1 := rfl
 have hd1 : DdB (tk1 st).d st.now st.now := i.dd
 clear hsg3 a3 lf3 ht3 lf4 fr4 e1 lt4
 generalize hs1 : tk1 st = s1 at *
 repeat (first | apply dE)
 refine ai_join (γ := Tg) (fun _ => [(0,ptr s)]) (fun T' h => SyG h T' s P L q D rs ts (tk2 s1) ∧ Tn [4,5,6,7,8,10] T4 g4 T' h) ?_ ?_
 ·have hsg4 := a4.sg
  have hls := i1.lost
  by_cases hl : 0 < s1.lost
  ·repeat (first | apply sS | apply sSn | apply sE | refine w_mv rfl ?_ | (refine is_okn rfl ?_; refine w_op rfl ?_) | (apply is_ld; refine w_ldA rfl ?_) | (apply is_bin; refine w_subA rfl ?_) | (apply is_bin; refine w_cT rfl ?_) | apply ai_seq | apply ai_regW | refine ai_cT rfl ?_)
   refine w_st1 rfl rfl hsg4 (by show 32 < 34; decide) rfl fun g5 m5 k5 n5 => ?_
   replace k5 : g5.get s = some ⟨syV { s1 with lost := s1.lost - 1 } P rs ts,true,0⟩ := k5
   obtain ⟨a5,x5⟩ := a4.own m5 n5 k5 ⟨rfl,rfl⟩ ⟨rfl,rfl,rfl⟩ rfl rfl rfl
   repeat (first | apply sE)
   refine ⟨rfl,T4,leX,?_,x5.mono (by decide)⟩
   unfold tk2
   rw [if_pos hl]
   exact a5
  ·repeat (first | apply sS | apply dS | apply dSR | apply sE | (apply is_ag; refine agSA ?_) | refine w_mv rfl ?_ | (refine is_okn rfl ?_; refine w_op rfl ?_) | (apply is_ld; refine w_ldA rfl ?_) | (apply is_bin; refine w_cF rfl ?_) | (refine w_callE ((decs_ok a4).mono ?_) rfl rfl; rintro _ _ ⟨rfl,rfl⟩) | apply ai_seq | apply ai_regW | refine ai_cF rfl ?_ | refine ai_drwW (by kernel_rfl) ?_)
   refine w_call rfl ((scrape_ok a4 i1 hb1).mono ?_)
   rintro _ g5 ⟨rfl,x5⟩
   have a5 := a4.ext x5
   clear hsg4
   have hsg5 := a5.sg
   repeat (first | apply dS | (apply is_ag; refine agSA ?_))
   refine w_call rfl ((ddput_ok g5 (t := s1.now) (v := scrapeF s1) a5.dd hd1 hnow.1 hn1 (by omega) (scrapeF_bd i1)).mono ?_)
   rintro _ g6 ⟨T6,dd6,x6⟩
   have a6 := a5.dec (x6.mono (by decide)) dd6
   repeat (first | apply dE)
   refine ⟨rfl,T6,leX,?_,(Tn.of_ext a4.w x5).trans (x6.mono (by decide))⟩
   unfold tk2
   rw [if_neg hl]
   exact a6
 rintro T5 g5 ⟨a5,x5⟩
 have x05 := x04.trans (x5.mono (by decide))
 have e2 : ∀ s,(tk2 s).now = s.now ∧ (tk2 s).r = s.r := by intro s; unfold tk2; split <;> exact ⟨rfl,rfl⟩
 have hn2 : (tk2 s1).now = st.now + 1 := (e2 _).1.trans hn1
 have hb2 : (tk2 s1).r.length ≤ 800000 := by rw [(e2 _).2]; exact hb1
 generalize hs2 : tk2 s1 = s2 at *
 have hlen2 := i2.len hb2
 have hrl : (rF s2.ps).length ≤ 100 := Nat.le_trans (rF_le_c s2.ps) i2.cf
 obtain ⟨S5,lf5,ht5⟩ := a5.lf
 repeat (first | apply sS | refine w_mv rfl ?_ | (refine w_callE ((pods_ok a5).mono ?_) rfl rfl; rintro _ _ ⟨rfl,rfl⟩) | apply ai_seq | apply ai_regW)
 refine w_call rfl ((ready_lf g5 lf5 hlen2).mono ?_)
 rintro v6 g6 ⟨ow6,x6⟩
 have a6 := a5.ext x6
 obtain ⟨x6',c6,e⟩ := ow6.gr.rr.len
 rw [rI_len] at e
 subst e
 have hsg6 := a6.sg
 repeat (first | apply sS | apply dS | apply dSR | apply sE | (apply is_ag; refine agSA ?_) | refine w_mv rfl ?_ | (refine is_okn rfl ?_; refine w_op rfl ?_) | (apply is_ld; refine w_ldA rfl ?_) | (refine w_callE ((decs_ok a6).mono ?_) rfl rfl; rintro _ _ ⟨rfl,rfl⟩) | apply ai_seq | refine ai_drwW (by kernel_rfl) ?_)
 refine w_call rfl ((ddnext_ok g6 (ready := (rF s2.ps).length) a6.dd hd2 hn2 hnow.1 (by omega) (by omega) (by omega)).mono ?_)
 rintro _ g7 ⟨rfl,T7,dd7,x7⟩
 have a7 := a6.dec x7 dd7
 have hX : ddNext s2.d s2.now (rF s2.ps).length = tkX s2 := rfl
 rw [hX] at a7 ⊢
 have hsg7 := a7.sg
 clear hsg6
 obtain ⟨X,eX⟩ : ∃ X,tkX s2 = X := ⟨_,rfl⟩
 have eP : tkP s2 = proxF s2.c (rF s2.ps).length X.2.excess := by unfold tkP; rw [eX]
 have eW : tkW s2 = zWant s2.c (zNext s2.since s2.now (tkP s2)) s2.now X.2.want (cF s2.ps) X.2.stable s2.q.length (flyF s2.r).length := by unfold tkW; rw [eX]
 have e3 : tk3 s2 = { s2 with d := X.1,last := X.2,proxy := tkP s2,since := zNext s2.since s2.now (tkP s2),want := tkW s2 } := by rw [← eX]; rfl
 rw [eX] at a7 ⊢
 clear hX
 repeat (first | apply dS | apply dSn | refine w_mv rfl ?_ | (refine is_okn rfl ?_; refine w_op rfl ?_) | refine w_ext rfl rfl ?_)
 refine w_stP rfl rfl hsg7 (by show 23 + 6 ≤ 34; decide) rfl fun g8 m8 k8 n8 => ?_
 rw [splice_take _ _ _ (by show 23 + 6 ≤ 34; decide)] at k8
 replace k8 : g8.get s = some ⟨syV { s2 with d := X.1,last := X.2 } P rs ts,true,0⟩ := k8
 obtain ⟨a8,x8⟩ := a7.own m8 n8 k8 ⟨rfl,rfl⟩ ⟨rfl,rfl,rfl⟩ rfl rfl rfl
 have x58 := (Tn.of_ext (I := [1,2,3,4,5,6,7,8,9,10,11]) a5.w x6).trans ((x7.mono (by decide)).trans (x8.mono (by decide)))
 clear hsg7
 repeat (first | apply dS | apply dE | refine w_mv rfl ?_ | (refine is_okn rfl ?_; refine w_op rfl ?_) | (apply is_ld; refine w_ldA rfl ?_) | (apply is_ldn; refine w_ldnA rfl ?_) | apply ai_seq | refine ai_drwW (by kernel_rfl) ?_)
 refine w_call rfl ((bprox_ok g8 i2.c (rF s2.ps).length X.2.excess).mono ?_)
 rintro _ g9 ⟨rfl,x9⟩
 rw [← eP]
 have a9 := a8.ext x9
 clear k8
 have hsg9 := a9.sg
 repeat (first | apply dS | apply dSn | (refine is_okn rfl ?_; refine w_op rfl ?_))
 refine w_st1 rfl rfl hsg9 (by show 30 < 34; decide) rfl fun g10 m10 k10 n10 => ?_
 replace k10 : g10.get s = some ⟨syV { s2 with d := X.1,last := X.2,proxy := tkP s2 } P rs ts,true,0⟩ := k10
 obtain ⟨a10,x10⟩ := a9.own m10 n10 k10 ⟨rfl,rfl⟩ ⟨rfl,rfl,rfl⟩ rfl rfl rfl
 clear hsg9
 repeat (first | apply dS | apply dE | refine w_mv rfl ?_ | (refine is_okn rfl ?_; refine w_op rfl ?_) | (apply is_ld; refine w_ldA rfl ?_) | (apply is_ldn; refine w_ldnA rfl ?_) | apply ai_seq | refine ai_drwW (by kernel_rfl) ?_)
 refine w_call rfl ((znext_ok g10 s2.since s2.now (tkP s2)).mono ?_)
 rintro _ g11 ⟨rfl,x11⟩
 have a11 := a10.ext x11
 clear k10
 have hsg11 := a11.sg
 repeat (first | apply dS | apply dSn | (refine is_okn rfl ?_; refine w_op rfl ?_))
 refine w_stP rfl rfl hsg11 (by show 31 + 1 ≤ 34; decide) rfl fun g12 m12 k12 n12 => ?_
 rw [splice_take _ _ _ (by show 31 + 1 ≤ 34; decide)] at k12
 replace k12 : g12.get s = some ⟨syV { s2 with d := X.1,last := X.2,proxy := tkP s2,since := zNext s2.since s2.now (tkP s2) } P rs ts,true,0⟩ := k12
 obtain ⟨a12,x12⟩ := a11.own m12 n12 k12 ⟨rfl,rfl⟩ ⟨rfl,rfl,rfl⟩ rfl rfl rfl
 have x812 := (Tn.of_ext (I := [1,2,3,4,5,6,7,8,9,10,11]) a8.w x9).trans ((x10.mono (by decide)).trans ((Tn.of_ext a10.w x11).trans (x12.mono (by decide))))
 clear hsg11
 have hzb := zNext_bd (proxy := tkP s2) i2.since i2.now.1
 have hn2b := i2.now
 obtain ⟨S12,lf12,ht12⟩ := a12.lf
 repeat (first | apply dS | apply dSR | apply dE | (apply is_ag; refine agSA ?_) | refine w_mv rfl ?_ | (refine is_okn rfl ?_; refine w_op rfl ?_) | (apply is_ld; refine w_ldA rfl ?_) | (apply is_ldn; refine w_ldnA rfl ?_) | (refine w_callE ((pods_ok a12).mono ?_) rfl rfl; rintro _ _ ⟨rfl,rfl⟩) | apply ai_seq | refine ai_drwW (by kernel_rfl) ?_)
 refine w_call rfl ((count_lf g12 lf12 hlen2).mono ?_)
 rintro _ g13 ⟨rfl,x13⟩
 have a13 := a12.ext x13
 clear k12
 have hsg13 := a13.sg
 obtain ⟨jq13,qa13,tq13,tr13⟩ := a13.qu
 repeat (first | apply dSR | (apply is_ag; refine agSA ?_) | (refine w_callE ((waits_ok a13).mono ?_) rfl rfl; rintro _ _ ⟨rfl,rfl⟩))
 refine w_call rfl ((all_ok g13 qa13 (by have := i2.ql; dsimp only; omega)).mono ?_)
 rintro v14 g14 ⟨x14,ow14⟩
 have a14 := a13.ext x14
 clear hsg13
 have hsg14 := a14.sg
 obtain ⟨xq,cq,rfl⟩ := qlen ow14
 repeat (first | apply dS | apply dSR | (apply is_ag; refine agSA ?_) | (refine is_okn rfl ?_; refine w_op rfl ?_))
 refine w_call rfl ((flying_ok a14 (by dsimp only; omega)).mono ?_)
 rintro v15 g15 ⟨r15,x15⟩
 have a15 := a14.ext x15
 obtain ⟨xf,cf',e⟩ := r15.len
 rw [rI_len,nL,List.length_map] at e
 subst e
 clear hsg14
 have hsg15 := a15.sg
 dsimp only
 repeat (first | apply dS | (apply is_ag; refine agSA ?_) | (refine is_okn rfl ?_; refine w_op rfl ?_))
 refine w_call rfl ((zwant_ok g15 (s := zNext s2.since s2.now (tkP s2)) (now := s2.now) (want := X.2.want) (have_ := cF s2.ps) (mean := X.2.stable) (waiting := s2.q.length) (busy := (flyF s2.r).length) i2.c (by omega) (by omega)).mono ?_)
 rintro _ g16 ⟨rfl,x16⟩
 rw [← eW]
 have a16 := a15.ext x16
 clear hsg15
 have hsg16 := a16.sg
 repeat (first | apply dS | apply dSn | (refine is_okn rfl ?_; refine w_op rfl ?_))
 refine w_st1 rfl rfl hsg16 (by show 29 < 34; decide) rfl fun g17 m17 k17 n17 => ?_
 replace k17 : g17.get s = some ⟨syV (tk3 s2) P rs ts,true,0⟩ := by rw [e3]; exact k17
 obtain ⟨a17,x17⟩ := a16.own (st' := tk3 s2) m17 n17 k17 (by rw [e3]; exact ⟨rfl,rfl⟩) (by rw [e3]; exact ⟨rfl,rfl,rfl⟩) (by rw [e3]) (by rw [e3]) (by rw [e3])
 have x1217 := (Tn.of_ext (I := [1,2,3,4,5,6,7,8,9,10,11]) a12.w (x13.trans (x14.trans (x15.trans x16)))).trans (x17.mono (by decide))
 have x017 := x05.trans (x58.trans (x812.trans x1217))
 have hb3 : (tk3 s2).r.length ≤ 800000 := by rw [e3]; exact hb2
 have hw3 : 0 ≤ (tk3 s2).want := zWant_nn _ _ _ _ _ _ _ _
 have hn3 : (tk3 s2).now = st.now + 1 := by rw [e3]; exact hn2
 clear a5 a6 a7 a8 a9 a10 a11 a12 a13 a14 a15 a16 hsg16 k17 x1217 x812 x58 dd7 eX eP eW e3 x17
 generalize hs3 : tk3 s2 = s3 at *
 have hlen3 := i3.len hb3
 have hnb := tkN_bd i3.c hw3
 repeat (first | apply dE)
 refine ai_join (γ := Tg) (fun _ => [(0,ptr s)]) (fun T' h => SyG h T' s P L q D rs ts (tk4 s3) ∧ Tn [1] T7 g17 T' h) ?_ ?_
 ·have hsg17 := a17.sg
  repeat (first | apply dS | apply dSR | refine w_mv rfl ?_ | (refine is_okn rfl ?_; refine w_op rfl ?_) | (apply is_ld; refine w_ldA rfl ?_) | (apply is_ldn; refine w_ldnA rfl ?_) | apply ai_seq | refine ai_drwW (by kernel_rfl) ?_)
  refine w_call rfl ((topc_ok g17 s3.c).mono ?_)
  rintro _ g18 ⟨rfl,x18⟩
  have a18 := a17.ext x18
  have hsg18 := a18.sg
  clear hsg17
  obtain ⟨S18,lf18,ht18⟩ := a18.lf
  repeat (first | apply sS | apply dS | apply dE | (apply is_ag; refine agSA ?_) | refine w_mv rfl ?_ | refine w_min rfl ?_ | (refine w_callE ((pods_ok a18).mono ?_) rfl rfl; rintro _ _ ⟨rfl,rfl⟩) | apply ai_seq | apply ai_regW)
  refine w_call rfl ((count_lf g18 lf18 hlen3).mono ?_)
  rintro _ g19 ⟨rfl,x19⟩
  have a19 := a18.ext x19
  have hsg19 := a19.sg
  clear hsg18
  have hm : min s3.want (topF s3.c) = tkN s3 := rfl
  by_cases hq : tkN s3 = (cF s3.ps : Int)
  ·repeat (first | apply sS | apply sE | (apply is_bin; refine w_cF rfl ?_) | refine ai_cF rfl ?_ | apply ai_skip)
   exact ⟨rfl,T7,leX,by unfold tk4; rw [if_neg (fun h => h hq)]; exact a19,.of_ext a17.w (x18.trans x19)⟩
  ·repeat (first | apply sS | apply dS | apply dSR | apply sE | (apply is_ag; refine agSA ?_) | refine w_mv rfl ?_ | (refine is_okn rfl ?_; refine w_op rfl ?_) | (apply is_ld; refine w_ldA rfl ?_) | (apply is_bin; refine w_cT rfl ?_) | (refine w_callE ((pods_ok a19).mono ?_) rfl rfl; rintro _ _ ⟨rfl,rfl⟩) | refine ai_cT rfl ?_ | refine ai_drwW (by kernel_rfl) ?_)
   obtain ⟨S19,lf19,ht19⟩ := a19.lf
   have hmd := i3.made
   have hn3b := i3.now
   refine w_call rfl ((scale_lf g19 (w := min s3.want (topF s3.c)) (now := s3.now) lf19 hlen3 hnb (by omega) hn3b).mono ?_)
   rintro _ g20 ⟨rfl,S20,lf20,gr20,fr20⟩
   obtain ⟨lt20,x20⟩ := lf_tn a19.w lf19 ht19 lf20 gr20 fr20
   have a20 := a19.life x20 lt20
   repeat (first | apply dE)
   exact ⟨rfl,_,leX,by unfold tk4; rw [if_pos hq]; exact a20,(Tn.of_ext a17.w (x18.trans x19)).trans x20⟩
 rintro T18 g18 ⟨a18,x18⟩
 have hb4 : (tk4 s3).r.length ≤ 800000 := by rw [(tk4_same s3).1]; exact hb3
 have hfin : syTick st = tk5 (sySent (tk4 s3)) := by rw [syTick_eq,hs1,hs2,hs3]
 generalize hs4 : tk4 s3 = s4 at *
 repeat (first | apply sS | refine w_mv rfl ?_ | apply ai_seq | apply ai_regW)
 refine w_call rfl ((sent_ok a18 i4 hb4).mono ?_)
 rintro _ g19 ⟨T19,a19,x19⟩
 have hb5 : (sySent s4).r.length ≤ 800000 := by rw [sySent_len.1]; exact hb4
 have i5' := i4.sent
 rw [hfin]
 have x019 := x017.trans ((x18.mono (by decide)).trans (x19.mono (by decide)))
 generalize sySent s4 = s5 at *
 have hsg19 := a19.sg
 have htl := i5'.trl
 repeat (first | apply dS | apply dSR | apply sE | refine w_mv rfl ?_ | (refine is_okn rfl ?_; refine w_op rfl ?_) | (apply is_ld; refine w_ldA rfl ?_) | apply ai_seq | refine ai_drwW (by kernel_rfl) ?_)
 refine w_call rfl ((see_ok a19 i5' hb5).mono ?_)
 rintro _ g20 ⟨ps,rfl,A20,x20⟩
 obtain ⟨xp,cp,e⟩ := A20.len
 have hp1 : one ps = true := by rw [e]; rfl
 have a20 := a19.ext x20
 clear hsg19
 have hsg20 := a20.sg
 subst e
 repeat (first | apply dSR | (apply is_ag; refine agSA ?_))
 refine w_bslF rfl rfl rfl rfl rfl fun g21 x21 k21 n21 => ?_
 have a21 := a20.ext x21
 clear hsg20
 have hsg21 := a21.sg
 repeat (first | apply dS | (apply is_ag; refine agSA ?_))
 refine w_trpush rfl a21.tr k21 (endsF_len _) hp1 (by omega) (by decide) fun g22 n22 k22 tr22 => ?_
 have hsg22 : g22.get s = some ⟨syV s5 P rs ts,true,0⟩ := (k22 s a21.sl (by rw [a21.ts_]; decide)).trans hsg21
 clear hsg21
 repeat (first | apply dS | apply dSn | (refine is_okn rfl ?_; refine w_op rfl ?_))
 refine w_st1 rfl rfl hsg22 (by show 33 < 34; decide) rfl fun g23 m23 k23 n23 => ?_
 replace k23 : g23.get s = some ⟨syV s5 P rs (.slice (some ⟨g21.nx,0,some 0⟩) (s5.tr.length + 1) (s5.tr.length + 1)),true,0⟩ := k23
 obtain ⟨a23,x23⟩ := tr_push a19 (v := seeF s5) (x20.trans x21) (A20.move x21) n22 k22 m23 n23 tr22 k23
 clear hsg22
 have x023 := x019.trans (x23.mono (J := [1,2,3,4,5,6,7,8,9,10,11]) (by decide))
 have hsg23 := a23.sg
 clear k23
 by_cases hl : 1000 < s5.tr.length + 1
 ·repeat (first | apply sS | apply sE | apply dE | refine w_mv rfl ?_ | (refine is_okn rfl ?_; refine w_op rfl ?_) | (apply is_ld; refine w_ldA rfl ?_) | (apply is_bin; refine w_cT rfl ?_) | apply ai_seq | apply ai_regW | refine ai_cT rfl ?_)
  refine w_trtail rfl a23.tr (by dsimp only; rw [List.length_append,List.length_singleton]; omega) fun s' tr24 o24 c24 => ?_
  repeat (first | apply sS | apply sSn | (refine is_okn rfl ?_; refine w_op rfl ?_))
  refine w_st1 rfl c24 hsg23 (by show 33 < 34; decide) o24 fun g24 m24 k24 n24 => ?_
  replace k24 : g24.get s = some ⟨syV s5 P rs s',true,0⟩ := k24
  obtain ⟨a24,x24⟩ := a23.cut tr24 m24 n24 k24
  repeat (first | apply sE)
  have e5 : tk5 s5 = { s5 with tr := (s5.tr ++ [seeF s5]).drop 1 } := by unfold tk5; rw [if_pos (by rw [List.length_append,List.length_singleton]; exact hl)]
  rw [e5]
  exact end_zeroN ⟨_,_,a24,x023.trans (x24.mono (by decide))⟩
 ·repeat (first | apply sS | apply sE | apply dE | refine w_mv rfl ?_ | (refine is_okn rfl ?_; refine w_op rfl ?_) | (apply is_ld; refine w_ldA rfl ?_) | (apply is_bin; refine w_cF rfl ?_) | apply ai_seq | apply ai_regW | refine ai_cF rfl ?_ | apply ai_skip)
  have e5 : tk5 s5 = { s5 with tr := s5.tr ++ [seeF s5] } := by unfold tk5; rw [if_neg (by rw [List.length_append,List.length_singleton]; exact hl)]
  rw [e5]
  exact end_zeroN ⟨_,_,a23,x023⟩
def evV (e : Ev) : List Value := [nI e.kind,nI e.n,bs e.text]
theorem eof_ok (h : Hp) (e : Ev) : ACall PX 53 [.iface 32 (.agg ⟨evV e⟩)] h (fun v g => v = .agg ⟨evV e⟩ ∧ Ext h g) := by
 refine acallA Tryz.func53 c53 ?_
 unfold ir53
 dsimp only [qo,qm,qk,q2,qi,qg,qn,qc,dq,ci,cb,qh,qs]
 repeat (first | apply sS | apply ai_seq | apply ai_regW)
 refine w_new fun g1 x1 k1 n1 => ?_
 repeat (first | apply sS | apply sE | refine w_mv rfl ?_ | (refine is_okn rfl ?_; refine w_op rfl ?_) | refine w_ext rfl rfl ?_ | apply ai_seq | apply ai_regW)
 refine w_new fun g2 x2 k2 n2 => ?_
 have k12 := (x2.2 _ n1).trans k1
 have o1 := x1.1
 repeat (first | apply sSn)
 refine w_stN rfl rfl k2 rfl rfl fun g3 m3 k3 n3 => ?_
 have k13 := (m3 _ (by omega)).trans k12
 repeat (first | apply sS | apply sSn | apply sE | refine w_mv rfl ?_ | (apply is_ldn; refine w_ldnA rfl ?_) | apply ai_seq | apply ai_regW)
 refine w_stN rfl rfl k13 rfl rfl fun g4 m4 k4 n4 => ?_
 repeat (first | apply sE | (apply ai_ret; repeat (first | rw [thenQ_r] | rw [blockQ_r] | rw [roundE_r])))
 refine end_cell1 rfl k4 Tryz.underlying32 rfl (by kernel_rfl) rfl ⟨rfl,?_⟩
 have o2 := x2.1
 exact ⟨by rw [n4,n3]; omega,fun k hk => (m4 k (by omega)).trans ((m3 k (by omega)).trans ((x2.2 k (by omega)).trans (x1.2 k hk)))⟩
set_option maxHeartbeats 2000000 in
theorem emay_ok (h : Hp) (e : Ev) (ht : e.text.length ≤ 140737488355328) : ACall PX 28 [.agg ⟨evV e⟩] h (fun v g => v = .bool (mayE e) ∧ Ext h g) := by
 obtain ⟨kind,n,text⟩ := e
 dsimp only at ht
 have hz := sz_mk text
 unfold mayE
 dsimp only
 refine acallA Tryz.func28 c28 ?_
 unfold ir28
 dsimp only [qo,qm,qk,q2,qi,qg,qn,qc,dq,ci,cb,qh,qs]
 repeat (first | apply sS | apply ai_seq | apply ai_regW)
 refine w_box rfl fun g1 x1 k1 n1 => ?_
 repeat (first | apply sS | apply sE | refine w_mv rfl ?_ | (refine is_okn rfl ?_; refine w_op rfl ?_) | (apply is_ldn; refine w_ldnA rfl ?_) | apply ai_seq | apply ai_regW)
 refine w_call rfl ((eof_ok _ _).mono ?_)
 rintro _ g2 ⟨rfl,x2⟩
 have k2 := (x2.2 _ n1).trans k1
 have x02 := x1.trans x2
 clear k1 x1 x2
 by_cases q5 : kind = 5
 ·subst q5
  rw [if_neg (by simp),if_neg (by decide),if_neg (by decide),if_neg (by decide),if_pos rfl]
  repeat (first | apply sS | apply sE | refine w_mv rfl ?_ | refine w_pickF rfl ?_ | (refine is_okn rfl ?_; refine w_op rfl ?_) | refine w_gF rfl rfl ?_ | (apply is_ld; refine w_ldA rfl ?_) | (apply is_bin; refine w_cT rfl ?_) | (apply is_bin; refine w_cF rfl ?_) | apply ai_seq | apply ai_regW | refine ai_cT rfl ?_ | refine ai_cF rfl ?_ | apply ai_skip | apply ai_block)
  by_cases qn : n = 0
  ·by_cases qt : text.length ≤ 200
   ·rw [decide_eq_true ⟨qn,qt⟩]
    repeat (first | apply sS | apply sE | refine w_mv rfl ?_ | refine w_pickT rfl ?_ | (refine is_okn rfl ?_; refine w_op rfl ?_) | refine w_gT rfl rfl ?_ | (apply is_ld; refine w_ldA rfl ?_) | (apply is_bin; refine w_cT rfl ?_) | (apply ai_ret; repeat (first | rw [thenQ_r] | rw [blockQ_r] | rw [roundE_r])))
    exact end_one rfl ⟨rfl,x02⟩
   ·rw [decide_eq_false (fun q => qt q.2)]
    repeat (first | apply sS | apply sE | refine w_mv rfl ?_ | refine w_pickT rfl ?_ | (refine is_okn rfl ?_; refine w_op rfl ?_) | refine w_gT rfl rfl ?_ | (apply is_ld; refine w_ldA rfl ?_) | (apply is_bin; refine w_cT rfl ?_) | (apply is_bin; refine w_cF rfl ?_) | (apply ai_ret; repeat (first | rw [thenQ_r] | rw [blockQ_r] | rw [roundE_r])))
    exact end_one rfl ⟨rfl,x02⟩
  ·rw [decide_eq_false (fun q => qn q.1)]
   repeat (first | apply sS | apply sE | refine w_mv rfl ?_ | refine w_pickF rfl ?_ | refine w_gF rfl rfl ?_ | (apply is_bin; refine w_cF rfl ?_) | (apply ai_ret; repeat (first | rw [thenQ_r] | rw [blockQ_r] | rw [roundE_r])))
   exact end_one rfl ⟨rfl,x02⟩
 ·repeat (first | apply sS | refine w_mv rfl ?_ | (refine is_okn rfl ?_; refine w_op rfl ?_) | refine w_gT rfl rfl ?_ | (apply is_ld; refine w_ldA rfl ?_) | (apply is_bin; refine w_cT rfl ?_))
  refine w_neB (b := []) rfl ?_
  by_cases qt : text = []
  ·subst qt
   rw [if_neg (by simp)]
   by_cases c1 : kind = 1
   ·subst c1
    rw [if_pos rfl]
    repeat (first | apply sS | apply sE | refine w_mv rfl ?_ | refine w_pickT rfl ?_ | (refine is_okn rfl ?_; refine w_op rfl ?_) | (apply is_ld; refine w_ldA rfl ?_) | (apply is_bin; refine w_cT rfl ?_) | apply ai_seq | apply ai_regW | refine ai_cT rfl ?_ | refine ai_cF rfl ?_ | apply ai_skip | apply ai_block)
    by_cases q0 : 1 ≤ n
    ·by_cases q1 : n ≤ 200
     ·rw [decide_eq_true ⟨q0,q1⟩]
      repeat (first | apply sS | apply sE | refine w_mv rfl ?_ | refine w_pickT rfl ?_ | (refine is_okn rfl ?_; refine w_op rfl ?_) | refine w_gT rfl rfl ?_ | (apply is_ld; refine w_ldA rfl ?_) | (apply is_bin; refine w_cT rfl ?_) | (apply ai_ret; repeat (first | rw [thenQ_r] | rw [blockQ_r] | rw [roundE_r])))
      exact end_one rfl ⟨rfl,x02⟩
     ·rw [decide_eq_false (fun q => q1 q.2)]
      repeat (first | apply sS | apply sE | refine w_mv rfl ?_ | refine w_pickT rfl ?_ | (refine is_okn rfl ?_; refine w_op rfl ?_) | refine w_gT rfl rfl ?_ | (apply is_ld; refine w_ldA rfl ?_) | (apply is_bin; refine w_cT rfl ?_) | (apply is_bin; refine w_cF rfl ?_) | (apply ai_ret; repeat (first | rw [thenQ_r] | rw [blockQ_r] | rw [roundE_r])))
      exact end_one rfl ⟨rfl,x02⟩
    ·rw [decide_eq_false (fun q => q0 q.1)]
     repeat (first | apply sS | apply sE | refine w_mv rfl ?_ | refine w_pickF rfl ?_ | refine w_gF rfl rfl ?_ | (apply is_bin; refine w_cF rfl ?_) | (apply ai_ret; repeat (first | rw [thenQ_r] | rw [blockQ_r] | rw [roundE_r])))
     exact end_one rfl ⟨rfl,x02⟩
   rw [if_neg c1]
   by_cases c2 : kind = 2
   ·subst c2
    rw [if_pos rfl]
    repeat (first | apply sS | apply sE | refine w_mv rfl ?_ | refine w_pickT rfl ?_ | (refine is_okn rfl ?_; refine w_op rfl ?_) | (apply is_ld; refine w_ldA rfl ?_) | (apply is_bin; refine w_cT rfl ?_) | (apply is_bin; refine w_cF rfl ?_) | apply ai_seq | apply ai_regW | refine ai_cT rfl ?_ | refine ai_cF rfl ?_ | apply ai_skip | apply ai_block)
    by_cases q0 : 1 ≤ n
    ·by_cases q1 : n ≤ 100
     ·rw [decide_eq_true ⟨q0,q1⟩]
      repeat (first | apply sS | apply sE | refine w_mv rfl ?_ | refine w_pickT rfl ?_ | (refine is_okn rfl ?_; refine w_op rfl ?_) | refine w_gT rfl rfl ?_ | (apply is_ld; refine w_ldA rfl ?_) | (apply is_bin; refine w_cT rfl ?_) | (apply ai_ret; repeat (first | rw [thenQ_r] | rw [blockQ_r] | rw [roundE_r])))
      exact end_one rfl ⟨rfl,x02⟩
     ·rw [decide_eq_false (fun q => q1 q.2)]
      repeat (first | apply sS | apply sE | refine w_mv rfl ?_ | refine w_pickT rfl ?_ | (refine is_okn rfl ?_; refine w_op rfl ?_) | refine w_gT rfl rfl ?_ | (apply is_ld; refine w_ldA rfl ?_) | (apply is_bin; refine w_cT rfl ?_) | (apply is_bin; refine w_cF rfl ?_) | (apply ai_ret; repeat (first | rw [thenQ_r] | rw [blockQ_r] | rw [roundE_r])))
      exact end_one rfl ⟨rfl,x02⟩
    ·rw [decide_eq_false (fun q => q0 q.1)]
     repeat (first | apply sS | apply sE | refine w_mv rfl ?_ | refine w_pickF rfl ?_ | refine w_gF rfl rfl ?_ | (apply is_bin; refine w_cF rfl ?_) | (apply ai_ret; repeat (first | rw [thenQ_r] | rw [blockQ_r] | rw [roundE_r])))
     exact end_one rfl ⟨rfl,x02⟩
   rw [if_neg c2]
   by_cases c3 : kind = 3
   ·subst c3
    rw [if_pos (.inl rfl)]
    repeat (first | apply sS | apply sE | refine w_mv rfl ?_ | refine w_pickT rfl ?_ | (refine is_okn rfl ?_; refine w_op rfl ?_) | (apply is_ld; refine w_ldA rfl ?_) | (apply is_bin; refine w_cT rfl ?_) | (apply is_bin; refine w_cF rfl ?_) | apply ai_seq | apply ai_regW | refine ai_cT rfl ?_ | refine ai_cF rfl ?_ | apply ai_skip | apply ai_block)
    by_cases q0 : 0 ≤ n
    ·by_cases q1 : n ≤ 999
     ·rw [decide_eq_true ⟨q0,q1⟩]
      repeat (first | apply sS | apply sE | refine w_mv rfl ?_ | refine w_pickT rfl ?_ | (refine is_okn rfl ?_; refine w_op rfl ?_) | refine w_gT rfl rfl ?_ | (apply is_ld; refine w_ldA rfl ?_) | (apply is_bin; refine w_cT rfl ?_) | (apply ai_ret; repeat (first | rw [thenQ_r] | rw [blockQ_r] | rw [roundE_r])))
      exact end_one rfl ⟨rfl,x02⟩
     ·rw [decide_eq_false (fun q => q1 q.2)]
      repeat (first | apply sS | apply sE | refine w_mv rfl ?_ | refine w_pickT rfl ?_ | (refine is_okn rfl ?_; refine w_op rfl ?_) | refine w_gT rfl rfl ?_ | (apply is_ld; refine w_ldA rfl ?_) | (apply is_bin; refine w_cT rfl ?_) | (apply is_bin; refine w_cF rfl ?_) | (apply ai_ret; repeat (first | rw [thenQ_r] | rw [blockQ_r] | rw [roundE_r])))
      exact end_one rfl ⟨rfl,x02⟩
    ·rw [decide_eq_false (fun q => q0 q.1)]
     repeat (first | apply sS | apply sE | refine w_mv rfl ?_ | refine w_pickF rfl ?_ | refine w_gF rfl rfl ?_ | (apply is_bin; refine w_cF rfl ?_) | (apply ai_ret; repeat (first | rw [thenQ_r] | rw [blockQ_r] | rw [roundE_r])))
     exact end_one rfl ⟨rfl,x02⟩
   by_cases c4 : kind = 4
   ·subst c4
    rw [if_pos (.inr rfl)]
    repeat (first | apply sS | apply sE | refine w_mv rfl ?_ | refine w_pickT rfl ?_ | (refine is_okn rfl ?_; refine w_op rfl ?_) | (apply is_ld; refine w_ldA rfl ?_) | (apply is_bin; refine w_cT rfl ?_) | (apply is_bin; refine w_cF rfl ?_) | apply ai_seq | apply ai_regW | refine ai_cT rfl ?_ | refine ai_cF rfl ?_ | apply ai_skip | apply ai_block)
    by_cases q0 : 0 ≤ n
    ·by_cases q1 : n ≤ 999
     ·rw [decide_eq_true ⟨q0,q1⟩]
      repeat (first | apply sS | apply sE | refine w_mv rfl ?_ | refine w_pickT rfl ?_ | (refine is_okn rfl ?_; refine w_op rfl ?_) | refine w_gT rfl rfl ?_ | (apply is_ld; refine w_ldA rfl ?_) | (apply is_bin; refine w_cT rfl ?_) | (apply ai_ret; repeat (first | rw [thenQ_r] | rw [blockQ_r] | rw [roundE_r])))
      exact end_one rfl ⟨rfl,x02⟩
     ·rw [decide_eq_false (fun q => q1 q.2)]
      repeat (first | apply sS | apply sE | refine w_mv rfl ?_ | refine w_pickT rfl ?_ | (refine is_okn rfl ?_; refine w_op rfl ?_) | refine w_gT rfl rfl ?_ | (apply is_ld; refine w_ldA rfl ?_) | (apply is_bin; refine w_cT rfl ?_) | (apply is_bin; refine w_cF rfl ?_) | (apply ai_ret; repeat (first | rw [thenQ_r] | rw [blockQ_r] | rw [roundE_r])))
      exact end_one rfl ⟨rfl,x02⟩
    ·rw [decide_eq_false (fun q => q0 q.1)]
     repeat (first | apply sS | apply sE | refine w_mv rfl ?_ | refine w_pickF rfl ?_ | refine w_gF rfl rfl ?_ | (apply is_bin; refine w_cF rfl ?_) | (apply ai_ret; repeat (first | rw [thenQ_r] | rw [blockQ_r] | rw [roundE_r])))
     exact end_one rfl ⟨rfl,x02⟩
   rw [if_neg (fun q => q.elim c3 c4),if_neg q5]
   by_cases c6 : kind = 6
   ·subst c6
    rw [if_pos rfl]
    repeat (first | apply sS | apply sE | refine w_mv rfl ?_ | refine w_pickT rfl ?_ | (refine is_okn rfl ?_; refine w_op rfl ?_) | (apply is_ld; refine w_ldA rfl ?_) | (apply is_bin; refine w_cT rfl ?_) | (apply is_bin; refine w_cF rfl ?_) | apply ai_seq | apply ai_regW | refine ai_cT rfl ?_ | refine ai_cF rfl ?_ | apply ai_skip | apply ai_block)
    by_cases q0 : 1 ≤ n
    ·by_cases q1 : n ≤ 50
     ·rw [decide_eq_true ⟨q0,q1⟩]
      repeat (first | apply sS | apply sE | refine w_mv rfl ?_ | refine w_pickT rfl ?_ | (refine is_okn rfl ?_; refine w_op rfl ?_) | refine w_gT rfl rfl ?_ | (apply is_ld; refine w_ldA rfl ?_) | (apply is_bin; refine w_cT rfl ?_) | (apply ai_ret; repeat (first | rw [thenQ_r] | rw [blockQ_r] | rw [roundE_r])))
      exact end_one rfl ⟨rfl,x02⟩
     ·rw [decide_eq_false (fun q => q1 q.2)]
      repeat (first | apply sS | apply sE | refine w_mv rfl ?_ | refine w_pickT rfl ?_ | (refine is_okn rfl ?_; refine w_op rfl ?_) | refine w_gT rfl rfl ?_ | (apply is_ld; refine w_ldA rfl ?_) | (apply is_bin; refine w_cT rfl ?_) | (apply is_bin; refine w_cF rfl ?_) | (apply ai_ret; repeat (first | rw [thenQ_r] | rw [blockQ_r] | rw [roundE_r])))
      exact end_one rfl ⟨rfl,x02⟩
    ·rw [decide_eq_false (fun q => q0 q.1)]
     repeat (first | apply sS | apply sE | refine w_mv rfl ?_ | refine w_pickF rfl ?_ | refine w_gF rfl rfl ?_ | (apply is_bin; refine w_cF rfl ?_) | (apply ai_ret; repeat (first | rw [thenQ_r] | rw [blockQ_r] | rw [roundE_r])))
     exact end_one rfl ⟨rfl,x02⟩
   rw [if_neg c6]
   repeat (first | apply sS | apply sE | refine w_mv rfl ?_ | refine w_pickT rfl ?_ | (refine is_okn rfl ?_; refine w_op rfl ?_) | (apply is_ld; refine w_ldA rfl ?_) | (apply is_bin; refine w_cF rfl ?_) | apply ai_seq | apply ai_regW | refine ai_cF rfl ?_ | apply ai_skip | apply ai_block | (apply ai_ret; repeat (first | rw [thenQ_r] | rw [blockQ_r] | rw [roundE_r])))
   exact end_one rfl ⟨rfl,x02⟩
  ·rw [if_pos ⟨q5,qt⟩,show (!(text == [])) = true by simpa using qt]
   repeat (first | apply sS | apply sE | refine w_mv rfl ?_ | refine w_pickT rfl ?_ | apply ai_seq | apply ai_regW | refine ai_cT rfl ?_ | (apply ai_ret; repeat (first | rw [thenQ_r] | rw [blockQ_r] | rw [roundE_r])))
   exact end_one rfl ⟨rfl,x02⟩
theorem nTimes_snoc {α : Type} (f : α → α) : ∀ (m : Nat) (x : α),nTimes f (m + 1) x = f (nTimes f m x)
 | 0,_ => rfl
 | m + 1,x => nTimes_snoc f m (f x)
theorem syArrive_len (st : Sy) : (syArrive st).r.length = st.r.length + 1 := by
 rw [syArrive_eq]
 split
 ·rw [sySent_len.1]; simp [arrS]
 ·rw [sySent_len.1]; simp [refS]
theorem arrives {st : Sy} (i : SyI st) : ∀ m,SyI (nTimes syArrive m st) ∧ (nTimes syArrive m st).r.length = st.r.length + m
 | 0 => ⟨i,rfl⟩
 | m + 1 => by
  obtain ⟨h1,h2⟩ := arrives i m
  rw [nTimes_snoc]
  exact ⟨h1.arrive,by rw [syArrive_len,h2]; omega⟩
theorem sySent_now {st : Sy} : (sySent st).now = st.now := rfl
theorem syTick_now (st : Sy) : (syTick st).now = st.now + 1 ∧ (syTick st).r.length = st.r.length := by
 have e2 : ∀ s,(tk2 s).now = s.now ∧ (tk2 s).r = s.r := by intro s; unfold tk2; split <;> exact ⟨rfl,rfl⟩
 have e4 : ∀ s,(tk4 s).now = s.now := by intro s; unfold tk4; split <;> rfl
 have e5 : ∀ s,(tk5 s).now = s.now ∧ (tk5 s).r = s.r := fun s => ⟨rfl,rfl⟩
 rw [syTick_eq,(e5 _).1,(e5 _).2,sySent_now,sySent_len.1,e4,(tk4_same _).1]
 show (tk2 (tk1 st)).now = _ ∧ (tk2 (tk1 st)).r.length = _
 rw [(e2 _).1,(e2 _).2]
 exact ⟨rfl,lateR_len _ _ _⟩
theorem ticks {st : Sy} (i : SyI st) : ∀ m : Nat,st.now + m ≤ 1099511627776 → SyI (nTimes syTick m st) ∧ (nTimes syTick m st).r.length = st.r.length ∧ (nTimes syTick m st).now = st.now + m
 | 0,_ => ⟨i,rfl,by show st.now = _; omega⟩
 | m + 1,h => by
  obtain ⟨h1,h2,h3⟩ := ticks i m (by omega)
  rw [nTimes_snoc]
  exact ⟨(h1.steps (by omega)).2.2.2.2.2,by rw [(syTick_now _).2,h2],by rw [(syTick_now _).1,h3]; omega⟩
theorem may_kind {e : Ev} (h : mayE e = true) : (e.kind = 1 ∧ 1 ≤ e.n ∧ e.n ≤ 200) ∨ (e.kind = 2 ∧ 1 ≤ e.n ∧ e.n ≤ 100) ∨ (e.kind = 3 ∧ 0 ≤ e.n ∧ e.n ≤ 999) ∨ (e.kind = 4 ∧ 0 ≤ e.n ∧ e.n ≤ 999) ∨ (e.kind = 5 ∧ e.n = 0 ∧ e.text.length ≤ 200) ∨ (e.kind = 6 ∧ 1 ≤ e.n ∧ e.n ≤ 50) := by
 unfold mayE at h
 split at h
 ·cases h
 split at h
 ·exact .inl ⟨‹_›,of_decide_eq_true h⟩
 split at h
 ·exact .inr (.inl ⟨‹_›,of_decide_eq_true h⟩)
 split at h
 ·next hk =>
  have := of_decide_eq_true h
  omega
 split at h
 ·next hk =>
  have := of_decide_eq_true h
  omega
 split at h
 ·next hk =>
  have := of_decide_eq_true h
  omega
 ·cases h
def loseS (s : Sy) (n : Int) : Sy := { s with lost := min (s.lost + n) 1000 }
theorem SyI.lose {st : Sy} (i : SyI st) {n : Int} (hn : 0 ≤ n) : SyI (loseS st n) := by
 have h := i.lost
 unfold loseS
 exact ⟨i.c,i.now,i.ct,i.made,i.cf,i.bz,i.sum,i.ql,i.qd,i.qp,i.qi,i.rs,i.dd,by dsimp only; omega,i.since,i.trl⟩
theorem syDo_1 (st : Sy) {e : Ev} (h : mayE e = true) (k : e.kind = 1) : syDo st e = if 1099511627776 < st.now + e.n then (st,5) else (nTimes syTick e.n.toNat st,0) := by
 unfold syDo; rw [h,k]; rfl
theorem syDo_2 (st : Sy) {e : Ev} (h : mayE e = true) (k : e.kind = 2) : syDo st e = (nTimes syArrive e.n.toNat st,0) := by
 unfold syDo; rw [h,k]; rfl
theorem syDo_3 (st : Sy) {e : Ev} (h : mayE e = true) (k : e.kind = 3) : syDo st e = syFinish st e.n := by
 unfold syDo; rw [h,k]; rfl
theorem syDo_4 (st : Sy) {e : Ev} (h : mayE e = true) (k : e.kind = 4) : syDo st e = syCrash st e.n := by
 unfold syDo; rw [h,k]; rfl
theorem syDo_5 (st : Sy) {e : Ev} (h : mayE e = true) (k : e.kind = 5) : syDo st e = syChange st e.text := by
 unfold syDo; rw [h,k]; rfl
theorem syDo_6 (st : Sy) {e : Ev} (h : mayE e = true) (k : e.kind = 6) : syDo st e = (loseS st e.n,0) := by
 unfold syDo; rw [h,k]; rfl
theorem syDo_no (st : Sy) {e : Ev} (h : mayE e = false) : syDo st e = (st,1) := by
 unfold syDo; rw [if_pos h]
set_option maxHeartbeats 2000000 in
theorem do_ok {T : Tg} {g : Hp} {s P L q D : Nat} {rs ts : Value} {st : Sy} (a : SyG g T s P L q D rs ts st) (i : SyI st) (hb : st.r.length ≤ 799000) (e : Ev) (het : e.text.length ≤ 1000000) :
  ACall PX 11 [ptr s,.agg ⟨evV e⟩] g (fun v h => v = nI (syDo st e).2 ∧ ∃ T' rs' ts',SyG h T' s P L q D rs' ts' (syDo st e).1 ∧ Tn [1,2,3,4,5,6,7,8,9,10,11] T g T' h) := by
 refine acallA Tryz.func11 c11 ?_
 unfold ir11
 dsimp only [qo,qm,qk,q2,qi,qg,qn,qc,dq,ci,cb,qh,qs]
 repeat (first | apply sS | apply ai_seq | apply ai_regW)
 refine w_box rfl fun g1 x1 k1 n1 => ?_
 replace k1 : g1.get g.nx = some ⟨evV e,true,0⟩ := k1
 have hall : g1.rd g.nx 0 3 = some (evV e) := rd_all k1 rfl
 repeat (first | apply sS | apply sE | refine w_mv rfl ?_ | (refine is_okn rfl ?_; refine w_op rfl ?_) | (apply is_ldn; refine w_ldnA rfl ?_) | apply ai_seq | apply ai_regW | refine ai_cF rfl ?_ | apply ai_block)
 refine w_call rfl ((emay_ok g1 e (by omega)).mono ?_)
 rintro _ g2 ⟨rfl,x2⟩
 have a2 := a.ext (x1.trans x2)
 have k2 := (x2.2 _ n1).trans k1
 replace k2 : g2.get g.nx = some ⟨[nI e.kind,nI e.n,bs e.text],true,0⟩ := k2
 have x02 := Tn.of_ext (I := [1,2,3,4,5,6,7,8,9,10,11]) a.w (x1.trans x2)
 clear hall k1
 have hnow := i.now
 cases hm : mayE e with
 | false =>
  rw [syDo_no st hm]
  repeat (first | apply sS | apply sE | refine w_mv rfl ?_ | (refine is_okn rfl ?_; refine w_op rfl ?_) | apply ai_seq | apply ai_regW | refine ai_cT rfl ?_ | (apply ai_ret; repeat (first | rw [thenQ_r] | rw [blockQ_r] | rw [roundE_r])))
  exact end_one rfl ⟨rfl,_,_,_,a2,x02⟩
 | true =>
  rcases may_kind hm with ⟨hk,h1,h2⟩ | ⟨hk,h1,h2⟩ | ⟨hk,h1,h2⟩ | ⟨hk,h1,h2⟩ | ⟨hk,h1,h2⟩ | ⟨hk,h1,h2⟩
  ·rw [syDo_1 st hm hk]
   have hsg2 := a2.sg
   by_cases hov : 1099511627776 < st.now + e.n
   ·rw [if_pos hov]
    repeat (first | apply sS | apply dS | apply sE | apply dE | refine w_mv rfl ?_ | (refine is_okn rfl ?_; refine w_op rfl ?_) | (apply is_ld; refine w_ldA rfl ?_) | (apply is_bin; refine w_addA rfl ?_) | (apply is_bin; refine w_cT rfl ?_) | (apply is_bin; refine w_cF rfl ?_) | apply ai_seq | apply ai_regW | refine ai_cT rfl ?_ | refine ai_cF rfl ?_ | apply ai_skip | refine ai_drwW (by kernel_rfl) ?_ | apply ai_block | (apply ai_ret; repeat (first | rw [thenQ_r] | rw [blockQ_r] | rw [roundE_r])))
    exact end_one rfl ⟨rfl,_,_,_,a2,x02⟩
   rw [if_neg hov]
   repeat (first | apply sS | apply dS | apply sE | apply dE | refine w_mv rfl ?_ | (refine is_okn rfl ?_; refine w_op rfl ?_) | (apply is_ld; refine w_ldA rfl ?_) | (apply is_bin; refine w_addA rfl ?_) | (apply is_bin; refine w_cT rfl ?_) | (apply is_bin; refine w_cF rfl ?_) | apply ai_seq | apply ai_regW | refine ai_cT rfl ?_ | refine ai_cF rfl ?_ | apply ai_skip | refine ai_drwW (by kernel_rfl) ?_ | apply ai_block)
   refine ai_loopE (γ := Nat × Tg × Value) (fun x => [(0,ptr s),(4,nI 0),(65,nI e.n),(66,nI x.1)])
    (fun x h => SyG h x.2.1 s P L q D rs x.2.2 (nTimes syTick x.1 st) ∧ Tn [1,2,3,4,5,6,7,8,9,10,11] T g x.2.1 h ∧ x.1 ≤ e.n) (fun x => e.n.toNat - x.1) (0,T,ts) leX ⟨a2,x02,by dsimp only; omega⟩ ?_
   rintro ⟨m,T3,ts3⟩ g3 ⟨a3,x3,hmn⟩
   dsimp only at a3 x3 hmn ⊢
   by_cases hml : (m : Int) < e.n
   ·obtain ⟨i3,l3,n3⟩ := ticks i m (by omega)
    repeat (first | apply sS | apply sE | refine w_mv rfl ?_ | (apply is_bin; refine w_cT rfl ?_) | apply ai_seq | apply ai_regW | refine ai_cT rfl ?_ | apply ai_skip | apply ai_block)
    refine w_call rfl ((tick_ok a3 i3 (by omega) (by omega)).mono ?_)
    rintro _ g4 ⟨T4,ts4,a4,x4⟩
    repeat (first | apply sS | apply sE | refine w_mv rfl ?_ | (apply is_bin; refine w_addA rfl ?_) | apply ai_regW)
    exact ⟨(m + 1,T4,ts4),leX,⟨by dsimp only; rw [nTimes_snoc]; exact a4,x3.trans x4,by dsimp only; omega⟩,by dsimp only; omega⟩
   ·obtain hme : e.n.toNat = m := by omega
    rw [hme]
    repeat (first | apply sS | apply sE | refine w_mv rfl ?_ | (apply is_bin; refine w_cF rfl ?_) | apply ai_seq | apply ai_regW | refine ai_cF rfl ?_ | apply ai_exit | (apply ai_ret; repeat (first | rw [thenQ_r] | rw [blockQ_r] | rw [roundE_r])))
    exact end_one rfl ⟨rfl,_,_,_,a3,x3⟩
  ·rw [syDo_2 st hm hk]
   repeat (first | apply sS | apply sE | refine w_mv rfl ?_ | (refine is_okn rfl ?_; refine w_op rfl ?_) | (apply is_ld; refine w_ldA rfl ?_) | (apply is_bin; refine w_cT rfl ?_) | apply ai_seq | apply ai_regW | refine ai_cT rfl ?_ | refine ai_cF rfl ?_ | apply ai_skip | apply ai_block)
   refine ai_loopE (γ := Nat × Tg × Value) (fun x => [(0,ptr s),(4,nI 0),(17,nI e.n),(18,nI x.1)])
    (fun x h => SyG h x.2.1 s P L q D x.2.2 ts (nTimes syArrive x.1 st) ∧ Tn [1,2,3,4,5,6,7,8,9,10,11] T g x.2.1 h ∧ x.1 ≤ e.n) (fun x => e.n.toNat - x.1) (0,T,rs) leX ⟨a2,x02,by dsimp only; omega⟩ ?_
   rintro ⟨m,T3,rs3⟩ g3 ⟨a3,x3,hmn⟩
   dsimp only at a3 x3 hmn ⊢
   by_cases hml : (m : Int) < e.n
   ·obtain ⟨i3,l3⟩ := arrives i m
    repeat (first | apply sS | apply sE | refine w_mv rfl ?_ | (apply is_bin; refine w_cT rfl ?_) | apply ai_seq | apply ai_regW | refine ai_cT rfl ?_ | apply ai_skip | apply ai_block)
    refine w_call rfl ((arrive_ok a3 i3 (by omega)).mono ?_)
    rintro _ g4 ⟨T4,rs4,a4,x4⟩
    repeat (first | apply sS | apply sE | refine w_mv rfl ?_ | (apply is_bin; refine w_addA rfl ?_) | apply ai_regW)
    exact ⟨(m + 1,T4,rs4),leX,⟨by dsimp only; rw [nTimes_snoc]; exact a4,x3.trans (x4.mono (by decide)),by dsimp only; omega⟩,by dsimp only; omega⟩
   ·obtain hme : e.n.toNat = m := by omega
    rw [hme]
    repeat (first | apply sS | apply sE | refine w_mv rfl ?_ | (apply is_bin; refine w_cF rfl ?_) | apply ai_seq | apply ai_regW | refine ai_cF rfl ?_ | apply ai_exit | (apply ai_ret; repeat (first | rw [thenQ_r] | rw [blockQ_r] | rw [roundE_r])))
    exact end_one rfl ⟨rfl,_,_,_,a3,x3⟩
  ·rw [syDo_3 st hm hk]
   repeat (first | apply sS | apply sE | refine w_mv rfl ?_ | (refine is_okn rfl ?_; refine w_op rfl ?_) | (apply is_ld; refine w_ldA rfl ?_) | (apply is_bin; refine w_cT rfl ?_) | (apply is_bin; refine w_cF rfl ?_) | apply ai_seq | apply ai_regW | refine ai_cT rfl ?_ | refine ai_cF rfl ?_ | apply ai_skip | apply ai_block)
   refine w_call rfl ((finish_ok a2 i (by omega) ⟨h1,h2⟩).mono ?_)
   rintro _ g3 ⟨rfl,T3,a3,x3⟩
   repeat (first | apply sS | apply sE | refine w_mv rfl ?_ | (apply ai_ret; repeat (first | rw [thenQ_r] | rw [blockQ_r] | rw [roundE_r])))
   exact end_one rfl ⟨rfl,_,_,_,a3,x02.trans (x3.mono (by decide))⟩
  ·rw [syDo_4 st hm hk]
   repeat (first | apply sS | apply sE | refine w_mv rfl ?_ | (refine is_okn rfl ?_; refine w_op rfl ?_) | (apply is_ld; refine w_ldA rfl ?_) | (apply is_bin; refine w_cT rfl ?_) | (apply is_bin; refine w_cF rfl ?_) | apply ai_seq | apply ai_regW | refine ai_cT rfl ?_ | refine ai_cF rfl ?_ | apply ai_skip | apply ai_block)
   refine w_call rfl ((scrash_ok a2 i (by omega) e.n).mono ?_)
   rintro _ g3 ⟨rfl,T3,a3,x3⟩
   repeat (first | apply sS | apply sE | refine w_mv rfl ?_ | (apply ai_ret; repeat (first | rw [thenQ_r] | rw [blockQ_r] | rw [roundE_r])))
   exact end_one rfl ⟨rfl,_,_,_,a3,x02.trans (x3.mono (by decide))⟩
  ·rw [syDo_5 st hm hk]
   repeat (first | apply sS | apply sE | refine w_mv rfl ?_ | (refine is_okn rfl ?_; refine w_op rfl ?_) | (apply is_ld; refine w_ldA rfl ?_) | (apply is_bin; refine w_cT rfl ?_) | (apply is_bin; refine w_cF rfl ?_) | apply ai_seq | apply ai_regW | refine ai_cT rfl ?_ | refine ai_cF rfl ?_ | apply ai_skip | apply ai_block)
   refine w_call rfl ((change_ok a2 i (by omega) e.text het).mono ?_)
   rintro _ g3 ⟨rfl,T3,a3,x3⟩
   repeat (first | apply sS | apply sE | refine w_mv rfl ?_ | (apply ai_ret; repeat (first | rw [thenQ_r] | rw [blockQ_r] | rw [roundE_r])))
   exact end_one rfl ⟨rfl,_,_,_,a3,x02.trans (x3.mono (by decide))⟩
  ·rw [syDo_6 st hm hk]
   have hsg2 := a2.sg
   have hlo := i.lost
   repeat (first | apply sS | apply dS | apply dSn | apply sE | refine w_mv rfl ?_ | (refine is_okn rfl ?_; refine w_op rfl ?_) | (apply is_ld; refine w_ldA rfl ?_) | (apply is_bin; refine w_addA rfl ?_) | (apply is_bin; refine w_cT rfl ?_) | (apply is_bin; refine w_cF rfl ?_) | refine w_min rfl ?_ | apply ai_seq | apply ai_regW | refine ai_cT rfl ?_ | refine ai_cF rfl ?_ | apply ai_skip | refine ai_drwW (by kernel_rfl) ?_ | apply ai_block)
   refine w_st1 rfl rfl hsg2 (by show 32 < 34; decide) rfl fun g3 m3 k3 n3 => ?_
   replace k3 : g3.get s = some ⟨syV (loseS st e.n) P rs ts,true,0⟩ := k3
   obtain ⟨a3,x3⟩ := a2.own m3 n3 k3 ⟨rfl,rfl⟩ ⟨rfl,rfl,rfl⟩ rfl rfl rfl
   repeat (first | apply sS | apply sE | apply dE | refine w_mv rfl ?_ | apply ai_seq | apply ai_regW | (apply ai_ret; repeat (first | rw [thenQ_r] | rw [blockQ_r] | rw [roundE_r])))
   exact end_one rfl ⟨rfl,_,_,_,a3,x02.trans (x3.mono (by decide))⟩
end Go.Proofs.YtelmcfnkclihcaaGreatDoorW.Am
