/- SampleAll, over abstract heaps. -/
import Derived.Test.YtcdfoicebcmlaaaSampleP
namespace Go.Proofs.YtcdfoicebcmlaaaW.Am
open Go Go.RowKit

theorem u64_range (n : Int) : 0 ≤ IntKind.u64.wrap n ∧ IntKind.u64.wrap n ≤ 18446744073709551615 := by
  unfold IntKind.wrap
  simp only [IntKind.bits, IntKind.signed]
  simp
  omega
abbrev vI : Int → Value := Value.int .i64
theorem rd_all {h : Hp} {i : Nat} {us : List Value} {b : Bool} {e : Nat} (hg : h.get i = some ⟨us, b, e⟩) {n : Nat} (hn : n = us.length) : h.rd i 0 n = some us := by
  unfold Hp.rd
  subst hn
  simp [hg]
theorem put_get_same (h : Hp) (i : Nat) (o : Ob) : (h.put i o).get i = some o := by simp [Hp.put]
theorem put_get_ne (h : Hp) {i j : Nat} (o : Ob) (hij : j ≠ i) : (h.put i o).get j = h.get j := by simp [Hp.put, hij]
theorem idsF_len (n : Nat) : (idsF n).length = n := by simp [idsF]
theorem rd_of {h : Hp} {i : Nat} {us : List Value} {b : Bool} {e : Nat} (hg : h.get i = some ⟨us, b, e⟩) {x : Nat} {v : Value} (hx : us[x]? = some v) : h.rd i (0 + x * 1) 1 = some [v] := by
  have hl := (List.getElem?_eq_some_iff.1 hx).1
  unfold Hp.rd
  simp only [hg, Nat.zero_add, Nat.mul_one]
  rw [if_pos (by omega), List.drop_eq_getElem_cons hl]
  rw [List.getElem?_eq_getElem hl] at hx
  cases hx
  rfl
theorem wr_of {h : Hp} {i : Nat} {us : List Value} {e : Nat} (hg : h.get i = some ⟨us, true, e⟩) {x : Nat} (hx : x < us.length) {v : Value} (hv : one v = true) : h.wr i (0 + x * 1) [v] = some (h.put i ⟨us.set x v, true, e⟩) := by
  unfold Hp.wr
  simp only [hg, Nat.zero_add, Nat.mul_one]
  rw [if_pos ⟨trivial, by simp; omega, by simp [hv]⟩]
  rfl

/-- What all of the law's loops keep: the pods' row and the counters. -/
structure St (h0 h : Hp) (I O : Nat) (K : Nat) (of : List Int) : Prop where
  ext : Ext h0 h
  i0 : h0.nx ≤ I
  o0 : h0.nx ≤ O
  il : I < h.nx
  ol : O < h.nx
  ids : h.get I = some ⟨(idsF K).map vI, true, 1⟩
  cnt : h.get O = some ⟨of.map vI, true, 0⟩
  ne : I ≠ O
theorem St.move {h0 h h' : Hp} {I O K : Nat} {of : List Int} (s : St h0 h I O K of) (x : Ext h h') : St h0 h' I O K of :=
  ⟨s.ext.trans x, s.i0, s.o0, Nat.lt_of_lt_of_le s.il x.1, Nat.lt_of_lt_of_le s.ol x.1, (x.2 _ s.il).trans s.ids, (x.2 _ s.ol).trans s.cnt, s.ne⟩

set_option maxHeartbeats 1000000 in
theorem sampleAll_ok (n most from_ : Int) (h0 : Hp) : ACall PP 4 [vI n, vI most, vI from_] h0 (fun v h' => v = .bool true ∧ Ext h0 h') := by
  have hn := u64_range n
  have hm := u64_range most
  have hf := u64_range from_
  obtain ⟨K, hK⟩ := Int.eq_ofNat_of_zero_le (show 0 ≤ 1 + IntKind.u64.wrap n % 60 by omega)
  obtain ⟨M, hM⟩ := Int.eq_ofNat_of_zero_le (show 0 ≤ IntKind.u64.wrap most % 20 by omega)
  obtain ⟨A, hA⟩ := Int.eq_ofNat_of_zero_le (show 0 ≤ IntKind.u64.wrap from_ % 1000 by omega)
  have hK1 : 1 ≤ K := by omega
  have hK2 : K ≤ 60 := by omega
  have hM2 : M < 20 := by omega
  have hA2 : A < 1000 := by omega
  have hkf := kF_bd (n := (K : Int)) (most := (M : Int)) (by omega)
  obtain ⟨S, hS⟩ := Int.eq_ofNat_of_zero_le (show 0 ≤ kF (K : Int) (M : Int) by omega)
  have hS1 : 1 ≤ S := by omega
  have hS2 : S ≤ K := by omega
  refine acall Go.Proofs.Try.func4 c4 (by simp [ir4]) ?_
  unfold ir4
  dsimp only
  refine ai_seq (ai_reg ?_)
  refine st rfl ?_
  refine ai_seq (ai_reg ?_)
  refine st rfl ?_
  refine st rfl ?_
  refine st_rem rfl (by omega) (by omega) ?_
  refine st_w rfl (by omega) ?_
  refine st_v (v2 := vI K) rfl (by rw [wrap_i64' (by omega) (by omega), hK]) ?_
  refine st rfl ?_
  refine ai_seq (ai_reg ?_)
  refine st rfl ?_
  -- the pods' numbers
  refine ai_join (γ := Value) (fun v => [(1, vI most), (2, vI from_), (7, vI K), (8, v)]) (fun v h => Ext h0 h ∧ Ow h0.nx h v ((idsF K).map vI)) ?_ ?_
  · refine ai_seq (ai_reg ?_)
    refine st rfl ?_
    refine ai_block (ai_loopE (γ := Nat × Value) (fun g => [(1, vI most), (2, vI from_), (7, vI K), (8, g.2), (9, vI g.1)]) (fun g h => Ext h0 h ∧ Ow h0.nx h g.2 (((idsF K).take g.1).map vI) ∧ g.1 ≤ K) (fun g => K - g.1) (0, .slice none 0 0)
      (le_cons rfl (le_cons rfl (le_cons rfl (le_cons rfl (le_cons rfl le_nil))))) ⟨Ext.refl _, Ow.nil _ _, Nat.zero_le _⟩ ?_)
    rintro ⟨j, v⟩ h ⟨hx, how, hj⟩
    dsimp only at how hj ⊢
    refine ai_seq (ai_seq (ai_reg ?_))
    iterate 3 refine st rfl ?_
    by_cases hlt : j < K
    case neg =>
      refine ai_cond (b := false) (by simp [evA, Env.get, Env.put, hlt]) (fun hb => by cases hb) fun _ => ?_
      refine ai_exit ?_
      rw [List.take_of_length_le (by rw [idsF_len]; omega)] at how
      exact ⟨rfl, v, le_cons rfl (le_cons rfl (le_cons rfl (le_cons rfl le_nil))), hx, how⟩
    refine ai_cond (b := true) (by simp [evA, Env.get, Env.put, hlt]) (fun _ => ?_) fun hb => by cases hb
    refine ai_skip ?_
    refine ai_seq (ai_block (ai_reg ?_))
    iterate 2 refine st rfl ?_
    refine st_w rfl (by omega) ?_
    refine st (v := .slice (some ⟨h.nx, 0, none⟩) 1 1) (h' := h.new ⟨[vI (100 + j)], true, 1⟩) rfl ?_
    have hlen : (((idsF K).take j).map vI).length ≤ 60 := by simp [idsF]; omega
    obtain ⟨s', h2, hst, how2, hx2⟩ := how.push (e := 3) (e2 := 1) (bytes := 8) rfl hx (u := vI (100 + j)) rfl (by omega) (by omega)
    refine st (v := s') (h' := h2) hst ?_
    refine st rfl ?_
    refine ai_reg ?_
    refine st rfl ?_
    refine st_w rfl (by omega) ?_
    refine st rfl ?_
    refine ⟨(j + 1, s'), le_cons rfl (le_cons rfl (le_cons rfl (le_cons rfl (le_cons (by simp [Env.get, Env.put]) le_nil)))), ⟨hx2, ?_, by dsimp only; omega⟩, by dsimp only; omega⟩
    have hjl : j < (idsF K).length := by rw [idsF_len]; omega
    have : (idsF K).take (j + 1) = (idsF K).take j ++ [100 + (j : Int)] := by
      rw [List.take_succ_eq_append_getElem hjl]
      simp [idsF]
    rw [this]
    simpa using how2
  rintro v h ⟨hx, how⟩
  obtain ⟨_, hnil⟩ | ⟨I, hI0, hI1, rfl, hIg, _, _⟩ := how
  · have := congrArg List.length hnil
    simp [idsF] at this
    omega
  have hlenI : ((idsF K).map vI).length = K := by simp [idsF]
  rw [hlenI]
  refine ai_seq (ai_reg ?_)
  refine st (v := .pointer (some ⟨h.nx, 0, none⟩)) (h' := h.new ⟨(List.replicate 60 (0 : Int)).map vI, true, 0⟩) rfl ?_
  refine ai_seq (ai_reg ?_)
  iterate 2 refine st rfl ?_
  refine st_rem rfl (by omega) (by omega) ?_
  refine st_v (v2 := vI M) rfl (by rw [wrap_i64' (by omega) (by omega), hM]) ?_
  refine st rfl ?_
  refine ai_seq (ai_reg ?_)
  iterate 2 refine st rfl ?_
  refine st_rem rfl (by omega) (by omega) ?_
  refine st_v (v2 := vI A) rfl (by rw [wrap_i64' (by omega) (by omega), hA]) ?_
  refine st rfl ?_
  have S0 : St h0 (h.new ⟨(List.replicate 60 (0 : Int)).map vI, true, 0⟩) I h.nx K (ofR K S A 0) :=
    ⟨hx.trans (Ext.new _ _), hI0, hx.1, by simp [Hp.new]; omega, by simp [Hp.new], by simp [Hp.new, hIg, show I ≠ h.nx by omega], by simp [Hp.new, ofR], by omega⟩
  generalize hOO : h.nx = O at S0 ⊢
  -- the rounds
  refine ai_join (γ := Unit) (fun _ => [(7, vI K), (10, .pointer (some ⟨O, 0, none⟩))]) (fun _ h => St h0 h I O K (ofR K S A K)) ?_ ?_
  · refine ai_seq (ai_reg ?_)
    refine st rfl ?_
    refine ai_block (ai_loopE (γ := Nat) (fun r => [(7, vI K), (8, .slice (some ⟨I, 0, some 0⟩) K K), (10, .pointer (some ⟨O, 0, none⟩)), (11, vI M), (12, vI A), (13, vI r)]) (fun r h => St h0 h I O K (ofR K S A r) ∧ r ≤ K) (fun r => K - r) 0
      (le_cons rfl (le_cons rfl (le_cons rfl (le_cons rfl (le_cons rfl (le_cons rfl le_nil)))))) ⟨S0, Nat.zero_le _⟩ ?_)
    rintro r h ⟨hs, hr⟩
    refine ai_seq (ai_seq (ai_reg ?_))
    iterate 3 refine st rfl ?_
    by_cases hlt : r < K
    case neg =>
      refine ai_cond (b := false) (by simp [evA, Env.get, Env.put, hlt]) (fun hb => by cases hb) fun _ => ?_
      refine ai_exit ?_
      obtain rfl : r = K := by omega
      exact ⟨rfl, (), le_cons rfl (le_cons rfl le_nil), hs⟩
    refine ai_cond (b := true) (by simp [evA, Env.get, Env.put, hlt]) (fun _ => ?_) fun hb => by cases hb
    refine ai_skip ?_
    refine ai_join (γ := Unit) (fun _ => [(7, vI K), (8, .slice (some ⟨I, 0, some 0⟩) K K), (10, .pointer (some ⟨O, 0, none⟩)), (11, vI M), (12, vI A), (13, vI r)]) (fun _ h => St h0 h I O K (ofR K S A (r + 1))) ?_ ?_
    case refine_2 =>
      rintro _ h hs
      refine ai_reg ?_
      refine st rfl ?_
      refine st_w rfl (by omega) ?_
      refine st rfl ?_
      exact ⟨r + 1, le_cons rfl (le_cons rfl (le_cons rfl (le_cons rfl (le_cons rfl (le_cons (by simp [Env.get, Env.put]) le_nil))))), ⟨hs, by omega⟩, by dsimp only; omega⟩
    refine ai_block ?_
    refine ai_seq (ai_reg ?_)
    iterate 4 refine st rfl ?_
    refine st_w rfl (by omega) ?_
    refine stC rfl ?_
    have hcall := which_ok (idsF K) M ((A : Int) + r) h (i := I) (o := 0) (c := K) (sp := some 0) hs.il (rd_all hs.ids (by simp)) (by rw [idsF_len]; exact hK1) (by rw [idsF_len]; omega)
    rw [idsF_len, which_ids hK1, hS, Int.toNat_natCast] at hcall
    refine hcall.mono ?_
    clear hcall
    rintro l h1 ⟨hx1, how1⟩
    generalize hw : (List.range S).map (fun (i : Nat) => (100 + (((A + r) % K * S + i) % K : Nat) : Int)) = w at how1
    have hwl : w.length = S := by rw [← hw]; simp
    have hwg : ∀ i, i < S → w[i]? = some (100 + (((A + r) % K * S + i) % K : Nat) : Int) := by
      intro i hi
      rw [← hw]
      simp [hi]
    obtain ⟨_, hnil⟩ | ⟨Li, hL0, hL1, rfl, hLg, _, _⟩ := how1
    · have := congrArg List.length hnil
      simp at this
      rw [this] at hwl
      simp at hwl
      omega
    have hlenL : (w.map vI).length = S := by simp [hwl]
    rw [hlenL]
    have hs1 := hs.move hx1
    have hLI : Li ≠ I := by have := hs.il; omega
    have hLO : Li ≠ O := by have := hs.ol; omega
    refine st rfl ?_
    refine ai_seq (ai_reg ?_)
    refine st rfl ?_
    have hpl : ∀ i, ((A + r) % K * S + i) % K < K := fun i => Nat.mod_lt _ (by omega)
    refine ai_block (ai_loopE (γ := Nat) (fun i => [(7, vI K), (8, .slice (some ⟨I, 0, some 0⟩) K K), (10, .pointer (some ⟨O, 0, none⟩)), (11, vI M), (12, vI A), (13, vI r), (14, .slice (some ⟨Li, 0, some 0⟩) S S), (15, vI i)])
      (fun i h => St h0 h I O K (bumps (ofR K S A r) ((List.range i).map fun i => ((A + r) % K * S + i) % K)) ∧ h.get Li = some ⟨w.map vI, true, 1⟩ ∧ Li < h.nx ∧ i ≤ S) (fun i => S - i) 0
      (le_cons rfl (le_cons rfl (le_cons rfl (le_cons rfl (le_cons rfl (le_cons rfl (le_cons rfl (le_cons rfl le_nil)))))))) ⟨hs1, hLg, hL1, Nat.zero_le _⟩ ?_)
    rintro i h ⟨hs, hLg, hL1, hi⟩
    refine ai_seq (ai_seq (ai_reg ?_))
    iterate 4 refine st rfl ?_
    by_cases hlt : i < S
    case neg =>
      refine ai_cond (b := false) (by simp [evA, Env.get, Env.put, hlt]) (fun hb => by cases hb) fun _ => ?_
      refine ai_exit ?_
      obtain rfl : i = S := by omega
      exact ⟨rfl, (), le_cons rfl (le_cons rfl (le_cons rfl (le_cons rfl (le_cons rfl (le_cons rfl le_nil))))), hs⟩
    refine ai_cond (b := true) (by simp [evA, Env.get, Env.put, hlt]) (fun _ => ?_) fun hb => by cases hb
    refine ai_skip ?_
    have hgi : (w.map vI)[i]? = some (vI (100 + (((A + r) % K * S + i) % K : Nat))) := by simp [hwg i hlt]
    have hpi := hpl i
    generalize hp : ((A + r) % K * S + i) % K = p at hgi hpi
    refine ai_seq (ai_block ?_)
    refine ai_seq (ai_seq (ai_reg ?_))
    iterate 2 refine st rfl ?_
    refine st_iad rfl (by omega) ?_
    refine st_ld rfl (rd_of hLg (by rw [Int.toNat_natCast]; exact hgi)) ?_
    refine st_v (v2 := .bool false) rfl (congrArg Value.bool (by simp; omega)) ?_
    refine st rfl ?_
    iterate 2 refine stT rfl rfl rfl ?_
    refine stT rfl rfl (o_iad rfl (by omega)) ?_
    refine stT rfl rfl (o_ld rfl (rd_of hLg (by rw [Int.toNat_natCast]; exact hgi))) ?_
    refine stT rfl rfl rfl ?_
    refine stT rfl rfl (o_w rfl (by omega)) ?_
    refine stT (v := .bool false) rfl rfl (o_v rfl (congrArg Value.bool (by simp; omega))) ?_
    refine st rfl ?_
    refine ai_cond (b := false) rfl (fun hb => by cases hb) fun _ => ai_skip ?_
    refine ai_join (γ := Unit) (fun _ => [(7, vI K), (8, .slice (some ⟨I, 0, some 0⟩) K K), (10, .pointer (some ⟨O, 0, none⟩)), (11, vI M), (12, vI A), (13, vI r), (14, .slice (some ⟨Li, 0, some 0⟩) S S), (15, vI i)]) (fun _ h' => h = h') ?_ ?_
    · -- nobody twice
      refine ai_seq (ai_reg ?_)
      refine st rfl ?_
      refine ai_block (ai_loopE (γ := Nat) (fun j => [(7, vI K), (8, .slice (some ⟨I, 0, some 0⟩) K K), (10, .pointer (some ⟨O, 0, none⟩)), (11, vI M), (12, vI A), (13, vI r), (14, .slice (some ⟨Li, 0, some 0⟩) S S), (15, vI i), (16, vI j)]) (fun j h' => h = h' ∧ j ≤ i) (fun j => i - j) 0
        (le_cons rfl (le_cons rfl (le_cons rfl (le_cons rfl (le_cons rfl (le_cons rfl (le_cons rfl (le_cons rfl (le_cons rfl le_nil))))))))) ⟨rfl, Nat.zero_le _⟩ ?_)
      rintro j _ ⟨rfl, hj⟩
      refine ai_seq (ai_seq (ai_reg ?_))
      iterate 3 refine st rfl ?_
      by_cases hji : j < i
      case neg =>
        refine ai_cond (b := false) (by simp [evA, Env.get, Env.put, hji]) (fun hb => by cases hb) fun _ => ?_
        refine ai_exit ?_
        exact ⟨rfl, (), le_cons rfl (le_cons rfl (le_cons rfl (le_cons rfl (le_cons rfl (le_cons rfl (le_cons rfl (le_cons rfl le_nil))))))), rfl⟩
      refine ai_cond (b := true) (by simp [evA, Env.get, Env.put, hji]) (fun _ => ?_) fun hb => by cases hb
      refine ai_skip ?_
      have hgj : (w.map vI)[j]? = some (vI (100 + (((A + r) % K * S + j) % K : Nat))) := by simp [hwg j (by omega)]
      have hne : ((A + r) % K * S + j) % K ≠ p := by rw [← hp]; exact apart_at hS2 hji hlt
      generalize ((A + r) % K * S + j) % K = q at hgj hne
      refine ai_seq (ai_block ?_)
      refine ai_seq (ai_drw (by kernel_rfl) ?_)
      iterate 2 refine dr rfl ?_
      refine dr (o_iad rfl (by omega)) ?_
      refine dr (o_ld rfl (rd_of hLg (by rw [Int.toNat_natCast]; exact hgj))) ?_
      iterate 2 refine dr rfl ?_
      refine dr (o_iad rfl (by omega)) ?_
      refine dr (o_ld rfl (rd_of hLg (by rw [Int.toNat_natCast]; exact hgi))) ?_
      refine dr (v := .bool false) (o_v rfl (congrArg Value.bool (beq_eq_false_iff_ne.2 fun e => hne (by omega)))) ?_
      refine ai_cond (b := false) rfl (fun hb => by cases hb) fun _ => ai_skip ?_
      refine ai_reg ?_
      refine st rfl ?_
      refine st_w rfl (by omega) ?_
      refine st rfl ?_
      exact ⟨j + 1, le_cons rfl (le_cons rfl (le_cons rfl (le_cons rfl (le_cons rfl (le_cons rfl (le_cons rfl (le_cons rfl (le_cons (by simp [Env.get, Env.put]) le_nil)))))))), ⟨rfl, by omega⟩, by dsimp only; omega⟩
    rintro _ _ rfl
    -- one more
    have hofl : (bumps (ofR K S A r) ((List.range i).map fun i => ((A + r) % K * S + i) % K)).length = 60 := by rw [bumps_len, ofR_len]
    generalize hof : bumps (ofR K S A r) ((List.range i).map fun i => ((A + r) % K * S + i) % K) = of at hs hofl
    have hog : (of.map vI)[p]? = some (vI (of.getD p 0)) := by
      simp [List.getD_eq_getElem?_getD, show p < of.length by omega]
    have hbd : 0 ≤ of.getD p 0 ∧ of.getD p 0 ≤ 3660 := by
      rw [← hof, bumps_get i (fun t _ => by rw [ofR_len]; have := hpl t; omega), ofR_get (by omega) hK2]
      have h1 : sumN (fun t => if ((A + r) % K * S + t) % K = p then 1 else 0) i ≤ i * 1 := sumN_le fun t _ => by split <;> omega
      have h2 : sumN (fun r => sumN (fun i => if ((A + r) % K * S + i) % K = p then 1 else 0) S) r ≤ r * S := sumN_le fun t _ => by
        have : sumN (fun i => if ((A + t) % K * S + i) % K = p then 1 else 0) S ≤ S * 1 := sumN_le fun u _ => by split <;> omega
        omega
      have h3 : r * S ≤ 60 * 60 := Nat.mul_le_mul (by omega) (by omega)
      omega
    refine ai_reg ?_
    iterate 2 refine st rfl ?_
    refine st_iad rfl (by omega) ?_
    refine st_ld rfl (rd_of hLg (by rw [Int.toNat_natCast]; exact hgi)) ?_
    refine st_v (v2 := vI p) rfl (by rw [wrap_i64' (by omega) (by omega)]; congr 1; omega) ?_
    refine st_iaa rfl (by omega) ?_
    refine st_ld rfl (rd_of hs.cnt (by rw [Int.toNat_natCast]; exact hog)) ?_
    refine st_w rfl (by omega) ?_
    refine st_iaa rfl (by omega) ?_
    refine st_st (h' := h.put O ⟨(of.map vI).set p (vI (of.getD p 0 + 1)), true, 0⟩) rfl rfl (by rw [Int.toNat_natCast]; exact wr_of hs.cnt (by simp; omega) rfl) ?_
    refine ai_reg ?_
    refine st rfl ?_
    refine st_w rfl (by omega) ?_
    refine st rfl ?_
    refine ⟨i + 1, le_cons rfl (le_cons rfl (le_cons rfl (le_cons rfl (le_cons rfl (le_cons rfl (le_cons rfl (le_cons (by simp [Env.get, Env.put]) le_nil))))))), ⟨?_, by rw [put_get_ne _ _ hLO]; exact hLg, hL1, by omega⟩, by dsimp only; omega⟩
    have hb1 : bumps (ofR K S A r) ((List.range (i + 1)).map fun i => ((A + r) % K * S + i) % K) = bump of p := by
      rw [← hof, List.range_succ, List.map_append, List.map_cons, List.map_nil, hp]
      unfold bumps
      rw [List.foldl_append]
      rfl
    rw [hb1]
    refine ⟨⟨hs.ext.1, fun k hk => by rw [put_get_ne _ _ (by have := hs.o0; omega)]; exact hs.ext.2 k hk⟩, hs.i0, hs.o0, hs.il, hs.ol, by rw [put_get_ne _ _ hs.ne]; exact hs.ids, ?_, hs.ne⟩
    rw [put_get_same]
    unfold bump
    rw [List.map_set]
  rintro _ h hs
  have hall : ∀ j, j < K → ((ofR K S A K).map vI)[j]? = some (vI S) := by
    intro j hj
    have h1 := ofR_all (s := S) (a := A) hK2 hj
    have h2 := ofR_len K S A K
    rw [List.getD_eq_getElem?_getD, List.getElem?_eq_getElem (by omega)] at h1
    rw [List.getElem?_map, List.getElem?_eq_getElem (by omega)]
    simpa using h1
  refine ai_join (γ := Unit) (fun _ => []) (fun _ h' => h = h') ?_ ?_
  · refine ai_seq (ai_reg ?_)
    refine st rfl ?_
    refine ai_block (ai_loopE (γ := Nat) (fun j => [(7, vI K), (10, .pointer (some ⟨O, 0, none⟩)), (17, vI j)]) (fun j h' => h = h' ∧ j ≤ K) (fun j => K - j) 0 (le_cons rfl (le_cons rfl (le_cons rfl le_nil))) ⟨rfl, Nat.zero_le _⟩ ?_)
    rintro j _ ⟨rfl, hj⟩
    refine ai_seq (ai_seq (ai_reg ?_))
    iterate 3 refine st rfl ?_
    by_cases hlt : j < K
    case neg =>
      refine ai_cond (b := false) (by simp [evA, Env.get, Env.put, hlt]) (fun hb => by cases hb) fun _ => ?_
      refine ai_exit ?_
      exact ⟨rfl, (), le_nil, rfl⟩
    refine ai_cond (b := true) (by simp [evA, Env.get, Env.put, hlt]) (fun _ => ?_) fun hb => by cases hb
    refine ai_skip ?_
    refine ai_seq (ai_block ?_)
    refine ai_seq (ai_drw (by kernel_rfl) ?_)
    refine dr rfl ?_
    refine dr (o_iaa rfl (by omega)) ?_
    refine dr (o_ld rfl (rd_of hs.cnt (by rw [Int.toNat_natCast]; exact hall j hlt))) ?_
    refine dr (v := .bool false) (o_v rfl (congrArg Value.bool (by simp; omega))) ?_
    refine dr rfl ?_
    refine drT rfl rfl rfl ?_
    refine drT rfl rfl (o_iaa rfl (by omega)) ?_
    refine drT rfl rfl (o_ld rfl (rd_of hs.cnt (by rw [Int.toNat_natCast]; exact hall j hlt))) ?_
    refine drT rfl rfl (o_iaa rfl (by omega)) ?_
    refine drT rfl rfl (o_ld rfl (rd_of hs.cnt (hall 0 (by omega)))) ?_
    refine drT (v := .bool false) rfl rfl (o_v rfl (congrArg Value.bool (by simp))) ?_
    refine dr rfl ?_
    refine ai_cond (b := false) rfl (fun hb => by cases hb) fun _ => ai_skip ?_
    refine ai_reg ?_
    refine st rfl ?_
    refine st_w rfl (by omega) ?_
    refine st rfl ?_
    exact ⟨j + 1, le_cons rfl (le_cons rfl (le_cons (by simp [Env.get, Env.put]) le_nil)), ⟨rfl, by omega⟩, by dsimp only; omega⟩
  rintro _ _ rfl
  refine ai_seq (ai_reg ?_)
  refine stC rfl ((told_ok h).mono ?_)
  rintro v h' ⟨rfl, hx'⟩
  refine st rfl ?_
  refine ai_ret ?_
  exact end_one rfl ⟨rfl, hs.ext.trans hx'⟩
end Go.Proofs.YtcdfoicebcmlaaaW.Am
