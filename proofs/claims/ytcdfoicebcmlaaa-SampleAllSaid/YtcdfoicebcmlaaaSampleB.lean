/- The contract of sample.Which over abstract heaps. -/
import Derived.Test.YtcdfoicebcmlaaaSampleA
namespace Go.Proofs.YtcdfoicebcmlaaaW.Am
open Go Go.RowKit

def kF (n most : Int) : Int := if 0 < most ∧ most < sizeF n then most else sizeF n
def posF (n most round : Int) (j : Nat) : Int := (max round 0 % n * kF n most + j) % n
def whichF (ids : List Int) (most round : Int) : List Int := (List.range (kF ids.length most).toNat).map fun j => ids.getD (posF ids.length most round j).toNat 0

theorem sizeF_bd {n : Int} (h : 1 ≤ n) : 1 ≤ sizeF n ∧ sizeF n ≤ n := by
  unfold sizeF
  have h1 : 0 ≤ (16 * n + n + 12) / (n + 13) := Int.ediv_nonneg (by omega) (by omega)
  have h2 : (16 * n + n + 12) / (n + 13) ≤ 17 := by
    have : (16 * n + n + 12) / (n + 13) < 18 := Int.ediv_lt_of_lt_mul (by omega) (by omega)
    omega
  split
  · omega
  · split
    · omega
    · split
      · omega
      · rw [Int.max_def]
        split
        · refine ⟨by omega, ?_⟩
          by_cases h17 : 17 ≤ n
          · omega
          · have hn : n = 4 ∨ n = 5 ∨ n = 6 ∨ n = 7 ∨ n = 8 ∨ n = 9 ∨ n = 10 ∨ n = 11 ∨ n = 12 ∨ n = 13 ∨ n = 14 ∨ n = 15 ∨ n = 16 := by omega
            rcases hn with rfl | rfl | rfl | rfl | rfl | rfl | rfl | rfl | rfl | rfl | rfl | rfl | rfl <;> decide
        · omega
theorem kF_bd {n most : Int} (h : 1 ≤ n) : 1 ≤ kF n most ∧ kF n most ≤ n := by
  have := sizeF_bd h
  unfold kF
  split <;> omega

theorem which_ok (ids : List Int) (most round : Int) (h : Hp) {i o c : Nat} {sp : Option Nat} (hi : i < h.nx) (hr : h.rd i o ids.length = some (ids.map (Value.int .i64))) (h1 : 1 ≤ ids.length) (h2 : ids.length ≤ 1000) :
    ACall PP 21 [.slice (some ⟨i, o, sp⟩) ids.length c, .int .i64 most, .int .i64 round] h (fun v h' => Ext h h' ∧ Ow h.nx h' v ((whichF ids most round).map (Value.int .i64))) := by
  have hs := sizeF_bd (n := ids.length) (by omega)
  have hk := kF_bd (n := ids.length) (most := most) (by omega)
  refine acall Go.Proofs.Try.func21 c21 (by simp [ir21]) ?_
  unfold ir21
  dsimp only
  refine ai_seq (ai_reg ?_)
  refine st rfl ?_
  refine ai_seq (ai_reg ?_)
  iterate 3 refine st rfl ?_
  refine ai_seq (ai_reg ?_)
  refine st rfl ?_
  refine stC rfl ((size_ok ids.length h (by omega) (by omega)).mono ?_)
  rintro v h' ⟨rfl, rfl⟩
  refine st rfl ?_
  refine ai_join (γ := Unit) (fun _ => [(0, .slice (some ⟨i, o, sp⟩) ids.length c), (2, .int .i64 round), (7, .int .i64 ids.length), (8, .int .i64 (kF ids.length most))]) (fun _ h' => h = h') ?_ ?_
  · by_cases hm : 0 < most
    · refine ai_seq (ai_reg ?_)
      refine st rfl ?_
      refine st_v (v2 := .bool true) rfl (by simp [hm]) ?_
      refine st rfl ?_
      iterate 3 refine stT rfl rfl rfl ?_
      refine st rfl ?_
      refine ai_cond (b := decide (most < sizeF ids.length)) rfl ?_ ?_
      · intro hb
        simp at hb
        refine ai_reg ?_
        iterate 2 refine st rfl ?_
        exact ⟨rfl, (), le_cons rfl (le_cons rfl (le_cons rfl (le_cons (by simp [kF, hm, hb]; rfl) le_nil))), rfl⟩
      · intro hb
        simp at hb
        refine ai_skip ?_
        exact ⟨rfl, (), le_cons rfl (le_cons rfl (le_cons rfl (le_cons (by simp [kF, show ¬ most < sizeF ids.length by omega]; rfl) le_nil))), rfl⟩
    · refine ai_seq (ai_reg ?_)
      refine st rfl ?_
      refine st_v (v2 := .bool false) rfl (by simp; omega) ?_
      refine st rfl ?_
      iterate 3 refine stF rfl rfl ?_
      refine st rfl ?_
      refine ai_cond (b := false) rfl (fun hb => by cases hb) ?_
      intro _
      refine ai_skip ?_
      exact ⟨rfl, (), le_cons rfl (le_cons rfl (le_cons rfl (le_cons (by simp [kF, hm]; rfl) le_nil))), rfl⟩
  rintro _ _ rfl
  refine ai_seq (ai_reg ?_)
  refine st rfl ?_
  refine ai_join (γ := Value) (fun v => [(9, v)]) (fun v h' => Ext h h' ∧ Ow h.nx h' v ((whichF ids most round).map (Value.int .i64))) ?_ ?_
  · refine ai_seq (ai_reg ?_)
    iterate 2 refine st rfl ?_
    refine ai_block (ai_loopE (γ := Nat × Value) (fun g => [(0, .slice (some ⟨i, o, sp⟩) ids.length c), (2, .int .i64 round), (7, .int .i64 ids.length), (8, .int .i64 (kF ids.length most)), (9, g.2), (26, .int .i64 (kF ids.length most)), (27, .int .i64 g.1)])
      (fun g h' => Ext h h' ∧ Ow h.nx h' g.2 (((whichF ids most round).take g.1).map (Value.int .i64)) ∧ (g.1 : Int) ≤ kF ids.length most) (fun g => (kF ids.length most).toNat - g.1) (0, .slice none 0 0)
      (le_cons rfl (le_cons rfl (le_cons rfl (le_cons rfl (le_cons rfl (le_cons rfl (le_cons rfl le_nil))))))) ⟨Ext.refl h, Ow.nil _ _, by omega⟩ ?_)
    rintro ⟨j, v⟩ h' ⟨hx, how, hj⟩
    dsimp only at how hj ⊢
    refine ai_seq (ai_reg ?_)
    refine st rfl ?_
    by_cases hlt : (j : Int) < kF ids.length most
    case neg =>
      refine ai_seq (ai_cond (b := false) (by simp [evA, Env.get, Env.put, hlt]) (fun hb => by cases hb) fun _ => ?_)
      refine ai_exit ?_
      have hjk : (whichF ids most round).take j = whichF ids most round := List.take_of_length_le (by simp [whichF]; omega)
      rw [hjk] at how
      exact ⟨rfl, v, le_cons rfl le_nil, hx, how⟩
    refine ai_seq (ai_cond (b := true) (by simp [evA, Env.get, Env.put, hlt]) (fun _ => ?_) fun hb => by cases hb)
    refine ai_skip ?_
    refine ai_seq (ai_block ?_)
    refine ai_seq (ai_reg ?_)
    iterate 2 refine st rfl ?_
    refine ai_seq (ai_reg ?_)
    have hq0 : 0 ≤ max round 0 % (ids.length : Int) := Int.emod_nonneg _ (by omega)
    have hq1 : max round 0 % (ids.length : Int) < ids.length := Int.emod_lt_of_pos _ (by omega)
    have hqk0 : 0 ≤ max round 0 % (ids.length : Int) * kF ids.length most := Int.mul_nonneg hq0 (by omega)
    have hqk : max round 0 % (ids.length : Int) * kF ids.length most ≤ 1000 * 1000 := Int.mul_le_mul (by omega) (by omega) (by omega) (by omega)
    refine st rfl ?_
    refine st_v (v2 := .int .i64 (max round 0)) rfl (by simp [Int.max_def]; split <;> omega) ?_
    refine st rfl ?_
    refine st_rem rfl (by omega) (by omega) ?_
    refine st rfl ?_
    refine st_w rfl (by omega) ?_
    refine st rfl ?_
    refine st_w rfl (by omega) ?_
    refine st rfl ?_
    refine st_rem rfl (by omega) (by omega) ?_
    refine st rfl ?_
    have hp0 : 0 ≤ posF ids.length most round j := Int.emod_nonneg _ (by omega)
    have hp1 : posF ids.length most round j < ids.length := Int.emod_lt_of_pos _ (by omega)
    have hrd := rd_at ((hx.rd (o := o) (n := ids.length) hi).trans hr) (x := (posF ids.length most round j).toNat) (by omega)
    obtain ⟨hl, hrd⟩ := hrd
    rw [List.getElem_map] at hrd
    refine ai_seq (ai_reg ?_)
    iterate 2 refine st rfl ?_
    refine st_iad rfl ⟨hp0, hp1⟩ ?_
    refine st_ld rfl (by rw [Nat.mul_one]; exact hrd) ?_
    iterate 7 refine st rfl ?_
    refine ai_seq (ai_reg ?_)
    refine st rfl ?_
    refine ai_cond (b := true) rfl (fun _ => ?_) fun hb => by cases hb
    refine ai_reg ?_
    iterate 2 refine st rfl ?_
    refine st (v := .slice (some ⟨h'.nx, 0, none⟩) 1 1) (h' := h'.new ⟨[.int .i64 (ids[(posF ids.length most round j).toNat]'(by simpa using hl))], true, 1⟩) rfl ?_
    have hlen : (((whichF ids most round).take j).map (Value.int .i64)).length ≤ 1000 := by simp [whichF]; omega
    obtain ⟨s', h2, hst, how2, hx2⟩ := how.push (e := 3) (e2 := 1) (bytes := 8) rfl hx (u := .int .i64 (ids[(posF ids.length most round j).toNat]'(by simpa using hl))) rfl (by omega) (by omega)
    refine st (v := s') (h' := h2) hst ?_
    refine st rfl ?_
    refine ai_reg ?_
    refine st_w rfl (by omega) ?_
    refine st rfl ?_
    refine ⟨(j + 1, s'), le_cons rfl (le_cons rfl (le_cons rfl (le_cons rfl (le_cons rfl (le_cons rfl (le_cons (by simp [Env.get, Env.put]) le_nil)))))), ⟨hx2, ?_, by dsimp only; omega⟩, by dsimp only; omega⟩
    have hjl : j < (whichF ids most round).length := by simp [whichF]; omega
    have : (whichF ids most round).take (j + 1) = (whichF ids most round).take j ++ [ids[(posF ids.length most round j).toNat]'(by simpa using hl)] := by
      rw [List.take_succ_eq_append_getElem hjl]
      congr 2
      simp only [whichF, List.getElem_map, List.getElem_range]
      rw [List.getD_eq_getElem?_getD, List.getElem?_eq_getElem (by simpa using hl)]
      rfl
    rw [this]
    simpa using how2
  · rintro v h' ⟨hx, how⟩
    refine ai_seq (ai_reg ?_)
    iterate 2 refine st rfl ?_
    refine ai_ret ?_
    exact end_one rfl ⟨hx, how⟩
end Go.Proofs.YtcdfoicebcmlaaaW.Am
