/- The two queues side by side: what each call answers, and what keeps them alike. -/
import Derived.Test.YtcdfoicebcmlaaaQueueM
namespace Go.Proofs.YtcdfoicebcmlaaaW.Am
open Go Go.RowKit
def putR (depth last : Int) (n : Nat) (id t : Int) : Int := if id < 0 ∨ t < last then 1 else if depth ≤ n then 6 else 0
def takeR : List (Int × Int) → Value
  | [] => .tuple #[nI 0, .bool false]
  | p :: _ => .tuple #[nI p.1, .bool true]
def depR (n : Int) : Int := if n < 0 ∨ 200 < n then 1 else 0
theorem put_any {h : Hp} {q j : Nat} {depth last : Int} {l : List (Int × Int)} (a : QA h q j depth last l) (id t : Int) (hb : l.length ≤ 1000) :
    ACall PQ 23 [ptr q, nI id, nI t] h (fun v h' => v = nI (putR depth last l.length id t) ∧ ∃ j', QA h' q j' depth (if putR depth last l.length id t = 0 then t else last) (if putR depth last l.length id t = 0 then l ++ [(id, t)] else l) ∧ Mod q j h h' ∧ (j' = j ∨ h.nx ≤ j')) := by
  by_cases h1 : id < 0 ∨ t < last
  · have e : putR depth last l.length id t = 1 := by simp [putR, h1]
    rw [e]
    refine (put_arg a h1).mono ?_
    rintro v _ ⟨rfl, rfl⟩
    exact ⟨rfl, j, a, Mod.refl _ _ _, .inl rfl⟩
  · by_cases h2 : depth ≤ l.length
    · have e : putR depth last l.length id t = 6 := by simp only [putR, if_neg h1, if_pos h2]
      rw [e]
      refine (put_full a (by omega) (by omega) h2).mono ?_
      rintro v _ ⟨rfl, rfl⟩
      exact ⟨rfl, j, a, Mod.refl _ _ _, .inl rfl⟩
    · have e : putR depth last l.length id t = 0 := by simp only [putR, if_neg h1, if_neg h2]
      rw [e]
      refine (put_ok a (by omega) (by omega) (by omega) hb).mono ?_
      rintro v h' ⟨rfl, j', a', m, hj⟩
      exact ⟨rfl, j', a', m, .inr hj⟩
theorem rput_any {h : Hp} {q j : Nat} {depth last lastm : Int} {p0 : Bool} {l : List (Int × Int)} (a : RQ h q j depth lastm p0 l) (id t : Int) (hb : l.length ≤ 1000) (ht : -9223372036854775808 ≤ t) (hp : (p0 = true ∧ lastm = last) ∨ (p0 = false ∧ last = -9223372036854775808)) :
    ACall PQ 29 [ptr q, nI id, nI t] h (fun v h' => v = nI (putR depth last l.length id t) ∧ ∃ j' lastm' p0', RQ h' q j' depth lastm' p0' (if putR depth last l.length id t = 0 then l ++ [(id, t)] else l) ∧ Mod q j h h' ∧ (j' = j ∨ h.nx ≤ j') ∧
      ((p0' = true ∧ lastm' = (if putR depth last l.length id t = 0 then t else last)) ∨ (p0' = false ∧ (if putR depth last l.length id t = 0 then t else last) = -9223372036854775808))) := by
  by_cases h1 : id < 0 ∨ t < last
  · have e : putR depth last l.length id t = 1 := by simp [putR, h1]
    rw [e]
    refine (rput_arg a ?_).mono ?_
    · rcases h1 with h1 | h1
      · exact .inl h1
      · rcases hp with ⟨hp, hl⟩ | ⟨hp, hl⟩
        · exact .inr ⟨hp, by omega⟩
        · omega
    rintro v _ ⟨rfl, rfl⟩
    exact ⟨rfl, j, lastm, p0, a, Mod.refl _ _ _, .inl rfl, hp⟩
  · have hle : p0 = true → lastm ≤ t := by
      intro h
      rcases hp with ⟨_, hl⟩ | ⟨hp, _⟩
      · omega
      · rw [h] at hp; cases hp
    by_cases h2 : depth ≤ l.length
    · have e : putR depth last l.length id t = 6 := by simp only [putR, if_neg h1, if_pos h2]
      rw [e]
      refine (rput_full a (by omega) hle h2).mono ?_
      rintro v _ ⟨rfl, rfl⟩
      exact ⟨rfl, j, lastm, p0, a, Mod.refl _ _ _, .inl rfl, hp⟩
    · have e : putR depth last l.length id t = 0 := by simp only [putR, if_neg h1, if_neg h2]
      rw [e]
      refine (rput_ok a (by omega) hle (by omega) hb).mono ?_
      rintro v h' ⟨rfl, j', a', m, hj⟩
      exact ⟨rfl, j', t, true, a', m, .inr hj, .inl ⟨rfl, rfl⟩⟩
theorem take_any {h : Hp} {q j : Nat} {depth last : Int} {l : List (Int × Int)} (a : QA h q j depth last l) : ACall PQ 26 [ptr q] h (fun v h' => v = takeR l ∧ QA h' q j depth last l.tail ∧ Mod q j h h') := by
  cases l with
  | nil => refine (take_nil h a).mono ?_; rintro v _ ⟨rfl, rfl⟩; exact ⟨rfl, a, Mod.refl _ _ _⟩
  | cons p l => exact take_ok h a
theorem rtake_any {h : Hp} {q j : Nat} {depth last : Int} {p0 : Bool} {l : List (Int × Int)} (a : RQ h q j depth last p0 l) : ACall PQ 30 [ptr q] h (fun v h' => v = takeR l ∧ RQ h' q j depth last p0 l.tail ∧ Mod q j h h') := by
  cases l with
  | nil => refine (rtake_nil h a).mono ?_; rintro v _ ⟨rfl, rfl⟩; exact ⟨rfl, a, Mod.refl _ _ _⟩
  | cons p l => exact rtake_ok h a
theorem depth_any {h : Hp} {q j : Nat} {depth last : Int} {l : List (Int × Int)} (a : QA h q j depth last l) (n : Int) : ACall PQ 33 [ptr q, nI n] h (fun v h' => v = nI (depR n) ∧ QA h' q j (if depR n = 0 then n else depth) last l ∧ Mod q j h h') := by
  by_cases h1 : n < 0 ∨ 200 < n
  · have e : depR n = 1 := by simp [depR, h1]
    rw [e]
    refine (depth_no h h1).mono ?_
    rintro v _ ⟨rfl, rfl⟩
    exact ⟨rfl, a, Mod.refl _ _ _⟩
  · have e : depR n = 0 := by simp only [depR, if_neg h1]
    rw [e]
    exact depth_ok h a (by omega) (by omega)
theorem rdepth_any {h : Hp} {q j : Nat} {depth last : Int} {p0 : Bool} {l : List (Int × Int)} (a : RQ h q j depth last p0 l) (n : Int) : ACall PQ 34 [ptr q, nI n] h (fun v h' => v = nI (depR n) ∧ RQ h' q j (if depR n = 0 then n else depth) last p0 l ∧ Mod q j h h') := by
  by_cases h1 : n < 0 ∨ 200 < n
  · have e : depR n = 1 := by simp [depR, h1]
    rw [e]
    refine (rdepth_no h h1).mono ?_
    rintro v _ ⟨rfl, rfl⟩
    exact ⟨rfl, a, Mod.refl _ _ _⟩
  · have e : depR n = 0 := by simp only [depR, if_neg h1]
    rw [e]
    exact rdepth_ok h a (by omega) (by omega)
theorem QA.mod {h h' : Hp} {q j m j2 : Nat} {depth last : Int} {l : List (Int × Int)} (a : QA h q j depth last l) (x : Mod m j2 h h') (h1 : q ≠ m) (h2 : q ≠ j2) (h3 : j ≠ m) (h4 : j ≠ q → j ≠ j2) : QA h' q j depth last l := by
  obtain ⟨hq, hj, s, hg, hs⟩ := a
  exact ⟨Nat.lt_of_lt_of_le hq x.1, Nat.lt_of_lt_of_le hj x.1, s, (x.2 q hq h1 h2).trans hg, hs.keep fun e => x.2 j hj h3 (h4 e)⟩
theorem RQ.mod {h h' : Hp} {q j m j2 : Nat} {depth last : Int} {p0 : Bool} {l : List (Int × Int)} (a : RQ h q j depth last p0 l) (x : Mod m j2 h h') (h1 : q ≠ m) (h2 : q ≠ j2) (h3 : j ≠ m) (h4 : j ≠ q → j ≠ j2) : RQ h' q j depth last p0 l := by
  obtain ⟨hq, hj, s, hg, hs⟩ := a
  exact ⟨Nat.lt_of_lt_of_le hq x.1, Nat.lt_of_lt_of_le hj x.1, s, (x.2 q hq h1 h2).trans hg, hs.keep fun e => x.2 j hj h3 (h4 e)⟩
theorem RQ.ext {h h' : Hp} {q j : Nat} {depth last : Int} {p0 : Bool} {l : List (Int × Int)} (a : RQ h q j depth last p0 l) (x : Ext h h') : RQ h' q j depth last p0 l := by
  obtain ⟨hq, hj, s, hg, hs⟩ := a
  exact ⟨Nat.lt_of_lt_of_le hq x.1, Nat.lt_of_lt_of_le hj x.1, s, (x.2 q hq).trans hg, hs.keep fun e => x.2 j hj⟩
/-- Who came earlier waits longer. -/
theorem late_mono {now age s t : Int} (hn : -9223372036854775808 ≤ now ∧ now ≤ 9223372036854775807) (hs : -9223372036854775808 ≤ s ∧ s ≤ 9223372036854775807) (ht : -9223372036854775808 ≤ t ∧ t ≤ 9223372036854775807) (hst : s ≤ t) (h : lateB now age t = true) : lateB now age s = true := by
  have key : ∀ x, -9223372036854775808 ≤ x ∧ x ≤ 9223372036854775807 → ¬ now < x → IntKind.u64.wrap (IntKind.u64.wrap now - IntKind.u64.wrap x) = now - x := by
    intro x hx hnx
    unfold IntKind.wrap
    simp only [IntKind.bits, IntKind.signed]
    simp
    omega
  unfold lateB at h ⊢
  by_cases h1 : now < t
  · simp [h1] at h
  · have h2 : ¬ now < s := by omega
    rw [key t ht h1] at h
    rw [key s hs h2]
    simp only [h1, h2, decide_false, Bool.false_or, Bool.not_eq_true', decide_eq_false_iff_not] at h ⊢
    omega
/-- In the order of coming, each within 64 bits, none later than the last. -/
def Srt (last : Int) (l : List (Int × Int)) : Prop := l.Pairwise (fun a b => a.2 ≤ b.2) ∧ ∀ p ∈ l, p.2 ≤ last ∧ -9223372036854775808 ≤ p.2 ∧ p.2 ≤ 9223372036854775807
theorem Srt.late {last now age : Int} {l : List (Int × Int)} (a : Srt last l) (hn : -9223372036854775808 ≤ now ∧ now ≤ 9223372036854775807) {d : Nat} (h1 : ∀ p ∈ l.take d, lateB now age p.2 = true) (h2 : ∀ p, l[d]? = some p → lateB now age p.2 = false) : ∀ i p, l[i]? = some p → lateB now age p.2 = decide (i < d) := by
  intro i p hi
  by_cases hid : i < d
  · rw [decide_eq_true hid]
    exact h1 p (List.mem_of_getElem? (i := i) (by rw [List.getElem?_take, if_pos hid]; exact hi))
  · rw [decide_eq_false hid]
    obtain ⟨hl, rfl⟩ := List.getElem?_eq_some_iff.1 hi
    have hd : l[d]? = some l[d] := by simp
    by_cases e : i = d
    · subst e; exact h2 _ hd
    · cases hc : lateB now age l[i].2 with
      | false => rfl
      | true =>
        have hle := List.pairwise_iff_getElem.1 a.1 d i (by omega) hl (by omega)
        have := late_mono hn (a.2 _ (List.getElem_mem _)).2 (a.2 _ (List.getElem_mem _)).2 hle hc
        rw [h2 _ hd] at this
        cases this
theorem Srt.drop {last : Int} {l : List (Int × Int)} (a : Srt last l) (d : Nat) : Srt last (l.drop d) := ⟨a.1.sublist (List.drop_sublist d l), fun p hp => a.2 p (List.mem_of_mem_drop hp)⟩
theorem Srt.push {last id t : Int} {l : List (Int × Int)} (a : Srt last l) (h : last ≤ t) (ht : -9223372036854775808 ≤ t ∧ t ≤ 9223372036854775807) : Srt t (l ++ [(id, t)]) := by
  refine ⟨List.pairwise_append.2 ⟨a.1, by simp, fun p hp q hq => ?_⟩, fun p hp => ?_⟩
  · rw [List.mem_singleton] at hq
    subst hq
    have := (a.2 p hp).1
    dsimp only
    omega
  · rw [List.mem_append, List.mem_singleton] at hp
    rcases hp with hp | rfl
    · have := a.2 p hp; omega
    · exact ⟨Int.le_refl _, ht⟩
section
variable {P : Program} {CT : CTy} {env : Env} {h : Hp} {Q : Env → Hp → Prop} {d : Option Nat} {xs : List Operand} {vs : List Value}
/-- In a region whose order is open: a call, behind which reads are made again. -/
theorem drCR {ix : Nat} {eff : Bool} {f : FuncId} {re : List In} {L : List DE} (e : mapE env xs = some vs) (c : CT f vs h fun v h' => allAgain re env h' ∧ wpD P CT L (env.put d v) h' Q) : wpD P CT (⟨ix, ⟨d, none, .call f xs⟩, eff, re⟩ :: L) env h Q := by
  unfold wpD wpIn
  simp only [wanted, e]
  exact c
theorem ag_ld {d t i o : Nat} {v : Value} (g1 : env.get t = some (.pointer (some ⟨i, o, none⟩))) (g2 : env.get d = some v) (hr : h.rd i o 1 = some [v]) : again ⟨some d, none, .op .ld1 [.tmp t]⟩ env h := by
  unfold again
  simp only [wanted, mapE, evA, g1, g2, stepK, hr]
end
end Go.Proofs.YtcdfoicebcmlaaaW.Am
