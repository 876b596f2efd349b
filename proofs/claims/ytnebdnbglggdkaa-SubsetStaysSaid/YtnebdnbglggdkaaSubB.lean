/- Subsets over abstract heaps: the two sorts. -/
import Derived.Test.YtnebdnbglggdkaaSubA
import Derived.Test.YtnebdnbglggdkaaAmSo
import Derived.Test.YtnebdnbglggdkaaSortLay
import Derived.Sort.LotA
namespace Go.Proofs.YtnebdnbglggdkaaW.Am
open Go Go.RowKit
theorem cmpF_lt (a b : Int) : cmpF a b < 0 ↔ a < b := by unfold cmpF; split <;> (try split) <;> omega
theorem cmpF_0 (a b : Int) : cmpF a b = 0 ↔ a = b := by unfold cmpF; split <;> (try split) <;> omega
/-- Does one stand ahead of another? -/
def ahF (x y : Int × Int) : Prop := scF x.1 < scF y.1 ∨ (scF x.1 = scF y.1 ∧ (x.1 < y.1 ∨ (x.1 = y.1 ∧ x.2 < y.2)))
instance (x y : Int × Int) : Decidable (ahF x y) := by unfold ahF; infer_instance
theorem befF_lt (x y : Int × Int) : befF x y < 0 ↔ ahF x y := by
  have h1 := cmpF_lt (scF x.1) (scF y.1)
  have h2 := cmpF_0 (scF x.1) (scF y.1)
  have h3 := cmpF_lt x.1 y.1
  have h4 := cmpF_0 x.1 y.1
  have h5 := cmpF_lt x.2 y.2
  unfold befF orF ahF
  split
  · omega
  · split <;> omega
theorem ltB (x y : Int × Int) : Go.Proofs.ltOf befF x y = decide (ahF x y) := by
  unfold Go.Proofs.ltOf
  exact decide_eq_decide.2 (befF_lt x y)
theorem swoB : Go.Sort.SWO (Go.Proofs.ltOf befF) where
  irrefl x := by rw [ltB]; simp [ahF]
  trans x y z h1 h2 := by
    rw [ltB, decide_eq_true_eq] at *
    unfold ahF at *
    omega
  ntrans x y z h1 h2 := by
    rw [ltB, decide_eq_false_iff_not] at *
    unfold ahF at *
    omega
def atF (x y : Int × Int) : Int := cmpF x.2 y.2
theorem ltA (x y : Int × Int) : Go.Proofs.ltOf atF x y = decide (x.2 < y.2) := by
  unfold Go.Proofs.ltOf atF
  exact decide_eq_decide.2 (cmpF_lt _ _)
theorem swoA : Go.Sort.SWO (Go.Proofs.ltOf atF) where
  irrefl x := by rw [ltA]; simp
  trans x y z h1 h2 := by rw [ltA] at *; simp at *; omega
  ntrans x y z h1 h2 := by rw [ltA] at *; simp at *; omega
theorem on2_flat (x : Int × Int) : flat (on2 x) = true := rfl
/-- What a sort leaves, by lists. -/
theorem perm_of {l l' : List (Int × Int)} (h : Go.Sort.PermIn 0 l.length l.toArray l'.toArray) (hl : l'.length = l.length) : l'.Perm l := by
  have h3 := h.2.2
  rw [Array.toList_extract, Array.toList_extract, List.extract_eq_take_drop, List.extract_eq_take_drop] at h3
  simpa [List.take_of_length_le, hl] using h3
theorem sorted_of {lt : Int × Int → Int × Int → Bool} {l : List (Int × Int)} {n : Nat} (h : Go.Sort.SortedIn lt 0 n l.toArray) (hl : l.length = n) : l.Pairwise fun x y => lt y x = false := by
  rw [List.pairwise_iff_getElem]
  intro i j hi hj hij
  have := h i j (Nat.zero_le _) hij (by omega)
  simpa [getElem!_pos, hi, hj] using this
theorem sortB_ok (h : Hp) {j c : Nat} {l : List (Int × Int)} {tl : List Value} (hg : h.get j = some ⟨l.map on2 ++ tl, true, 1⟩) (hsz : l.length < 1000000) :
    ACall PU 57 [.slice (some ⟨j, 0, some 0⟩) l.length c, .func (.func 58) #[] #[]] h (fun _ g' => ∃ l' : List (Int × Int), l'.Perm l ∧ (l'.Pairwise fun x y => ¬ ahF y x) ∧ g' = h.put j ⟨l'.map on2 ++ tl, true, 1⟩) := by
  have eg : ∀ args w, (callFunc 58 args).run PU w = .ok (.enter 58 args) w := enters_of Go.Proofs.Try.func58 (by kernel_rfl) rfl
  have he : Enters PU 57 := enters_comp Go.Proofs.Try.func57 c57
  refine (sort_br Go.Proofs.Try.sortA on2 (fun _ => rfl) on2_flat befF swoB 58 eg (fun W x y => ?_) he h hg (by omega)).mono ?_
  · exact unbridge (x := nI (befF x y)) rfl rfl (before_ok x y) trivial W (fun _ _ _ => trivial) trivial
  · rintro v g' ⟨l', hp, hs, hl, rfl⟩
    exact ⟨l', perm_of hp hl, (sorted_of hs hl).imp fun h => by rw [ltB] at h; simpa using h, rfl⟩
theorem sortA_ok (h : Hp) {j c : Nat} {l : List (Int × Int)} {tl : List Value} (hg : h.get j = some ⟨l.map on2 ++ tl, true, 1⟩) (hsz : l.length < 1000000) :
    ACall PU 57 [.slice (some ⟨j, 0, some 0⟩) l.length c, .func (.func 59) #[] #[]] h (fun _ g' => ∃ l' : List (Int × Int), l'.Perm l ∧ (l'.Pairwise fun x y => ¬ y.2 < x.2) ∧ g' = h.put j ⟨l'.map on2 ++ tl, true, 1⟩) := by
  have eg : ∀ args w, (callFunc 59 args).run PU w = .ok (.enter 59 args) w := enters_of Go.Proofs.Try.func59 (by kernel_rfl) rfl
  have he : Enters PU 57 := enters_comp Go.Proofs.Try.func57 c57
  refine (sort_br Go.Proofs.Try.sortA on2 (fun _ => rfl) on2_flat atF swoA 59 eg (fun W x y => ?_) he h hg (by omega)).mono ?_
  · exact unbridge (x := nI (cmpF x.2 y.2)) rfl rfl (place_ok x y) trivial W (fun _ _ _ => trivial) trivial
  · rintro v g' ⟨l', hp, hs, hl, rfl⟩
    exact ⟨l', perm_of hp hl, (sorted_of hs hl).imp fun h => by rw [ltA] at h; simpa using h, rfl⟩
end Go.Proofs.YtnebdnbglggdkaaW.Am
