/- A row of steps among a law's arguments, opened. -/
import Derived.Test.YtcdfoicebcmlaaaQueueO
import Derived.WalkKit
import Derived.ProofKit
import Derived.OpenShut
import Derived.ShutString
import Derived.ChangeOld
import Derived.Below
import Derived.SizedLaws
namespace Go.Proofs.YtcdfoicebcmlaaaW.Am
open Go Go.RowKit
theorem get_of_cut {cs : List Value} {j : Nat} {v : Value} (e : (cs.drop j).take 1 = [v]) : cs[j]? = some v := by
  have := congrArg (fun l => l[0]?) e
  simpa [List.getElem?_take, List.getElem?_drop] using this
theorem inR_of {x : Int} (h : (Lit.int .i64 x).wf = true) : InR x := by
  unfold Lit.wf at h
  rw [Bool.and_eq_true] at h
  have h1 := of_decide_eq_true h.1
  have h2 := of_decide_eq_true h.2
  have e1 : IntKind.i64.min = -9223372036854775808 := by decide
  have e2 : IntKind.i64.max = 9223372036854775807 := by decide
  rw [e1] at h1
  rw [e2] at h2
  exact ⟨h1, h2⟩
def zOf (W : World) (a : Addr) (c : Nat) : Int := match W.cell? (a.add c) with | some (.int _ x) => x | _ => 0
def zsOf (W : World) (a : Addr) (len : Nat) : List Int := (List.range (len * 5)).map (zOf W a)
def usOf (W : World) (a : Addr) (len : Nat) : List O5 := (List.range len).map fun i => (zOf W a (i * 5), zOf W a (i * 5 + 1), zOf W a (i * 5 + 2), zOf W a (i * 5 + 3), zOf W a (i * 5 + 4))
theorem zs_cell {W : World} {a : Addr} {len : Nat} (hc : ∀ c, c < len * 5 → ∃ x, InR x ∧ W.cell? (a.add c) = some (.int .i64 x)) (i : Nat) (hi : i < (zsOf W a len).length) : W.cell? (a.add i) = some (.int .i64 ((zsOf W a len).getD i 0)) := by
  have hi2 : i < len * 5 := by simpa [zsOf] using hi
  obtain ⟨x, _, e⟩ := hc i hi2
  rw [e]
  simp [zsOf, List.getD_eq_getElem?_getD, hi2, zOf, e]
theorem us_in {W : World} {a : Addr} {len : Nat} (hc : ∀ c, c < len * 5 → ∃ x, InR x ∧ W.cell? (a.add c) = some (.int .i64 x)) : ∀ p ∈ usOf W a len, InR p.2.2.2.1 := by
  intro p hp
  obtain ⟨i, hi, rfl⟩ := List.mem_map.1 hp
  rw [List.mem_range] at hi
  obtain ⟨x, hx, e⟩ := hc (i * 5 + 3) (by omega)
  simp only [zOf, e]
  exact hx
theorem us_rd {W : World} {a : Addr} {len cap : Nat} : Rd5 (roHp ((zsOf W a len).map nI)) (.slice (some ⟨0, 0, none⟩) len cap) (usOf W a len) := by
  refine .inr ⟨0, 0, none, cap, by simp [usOf], fun x p hx => ?_⟩
  have hxl : x < len := by have := (List.getElem?_eq_some_iff.1 hx).1; simpa [usOf] using this
  have hp : p = (zOf W a (x * 5), zOf W a (x * 5 + 1), zOf W a (x * 5 + 2), zOf W a (x * 5 + 3), zOf W a (x * 5 + 4)) := by simpa [usOf, hxl] using hx.symm
  subst hp
  unfold Hp.rd
  simp only [roHp, if_true, Nat.zero_add]
  rw [if_pos (by simp [zsOf]; omega)]
  congr 1
  refine List.ext_getElem (by simp [zsOf, o5]; omega) fun i h1 h2 => ?_
  have h5 : i < 5 := by simpa [o5] using h2
  have : i = 0 ∨ i = 1 ∨ i = 2 ∨ i = 3 ∨ i = 4 := by omega
  rcases this with rfl | rfl | rfl | rfl | rfl <;> simp [zsOf, o5]
theorem add_add (a : Addr) (x y : Nat) : (a.add x).add y = a.add (x + y) := by
  by_cases hx : x = 0 <;> by_cases hy : y = 0 <;> simp [Addr.add, hx, hy, Nat.add_assoc]
theorem steps_open {H : Type} {enc : TypeId × Value → H} {W : World} {base : Nat} {spare : Nat → Bool} {held : Bool} {fuel : Nat} {cs : List Value} {x : DataW H × List MemPlace} (h : DataW.trod enc Go.Proofs.Try.prog W base spare held fuel 39 cs = some x) :
    (cs = [.slice none 0 0]) ∨ ∃ (a : Addr) (len cap : Nat), cs = [.slice (some a) len cap] ∧ ∀ c, c < len * 5 → ∃ x, InR x ∧ W.cell? (a.add c) = some (.int .i64 x) := by
  rcases DataW.trod_slice Go.Proofs.Try.underlying39 h with h0 | ⟨a, len, cap, elems, rest, n, _, rfl, rfl, hb, hl, hm, hlen, hel, hsp, hns⟩
  · exact .inl h0.1
  refine .inr ⟨a, len, cap, rfl, fun c hc => ?_⟩
  have hci : c / 5 < len := by omega
  have e5 : Go.Proofs.Try.prog.cellsOf 43 = 5 := by kernel_rfl
  have e1 : Go.Proofs.Try.prog.cellsOf 3 = 1 := by kernel_rfl
  have e2 : Go.Proofs.Try.prog.cellsOf 2 = 1 := by kernel_rfl
  have he := hel (c / 5) hci
  rw [List.getElem?_eq_getElem (by omega), e5, Option.bind_eq_some_iff] at he
  obtain ⟨cs', hcs, hy⟩ := he
  obtain ⟨_, hl5, hcell⟩ := World.cells?_some hcs
  obtain ⟨xs, k, _, _, _, hx, hf⟩ := DataW.trod_struct Go.Proofs.Try.underlying43 hy
  have key : ∀ j, j < 5 → ∃ x, InR x ∧ cs'[j]? = some (.int .i64 x) := by
    intro j hj
    have hxl : xs.length = 5 := hx
    have : j = 0 ∨ j = 1 ∨ j = 2 ∨ j = 3 ∨ j = 4 := by omega
    rcases this with rfl | rfl | rfl | rfl | rfl
    · have g : DataW.trod enc Go.Proofs.Try.prog W base spare held k 3 ((cs'.drop 0).take (Go.Proofs.Try.prog.cellsOf 3)) = some xs[0] := (hf 0 _ rfl).trans (List.getElem?_eq_getElem (show 0 < xs.length by omega))
      rw [e1] at g
      obtain ⟨m, hm, _, hw⟩ := DataW.trod_int Go.Proofs.Try.underlying3 g
      exact ⟨m, inR_of hw, get_of_cut hm⟩
    · have g : DataW.trod enc Go.Proofs.Try.prog W base spare held k 3 ((cs'.drop 1).take (Go.Proofs.Try.prog.cellsOf 3)) = some xs[1] := (hf 1 _ rfl).trans (List.getElem?_eq_getElem (show 1 < xs.length by omega))
      rw [e1] at g
      obtain ⟨m, hm, _, hw⟩ := DataW.trod_int Go.Proofs.Try.underlying3 g
      exact ⟨m, inR_of hw, get_of_cut hm⟩
    · have g : DataW.trod enc Go.Proofs.Try.prog W base spare held k 3 ((cs'.drop 2).take (Go.Proofs.Try.prog.cellsOf 3)) = some xs[2] := (hf 2 _ rfl).trans (List.getElem?_eq_getElem (show 2 < xs.length by omega))
      rw [e1] at g
      obtain ⟨m, hm, _, hw⟩ := DataW.trod_int Go.Proofs.Try.underlying3 g
      exact ⟨m, inR_of hw, get_of_cut hm⟩
    · have g : DataW.trod enc Go.Proofs.Try.prog W base spare held k 2 ((cs'.drop 3).take (Go.Proofs.Try.prog.cellsOf 2)) = some xs[3] := (hf 3 _ rfl).trans (List.getElem?_eq_getElem (show 3 < xs.length by omega))
      rw [e2] at g
      obtain ⟨m, hm, _, hw⟩ := DataW.trod_int Go.Proofs.Try.underlying2 g
      exact ⟨m, inR_of hw, get_of_cut hm⟩
    · have g : DataW.trod enc Go.Proofs.Try.prog W base spare held k 2 ((cs'.drop 4).take (Go.Proofs.Try.prog.cellsOf 2)) = some xs[4] := (hf 4 _ rfl).trans (List.getElem?_eq_getElem (show 4 < xs.length by omega))
      rw [e2] at g
      obtain ⟨m, hm, _, hw⟩ := DataW.trod_int Go.Proofs.Try.underlying2 g
      exact ⟨m, inR_of hw, get_of_cut hm⟩
  obtain ⟨x, hx1, hx2⟩ := key (c % 5) (by omega)
  refine ⟨x, hx1, ?_⟩
  rw [← hx2, ← hcell (c % 5) (by omega), add_add, Nat.div_add_mod']
/-- A law whose arguments are a number and a row of steps. -/
theorem law_steps {P : Program} {f : FuncId} {W : World} {a : Addr} {len cap : Nat} {dp : Int} (hs : a.spot = none) (hb : a.block < W.heap.size) (hc : ∀ c, c < len * 5 → ∃ x, InR x ∧ W.cell? (a.add c) = some (.int .i64 x))
    (c : ACall P f [nI dp, .slice (some ⟨0, 0, none⟩) len cap] (roHp ((zsOf W a len).map nI)) (fun v _ => v = .bool true)) :
    Calls P f #[nI dp, .slice (some a) len cap] W fun e W' => e = .returned (.bool true) ∧ Below W.heap.size W W' := by
  have s := roSim hs hb (zs_cell hc)
  obtain ⟨b, off, sp⟩ := a
  subst hs
  refine (c.2 W.heap.size W _ W [nI dp, .slice (some ⟨b, off, none⟩) len cap] (RVs.cons (.int _ _) (RVs.cons (RV.slice (l := ⟨b, off, 0⟩) (by simp [roMu])) (RVs.nil _))) s).mono ?_
  rintro e W' ⟨m', v, v', h', rfl, _, rv, s, rfl⟩
  cases rv
  exact ⟨rfl, s.below⟩
theorem law_nil2 {P : Program} {f : FuncId} {W : World} {dp : Int} (c : ACall P f [nI dp, .slice none 0 0] Hp.empty (fun v _ => v = .bool true)) :
    Calls P f #[nI dp, .slice none 0 0] W fun e W' => e = .returned (.bool true) ∧ Below W.heap.size W W' := by
  refine (c.2 W.heap.size W (fun _ => none) W [nI dp, .slice none 0 0] (RVs.cons (.int _ _) (RVs.cons (RV.nils 0 0) (RVs.nil _))) (Sim.empty W)).mono ?_
  rintro e W' ⟨m', v, v', h', rfl, _, rv, s, rfl⟩
  cases rv
  exact ⟨rfl, s.below⟩
end Go.Proofs.YtcdfoicebcmlaaaW.Am
