/- The operations, sixth part: append put together; copy, clear, make, and what is left. -/
import Derived.Test.YtnebdnbglggdkaaDoorAmI
namespace Go.Proofs.YtnebdnbglggdkaaDoorW.Am
open Go Go.RowKit
section
variable {P : Program} {base : Nat} {w0 w : World} {m : Mu} {h : Hp}

theorem snd_app (s : Sim base w0 m h w) {t u ty el : TypeId} {du : TypeDesc} {ti : TypeInfo} {z : Value} {esz n len cap : Nat} {a : Option Addr} {y x' : Value} {xs xs' : List Value} {v : Value} {h' : Hp}
    (hu : P.underlying t = some (.slice el)) (huu : P.underlying u = some du) (hdu : (∃ e2, du = .slice e2) ∨ du = .string)
    (hi : P.info? el = some ti) (hn : ti.size = esz) (hz : ti.zero = some z) (hzs : z.cells.size = esz) (ry : RV m (.slice a len cap) y) (hr : RVs m xs xs')
    (hlen : ∀ k, (Builtin.lenOf x').run P { w with drawn := k } = .ok n { w with drawn := k }) (hf : ∀ k, (Builtin.firstCells esz n x').run P { w with drawn := k } = .ok xs'.toArray { w with drawn := k })
    (e : appA esz ti.bytes h a len cap xs n = some (v, h')) : Snd P base w0 m w (Builtin.append_ #[t, u] ty #[y, x']) v h' := by
  unfold appA at e
  split at e
  case isFalse => cases e
  case isTrue hc =>
  obtain ⟨hxl, hxo, hpos, hby, h47⟩ := hc
  have hl0 := hlen w.drawn
  have hf0 := hf w.drawn
  have hxl' : xs'.length = n * esz := by rw [← hr.1, hxl]
  -- growth, whatever the slice was
  have grow : ∀ (h2 : Hp) (b : Option Addr) (rc : Nat) (old : List Value), y = .slice b len rc → rc < len + n → Sim base w0 m h2 w → (if len = 0 then some [] else (match a with | some ⟨i, o, _⟩ => h.rd i o (len * esz) | none => none)) = some old →
      (∀ i o s', a = some ⟨i, o, some (s' + 1)⟩ → len = 0) → Snd P base w0 m w (Builtin.append_ #[t, u] ty #[y, x']) (.slice (some ⟨h2.nx, 0, some 0⟩) (len + n) (len + n)) (h2.new ⟨old ++ xs, true, esz⟩) := by
    intro h2 b rc old hy hg s2 hold hz1
    have hrd : rdS h a (len * esz) = some old := by
      by_cases hlz : len = 0
      · rw [if_pos hlz] at hold
        cases hold
        subst hlz
        unfold rdS
        cases a <;> simp
      · rw [if_neg hlz] at hold
        unfold rdS
        cases a with
        | none => cases hold
        | some ad =>
          obtain ⟨i, o, sp⟩ := ad
          simp only at hold ⊢
          have : len * esz ≠ 0 := Nat.mul_ne_zero hlz (by omega)
          rw [if_neg this]
          cases sp with
          | none => simpa using hold
          | some q => cases q with
            | zero => simpa using hold
            | succ q => exact absurd (hz1 i o q rfl) hlz
    obtain ⟨olds, ro, hfo⟩ := firstS (P := P) s (n := len) (esz := esz) ry hrd
    have hg2 := growslice_fits (bytes := ti.bytes) hg hby
    subst hy
    refine snd_grown (el := el) s2 hzs (grownCap_ge w (len + n) rc el) (ro.append hr) ?_
    exact run_app_grow hu huu hdu hi hn hz hl0 (hf (w.drawn + 1)) (hfo (w.drawn + 1)) hg h47 hg2
  cases a with
  | none =>
    simp only at e
    split at e
    case isFalse => cases e
    case isTrue hlc =>
    obtain ⟨rfl, rfl⟩ := hlc
    cases ry
    split at e
    · next h0 =>
      subst h0
      cases e
      refine Snd.pure s (v' := .slice none 0 0) ?_ (.nils _ _)
      exact run_app_room hu huu hdu hi hn hl0 hf0 (Nat.le_refl _) rfl
    · next h0 =>
      cases e
      have := grow h none 0 [] rfl (by omega) s rfl (by intro i o s' e; cases e)
      simpa using this
  | some ad =>
    obtain ⟨i, o, sp⟩ := ad
    simp only at e
    split at e
    · next h0 =>
      subst h0
      split at e
      case isFalse => cases e
      case isTrue hle =>
      cases e
      have hx0 : xs' = [] := List.eq_nil_of_length_eq_zero (by simpa using hxl')
      have hy : ∃ b rc, y = .slice (some b) len rc ∧ cap ≤ rc := by
        cases ry with
        | slice hl => exact ⟨_, _, rfl, Nat.le_refl _⟩
        | sliceX hl => exact ⟨_, _, rfl, Nat.le_add_right _ _⟩
        | sliceZ hl => exact ⟨_, _, rfl, Nat.zero_le _⟩
        | sliceY b hl => exact ⟨_, _, rfl, Nat.le_refl _⟩
      obtain ⟨b, rc, rfl, hcr⟩ := hy
      refine Snd.pure s (v' := .slice (some b) len rc) ?_ ry
      exact run_app_room hu huu hdu hi hn hl0 hf0 (by omega) (by rw [hx0]; rfl)
    · next h0 =>
      split at e
      · next hroom =>
        simp only [Option.map_eq_some_iff] at e
        obtain ⟨h2, hw, he⟩ := e
        cases he
        have hy : ∃ l rc, m i = some l ∧ y = .slice (some ⟨l.blk, l.off + o, none⟩) len rc ∧ cap ≤ rc ∧ RV m (.slice (some ⟨i, o, sp⟩) (len + n) cap) (.slice (some ⟨l.blk, l.off + o, none⟩) (len + n) rc) := by
          cases ry with
          | slice hl => exact ⟨_, _, hl, rfl, Nat.le_refl _, .slice hl⟩
          | sliceX hl => exact ⟨_, _, hl, rfl, Nat.le_add_right _ _, .sliceX hl⟩
          | sliceZ hl => exact absurd hroom (by omega)
          | sliceY b hl => exact absurd hroom (by omega)
        obtain ⟨l, rc, hl, rfl, hcr, rv⟩ := hy
        obtain ⟨w', hst, _, _, hs⟩ := run_wr (P := P) s hl hw hr
        refine ⟨m, _, w', ?_, m.le_refl, rv, hs⟩
        exact run_app_room hu huu hdu hi hn hl0 hf0 (by omega) (by simp only [add_lit']; rw [← Nat.add_assoc] at hst; exact hst)
      · next hroom =>
        split at e
        · next old hold =>
          cases e
          cases ry with
          | slice hl => exact grow h _ cap old rfl (by omega) s (by simpa using hold) (by intro i o s' e; cases e)
        · next old q hold =>
          split at e
          case h_2 => cases e
          case h_1 ob hob =>
          split at e
          case isFalse => cases e
          case isTrue hc =>
          cases e
          obtain ⟨hw, he, hend, hle, hone⟩ := hc
          have hlo : old.length = len * esz := by
            by_cases hlz : len = 0
            · rw [if_pos hlz] at hold; cases hold; simp [hlz]
            · rw [if_neg hlz] at hold
              obtain ⟨ob2, _, h2, rfl⟩ := Hp.rd_some hold
              simp; omega
          have inpl : ∀ (l : Loc) (rc : Nat), m i = some l → y = .slice (some ⟨l.blk, l.off + o, none⟩) len rc → len + n ≤ rc → o + rc * esz ≤ ob.cells.length + l.slack * esz →
              Snd P base w0 m w (Builtin.append_ #[t, u] ty #[y, x']) (.slice (some ⟨h.nx, 0, some 0⟩) (len + n) (len + n)) ((h.del i).new ⟨old ++ xs, true, esz⟩) := by
            intro l rc hl hy hroom2 hend2
            refine snd_inplace s hl hob hw he hold hlo hxl hxo hr hroom2 (by omega) ?_
            intro w' hst
            subst hy
            exact run_app_room hu huu hdu hi hn hl0 hf0 hroom2 (by simp only [add_lit']; exact hst)
          cases ry with
          | @sliceX _ _ _ _ l hl =>
            by_cases hg : len + n ≤ cap + l.slack
            · exact inpl l (cap + l.slack) hl rfl hg (by rw [Nat.add_mul]; omega)
            · exact grow (h.del i) _ _ old rfl (by omega) (s.del i (s.ms.ex _ _ hl)) (by simpa using hold) (by intro i o s' e; cases e)
          | @sliceZ _ _ _ l hl =>
            by_cases hg : 0 + n ≤ l.slack
            · exact inpl l l.slack hl rfl hg (by omega)
            · exact grow (h.del i) _ _ old rfl (by omega) (s.del i (s.ms.ex _ _ hl)) (by simpa using hold) (by intro _ _ _ _; rfl)
          | sliceY b hl => exact grow (h.del i) _ _ old rfl (by omega) (s.del i (s.ms.ex _ _ hl)) (by simpa using hold) (by intro _ _ _ _; rfl)
        · cases e
end
end Go.Proofs.YtnebdnbglggdkaaDoorW.Am
