/- Reading events from bytes: what the printed event.one and event.All come to: for the pure texts of the laws of layer 23.
Conditions: bytes from 0 to 255, at most a million of them. -/
import Derived.Test.YtcdfoicebcmlaaaPEvRawx4
import Derived.Test.YtcdfoicebcmlaaaEventFR
import Derived.Laws.BitsLemmas
set_option linter.unusedSimpArgs false
set_option linter.unusedVariables false
namespace Go.Proofs.Ytcdfoicebcmlaaa.EventGR
open Go.RowKit Go.Proofs.Ytcdfoicebcmlaaa.PEvRaw Go.Proofs.YtcdfoicebcmlaaaW.PrintWords Go.Proofs.YtcdfoicebcmlaaaW.PrintLast Go.Proofs.YtcdfoicebcmlaaaW.PrintMore
open Go.Proofs.Ytcdfoicebcmlaaa.EventFR

def Bytes (b : List Int) : Prop := ∀ x ∈ b, 0 ≤ x ∧ x ≤ 255
theorem bytesOf_bytes (s : ByteArray) : Bytes (bytesOf s) := by
  intro x hx
  obtain ⟨u, _, rfl⟩ := List.mem_map.1 hx
  have := u.toNat_lt
  omega
theorem bytesOf_strOf (l : List Int) (h : Bytes l) : bytesOf (strOfNums l) = l := by
  unfold bytesOf
  rw [strOfNums_data, List.map_map]
  refine (List.map_congr_left fun x hx => ?_).trans (List.map_id l)
  have := h x hx
  simp only [Function.comp_apply, id]
  rw [UInt8.toNat_ofNat_of_lt' (by show x.toNat < 256; omega)]
  omega
theorem strOf_bytesOf (s : ByteArray) : strOfNums (bytesOf s) = s := by
  have : (strOfNums (bytesOf s)).data.toList = s.data.toList := by
    rw [strOfNums_data, bytesOf, List.map_map]
    refine (List.map_congr_left fun x hx => ?_).trans (List.map_id _)
    simp
  cases s with
  | mk d =>
    have h : (strOfNums (bytesOf ⟨d⟩)).data = d := Array.toList_inj.1 this
    cases hq : strOfNums (bytesOf ⟨d⟩) with
    | mk d' => rw [hq] at h; simp at h; rw [h]
theorem empty_of_size {s : ByteArray} (h : s.size = 0) : s = ⟨#[]⟩ := by
  cases s with
  | mk d =>
    have : d = #[] := Array.eq_empty_of_size_eq_zero h
    rw [this]

theorem enc_bytes (s : S50) : Bytes (enc s) := by
  unfold enc
  split
  · intro x hx
    simp only [List.mem_cons] at hx
    rcases hx with rfl | rfl | hx
    · omega
    · omega
    · exact bytesOf_bytes _ x hx
  · intro x hx
    simp only [List.mem_cons, List.not_mem_nil, or_false] at hx
    rcases hx with rfl | rfl | rfl <;> omega
theorem encs_bytes (l : List S50) : Bytes (encs_ l) := by
  intro x hx
  obtain ⟨s, _, hs⟩ := List.mem_flatMap.1 hx
  exact enc_bytes s x hs
theorem Bytes.drop {b : List Int} (h : Bytes b) (n : Nat) : Bytes (b.drop n) := fun x hx => h x (List.mem_of_mem_drop hx)
theorem Bytes.take {b : List Int} (h : Bytes b) (n : Nat) : Bytes (b.take n) := fun x hx => h x (List.mem_of_mem_take hx)

theorem or256 (y z : Int) (hy0 : 0 ≤ y) (hy1 : y ≤ 255) (hz0 : 0 ≤ z) (hz1 : z ≤ 255) : Go.bits .or .i64 (y * 256) z = y * 256 + z :=
  bits_join .i64 63 (by decide) (fun n h0 h1 => by rw [IntKind.wrap_i64]; omega) 8 _ _ (by omega) (by omega) (by omega) (by omega) (by omega) (by omega)

theorem rd0 (x : Int) (l : List Int) : rd (x :: l) 0 = x := rfl
theorem rd1 (x y : Int) (l : List Int) : rd (x :: y :: l) 1 = y := rfl
theorem rd2 (x y z : Int) (l : List Int) : rd (x :: y :: z :: l) 2 = z := rfl

/-- What is read is an event that may be, and its bytes stand at the begin. -/
theorem one_sound (b : List Int) (hb : Bytes b) (hl : b.length ≤ 1000000) (k : Nat) (hk : 2 ≤ k) :
    ∃ (e : S50) (n : Int), event_one.f k b = some (e.f0, e.f1, e.f2, n) ∧ (n = 0 ∨ (may e = true ∧ n = (enc e).length ∧ ∃ r, b = enc e ++ r)) := by
  match b, hb, hl with
  | [], _, _ => exact ⟨⟨0, 0, ⟨#[]⟩⟩, 0, by unfold event_one.f; rw [if_pos (by simp)], .inl rfl⟩
  | [x], _, _ => exact ⟨⟨0, 0, ⟨#[]⟩⟩, 0, by unfold event_one.f; rw [if_pos (by simp)], .inl rfl⟩
  | x :: y :: r, hb, hl =>
    have hx := hb x (by simp)
    have hy := hb y (by simp)
    have hr : Bytes r := fun z hz => hb z (by simp [hz])
    have hlen : ((x :: y :: r).length : Int) = (r.length : Int) + 2 := by simp; omega
    unfold event_one.f
    rw [hlen] at *
    rw [if_neg (by omega), if_pos (by omega), rd0, rd1, Z.wrap_small (n := x) (by omega) (by omega), Z.wrap_small (n := y) (by omega) (by omega), Z.wrap_small (n := 2 + y) (by omega) (by omega)]
    by_cases h5 : x = 5
    · subst h5
      rw [if_pos rfl, if_pos (by omega)]
      by_cases hn : 2 + y > (r.length : Int) + 2
      · rw [if_pos hn]; exact ⟨⟨5, 0, ⟨#[]⟩⟩, 0, rfl, .inl rfl⟩
      · rw [if_neg hn, if_pos (by omega), if_pos (by omega)]
        have ht : ((5 :: y :: r).take (2 + y).toNat).drop 2 = r.take y.toNat := by
          rw [show (2 + y).toNat = y.toNat + 2 by omega]; rfl
        rw [ht]
        have hm := may_at k hk ⟨5, 0, strOfNums (r.take y.toNat)⟩
        simp only at hm
        rw [hm]
        simp only [Option.bind_some]
        by_cases hmay : may ⟨5, 0, strOfNums (r.take y.toNat)⟩ = true
        · rw [if_pos hmay]
          have hsz : (strOfNums (r.take y.toNat)).size = y.toNat := by rw [strOfNums_size, List.length_take]; omega
          have henc : enc ⟨5, 0, strOfNums (r.take y.toNat)⟩ = 5 :: y :: r.take y.toNat := by
            unfold enc
            rw [if_pos rfl, bytesOf_strOf _ (hr.take _)]
            simp only [hsz]
            rw [show ((y.toNat : Nat) : Int) % 256 = y by omega]
            rfl
          refine ⟨⟨5, 0, strOfNums (r.take y.toNat)⟩, 2 + y, rfl, .inr ⟨hmay, ?_, r.drop y.toNat, ?_⟩⟩
          · rw [henc]; simp; omega
          · rw [henc]; simp
        · rw [if_neg hmay]; exact ⟨⟨5, 0, strOfNums (r.take y.toNat)⟩, 0, rfl, .inl rfl⟩
    · rw [if_neg h5]
      match r, hr, hlen with
      | [], _, _ => rw [if_pos (by simp)]; exact ⟨⟨x, 0, ⟨#[]⟩⟩, 0, rfl, .inl rfl⟩
      | z :: q, hr, hlen =>
        have hz := hr z (by simp)
        rw [if_neg (by simp; omega), if_pos (by simp; omega), if_pos (by simp; omega), rd2, Z.wrap_small (n := z) (by omega) (by omega), Z.wrap_small (n := y * 256) (by omega) (by omega), or256 y z hy.1 hy.2 hz.1 hz.2]
        have hm := may_at k hk ⟨x, y * 256 + z, ⟨#[]⟩⟩
        simp only at hm
        rw [hm]
        simp only [Option.bind_some]
        by_cases hmay : may ⟨x, y * 256 + z, ⟨#[]⟩⟩ = true
        · rw [if_pos hmay]
          have henc : enc ⟨x, y * 256 + z, ⟨#[]⟩⟩ = [x, y, z] := by
            unfold enc
            rw [if_neg h5]
            simp only
            rw [show x % 256 = x by omega, show (y * 256 + z) / 256 % 256 = y by omega, show (y * 256 + z) % 256 = z by omega]
          exact ⟨⟨x, y * 256 + z, ⟨#[]⟩⟩, 3, rfl, .inr ⟨hmay, by rw [henc]; rfl, q, by rw [henc]; rfl⟩⟩
        · rw [if_neg hmay]; exact ⟨⟨x, y * 256 + z, ⟨#[]⟩⟩, 0, rfl, .inl rfl⟩

theorem may_kind {s : S50} (h : may s = true) : s.f0 = 5 ∧ s.f1 = 0 ∧ s.f2.size ≤ 200 ∨ s.f0 ≠ 5 ∧ s.f2.size = 0 ∧ 1 ≤ s.f0 ∧ s.f0 ≤ 6 ∧ 0 ≤ s.f1 ∧ s.f1 ≤ 999 := by
  unfold may at h
  by_cases h5 : s.f0 = 5
  · rw [if_pos h5] at h
    have := of_decide_eq_true h
    exact .inl ⟨h5, this.1, this.2⟩
  · rw [if_neg h5] at h
    simp only [Bool.and_eq_true, decide_eq_true_eq] at h
    obtain ⟨hz, h⟩ := h
    refine .inr ⟨h5, hz, ?_⟩
    by_cases h1 : s.f0 = 1
    · rw [if_pos h1] at h; have := of_decide_eq_true h; omega
    rw [if_neg h1] at h
    by_cases h2 : s.f0 = 2
    · rw [if_pos h2] at h; have := of_decide_eq_true h; omega
    rw [if_neg h2] at h
    by_cases h3 : s.f0 = 3 ∨ s.f0 = 4
    · rw [if_pos h3] at h; have := of_decide_eq_true h; omega
    rw [if_neg h3] at h
    by_cases h6 : s.f0 = 6
    · rw [if_pos h6] at h; have := of_decide_eq_true h; omega
    rw [if_neg h6] at h
    cases h

/-- An event's bytes, whatever stands behind them, are read as it. -/
theorem one_enc (s : S50) (h : may s = true) (r : List Int) (k : Nat) (hk : 2 ≤ k) (hl : r.length ≤ 1000000) : event_one.f k (enc s ++ r) = some (s.f0, s.f1, s.f2, ((enc s).length : Int)) := by
  obtain ⟨a, b, t⟩ := s
  rcases may_kind h with ⟨h5, hz, hs⟩ | ⟨h5, hz, k0, k1, n0, n1⟩
  · simp only at h5 hz hs
    subst h5; subst hz
    have henc : enc ⟨5, 0, t⟩ = 5 :: (t.size : Int) :: bytesOf t := by
      unfold enc
      rw [if_pos rfl]
      simp only
      rw [show (t.size : Int) % 256 = (t.size : Int) by omega]
      rfl
    rw [henc]
    simp only [List.cons_append, List.length_cons, bytesOf_length]
    unfold event_one.f
    have hlen : ((5 :: (t.size : Int) :: (bytesOf t ++ r)).length : Int) = (t.size : Int) + (r.length : Int) + 2 := by simp [bytesOf_length]; omega
    rw [hlen, if_neg (by omega), if_pos (by omega), rd0, rd1, Z.wrap_small (n := 5) (by omega) (by omega), Z.wrap_small (n := (t.size : Int)) (by omega) (by omega), Z.wrap_small (n := 2 + (t.size : Int)) (by omega) (by omega),
      if_pos rfl, if_pos (by omega), if_neg (by omega), if_pos (by omega), if_pos (by omega)]
    have ht : ((5 :: (t.size : Int) :: (bytesOf t ++ r)).take (2 + (t.size : Int)).toNat).drop 2 = bytesOf t := by
      rw [show (2 + (t.size : Int)).toNat = t.size + 2 by omega]
      show (bytesOf t ++ r).take t.size = bytesOf t
      rw [← bytesOf_length t, List.take_left]
    rw [ht, strOf_bytesOf]
    have hm := may_at k hk ⟨5, 0, t⟩
    simp only at hm
    rw [hm, h]
    simp
    omega
  · simp only at h5 hz k0 k1 n0 n1
    obtain rfl := empty_of_size hz
    have henc : enc ⟨a, b, ⟨#[]⟩⟩ = [a, b / 256, b % 256] := by
      unfold enc
      rw [if_neg h5]
      simp only
      rw [show a % 256 = a by omega, show b / 256 % 256 = b / 256 by omega]
    rw [henc]
    simp only [List.cons_append, List.nil_append, List.length_cons, List.length_nil]
    unfold event_one.f
    have hlen : ((a :: (b / 256) :: (b % 256) :: r).length : Int) = (r.length : Int) + 3 := by simp; omega
    rw [hlen, if_neg (by omega), if_pos (by omega), rd0, rd1, rd2, Z.wrap_small (n := a) (by omega) (by omega), if_neg h5, if_neg (by omega), if_pos (by omega), if_pos (by omega),
      Z.wrap_small (n := b / 256) (by omega) (by omega), Z.wrap_small (n := b % 256) (by omega) (by omega), Z.wrap_small (n := b / 256 * 256) (by omega) (by omega), or256 _ _ (by omega) (by omega) (by omega) (by omega), show b / 256 * 256 + b % 256 = b by omega]
    have hm := may_at k hk ⟨a, b, ⟨#[]⟩⟩
    simp only at hm
    rw [hm, h]
    rfl

/-- All events that bytes are; where they end. -/
theorem all_l0 (b : List Int) (hb : Bytes b) (hl : b.length ≤ 1000000) (d : Nat) : ∀ (k : Nat) (acc : List S50) (pos : Int), 0 ≤ pos → pos ≤ b.length → (b.length : Int) - pos ≤ d → d + 3 < k → (acc.length : Int) ≤ pos →
    ∃ (l : List S50) (c at_ : Int) (rest : List Int), event_All.l0 k b acc pos = some (acc ++ l, c, at_) ∧ (∀ e ∈ l, may e = true) ∧ encs_ l ++ rest = b.drop pos.toNat ∧
      ((c = 0 ∧ at_ = 0 ∧ rest = []) ∨ (c = 4 ∧ at_ = pos + (encs_ l).length ∧ rest ≠ [] ∧ ∃ kk, 2 ≤ kk ∧ ∃ e : S50, event_one.f kk rest = some (e.f0, e.f1, e.f2, 0))) := by
  induction d with
  | zero =>
    intro k acc pos h0 h1 h2 hk ha
    obtain ⟨k, rfl⟩ : ∃ m, k = m + 1 := ⟨k - 1, by omega⟩
    refine ⟨[], 0, 0, [], ?_, by simp, ?_, .inl ⟨rfl, rfl, rfl⟩⟩
    · simp only [event_All.l0]
      rw [if_neg (by omega)]
      simp
    · rw [List.drop_of_length_le (by omega)]; rfl
  | succ d ih =>
    intro k acc pos h0 h1 h2 hk ha
    obtain ⟨k, rfl⟩ : ∃ m, k = m + 1 := ⟨k - 1, by omega⟩
    by_cases hp : pos < (b.length : Int)
    · simp only [event_All.l0]
      rw [if_pos hp, if_pos h0, if_pos h1]
      obtain ⟨e, n, h3, h4⟩ := one_sound (b.drop pos.toNat) (hb.drop _) (by rw [List.length_drop]; omega) k (by omega)
      rw [h3]
      simp only [Option.bind_some]
      by_cases hn : n = 0
      · rw [if_pos hn]
        subst hn
        refine ⟨[], 4, pos, b.drop pos.toNat, by simp, by simp, by simp [encs_], .inr ⟨rfl, by simp [encs_], ?_, k, by omega, e, h3⟩⟩
        intro he
        have := congrArg List.length he
        rw [List.length_drop] at this
        simp at this
        omega
      · rcases h4 with h4 | ⟨hm, hnl, r, hr⟩
        · exact absurd h4 hn
        have hel := enc_len hm
        have hlen := congrArg List.length hr
        rw [List.length_drop, List.length_append] at hlen
        rw [if_neg hn, if_pos (by omega), Z.wrap_small (n := pos + n) (by omega) (by omega)]
        obtain ⟨l, c, at_, rest, h5, h6, h7, h8⟩ := ih k (acc ++ [(⟨e.f0, e.f1, e.f2⟩ : S50)]) (pos + n) (by omega) (by omega) (by omega) (by omega) (by simp; omega)
        refine ⟨e :: l, c, at_, rest, ?_, ?_, ?_, ?_⟩
        · rw [h5]; simp
        · intro z hz
          rcases List.mem_cons.1 hz with rfl | hz
          · exact hm
          · exact h6 z hz
        · have : b.drop (pos + n).toNat = r := by
            rw [show (pos + n).toNat = pos.toNat + (enc e).length by omega, ← List.drop_drop, hr, List.drop_left]
          rw [this] at h7
          rw [hr, ← h7]
          simp [encs_]
        · rcases h8 with h8 | ⟨hc, hat, hne, hx⟩
          · exact .inl h8
          · refine .inr ⟨hc, ?_, hne, hx⟩
            rw [hat]
            simp [encs_]
            omega
    · refine ⟨[], 0, 0, [], ?_, by simp, ?_, .inl ⟨rfl, rfl, rfl⟩⟩
      · simp only [event_All.l0]
        rw [if_neg hp]
        simp
      · rw [List.drop_of_length_le (by omega)]; rfl

theorem all_spec (b : List Int) (hb : Bytes b) (hl : b.length ≤ 1000000) (k : Nat) (hk : b.length + 3 < k) :
    ∃ (l : List S50) (c at_ : Int) (rest : List Int), event_All.f k b = some (l, c, at_) ∧ (∀ e ∈ l, may e = true) ∧ encs_ l ++ rest = b ∧
      ((c = 0 ∧ at_ = 0 ∧ rest = []) ∨ (c = 4 ∧ at_ = (encs_ l).length ∧ rest ≠ [] ∧ ∃ kk, 2 ≤ kk ∧ ∃ e : S50, event_one.f kk rest = some (e.f0, e.f1, e.f2, 0))) := by
  obtain ⟨l, c, at_, rest, h1, h2, h3, h4⟩ := all_l0 b hb hl b.length k [] 0 (by omega) (by omega) (by omega) hk (by simp)
  refine ⟨l, c, at_, rest, ?_, h2, by simpa using h3, ?_⟩
  · unfold event_All.f; rw [h1]; rfl
  · simpa using h4

/-- Events' bytes tell the events. -/
theorem uniq : ∀ (l m : List S50) (t : List Int), (∀ e ∈ l, may e = true) → (∀ e ∈ m, may e = true) → (encs_ m).length ≤ 1000000 → encs_ l ++ t = encs_ m → l = m.take l.length ∧ l.length ≤ m.length ∧ t = encs_ (m.drop l.length) := by
  intro l
  induction l with
  | nil => intro m t _ _ _ h; simp [encs_] at h ⊢; exact h
  | cons s l ih =>
    intro m t hl hm hsz h
    have hs := hl s (List.mem_cons_self ..)
    have hsl := enc_len hs
    match m, hm, hsz, h with
    | [], _, _, h =>
      have h1 : (encs_ (s :: l) ++ t).length = (enc s).length + ((encs_ l).length + t.length) := by
        rw [show encs_ (s :: l) = enc s ++ encs_ l by simp [encs_], List.length_append, List.length_append]; omega
      rw [h] at h1
      have h2 : (encs_ ([] : List S50)).length = 0 := rfl
      omega
    | s' :: m, hm, hsz, h =>
      have hs' := hm s' (List.mem_cons_self ..)
      have e1 : encs_ (s :: l) ++ t = enc s ++ (encs_ l ++ t) := by simp [encs_]
      have e2 : encs_ (s' :: m) = enc s' ++ encs_ m := by simp [encs_]
      rw [e1, e2] at h
      rw [e2, List.length_append] at hsz
      have hlen := congrArg List.length h
      have hla : (enc s ++ (encs_ l ++ t)).length = (enc s).length + (encs_ l ++ t).length := List.length_append
      have hlr : (enc s' ++ encs_ m).length = (enc s').length + (encs_ m).length := List.length_append
      have o1 := one_enc s hs (encs_ l ++ t) 2 (by omega) (by omega)
      have o2 := one_enc s' hs' (encs_ m) 2 (by omega) (by omega)
      rw [h, o2] at o1
      simp only [Option.some.injEq, Prod.mk.injEq] at o1
      obtain ⟨a1, a2, a3, _⟩ := o1
      have hss : s = s' := by
        cases s; cases s'
        simp only at a1 a2 a3
        rw [a1, a2, a3]
      subst hss
      have h' := List.append_cancel_left h
      obtain ⟨b1, b2, b3⟩ := ih m t (fun e he => hl e (List.mem_cons_of_mem _ he)) (fun e he => hm e (List.mem_cons_of_mem _ he)) (by omega) h'
      refine ⟨?_, by simp; omega, by simpa using b3⟩
      simp only [List.length_cons, List.take_succ_cons]
      rw [← b1]

theorem encs_len (l : List S50) (h : ∀ e ∈ l, may e = true) : (encs_ l).length ≤ 202 * l.length := by
  induction l with
  | nil => simp [encs_]
  | cons s l ih =>
    have h1 := ih (fun e he => h e (List.mem_cons_of_mem _ he))
    have h2 := enc_len (h s (List.mem_cons_self ..))
    have : encs_ (s :: l) = enc s ++ encs_ l := by simp [encs_]
    rw [this, List.length_append, List.length_cons]
    omega
/-- What is put comes back. -/
theorem all_put (m : List S50) (hm : ∀ e ∈ m, may e = true) (hl : m.length ≤ 1000) (k : Nat) (hk : 202 * m.length + 3 < k) : event_All.f k (encs_ m) = some (m, 0, 0) := by
  have hlen := encs_len m hm
  obtain ⟨l, c, at_, rest, h1, h2, h3, h4⟩ := all_spec (encs_ m) (encs_bytes m) (by omega) k (by omega)
  obtain ⟨u1, u2, u3⟩ := uniq l m rest h2 hm (by omega) h3
  rcases h4 with ⟨rfl, rfl, hr⟩ | ⟨hc, hat, hne, kk, hkk, e, he⟩
  · have : m.drop l.length = [] := by
      rw [hr] at u3
      cases hd : m.drop l.length with
      | nil => rfl
      | cons s q =>
        rw [hd] at u3
        have := enc_len (hm s (List.mem_of_mem_drop (hd ▸ List.mem_cons_self ..)))
        have := congrArg List.length u3
        simp [encs_] at this
        omega
    have h5 : m.length ≤ l.length := List.drop_eq_nil_iff.1 this
    rw [h1, u1, List.take_of_length_le h5]
  · exfalso
    cases hd : m.drop l.length with
    | nil => rw [hd] at u3; exact hne (by rw [u3]; rfl)
    | cons s q =>
      rw [hd] at u3
      have hs := hm s (List.mem_of_mem_drop (hd ▸ List.mem_cons_self ..))
      have e2 : encs_ (s :: q) = enc s ++ encs_ q := by simp [encs_]
      rw [u3, e2] at he
      have hsub : (encs_ q).length ≤ 1000000 := by
        have := congrArg List.length h3
        rw [List.length_append, u3, e2, List.length_append] at this
        omega
      rw [one_enc s hs (encs_ q) kk hkk hsub] at he
      have := enc_len hs
      simp only [Option.some.injEq, Prod.mk.injEq] at he
      omega

end Go.Proofs.Ytcdfoicebcmlaaa.EventGR
