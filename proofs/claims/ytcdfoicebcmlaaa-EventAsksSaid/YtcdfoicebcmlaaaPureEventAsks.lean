/- Which events may be, their bytes, what is in bytes, is what the document's reference tells: for any events (at most 30, their texts of at most 300 bytes), raw ones too, and any bytes (at most 300); for others the statement asks only the document's few.
Conditions: none beyond the statement's own. -/
import Derived.Test.YtcdfoicebcmlaaaPEventx8
import Derived.Test.YtcdfoicebcmlaaaEventG
set_option linter.unusedSimpArgs false
set_option linter.unusedVariables false
namespace Go.Proofs.Ytcdfoicebcmlaaa.Pure
open Go.RowKit Go.Proofs.Ytcdfoicebcmlaaa.PEvent Go.Proofs.YtcdfoicebcmlaaaW.PrintWords Go.Proofs.YtcdfoicebcmlaaaW.PrintLast Go.Proofs.YtcdfoicebcmlaaaW.PrintMore
open Go.Proofs.Ytcdfoicebcmlaaa.EventF Go.Proofs.Ytcdfoicebcmlaaa.EventG

namespace EvAsksL
theorem told_spec : spinnakerlaw23_told.f 40 = some true := by decide +kernel
theorem few_l0 (l : List S50) (n : Int) (d : Nat) : ∀ (k : Nat) (i : Int), 0 ≤ i → i + d = l.length → l.length < 9223372036854775807 → d < k →
    ∃ r, spinnakerlaw23_Few.l0 k l n i = some r ∧ (r = true → (l.length : Int) ≤ n ∧ ∀ x ∈ l.drop i.toNat, x.f2.size ≤ 300) := by
  induction d with
  | zero =>
    intro k i h0 h1 hm hk
    obtain ⟨k, rfl⟩ : ∃ m, k = m + 1 := ⟨k - 1, by omega⟩
    simp only [spinnakerlaw23_Few.l0]
    rw [if_neg (by omega)]
    refine ⟨_, rfl, fun h => ⟨of_decide_eq_true h, ?_⟩⟩
    rw [List.drop_of_length_le (by omega)]
    simp
  | succ d ih =>
    intro k i h0 h1 hm hk
    obtain ⟨k, rfl⟩ : ∃ m, k = m + 1 := ⟨k - 1, by omega⟩
    simp only [spinnakerlaw23_Few.l0]
    rw [if_pos (by omega), if_pos h0, Z.wrap_small (n := i + 1) (by omega) (by omega)]
    split
    · exact ⟨false, rfl, fun h => by cases h⟩
    · rename_i hs
      obtain ⟨r, h2, h3⟩ := ih k (i + 1) (by omega) (by omega) hm (by omega)
      refine ⟨r, h2, fun h => ⟨(h3 h).1, ?_⟩⟩
      rw [rd_drop l i h0 (by omega)]
      intro x hx
      rcases List.mem_cons.1 hx with rfl | hx
      · omega
      · exact (h3 h).2 x hx
theorem few_spec (l : List S50) (n : Int) (hm : l.length < 9223372036854775807) (k : Nat) (hk : l.length < k) : ∃ r, spinnakerlaw23_Few.f k l n = some r ∧ (r = true → (l.length : Int) ≤ n ∧ ∀ x ∈ l, x.f2.size ≤ 300) := by
  unfold spinnakerlaw23_Few.f
  have := few_l0 l n l.length k 0 (by omega) (by omega) hm hk
  simpa using this
theorem events_l0 (l : List S50) (hl : l.length ≤ 100000) (d : Nat) : ∀ (k : Nat) (i : Int), 0 ≤ i → i + d = l.length → d < k → spinnakerlaw23_events.l0 k l l i = some true := by
  induction d with
  | zero =>
    intro k i h0 h1 hk
    obtain ⟨k, rfl⟩ : ∃ m, k = m + 1 := ⟨k - 1, by omega⟩
    simp only [spinnakerlaw23_events.l0]
    rw [if_neg (by omega)]
  | succ d ih =>
    intro k i h0 h1 hk
    obtain ⟨k, rfl⟩ : ∃ m, k = m + 1 := ⟨k - 1, by omega⟩
    simp only [spinnakerlaw23_events.l0]
    rw [if_pos (by omega), if_pos h0, if_pos (by omega), if_neg (by simp), Z.wrap_small (n := i + 1) (by omega) (by omega)]
    exact ih k (i + 1) (by omega) (by omega) (by omega)
theorem events_spec (l : List S50) (hl : l.length ≤ 100000) (k : Nat) (hk : l.length < k) : spinnakerlaw23_events.f k l l = some true := by
  unfold spinnakerlaw23_events.f
  rw [if_pos rfl]
  exact events_l0 l hl l.length k 0 (by omega) (by omega) hk

theorem refmay (k : Nat) (hk : 1 ≤ k) (s : S50) : spinnakerref18_MayEvent.f k s.f0 s.f1 s.f2 = some (may s) := by
  obtain ⟨k, rfl⟩ : ∃ m, k = m + 1 := ⟨k - 1, by omega⟩
  obtain ⟨a, b, t⟩ := s
  unfold spinnakerref18_MayEvent.f may
  simp only
  have hsz : ((t.size : Int) ≤ 200) = (t.size ≤ 200) := by apply propext; omega
  have hz : (t.toList = ([] : List UInt8)) = (t.size = 0) := by apply propext; exact toList_nil t
  by_cases h5 : a = 5
  · subst h5
    rw [if_pos rfl, if_pos rfl, ite_dec]
    simp only [hsz]
  · rw [if_neg h5, if_neg h5]
    by_cases h1 : a = 1
    · subst h1; by_cases h : t.size = 0 <;> simp [hz, h, ite_dec]
    rw [if_neg h1, if_neg h1]
    by_cases h2 : a = 2
    · subst h2; by_cases h : t.size = 0 <;> simp [hz, h, ite_dec]
    rw [if_neg h2, if_neg h2]
    by_cases h3 : a = 3
    · subst h3; by_cases h : t.size = 0 <;> simp [spinnakerref18_MayEvent.j0, hz, h, ite_dec]
    rw [if_neg h3]
    by_cases h4 : a = 4
    · subst h4; by_cases h : t.size = 0 <;> simp [spinnakerref18_MayEvent.j0, hz, h, ite_dec]
    by_cases h6 : a = 6
    · subst h6; by_cases h : t.size = 0 <;> simp [spinnakerref18_MayEvent.j0, hz, h, ite_dec]
    by_cases h : t.size = 0 <;> simp [spinnakerref18_MayEvent.j0, hz, h, ite_dec, h3, h4, h6]
    omega

theorem strOf_append (a b : List Int) : strOfNums a ++ strOfNums b = strOfNums (a ++ b) := by
  have : (strOfNums a ++ strOfNums b).data = (strOfNums (a ++ b)).data := by
    rw [ByteArray.data_append]
    apply Array.toList_inj.1
    simp [strOfNums]
  cases h1 : strOfNums a ++ strOfNums b with
  | mk d => cases h2 : strOfNums (a ++ b) with
    | mk d' => rw [h1, h2] at this; simp at this; rw [this]

theorem refput_l0 (l : List S50) (hl : l.length ≤ 1000) (d : Nat) : ∀ (k : Nat) (i : Int) (out : List Int), 0 ≤ i → i + d = l.length → d + 2 < k → (out.length : Int) ≤ 202 * i →
    spinnakerref18_PutEvents.l0 k l (strOfNums out) i = cond ((l.drop i.toNat).all may) (some (strOfNums (out ++ encs_ (l.drop i.toNat)), 0)) (some (⟨#[]⟩, 1)) := by
  induction d with
  | zero =>
    intro k i out h0 h1 hk _
    obtain ⟨k, rfl⟩ : ∃ m, k = m + 1 := ⟨k - 1, by omega⟩
    simp only [spinnakerref18_PutEvents.l0]
    rw [if_neg (by omega), List.drop_of_length_le (by omega)]
    simp [encs_]
  | succ d ih =>
    intro k i out h0 h1 hk ho
    obtain ⟨k, rfl⟩ : ∃ m, k = m + 1 := ⟨k - 1, by omega⟩
    have hlt : i < (l.length : Int) := by omega
    simp only [spinnakerref18_PutEvents.l0]
    rw [if_pos hlt, if_pos h0, refmay k (by omega), rd_drop l i h0 hlt, Z.wrap_small (n := i + 1) (by omega) (by omega)]
    simp only [Option.bind_some, List.all_cons]
    generalize hx : rd_T50 l i = x
    by_cases hm : may x = true
    case neg => rw [if_neg hm]; simp [hm]
    case pos =>
      have hs := may_size hm
      have hlen := enc_len hm
      rw [if_pos hm]
      simp only [hm, Bool.true_and]
      by_cases h5 : x.f0 = 5
      · rw [if_pos h5, if_pos (by rw [strOfNums_size, strOfNums_size]; simp; omega), strOf_append, if_pos (by rw [strOfNums_size]; simp; omega)]
        rw [show strOfNums (out ++ [x.f0 % 256, (x.f2.size : Int) % 256]) ++ x.f2 = strOfNums (out ++ [x.f0 % 256, (x.f2.size : Int) % 256] ++ bytesOf x.f2) by rw [← strOf_append (out ++ _), strOf_bytesOf]]
        rw [ih k (i + 1) _ (by omega) (by omega) (by omega) (by simp [bytesOf_length]; omega)]
        simp [encs_, enc, h5]
      · rw [if_neg h5, if_pos (by rw [strOfNums_size, strOfNums_size]; simp; omega), strOf_append]
        rw [ih k (i + 1) _ (by omega) (by omega) (by omega) (by simp; omega)]
        simp [encs_, enc, h5]
theorem refput (l : List S50) (hl : l.length ≤ 1000) (k : Nat) (hk : l.length + 2 < k) : spinnakerref18_PutEvents.f k l = cond (l.all may) (some (strOfNums (encs_ l), 0)) (some (⟨#[]⟩, 1)) := by
  unfold spinnakerref18_PutEvents.f
  have := refput_l0 l hl l.length k 0 [] (by omega) (by omega) hk (by simp)
  have h0 : strOfNums [] = ⟨#[]⟩ := by decide
  rw [← h0]
  rw [h0] at this ⊢
  simpa using this
theorem refmay' (k : Nat) (hk : 1 ≤ k) (a b : Int) (t : ByteArray) : spinnakerref18_MayEvent.f k a b t = some (may ⟨a, b, t⟩) := refmay k hk ⟨a, b, t⟩
theorem may' (k : Nat) (hk : 2 ≤ k) (a b : Int) (t : ByteArray) : event_May.f k a b t = some (may ⟨a, b, t⟩) := may_at k hk ⟨a, b, t⟩
theorem bt_strOf (b : List Int) (hb : Bytes b) (i : Int) (h0 : 0 ≤ i) (h1 : i < (b.length : Int)) : bt (strOfNums b) i = rd b i := by
  have hs : i.toNat < (strOfNums b).size := by rw [strOfNums_size]; omega
  have hl : i.toNat < b.length := by omega
  unfold bt rd
  rw [dif_pos hs, List.getD_eq_getElem?_getD, List.getElem?_eq_getElem hl]
  have hx := hb _ (List.getElem_mem hl)
  have : (strOfNums b)[i.toNat]'hs = UInt8.ofNat (b[i.toNat]'hl).toNat := by
    show (strOfNums b).data[i.toNat]'hs = _
    rw [← Array.getElem_toList]
    simp [strOfNums_data]
  rw [this, UInt8.toNat_ofNat_of_lt' (by show _ < 256; omega)]
  simp only [Option.getD_some]
  omega
theorem extract_strOf (b : List Int) (i j : Nat) : (strOfNums b).extract i j = strOfNums ((b.take j).drop i) := by
  have : ((strOfNums b).extract i j).data = (strOfNums ((b.take j).drop i)).data := by
    apply Array.toList_inj.1
    rw [strOfNums_data, ByteArray.data_extract, Array.toList_extract, strOfNums_data, List.extract_eq_take_drop, ← List.map_drop, ← List.map_take, List.drop_take]
  cases h1 : (strOfNums b).extract i j with
  | mk d => cases h2 : strOfNums ((b.take j).drop i) with
    | mk d' => rw [h1, h2] at this; simp at this; rw [this]
theorem rd_at (b : List Int) (p : Int) (h0 : 0 ≤ p) (n : Nat) : rd b (p + n) = rd (b.drop p.toNat) n := by
  unfold rd
  rw [List.getD_eq_getElem?_getD, List.getD_eq_getElem?_getD, List.getElem?_drop, show (p + n).toNat = p.toNat + (n : Int).toNat by omega]
theorem one_fuel (k : Nat) (hk : 2 ≤ k) (b : List Int) : event_one.f k b = event_one.f 2 b := by
  unfold event_one.f
  simp only [may' k hk, may' 2 (by omega)]
theorem ref_step (b : List Int) (hb : Bytes b) (hl : b.length ≤ 1000000) (acc : List S50) (pos : Int) (h0 : 0 ≤ pos) (h1 : pos < (b.length : Int)) (k : Nat) (hk : 1 ≤ k) :
    spinnakerref18_AllEvents.l0 (k + 2) (strOfNums b) acc pos = (event_one.f 2 (b.drop pos.toNat)).bind fun bt => if bt.2.2.2 = 0 then some (acc, 4, pos) else if acc.length < 4398046511104 then spinnakerref18_AllEvents.l0 k (strOfNums b) (acc ++ [⟨bt.1, bt.2.1, bt.2.2.1⟩]) (wrap64 (pos + bt.2.2.2)) else none := by
  have hlen : ((strOfNums b).size : Int) = b.length := by rw [strOfNums_size]
  have hb' := hb.drop pos.toNat
  have hdl : ((b.drop pos.toNat).length : Int) = b.length - pos := by rw [List.length_drop]; omega
  have hr0 := bt_strOf b hb pos h0 h1
  have e0 := rd_at b pos h0 0
  have e1 := rd_at b pos h0 1
  have e2 := rd_at b pos h0 2
  have hex : ∀ j : Nat, (strOfNums b).extract (pos + 2).toNat (pos + j).toNat = strOfNums (((b.drop pos.toNat).take j).drop 2) := by
    intro j
    rw [extract_strOf, show (pos + 2).toNat = pos.toNat + 2 by omega, show (pos + j).toNat = pos.toNat + j by omega, ← List.drop_drop, List.drop_take]
    congr 3
    omega
  simp only [spinnakerref18_AllEvents.l0, hlen]
  rw [if_pos h1, if_pos h0, hr0, show rd b pos = rd (b.drop pos.toNat) 0 by simpa using e0]
  simp only [spinnakerref18_AllEvents.j1, hlen]
  generalize b.drop pos.toNat = q at *
  match q, hb', hdl with
  | [], _, hdl => simp at hdl; omega
  | [x], hb', hdl =>
    have hx := hb' x (by simp)
    simp at hdl
    have : event_one.f 2 [x] = some (0, 0, ⟨#[]⟩, 0) := by unfold event_one.f; rw [if_pos (by simp)]
    rw [this, rd0, Z.wrap_small (n := x) (by omega) (by omega), Z.wrap_small (n := pos + 1) (by omega) (by omega)]
    simp only [Option.bind_some, if_true]
    rw [if_neg (c := pos + 1 < (b.length : Int)) (by omega), Z.wrap_small (n := pos + 2) (by omega) (by omega), Z.wrap_small (n := pos + 3) (by omega) (by omega)]
    rw [if_pos (c := pos + 2 > (b.length : Int)) (by omega), if_pos (c := pos + 3 > (b.length : Int)) (by omega)]
    split <;> rfl
  | x :: y :: r, hb', hdl =>
    have hx := hb' x (by simp)
    have hy := hb' y (by simp)
    have hr : Bytes r := fun z hz => hb' z (by simp [hz])
    have hlen' : ((x :: y :: r).length : Int) = (r.length : Int) + 2 := by simp; omega
    rw [hlen'] at hdl
    unfold event_one.f
    rw [hlen', if_neg (c := (r.length : Int) + 2 < 2) (by omega), if_pos (c := 0 < (r.length : Int) + 2) (by omega), rd0, rd1, Z.wrap_small (n := x) (by omega) (by omega), Z.wrap_small (n := y) (by omega) (by omega), Z.wrap_small (n := 2 + y) (by omega) (by omega), Z.wrap_small (n := pos + 1) (by omega) (by omega)]
    rw [if_pos (c := pos + 1 < (b.length : Int)) (by omega), if_pos (c := 0 ≤ pos + 1) (by omega), bt_strOf b hb (pos + 1) (by omega) (by omega), show rd b (pos + 1) = rd (x :: y :: r) 1 by simpa using e1, rd1, Z.wrap_small (n := y) (by omega) (by omega), Z.wrap_small (n := 2 + y) (by omega) (by omega)]
    by_cases h5 : x = 5
    · subst h5
      simp only [if_true]
      rw [if_pos (c := 1 < (r.length : Int) + 2) (by omega), Z.wrap_small (n := pos + (2 + y)) (by omega) (by omega)]
      by_cases hn : 2 + y > (r.length : Int) + 2
      · rw [if_pos hn, if_pos (c := pos + (2 + y) > (b.length : Int)) (by omega)]; rfl
      · rw [if_neg hn, if_neg (c := pos + (2 + y) > (b.length : Int)) (by omega), Z.wrap_small (n := pos + 2) (by omega) (by omega), if_pos (c := 0 ≤ pos + 2) (by omega), if_pos (c := pos + 2 ≤ pos + (2 + y)) (by omega), if_pos (c := pos + (2 + y) ≤ (b.length : Int)) (by omega), if_pos (c := 2 ≤ 2 + y) (by omega), if_pos (c := 2 + y ≤ (r.length : Int) + 2) (by omega)]
        have := hex (2 + y).toNat
        rw [show ((2 + y).toNat : Int) = 2 + y by omega] at this
        rw [this, refmay' k hk, may' 2 (by omega)]
        simp only [Option.bind_some]
        by_cases hmay : may ⟨5, 0, strOfNums (((5 :: y :: r).take (2 + y).toNat).drop 2)⟩ = true
        · rw [if_pos hmay, if_pos hmay]
          simp only [Option.bind_some]
          rw [if_neg (c := 2 + y = 0) (by omega), Z.wrap_small (n := pos + (2 + y)) (by omega) (by omega)]
        · rw [if_neg hmay, if_neg hmay]; rfl
    · simp only [if_neg h5]
      rw [Z.wrap_small (n := pos + 3) (by omega) (by omega)]
      match r, hr, hlen', hdl with
      | [], _, _, hdl => simp at hdl; rw [if_pos (by omega), if_pos (by simp)]; rfl
      | z :: q, hr, hlen', hdl =>
        have hz := hr z (by simp)
        have : ((z :: q).length : Int) = q.length + 1 := by simp
        rw [this] at hdl ⊢
        rw [if_neg (c := pos + 3 > (b.length : Int)) (by omega), if_pos (by omega), if_pos (by omega), Z.wrap_small (n := pos + 2) (by omega) (by omega), if_pos (by omega), if_pos (by omega), if_neg (c := 3 > (q.length : Int) + 1 + 2) (by omega), if_pos (c := 1 < (q.length : Int) + 1 + 2) (by omega), if_pos (c := 2 < (q.length : Int) + 1 + 2) (by omega), rd2, bt_strOf b hb (pos + 2) (by omega) (by omega), show rd b (pos + 2) = rd (x :: y :: z :: q) 2 by simpa using e2, rd2, refmay' k hk, may' 2 (by omega)]
        simp only [Option.bind_some]
        by_cases hmay : may ⟨x, Go.bits .or .i64 (wrap64 (y * 256)) (wrap64 z), ⟨#[]⟩⟩ = true
        · rw [if_pos hmay, if_pos hmay]
          simp only [Option.bind_some]
          rw [if_neg (c := (3 : Int) = 0) (by omega), Z.wrap_small (n := pos + 3) (by omega) (by omega)]
        · rw [if_neg hmay, if_neg hmay]; rfl
theorem refall_l0 (b : List Int) (hb : Bytes b) (hl : b.length ≤ 1000000) (d : Nat) : ∀ (k k' : Nat) (acc : List S50) (pos : Int), 0 ≤ pos → (b.length : Int) - pos ≤ d → pos ≤ b.length → 2 * d + 6 < k → d + 3 < k' → (acc.length : Int) ≤ pos →
    spinnakerref18_AllEvents.l0 k (strOfNums b) acc pos = event_All.l0 k' b acc pos := by
  induction d with
  | zero =>
    intro k k' acc pos h0 h1 h2 hk hk' ha
    obtain ⟨k, rfl⟩ : ∃ m, k = m + 1 := ⟨k - 1, by omega⟩
    obtain ⟨k', rfl⟩ : ∃ m, k' = m + 1 := ⟨k' - 1, by omega⟩
    simp only [spinnakerref18_AllEvents.l0, event_All.l0]
    rw [if_neg (by rw [strOfNums_size]; omega), if_neg (by omega)]
  | succ d ih =>
    intro k k' acc pos h0 h1 h2 hk hk' ha
    by_cases hp : pos < (b.length : Int)
    · obtain ⟨k, rfl⟩ : ∃ m, k = m + 2 := ⟨k - 2, by omega⟩
      obtain ⟨k', rfl⟩ : ∃ m, k' = m + 1 := ⟨k' - 1, by omega⟩
      rw [ref_step b hb hl acc pos h0 hp k (by omega)]
      simp only [event_All.l0]
      rw [if_pos hp, if_pos h0, if_pos h2, one_fuel k' (by omega)]
      obtain ⟨e, n, h3, h4⟩ := one_sound (b.drop pos.toNat) (hb.drop _) (by rw [List.length_drop]; omega) 2 (by omega)
      rw [h3]
      simp only [Option.bind_some]
      by_cases hn : n = 0
      · rw [if_pos hn, if_pos hn]
      · rcases h4 with h4 | ⟨hm, hnl, r, hr⟩
        · exact absurd h4 hn
        have hel := enc_len hm
        have hlen := congrArg List.length hr
        rw [List.length_drop, List.length_append] at hlen
        rw [if_neg hn, if_neg hn, if_pos (by omega), if_pos (by omega), Z.wrap_small (n := pos + n) (by omega) (by omega)]
        exact ih k k' _ (pos + n) (by omega) (by omega) (by omega) (by omega) (by omega) (by simp; omega)
    · obtain ⟨k, rfl⟩ : ∃ m, k = m + 1 := ⟨k - 1, by omega⟩
      obtain ⟨k', rfl⟩ : ∃ m, k' = m + 1 := ⟨k' - 1, by omega⟩
      simp only [spinnakerref18_AllEvents.l0, event_All.l0]
      rw [if_neg (by rw [strOfNums_size]; omega), if_neg hp]
theorem refall (b : List Int) (hb : Bytes b) (hl : b.length ≤ 1000000) (k k' : Nat) (hk : 2 * b.length + 6 < k) (hk' : b.length + 3 < k') : spinnakerref18_AllEvents.f k (strOfNums b) = event_All.f k' b := by
  unfold spinnakerref18_AllEvents.f event_All.f
  exact refall_l0 b hb hl b.length k k' [] 0 (by omega) (by omega) (by omega) hk hk' (by simp)
theorem rest_ok (l : List S50) (b : List Int) (hl : l.length ≤ 30) (hb : Bytes b) (hbl : b.length ≤ 300) (k : Nat) (hk : 2000 ≤ k) :
    ((event_Put.f k l).bind fun bt344 => ((spinnakerref18_PutEvents.f k l).bind fun bt348 => ((event_All.f k b).bind fun bt350 => ((spinnakerref18_AllEvents.f k (strOfNums b)).bind fun bt355 => ((spinnakerlaw23_told.f k).bind fun t360 => (if t360 = true then (if bt344.2 = bt348.2 then (if (strOfNums bt344.1).toList = bt348.1.toList then (if bt350.2.1 = bt355.2.1 then (if bt350.2.2 = bt355.2.2 then ((spinnakerlaw23_events.f k bt350.1 bt355.1).bind fun t361 => (some t361)) else (some false)) else (some false)) else (some false)) else (some false)) else (some false))))))) = some true := by
  rw [put_spec l (by omega) k (by omega), refput l (by omega) k (by omega), refall b hb (by omega) k k (by omega) (by omega), at_rounds (fun k => spinnakerlaw23_told.mono k) (by omega) told_spec]
  obtain ⟨m, c, at_, rest, h1, h2, h3, h4⟩ := all_spec b hb (by omega) k (by omega)
  have hml : m.length ≤ b.length := by
    have : m.length ≤ (encs_ m).length := by
      clear h1 h3 h4
      induction m with
      | nil => simp
      | cons e m ih =>
        have := enc_len (h2 e (by simp))
        have := ih (fun x hx => h2 x (by simp [hx]))
        simp [encs_] at *
        omega
    have h5 := congrArg List.length h3
    rw [List.length_append] at h5
    omega
  rw [h1]
  have h0 : strOfNums [] = ⟨#[]⟩ := by decide
  cases l.all may <;> simp [h0, events_spec m (by omega) k (by omega)]
theorem loop_ok (l : List S50) (b : List Int) (hl : l.length ≤ 30) (hb : Bytes b) (hbl : b.length ≤ 300) (d : Nat) : ∀ (k : Nat) (i : Int), 0 ≤ i → i + d = l.length → d + 2001 ≤ k → spinnakerlaw23_EventAsks.l0 k l b i = some true := by
  induction d with
  | zero =>
    intro k i h0 h1 hk
    obtain ⟨k, rfl⟩ : ∃ m, k = m + 1 := ⟨k - 1, by omega⟩
    simp only [spinnakerlaw23_EventAsks.l0]
    rw [if_neg (by omega)]
    exact rest_ok l b hl hb hbl k (by omega)
  | succ d ih =>
    intro k i h0 h1 hk
    obtain ⟨k, rfl⟩ : ∃ m, k = m + 1 := ⟨k - 1, by omega⟩
    simp only [spinnakerlaw23_EventAsks.l0]
    rw [if_pos (by omega), if_pos h0, may_at k (by omega), refmay k (by omega)]
    simp only [Option.bind_some]
    rw [if_neg (by simp), Z.wrap_small (n := i + 1) (by omega) (by omega)]
    exact ih k (i + 1) (by omega) (by omega) (by omega)
end EvAsksL
open EvAsksL in
theorem EventAsks : spinnakerlaw23_EventAsks.Pure := by
  intro l b hl0 hsz hb0 _
  refine ⟨l.length + 3000, ?_⟩
  have hm : l.length < 9223372036854775807 := by omega
  unfold spinnakerlaw23_EventAsks.f
  obtain ⟨r, h1, h2⟩ := few_spec l 30 hm (l.length + 3000) (by omega)
  rw [h1]
  simp only [Option.bind_some]
  have told (k : Nat) (hk : 40 ≤ k) : spinnakerlaw23_EventAsks.j0 (k + 1) l b true = some true := by
    simp only [spinnakerlaw23_EventAsks.j0]
    rw [at_rounds (fun k => spinnakerlaw23_told.mono k) hk told_spec]
    rfl
  by_cases hr : r = true
  · rw [if_pos hr]
    by_cases hbl : (b.length : Int) > 300
    · rw [decide_eq_true hbl]
      exact told (l.length + 2999) (by omega)
    · rw [decide_eq_false hbl]
      have hb : Bytes b := by
        intro x hx
        have := hb0.2 x hx
        simp [Lit.wf] at this
        exact ⟨Int.le_trans (by decide) this.1, Int.le_trans this.2 (by decide)⟩
      show spinnakerlaw23_EventAsks.j0 (l.length + 2999 + 1) l b false = some true
      simp only [spinnakerlaw23_EventAsks.j0]
      exact loop_ok l b (by have := (h2 hr).1; omega) hb (by omega) l.length _ 0 (by omega) (by omega) (by omega)
  · rw [if_neg hr]
    exact told (l.length + 2999) (by omega)
end Go.Proofs.Ytcdfoicebcmlaaa.Pure
