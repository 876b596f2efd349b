/- An evaluator over abstract heaps: a closed call is run by reckoning alone; what was shown over the empty heap holds over each one. -/
import Derived.Test.YtnebdnbglggdkaaDoorAmW
namespace Go.Proofs.YtnebdnbglggdkaaDoorW.Am
open Go Go.RowKit

/-- Equal, as far as looked into. -/
def eqN : Nat → Value → Value → Bool
  | 0, _, _ => false
  | n + 1, x, y => match x, y with
    | .bool a, .bool b => a == b
    | .int k a, .int l b => decide (k = l) && decide (a = b)
    | .string a, .string b => decide (a.data = b.data)
    | .pointer a, .pointer b => decide (a = b)
    | .slice a i j, .slice b k l => decide (a = b) && decide (i = k) && decide (j = l)
    | .map none, .map none => true
    | .nilFunc, .nilFunc => true
    | .nilIface, .nilIface => true
    | .iface t v, .iface u w => decide (t = u) && eqN n v w
    | .agg ⟨a⟩, .agg ⟨b⟩ => decide (a.length = b.length) && (a.zip b).all fun p => eqN n p.1 p.2
    | .tuple ⟨a⟩, .tuple ⟨b⟩ => decide (a.length = b.length) && (a.zip b).all fun p => eqN n p.1 p.2
    | _, _ => false
theorem zip_eq {p : Value → Value → Bool} : ∀ {a b : List Value}, a.length = b.length → ((a.zip b).all fun q => p q.1 q.2) = true → (∀ x y, p x y = true → x = y) → a = b
  | [], [], _, _, _ => rfl
  | [], _ :: _, h, _, _ => by cases h
  | _ :: _, [], h, _, _ => by cases h
  | x :: a, y :: b, h, k, q => by
    simp only [List.zip_cons_cons, List.all_cons, Bool.and_eq_true] at k
    rw [q x y k.1, zip_eq (by simpa using h) k.2 q]
theorem eqN_eq : ∀ (n : Nat) (x y : Value), eqN n x y = true → x = y := by
  intro n
  induction n with
  | zero => intro x y h; cases h
  | succ n ih =>
    intro x y h
    cases x <;> cases y <;> simp only [eqN, Bool.false_eq_true] at h
    case bool.bool a b => rw [eq_of_beq h]
    case int.int k a l b => simp at h; rw [h.1, h.2]
    case string.string a b => obtain ⟨a⟩ := a; obtain ⟨b⟩ := b; simp at h; rw [h]
    case pointer.pointer a b => simp at h; rw [h]
    case slice.slice a i j b k l => simp at h; rw [h.1.1, h.1.2, h.2]
    case map.map a b => cases a <;> cases b <;> simp_all
    case nilFunc.nilFunc => rfl
    case nilIface.nilIface => rfl
    case iface.iface t v u w => simp at h; rw [h.1, ih v w h.2]
    case agg.agg a b =>
      obtain ⟨a⟩ := a; obtain ⟨b⟩ := b
      simp only [Bool.and_eq_true, decide_eq_true_eq] at h
      rw [zip_eq h.1 h.2 ih]
    case tuple.tuple a b =>
      obtain ⟨a⟩ := a; obtain ⟨b⟩ := b
      simp only [Bool.and_eq_true, decide_eq_true_eq] at h
      rw [zip_eq h.1 h.2 ih]

def selB : Op → Bool
  | .select _ _ => true
  | _ => false
/-- Slots by the bits of their numbers. -/
inductive Tr (α : Type)
  | leaf
  | node (l : Tr α) (v : Option α) (r : Tr α)
def Tr.get {α : Type} : Tr α → Nat → Option α
  | .leaf, _ => none
  | .node l v r, n => match n with
    | 0 => v
    | n + 1 => match Nat.beq (n % 2) 0 with
      | true => l.get (n / 2)
      | false => r.get (n / 2)
def Tr.one {α : Type} (v : α) : Nat → Nat → Tr α
  | 0, _ => .leaf
  | k + 1, n => match n with
    | 0 => .node .leaf (some v) .leaf
    | n + 1 => match Nat.beq (n % 2) 0 with
      | true => .node (Tr.one v k (n / 2)) none .leaf
      | false => .node .leaf none (Tr.one v k (n / 2))
def Tr.set {α : Type} (v : α) : Tr α → Nat → Tr α
  | .leaf, n => Tr.one v 20 n
  | .node l x r, n => match n with
    | 0 => .node l (some v) r
    | n + 1 => match Nat.beq (n % 2) 0 with
      | true => .node (l.set v (n / 2)) x r
      | false => .node l x (r.set v (n / 2))
theorem Tr.one_get {α : Type} (v : α) : ∀ (k n m : Nat) (u : α), (Tr.one v k n).get m = some u → m = n ∧ u = v := by
  intro k
  induction k with
  | zero => intro n m u e; cases e
  | succ k ih =>
    intro n m u e
    cases n with
    | zero =>
      cases m with
      | zero => simp only [Tr.one, Tr.get, Option.some.injEq] at e; exact ⟨rfl, e.symm⟩
      | succ m => simp only [Tr.one, Tr.get] at e; split at e <;> cases e
    | succ n =>
      simp only [Tr.one] at e
      cases hb : Nat.beq (n % 2) 0 <;> rw [hb] at e <;> cases m <;> simp only [Tr.get, reduceCtorEq] at e
      · next m =>
        cases hm : Nat.beq (m % 2) 0 <;> rw [hm] at e <;> simp only [reduceCtorEq] at e
        obtain ⟨h1, h2⟩ := ih _ _ _ e
        have a1 := Nat.ne_of_beq_eq_false hb
        have a2 := Nat.ne_of_beq_eq_false hm
        exact ⟨by omega, h2⟩
      · next m =>
        cases hm : Nat.beq (m % 2) 0 <;> rw [hm] at e <;> simp only [reduceCtorEq] at e
        obtain ⟨h1, h2⟩ := ih _ _ _ e
        have a1 := Nat.eq_of_beq_eq_true hb
        have a2 := Nat.eq_of_beq_eq_true hm
        exact ⟨by omega, h2⟩
theorem Tr.set_get {α : Type} (v : α) : ∀ (t : Tr α) (n m : Nat) (u : α), (t.set v n).get m = some u → (m = n ∧ u = v) ∨ (m ≠ n ∧ t.get m = some u) := by
  intro t
  induction t with
  | leaf => intro n m u e; exact .inl (Tr.one_get v _ _ _ _ e)
  | node l x r ihl ihr =>
    intro n m u e
    cases n with
    | zero =>
      cases m with
      | zero => simp only [Tr.set, Tr.get, Option.some.injEq] at e; exact .inl ⟨rfl, e.symm⟩
      | succ m => exact .inr ⟨by omega, e⟩
    | succ n =>
      simp only [Tr.set] at e
      cases hb : Nat.beq (n % 2) 0 <;> rw [hb] at e <;> cases m
      · exact .inr ⟨by omega, e⟩
      · next m =>
        simp only [Tr.get] at e ⊢
        have a1 := Nat.ne_of_beq_eq_false hb
        cases hm : Nat.beq (m % 2) 0 <;> rw [hm] at e <;> simp only at e ⊢
        · have a2 := Nat.ne_of_beq_eq_false hm
          rcases ihr _ _ _ e with ⟨h1, h2⟩ | ⟨h1, h2⟩
          · exact .inl ⟨by omega, h2⟩
          · exact .inr ⟨by intro h3; cases h3; exact h1 rfl, h2⟩
        · have a2 := Nat.eq_of_beq_eq_true hm
          exact .inr ⟨by intro h3; cases h3; exact a1 a2, e⟩
      · exact .inr ⟨by omega, e⟩
      · next m =>
        simp only [Tr.get] at e ⊢
        have a1 := Nat.eq_of_beq_eq_true hb
        cases hm : Nat.beq (m % 2) 0 <;> rw [hm] at e <;> simp only at e ⊢
        · have a2 := Nat.ne_of_beq_eq_false hm
          exact .inr ⟨by intro h3; cases h3; exact a2 a1, e⟩
        · have a2 := Nat.eq_of_beq_eq_true hm
          rcases ihl _ _ _ e with ⟨h1, h2⟩ | ⟨h1, h2⟩
          · exact .inl ⟨by omega, h2⟩
          · exact .inr ⟨by intro h3; cases h3; exact h1 rfl, h2⟩
abbrev ET := Tr Value
/-- The slots told, out of all. -/
def few (t : ET) : List Nat → Env
  | [] => []
  | s :: r => match t.get s with
    | some v => (s, v) :: few t r
    | none => few t r
theorem few_get {t : ET} : ∀ {l : List Nat} {s : Nat} {v : Value}, Env.get (few t l) s = some v → t.get s = some v
  | [], s, v, e => by cases e
  | a :: l, s, v, e => by
    simp only [few] at e
    split at e
    · next u hu =>
      simp only [Env.get] at e
      split at e
      · next h => subst h; rw [hu]; exact e
      · exact few_get e
    · exact few_get e
abbrev Cf := FuncId → List Value → Hp → Option (Value × Hp)
def evIn (P : Program) (cf : Cf) (i : In) (env : Env) (h : Hp) : Option (Value × Hp) :=
  match wanted i.g env with
  | none => none
  | some false => some (undef, h)
  | some true => match i.k with
    | .op k xs => match mapE env xs with
      | none => none
      | some vs => stepK k vs h
    | .fl op ty => if selB op then none else match flatStep P env op ty with
      | none => none
      | some v => some (v, h)
    | .call f xs => match mapE env xs with
      | none => none
      | some vs => cf f vs h
    | .callv x xs => match evA env x, mapE env xs with
      | some (.func (.func f) a b), some vs => cf f (a.toList ++ vs ++ b.toList) h
      | _, _ => none
def putE (t : ET) (d : Option Nat) (v : Value) : ET :=
  match d with
  | some d => t.set v d
  | none => t
def evS (P : Program) (cf : Cf) : List In → ET → Hp → Option (ET × Hp)
  | [], t, h => some (t, h)
  | i :: r, t, h => match evIn P cf i (few t (looks i)) h with
    | some (v, h') => evS P cf r (putE t i.d v) h'
    | none => none
/-- A read that is made again finds what it found. -/
def agB (i : In) (env : Env) (h : Hp) : Bool :=
  match wanted i.g env, i.k, i.d with
  | some false, _, _ => true
  | some true, .op .ld1 xs, some d => match mapE env xs with
    | some vs => match env.get d, stepK .ld1 vs h with
      | some v, some (u, _) => eqN 8 u v
      | _, _ => false
    | none => false
  | some true, .op (.ldn c) xs, some d => match mapE env xs with
    | some vs => match env.get d, stepK (.ldn c) vs h with
      | some v, some (u, _) => eqN 8 u v
      | _, _ => false
    | none => false
  | _, _, _ => false
def dOf (i : In) : List Nat := match i.d with | some d => d :: looks i | none => looks i
def evD (P : Program) (cf : Cf) : List DE → ET → Hp → Option (ET × Hp)
  | [], t, h => some (t, h)
  | x :: r, t, h => match evIn P cf x.i (few t (looks x.i)) h with
    | some (v, h') => if (x.re.all fun i => agB i (few t (dOf i)) h') = true then evD P cf r (putE t x.i.d v) h' else none
    | none => none
def resT : List ResultVar → List Nat
  | [] => []
  | .tmp t :: r => t :: resT r
  | .cell a _ :: r => a :: resT r
def argT : Nat → List Value → ET → ET
  | _, [], t => t
  | k, v :: r, t => argT (k + 1) r (t.set v k)
def evC (P : Program) (F : Nat → Option FI) : Nat → IC → ET → Hp → Option (Exit × ET × Hp)
  | 0, _, _, _ => none
  | k + 1, c, t, h =>
    let cf : Cf := fun f args h => match F f with
      | some fi => if args.length ≤ fi.n then (match evC P F k fi.body (argT 0 args .leaf) h with
        | some (.normal, e, h') | some (.ret, e, h') => match resAll P (few e (resT fi.res)) h' fi.res with
          | some vs => some (pack vs, h')
          | none => none
        | _ => none) else none
      | none => none
    match c with
    | .skip => some (.normal, t, h)
    | .reg ins => match evS P cf ins t h with
      | some (e, h') => some (.normal, e, h')
      | none => none
    | .drw L => match evD P cf L t h with
      | some (e, h') => some (.normal, e, h')
      | none => none
    | .seq a b => match evC P F k a t h with
      | some (.normal, e, h') => evC P F k b e h'
      | r => r
    | .cond x a b => match evA (few t (tmpsOf [x])) x with
      | some (.bool true) => evC P F k a t h
      | some (.bool false) => evC P F k b t h
      | _ => none
    | .block id a => match evC P F k a t h with
      | some (.exit j, e, h') => if j = id then some (.normal, e, h') else some (.exit j, e, h')
      | r => r
    | .loop a => match evC P F k a t h with
      | some (.normal, e, h') => evC P F k (.loop a) e h'
      | r => r
    | .exit id => some (.exit id, t, h)
    | .ret => some (.ret, t, h)
/-- A closed call. -/
def run (P : Program) (F : Nat → Option FI) (k : Nat) (f : FuncId) (args : List Value) (h : Hp) : Option (Value × Hp) :=
  match F f with
  | some fi => if args.length ≤ fi.n then (match evC P F k fi.body (argT 0 args .leaf) h with
    | some (.normal, e, h') | some (.ret, e, h') => match resAll P (few e (resT fi.res)) h' fi.res with
      | some vs => some (pack vs, h')
      | none => none
    | _ => none) else none
  | none => none

/-- What is told of the slots is so. -/
def TLe (t : ET) (env : Env) : Prop := ∀ s v, t.get s = some v → env.get s = some v
theorem TLe.few {t : ET} {env : Env} (h : TLe t env) (l : List Nat) : EnvLe (few t l) env := fun s v e => h s v (few_get e)
theorem TLe.put {t : ET} {env : Env} (h : TLe t env) (d : Option Nat) (v : Value) : TLe (putE t d v) (env.put d v) := by
  intro s u e
  cases d with
  | none => exact h _ _ e
  | some d =>
    simp only [putE] at e
    simp only [Env.put, Env.get]
    rcases Tr.set_get v t d s u e with ⟨rfl, rfl⟩ | ⟨h1, h2⟩
    · rw [if_pos rfl]
    · rw [if_neg (fun h3 => h1 h3.symm)]; exact h _ _ h2
theorem argT_le : ∀ (args : List Value) (k : Nat) (t : ET), (∀ s v, t.get s = some v → s < k) → ∀ s v, (argT k args t).get s = some v → (s < k ∧ t.get s = some v) ∨ (k ≤ s ∧ args[s - k]? = some v) := by
  intro args
  induction args with
  | nil => intro k t ht s v e; exact .inl ⟨ht s v e, e⟩
  | cons a args ih =>
    intro k t ht s v e
    have h1 : ∀ s v, (t.set a k).get s = some v → s < k + 1 := by
      intro s v e
      rcases Tr.set_get a t k s v e with ⟨rfl, _⟩ | ⟨_, h2⟩
      · omega
      · have := ht s v h2; omega
    rcases ih (k + 1) _ h1 s v e with ⟨h2, h3⟩ | ⟨h2, h3⟩
    · rcases Tr.set_get a t k s v h3 with ⟨rfl, rfl⟩ | ⟨h4, h5⟩
      · exact .inr ⟨Nat.le_refl _, by simp⟩
      · exact .inl ⟨by omega, h5⟩
    · exact .inr ⟨by omega, by rw [show s - k = (s - (k + 1)) + 1 by omega]; simpa using h3⟩
theorem envOf_at : ∀ (l : List Value) (k s : Nat) (v : Value), k ≤ s → l[s - k]? = some v → (envOf k l).get s = some v
  | [], _, _, _, _, e => by simp at e
  | a :: l, k, s, v, hk, e => by
    simp only [envOf, Env.get]
    by_cases h : k = s
    · subst h; simp at e; rw [if_pos rfl, e]
    · rw [if_neg h]
      refine envOf_at l (k + 1) s v (by omega) ?_
      rw [show s - k = (s - (k + 1)) + 1 by omega] at e
      simpa using e
theorem argT_TLe (args : List Value) : TLe (argT 0 args .leaf) (envOf 0 args) := by
  intro s v e
  rcases argT_le args 0 .leaf (by intro s v e; cases e) s v e with ⟨h, _⟩ | ⟨h1, h2⟩
  · omega
  · exact envOf_at args 0 s v h1 h2

section
variable {P : Program} {cf : Cf} {env env' : Env} {h h' : Hp}
theorem evA_le (hl : EnvLe env env') {x : Operand} {v : Value} (e : evA env x = some v) : evA env' x = some v := by
  cases x <;> simp only [evA] at e ⊢ <;> first | exact hl _ _ e | exact e
theorem mapE_le (hl : EnvLe env env') : ∀ {xs : List Operand} {vs : List Value}, mapE env xs = some vs → mapE env' xs = some vs := by
  intro xs
  induction xs with
  | nil => intro vs e; exact e
  | cons x xs ih =>
    intro vs e
    simp only [mapE] at e
    split at e
    case h_2 => cases e
    case h_1 v hv =>
    split at e
    case h_2 => cases e
    case h_1 us hus =>
    cases e
    simp only [mapE, evA_le hl hv, ih hus]
theorem wanted_le (hl : EnvLe env env') {g : Option (Nat × Bool)} {b : Bool} (e : wanted g env = some b) : wanted g env' = some b := by
  cases g with
  | none => exact e
  | some p =>
    obtain ⟨t, c⟩ := p
    simp only [wanted] at e ⊢
    split at e
    · next x hx => rw [hl _ _ hx]; exact e
    · next hx => rw [hl _ _ hx]; exact e
    · cases e
theorem flatStep_le (hl : EnvLe env env') {op : Op} {ty : TypeId} {v : Value} (hs : ∀ cs b, op ≠ .select cs b) (e : flatStep P env op ty = some v) : flatStep P env' op ty = some v := by
  have h0 := e
  unfold flatStep at h0
  split at h0
  case isFalse => cases h0
  case isTrue ha =>
  rw [← e]
  refine (flatStep_congr hs fun t ht => ?_).symm
  unfold allFlat at ha
  rw [List.all_eq_true] at ha
  have hm : Operand.tmp t ∈ op.operands.toList := by
    have : ∀ {xs : List Operand}, t ∈ tmpsOf xs → Operand.tmp t ∈ xs := by
      intro xs
      induction xs with
      | nil => intro h; cases h
      | cons x xs ih => intro h; cases x <;> simp [tmpsOf] at h <;> first | (rcases h with rfl | h; exact List.mem_cons_self; exact List.mem_cons_of_mem _ (ih h)) | exact List.mem_cons_of_mem _ (ih h)
    exact this ht
  have := ha _ hm
  simp only [evA] at this
  cases hg : env.get t with
  | none => rw [hg] at this; cases this
  | some u => exact (hl _ _ hg).symm
theorem wpS_mono {ins : List In} {Q Q' : Env → Hp → Prop} (hq : ∀ e h, Q e h → Q' e h) : ∀ {env : Env} {h : Hp}, wpS P (ACall P) ins env h Q → wpS P (ACall P) ins env h Q' := by
  induction ins with
  | nil => intro env h a; exact hq _ _ a
  | cons i r ih => intro env h a; exact wpIn_mono a fun _ _ => ih
theorem wpD_mono {L : List DE} {Q Q' : Env → Hp → Prop} (hq : ∀ e h, Q e h → Q' e h) : ∀ {env : Env} {h : Hp}, wpD P (ACall P) L env h Q → wpD P (ACall P) L env h Q' := by
  induction L with
  | nil => intro env h a; exact hq _ _ a
  | cons i r ih => intro env h a; exact wpIn_mono a fun _ _ ⟨h1, h2⟩ => ⟨h1, ih h2⟩
theorem evIn_sound (hc : ∀ f vs h v h', cf f vs h = some (v, h') → ACall P f vs h (fun u g => u = v ∧ g = h')) (hl : EnvLe env env') {i : In} {v : Value} {R : Value → Hp → Prop} (e : evIn P cf i env h = some (v, h')) (r : R v h') : wpIn P (ACall P) i env' h R := by
  unfold evIn at e
  unfold wpIn
  split at e
  · cases e
  · next hw => cases e; simp only [wanted_le hl hw]; exact r
  · next hw =>
    simp only [wanted_le hl hw]
    split at e
    · next k xs hik =>
      split at e
      · cases e
      · next vs hv => simp only [hik, mapE_le hl hv, e]; exact r
    · next op ty hik =>
      split at e
      · cases e
      next hns =>
      split at e
      · cases e
      · next u hv =>
        cases e
        simp only [hik, flatStep_le hl (by rintro cs b rfl; exact hns rfl) hv]; exact r
    · next hik =>
      split at e
      · cases e
      · next vs hv =>
        simp only [hik, mapE_le hl hv]
        exact (hc _ _ _ _ _ e).mono fun _ _ ⟨h1, h2⟩ => by rw [h1, h2]; exact r
    · next hik =>
      split at e
      · next h1 h2 =>
        simp only [hik, evA_le hl h1, mapE_le hl h2]
        exact (hc _ _ _ _ _ e).mono fun _ _ ⟨h1, h2⟩ => by rw [h1, h2]; exact r
      · cases e
theorem evS_sound (hc : ∀ f vs h v h', cf f vs h = some (v, h') → ACall P f vs h (fun u g => u = v ∧ g = h')) : ∀ {ins : List In} {env : ET} {env' : Env} {h : Hp} {e : ET} {h' : Hp}, TLe env env' → evS P cf ins env h = some (e, h') → wpS P (ACall P) ins env' h (fun e2 h2 => TLe e e2 ∧ h2 = h') := by
  intro ins
  induction ins with
  | nil => intro env env' h e h' hl ev; cases ev; exact ⟨hl, rfl⟩
  | cons i r ih =>
    intro env env' h e h' hl ev
    simp only [evS] at ev
    split at ev
    · next v h1 hv => exact evIn_sound hc (hl.few _) hv (ih (hl.put _ _) ev)
    · cases ev
theorem agB_sound (hl : EnvLe env env') {i : In} (e : agB i env h = true) : again i env' h := by
  unfold agB at e
  unfold again
  split at e
  · next hw => rw [wanted_le hl hw]; trivial
  · next xs d hw hik hid =>
    rw [wanted_le hl hw, hik, hid]
    simp only
    split at e
    · next vs hv =>
      simp only [mapE_le hl hv]
      split at e
      · next v u h2 hd hs =>
        simp only [hl _ _ hd]
        rw [hs, readK_step rfl hs, eqN_eq _ _ _ e]
      · cases e
    · cases e
  · next c xs d hw hik hid =>
    rw [wanted_le hl hw, hik, hid]
    simp only
    split at e
    · next vs hv =>
      simp only [mapE_le hl hv]
      split at e
      · next v u h2 hd hs =>
        simp only [hl _ _ hd]
        rw [hs, readK_step rfl hs, eqN_eq _ _ _ e]
      · cases e
    · cases e
  · cases e
theorem agAll_sound {t : ET} (hl : TLe t env') : ∀ {l : List In}, (l.all fun i => agB i (few t (dOf i)) h) = true → allAgain l env' h := by
  intro l
  induction l with
  | nil => intro _; trivial
  | cons i r ih =>
    intro e
    simp only [List.all_cons, Bool.and_eq_true] at e
    exact ⟨agB_sound (hl.few _) e.1, ih e.2⟩
theorem evD_sound (hc : ∀ f vs h v h', cf f vs h = some (v, h') → ACall P f vs h (fun u g => u = v ∧ g = h')) : ∀ {L : List DE} {env : ET} {env' : Env} {h : Hp} {e : ET} {h' : Hp}, TLe env env' → evD P cf L env h = some (e, h') → wpD P (ACall P) L env' h (fun e2 h2 => TLe e e2 ∧ h2 = h') := by
  intro L
  induction L with
  | nil => intro env env' h e h' hl ev; cases ev; exact ⟨hl, rfl⟩
  | cons x r ih =>
    intro env env' h e h' hl ev
    simp only [evD] at ev
    split at ev
    · next v h1 hv =>
      split at ev
      · next ha => exact evIn_sound hc (hl.few _) hv ⟨agAll_sound hl ha, ih (hl.put _ _) ev⟩
      · cases ev
    · cases ev
end
/-- The functions are the program's. -/
def Have (P : Program) (F : Nat → Option FI) : Prop := ∀ f fi, F f = some fi → ∃ fn, P.funcs[f]? = some fn ∧ compF P fn = some fi
/-- A loop whose frame is told by slots. -/
theorem ai_loopT {P : Program} {n : Nat} {x : IC} {env : Env} {h : Hp} {Q : Exit → Env → Hp → Prop} {γ : Type} (E : γ → ET) (H : γ → Hp → Prop) (mu : γ → Nat) (g0 : γ) (hE : TLe (E g0) env) (hH : H g0 h)
    (round : ∀ g env h, TLe (E g) env → H g h → AI P n x env h (fun e env' h' => match e with | .normal => ∃ g', TLe (E g') env' ∧ H g' h' ∧ mu g' < mu g | e => Q e env' h')) : AI P n (.loop x) env h Q := by
  refine ai_loop (fun env h k => ∃ g, TLe (E g) env ∧ H g h ∧ mu g = k) (k0 := mu g0) ⟨g0, hE, hH, rfl⟩ ?_
  rintro env h k ⟨g, h1, h2, rfl⟩
  refine (round g env h h1 h2).mono ?_
  intro e env' h' q
  cases e with
  | normal => obtain ⟨g', k1, k2, k3⟩ := q; exact ⟨mu g', k3, g', k1, k2, rfl⟩
  | exit i => exact q
  | goto i => exact q
  | ret => exact q
  | panic c => exact q
  | outgrown => exact q
theorem run_of {P : Program} {F : Nat → Option FI} (hF : Have P F) {k : Nat} (ih : ∀ {n : Nat} {c : IC} {env : ET} {env' : Env} {h : Hp} {x : Exit} {e : ET} {h' : Hp}, TLe env env' → evC P F k c env h = some (x, e, h') → AI P n c env' h (fun x2 e2 h2 => x2 = x ∧ TLe e e2 ∧ h2 = h'))
    {f : FuncId} {vs : List Value} {h : Hp} {v : Value} {h' : Hp} (hv : run P F k f vs h = some (v, h')) : ACall P f vs h (fun u g => u = v ∧ g = h') := by
  unfold run at hv
  split at hv
  case h_2 => cases hv
  case h_1 fi hfi =>
  split at hv
  case isFalse => cases hv
  case isTrue hn =>
  obtain ⟨fn, hf, hcf⟩ := hF f fi hfi
  have fin : ∀ x2 e h2 vs2, (x2 = .normal ∨ x2 = .ret) → evC P F k fi.body (argT 0 vs .leaf) h = some (x2, e, h2) → resAll P (few e (resT fi.res)) h2 fi.res = some vs2 → ACall P f vs h (fun u g => u = pack vs2 ∧ g = h2) := by
    intro x2 e h2 vs2 hx hev hres
    refine acall hf hcf hn ((ih (argT_TLe vs) hev).mono ?_)
    rintro x3 e3 h3 ⟨rfl, hle, rfl⟩
    have : resAll P e3 h3 fi.res = some vs2 := by
      rw [← hres]
      have hone : ∀ (y : ResultVar) (v : Value), resOne P (few e (resT fi.res)) h3 y = some v → resOne P e3 h3 y = some v := by
        intro y v hy
        cases y with
        | tmp t => exact hle.few _ _ _ hy
        | cell a t =>
          simp only [resOne] at hy ⊢
          split at hy
          · next hg => rw [hle.few _ _ _ hg]; exact hy
          · cases hy
      have hall : ∀ (l : List ResultVar) (vs : List Value), resAll P (few e (resT fi.res)) h3 l = some vs → resAll P e3 h3 l = some vs := by
        intro l
        induction l with
        | nil => intro vs hv; exact hv
        | cons y l ihl =>
          intro vs hv
          simp only [resAll] at hv ⊢
          split at hv
          · next h1 h2 => rw [hone _ _ h1, ihl _ h2]; exact hv
          · cases hv
      rw [hres]
      exact hall _ _ hres
    rcases hx with rfl | rfl
    · exact ⟨vs2, this, rfl, rfl⟩
    · exact ⟨vs2, this, rfl, rfl⟩
  split at hv
  · next e2 h2 hev =>
    split at hv
    · next vs2 hres => cases hv; exact fin _ _ _ _ (.inl rfl) hev hres
    · cases hv
  · next e2 h2 hev =>
    split at hv
    · next vs2 hres => cases hv; exact fin _ _ _ _ (.inr rfl) hev hres
    · cases hv
  · cases hv
theorem evC_sound {P : Program} {F : Nat → Option FI} (hF : Have P F) (hm : P.follows .mixedOrders = true) : ∀ (k : Nat) {n : Nat} {c : IC} {env : ET} {env' : Env} {h : Hp} {x : Exit} {e : ET} {h' : Hp}, TLe env env' → evC P F k c env h = some (x, e, h') →
    AI P n c env' h (fun x2 e2 h2 => x2 = x ∧ TLe e e2 ∧ h2 = h') := by
  intro k
  induction k using Nat.strongRecOn with
  | _ k ih =>
    intro n c env env' h x e h' hl ev
    cases k with
    | zero => cases ev
    | succ k =>
      have hc : ∀ f vs h v h', run P F k f vs h = some (v, h') → ACall P f vs h (fun u g => u = v ∧ g = h') := fun f vs h v h' hv => run_of hF (fun hl hev => ih k (Nat.lt_succ_self k) hl hev) hv
      cases c with
      | skip => simp only [evC] at ev; cases ev; exact ai_skip ⟨rfl, hl, rfl⟩
      | exit id => simp only [evC] at ev; cases ev; exact ai_exit ⟨rfl, hl, rfl⟩
      | ret => simp only [evC] at ev; cases ev; exact ai_ret ⟨rfl, hl, rfl⟩
      | reg ins =>
        simp only [evC] at ev
        split at ev
        · next hev =>
          cases ev
          refine ai_reg ?_
          exact wpS_mono (fun _ _ ⟨h1, h2⟩ => ⟨rfl, h1, h2⟩) (evS_sound (cf := run P F k) hc hl hev)
        · cases ev
      | drw L =>
        simp only [evC] at ev
        split at ev
        · next hev =>
          cases ev
          refine ai_drw hm ?_
          exact wpD_mono (fun _ _ ⟨h1, h2⟩ => ⟨rfl, h1, h2⟩) (evD_sound (cf := run P F k) hc hl hev)
        · cases ev
      | seq a b =>
        simp only [evC] at ev
        split at ev
        · next e1 h1 hev =>
          refine ai_seq ((ih k (Nat.lt_succ_self k) hl hev).mono ?_)
          rintro x2 e2 h2 ⟨rfl, hle, rfl⟩
          exact ih k (Nat.lt_succ_self k) hle ev
        · next hne =>
          refine ai_seq ((ih k (Nat.lt_succ_self k) hl ev).mono ?_)
          rintro x2 e2 h2 ⟨rfl, hle, rfl⟩
          cases x2 with
          | normal => exact absurd ev (hne _ _)
          | _ => exact ⟨rfl, hle, rfl⟩
      | cond y a b =>
        simp only [evC] at ev
        split at ev
        · next hy => exact ai_cond (evA_le (hl.few _) hy) (fun _ => ih k (Nat.lt_succ_self k) hl ev) (fun hb => by cases hb)
        · next hy => exact ai_cond (evA_le (hl.few _) hy) (fun hb => by cases hb) (fun _ => ih k (Nat.lt_succ_self k) hl ev)
        · cases ev
      | block id a =>
        simp only [evC] at ev
        split at ev
        · next j e1 h1 hev =>
          refine ai_block ((ih k (Nat.lt_succ_self k) hl hev).mono ?_)
          rintro x2 e2 h2 ⟨rfl, hle, rfl⟩
          simp only [blockQ]
          split at ev
          · next hj => rw [if_pos hj]; cases ev; exact ⟨rfl, hle, rfl⟩
          · next hj => rw [if_neg hj]; cases ev; exact ⟨rfl, hle, rfl⟩
        · next hne =>
          refine ai_block ((ih k (Nat.lt_succ_self k) hl ev).mono ?_)
          rintro x2 e2 h2 ⟨rfl, hle, rfl⟩
          cases x2 with
          | exit j => exact absurd ev (hne _ _ _)
          | _ => exact ⟨rfl, hle, rfl⟩
      | loop a =>
        refine ai_loopT (γ := ET × Nat) (fun g => g.1) (fun g h1 => g.2 ≤ k + 1 ∧ evC P F g.2 (.loop a) g.1 h1 = some (x, e, h')) (fun g => g.2) (env, k + 1) hl ⟨Nat.le_refl _, ev⟩ ?_
        rintro ⟨e1, j⟩ env1 h1 hl1 ⟨hj, ev1⟩
        dsimp only at hj ev1 hl1 ⊢
        cases j with
        | zero => cases ev1
        | succ j =>
          simp only [evC] at ev1
          split at ev1
          · next e2 h2 hev =>
            refine (ih j (by omega) hl1 hev).mono ?_
            rintro x3 e3 h3 ⟨rfl, hle, rfl⟩
            exact ⟨(e2, j), hle, ⟨by dsimp only; omega, ev1⟩, by dsimp only; omega⟩
          · next hne =>
            refine (ih j (by omega) hl1 ev1).mono ?_
            rintro x3 e3 h3 ⟨rfl, hle, rfl⟩
            cases x3 with
            | normal => exact absurd ev1 (hne _ _)
            | _ => exact ⟨rfl, hle, rfl⟩
theorem run_sound {P : Program} {F : Nat → Option FI} (hF : Have P F) (hm : P.follows .mixedOrders = true) {k : Nat} {f : FuncId} {args : List Value} {h : Hp} {v : Value} {h' : Hp} (e : run P F k f args h = some (v, h')) : ACall P f args h (fun u g => u = v ∧ g = h') :=
  run_of hF (fun hl hev => evC_sound hF hm k hl hev) e
/-- Is the answer true? -/
def yes : Option (Value × Hp) → Bool
  | some (.bool true, _) => true
  | _ => false
theorem yes_of {r : Option (Value × Hp)} (e : yes r = true) : ∃ h, r = some (.bool true, h) := by
  unfold yes at e
  split at e
  · exact ⟨_, rfl⟩
  · cases e
/-- What is shown over the empty heap holds over each one, for arguments without addresses. -/
theorem acall_frame {P : Program} {f : FuncId} {args : List Value} {R : Value → Prop} (h : Hp) (hf : flatL args = true) (hv : ∀ v, R v → flat v = true) (c : ACall P f args Hp.empty (fun v _ => R v)) : ACall P f args h (fun v g => R v ∧ h = g) := by
  refine ⟨c.1, fun base w0 m w args' ra s => ?_⟩
  have ea : args' = args := ra.flat_eq hf
  subst ea
  refine (c.2 w.heap.size w ⟨fun _ => none, fun _ => none⟩ w args' (RVs.of_flat hf) (Sim.empty w (s.below.tb.of s.below.bl s.big))).mono ?_
  rintro e w' ⟨m', v, v', h', rfl, _, rv, s', hr⟩
  have ev := rv.flat_eq (hv v hr)
  subst ev
  refine ⟨m, v', v', h, rfl, m.le_refl, RV.of_flat m v' (hv v' hr), ?_, hr, rfl⟩
  have hlt : ∀ b, b < w.heap.size → w'.heap[b]? = w.heap[b]? := s'.below.bl.block
  refine s.world ⟨s'.below.bl.os, s'.below.bl.tape, s'.below.bl.output, s'.below.bl.size, fun b hb => hlt b (Nat.lt_of_lt_of_le hb s.big)⟩ s'.below.dr s'.below.bl.size (fun b es ck hb => hlt b (Array.getElem?_eq_some_iff.1 hb).1) fun i l ob _ hm => hlt _ (s.lt i l hm)
/-- Functions by their numbers. -/
def look : List (Nat × FI) → Nat → Option FI
  | [], _ => none
  | (k, x) :: r, f => if Nat.beq k f = true then some x else look r f
theorem have_nil (P : Program) : Have P (look []) := fun _ _ e => by cases e
theorem have_cons {P : Program} {l : List (Nat × FI)} {k : Nat} {x : FI} {fn : Func} (hf : P.funcs[k]? = some fn) (hc : compF P fn = some x) (h : Have P (look l)) : Have P (look ((k, x) :: l)) := by
  intro f fi e
  simp only [look] at e
  split at e
  · next hk => cases e; rw [← Nat.eq_of_beq_eq_true hk]; exact ⟨fn, hf, hc⟩
  · exact h f fi e
/-- A closed function that answers true does so over every heap. -/
theorem closed_true {P : Program} {F : Nat → Option FI} (hF : Have P F) (hm : P.follows .mixedOrders = true) (k : Nat) {f : FuncId} {args : List Value} (hf : flatL args = true) (e : yes (run P F k f args Hp.empty) = true) (h : Hp) : ACall P f args h (fun v g => v = .bool true ∧ h = g) := by
  obtain ⟨h1, e1⟩ := yes_of e
  exact acall_frame (R := fun v => v = .bool true) h hf (by rintro v rfl; rfl) ((run_sound hF hm e1).mono fun _ _ ⟨h2, _⟩ => h2)
/-- A closed function with a plain answer. -/
theorem closed_val {P : Program} {F : Nat → Option FI} (hF : Have P F) (hm : P.follows .mixedOrders = true) (k : Nat) {f : FuncId} {args : List Value} {v : Value} (hf : flatL args = true) (hv : flat v = true) (e : (run P F k f args Hp.empty).map (·.1) = some v) (h : Hp) : ACall P f args h (fun u g => u = v ∧ h = g) := by
  cases hr : run P F k f args Hp.empty with
  | none => rw [hr] at e; cases e
  | some r =>
    obtain ⟨u, h1⟩ := r
    rw [hr] at e
    cases e
    exact acall_frame (R := fun u' => u' = u) h hf (by rintro _ rfl; exact hv) ((run_sound hF hm hr).mono fun _ _ ⟨h2, _⟩ => h2)
end Go.Proofs.YtnebdnbglggdkaaDoorW.Am
