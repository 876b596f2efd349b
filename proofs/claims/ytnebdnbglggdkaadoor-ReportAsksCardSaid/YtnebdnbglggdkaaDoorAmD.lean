/- What one operation does to an abstract heap: the kinds of operations. -/
import Derived.Test.YtnebdnbglggdkaaDoorAmC
import Derived.Laws.Tables
import Derived.Laws.MakeOwn
import Derived.Great.BuildSlice
namespace Go.Proofs.YtnebdnbglggdkaaDoorW.Am
open Go Go.RowKit

/-- The kinds of operations, with what the program's tables tell of them. -/
inductive K
  | mv | pick | bin (op : BinOp) | bbin (op : BinOp) | isn (neg : Bool) | not | neg | cvt (k : IntKind)
  | new (e : TypeId) (z : Value) | box (e : TypeId)
  | bld (z : Array Value) (pls : List (Nat × Nat)) (ix : List Nat)
  | bsl (e : TypeId) (esz len : Nat) (z : Array Value) (ix : List Nat)
  | ld1 | ldn (n : Nat) | st (n : Nat)
  | nck | ifc (t : TypeId) | tas (t : TypeId) (ok : Bool) (z : Value) | clo (fn : Fn) (nf : Nat)
  | mks (e : TypeId) (esz bytes : Nat) (z : Array Value)
  | slc (esz : Nat) (lo hi mx : Bool) | sla (n esz : Nat) (lo hi mx : Bool) | sls (lo hi : Bool)
  | fad (off : Nat) | fld (off n : Nat) (agg : Bool)
  | iad (esz : Nat) | iaa (len esz : Nat) | ixa (len esz n : Nat) (agg : Bool) | ixs
  | ext (i : Nat) | len | lens | lenc (n : Nat)
  | app (e : TypeId) (esz bytes : Nat) | aps (e : TypeId)
  | cpy (esz : Nat) | clr (esz : Nat) (z : Value)
  | b2s | s2b (e : TypeId) | mm (mx : Bool)
  | mkm | mlk (z : Value) (ok : Bool) | mup
  deriving Inhabited

def binA (op : BinOp) : Value → Value → Option Value
  | .int k a, .int k' b =>
    match op with
    | .shl => if b < 0 then none else some (.int k (k.wrap (a * 2 ^ (min b.toNat k.bits))))
    | .shr => if b < 0 then none else some (.int k (a.fdiv (2 ^ (min b.toNat k.bits))))
    | .add => if k = k' then some (.int k (k.wrap (a + b))) else none
    | .sub => if k = k' then some (.int k (k.wrap (a - b))) else none
    | .mul => if k = k' then some (.int k (k.wrap (a * b))) else none
    | .quo => if k = k' ∧ b ≠ 0 then some (.int k (k.wrap (a.tdiv b))) else none
    | .rem => if k = k' ∧ b ≠ 0 then some (.int k (a.tmod b)) else none
    | .and => if k = k' then some (.int k (k.wrap (BitVec.ofInt k.bits a &&& BitVec.ofInt k.bits b).toNat)) else none
    | .or => if k = k' then some (.int k (k.wrap (BitVec.ofInt k.bits a ||| BitVec.ofInt k.bits b).toNat)) else none
    | .xor => if k = k' then some (.int k (k.wrap (BitVec.ofInt k.bits a ^^^ BitVec.ofInt k.bits b).toNat)) else none
    | .andNot => if k = k' then some (.int k (k.wrap (BitVec.ofInt k.bits a &&& ~~~(BitVec.ofInt k.bits b)).toNat)) else none
    | .eql => if k = k' then some (.bool (a == b)) else none
    | .neq => if k = k' then some (.bool (a != b)) else none
    | .lss => if k = k' then some (.bool (a < b)) else none
    | .leq => if k = k' then some (.bool (a ≤ b)) else none
    | .gtr => if k = k' then some (.bool (a > b)) else none
    | .geq => if k = k' then some (.bool (a ≥ b)) else none
  | .string x, .string y =>
    match op with
    | .add => if x.size + y.size ≤ 9223372036854775807 then some (.string (x ++ y)) else none
    | .eql => some (.bool (x.toList == y.toList))
    | .neq => some (.bool !(x.toList == y.toList))
    | .lss => some (.bool (Op.bytesLess x.toList y.toList))
    | .leq => some (.bool (Op.bytesLess x.toList y.toList || x.toList == y.toList))
    | .gtr => some (.bool !(Op.bytesLess x.toList y.toList || x.toList == y.toList))
    | .geq => some (.bool !(Op.bytesLess x.toList y.toList))
    | _ => none
  | .bool a, .bool b => match op with
    | .eql => some (.bool (a == b))
    | .neq => some (.bool !(a == b))
    | _ => none
  | _, _ => none

def isnil : Value → Value → Option Bool
  | .pointer a, .pointer none => some a.isNone
  | .slice a _ _, .slice none _ _ => some a.isNone
  | .map a, .map none => some a.isNone
  | .nilFunc, .nilFunc => some true
  | .func _ _ _, .nilFunc => some false
  | .nilIface, .nilIface => some true
  | .iface _ _, .nilIface => some false
  | _, _ => none

def takeB : Bool → List Value → Option (Option Value × List Value)
  | false, vs => some (none, vs)
  | true, .int k n :: r => some (some (.int k n), r)
  | true, _ => none
def bnd (v : Option Value) (y : Nat) (d : Option Nat) : Option Nat :=
  match v with
  | some (.int _ i) => if 0 ≤ i ∧ i ≤ y then some i.toNat else none
  | some _ => none
  | none => d
/-- The three bounds of x[lo:hi:mx]. -/
def bounds (len cap : Nat) (lo hi mx : Option Value) : Option (Nat × Nat × Nat) :=
  match bnd mx cap (some cap) with
  | none => none
  | some m => match bnd hi m (if mx.isSome ∨ cap < len then none else some len) with
    | none => none
    | some h => match bnd lo h (some 0) with
      | none => none
      | some l => some (l, h, m)
def get3 (lo hi mx : Bool) (vs : List Value) : Option (Option Value × Option Value × Option Value) :=
  match takeB lo vs with
  | none => none
  | some (l, r) => match takeB hi r with
    | none => none
    | some (h, r) => match takeB mx r with
      | some (m, []) => some (l, h, m)
      | _ => none
def sliceA (esz : Nat) (a : Option Addr) (len cap : Nat) (lo hi mx : Option Value) : Option Value :=
  match bounds len cap lo hi mx with
  | none => none
  | some (l, h, m) => match a with
    | none => some (.slice none (h - l) (m - l))
    | some ⟨i, o, none⟩ => some (.slice (some (if m = l then ⟨i, o, none⟩ else ⟨i, o + l * esz, none⟩)) (h - l) (m - l))
    | some ⟨i, o, some 0⟩ =>
      if mx.isSome then some (.slice (some (if m = l then ⟨i, o, none⟩ else ⟨i, o + l * esz, none⟩)) (h - l) (m - l))
      else some (.slice (some ⟨i, o + l * esz, some (if m = l then 1 else 0)⟩) (h - l) (m - l))
    | some ⟨i, o, some (s + 1)⟩ => some (.slice (some ⟨i, o, some (s + 1)⟩) (h - l) (m - l))

def maxA (mx : Bool) : Value → Value → Option Value
  | .int k x, .int k' y => if k = k' then some (.int k (if mx then (if y > x then y else x) else (if y < x then y else x))) else none
  | _, _ => none

def putPtr (h : Hp) (cells : List Value) (esz : Nat) : Value × Hp := (.pointer (some ⟨h.nx, 0, none⟩), h.new ⟨cells, true, esz⟩)

/-- The cells of a slice's first n elements. -/
def rdS (h : Hp) (a : Option Addr) (n : Nat) : Option (List Value) :=
  match a with
  | none => some []
  | some ⟨i, o, sp⟩ => if n = 0 then some [] else if (sp.getD 0) = 0 then h.rd i o n else none
/-- append, of cells that are known. -/
def appA (esz bytes : Nat) (h : Hp) (a : Option Addr) (len cap : Nat) (xs : List Value) (n : Nat) : Option (Value × Hp) :=
  if xs.length = n * esz ∧ xs.all one = true ∧ 0 < esz ∧ (len + n) * bytes ≤ 140737488355328 ∧ len + n ≤ 140737488355328 then
    match a with
    | none => if len = 0 ∧ cap = 0 then (if n = 0 then some (.slice none 0 0, h) else some (.slice (some ⟨h.nx, 0, some 0⟩) n n, h.new ⟨xs, true, esz⟩)) else none
    | some ⟨i, o, sp⟩ =>
      if n = 0 then (if len ≤ cap then some (.slice (some ⟨i, o, sp⟩) len cap, h) else none)
      else if len + n ≤ cap then (h.wr i (o + len * esz) xs).map (.slice (some ⟨i, o, sp⟩) (len + n) cap, ·)
      else match (if len = 0 then some [] else h.rd i o (len * esz)), sp with
        | some old, none => some (.slice (some ⟨h.nx, 0, some 0⟩) (len + n) (len + n), h.new ⟨old ++ xs, true, esz⟩)
        | some old, some _ => match h.get i with
          | some ob => if ob.rw = true ∧ ob.esz = esz ∧ o + cap * esz = ob.cells.length ∧ len ≤ cap ∧ old.all one = true then some (.slice (some ⟨h.nx, 0, some 0⟩) (len + n) (len + n), (h.del i).new ⟨old ++ xs, true, esz⟩) else none
          | none => none
        | none, _ => none
  else none

/-- A map's entries by their keys (strings alone). -/
def mfind (k : ByteArray) : List Value → Option (Option Value)
  | [] => some none
  | .string s :: v :: r => if (k == s) = true then some (some v) else mfind k r
  | _ => none
def mput (k : ByteArray) (x : Value) : List Value → Option (List Value)
  | [] => some [.string k, x]
  | .string s :: v :: r => if (k == s) = true then some (.string k :: x :: r) else (mput k x r).map fun r' => .string s :: v :: r'
  | _ => none
def stepK : K → List Value → Hp → Option (Value × Hp)
  | .mv, [x], h => some (x, h)
  | .pick, [.bool b, x, y], h => some (if b then x else y, h)
  | .bin op, [x, y], h => match x with
    | .bool _ => none
    | _ => (binA op x y).map (·, h)
  | .bbin op, [.bool a, y], h => (binA op (.bool a) y).map (·, h)
  | .isn neg, [x, y], h => (isnil x y).map fun b => (.bool (if neg then !b else b), h)
  | .not, [.bool b], h => some (.bool !b, h)
  | .neg, [.int k n], h => some (.int k (k.wrap (0 - n)), h)
  | .cvt k, [.int _ n], h => some (.int k (k.wrap n), h)
  | .new _ z, [], h => some (putPtr h z.cells.toList 0)
  | .box _, [v], h => some (putPtr h v.cells.toList 0)
  | .bld z pls ix, vs, h => if ix.length = vs.length then (Instr.fill (fun i => pls[i]?) z (ix.zip vs)).map fun c => (.agg c, h) else none
  | .bsl _ esz len z ix, vs, h => if ix.length = vs.length then (Instr.fill (fun i => some (i * esz, esz)) z (ix.zip vs)).map fun c => (.slice (some ⟨h.nx, 0, none⟩) len len, h.new ⟨c.toList, true, esz⟩) else none
  | .ld1, [.pointer (some ⟨i, o, none⟩)], h => match h.rd i o 1 with
    | some [v] => some (v, h)
    | _ => none
  | .ldn n, [.pointer (some ⟨i, o, none⟩)], h => (h.rd i o n).map fun vs => (.agg ⟨vs⟩, h)
  | .st n, [.pointer (some ⟨i, o, none⟩), v], h => if v.cells.size = n then (h.wr i o v.cells.toList).map (undef, ·) else none
  | .nck, [x], h => match x with
    | .pointer (some a) => some (.pointer (some a), h)
    | .iface t v => some (.iface t v, h)
    | .func (.func f) a b => some (.func (.func f) a b, h)
    | _ => none
  | .ifc t, [x], h => some (.iface t x, h)
  | .tas t ok z, [x], h => match x with
    | .iface t' v => if t' = t then some (if ok then .tuple #[v, .bool true] else v, h) else if ok then some (.tuple #[z, .bool false], h) else none
    | .nilIface => if ok then some (.tuple #[z, .bool false], h) else none
    | _ => none
  | .clo fn nf, vs, h => some (.func fn ⟨vs.take nf⟩ ⟨vs.drop nf⟩, h)
  | .mks _ esz bytes z, [.int _ l, .int _ c], h => if 0 ≤ l ∧ l ≤ c ∧ (bytes : Int) * c ≤ 140737488355328 ∧ c ≤ 140737488355328 then
      some (.slice (some ⟨h.nx, 0, none⟩) l.toNat c.toNat, h.new ⟨(madeCells z (c.toNat * esz)).toList, true, esz⟩) else none
  | .slc esz lo hi mx, .slice a len cap :: vs, h => match get3 lo hi mx vs with
    | some (l, u, m) => (sliceA esz a len cap l u m).map (·, h)
    | none => none
  | .sla n esz lo hi mx, .pointer (some ⟨i, o, none⟩) :: vs, h => match get3 lo hi mx vs with
    | some (l, u, m) => (sliceA esz (some ⟨i, o, none⟩) n n l u m).map (·, h)
    | none => none
  | .sls lo hi, .string s :: vs, h => match get3 lo hi false vs with
    | some (l, u, _) => (bounds s.size s.size l u none).map fun b => (.string (s.extract b.1 b.2.1), h)
    | none => none
  | .fad off, [.pointer (some ⟨i, o, none⟩)], h => some (.pointer (some ⟨i, o + off, none⟩), h)
  | .fld off n agg, [.agg cs], h => if agg then some (.agg (cs.extract off (off + n)), h) else (cs[off]?).map (·, h)
  | .iad esz, [.slice (some ⟨i, o, _⟩) len _, .int _ x], h => if 0 ≤ x ∧ x < len then some (.pointer (some ⟨i, o + x.toNat * esz, none⟩), h) else none
  | .iaa len esz, [.pointer (some ⟨i, o, none⟩), .int _ x], h => if 0 ≤ x ∧ x < len then some (.pointer (some ⟨i, o + x.toNat * esz, none⟩), h) else none
  | .ixa len esz n agg, [.agg cs, .int _ x], h => if 0 ≤ x ∧ x < len then (if agg then some (.agg (cs.extract (x.toNat * esz) (x.toNat * esz + n)), h) else (cs[x.toNat * esz]?).map (·, h)) else none
  | .ixs, [.string s, .int _ x], h => if 0 ≤ x then (s[x.toNat]?).map fun b => (.int .u8 b.toNat, h) else none
  | .ext i, [.tuple vs], h => (vs[i]?).map (·, h)
  | .len, [.slice _ n _], h => some (.int .i64 n, h)
  | .lens, [.string s], h => some (.int .i64 s.size, h)
  | .lenc n, [_], h => some (.int .i64 n, h)
  | .app _ esz bytes, [.slice a len cap, .slice b n _], h => match rdS h b (n * esz) with
    | some xs => appA esz bytes h a len cap xs n
    | none => none
  | .aps _, [.slice a len cap, .string s], h => appA 1 1 h a len cap (s.data.toList.map fun b => .int .u8 b.toNat) s.size
  | .cpy esz, [.slice a len _, .slice b n _], h => match rdS h b (Nat.min n len * esz) with
    | some xs => match a with
      | none => if xs = [] then some (.int .i64 (Nat.min n len), h) else none
      | some ⟨i, o, _⟩ => if xs = [] then some (.int .i64 (Nat.min n len), h) else (h.wr i o xs).map (.int .i64 (Nat.min n len), ·)
    | none => none
  | .clr esz z, [.slice a n _], h => match a with
    | none => some (.tuple #[], h)
    | some ⟨i, o, _⟩ => if n = 0 then some (.tuple #[], h) else if z.cells.size = esz then (h.wr i o (Builtin.zeroCells z.cells n).toList).map (.tuple #[], ·) else none
  | .mm mx, [x, y], h => (maxA mx x y).map (·, h)
  | .mkm, [], h => some (.map (some h.nx), h.new ⟨[], false, 0⟩)
  | .mlk z ok, [.map (some i), .string k], h => match h.get i with
    | some ob => match mfind k ob.cells with
      | some (some v) => if flat v then some (if ok then .tuple #[v, .bool true] else v, h) else none
      | some none => some (if ok then .tuple #[z, .bool false] else z, h)
      | none => none
    | none => none
  | .mup, [.map (some i), .string k, v], h => if flat v then (match h.get i with
    | some ob => match mput k v ob.cells with
      | some c => some (undef, h.put i ⟨c, ob.rw, ob.esz⟩)
      | none => none
    | none => none) else none
  | _, _, _ => none

/-- The kind of an operation and its operands, as the program's tables tell. -/
def compB (P : Program) (b : Builtin) (ts : List TypeId) (xs : List Operand) : Option (K × List Operand) :=
  match b, ts, xs with
  | .len, [t], [x] => match P.underlying t with
    | some (.slice _) => some (.len, [x])
    | some .string => some (.lens, [x])
    | some (.array n _) => some (.lenc n, [x])
    | _ => none
  | .append, [t, u], [x, y] => match P.underlying t, P.underlying u with
    | some (.slice el), some du => match P.info? el with
      | some ti => match ti.zero with
        | some z => if z.cells.size = ti.size then (match du with
          | .slice _ => some (.app el ti.size ti.bytes, [x, y])
          | .string => if ti.size = 1 ∧ ti.bytes = 1 then some (.aps el, [x, y]) else none
          | _ => none) else none
        | none => none
      | none => none
    | _, _ => none
  | .copy, [t, _], [x, y] => match P.underlying t with
    | some (.slice el) => match P.info? el with
      | some ti => some (.cpy ti.size, [x, y])
      | none => none
    | _ => none
  | .clear, [t], [x] => match P.underlying t with
    | some (.slice el) => match P.info? el with
      | some ti => match ti.zero with
        | some z => if flatL z.cells.toList then some (.clr ti.size z, [x]) else none
        | none => none
      | none => none
    | _ => none
  | .max, [_, _], [x, y] => some (.mm true, [x, y])
  | .min, [_, _], [x, y] => some (.mm false, [x, y])
  | _, _, _ => none
def zrow (zv : Value) (n : Nat) : Array Value := if n = 0 then #[] else (Array.range n).map (zv.cells[· % zv.cells.size]!)
def isNil (d : TypeDesc) : Operand → Bool
  | .const c => match d, c with
    | .pointer _, .pointer none => true
    | .slice _, .slice none _ _ => true
    | .map _ _, .map none => true
    | .func _ _ _, .nilFunc => true
    | .interface _, .nilIface => true
    | _, _ => false
  | _ => false
def isAggD : TypeDesc → Bool
  | .struct _ | .array _ _ => true
  | _ => false
def compOp (P : Program) : Op → Option (K × List Operand)
  | .move x | .assign x => some (.mv, [x])
  | .pick c a b => some (.pick, [c, a, b])
  | .alloc e => match P.info? e with
    | some i => match i.zero with
      | some z => if flat z then some (.new e z, []) else none
      | none => none
    | none => none
  | .box e v => some (.box e, [v])
  | .build t parts => match P.underlying t, P.info? t with
    | some (.struct fs), some it => match it.zero, fs.toList.mapM (fun f => (P.info? f.type).map fun i => (f.offset, i.size)) with
      | some z, some pl => if flatL z.cells.toList then some (.bld z.cells pl (parts.toList.map (·.1)), parts.toList.map (·.2)) else none
      | _, _ => none
    | some (.array n el), some it => match it.zero, P.info? el with
      | some z, some ie => if flatL z.cells.toList then some (.bld z.cells ((List.range n).map fun i => (i * ie.size, ie.size)) (parts.toList.map (·.1)), parts.toList.map (·.2)) else none
      | _, _ => none
    | _, _ => none
  | .buildSlice t len parts => match P.underlying t with
    | some (.slice el) => match P.info? el with
      | some ie => match ie.zero with
        | some zv =>
          if ¬ len * ie.size > 2 ^ 24 ∧ flatL (zrow zv (len * ie.size)).toList then
            some (.bsl el ie.size len (zrow zv (len * ie.size)) (parts.toList.map (·.1)), parts.toList.map (·.2)) else none
        | none => none
      | none => none
    | _ => none
  | .load t a => match P.underlying t, P.info? t with
    | some d, some i => some (if isAggD d then .ldn i.size else .ld1, [a])
    | _, _ => none
  | .store t a v => match P.info? t with
    | some i => some (.st i.size, [a, v])
    | none => none
  | .nilCheck x => some (.nck, [x])
  | .binOp op t x y _ => match P.underlying t with
    | some (.int _) => some (.bin op, [x, y])
    | some .string => some (.bin op, [x, y])
    | some .bool => some (.bbin op, [x, y])
    | some d => match op with
      | .eql => if isNil d y then some (.isn false, [x, y]) else none
      | .neq => if isNil d y then some (.isn true, [x, y]) else none
      | _ => none
    | none => none
  | .unOp op _ x => match op with
    | .not => some (.not, [x])
    | .neg => some (.neg, [x])
    | _ => none
  | .convert s d x => match P.underlying s, P.underlying d with
    | some (.int _), some (.int k) => some (.cvt k, [x])
    | _, _ => none
  | .makeInterface t x => match P.underlying t with
    | some (.interface _) => none
    | some _ => some (.ifc t, [x])
    | none => none
  | .typeAssert x _ t ok => match P.underlying t with
    | some (.interface _) => none
    | some _ => if ok then (match P.info? t with
        | some i => match i.zero with
          | some z => if flat z then some (.tas t true z, [x]) else none
          | none => none
        | none => none) else some (.tas t false .nilIface, [x])
    | none => none
  | .makeFunc fn first captured => some (.clo fn first.size, first.toList ++ captured.toList)
  | .makeSlice t l c => match P.underlying t with
    | some (.slice el) => match P.info? el with
      | some ti => match ti.zero with
        | some z => if flatL z.cells.toList ∧ z.cells.size = ti.size then some (.mks el ti.size ti.bytes z.cells, [l, c]) else none
        | none => none
      | none => none
    | _ => none
  | .slice t x lo hi mx => match P.underlying t with
    | some (.slice el) => match P.info? el with
      | some ti => some (.slc ti.size lo.isSome hi.isSome mx.isSome, x :: (lo.toList ++ (hi.toList ++ mx.toList)))
      | none => none
    | some (.array n el) => match P.info? el with
      | some ti => some (.sla n ti.size lo.isSome hi.isSome mx.isSome, x :: (lo.toList ++ (hi.toList ++ mx.toList)))
      | none => none
    | some .string => if mx.isNone then some (.sls lo.isSome hi.isSome, x :: (lo.toList ++ (hi.toList ++ mx.toList))) else none
    | _ => none
  | .fieldAddr t x f => match P.underlying t with
    | some (.struct fs) => match fs[f]? with
      | some fd => match P.info? fd.type with
        | some i => if i.size ≠ 0 then some (.fad fd.offset, [x]) else none
        | none => none
      | none => none
    | _ => none
  | .field t x f => match P.underlying t with
    | some (.struct fs) => match fs[f]? with
      | some fd => match P.underlying fd.type, P.info? fd.type with
        | some d, some i => some (.fld fd.offset i.size (isAggD d), [x])
        | _, _ => none
      | none => none
    | _ => none
  | .indexAddr t x i => match P.underlying t with
    | some (.slice el) => match P.info? el with
      | some ti => some (.iad ti.size, [x, i])
      | none => none
    | some (.array n el) => match P.info? el with
      | some ti => some (.iaa n ti.size, [x, i])
      | none => none
    | _ => none
  | .index t x i => match P.underlying t with
    | some (.array n el) => match P.underlying el, P.info? el with
      | some d, some ti => some (.ixa n ti.size ti.size (isAggD d), [x, i])
      | _, _ => none
    | some .string => some (.ixs, [x, i])
    | _ => none
  | .extract t i => some (.ext i, [t])
  | .makeMap _ none => some (.mkm, [])
  | .lookup t x i ok => match P.underlying t with
    | some (.map key el) => match P.underlying key, P.info? el with
      | some .string, some ei => match ei.zero with
        | some z => if flat z then some (.mlk z ok, [x, i]) else none
        | none => none
      | _, _ => none
    | _ => none
  | .mapUpdate t x k v => match P.underlying t with
    | some (.map key _) => match P.underlying key with
      | some .string => some (.mup, [x, k, v])
      | _ => none
    | _ => none
  | .call { callee := .builtin b, args, argTypes } => compB P b argTypes.toList args.toList
  | _ => none
end Go.Proofs.YtnebdnbglggdkaaDoorW.Am
