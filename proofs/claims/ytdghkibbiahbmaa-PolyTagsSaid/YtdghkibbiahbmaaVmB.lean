/- One operation over virtual values: what it yields ('vop'). -/
import Derived.Test.YtdghkibbiahbmaaVmA
set_option linter.unusedVariables false
set_option linter.unusedSimpArgs false
set_option linter.unusedSectionVars false
namespace Go.Vm

/-- Signed 64-bit wraparound. -/
def w64 (n : Int) : Int := IntKind.i64.wrap n
theorem w64_of {n : Int} (h1 : -9223372036854775808 ≤ n) (h2 : n ≤ 9223372036854775807) : w64 n = n := by
  unfold w64 IntKind.wrap
  have e : (2 : Int) ^ IntKind.i64.bits = 18446744073709551616 := by decide
  have e2 : (2 : Int) ^ (IntKind.i64.bits - 1) = 9223372036854775808 := by decide
  simp only [e, e2]
  by_cases h : n % 18446744073709551616 ≥ 9223372036854775808
  · rw [if_pos (by simp [IntKind.signed]; omega)]; omega
  · rw [if_neg (by simp [IntKind.signed]; omega)]; omega
def shl64 (a : Int) (n : Nat) : Int := w64 (a * 2 ^ (min n 64))
def shr64 (a : Int) (n : Nat) : Int := a.fdiv (2 ^ (min n 64))
def and64 (a b : Int) : Int := w64 (BitVec.ofInt 64 a &&& BitVec.ofInt 64 b).toNat
def or64 (a b : Int) : Int := w64 (BitVec.ofInt 64 a ||| BitVec.ofInt 64 b).toNat
def xor64 (a b : Int) : Int := w64 (BitVec.ofInt 64 a ^^^ BitVec.ofInt 64 b).toNat

/-- What an operation comes to: the value, what must hold (else Go panics), the blocks that it looks at, the blocks that it turns, the blocks that it makes. -/
structure Res where
  v : V
  pre : Prop := True
  fp : List Nat := []
  old : List (Nat × Option Blk) := []
  news : List (Option Blk) := []

def ofValue : Value → V
  | .bool b => .bool b
  | .int .u8 n => if 0 ≤ n ∧ n < 256 then .u8 (BitVec.ofInt 8 n) else .junk
  | .int .u32 n => if 0 ≤ n ∧ n < 4294967296 then .u32 (BitVec.ofInt 32 n) else .junk
  | .int .u64 n => if 0 ≤ n ∧ n < 18446744073709551616 then .u64 (BitVec.ofInt 64 n) else .junk
  | .int .i64 n => .i64 n
  | .int .i32 n => .i32 n
  | .string s => .str (bytesOf s)
  | .pointer none => .nilPtr
  | .slice none 0 0 => .nilSlice
  | .nilFunc => .nilFn
  | .nilIface => .nilIface
  | _ => .junk

section
variable (P : Program)
def szOf (t : TypeId) : Option Nat := (P.info? t).map (·.size)
def byOf (t : TypeId) : Option Nat := (P.info? t).map (·.bytes)
def zeroOf (t : TypeId) : Option (List V) := (P.info? t).bind fun i => i.zero.map fun z => z.cells.toList.map ofValue
def isRowT (t : TypeId) : Option Bool := (P.underlying t).map fun | .struct _ => true | .array _ _ => true | _ => false
def fldOf (t : TypeId) (f : Nat) : Option (Nat × TypeId) := match P.underlying t with
  | some (.struct fs) => match fs[f]? with
    | some x => some (x.offset, x.type)
    | none => none
  | _ => none
def sliceT (t : TypeId) : Option TypeId := match P.underlying t with
  | some (.slice e) => some e
  | _ => none
def arrT (t : TypeId) : Option (Nat × TypeId) := match P.underlying t with
  | some (.array n e) => some (n, e)
  | _ => none
end

/-- A value of one cell. -/
def V.one : V → Bool
  | .junk | .agg _ | .tup _ => false
  | _ => true
def V.cells : V → List V
  | .agg cs => cs
  | v => [v]

def vuns {n : Nat} (mk : BitVec n → V) (op : BinOp) (x y : BitVec n) : Option Res :=
  match op with
  | .add => some { v := mk (x + y) }
  | .sub => some { v := mk (x - y) }
  | .mul => some { v := mk (x * y) }
  | .quo => some { v := mk (x / y), pre := y ≠ 0 }
  | .rem => some { v := mk (x % y), pre := y ≠ 0 }
  | .and => some { v := mk (x &&& y) }
  | .or => some { v := mk (x ||| y) }
  | .xor => some { v := mk (x ^^^ y) }
  | .andNot => some { v := mk (x &&& ~~~y) }
  | .eql => some { v := .bool (decide (x = y)) }
  | .neq => some { v := .bool (decide (x ≠ y)) }
  | .lss => some { v := .bool (decide (x < y)) }
  | .leq => some { v := .bool (decide (x ≤ y)) }
  | .gtr => some { v := .bool (decide (y < x)) }
  | .geq => some { v := .bool (decide (y ≤ x)) }
  | _ => none
def vint (mk : Int → V) (w : Int → Int) (op : BinOp) (x y : Int) : Option Res :=
  match op with
  | .add => some { v := mk (w (x + y)) }
  | .sub => some { v := mk (w (x - y)) }
  | .mul => some { v := mk (w (x * y)) }
  | .quo => some { v := mk (w (x.tdiv y)), pre := y ≠ 0 }
  | .rem => some { v := mk (x.tmod y), pre := y ≠ 0 }
  | .eql => some { v := .bool (decide (x = y)) }
  | .neq => some { v := .bool (decide (x ≠ y)) }
  | .lss => some { v := .bool (decide (x < y)) }
  | .leq => some { v := .bool (decide (x ≤ y)) }
  | .gtr => some { v := .bool (decide (y < x)) }
  | .geq => some { v := .bool (decide (y ≤ x)) }
  | _ => none
def vint64 (op : BinOp) (x y : Int) : Option Res :=
  match op with
  | .and => some { v := .i64 (and64 x y) }
  | .or => some { v := .i64 (or64 x y) }
  | .xor => some { v := .i64 (xor64 x y) }
  | op => vint .i64 w64 op x y
def vstr (op : BinOp) (x y : List Byte) : Option Res :=
  match op with
  | .add => some { v := .str (x ++ y), pre := x.length + y.length ≤ 4611686018427387904 }
  | .eql => some { v := .bool (decide (x = y)) }
  | .neq => some { v := .bool (decide (x ≠ y)) }
  | _ => none
/-- A shift's count. -/
def vcnt : V → Option (Nat × Prop)
  | .u8 x => some (x.toNat, True)
  | .u32 x => some (x.toNat, True)
  | .u64 x => some (x.toNat, True)
  | .i64 n => some (n.toNat, 0 ≤ n)
  | _ => none
def vshift (op : BinOp) (x : V) (n : Nat) (pre : Prop) : Option Res :=
  match op, x with
  | .shl, .u8 x => some { v := .u8 (x <<< n), pre := pre }
  | .shl, .u32 x => some { v := .u32 (x <<< n), pre := pre }
  | .shl, .u64 x => some { v := .u64 (x <<< n), pre := pre }
  | .shl, .i64 x => some { v := .i64 (shl64 x n), pre := pre }
  | .shr, .u8 x => some { v := .u8 (x >>> n), pre := pre }
  | .shr, .u32 x => some { v := .u32 (x >>> n), pre := pre }
  | .shr, .u64 x => some { v := .u64 (x >>> n), pre := pre }
  | .shr, .i64 x => some { v := .i64 (shr64 x n), pre := pre }
  | _, _ => none
/-- Is a value nil? (of those that can be). -/
def vnil : V → Option Bool
  | .nilPtr | .nilSlice | .nilFn | .nilIface => some true
  | .ptr _ _ | .slice _ _ _ _ | .fn _ _ _ | .iface _ _ => some false
  | _ => none
def isNilT (P : Program) (t : TypeId) (x y : V) : Bool := match P.underlying t, x, y with
  | some (.pointer _), .nilPtr, .nilPtr | some (.pointer _), .ptr _ _, .nilPtr | some (.pointer _), .nilPtr, .ptr _ _ => true
  | some (.slice _), .nilSlice, .nilSlice | some (.slice _), .slice _ _ _ _, .nilSlice | some (.slice _), .nilSlice, .slice _ _ _ _ => true
  | some (.func _ _ _), .nilFn, .nilFn | some (.func _ _ _), .fn _ _ _, .nilFn | some (.func _ _ _), .nilFn, .fn _ _ _ => true
  | some (.interface _), .iface _ _, .nilIface | some (.interface _), .nilIface, .iface _ _ => true
  | _, _, _ => false
def V.beq1 : V → V → Option Bool
  | .u8 x, .u8 y => some (decide (x = y))
  | .u32 x, .u32 y => some (decide (x = y))
  | .u64 x, .u64 y => some (decide (x = y))
  | .i64 x, .i64 y => some (decide (x = y))
  | .i32 x, .i32 y => some (decide (x = y))
  | .bool x, .bool y => some (decide (x = y))
  | .str x, .str y => some (decide (x = y))
  | _, _ => none
def tyOk (P : Program) (t : TypeId) (x : V) : Bool := match P.underlying t, x with
  | some (.int _), .u8 _ | some (.int _), .u32 _ | some (.int _), .u64 _ | some (.int _), .i64 _ | some (.int _), .i32 _ => true
  | some .bool, .bool _ | some .string, .str _ => true
  | _, _ => false
def flatFs : List Field → Nat → Bool
  | [], _ => true
  | f :: fs, i => f.offset == i && f.name != "_" && flatFs fs (i + 1)
/-- The types of the parts of a struct or array whose parts are of one cell each. -/
def aggTypes (P : Program) (t : TypeId) : Option (List TypeId) := match P.underlying t with
  | some (.struct fs) => if flatFs fs.toList 0 && !P.stoodInHeld t && !P.eqGuardType P.depth t then some (fs.toList.map (·.type)) else none
  | some (.array n e) => if szOf P e == some 1 && !P.eqGuardType P.depth t then some (List.replicate n e) else none
  | _ => none
/-- Are the parts of two structs or arrays the same, one by one (each of one cell)? -/
def vaggEq (P : Program) : List TypeId → List V → List V → Option Bool
  | [], [], [] => some true
  | t :: ts, x :: xs, y :: ys => if tyOk P t x then match x.beq1 y, vaggEq P ts xs ys with
    | some a, some b => some (a && b)
    | _, _ => none
    else none
  | _, _, _ => none

def vbin (P : Program) (op : BinOp) (t : TypeId) (x y : V) : Option Res :=
  match op with
  | .shl | .shr => match vcnt y with
    | some (n, pre) => vshift op x n pre
    | none => none
  | _ => match x, y with
    | .u8 x, .u8 y => vuns .u8 op x y
    | .u32 x, .u32 y => vuns .u32 op x y
    | .u64 x, .u64 y => vuns .u64 op x y
    | .i64 x, .i64 y => vint64 op x y
    | .str x, .str y => vstr op x y
    | .i32 x, .i32 y => match op with
      | .eql => some { v := .bool (decide (x = y)) }
      | .neq => some { v := .bool (decide (x ≠ y)) }
      | _ => none
    | .bool x, .bool y => if tyOk P t (.bool x) then match op with
      | .eql => some { v := .bool (decide (x = y)) }
      | .neq => some { v := .bool (!decide (x = y)) }
      | _ => none
      else none
    | .agg xs, .agg ys => match aggTypes P t with
      | some ts => match vaggEq P ts xs ys with
        | some b => match op with
          | .eql => some { v := .bool b }
          | .neq => some { v := .bool (!b) }
          | _ => none
        | none => none
      | none => none
    | x, y => if isNilT P t x y then match op with
      | .eql => some { v := .bool (vnil x == vnil y) }
      | .neq => some { v := .bool (!(vnil x == vnil y)) }
      | _ => none
      else none

def vun (op : UnOp) (x : V) : Option Res :=
  match op, x with
  | .not, .bool b => some { v := .bool (!b) }
  | .neg, .u8 x => some { v := .u8 (-x) }
  | .neg, .u32 x => some { v := .u32 (-x) }
  | .neg, .u64 x => some { v := .u64 (-x) }
  | .neg, .i64 n => some { v := .i64 (w64 (0 - n)) }
  | .xor, .u8 x => some { v := .u8 (~~~x) }
  | .xor, .u32 x => some { v := .u32 (~~~x) }
  | .xor, .u64 x => some { v := .u64 (~~~x) }
  | _, _ => none

/-- Between kinds of integers. -/
def vconvInt (k : IntKind) (x : V) : Option V :=
  match k, x with
  | .u8, .u8 x => some (.u8 x)
  | .u8, .u32 x => some (.u8 (x.setWidth 8))
  | .u8, .u64 x => some (.u8 (x.setWidth 8))
  | .u8, .i64 n => some (.u8 (BitVec.ofInt 8 n))
  | .u32, .u8 x => some (.u32 (x.setWidth 32))
  | .u32, .u32 x => some (.u32 x)
  | .u32, .u64 x => some (.u32 (x.setWidth 32))
  | .u32, .i64 n => some (.u32 (BitVec.ofInt 32 n))
  | .u64, .u8 x => some (.u64 (x.setWidth 64))
  | .u64, .u32 x => some (.u64 (x.setWidth 64))
  | .u64, .u64 x => some (.u64 x)
  | .u64, .i64 n => some (.u64 (BitVec.ofInt 64 n))
  | .i64, .u8 x => some (.i64 x.toNat)
  | .i64, .u32 x => some (.i64 x.toNat)
  | .i64, .u64 x => some (.i64 (w64 x.toNat))
  | .i64, .i64 n => some (.i64 (w64 n))
  | .i64, .i32 n => some (.i64 (w64 n))
  | _, _ => none
def V.byte : V → BitVec 8
  | .u8 x => x
  | _ => 0
def vconv (P : Program) (s d : TypeId) (x : V) (get : Nat → Option Blk) (nid : Nat) : Option Res :=
  match P.underlying s, P.underlying d, x with
  | some (.int _), some (.int k), x => (vconvInt k x).map fun v => { v }
  | some .string, some .string, .str b => some { v := .str b }
  | some .string, some (.slice e), .str b => match P.underlying e with
    | some (.int .u8) => some { v := .slice nid 0 b.length 1, pre := b.length ≤ 4611686018427387904, news := [some ⟨false, b.map .u8⟩] }
    | _ => none
  | some (.slice e), some .string, .nilSlice => match P.underlying e with
    | some (.int .u8) => some { v := .str [] }
    | _ => none
  | some (.slice e), some .string, .slice b o len 1 => match P.underlying e, get b with
    | some (.int .u8), some B => some { v := .str (((B.cs.drop o).take len).map V.byte), pre := o + len ≤ B.cs.length ∧ ∀ v ∈ (B.cs.drop o).take len, ∃ x, v = .u8 x, fp := [b] }
    | _, _ => none
  | _, _, _ => none

def V.nat? : V → Option Int
  | .u8 x => some x.toNat
  | .u32 x => some x.toNat
  | .u64 x => some x.toNat
  | .i64 n => some n
  | .i32 n => some n
  | _ => none

/-- n times the same cells. -/
def vrep (z : List V) : Nat → List V
  | 0 => []
  | n + 1 => z ++ vrep z n
def splice (cs : List V) (o : Nat) (xs : List V) : List V := match xs with
  | [x] => cs.set o x
  | xs => cs.take o ++ xs ++ cs.drop (o + xs.length)
def V.solid : V → Bool
  | .junk | .tup _ => false
  | _ => true
/-- The cells of a struct or array, parts filled in. -/
def vfill (place : Nat → Option (Nat × Nat)) (cells : List V) : List (Nat × V) → Option (List V)
  | [] => some cells
  | (i, v) :: rest => match place i with
    | none => none
    | some (off, size) => if v.solid = true ∧ v.cells.length = size ∧ off + size ≤ cells.length then vfill place (splice cells off v.cells) rest else none
/-- A struct's or array's cells at zero, and where its parts lie. -/
def buildT (P : Program) (t : TypeId) : Option (List V × (List (Nat × Nat) ⊕ Nat)) := match zeroOf P t, P.underlying t with
  | some z, some (.struct fs) => (fs.toList.mapM (fun f => (P.info? f.type).map fun i => (f.offset, i.size))).map fun pl => (z, .inl pl)
  | some z, some (.array _ e) => (szOf P e).map fun s => (z, .inr s)
  | _, _ => none

def vlow : Option V → Option Int
  | none => some 0
  | some v => v.nat?
def vhigh (d : Nat) : Option V → Option Int
  | none => some d
  | some v => v.nat?

/-- What a slice or string holds, as cells of size esz: its length in elements, its cells. -/
def vsrc (get : Nat → Option Blk) : V → Option (Nat × List V × Prop × List Nat)
  | .nilSlice => some (0, [], True, [])
  | .str s => some (s.length, s.map .u8, True, [])
  | .slice b o len esz => match get b with
    | some B => some (len, (B.cs.drop o).take (len * esz), o + len * esz ≤ B.cs.length, [b])
    | none => none
  | _ => none

def isStr : V → Bool
  | .str _ => true
  | _ => false
def eszOk (s : Nat) : V → Bool
  | .slice _ _ _ esz => esz == s
  | .nilSlice => true
  | .str _ => s == 1
  | _ => false
def srcT (P : Program) (tx : TypeId) (y : V) : Bool := match P.underlying tx, y with
  | some (.slice _), .str _ => false
  | some (.slice _), _ => true
  | some .string, .str _ => true
  | _, _ => false
def vappend (n m sz by_ : Nat) (x : V) (xs ys : List V) (p q : Prop) (f g : List Nat) (get : Nat → Option Blk) (nid : Nat) : Res :=
  if m = 0 then { v := x, pre := q, fp := f ++ g }
  else {
    v := .slice nid 0 (n + m) sz
    pre := p ∧ q ∧ ((n + m) + (n + m) / 4 + 192) * by_ ≤ 281474976710656 ∧ n + m ≤ 281474976710656 ∧ (∀ u ∈ ys, u.one = true) ∧ ys.length = m * sz ∧ (∀ b ∈ f, ∃ cs, get b = some ⟨false, cs⟩)
    fp := f ++ g
    old := f.map fun b => (b, none)
    news := [some ⟨false, xs ++ ys⟩] }
def vbuiltin (P : Program) (b : Builtin) (ats : List TypeId) (args : List V) (get : Nat → Option Blk) (nid : Nat) : Option Res :=
  match b, ats, args with
  | .len, [t], [x] => match P.underlying t, x with
    | some .string, .str s => some { v := .i64 s.length }
    | some (.array n _), _ => some { v := .i64 n }
    | some (.slice _), .slice _ _ len _ => some { v := .i64 len }
    | some (.slice _), .nilSlice => some { v := .i64 0 }
    | _, _ => none
  | .min, _, [.i64 x, .i64 y] => some { v := .i64 (if y < x then y else x) }
  | .max, _, [.i64 x, .i64 y] => some { v := .i64 (if y > x then y else x) }
  | .append, [t, tx], [x, y] => match sliceT P t, vsrc get x, vsrc get y with
    | some e, some (n, xs, p, f), some (m, ys, q, g) => match szOf P e, byOf P e, zeroOf P e with
      | some sz, some by_, some z => if z.length = sz ∧ 0 < sz ∧ isStr x = false ∧ eszOk sz x = true ∧ eszOk sz y = true ∧ srcT P tx y = true then
          some (vappend n m sz by_ x xs ys p q f g get nid) else none
      | _, _, _ => none
    | _, _, _ => none
  | .copy, [t, _], [x, y] => match sliceT P t, x, vsrc get y with
    | some e, .slice b o len esz, some (m, ys, q, g) => match szOf P e, get b with
      | some sz, some ⟨false, cs⟩ => if sz = 1 ∧ esz = 1 ∧ eszOk 1 y = true then
          some { v := .i64 (min m len : Nat), pre := q ∧ o + len ≤ cs.length ∧ ys.length = m ∧ (∀ u ∈ ys, u.one = true), fp := b :: g, old := [(b, some ⟨false, splice cs o (ys.take (min m len))⟩)] } else none
      | _, _ => none
    | _, _, _ => none
  | _, _, _ => none

/-- What an operation comes to, over virtual values. -/
def vop (P : Program) (o : Op) (ev : Operand → V) (get : Nat → Option Blk) (nid : Nat) : Option Res :=
  match o with
  | .move x | .assign x => some { v := ev x }
  | .pick c a b => match ev c with
    | .bool c => some { v := if c then ev a else ev b }
    | _ => none
  | .alloc e => match zeroOf P e with
    | some z => some { v := .ptr nid 0, news := [some ⟨false, z⟩] }
    | none => none
  | .box _ x => match ev x with
    | .junk | .tup _ => none
    | v => some { v := .ptr nid 0, news := [some ⟨false, v.cells⟩] }
  | .build t parts => match buildT P t with
    | some (z, .inl pl) => (vfill (fun i => pl[i]?) z (parts.toList.map fun x => (x.1, ev x.2))).map fun cs => { v := .agg cs }
    | some (z, .inr s) => (vfill (fun i => some (i * s, s)) z (parts.toList.map fun x => (x.1, ev x.2))).map fun cs => { v := .agg cs }
    | none => none
  | .buildSlice t len parts => match sliceT P t with
    | some e => match szOf P e, zeroOf P e with
      | some s, some z => if z.length = s ∧ 0 < s ∧ len * s ≤ 1048576 then (vfill (fun i => some (i * s, s)) (vrep z len) (parts.toList.map fun x => (x.1, ev x.2))).map fun cs =>
          { v := .slice nid 0 len s, news := [some ⟨false, cs⟩] } else none
      | _, _ => none
    | none => none
  | .load t a => match ev a with
    | .ptr b o => match get b, isRowT P t, szOf P t with
      | some B, some true, some s => some { v := .agg ((B.cs.drop o).take s), pre := o + s ≤ B.cs.length, fp := [b] }
      | some B, some false, some _ => some { v := B.cs.getD o .junk, pre := o < B.cs.length, fp := [b] }
      | _, _, _ => none
    | _ => none
  | .store t a x => match ev a with
    | .ptr b o => match get b, szOf P t with
      | some ⟨false, cs⟩, some s => if (ev x).cells.length = s then
          some { v := .junk, pre := o + s ≤ cs.length ∧ ∀ u ∈ (ev x).cells, u.one = true, fp := [b], old := [(b, some ⟨false, splice cs o (ev x).cells⟩)] } else none
      | _, _ => none
    | _ => none
  | .nilCheck x => match ev x with
    | .ptr b o => some { v := .ptr b o }
    | .fn f a c => some { v := .fn f a c }
    | .iface t v => some { v := .iface t v }
    | _ => none
  | .binOp op t x y _ => vbin P op t (ev x) (ev y)
  | .unOp op _ x => vun op (ev x)
  | .convert s d x => vconv P s d (ev x) get nid
  | .sliceToArrayPointer t x => match arrT P t, ev x with
    | some (n, _), .slice b o len _ => some { v := .ptr b o, pre := n ≤ len ∧ 0 < len }
    | _, _ => none
  | .makeFunc fn first caps => match fn with
    | .func f => some { v := .fn f (first.toList.map ev) (caps.toList.map ev) }
    | _ => none
  | .makeSlice t l c => match sliceT P t, ev l, ev c with
    | some e, .i64 n, .i64 m => match szOf P e, byOf P e, zeroOf P e with
      | some s, some by_, some z => if z.length = s ∧ 0 < s then some { v := .slice nid 0 n.toNat s, pre := n = m ∧ 0 ≤ n ∧ n * by_ ≤ 140737488355328 ∧ n ≤ 140737488355328, news := [some ⟨false, vrep z n.toNat⟩] } else none
      | _, _, _ => none
    | _, _, _ => none
  | .slice t x lo hi mx => if mx.isSome then none else match P.underlying t, ev x with
    | some .string, .str s => match vlow (lo.map ev), vhigh s.length (hi.map ev) with
      | some l, some h => some { v := .str ((s.take h.toNat).drop l.toNat), pre := 0 ≤ l ∧ l ≤ h ∧ h ≤ s.length }
      | _, _ => none
    | some (.slice e), .slice b o len esz => match vlow (lo.map ev), vhigh len (hi.map ev) with
      | some l, some h => match szOf P e with
        | some s => if s = esz then some { v := .slice b (o + l.toNat * esz) (h - l).toNat esz, pre := 0 ≤ l ∧ l ≤ h ∧ h ≤ len } else none
        | none => none
      | _, _ => none
    | some (.slice e), .nilSlice => match vlow (lo.map ev), vhigh 0 (hi.map ev), szOf P e with
      | some l, some h, some _ => some { v := .nilSlice, pre := l = 0 ∧ h = 0 }
      | _, _, _ => none
    | some (.array n e), .ptr b o => match vlow (lo.map ev), vhigh n (hi.map ev), szOf P e, get b with
      | some l, some h, some s, some ⟨false, cs⟩ => some { v := .slice b (o + l.toNat * s) (h - l).toNat s, pre := 0 ≤ l ∧ l ≤ h ∧ h ≤ n ∧ o + n * s ≤ cs.length, fp := [b] }
      | _, _, _, _ => none
    | _, _ => none
  | .fieldAddr s x f => match fldOf P s f, ev x with
    | some (off, ft), .ptr b o => match szOf P ft with
      | some n => if n = 0 then none else some { v := .ptr b (o + off) }
      | none => none
    | _, _ => none
  | .indexAddr t x i => match P.underlying t, ev x, (ev i).nat? with
    | some (.array n e), .ptr b o, some i => match szOf P e with
      | some s => some { v := .ptr b (o + i.toNat * s), pre := 0 ≤ i ∧ i < n }
      | none => none
    | some (.slice e), .slice b o len esz, some i => match szOf P e with
      | some s => if s = esz then some { v := .ptr b (o + i.toNat * s), pre := 0 ≤ i ∧ i < len } else none
      | none => none
    | _, _, _ => none
  | .index t x i => match P.underlying t, ev x, (ev i).nat? with
    | some (.array n e), .agg cs, some i => match isRowT P e, szOf P e with
      | some false, some s => some { v := cs.getD (i.toNat * s) .junk, pre := 0 ≤ i ∧ i < n ∧ i.toNat * s < cs.length }
      | some true, some s => some { v := .agg ((cs.drop (i.toNat * s)).take s), pre := 0 ≤ i ∧ i < n }
      | _, _ => none
    | some .string, .str s, some i => some { v := .u8 (s.getD i.toNat 0), pre := 0 ≤ i ∧ i < s.length }
    | _, _, _ => none
  | .extract t i => match ev t with
    | .tup vs => match vs[i]? with
      | some v => some { v }
      | none => none
    | _ => none
  | .call c => match c.callee with
    | .builtin b => vbuiltin P b c.argTypes.toList (c.args.toList.map ev) get nid
    | _ => none
  | _ => none
end Go.Vm
