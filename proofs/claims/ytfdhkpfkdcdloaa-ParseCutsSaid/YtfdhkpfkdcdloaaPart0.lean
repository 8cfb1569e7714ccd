/-
  Texts of this session, one behind the other: AmCore.
-/
import Derived.Deep.Quiet
import Derived.Tactics
import Derived.Below
namespace Go.Am

inductive V where
 | bool (b : Bool)
 | int (k : IntKind) (n : Int)
 | str (s : List UInt8)
 | nilp
 | ptr (k off : Nat)
 | gptr (g off : Nat)
 | nils
 | odd (a : Addr)
 | slice (k off len : Nat) (cap : Option Nat)
 | nilm
 | map (k : Nat)
 | nilf
 | func (fn : FuncId) (first captured : List V)
 | nili
 | iface (t : TypeId) (v : V)
 | agg (cs : List V)
 | tup (vs : List V)
 deriving Inhabited

def V.undef : V := .tup []

def V.cells : V → List V
 | .agg cs => cs
 | v => [v]

def V.one : V → Bool
 | .agg _ | .tup _ => false
 | _ => true

structure Loc where
 block : Nat
 off : Nat
 ext : Nat
 sz : Nat
 deriving Inhabited

mutual
def V.emb (ρ : Nat → Loc) : V → Value
 | .bool b => .bool b
 | .int k n => .int k n
 | .str s => .string ⟨⟨s⟩⟩
 | .nilp => .pointer none
 | .ptr k o => .pointer (some ⟨(ρ k).block, (ρ k).off + o, none⟩)
 | .gptr g o => .pointer (some ⟨g, o, none⟩)
 | .nils => .slice none 0 0
 | .odd a => .slice (some a) 0 0
 | .slice k o l c => .slice (some ⟨(ρ k).block, (ρ k).off + o, none⟩) l (match c with | some c => c | none => ((ρ k).ext - o) / (ρ k).sz)
 | .nilm => .map none
 | .map k => .map (some (ρ k).block)
 | .nilf => .nilFunc
 | .func f a b => .func (.func f) (V.embL ρ a).toArray (V.embL ρ b).toArray
 | .nili => .nilIface
 | .iface t v => .iface t (v.emb ρ)
 | .agg cs => .agg (V.embL ρ cs).toArray
 | .tup vs => .tuple (V.embL ρ vs).toArray
def V.embL (ρ : Nat → Loc) : List V → List Value
 | [] => []
 | v :: r => v.emb ρ :: V.embL ρ r
end

mutual
def V.all (p : Nat → Bool) : V → Bool
 | .ptr k _ | .slice k _ _ _ | .map k => p k
 | .func _ a b => V.allL p a && V.allL p b
 | .iface _ v => v.all p
 | .agg cs => V.allL p cs
 | .tup vs => V.allL p vs
 | _ => true
def V.allL (p : Nat → Bool) : List V → Bool
 | [] => true
 | v :: r => v.all p && V.allL p r
end

def V.flat (v : V) : Bool := v.all fun _ => false

mutual
def ofVal : Value → Option V
 | .bool b => some (.bool b)
 | .int k n => some (.int k n)
 | .string s => some (.str s.data.toList)
 | .pointer none => some .nilp
 | .slice none 0 0 => some .nils
 | .map none => some .nilm
 | .nilFunc => some .nilf
 | .nilIface => some .nili
 | .iface t v => (ofVal v).map (.iface t)
 | .func (.func f) ⟨[]⟩ ⟨[]⟩ => some (.func f [] [])
 | .agg ⟨cs⟩ => (ofVals cs).map .agg
 | .tuple ⟨vs⟩ => (ofVals vs).map .tup
 | _ => none
def ofVals : List Value → Option (List V)
 | [] => some []
 | v :: r => match ofVal v, ofVals r with
  | some x, some xs => some (x :: xs)
  | _, _ => none
end

inductive Mode where
 | ro | rw | grown
 deriving DecidableEq, Inhabited

structure Ent where
 key : V
 val : V
 born : Nat
 deriving Inhabited

inductive AObj where
 | cells (cs : List V) (elem : TypeId) (m : Mode) (fz : Bool)
 | map (es : List Ent) (clock : Nat)
 | alts (as : List (List Ent × Nat))
 | iter (s : List UInt8) (pos : Nat)
 | dead
 deriving Inhabited

structure Hp where
 objs : List AObj
 wr : Nat
 esc : Nat
 deriving Inhabited

def AObj.vals : AObj → List V
 | .cells cs _ _ _ => cs
 | .map es _ => es.map (·.key) ++ es.map (·.val)
 | .alts as => as.flatMap fun p => p.1.map (·.key) ++ p.1.map (·.val)
 | _ => []

def Hp.size (H : Hp) : Nat := H.objs.length
def Hp.new (H : Hp) (o : AObj) : Hp := { H with objs := H.objs ++ [o] }
def Hp.write (H : Hp) (k : Nat) (o : AObj) (flat : Bool) : Hp :=
 { objs := H.objs.set k o, wr := min H.wr k, esc := if flat then H.esc else min H.esc k }

def get : List (Option V) → Nat → Option V
 | [], _ => none
 | x :: _, 0 => x
 | _ :: r, t + 1 => get r t

def put : List (Option V) → Nat → V → List (Option V)
 | [], _, _ => []
 | _ :: r, 0, v => some v :: r
 | x :: r, t + 1, v => x :: put r t v

structure Fr where
 m : List (Option V)
 deriving Inhabited

structure Env where
 P : Program
 G : Nat → Option (List V)
 ext : FuncId → List V → Option V
 orc : FuncId → List V → List AObj → Option V
 same : FuncId → Bool := fun _ => false
 made : FuncId → Option TypeId := fun _ => none
 full : FuncId → Bool := fun _ => false
 lift : TypeId → Option TypeId := fun _ => none

def Fr.ev (f : Fr) : Operand → Option V
 | .tmp t => get f.m t
 | .const v => ofVal v
 | .global g => some (.gptr g 0)
 | .func g => some (.func g [] [])

def Fr.set (f : Fr) (d : Option Tmp) (v : V) : Option Fr :=
 match d with
 | none => some f
 | some t => some { m := put f.m t v }

def evs (f : Fr) : List Operand → Option (List V)
 | [] => some []
 | x :: r => match f.ev x, evs f r with
  | some v, some vs => some (v :: vs)
  | _, _ => none

def evParts (f : Fr) : List (Nat × Operand) → Option (List (Nat × V))
 | [] => some []
 | (i, x) :: r => match f.ev x, evParts f r with
  | some v, some vs => some ((i, v) :: vs)
  | _, _ => none

def evOpt (f : Fr) : Option Operand → Option (Option V)
 | none => some none
 | some x => (f.ev x).map some

def isAggT (P : Program) (t : TypeId) : Option Bool :=
 match P.underlying t with
 | some (.struct _) | some (.array _ _) => some true
 | some _ => some false
 | none => none
def sizeT (P : Program) (t : TypeId) : Option Nat := (P.info? t).map (·.size)
def bytesT (P : Program) (t : TypeId) : Option Nat := (P.info? t).map (·.bytes)
def zeroT (P : Program) (t : TypeId) : Option V := (P.info? t).bind fun i => i.zero.bind ofVal

def partV (P : Program) (t : TypeId) (cs : List V) (off : Nat) : Option V :=
 match isAggT P t, sizeT P t with
 | some true, some n => some (.agg ((cs.drop off).take n))
 | some false, _ => cs[off]?
 | _, _ => none

def cellsOf (E : Env) (H : Hp) : V → Option (List V × Nat)
 | .ptr k o => match H.objs[k]? with
  | some (.cells cs _ _ _) => some (cs, o)
  | _ => none
 | .gptr g o => (E.G g).map (·, o)
 | _ => none

def loadV (E : Env) (t : TypeId) (H : Hp) (p : V) : Option V :=
 match cellsOf E H p with
 | none => none
 | some (cs, o) =>
  match isAggT E.P t, sizeT E.P t with
  | some true, some n => if o + n ≤ cs.length then some (.agg ((cs.drop o).take n)) else none
  | some false, _ => cs[o]?
  | _, _ => none

def putCells (H : Hp) (k o : Nat) (vs : List V) : Option Hp :=
 match H.objs[k]? with
 | some (.cells cs e m false) =>
  if m ≠ .ro ∧ o + vs.length ≤ cs.length ∧ vs.all V.one = true then
   some (H.write k (.cells (cs.take o ++ vs ++ cs.drop (o + vs.length)) e m false) (vs.all V.flat))
  else none
 | _ => none

def storeV (E : Env) (t : TypeId) (H : Hp) (p v : V) : Option Hp :=
 match p with
 | .ptr k o => if sizeT E.P t = some v.cells.length then putCells H k o v.cells else none
 | _ => none

def newCells (H : Hp) (cs : List V) (e : TypeId) (m : Mode) : Option Hp :=
 if cs.all V.one = true then some (H.new (.cells cs e m false)) else none

def fillV (place : Nat → Option (Nat × Nat)) (cells : List V) : List (Nat × V) → Option (List V)
 | [] => some cells
 | (i, v) :: rest =>
  match place i with
  | none => none
  | some (off, size) =>
   if v.cells.length = size ∧ off + size ≤ cells.length then fillV place (cells.take off ++ v.cells ++ cells.drop (off + size)) rest else none

def placesOf (P : Program) : List Field → Option (List (Nat × Nat))
 | [] => some []
 | f :: r => match sizeT P f.type, placesOf P r with
  | some n, some l => some ((f.offset, n) :: l)
  | _, _ => none

def buildV (P : Program) (t : TypeId) (parts : List (Nat × V)) : Option V :=
 match zeroT P t, P.underlying t with
 | some z, some (.struct fs) => match placesOf P fs.toList with
  | some pl => (fillV (fun i => pl[i]?) z.cells parts).map .agg
  | none => none
 | some z, some (.array _ elem) => match sizeT P elem with
  | some n => (fillV (fun i => some (i * n, n)) z.cells parts).map .agg
  | none => none
 | _, _ => none

def zeros (z : List V) : Nat → List V
 | 0 => []
 | n + 1 => z ++ zeros z n

def intBin (op : BinOp) (k : IntKind) (a b : Int) : Option V :=
 match op with
 | .add => some (.int k (k.wrap (a + b)))
 | .sub => some (.int k (k.wrap (a - b)))
 | .mul => some (.int k (k.wrap (a * b)))
 | .quo => if b = 0 then none else some (.int k (k.wrap (a.tdiv b)))
 | .rem => if b = 0 then none else some (.int k (a.tmod b))
 | .and => some (.int k (k.wrap (BitVec.ofInt k.bits a &&& BitVec.ofInt k.bits b).toNat))
 | .or => some (.int k (k.wrap (BitVec.ofInt k.bits a ||| BitVec.ofInt k.bits b).toNat))
 | .xor => some (.int k (k.wrap (BitVec.ofInt k.bits a ^^^ BitVec.ofInt k.bits b).toNat))
 | .andNot => some (.int k (k.wrap (BitVec.ofInt k.bits a &&& ~~~(BitVec.ofInt k.bits b)).toNat))
 | .eql => some (.bool (a == b))
 | .neq => some (.bool (a != b))
 | .lss => some (.bool (decide (a < b)))
 | .leq => some (.bool (decide (a ≤ b)))
 | .gtr => some (.bool (decide (a > b)))
 | .geq => some (.bool (decide (a ≥ b)))
 | _ => none

def shiftV (op : BinOp) (k : IntKind) (a b : Int) : Option V :=
 if b < 0 then none else
 match op with
 | .shl => some (.int k (k.wrap (a * 2 ^ (min b.toNat k.bits))))
 | .shr => some (.int k (a.fdiv (2 ^ (min b.toNat k.bits))))
 | _ => none

def strBin (op : BinOp) (a b : List UInt8) : Option V :=
 match op with
 | .add => if a.length + b.length ≤ 9223372036854775807 then some (.str (a ++ b)) else none
 | .eql => some (.bool (a == b))
 | .neq => some (.bool (!(a == b)))
 | .lss => some (.bool (Op.bytesLess a b))
 | .leq => some (.bool (Op.bytesLess a b || a == b))
 | .gtr => some (.bool (!(Op.bytesLess a b || a == b)))
 | .geq => some (.bool (!Op.bytesLess a b))
 | _ => none

def eqFields (eq : TypeId → V → V → Option Bool) (P : Program) (xs ys : List V) : List Field → Option Bool
 | [] => some true
 | f :: r =>
  if f.name = "_" then eqFields eq P xs ys r else
  match partV P f.type xs f.offset, partV P f.type ys f.offset with
  | some x, some y => match eq f.type x y with
   | some true => eqFields eq P xs ys r
   | o => o
  | _, _ => none

def eqElems (eq : TypeId → V → V → Option Bool) (P : Program) (elem : TypeId) (n : Nat) (xs ys : List V) : Nat → Nat → Option Bool
 | 0, _ => some true
 | c + 1, i =>
  match partV P elem xs (i * n), partV P elem ys (i * n) with
  | some x, some y => match eq elem x y with
   | some true => eqElems eq P elem n xs ys c (i + 1)
   | o => o
  | _, _ => none

def V.ptr? : V → Option (Nat × Nat)
 | .ptr k o => some (k, o)
 | _ => none
def elemT? (P : Program) (t : TypeId) : Option TypeId :=
 match P.underlying t with
 | some (.pointer e) => some e
 | _ => none
def samePtr (P : Program) (t : TypeId) (x y : V) : Option Bool :=
 match elemT? P t with
 | some e => if x.ptr?.isSome = true ∧ x.ptr? = y.ptr? ∧ (P.info? e).isSome = true then some true else none
 | none => none

def eqV (P : Program) : Nat → TypeId → V → V → Option Bool
 | 0, _, _, _ => none
 | d + 1, t, x, y =>
  match P.underlying t, x, y with
  | some .bool, .bool a, .bool b => some (a == b)
  | some (.int _), .int k a, .int k' b => if k = k' then some (a == b) else none
  | some .string, .str a, .str b => some (a == b)
  | some (.pointer _), .nilp, .nilp => some true
  | some (.pointer _), .nilp, .ptr _ _ | some (.pointer _), .ptr _ _, .nilp => some false
  | some (.slice _), .nils, .nils => some true
  | some (.slice _), .nils, .slice .. | some (.slice _), .slice .., .nils => some false
  | some (.map _ _), .nilm, .nilm => some true
  | some (.map _ _), .nilm, .map _ | some (.map _ _), .map _, .nilm => some false
  | some (.func ..), .nilf, .nilf => some true
  | some (.func ..), .nilf, .func .. | some (.func ..), .func .., .nilf => some false
  | some (.interface _), .nili, .nili => some true
  | some (.interface _), .nili, .iface .. | some (.interface _), .iface .., .nili => some false
  | some (.interface _), .iface tx vx, .iface ty vy => if tx = ty then match P.info? tx with
   | some info => if info.comparable = true then eqV P d tx vx vy else none
   | none => none
   else some false
  | some (.struct fs), .agg xs, .agg ys => if P.stoodInHeld t then none else eqFields (eqV P d) P xs ys fs.toList
  | some (.array len elem), .agg xs, .agg ys => match sizeT P elem with
   | some n => eqElems (eqV P d) P elem n xs ys len 0
   | none => none
  | some (.slice _), .nils, .odd _ | some (.slice _), .odd _, .nils => some false
  | _, _, _ => samePtr P t x y

def eqDepth : Nat := 100

def binV (P : Program) (op : BinOp) (t : TypeId) (xc yc : Bool) (x y : V) : Option V :=
 match x, y with
 | .int k a, .int k' b =>
  match op with
  | .shl | .shr => shiftV op k a b
  | _ => if k = k' then intBin op k a b else none
 | .str a, .str b => strBin op a b
 | .nili, .nili => if xc || yc then match op with
  | .eql => (eqV P eqDepth t x y).map .bool
  | .neq => (eqV P eqDepth t x y).map fun b => .bool (!b)
  | _ => none
  else none
 | .agg _, .agg _ => if P.eqGuardType P.depth t then none else match op with
  | .eql => (eqV P eqDepth t x y).map .bool
  | .neq => (eqV P eqDepth t x y).map fun b => .bool (!b)
  | _ => none
 | _, _ => match op with
  | .eql => (eqV P eqDepth t x y).map .bool
  | .neq => (eqV P eqDepth t x y).map fun b => .bool (!b)
  | _ => none

def isConst : Operand → Bool
 | .const _ => true
 | _ => false

def unV (op : UnOp) (x : V) : Option V :=
 match op, x with
 | .neg, .int k n => some (.int k (k.wrap (0 - n)))
 | .xor, .int k n => intBin .xor k (if k.signed then -1 else k.max) n
 | .not, .bool b => some (.bool !b)
 | _, _ => none

def encode (r : Int) : List UInt8 :=
 let c := if Utf8.valid r then r.toNat else Utf8.runeError
 let b (n : Nat) : UInt8 := UInt8.ofNat n
 if c < 0x80 then [b c]
 else if c < 0x800 then [b (0xC0 + c / 64), b (0x80 + c % 64)]
 else if c < 0x10000 then [b (0xE0 + c / 4096), b (0x80 + c / 64 % 64), b (0x80 + c % 64)]
 else [b (0xF0 + c / 262144), b (0x80 + c / 4096 % 64), b (0x80 + c / 64 % 64), b (0x80 + c % 64)]

def decode : List UInt8 → Nat × Nat
 | [] => (0, 1)
 | a :: r =>
  let at' (k : Nat) : Nat := (r.getD (k - 1) 0).toNat
  let cont (k : Nat) : Bool := k ≤ r.length && at' k / 64 == 2
  let b0 := a.toNat
  if b0 < 0x80 then (b0, 1)
  else if b0 / 32 == 6 && cont 1 then
   let c := (b0 % 32) * 64 + at' 1 % 64
   if c ≥ 0x80 then (c, 2) else (Utf8.runeError, 1)
  else if b0 / 16 == 14 && cont 1 && cont 2 then
   let c := (b0 % 16) * 4096 + (at' 1 % 64) * 64 + at' 2 % 64
   if c ≥ 0x800 && Utf8.valid c then (c, 3) else (Utf8.runeError, 1)
  else if b0 / 8 == 30 && cont 1 && cont 2 && cont 3 then
   let c := (b0 % 8) * 262144 + (at' 1 % 64) * 4096 + (at' 2 % 64) * 64 + at' 3 % 64
   if c ≥ 0x10000 && Utf8.valid c then (c, 4) else (Utf8.runeError, 1)
  else (Utf8.runeError, 1)

def runes : Nat → List UInt8 → List Nat
 | 0, _ => []
 | _ + 1, [] => []
 | n + 1, s => (decode s).1 :: runes n (s.drop (decode s).2)

def bytesOf : List V → Option (List UInt8)
 | [] => some []
 | .int .u8 n :: r => (bytesOf r).map (UInt8.ofNat n.toNat :: ·)
 | _ => none

def bytesS : List V → Option (List UInt8)
 | [] => some []
 | .int .u8 n :: r => if 0 ≤ n ∧ n < 256 then (bytesS r).map (UInt8.ofNat n.toNat :: ·) else none
 | _ => none

def runesOf : List V → Option (List UInt8)
 | [] => some []
 | .int .i32 n :: r => (runesOf r).map (encode n ++ ·)
 | _ => none

def byteV (b : UInt8) : V := .int .u8 b.toNat

def shown (H : Hp) (size : Nat) : V → Option (List V × Nat)
 | .nils => some ([], 0)
 | .odd _ => some ([], 0)
 | .slice k o n _ => if n = 0 then some ([], 0) else match H.objs[k]? with
  | some (.cells cs _ _ _) => if o + n * size ≤ cs.length then some ((cs.drop o).take (n * size), n) else none
  | _ => none
 | .str s => if size = 1 then some (s.map byteV, s.length) else none
 | _ => none

inductive R where
 | val (v : V)
 | skip
 | enter (f : FuncId) (args : List V)
 deriving Inhabited

abbrev Out := Option (R × Hp)
def ok (v : V) (H : Hp) : Out := some (.val v, H)
def okO (v : Option V) (H : Hp) : Out := v.map fun v => (.val v, H)

def convV (P : Program) (src dst : TypeId) (x : V) (H : Hp) : Out :=
 match P.underlying src, P.underlying dst, x with
 | some _, some (.int k), .int _ n => ok (.int k (k.wrap n)) H
 | some _, some .string, .int _ n => ok (.str (encode n)) H
 | some _, some .string, .str s => ok (.str s) H
 | some _, some (.slice e), .str s => match P.underlying e, sizeT P e with
  | some (.int .u8), some 1 => if s.length ≤ 140737488355328 then ok (.slice H.size 0 s.length none) (H.new (.cells (s.map byteV) e .grown false)) else none
  | some (.int .i32), some 1 => if (runes s.length s).length ≤ 140737488355328 then ok (.slice H.size 0 (runes s.length s).length none) (H.new (.cells ((runes s.length s).map fun r => .int .i32 (Int.ofNat r)) e .grown false)) else none
  | _, _ => none
 | some (.slice e), some .string, .nils => match P.underlying e with
  | some (.int .u8) | some (.int .i32) => ok (.str []) H
  | _ => none
 | some (.slice e), some .string, .odd _ => match P.underlying e with
  | some (.int .u8) | some (.int .i32) => ok (.str []) H
  | _ => none
 | some (.slice e), some .string, .slice k o n c => match P.underlying e, shown H 1 (.slice k o n c) with
  | some (.int .u8), some (cs, _) => okO ((bytesOf cs).map .str) H
  | some (.int .i32), some (cs, _) => okO ((runesOf cs).map .str) H
  | _, _ => none
 | some (.pointer _), some .unsafePointer, .nilp => ok .nilp H
 | some (.pointer t), some .unsafePointer, .ptr k o => match H.objs[k]?, sizeT P t with
  | some (.cells cs _ _ _), some (_ + 1) => if o < cs.length then ok (.ptr k o) H else none
  | _, _ => none
 | some .unsafePointer, some (.pointer _), .nilp => ok .nilp H
 | some .unsafePointer, some (.pointer u), .ptr k o => match H.objs[k]?, sizeT P u with
  | some (.cells cs e .rw _), some _ => if liesAt P P.depth e (cs.length / P.cellsOf e) o u 1 = true then ok (.ptr k o) H else none
  | _, _ => none
 | _, _, _ => none

def natV : Option V → Option (Option Nat)
 | none => some none
 | some (.int _ i) => if 0 ≤ i then some (some i.toNat) else none
 | _ => none

def bounds (len cap : Nat) (lo hi mx : Option Nat) : Option (Nat × Nat × Nat) :=
 let m := mx.getD cap
 let h := hi.getD (if mx.isSome then m + 1 else len)
 let l := lo.getD 0
 if m ≤ cap ∧ h ≤ m ∧ l ≤ h then some (l, h, m) else none

def sliceV (P : Program) (t : TypeId) (x : V) (lo hi mx : Option Nat) (H : Hp) : Option V :=
 match P.underlying t, x with
 | some .string, .str s => if mx.isSome then none else match bounds s.length s.length lo hi none with
  | some (l, h, _) => some (.str ((s.drop l).take (h - l)))
  | none => none
 | some (.slice e), .nils => match bounds 0 0 lo hi mx, sizeT P e with
  | some _, some _ => some .nils
  | _, _ => none
 | some (.slice e), .odd a => match bounds 0 0 lo hi mx, sizeT P e with
  | some _, some _ => some (.odd a)
  | _, _ => none
 | some (.slice e), .slice k o len (some c) => match bounds len c lo hi mx, sizeT P e with
  | some (l, h, m), some n => some (.slice k (if m = l then o else o + l * n) (h - l) (some (m - l)))
  | _, _ => none
 | some (.slice e), .slice k o len none => if lo.getD 0 = 0 ∧ hi = some 0 ∧ mx = some 0 then (sizeT P e).map fun _ => .slice k o 0 (some 0) else if lo.getD 0 = 0 ∧ hi.getD len = 0 ∧ mx = none then (sizeT P e).map fun _ => .slice k o 0 none else match bounds len len lo hi mx, sizeT P e, H.objs[k]? with
  | some (l, h, m), some n, some (.cells cs e' .grown _) =>
   if e' = e ∧ o + len * n ≤ cs.length then
    if mx.isSome then some (.slice k (if m = l then o else o + l * n) (h - l) (some (m - l)))
    else if l < len ∨ l = 0 then some (.slice k (o + l * n) (h - l) none) else none
   else none
  | _, _, _ => none
 | some (.array n e), .ptr k o => match bounds n n lo hi mx, sizeT P e with
  | some (l, h, m), some z => some (.slice k (if m = l then o else o + l * z) (h - l) (some (m - l)))
  | _, _ => none
 | _, _ => none

def sliceEnd (P : Program) (t : TypeId) (x : V) (lo hi mx : Option Nat) (H : Hp) : Bool :=
 match P.underlying t, x with
 | some (.slice e), .slice k o len none => match bounds len len lo hi mx, sizeT P e, H.objs[k]? with
  | some (l, _, _), some n, some (.cells cs e' .grown _) => mx.isNone && decide (l = len ∧ 0 < l ∧ e' = e ∧ o + len * n ≤ cs.length)
  | _, _, _ => false
 | _, _ => false

def indexAddrV (P : Program) (t : TypeId) (x ix : V) : Option V :=
 match P.underlying t, x, ix with
 | some (.slice e), .slice k o len _, .int _ i => match sizeT P e with
  | some n => if 0 ≤ i ∧ i < (len : Int) then some (.ptr k (o + i.toNat * n)) else none
  | none => none
 | some (.array len e), .ptr k o, .int _ i => match sizeT P e with
  | some n => if 0 ≤ i ∧ i < (len : Int) then some (.ptr k (o + i.toNat * n)) else none
  | none => none
 | some (.array len e), .gptr g o, .int _ i => match sizeT P e with
  | some n => if 0 ≤ i ∧ i < (len : Int) then some (.gptr g (o + i.toNat * n)) else none
  | none => none
 | _, _, _ => none

def indexV (P : Program) (t : TypeId) (x ix : V) : Option V :=
 match P.underlying t, x, ix with
 | some .string, .str s, .int _ i => if 0 ≤ i then (s[i.toNat]?).map byteV else none
 | some (.array len e), .agg cs, .int _ i => match sizeT P e with
  | some n => if 0 ≤ i ∧ i < (len : Int) then partV P e cs (i.toNat * n) else none
  | none => none
 | _, _, _ => none

def fieldAddrV (P : Program) (s : TypeId) (x : V) (f : Nat) : Option V :=
 match P.underlying s with
 | some (.struct fs) => match fs[f]? with
  | some fd => match sizeT P fd.type, x with
   | some (_ + 1), .ptr k o => some (.ptr k (o + fd.offset))
   | some (_ + 1), .gptr g o => some (.gptr g (o + fd.offset))
   | _, _ => none
  | none => none
 | _ => none

def fieldV (P : Program) (t : TypeId) (x : V) (f : Nat) : Option V :=
 match P.underlying t, x with
 | some (.struct fs), .agg cs => match fs[f]? with
  | some fd => partV P fd.type cs fd.offset
  | none => none
 | _, _ => none

def makeSliceV (P : Program) (t : TypeId) (l c : V) (H : Hp) : Out :=
 match P.underlying t, l, c with
 | some (.slice e), .int _ len, .int _ cap => match bytesT P e, zeroT P e, sizeT P e with
  | some b, some z, some n =>
   if 0 ≤ len ∧ len ≤ cap ∧ (b : Int) * cap ≤ 140737488355328 ∧ cap ≤ 140737488355328 ∧ z.cells.length = n then
    (newCells H (zeros z.cells cap.toNat) e .rw).map fun H' => (.val (.slice H.size 0 len.toNat (some cap.toNat)), H')
   else none
  | _, _, _ => none
 | _, _, _ => none

def appendV (P : Program) (e : TypeId) (s : V) (new : List V) (n : Nat) (H : Hp) : Out :=
 match sizeT P e, bytesT P e, zeroT P e with
 | some size, some bytes, some z =>
  if size = 0 ∨ new.length ≠ n * size ∨ z.cells.length ≠ size ∨ new.all V.one ≠ true then none else
  match s with
  | .nils =>
   if n = 0 then ok .nils H
   else if n * bytes ≤ 140737488355328 ∧ n ≤ 140737488355328 then ok (.slice H.size 0 n none) (H.new (.cells new e .grown false)) else none
  | .odd a =>
   if n = 0 then ok (.odd a) H
   else if n * bytes ≤ 140737488355328 ∧ n ≤ 140737488355328 then ok (.slice H.size 0 n none) (H.new (.cells new e .grown false)) else none
  | .slice k o 0 (some 0) =>
   if n = 0 then ok (.slice k o 0 (some 0)) H
   else if n * bytes ≤ 140737488355328 ∧ n ≤ 140737488355328 then ok (.slice H.size 0 n none) (H.new (.cells new e .grown false)) else none
  | .slice k o len c => match H.objs[k]? with
   | some (.cells cs e' m fz) =>
    if o + len * size ≤ cs.length ∧ (len + n) * bytes ≤ 140737488355328 ∧ len + n ≤ 140737488355328 then
     match c with
     | some c =>
      if n = 0 then (if len ≤ c then ok (.slice k o len (some c)) H else none)
      else if len + n ≤ c then (putCells H k (o + len * size) new).map fun H' => (.val (.slice k o (len + n) (some c)), H')
      else ok (.slice H.size 0 (len + n) none) (H.new (.cells ((cs.drop o).take (len * size) ++ new) e .grown false))
     | none =>
      if m = .grown ∧ e' = e ∧ o % size = 0 then
       if n = 0 then ok (.slice k o len none) H
       else if o + (len + n) * size ≤ cs.length then (putCells H k (o + len * size) new).map fun H' => (.val (.slice k o (len + n) none), H')
       else if o + len * size = cs.length then
        ok (.slice H.size 0 (len + n) none) ((H.write k .dead true).new (.cells (cs.drop o ++ new) e .grown fz))
       else none
      else none
    else none
   | _ => none
  | _ => none
 | _, _, _ => none

def copyV (P : Program) (e : TypeId) (d s : V) (H : Hp) : Out :=
 match sizeT P e, d with
 | some _, .nils => match s with
  | .nils => ok (.int .i64 0) H
  | .slice _ _ _ _ => ok (.int .i64 0) H
  | .odd _ => ok (.int .i64 0) H
  | .str _ => ok (.int .i64 0) H
  | _ => none
 | some size, .slice k o dl _ => match shown H size s with
  | some (cs, sl) =>
   let n := min sl dl
   if n = 0 then ok (.int .i64 0) H else
   (putCells H k o (cs.take (n * size))).map fun H' => (.val (.int .i64 n), H')
  | none => none
 | _, _ => none

def lenV (P : Program) (t : TypeId) (x : V) (H : Hp) : Option V :=
 match P.underlying t, x with
 | some .string, .str s => some (.int .i64 s.length)
 | some (.array n _), _ => some (.int .i64 n)
 | some (.slice _), .slice _ _ n _ => some (.int .i64 n)
 | some (.slice _), .nils => some (.int .i64 0)
 | some (.slice _), .odd _ => some (.int .i64 0)
 | some (.map _ _), .nilm => some (.int .i64 0)
 | some (.map _ _), .map k => match H.objs[k]? with
  | some (.map es _) => some (.int .i64 es.length)
  | _ => none
 | some (.pointer a), _ => match P.underlying a with
  | some (.array n _) => some (.int .i64 n)
  | _ => none
 | _, _ => none

def minV : V → List V → Option V
 | x, [] => some x
 | .int k x, .int _ y :: r => minV (.int k (if y < x then y else x)) r
 | _, _ => none

def maxV : V → List V → Option V
 | x, [] => some x
 | .int k x, .int _ y :: r => maxV (.int k (if y > x then y else x)) r
 | _, _ => none

def plainKey (P : Program) (t : TypeId) (k : V) : Bool :=
 match P.underlying t, k with
 | some (.int _), .int _ _ | some .string, .str _ | some .bool, .bool _ => true
 | _, _ => false

def sameKey : V → V → Option Bool
 | .int k a, .int k' b => if k = k' then some (a == b) else none
 | .str a, .str b => some (a == b)
 | .bool a, .bool b => some (a == b)
 | _, _ => none

def findV (key : V) : List Ent → Nat → Option (Option (Nat × V))
 | [], _ => some none
 | e :: es, i => match sameKey key e.key with
  | some true => some (some (i, e.val))
  | some false => findV key es (i + 1)
  | none => none

def arrKey (P : Program) (t : TypeId) (k : V) : Bool :=
 match P.underlying t with
 | some (.array len e) => match P.underlying e with
  | some (.int _) => match k with
   | .agg cs => sizeT P e == some 1 && cs.length == len
   | _ => false
  | _ => false
 | _ => false

def findA (P : Program) (kt : TypeId) (key : V) : List Ent → Nat → Option (Option (Nat × V))
 | [], _ => some none
 | e :: es, i => match eqV P eqDepth kt key e.key with
  | some true => some (some (i, e.val))
  | some false => findA P kt key es (i + 1)
  | none => none

def findK (P : Program) (kt : TypeId) (key : V) (es : List Ent) : Option (Option (Nat × V)) :=
 if plainKey P kt key = true then findV key es 0 else if arrKey P kt key = true then findA P kt key es 0 else none

mutual
def V.eqB : V → V → Bool
 | .bool a, .bool b => a == b
 | .int k a, .int k' b => decide (k = k') && a == b
 | .str a, .str b => a == b
 | .agg l, .agg l' => V.eqBL l l'
 | _, _ => false
def V.eqBL : List V → List V → Bool
 | [], [] => true
 | a :: l, b :: l' => V.eqB a b && V.eqBL l l'
 | _, _ => false
end
def sameAns : Option (Option (Nat × V)) → Option (Option (Nat × V)) → Bool
 | some none, some none => true
 | some (some (_, v)), some (some (_, v')) => v.eqB v'
 | _, _ => false

def lookupV (P : Program) (t : TypeId) (x key : V) (commaOk : Bool) (H : Hp) : Option V :=
 match P.underlying t with
 | some (.map kt vt) =>
  match (match x with
   | .nilm => some []
   | .map k => match H.objs[k]? with
    | some (.map es _) => some es
    | some (.alts ((es, _) :: r)) => if (r.all fun q => sameAns (findK P kt key q.1) (findK P kt key es)) = true then some es else none
    | _ => none
   | _ => none), zeroT P vt with
  | some es, some z => match findK P kt key es with
   | some (some (_, v)) => some (if commaOk then .tup [v, .bool true] else v)
   | some none => some (if commaOk then .tup [z, .bool false] else z)
   | none => none
  | _, _ => none
 | _ => none

def mapSetV (P : Program) (t : TypeId) (m key v : V) (H : Hp) : Option Hp :=
 match P.underlying t, m with
 | some (.map kt _), .map k =>
  match H.objs[k]? with
   | some (.map es clock) => match findK P kt key es with
    | some (some (i, _)) => if plainKey P kt key = true then some (H.write k (.map (es.modify i fun e => { e with key, val := v }) clock) v.flat) else none
    | some none => some (H.write k (.map (es ++ [{ key, val := v, born := clock }]) (clock + 1)) (v.flat && key.flat))
    | none => none
   | _ => none
 | _, _ => none

def mapEntryV (P : Program) (t : TypeId) (m key : V) (H : Hp) : Out :=
 match P.underlying t, m with
 | some (.map kt vt), .map k =>
  if plainKey P kt key then match H.objs[k]?, zeroT P vt with
   | some (.map es clock), some z => match findV key es 0 with
    | some (some (i, v)) => match es[i]? with
     | some e0 => some (.val (.tup [v, .int .i64 e0.born]), H.write k (.map (es.modify i fun e => { e with key }) clock) true)
     | none => none
    | some none => some (.val (.tup [z, .int .i64 clock]), H.write k (.map (es ++ [{ key, val := z, born := clock }]) (clock + 1)) true)
    | none => none
   | _, _ => none
  else none
 | _, _ => none

def entryStoreV (m stamp v : V) (H : Hp) : Option Hp :=
 match m, stamp with
 | .map k, .int _ b => match H.objs[k]? with
  | some (.map es clock) => match es.findIdx? (fun e => (e.born : Int) == b) with
   | some i => some (H.write k (.map (es.modify i fun e => { e with val := v }) clock) v.flat)
   | none => none
  | _ => none
 | _, _ => none

def rangeV (P : Program) (t : TypeId) (x : V) (H : Hp) : Out :=
 match P.underlying t, x with
 | some .string, .str s => ok (.ptr H.size 0) (H.new (.iter s 0))
 | _, _ => none

def nextV (it : V) (isStr : Bool) (H : Hp) : Out :=
 match it, isStr with
 | .ptr k 0, true => match H.objs[k]? with
  | some (.iter s pos) =>
   if pos < s.length then
    ok (.tup [.bool true, .int .i64 pos, .int .i32 (decode (s.drop pos)).1]) (H.write k (.iter s (pos + (decode (s.drop pos)).2)) true)
   else ok (.tup [.bool false]) H
  | _ => none
 | _, _ => none

def builtinV (E : Env) (b : Builtin) (argTypes : List TypeId) (args : List V) (H : Hp) : Out :=
 match b, argTypes, args with
 | .len, t :: _, [x] => okO (lenV E.P t x H) H
 | .cap, t :: _, [.slice _ _ _ (some c)] => match E.P.underlying t with
  | some (.slice _) => ok (.int .i64 c) H
  | _ => none
 | .cap, t :: _, [.nils] => match E.P.underlying t with
  | some (.slice _) => ok (.int .i64 0) H
  | _ => none
 | .unsafeSliceData, _, [.nils] => ok .nilp H
 | .unsafeSliceData, _, [.slice k o n none] => match H.objs[k]? with
  | some (.cells cs e .grown _) => if sizeT E.P e = some 1 ∧ 0 < n ∧ o + n ≤ cs.length then ok (.ptr k o) H else none
  | _ => none
 | .unsafeString, [_, _], [.nilp, .int .i64 0] => ok (.str []) H
 | .unsafeString, [pt, _], [.ptr k o, .int .i64 n] => match H.objs[k]?, E.P.underlying pt with
  | some (.cells cs e m false), some (.pointer e') => if m ≠ .ro ∧ e' = e ∧ sizeT E.P e = some 1 ∧ 0 < n ∧ n ≤ 9223372036854775807 ∧ o + n.toNat ≤ cs.length then match bytesS ((cs.drop o).take n.toNat) with
   | some s => ok (.str s) (H.write k .dead true)
   | none => none
   else none
  | _, _ => none
 | .append, st :: xt :: _, [s, x] => match E.P.underlying st, E.P.underlying xt with
  | some (.slice e), some (.slice _) | some (.slice e), some .string => match (sizeT E.P e).bind fun z => shown H z x with
   | some (cs, n) => appendV E.P e s cs n H
   | none => none
  | _, _ => none
 | .copy, dt :: _, [d, s] => match E.P.underlying dt with
  | some (.slice e) => copyV E.P e d s H
  | _ => none
 | .min, _, x :: r => okO (minV x r) H
 | .max, _, x :: r => okO (maxV x r) H
 | _, _, _ => none

def callV (E : Env) (f : FuncId) (args : List V) (H : Hp) : Out :=
 match E.P.funcs[f]? with
 | some fn => if fn.body.isNone then
  match E.made f with
  | some e => match args with
   | [.int .i64 n] => if 0 ≤ n ∧ n ≤ 140737488355328 then ok (.slice H.size 0 n.toNat none) (H.new (.cells [] e .grown false)) else none
   | _ => none
  | none => if E.same f = true then match args with | [v] => ok v H | _ => none else okO (E.ext f args) H
  else some (.enter f args, H)
 | none => none

def opV (E : Env) (f : Fr) (o : Oper) (H : Hp) : Out :=
 match o.op with
 | .move x | .assign x => okO (f.ev x) H
 | .pick c a b => match f.ev c with
  | some (.bool c) => okO (f.ev (if c then a else b)) H
  | _ => none
 | .alloc e => match zeroT E.P e with
  | some z => (newCells H z.cells e .rw).map fun H' => (.val (.ptr H.size 0), H')
  | none => none
 | .box e x => match f.ev x with
  | some v => (newCells H v.cells e .rw).map fun H' => (.val (.ptr H.size 0), H')
  | none => none
 | .build t parts => match evParts f parts.toList with
  | some ps => okO (buildV E.P t ps) H
  | none => none
 | .buildSlice t len parts => match evParts f parts.toList, E.P.underlying t with
  | some ps, some (.slice e) => match sizeT E.P e, zeroT E.P e with
   | some n, some z =>
    if len * n ≤ 16777216 ∧ z.cells.length = n then match fillV (fun i => some (i * n, n)) (zeros z.cells len) ps with
     | some cs => (newCells H cs e .rw).map fun H' => (.val (.slice H.size 0 len (some len)), H')
     | none => none
    else none
   | _, _ => none
  | _, _ => none
 | .load t a => match f.ev a with
  | some p => okO (loadV E t H p) H
  | none => none
 | .store t a x => match f.ev a, f.ev x with
  | some p, some v => (storeV E t H p v).map fun H' => (.skip, H')
  | _, _ => none
 | .nilCheck x => match f.ev x with
  | some (.ptr k o) => ok (.ptr k o) H
  | some (.gptr k o) => ok (.gptr k o) H
  | some (.func g a b) => ok (.func g a b) H
  | some (.iface t v) => ok (.iface t v) H
  | _ => none
 | .binOp op t x y _ => match f.ev x, f.ev y with
  | some a, some b => okO (binV E.P op t (isConst x) (isConst y) a b) H
  | _, _ => none
 | .unOp op _ x => match f.ev x with
  | some a => okO (unV op a) H
  | none => none
 | .convert s d x => match f.ev x with
  | some a => convV E.P s d a H
  | none => none
 | .makeInterface t x => match E.P.underlying t, f.ev x with
  | some (.interface _), _ => none
  | some _, some v => ok (.iface t v) H
  | _, _ => none
 | .makeFunc (.func g) a b => match evs f a.toList, evs f b.toList with
  | some a, some b => ok (.func g a b) H
  | _, _ => none
 | .makeMap _ none => ok (.map H.size) (H.new (.map [] 0))
 | .makeSlice t l c => match f.ev l, f.ev c with
  | some l, some c => makeSliceV E.P t l c H
  | _, _ => none
 | .slice t x lo hi mx => match f.ev x, (evOpt f lo).bind natV, (evOpt f hi).bind natV, (evOpt f mx).bind natV with
  | some x, some lo, some hi, some mx => if sliceEnd E.P t x lo hi mx H = true then ok (.slice H.size 0 0 none) (H.new .dead) else okO (sliceV E.P t x lo hi mx H) H
  | _, _, _, _ => none
 | .fieldAddr s x i => match f.ev x with
  | some v => okO (fieldAddrV E.P s v i) H
  | none => none
 | .field t x i => match f.ev x with
  | some v => okO (fieldV E.P t v i) H
  | none => none
 | .indexAddr t x i => match f.ev x, f.ev i with
  | some x, some i => okO (indexAddrV E.P t x i) H
  | _, _ => none
 | .index t x i => match f.ev x, f.ev i with
  | some x, some i => okO (indexV E.P t x i) H
  | _, _ => none
 | .lookup t x i c => match f.ev x, f.ev i with
  | some x, some i => okO (lookupV E.P t x i c H) H
  | _, _ => none
 | .mapUpdate t m k v | .insert t m k v => match f.ev m, f.ev k, f.ev v with
  | some m, some k, some v => (mapSetV E.P t m k v H).map fun H' => (.skip, H')
  | _, _, _ => none
 | .mapEntry t m k => match f.ev m, f.ev k with
  | some m, some k => mapEntryV E.P t m k H
  | _, _ => none
 | .entryStore _ m s v => match f.ev m, f.ev s, f.ev v with
  | some m, some s, some v => (entryStoreV m s v H).map fun H' => (.skip, H')
  | _, _, _ => none
 | .range t x => match f.ev x with
  | some v => rangeV E.P t v H
  | none => none
 | .next it s => match f.ev it with
  | some v => nextV v s H
  | none => none
 | .extract x i => match f.ev x with
  | some (.tup vs) => okO (vs[i]?) H
  | _ => none
 | .call c => match evs f c.args.toList, c.callee with
  | some args, .builtin b => builtinV E b c.argTypes.toList args H
  | some args, .value g => match f.ev g with
   | some (.func g a b) => callV E g (a ++ args ++ b) H
   | _ => none
  | _, _ => none
 | _ => none

inductive X where
 | normal | exit (id : Nat) | ret
 deriving DecidableEq, Inhabited

inductive CR where
 | pure (v : V)
 | eff (v : V) (H : Hp)
 deriving Inhabited

abbrev Callee := FuncId → List V → List AObj → Option CR

def Hp.after (H : Hp) : CR → V × Hp
 | .pure v => (v, H)
 | .eff v H' => (v, { objs := H'.objs, wr := min H.wr H'.wr, esc := min H.esc H'.esc })

def wantedV (f : Fr) (ops : List Oper) (o : Oper) : Option Bool :=
 match o.guard with
 | none => some true
 | some (j, want) => match (ops[j]?).bind (·.dst) with
  | none => some false
  | some d => match get f.m d with
   | some (.bool b) => some (b == want)
   | some _ => some false
   | none => none

def evOps (E : Env) (C : Callee) (ops : List Oper) : List Oper → Fr → Hp → Option (Fr × Hp)
 | [], f, H => some (f, H)
 | o :: r, f, H =>
  match wantedV f ops o with
  | some true =>
   match opV E f o H with
   | some (.val v, H') => match f.set o.dst v with
    | some f' => evOps E C ops r f' H'
    | none => none
   | some (.skip, H') => match f.set o.dst .undef with
    | some f' => evOps E C ops r f' H'
    | none => none
   | some (.enter g args, H') => match C g args H'.objs with
    | some c => match f.set o.dst (H'.after c).1 with
     | some f' => evOps E C ops r f' (H'.after c).2
     | none => none
    | none => none
   | none => none
  | some false => match f.set o.dst .undef with
   | some f' => evOps E C ops r f' H
   | none => none
  | none => none

def quietOp : Op → Bool
 | .move _ | .assign _ | .pick .. | .build .. | .load .. | .nilCheck _ | .binOp .. | .unOp .. | .makeInterface .. | .makeFunc .. | .slice .. | .fieldAddr .. | .field .. | .indexAddr .. | .index .. | .lookup .. | .extract .. => true
 | .convert .. => true
 | .call c => match c.callee with
  | .builtin .len | .builtin .cap | .builtin .min | .builtin .max => true
  | _ => false
 | _ => false

def evQuiet (E : Env) (C : Callee) (ops : List Oper) : List Oper → Fr → Hp → Option Fr
 | [], f, _ => some f
 | o :: r, f, H =>
  match wantedV f ops o with
  | some true =>
   if quietOp o.op then
    match opV E f o H with
    | some (.val v, H') => if H'.objs.length = H.objs.length then match f.set o.dst v with
     | some f' => evQuiet E C ops r f' H
     | none => none
     else none
    | some (.enter g args, _) => match C g args H.objs with
     | some (.pure v) => match f.set o.dst v with
      | some f' => evQuiet E C ops r f' H
      | none => none
     | _ => none
    | _ => none
   else none
  | some false => match f.set o.dst .undef with
   | some f' => evQuiet E C ops r f' H
   | none => none
  | none => none

def V.ids : V → List Nat
 | .ptr k _ | .slice k _ _ _ | .map k => [k]
 | _ => []
def idsO : Option V → List Nat
 | some v => v.ids
 | none => []

def mapIds : Option V → List Nat
 | some (.map k) => [k]
 | _ => []
def named (f : Fr) (o : Oper) : List Nat :=
 match o.op with
 | .load _ a | .store _ a _ => idsO (f.ev a)
 | .slice _ x _ _ _ | .convert _ _ x | .lookup _ x _ _ | .next x _ => idsO (f.ev x)
 | .mapUpdate _ m _ _ | .insert _ m _ _ | .mapEntry _ m _ | .entryStore _ m _ _ => idsO (f.ev m)
 | .call c => match c.callee with
  | .builtin .len => c.args.toList.flatMap fun x => mapIds (f.ev x)
  | .builtin _ => c.args.toList.flatMap fun x => idsO (f.ev x)
  | _ => []
 | _ => []

def writes (o : Oper) : Bool :=
 match o.op with
 | .store .. | .mapUpdate .. | .insert .. | .next .. | .mapEntry .. | .entryStore .. => true
 | .call c => match c.callee with
  | .builtin .append | .builtin .copy | .builtin .unsafeString => true
  | _ => false
 | _ => false

inductive Vis where
 | only (l : List Nat)
 | but (l : List Nat)
 deriving Inhabited
def Vis.sees : Vis → Nat → Bool
 | .only l, k => l.contains k
 | .but l, k => !l.contains k

structure Past where
 idx : Nat
 sz : Nat
 tch : List Nat
 vis : Vis
 deriving Inhabited

def hideL (l : List Nat) (H : List AObj) : List AObj := l.foldl (fun H k => H.set k .dead) H

def befOne (acc : List Nat) (o : Oper) : Nat := o.after.toList.foldl (fun s e => if Region.binds .any e then s ||| 2 ^ e.on ||| acc.getD e.on 0 else s) 0
def befs : List Oper → List Nat → List Nat
 | [], acc => acc
 | o :: r, acc => befs r (acc ++ [befOne acc o])

def freeOf (bef : List Nat) (past : List Past) : List Past := past.filter fun p => !((bef.getD past.length 0).testBit p.idx)
def tchOk (free : List Past) (tch : List Nat) : Bool := free.all fun p => tch.all fun k => decide (p.sz ≤ k) || !p.vis.sees k
def namesOk (n0 : Nat) (hide tch : List Nat) (r : R) (H' : Hp) : Bool :=
 let new := hide.filter fun k => decide (n0 ≤ k)
 new.isEmpty || ((match r with
  | .val v => v.all fun k => !new.contains k
  | _ => true) && tch.all fun k => match H'.objs[k]? with
  | some o => o.vals.all fun v => v.all fun k => !new.contains k
  | none => true)

def copyOf (o : Oper) : Option Nat :=
 match o.op with
 | .move (.tmp t) | .assign (.tmp t) => some t
 | _ => none

def hideOf (bef : List Nat) (past : List Past) : List Nat := if (past.all fun p => p.tch.isEmpty) = true then [] else (freeOf bef past).flatMap (·.tch)
def tchOk2 (bef : List Nat) (past : List Past) (tch : List Nat) : Bool := tch.isEmpty || tchOk (freeOf bef past) tch

def evDrawn (E : Env) (C : Callee) (ops : List Oper) (n0 : Nat) (bef : List Nat) : List Oper → List Past → Fr → Hp → Option (Fr × Hp)
 | [], _, f, H => some (f, H)
 | o :: r, past, f, H =>
  match wantedV f ops o with
  | none => none
  | some false => match f.set o.dst .undef with
   | some f' => evDrawn E C ops n0 bef r (⟨past.length, H.size, [], .only []⟩ :: past) f' H
   | none => none
  | some true =>
   match opV E f o H with
   | none => none
   | some (.enter g args, H1) =>
    match (if (named f o).isEmpty then C g args (hideL (hideOf bef past) H1.objs) else none) with
    | some (.pure v) => match f.set o.dst v with
     | some f' => evDrawn E C ops n0 bef r (⟨past.length, H.size, [], .but (hideOf bef past)⟩ :: past) f' H1
     | none => none
    | some (.eff v H2) =>
     if (hideOf bef past).isEmpty && tchOk2 bef past (List.range' (min H2.wr H.size) (H2.objs.length - min H2.wr H.size)) then match f.set o.dst v with
      | some f' => evDrawn E C ops n0 bef r (⟨past.length, H.size, List.range' (min H2.wr H.size) (H2.objs.length - min H2.wr H.size), .but []⟩ :: past) f' (H1.after (.eff v H2)).2
      | none => none
     else none
    | none => none
   | some (r0, H') =>
    let hide := hideOf bef past
    let tch := (if writes o then (named f o).filter (fun k => decide (k < H.size)) else []) ++ List.range' H.size (H'.size - H.size)
    if (named f o).all (fun k => !hide.contains k) && tchOk2 bef past tch && ((copyOf o).isSome || namesOk n0 hide tch r0 H') then
     match f.set o.dst (match r0 with | .val v => v | _ => .undef) with
     | some f' => evDrawn E C ops n0 bef r (⟨past.length, H.size, tch, .only (named f o)⟩ :: past) f' H'
     | none => none
    else none

def defAt (ops : List Oper) (t : Nat) : Option Nat := ops.findIdx? fun o => o.dst == some t
def notSelect : Op → Bool
 | .select .. => false
 | _ => true
def drawnOkGo (ops : List Oper) (bs : List Nat) (arr : Array Oper) : List Oper → Nat → Bool
 | [], _ => true
 | o :: r, j => notSelect o.op && o.after.all (fun e => !Region.binds .any e || decide (e.on < j)) && (match o.dst with
  | some d => defAt ops d == some j
  | none => true) && (o.looksAt arr).all (fun t => match defAt ops t with
  | none => true
  | some d => d == j || (if d < j then (bs.getD j 0).testBit d else (bs.getD d 0).testBit j)) && drawnOkGo ops bs arr r (j + 1)
def drawnOk (ops : List Oper) : Bool := drawnOkGo ops (befs ops []) ops.toArray ops 0

def isCall (o : Oper) : Bool :=
 match o.op with
 | .call c => match c.callee with
  | .builtin _ => false
  | _ => true
 | _ => false
def quietAll (ops : List Oper) : Bool := ops.all fun o => quietOp o.op && !isCall o

def ins1 {α : Type} (a : α) : List α → List (List α)
 | [] => [[a]]
 | b :: l => (a :: b :: l) :: (ins1 a l).map (b :: ·)
def perms {α : Type} : List α → List (List α)
 | [] => [[]]
 | a :: l => (perms l).flatMap (ins1 a)
def stamp : List (V × V) → Nat → List Ent
 | [], _ => []
 | (k, v) :: r, n => { key := k, val := v, born := n } :: stamp r (n + 1)

structure LD where
 d : Option (Nat × V)
 kv : Option (V × V)
 deriving Inhabited

def LD.lays (t : Nat) (q : LD) : Bool := match q.d with
 | some (d, _) => d == t
 | none => false
def isNN {α : Type} : Option (Option α) → Bool
 | some none => true
 | _ => false

def litSee (ks : List LD) (o : Oper) : Operand → Option V
 | .tmp t => match ks.findIdx? (LD.lays t) with
  | some j => if o.after.any (fun e => Region.binds .any e && e.on == j) = true then (ks[j]?).bind fun q => q.d.map (·.2) else none
  | none => none
 | _ => none

def litFrame (ds : List Nat) (f : Fr) (ks : List LD) (o : Oper) : Fr :=
 ⟨(List.range f.m.length).map fun t => if ds.contains t then litSee ks o (.tmp t) else get f.m t⟩

def litPure : Op → Bool
 | .build .. | .move _ | .assign _ | .nilCheck _ | .fieldAddr .. => true
 | _ => false

def litStep (E : Env) (n : Nat) (t0 kt : TypeId) (ds : List Nat) (f : Fr) (ks : List LD) (o : Oper) : Option LD :=
 if o.guard.isSome = true then none else
 match o.dst with
 | none => match o.op with
  | .insert t m k v => match (litFrame ds f ks o).ev m, (litFrame ds f ks o).ev k, (litFrame ds f ks o).ev v with
   | some (.map n'), some k, some v => if n' = n ∧ t = t0 ∧ (k.all fun j => decide (j < n)) = true ∧ (v.all fun j => decide (j < n)) = true ∧ isNN (findK E.P kt k []) = true ∧ (ks.all fun q => match q.kv with
    | some (k', v') => isNN (findK E.P kt k [⟨k', v', 0⟩]) && isNN (findK E.P kt k' [⟨k, v, 0⟩])
    | none => true) = true then some ⟨none, some (k, v)⟩ else none
   | _, _, _ => none
  | _ => none
 | some d => if litPure o.op = true ∧ ks.any (LD.lays d) = false ∧ ds.contains d = true then match opV E (litFrame ds f ks o) o ⟨[], 0, 0⟩ with
  | some (.val v, _) => some ⟨some (d, v), none⟩
  | _ => none
  else none

def litGo (E : Env) (n : Nat) (t0 kt : TypeId) (ds : List Nat) (f : Fr) : List Oper → List LD → Option (List LD)
 | [], ks => some ks
 | o :: r, ks => match litStep E n t0 kt ds f ks o with
  | some q => litGo E n t0 kt ds f r (ks ++ [q])
  | none => none

def sets : List LD → Fr → Fr
 | [], f => f
 | q :: r, f => sets r (match q.d with
  | some (d, v) => { m := put f.m d v }
  | none => f)

def evLit (E : Env) (ops : List Oper) (f : Fr) (H : Hp) : Option (Fr × Hp) :=
 match ops with
 | o :: r => match o.op, o.dst, o.guard with
  | .makeMap t none, some d, none => match E.P.underlying t with
   | some (.map kt _) => match litGo E H.objs.length t kt (ops.filterMap (·.dst)) f r [⟨some (d, .map H.objs.length), none⟩] with
    | some ks => if ks.all (fun q => match q.d with
     | some (d, _) => decide (d < f.m.length)
     | none => true) = true then some (sets ks f, H.new (.alts ((perms (ks.filterMap (·.kv))).map fun s => (stamp s 0, s.length)))) else none
    | none => none
   | _ => none
  | _, _, _ => none
 | [] => none

abbrev St := Fr × Hp

def iter (g : St → Option (X × St)) : Nat → St → Option (X × St)
 | 0, _ => none
 | n + 1, s => match g s with
  | some (.normal, s') => iter g n s'
  | r => r

def evCode (E : Env) (C : Callee) (fuel : Nat) : Code → St → Option (X × St)
 | .skip, s | .label _, s => some (.normal, s)
 | .region _ ops false, s => (evOps E C ops.toList ops.toList s.1 s.2).map fun s => (.normal, s)
 | .region _ ops true, s =>
  match (if (quietAll ops.toList && Region.lexB .any ops) = true then evQuiet E C ops.toList ops.toList s.1 s.2 else none) with
  | some f => some (.normal, (f, s.2))
  | none => if drawnOk ops.toList = true then ((evDrawn E C ops.toList s.2.objs.length (befs ops.toList []) ops.toList [] s.1 s.2).orElse fun _ => evLit E ops.toList s.1 s.2).map fun s => (.normal, s)
  else none
 | .seq a b, s => match evCode E C fuel a s with
  | some (.normal, s') => evCode E C fuel b s'
  | r => r
 | .cond c a b, s => match s.1.ev c with
  | some (.bool true) => evCode E C fuel a s
  | some (.bool false) => evCode E C fuel b s
  | _ => none
 | .block id b, s => match evCode E C fuel b s with
  | some (.exit i, s') => if i = id then some (.normal, s') else some (.exit i, s')
  | r => r
 | .loop b, s => iter (evCode E C fuel b) fuel s
 | .exit id, s => some (.exit id, s)
 | .ret, s => some (.ret, s)
 | _, _ => none

def resV (E : Env) (f : Fr) (H : Hp) : List ResultVar → Option (List V)
 | [] => some []
 | .tmp t :: r => match get f.m t, resV E f H r with
  | some v, some vs => some (v :: vs)
  | _, _ => none
 | .cell a t :: r => match (get f.m a).bind (loadV E t H), resV E f H r with
  | some v, some vs => some (v :: vs)
  | _, _ => none

def tupV : List V → V
 | [v] => v
 | vs => .tup vs

def frame : Nat → List V → List (Option V)
 | 0, _ => []
 | n + 1, [] => none :: frame n []
 | n + 1, v :: r => some v :: frame n r

def close (n : Nat) (v : V) (H : Hp) : CR :=
 if v.flat && decide (n ≤ H.wr) then .pure v
 else if v.flat && decide (n ≤ H.esc) then .eff v { H with objs := H.objs.take n }
 else .eff v H

def closeF (full : Bool) (n : Nat) (v : V) (H : Hp) : CR :=
 match full with
 | true => .eff v H
 | false => close n v H

def evCall (E : Env) : Nat → FuncId → List V → List AObj → Option CR
 | 0, _, _, _ => none
 | fuel + 1, f, args, H =>
  match E.orc f args H with
  | some v => some (.pure v)
  | none =>
   match E.P.funcs[f]? with
   | some fn => match fn.body with
    | some c =>
     if args.length ≤ fn.ntmps then
      match evCode E (evCall E fuel) (fuel + 1) c ({ m := frame fn.ntmps args }, { objs := H, wr := H.length, esc := H.length }) with
      | some (x, s) =>
       if x = .normal ∨ x = .ret then (resV E s.1 s.2 fn.results.toList).map fun vs => closeF (E.full f) H.length (tupV vs) s.2
       else none
      | none => none
     else none
    | none => none
   | none => none

end Go.Am
