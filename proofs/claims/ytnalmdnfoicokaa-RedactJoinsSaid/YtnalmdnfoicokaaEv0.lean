/-
  A DETERMINISTIC EVALUATOR over abstract values for the model's own code (own work). No theorem of the program stands here.
-/
import Derived.Orders
import Derived.Tactics
import Derived.Laws.BytesArg
namespace Go.Ev
open Go

/-- Abstract values. 'ptr', 'sl', 'map': by a block's abstract number. 'ro', 'ros', 'rom': what is read only, its cells inline. -/
inductive V where
  | bool (b : Bool)
  | int (k : IntKind) (n : Int)
  | str (s : ByteArray)
  | nilp
  | ptr (id off : Nat)
  | ro (cs : List V)
  | nils
  | sl (id off len sz : Nat)
  | ros (len : Nat) (cs : List V)
  | nilm
  | map (id : Nat)
  | rom (ks vs : List V)
  | fn (f : Fn) (fst cap : List V)
  | nilf
  | iface (t : Nat) (v : V)
  | nili
  | agg (cs : List V)
  | tup (vs : List V)
  | junk

instance : Inhabited V := ⟨.junk⟩

def V.undef : V := .tup []

inductive Blk where
  | cells (cs : List V) (exact : Bool)
  | map (es : List (V × V × Nat)) (clock : Nat)
  | siter (s : ByteArray) (pos : Nat)

abbrev Heap := List (Option Blk)

/-- What the evaluator is told beside the program: the listed variables' cells, which functions are called without memory of the caller's, which slots live at a loop's head. -/
structure Env where
  glob : Nat → Option (List V)
  plain : Nat → Bool
  live : Nat → Nat → Option (List Nat)
  orc : Nat → List V → List (Option Blk) → Option (V × List (Option Blk)) := fun _ _ _ => none
  cold : Nat → Nat → Bool := fun _ _ => false
  mono : Bool := true

mutual
/-- References replaced. -/
def V.sub (hp : Nat → Nat → V) (hs : Nat → Nat → Nat → Nat → V) (hm : Nat → V) : V → V
  | .ptr id off => hp id off
  | .sl id off len sz => hs id off len sz
  | .map id => hm id
  | .fn f a b => .fn f (subL hp hs hm a) (subL hp hs hm b)
  | .iface t v => .iface t (v.sub hp hs hm)
  | .agg cs => .agg (subL hp hs hm cs)
  | .tup cs => .tup (subL hp hs hm cs)
  | v => v
def subL (hp : Nat → Nat → V) (hs : Nat → Nat → Nat → Nat → V) (hm : Nat → V) : List V → List V
  | [] => []
  | v :: l => v.sub hp hs hm :: subL hp hs hm l
end

mutual
def V.refs : V → List Nat
  | .ptr id _ => [id]
  | .sl id _ _ _ => [id]
  | .map id => [id]
  | .fn _ a b => refsL a ++ refsL b
  | .iface _ v => v.refs
  | .agg cs => refsL cs
  | .tup cs => refsL cs
  | _ => []
def refsL : List V → List Nat
  | [] => []
  | v :: l => v.refs ++ refsL l
end

mutual
/-- The places for blocks that a value has, in order. -/
def V.leaves : V → List (Option Nat)
  | .ptr id _ => [some id]
  | .sl id _ _ _ => [some id]
  | .map id => [some id]
  | .nilp => [none]
  | .nils => [none]
  | .nilm => [none]
  | .ro _ => [none]
  | .ros _ _ => [none]
  | .rom _ _ => [none]
  | .fn _ a b => leavesL a ++ leavesL b
  | .iface _ v => v.leaves
  | .agg cs => leavesL cs
  | .tup cs => leavesL cs
  | _ => []
def leavesL : List V → List (Option Nat)
  | [] => []
  | v :: l => v.leaves ++ leavesL l
end

mutual
/-- Nothing read only in it. -/
def V.own : V → Bool
  | .ro _ => false
  | .ros _ _ => false
  | .rom _ _ => false
  | .fn _ a b => ownL a && ownL b
  | .iface _ v => v.own
  | .agg cs => ownL cs
  | .tup cs => ownL cs
  | _ => true
def ownL : List V → Bool
  | [] => true
  | v :: l => v.own && ownL l
end

def V.ren (ρ : Nat → Option Nat) (v : V) : V :=
  v.sub (fun id off => match ρ id with | some j => .ptr j off | none => .junk)
    (fun id off len sz => match ρ id with | some j => .sl j off len sz | none => .junk)
    (fun id => match ρ id with | some j => .map j | none => .junk)
def renL (ρ : Nat → Option Nat) (l : List V) : List V :=
  subL (fun id off => match ρ id with | some j => .ptr j off | none => .junk)
    (fun id off len sz => match ρ id with | some j => .sl j off len sz | none => .junk)
    (fun id => match ρ id with | some j => .map j | none => .junk) l

def Blk.ren (ρ : Nat → Option Nat) : Blk → Blk
  | .cells cs e => .cells (renL ρ cs) e
  | .map es c => .map (es.map fun (k, v, b) => (k.ren ρ, v.ren ρ, b)) c
  | .siter s p => .siter s p
def Blk.refs : Blk → List Nat
  | .cells cs _ => refsL cs
  | .map es _ => es.flatMap fun (k, v, _) => k.refs ++ v.refs
  | .siter _ _ => []
def Blk.own : Blk → Bool
  | .cells cs _ => ownL cs
  | .map es _ => es.all fun (k, v, _) => k.own && v.own
  | .siter _ _ => true

/-- The value with all that it refers to read out: d levels. -/
def snap : Nat → Heap → V → V
  | 0, _, v => v.sub (fun _ _ => .junk) (fun _ _ _ _ => .junk) (fun _ => .junk)
  | d + 1, H, v =>
    v.sub
      (fun id off => match H[id]? with
        | some (some (.cells cs _)) => .ro ((cs.drop off).map (snap d H))
        | _ => .junk)
      (fun id off len sz => match H[id]? with
        | some (some (.cells cs _)) => .ros len (((cs.drop off).take (len * sz)).map (snap d H))
        | _ => .junk)
      (fun id => match H[id]? with
        | some (some (.map es _)) => .rom (es.map fun (k, _, _) => snap d H k) (es.map fun (_, v, _) => snap d H v)
        | _ => .junk)

/-- The same, but for what is kept as it is. -/
def snapK (keep : Nat → Bool) : Nat → Heap → V → V
  | 0, _, v => v.sub (fun _ _ => .junk) (fun _ _ _ _ => .junk) (fun _ => .junk)
  | d + 1, H, v =>
    v.sub
      (fun id off => if keep id then .junk else match H[id]? with
        | some (some (.cells cs _)) => .ro ((cs.drop off).map (snapK keep d H))
        | _ => .junk)
      (fun id off len sz => if keep id then .junk else match H[id]? with
        | some (some (.cells cs _)) => .ros len (((cs.drop off).take (len * sz)).map (snapK keep d H))
        | _ => .junk)
      (fun id => if keep id then .junk else match H[id]? with
        | some (some (.map es _)) => .rom (es.map fun (k, _, _) => snapK keep d H k) (es.map fun (_, v, _) => snapK keep d H v)
        | _ => .junk)

/-- The numbers of the blocks at or above m that are reached, each once. -/
def reach (m : Nat) (H : Heap) : Nat → List Nat → List Nat → List Nat
  | 0, _, seen => seen
  | _ + 1, [], seen => seen
  | k + 1, id :: todo, seen =>
    if id < m then reach m H k todo seen
    else if seen.contains id then reach m H k todo seen
    else match H[id]? with
      | some (some b) => reach m H k (todo ++ b.refs) (seen ++ [id])
      | _ => reach m H k todo seen

/-- A block's places: of what was made as a whole, every one; else those that are taken. -/
def Blk.leaves : Blk → List (Option Nat)
  | .cells cs true => leavesL cs
  | b => b.refs.map some

/-- What is kept, place by place; at an empty place a number that no block has. -/
def place (m : Nat) (H : Heap) : Nat → List (Option Nat) → List Nat → List Nat
  | 0, _, seen => seen
  | _ + 1, [], seen => seen
  | k + 1, none :: todo, seen => place m H k todo (seen ++ [H.length])
  | k + 1, some id :: todo, seen =>
    if id < m then place m H k todo (seen ++ [H.length])
    else if seen.contains id then place m H k todo (seen ++ [H.length])
    else match H[id]? with
      | some (some b) => place m H k (todo ++ b.leaves) (seen ++ [id])
      | _ => place m H k todo (seen ++ [H.length])

def indexIn (id : Nat) : List Nat → Option Nat
  | [] => none
  | x :: l => if x = id then some 0 else (indexIn id l).map (· + 1)

/-- Blocks below m stay; those of L follow. -/
def keepOf (m : Nat) (L : List Nat) (id : Nat) : Option Nat := if id < m then some id else (indexIn id L).map (m + ·)
def keepHeap (m : Nat) (L : List Nat) (H : Heap) : Heap :=
  (H.take m).map (fun b => b.map (Blk.ren (keepOf m L))) ++ L.map fun id => (H.getD id none).map (Blk.ren (keepOf m L))
def blkRefs (b : Option Blk) : List Nat := match b with | some b => b.refs | none => []
def rootsOf (m : Nat) (H : Heap) : List Nat := (H.take m).flatMap blkRefs
def blkLeaves (b : Option Blk) : List (Option Nat) := match b with | some b => b.leaves | none => []
def rootLeaves (m : Nat) (H : Heap) : List (Option Nat) := (H.take m).flatMap blkLeaves
def fuelR : Nat := 1000

/-- Places of the slots' own blocks, and of those that blocks made as a whole hold. -/
def topPlace (m : Nat) (H : Heap) : Nat → List (Option Nat) → List Nat → List Nat
  | 0, _, seen => seen
  | _ + 1, [], seen => seen
  | k + 1, none :: todo, seen => topPlace m H k todo (seen ++ [H.length])
  | k + 1, some id :: todo, seen =>
    if id < m then topPlace m H k todo (seen ++ [H.length])
    else if seen.contains id then topPlace m H k todo (seen ++ [H.length])
    else match H[id]? with
      | some (some (.cells cs true)) => topPlace m H k (todo ++ leavesL cs) (seen ++ [id])
      | some (some _) => topPlace m H k todo (seen ++ [id])
      | _ => topPlace m H k todo (seen ++ [H.length])
def keptB (m : Nat) (L : List Nat) (id : Nat) : Bool := decide (id < m) || L.contains id
/-- A value whose blocks are kept by their new numbers, or read out for good. -/
def coldV (m : Nat) (L : List Nat) (H : Heap) (v : V) : V :=
  v.sub (fun id off => if keptB m L id then (V.ptr id off).ren (keepOf m L) else snapK (keptB m L) 4 H (.ptr id off))
    (fun id off len sz => if keptB m L id then (V.sl id off len sz).ren (keepOf m L) else snapK (keptB m L) 4 H (.sl id off len sz))
    (fun id => if keptB m L id then (V.map id).ren (keepOf m L) else snapK (keptB m L) 4 H (.map id))
def Blk.mapV (f : V → V) : Blk → Blk
  | .cells cs e => .cells (cs.map f) e
  | .map es c => .map (es.map fun (k, v, b) => (f k, f v, b)) c
  | .siter s p => .siter s p
def coldHeap (m : Nat) (L : List Nat) (H : Heap) : Heap :=
  (H.take m).map (Option.map (Blk.mapV (coldV m L H))) ++ L.map fun id => (H.getD id none).map (Blk.mapV (coldV m L H))

/-! ### Types -/
section
variable (P : Program)
def tsz (t : TypeId) : Option Nat := (P.info? t).map (·.size)
def tbytes (t : TypeId) : Option Nat := (P.info? t).map (·.bytes)
def tagg (t : TypeId) : Option Bool := match P.underlying t with | some (.struct _) => some true | some (.array _ _) => some true | some _ => some false | none => none
mutual
def ofConst : Value → Option V
  | .bool b => some (.bool b)
  | .int k n => some (.int k n)
  | .string s => some (.str s)
  | .pointer none => some .nilp
  | .slice none 0 0 => some .nils
  | .map none => some .nilm
  | .nilFunc => some .nilf
  | .nilIface => some .nili
  | .agg ⟨cs⟩ => if cs.all Value.oneCell' then (ofConstL cs).map .agg else none
  | .tuple ⟨cs⟩ => (ofConstL cs).map .tup
  | _ => none
def ofConstL : List Value → Option (List V)
  | [] => some []
  | v :: l => match ofConst v, ofConstL l with
    | some a, some b => some (a :: b)
    | _, _ => none
end
def tzero (t : TypeId) : Option V := (P.info? t).bind fun i => i.zero.bind ofConst
end


/-- A value's cells. -/
def V.cellsO : V → Option (List V)
  | .agg cs => some cs
  | .junk => none
  | .tup _ => none
  | v => some [v]

/-! ### Operations -/
def tzc (P : Program) (t : TypeId) : Option (List V) := (tzero P t).bind V.cellsO
def getS (s : List V) (t : Nat) : V := s.getD t .junk

def evOperand (Γ : Env) (s : List V) : Operand → V
  | .tmp t => getS s t
  | .const v => (ofConst v).getD .junk
  | .global g => match Γ.glob g with | some cs => .ro cs | none => .junk
  | .func f => .fn (.func f) [] []

def binInt (op : BinOp) (k : IntKind) (a b : Int) : Option V :=
  match op with
  | .add => some (.int k (k.wrap (a + b)))
  | .sub => some (.int k (k.wrap (a - b)))
  | .mul => some (.int k (k.wrap (a * b)))
  | .quo => if b = 0 then none else some (.int k (k.wrap (a.tdiv b)))
  | .rem => if b = 0 then none else some (.int k (a.tmod b))
  | .and => some (.int k (k.wrap (BitVec.ofInt k.bits a &&& BitVec.ofInt k.bits b).toNat))
  | .or => some (.int k (k.wrap (BitVec.ofInt k.bits a ||| BitVec.ofInt k.bits b).toNat))
  | .xor => some (.int k (k.wrap (BitVec.ofInt k.bits a ^^^ BitVec.ofInt k.bits b).toNat))
  | .andNot => some (.int k (k.wrap (BitVec.ofInt k.bits a &&& ~~~ BitVec.ofInt k.bits b).toNat))
  | .eql => some (.bool (a == b))
  | .neq => some (.bool (a != b))
  | .lss => some (.bool (a < b))
  | .leq => some (.bool (a ≤ b))
  | .gtr => some (.bool (a > b))
  | .geq => some (.bool (a ≥ b))
  | _ => none

def binShift (op : BinOp) (k : IntKind) (a b : Int) : Option V :=
  if b < 0 then none else
  match op with
  | .shl => some (.int k (k.wrap (a * 2 ^ (min b.toNat k.bits))))
  | .shr => some (.int k (a.fdiv (2 ^ (min b.toNat k.bits))))
  | _ => none

def binStr (op : BinOp) (a b : ByteArray) : Option V :=
  match op with
  | .add => if a.size + b.size ≤ 9223372036854775807 then some (.str (a ++ b)) else none
  | .eql => some (.bool (a.toList == b.toList))
  | .neq => some (.bool !(a.toList == b.toList))
  | .lss => some (.bool (Op.bytesLess a.toList b.toList))
  | .leq => some (.bool (Op.bytesLess a.toList b.toList || a.toList == b.toList))
  | .gtr => some (.bool !(Op.bytesLess a.toList b.toList || a.toList == b.toList))
  | .geq => some (.bool !(Op.bytesLess a.toList b.toList))
  | _ => none

section
variable (P : Program)

/-- 'part' over abstract cells. -/
def partV (t : TypeId) (cs : List V) (off : Nat) : Option V :=
  match tagg P t with
  | some true => match tsz P t with
    | some n => if off + n ≤ cs.length then some (.agg ((cs.drop off).take n)) else none
    | none => none
  | some false => cs[off]?
  | none => none

def eqB : V → V → Option Bool
  | .bool a, .bool b => some (a == b)
  | _, _ => none
def eqI : V → V → Option Bool
  | .int k a, .int k' b => if k = k' then some (a == b) else none
  | _, _ => none
def eqS : V → V → Option Bool
  | .str a, .str b => some (a == b)
  | _, _ => none
def eqSlice : V → V → Option Bool
  | .nils, .nils => some true
  | .nils, .sl _ _ _ _ => some false
  | .nils, .ros _ _ => some false
  | .sl _ _ _ _, .nils => some false
  | .ros _ _, .nils => some false
  | _, _ => none
def eqFn : V → V → Option Bool
  | .nilf, .nilf => some true
  | .nilf, .fn _ _ _ => some false
  | .fn _ _ _, .nilf => some false
  | _, _ => none
def eqIface : V → V → Option Bool
  | .nili, .iface _ _ => some false
  | .iface _ _, .nili => some false
  | .nili, .nili => some true
  | _, _ => none
def eqMap : V → V → Option Bool
  | .nilm, .nilm => some true
  | .nilm, .map _ => some false
  | .nilm, .rom _ _ => some false
  | .map _, .nilm => some false
  | .rom _ _, .nilm => some false
  | _, _ => none
def eqPtr : V → V → Option Bool
  | .nilp, .nilp => some true
  | .nilp, .ptr _ _ => some false
  | .nilp, .ro _ => some false
  | .ptr _ _, .nilp => some false
  | .ro _, .nilp => some false
  | _, _ => none
def aggOf : V → Option (List V)
  | .agg xs => some xs
  | _ => none

mutual
/-- '==' by the type, for types of whole numbers, bools, strings and structs or arrays of them; nil slices, functions, maps, pointers and interfaces. -/
def eqV : Nat → TypeId → V → V → Option Bool
  | 0, _, _, _ => none
  | d + 1, t, x, y =>
    match P.underlying t with
    | some .bool => eqB x y
    | some (.int _) => eqI x y
    | some .string => eqS x y
    | some (.slice _) => eqSlice x y
    | some (.func _ _ _) => eqFn x y
    | some (.interface _) => eqIface x y
    | some (.map _ _) => eqMap x y
    | some (.pointer _) => eqPtr x y
    | some (.struct fs) => if P.stoodInHeld t then none else match aggOf x, aggOf y with
      | some xs, some ys => eqFields d fs.toList xs ys
      | _, _ => none
    | some (.array n e) => match tsz P e, aggOf x, aggOf y with
      | some sz, some xs, some ys => eqElems d n 0 e sz xs ys
      | _, _, _ => none
    | _ => none
def eqFields : Nat → List Field → List V → List V → Option Bool
  | _, [], _, _ => some true
  | d, f :: fs, xs, ys =>
    if f.name = "_" then eqFields d fs xs ys
    else match partV P f.type xs f.offset, partV P f.type ys f.offset with
      | some a, some b => match eqV d f.type a b with
        | some true => eqFields d fs xs ys
        | some false => some false
        | none => none
      | _, _ => none
def eqElems : Nat → Nat → Nat → TypeId → Nat → List V → List V → Option Bool
  | _, 0, _, _, _, _, _ => some true
  | d, n + 1, i, e, sz, xs, ys =>
    match partV P e xs (i * sz), partV P e ys (i * sz) with
      | some a, some b => match eqV d e a b with
        | some true => eqElems d n (i + 1) e sz xs ys
        | some false => some false
        | none => none
      | _, _ => none
end

def noNumV : V → Bool
  | .int _ _ => false
  | .str _ => false
  | .junk => false
  | .tup _ => false
  | _ => true

def evBin (op : BinOp) (t : TypeId) (x y : V) : Option V :=
  match x, y with
  | .int k a, .int k' b =>
    match op with
    | .shl => binShift .shl k a b
    | .shr => binShift .shr k a b
    | op => if k = k' then binInt op k a b else none
  | .str a, .str b => binStr op a b
  | .nili, .nili => none
  | .nili, .junk => none
  | x, y =>
    if noNumV x && ((aggOf x).isNone || !P.eqGuardType P.depth t) then
      match op with
      | .eql => (eqV P 10000 t x y).map .bool
      | .neq => (eqV P 10000 t x y).map fun b => .bool !b
      | _ => none
    else none

def evUn (op : UnOp) (x : V) : Option V :=
  match op, x with
  | .neg, .int k n => some (.int k (k.wrap (0 - n)))
  | .xor, .int k n => some (.int k (k.wrap (BitVec.ofInt k.bits (if k.signed then -1 else k.max) ^^^ BitVec.ofInt k.bits n).toNat))
  | .not, .bool b => some (.bool !b)
  | _, _ => none

/-- The cells that a pointer leads to. -/
def cellsAt (H : Heap) : V → Option (List V)
  | .ptr id off => match H[id]? with
    | some (some (.cells cs _)) => some (cs.drop off)
    | _ => none
  | .ro cs => some cs
  | _ => none

/-- What a slice holds: its length, the cells from its first on (at least its own). -/
def sliceAtV (H : Heap) : V → Option (Nat × List V)
  | .nils => some (0, [])
  | .sl id off len _ => match H[id]? with
    | some (some (.cells cs _)) => some (len, cs.drop off)
    | _ => none
  | .ros len cs => some (len, cs)
  | _ => none

def writeCells (H : Heap) (id off : Nat) (vs : List V) : Option Heap :=
  match H[id]? with
  | some (some (.cells cs e)) => if off + vs.length ≤ cs.length then some (H.set id (some (.cells (cs.take off ++ vs ++ cs.drop (off + vs.length)) e))) else none
  | _ => none

def loadV (H : Heap) (t : TypeId) (a : V) : Option V :=
  match cellsAt H a, tagg P t, tsz P t with
  | some cs, some true, some n => if n ≤ cs.length then some (.agg (cs.take n)) else none
  | some (c :: _), some false, _ => some c
  | _, _, _ => none

def storeV (H : Heap) (t : TypeId) (a x : V) : Option Heap :=
  match a, x.cellsO, tsz P t with
  | .ptr id off, some vs, some n => if vs.length = n then writeCells H id off vs else none
  | _, _, _ => none

/-- Parts laid over cells. -/
def fillV (place : Nat → Option (Nat × Nat)) : List V → List (Nat × V) → Option (List V)
  | cs, [] => some cs
  | cs, (i, v) :: rest =>
    match place i, v.cellsO with
    | some (off, size), some vs => if vs.length = size && off + size ≤ cs.length then fillV place (cs.take off ++ vs ++ cs.drop (off + size)) rest else none
    | _, _ => none

def placesOf : List Field → Option (List (Nat × Nat))
  | [] => some []
  | f :: fs => match tsz P f.type, placesOf fs with
    | some n, some l => some ((f.offset, n) :: l)
    | _, _ => none

def buildV (t : TypeId) (parts : List (Nat × V)) : Option V :=
  match tzero P t, P.underlying t with
  | some z, some (.struct fs) => match z.cellsO, placesOf P fs.toList with
    | some cs, some pl => (fillV (fun i => pl[i]?) cs parts).map .agg
    | _, _ => none
  | some z, some (.array _ e) => match z.cellsO, tsz P e with
    | some cs, some n => (fillV (fun i => some (i * n, n)) cs parts).map .agg
    | _, _ => none
  | _, _ => none

/-- A row of n zero values. -/
def zerosV (z : List V) : Nat → List V
  | 0 => []
  | n + 1 => z ++ zerosV z n

def buildSliceV (H : Heap) (t : TypeId) (len : Nat) (parts : List (Nat × V)) : Option (V × Heap) :=
  match P.underlying t with
  | some (.slice e) => match tsz P e, tzc P e with
    | some n, some z => if len * n > 2 ^ 24 || z.length != n || n = 0 then none else
      match fillV (fun i => some (i * n, n)) (zerosV z len) parts with
      | some cs => some (.sl H.length 0 len n, H ++ [some (.cells cs true)])
      | none => none
    | _, _ => none
  | _ => none

def makeSliceV (H : Heap) (t : TypeId) (l c : V) : Option (V × Heap) :=
  match P.underlying t, l, c with
  | some (.slice e), .int .i64 l, .int .i64 c => match tsz P e, tbytes P e, tzc P e with
    | some n, some b, some z => if 0 ≤ l && l = c && c * b ≤ 140737488355328 && c ≤ 140737488355328 && z.length == n && 0 < n then
        some (.sl H.length 0 l.toNat n, H ++ [some (.cells (zerosV z c.toNat) true)]) else none
    | _, _, _ => none
  | _, _, _ => none

def boundV (d : Nat) : Option V → Option Nat
  | none => some d
  | some (.int _ i) => if 0 ≤ i then some i.toNat else none
  | _ => none

/-- s[:h:h] of an own slice: the block ends there for good. -/
def sliceMaxV (H : Heap) (t : TypeId) (x hi m : V) : Option (V × Heap) :=
  match P.underlying t, x, hi, m with
  | some (.slice e), .sl id off len sz, .int _ h, .int _ k => match tsz P e, H[id]? with
    | some n, some (some (.cells cs _)) =>
      if 0 ≤ h && h ≤ len && k == h && n = sz && 0 < sz && off + h.toNat * sz ≤ cs.length then some (.sl H.length off h.toNat sz, H.set id none ++ [some (.cells (cs.take (off + h.toNat * sz)) true)]) else none
    | _, _ => none
  | some (.slice e), .nils, .int _ h, .int _ k => match tsz P e with
    | some _ => if h = 0 ∧ k = 0 then some (.nils, H) else none
    | none => none
  | _, _, _, _ => none

def sliceV (H : Heap) (t : TypeId) (x : V) (lo hi mx : Option V) : Option V :=
  match mx with
  | some _ => none
  | none =>
    match P.underlying t, x with
    | some .string, .str s => match boundV 0 lo, boundV s.size hi with
      | some l, some h => if l ≤ h && h ≤ s.size then some (.str (s.extract l h)) else none
      | _, _ => none
    | some (.slice e), .nils => match boundV 0 lo, boundV 0 hi, tsz P e with
      | some 0, some 0, some _ => some .nils
      | _, _, _ => none
    | some (.slice e), .sl id off len sz => match boundV 0 lo, boundV len hi, tsz P e with
      | some l, some h, some n => if l ≤ h && h ≤ len && n = sz && 0 < sz then some (.sl id (off + l * sz) (h - l) sz) else none
      | _, _, _ => none
    | some (.slice e), .ros len cs => match boundV 0 lo, boundV len hi, tsz P e with
      | some l, some h, some n => if l ≤ h && h ≤ len then some (.ros (h - l) ((cs.drop (l * n)).take ((h - l) * n))) else none
      | _, _, _ => none
    | some (.array k e), .ptr id off => match boundV 0 lo, boundV k hi, tsz P e, H[id]? with
      | some l, some h, some n, some (some (.cells cs true)) => if l ≤ h && h ≤ k && l < k && 0 < n && off + k * n = cs.length then some (.sl id (off + l * n) (h - l) n) else none
      | _, _, _, _ => none
    | _, _ => none

def fieldAddrV (t : TypeId) (x : V) (f : Nat) : Option V :=
  match P.underlying t with
  | some (.struct fs) => match fs[f]? with
    | some fd => match tsz P fd.type with
      | some n => if n = 0 then none else match x with
        | .ptr id off => some (.ptr id (off + fd.offset))
        | .ro cs => some (.ro ((cs.drop fd.offset).take n))
        | _ => none
      | none => none
    | none => none
  | _ => none

def fieldV (t : TypeId) (x : V) (f : Nat) : Option V :=
  match P.underlying t, x with
  | some (.struct fs), .agg cs => match fs[f]? with
    | some fd => partV P fd.type cs fd.offset
    | none => none
  | _, _ => none

def indexAddrV (t : TypeId) (x i : V) : Option V :=
  match P.underlying t, x, i with
  | some (.slice e), .sl id off len sz, .int _ i => match tsz P e with
    | some n => if 0 ≤ i && i < len && n = sz then some (.ptr id (off + i.toNat * sz)) else none
    | none => none
  | some (.slice e), .ros len cs, .int _ i => match tsz P e with
    | some n => if 0 ≤ i && i < len then some (.ro ((cs.drop (i.toNat * n)).take n)) else none
    | none => none
  | some (.array k e), .ptr id off, .int _ i => match tsz P e with
    | some n => if 0 ≤ i && i < k then some (.ptr id (off + i.toNat * n)) else none
    | none => none
  | some (.array k e), .ro cs, .int _ i => match tsz P e with
    | some n => if 0 ≤ i && i < k then some (.ro ((cs.drop (i.toNat * n)).take n)) else none
    | none => none
  | _, _, _ => none

def indexV (t : TypeId) (x i : V) : Option V :=
  match P.underlying t, x, i with
  | some (.array k e), .agg cs, .int _ i => match tsz P e with
    | some n => if 0 ≤ i && i < k then partV P e cs (i.toNat * n) else none
    | none => none
  | some .string, .str s, .int _ i => if 0 ≤ i then match s[i.toNat]? with
      | some b => some (.int .u8 b.toNat)
      | none => none
    else none
  | _, _, _ => none

/-- Bytes as cells. -/
def byteCells (s : ByteArray) : List V := s.data.toList.map fun b => .int .u8 b.toNat
def numsOfCells : List V → Option (List Int)
  | [] => some []
  | .int .u8 n :: l => (numsOfCells l).map (n :: ·)
  | _ => none

def convertV (H : Heap) (src dst : TypeId) (x : V) : Option (V × Heap) :=
  match P.underlying src, P.underlying dst, x with
  | some _, some (.int k), .int _ n => some (.int k (k.wrap n), H)
  | some _, some .string, .str s => some (.str s, H)
  | some _, some (.slice e), .str s => match P.underlying e with
    | some (.int .u8) => some (.sl H.length 0 s.size 1, H ++ [some (.cells (byteCells s) false)])
    | _ => none
  | some (.slice e), some .string, x => match P.underlying e, sliceAtV H x with
    | some (.int .u8), some (len, cs) => if len ≤ cs.length then (numsOfCells (cs.take len)).map fun l => (.str (strOfNums l), H) else none
    | _, _ => none
  | _, _, _ => none

def lenV (H : Heap) (t : TypeId) (x : V) : Option V :=
  match P.underlying t, x with
  | some .string, .str s => some (.int .i64 s.size)
  | some (.slice _), .nils => some (.int .i64 0)
  | some (.slice _), .sl _ _ len _ => some (.int .i64 len)
  | some (.slice _), .ros len _ => some (.int .i64 len)
  | some (.map _ _), .nilm => some (.int .i64 0)
  | some (.map _ _), .rom ks _ => some (.int .i64 ks.length)
  | some (.map _ _), .map id => match H[id]? with
    | some (some (.map es _)) => some (.int .i64 es.length)
    | _ => none
  | _, _ => none

/-- The elements that are appended or copied: a slice's or a string's. -/
def itemsV (H : Heap) (n : Nat) (x : V) : Option (Nat × List V) :=
  match x with
  | .str s => if n = 1 then some (s.size, byteCells s) else none
  | x => match sliceAtV H x with
    | some (len, cs) => if len * n ≤ cs.length then some (len, cs.take (len * n)) else none
    | none => none

/-- append(s, x...): n the element's cells, b its bytes. -/
def appendS (H : Heap) (n b : Nat) (s : V) (k : Nat) (vs : List V) : Option (V × Heap) :=
  match s with
  | .nils => if k = 0 then some (.nils, H)
      else if k * b ≤ 140737488355328 then some (.sl H.length 0 k n, H ++ [some (.cells vs false)]) else none
  | .sl id off len sz => if sz != n then none else
    match H[id]? with
    | some (some (.cells cs ex)) =>
      if k = 0 then some (.sl id off len sz, H)
      else if off + (len + k) * n ≤ cs.length then (writeCells H id (off + len * n) vs).map fun H' => (.sl id off (len + k) sz, H')
      else if off + len * n ≤ cs.length && (len + k) * b ≤ 140737488355328 then
        if ex then some (.sl H.length 0 (len + k) n, H ++ [some (.cells ((cs.drop off).take (len * n) ++ vs) false)])
        else if off + len * n = cs.length then some (.sl H.length 0 (len + k) n, H.set id none ++ [some (.cells (cs.drop off ++ vs) false)])
        else none
      else none
    | _ => none
  | _ => none

def notInt (P : Program) (u : TypeId) : Bool := match P.underlying u with | some (.int _) => false | none => false | some _ => true

/-- append(nil, make([]T, n)...). -/
def appendZ (H : Heap) (e : TypeId) (s x : V) : Option (V × Heap) :=
  match s, x with
  | .nils, .int _ l => match tsz P e, tbytes P e, tzc P e with
    | some n, some b, some z => if n = 0 || b = 0 || z.length != n || decide (l < 0) || decide (140737488355328 < l.toNat * b) then none
      else if l.toNat = 0 then some (.nils, H) else some (.sl H.length 0 l.toNat n, H ++ [some (.cells (zerosV z l.toNat) false)])
    | _, _, _ => none
  | _, _ => none

def appendV (H : Heap) (t : TypeId) (argT : Option TypeId) (s x : V) : Option (V × Heap) :=
  match P.underlying t, argT with
  | some (.slice e), some u => if notInt P u then match tsz P e, tbytes P e, tzc P e with
      | some n, some b, some z => if n = 0 || b = 0 || z.length != n then none else match itemsV H n x with
        | some (k, vs) => appendS H n b s k vs
        | none => none
      | _, _, _ => none
    else match P.underlying u with
      | some (.int _) => appendZ P H e s x
      | _ => none
  | _, _ => none

def copyV (H : Heap) (t : TypeId) (d x : V) : Option (V × Heap) :=
  match P.underlying t with
  | some (.slice e) => match tsz P e with
    | some n => match itemsV H n x with
      | some (k, vs) => match d with
        | .nils => some (.int .i64 0, H)
        | .sl id off len sz => if sz != n then none else (writeCells H id off (vs.take (min k len * n))).map fun H' => (.int .i64 (min k len : Nat), H')
        | _ => none
      | none => none
    | none => none
  | _ => none

def keyEq : V → V → Option Bool
  | .int k a, .int k' b => if k = k' then some (a == b) else none
  | .str a, .str b => some (a == b)
  | .bool a, .bool b => some (a == b)
  | _, _ => none
def keyKind (d : Option TypeDesc) : V → Bool
  | .int _ _ => match d with | some (.int _) => true | _ => false
  | .str _ => match d with | some .string => true | _ => false
  | .bool _ => match d with | some .bool => true | _ => false
  | _ => false

def findE (k : V) : List (V × V × Nat) → Nat → Option (Option (Nat × V))
  | [], _ => some none
  | (k', v, _) :: es, i => match keyEq k k' with
    | some true => some (some (i, v))
    | some false => findE k es (i + 1)
    | none => none
def findRo (k : V) : List V → List V → Option (Option V)
  | k' :: ks, v :: vs => match keyEq k k' with
    | some true => some (some v)
    | some false => findRo k ks vs
    | none => none
  | [], _ => some none
  | _, _ => none

def findAny (H : Heap) (x k : V) : Option (Option V) :=
  match x with
  | .nilm => some none
  | .map id => match H[id]? with
    | some (some (.map es _)) => (findE k es 0).map (Option.map (·.2))
    | _ => none
  | .rom ks vs => findRo k ks vs
  | _ => none
def pickV (et : TypeId) (ok : Bool) : Option V → Option V
  | some v => some (if ok then .tup [v, .bool true] else v)
  | none => (tzero P et).map fun z => if ok then .tup [z, .bool false] else z

def lookupV (H : Heap) (t : TypeId) (x k : V) (ok : Bool) : Option V :=
  match P.underlying t with
  | some (.map kt et) => if keyKind (P.underlying kt) k then (findAny H x k).bind (pickV P et ok) else none
  | _ => none

def setEntry (i : Nat) (f : V × V × Nat → V × V × Nat) (es : List (V × V × Nat)) : List (V × V × Nat) := es.modify i f

def mapUpdateV (H : Heap) (t : TypeId) (m k v : V) : Option Heap :=
  match P.underlying t, m with
  | some (.map kt _), .map id => if !keyKind (P.underlying kt) k then none else
    match H[id]? with
    | some (some (.map es c)) => match findE k es 0 with
      | some (some (i, _)) => some (H.set id (some (.map (setEntry i (fun e => (k, v, e.2.2)) es) c)))
      | some none => some (H.set id (some (.map (es ++ [(k, v, c)]) (c + 1))))
      | none => none
    | _ => none
  | _, _ => none

def mapEntryV (H : Heap) (t : TypeId) (m k : V) : Option (V × Heap) :=
  match P.underlying t, m with
  | some (.map kt et), .map id => if !keyKind (P.underlying kt) k then none else
    match H[id]?, tzero P et with
    | some (some (.map es c)), some z => match findE k es 0 with
      | some (some (i, v)) => match es[i]? with
        | some e => some (.tup [v, .int .i64 e.2.2], H.set id (some (.map (setEntry i (fun e => (k, e.2)) es) c)))
        | none => none
      | some none => some (.tup [z, .int .i64 c], H.set id (some (.map (es ++ [(k, z, c)]) (c + 1))))
      | none => none
    | _, _ => none
  | _, _ => none

def findBorn (b : Int) : List (V × V × Nat) → Nat → Option Nat
  | [], _ => none
  | e :: es, i => if (e.2.2 : Int) == b then some i else findBorn b es (i + 1)

def entryStoreV (H : Heap) (m st v : V) : Option Heap :=
  match m, st with
  | .map id, .int _ b => match H[id]? with
    | some (some (.map es c)) => match findBorn b es 0 with
      | some i => some (H.set id (some (.map (setEntry i (fun e => (e.1, v, e.2.2)) es) c)))
      | none => none
    | _ => none
  | _, _ => none

def minV : V → V → Option V
  | .int k x, .int _ y => some (.int k (if y < x then y else x))
  | _, _ => none
def maxV : V → V → Option V
  | .int k x, .int _ y => some (.int k (if y > x then y else x))
  | _, _ => none
def foldV (f : V → V → Option V) : V → List V → Option V
  | x, [] => some x
  | x, y :: l => (f x y).bind fun z => foldV f z l

/-- clear(s) of a slice. -/
def clearV (H : Heap) (t : TypeId) (x : V) : Option (V × Heap) :=
  match P.underlying t, x with
  | some (.slice _), .nils => some (V.undef, H)
  | some (.slice e), .sl id off len sz => match tsz P e, tzc P e with
    | some n, some z => if n = sz && z.length == n then (if len = 0 then some (V.undef, H) else (writeCells H id off (zerosV z len)).map fun H' => (V.undef, H')) else none
    | _, _ => none
  | _, _ => none
/-- cap(s), where it is known. -/
def capV (H : Heap) (t : TypeId) (x : V) : Option V :=
  match P.underlying t, x with
  | some (.slice _), .nils => some (.int .i64 0)
  | some (.slice _), .sl id off _ sz => match H[id]? with
    | some (some (.cells cs true)) => some (.int .i64 ((cs.length - off) / sz : Nat))
    | _ => none
  | _, _ => none

def evBuiltin (H : Heap) (b : Builtin) (ts : Array TypeId) (xs : List V) : Option (V × Heap) :=
  match b, xs with
  | .len, [x] => match ts[0]? with
    | some t => (lenV P H t x).map (·, H)
    | none => none
  | .append, [s, x] => match ts[0]? with
    | some t => appendV P H t ts[1]? s x
    | none => none
  | .copy, [d, x] => match ts[0]? with
    | some t => copyV P H t d x
    | none => none
  | .min, x :: l => (foldV minV x l).map (·, H)
  | .max, x :: l => (foldV maxV x l).map (·, H)
  | .clear, [x] => match ts[0]? with
    | some t => clearV P H t x
    | none => none
  | .cap, [x] => match ts[0]? with
    | some t => (capV P H t x).map (·, H)
    | none => none
  | _, _ => none

def mapO {α β : Type} (f : α → β) : Option α → Option β := Option.map f

def nextV (H : Heap) (it : V) : Option (V × Heap) :=
  match it with
  | .ptr id 0 => match H[id]? with
    | some (some (.siter z p)) => if p < z.size then some (.tup [.bool true, .int .i64 p, .int .i32 (Utf8.decode z p).1], H.set id (some (.siter z (p + (Utf8.decode z p).2)))) else some (.tup [.bool false], H)
    | _ => none
  | _ => none

/-- An operation that calls no function. -/
def evPlain (Γ : Env) (s : List V) (H : Heap) : Op → Option (V × Heap)
  | .move x => some (evOperand Γ s x, H)
  | .assign x => some (evOperand Γ s x, H)
  | .pick c a b => match evOperand Γ s c with
    | .bool t => some (if t then evOperand Γ s a else evOperand Γ s b, H)
    | _ => none
  | .alloc t => match tzc P t with
    | some cs => some (.ptr H.length 0, H ++ [some (.cells cs true)])
    | none => none
  | .box _ x => match (evOperand Γ s x).cellsO with
    | some cs => some (.ptr H.length 0, H ++ [some (.cells cs true)])
    | none => none
  | .build t ps => (buildV P t (ps.toList.map fun (i, x) => (i, evOperand Γ s x))).map (·, H)
  | .buildSlice t n ps => buildSliceV P H t n (ps.toList.map fun (i, x) => (i, evOperand Γ s x))
  | .load t a => (loadV P H t (evOperand Γ s a)).map (·, H)
  | .store t a x => (storeV P H t (evOperand Γ s a) (evOperand Γ s x)).map (V.undef, ·)
  | .nilCheck x => match evOperand Γ s x with
    | .ptr id off => some (.ptr id off, H)
    | .ro cs => some (.ro cs, H)
    | .fn (.func f) a b => some (.fn (.func f) a b, H)
    | _ => none
  | .binOp op t x y _ => (evBin P op t (evOperand Γ s x) (evOperand Γ s y)).map (·, H)
  | .unOp op _ x => (evUn op (evOperand Γ s x)).map (·, H)
  | .convert a b x => convertV P H a b (evOperand Γ s x)
  | .makeInterface t x => match P.underlying t with
    | some (.interface _) => none
    | some _ => some (.iface t (evOperand Γ s x), H)
    | none => none
  | .makeFunc f a b => some (.fn f (a.toList.map (evOperand Γ s)) (b.toList.map (evOperand Γ s)), H)
  | .makeMap _ none => some (.map H.length, H ++ [some (.map [] 0)])
  | .makeSlice t l c => makeSliceV P H t (evOperand Γ s l) (evOperand Γ s c)
  | .slice t x none (some hi) (some m) => sliceMaxV P H t (evOperand Γ s x) (evOperand Γ s hi) (evOperand Γ s m)
  | .slice t x lo hi mx => (sliceV P H t (evOperand Γ s x) (lo.map (evOperand Γ s)) (hi.map (evOperand Γ s)) (mx.map (evOperand Γ s))).map (·, H)
  | .fieldAddr t x f => (fieldAddrV P t (evOperand Γ s x) f).map (·, H)
  | .field t x f => (fieldV P t (evOperand Γ s x) f).map (·, H)
  | .indexAddr t x i => (indexAddrV P t (evOperand Γ s x) (evOperand Γ s i)).map (·, H)
  | .index t x i => (indexV P t (evOperand Γ s x) (evOperand Γ s i)).map (·, H)
  | .lookup t x k ok => (lookupV P H t (evOperand Γ s x) (evOperand Γ s k) ok).map (·, H)
  | .mapUpdate t m k x => (mapUpdateV P H t (evOperand Γ s m) (evOperand Γ s k) (evOperand Γ s x)).map (V.undef, ·)
  | .insert t m k x => (mapUpdateV P H t (evOperand Γ s m) (evOperand Γ s k) (evOperand Γ s x)).map (V.undef, ·)
  | .mapEntry t m k => mapEntryV P H t (evOperand Γ s m) (evOperand Γ s k)
  | .entryStore _ m st x => (entryStoreV H (evOperand Γ s m) (evOperand Γ s st) (evOperand Γ s x)).map (V.undef, ·)
  | .range t x => match P.underlying t, evOperand Γ s x with
    | some .string, .str z => some (.ptr H.length 0, H ++ [some (.siter z 0)])
    | _, _ => none
  | .next it true => nextV H (evOperand Γ s it)
  | .extract x i => match evOperand Γ s x with
    | .tup vs => (vs[i]?).map (·, H)
    | _ => none
  | .call { callee := .builtin b, args := as, argTypes := ts } => evBuiltin P H b ts (as.toList.map (evOperand Γ s))
  | _ => none

/-- A function's own evaluation, handed in. -/
abbrev CallF := Nat → List V → Heap → Option (V × Heap)

/-- A call that is handed no memory of the caller's: what it is handed is read out. -/
def callPlain (call : CallF) (H : Heap) (f : Nat) (args : List V) : Option (V × Heap) :=
  match call f (args.map (snap 4 H)) [] with
  | some (r, G) => if r.own && G.all (fun b => match b with | some b => b.own | none => true) then
      some (r.ren (fun j => some (H.length + j)), H ++ G.map (Option.map (Blk.ren fun j => some (H.length + j)))) else none
  | none => none

def backOf (n : Nat) (L : List Nat) (j : Nat) : Option Nat := if j < L.length then L[j]? else some (n + (j - L.length))
def setMany : Heap → List Nat → Heap → Heap
  | H, id :: L, b :: G => setMany (H.set id b) L G
  | H, _, _ => H

/-- A call that is handed the part of the caller's memory that it can reach. -/
def callWide (call : CallF) (H : Heap) (f : Nat) (args : List V) : Option (V × Heap) :=
  let L := reach 0 H fuelR (refsL args) []
  match call f (args.map (V.ren fun id => indexIn id L)) (L.map fun id => (H.getD id none).map (Blk.ren fun id => indexIn id L)) with
  | some (r, G) => if L.length ≤ G.length then
      some (r.ren (backOf H.length L), setMany H L ((G.take L.length).map (Option.map (Blk.ren (backOf H.length L)))) ++ (G.drop L.length).map (Option.map (Blk.ren (backOf H.length L)))) else none
  | none => none

def evCall (Γ : Env) (call : CallF) (s : List V) (H : Heap) (c : Call) : Option (V × Heap) :=
  match c.callee with
  | .value f => match evOperand Γ s f with
    | .fn (.func g) a b => if Γ.plain g then callPlain call H g (a ++ c.args.toList.map (evOperand Γ s) ++ b) else callWide call H g (a ++ c.args.toList.map (evOperand Γ s) ++ b)
    | _ => none
  | _ => none

def evOp (Γ : Env) (call : CallF) (s : List V) (H : Heap) (o : Op) : Option (V × Heap) :=
  match o with
  | .call c => match c.callee with
    | .value _ => evCall Γ call s H c
    | _ => evPlain P Γ s H (.call c)
  | o => evPlain P Γ s H o

def putS (s : List V) (d : Option Tmp) (v : V) : List V := match d with | some t => s.set t v | none => s

/-- Is a guarded operation to be done? -/
def wantedV (ops : List Oper) (s : List V) (o : Oper) : Option Bool :=
  match o.guard with
  | none => some true
  | some (j, want) => match (ops[j]?).bind (·.dst) with
    | some d => match getS s d with
      | .bool b => some (b == want)
      | .tup [] => some false
      | _ => none
    | none => none

def evOpsGo (Γ : Env) (call : CallF) (all : List Oper) : List Oper → List V → Heap → Option (List V × Heap)
  | [], s, H => some (s, H)
  | o :: rest, s, H => match wantedV all s o with
    | some true => match evOp P Γ call s H o.op with
      | some (v, H') => evOpsGo Γ call all rest (putS s o.dst v) H'
      | none => none
    | some false => evOpsGo Γ call all rest (putS s o.dst V.undef) H
    | none => none
end
end Go.Ev
