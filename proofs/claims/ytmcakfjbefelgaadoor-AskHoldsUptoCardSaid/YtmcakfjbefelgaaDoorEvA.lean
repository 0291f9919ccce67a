/-
  A DETERMINISTIC EVALUATOR over abstract values for the model's own code (own work). No theorem of the program stands here.
-/
import Derived.Orders
import Derived.Tactics
import Derived.Laws.BytesArg
import Derived.Laws.Cells
import Derived.Laws.CopyRow
import Derived.Laws.StructEq
import Derived.Laws.Tables
import Derived.Laws.Append
namespace Go.Ev
open Go

/-- Abstract values. 'ptr', 'sl', 'map': by a block's abstract number. 'ro', 'ros', 'rom': what is read only, its cells inline. -/
inductive V where
  | bool (b : Bool)
  | int (k : IntKind) (n : Int)
  | str (s : ByteArray)
  | nilp
  | ptr (id off : Nat)
  | ro (cs : List V)
  | nils
  | sl (id off len sz : Nat)
  | ros (len : Nat) (cs : List V)
  | nilm
  | map (id : Nat)
  | rom (ks vs : List V)
  | fn (f : Fn) (fst cap : List V)
  | nilf
  | iface (t : Nat) (v : V)
  | nili
  | agg (cs : List V)
  | tup (vs : List V)
  | junk

instance : Inhabited V := ⟨.junk⟩

def V.undef : V := .tup []

inductive Blk where
  | cells (cs : List V) (exact : Bool)
  | map (es : List (V × V × Nat)) (clock : Nat)
  | siter (s : ByteArray) (pos : Nat)

abbrev Heap := List (Option Blk)

/-- What the evaluator is told beside the program: the listed variables' cells, which functions are called without memory of the caller's, which slots live at a loop's head. -/
structure Env where
  glob : Nat → Option (List V)
  plain : Nat → Bool
  live : Nat → Nat → Option (List Nat)
  orc : Nat → List V → List (Option Blk) → Option (V × List (Option Blk)) := fun _ _ _ => none
  cold : Nat → Nat → Bool := fun _ _ => false
  mono : Bool := true
  keep : Nat → Nat → Bool := fun _ _ => false

mutual
/-- References replaced. -/
def V.sub (hp : Nat → Nat → V) (hs : Nat → Nat → Nat → Nat → V) (hm : Nat → V) : V → V
  | .ptr id off => hp id off
  | .sl id off len sz => hs id off len sz
  | .map id => hm id
  | .fn f a b => .fn f (subL hp hs hm a) (subL hp hs hm b)
  | .iface t v => .iface t (v.sub hp hs hm)
  | .agg cs => .agg (subL hp hs hm cs)
  | .tup cs => .tup (subL hp hs hm cs)
  | v => v
def subL (hp : Nat → Nat → V) (hs : Nat → Nat → Nat → Nat → V) (hm : Nat → V) : List V → List V
  | [] => []
  | v :: l => v.sub hp hs hm :: subL hp hs hm l
end

mutual
def V.refs : V → List Nat
  | .ptr id _ => [id]
  | .sl id _ _ _ => [id]
  | .map id => [id]
  | .fn _ a b => refsL a ++ refsL b
  | .iface _ v => v.refs
  | .agg cs => refsL cs
  | .tup cs => refsL cs
  | _ => []
def refsL : List V → List Nat
  | [] => []
  | v :: l => v.refs ++ refsL l
end

mutual
/-- The places for blocks that a value has, in order. -/
def V.leaves : V → List (Option Nat)
  | .ptr id _ => [some id]
  | .sl id _ _ _ => [some id]
  | .map id => [some id]
  | .nilp => [none]
  | .nils => [none]
  | .nilm => [none]
  | .ro _ => [none]
  | .ros _ _ => [none]
  | .rom _ _ => [none]
  | .fn _ a b => leavesL a ++ leavesL b
  | .iface _ v => v.leaves
  | .agg cs => leavesL cs
  | .tup cs => leavesL cs
  | _ => []
def leavesL : List V → List (Option Nat)
  | [] => []
  | v :: l => v.leaves ++ leavesL l
end

mutual
/-- Nothing read only in it. -/
def V.own : V → Bool
  | .ro _ => false
  | .ros _ _ => false
  | .rom _ _ => false
  | .fn _ a b => ownL a && ownL b
  | .iface _ v => v.own
  | .agg cs => ownL cs
  | .tup cs => ownL cs
  | _ => true
def ownL : List V → Bool
  | [] => true
  | v :: l => v.own && ownL l
end

def V.ren (ρ : Nat → Option Nat) (v : V) : V :=
  v.sub (fun id off => match ρ id with | some j => .ptr j off | none => .junk)
    (fun id off len sz => match ρ id with | some j => .sl j off len sz | none => .junk)
    (fun id => match ρ id with | some j => .map j | none => .junk)
def renL (ρ : Nat → Option Nat) (l : List V) : List V :=
  subL (fun id off => match ρ id with | some j => .ptr j off | none => .junk)
    (fun id off len sz => match ρ id with | some j => .sl j off len sz | none => .junk)
    (fun id => match ρ id with | some j => .map j | none => .junk) l

def Blk.ren (ρ : Nat → Option Nat) : Blk → Blk
  | .cells cs e => .cells (renL ρ cs) e
  | .map es c => .map (es.map fun (k, v, b) => (k.ren ρ, v.ren ρ, b)) c
  | .siter s p => .siter s p
def Blk.refs : Blk → List Nat
  | .cells cs _ => refsL cs
  | .map es _ => es.flatMap fun (k, v, _) => k.refs ++ v.refs
  | .siter _ _ => []
def Blk.own : Blk → Bool
  | .cells cs _ => ownL cs
  | .map es _ => es.all fun (k, v, _) => k.own && v.own
  | .siter _ _ => true

/-- The value with all that it refers to read out: d levels. -/
def snap : Nat → Heap → V → V
  | 0, _, v => v.sub (fun _ _ => .junk) (fun _ _ _ _ => .junk) (fun _ => .junk)
  | d + 1, H, v =>
    v.sub
      (fun id off => match H[id]? with
        | some (some (.cells cs _)) => .ro ((cs.drop off).map (snap d H))
        | _ => .junk)
      (fun id off len sz => match H[id]? with
        | some (some (.cells cs _)) => .ros len (((cs.drop off).take (len * sz)).map (snap d H))
        | _ => .junk)
      (fun id => match H[id]? with
        | some (some (.map es _)) => .rom (es.map fun (k, _, _) => snap d H k) (es.map fun (_, v, _) => snap d H v)
        | _ => .junk)

/-- The same, but for what is kept as it is. -/
def snapK (keep : Nat → Bool) : Nat → Heap → V → V
  | 0, _, v => v.sub (fun _ _ => .junk) (fun _ _ _ _ => .junk) (fun _ => .junk)
  | d + 1, H, v =>
    v.sub
      (fun id off => if keep id then .junk else match H[id]? with
        | some (some (.cells cs _)) => .ro ((cs.drop off).map (snapK keep d H))
        | _ => .junk)
      (fun id off len sz => if keep id then .junk else match H[id]? with
        | some (some (.cells cs _)) => .ros len (((cs.drop off).take (len * sz)).map (snapK keep d H))
        | _ => .junk)
      (fun id => if keep id then .junk else match H[id]? with
        | some (some (.map es _)) => .rom (es.map fun (k, _, _) => snapK keep d H k) (es.map fun (_, v, _) => snapK keep d H v)
        | _ => .junk)

/-- The numbers of the blocks at or above m that are reached, each once. -/
def reach (m : Nat) (H : Heap) : Nat → List Nat → List Nat → List Nat
  | 0, _, seen => seen
  | _ + 1, [], seen => seen
  | k + 1, id :: todo, seen =>
    if id < m then reach m H k todo seen
    else if seen.contains id then reach m H k todo seen
    else match H[id]? with
      | some (some b) => reach m H k (todo ++ b.refs) (seen ++ [id])
      | _ => reach m H k todo seen

/-- A block's places: of what was made as a whole, every one; else those that are taken. -/
def Blk.leavesM (m : Nat) : Blk → List (Option Nat)
  | .cells cs true => leavesL cs
  | b => (b.refs.filter fun id => decide (m ≤ id)).map some

/-- What is kept, place by place; at an empty place a number that no block has. -/
def place (m : Nat) (H : Heap) : Nat → List (Option Nat) → List Nat → List Nat
  | 0, _, seen => seen
  | _ + 1, [], seen => seen
  | k + 1, none :: todo, seen => place m H k todo (seen ++ [H.length])
  | k + 1, some id :: todo, seen =>
    if id < m then place m H k todo (seen ++ [H.length])
    else if seen.contains id then place m H k todo (seen ++ [H.length])
    else match H[id]? with
      | some (some b) => place m H k (todo ++ b.leavesM m) (seen ++ [id])
      | _ => place m H k todo (seen ++ [H.length])

def indexIn (id : Nat) : List Nat → Option Nat
  | [] => none
  | x :: l => if x = id then some 0 else (indexIn id l).map (· + 1)

/-- Blocks below m stay; those of L follow. -/
def keepOf (m : Nat) (L : List Nat) (id : Nat) : Option Nat := if id < m then some id else (indexIn id L).map (m + ·)
def keepHeap (m : Nat) (L : List Nat) (H : Heap) : Heap :=
  (H.take m).map (fun b => b.map (Blk.ren (keepOf m L))) ++ L.map fun id => (H.getD id none).map (Blk.ren (keepOf m L))
def blkRefs (b : Option Blk) : List Nat := match b with | some b => b.refs | none => []
def rootsOf (m : Nat) (H : Heap) : List Nat := (H.take m).flatMap blkRefs
def blkLeavesM (m : Nat) (b : Option Blk) : List (Option Nat) := match b with | some b => b.leavesM m | none => []
def rootLeaves (m : Nat) (H : Heap) : List (Option Nat) := (H.take m).flatMap (blkLeavesM m)
def fuelR : Nat := 1000

/-- Places of the slots' own blocks, and of those that blocks made as a whole hold. -/
def topPlace (m : Nat) (H : Heap) : Nat → List (Option Nat) → List Nat → List Nat
  | 0, _, seen => seen
  | _ + 1, [], seen => seen
  | k + 1, none :: todo, seen => topPlace m H k todo (seen ++ [H.length])
  | k + 1, some id :: todo, seen =>
    if id < m then topPlace m H k todo (seen ++ [H.length])
    else if seen.contains id then topPlace m H k todo (seen ++ [H.length])
    else match H[id]? with
      | some (some (.cells cs true)) => topPlace m H k (todo ++ leavesL cs) (seen ++ [id])
      | some (some _) => topPlace m H k todo (seen ++ [id])
      | _ => topPlace m H k todo (seen ++ [H.length])
def keptB (m : Nat) (L : List Nat) (id : Nat) : Bool := decide (id < m) || L.contains id
/-- A value whose blocks are kept by their new numbers, or read out for good. -/
def coldV (m : Nat) (L : List Nat) (H : Heap) (v : V) : V :=
  v.sub (fun id off => if keptB m L id then (V.ptr id off).ren (keepOf m L) else snapK (keptB m L) 4 H (.ptr id off))
    (fun id off len sz => if keptB m L id then (V.sl id off len sz).ren (keepOf m L) else snapK (keptB m L) 4 H (.sl id off len sz))
    (fun id => if keptB m L id then (V.map id).ren (keepOf m L) else snapK (keptB m L) 4 H (.map id))
def Blk.mapV (f : V → V) : Blk → Blk
  | .cells cs e => .cells (cs.map f) e
  | .map es c => .map (es.map fun (k, v, b) => (f k, f v, b)) c
  | .siter s p => .siter s p
def coldHeap (m : Nat) (L : List Nat) (H : Heap) : Heap :=
  (H.take m).map (Option.map (Blk.mapV (coldV m L H))) ++ L.map fun id => (H.getD id none).map (Blk.mapV (coldV m L H))

/-! ### Types -/
section
variable (P : Program)
def tsz (t : TypeId) : Option Nat := (P.info? t).map (·.size)
def tbytes (t : TypeId) : Option Nat := (P.info? t).map (·.bytes)
def tagg (t : TypeId) : Option Bool := match P.underlying t with | some (.struct _) => some true | some (.array _ _) => some true | some _ => some false | none => none
mutual
def ofConst : Value → Option V
  | .bool b => some (.bool b)
  | .int k n => some (.int k n)
  | .string s => some (.str s)
  | .pointer none => some .nilp
  | .slice none 0 0 => some .nils
  | .map none => some .nilm
  | .nilFunc => some .nilf
  | .nilIface => some .nili
  | .agg ⟨cs⟩ => if cs.all Value.oneCell' then (ofConstL cs).map .agg else none
  | .tuple ⟨cs⟩ => (ofConstL cs).map .tup
  | _ => none
def ofConstL : List Value → Option (List V)
  | [] => some []
  | v :: l => match ofConst v, ofConstL l with
    | some a, some b => some (a :: b)
    | _, _ => none
end
def tzero (t : TypeId) : Option V := (P.info? t).bind fun i => i.zero.bind ofConst
end


/-- A value's cells. -/
def V.cellsO : V → Option (List V)
  | .agg cs => some cs
  | .junk => none
  | .tup _ => none
  | v => some [v]

/-! ### Operations -/
def tzc (P : Program) (t : TypeId) : Option (List V) := (tzero P t).bind V.cellsO
def getS (s : List V) (t : Nat) : V := s.getD t .junk

def evOperand (Γ : Env) (s : List V) : Operand → V
  | .tmp t => getS s t
  | .const v => (ofConst v).getD .junk
  | .global g => match Γ.glob g with | some cs => .ro cs | none => .junk
  | .func f => .fn (.func f) [] []

def binInt (op : BinOp) (k : IntKind) (a b : Int) : Option V :=
  match op with
  | .add => some (.int k (k.wrap (a + b)))
  | .sub => some (.int k (k.wrap (a - b)))
  | .mul => some (.int k (k.wrap (a * b)))
  | .quo => if b = 0 then none else some (.int k (k.wrap (a.tdiv b)))
  | .rem => if b = 0 then none else some (.int k (a.tmod b))
  | .and => some (.int k (k.wrap (BitVec.ofInt k.bits a &&& BitVec.ofInt k.bits b).toNat))
  | .or => some (.int k (k.wrap (BitVec.ofInt k.bits a ||| BitVec.ofInt k.bits b).toNat))
  | .xor => some (.int k (k.wrap (BitVec.ofInt k.bits a ^^^ BitVec.ofInt k.bits b).toNat))
  | .andNot => some (.int k (k.wrap (BitVec.ofInt k.bits a &&& ~~~ BitVec.ofInt k.bits b).toNat))
  | .eql => some (.bool (a == b))
  | .neq => some (.bool (a != b))
  | .lss => some (.bool (a < b))
  | .leq => some (.bool (a ≤ b))
  | .gtr => some (.bool (a > b))
  | .geq => some (.bool (a ≥ b))
  | _ => none

def binShift (op : BinOp) (k : IntKind) (a b : Int) : Option V :=
  if b < 0 then none else
  match op with
  | .shl => some (.int k (k.wrap (a * 2 ^ (min b.toNat k.bits))))
  | .shr => some (.int k (a.fdiv (2 ^ (min b.toNat k.bits))))
  | _ => none

def binStr (op : BinOp) (a b : ByteArray) : Option V :=
  match op with
  | .add => if a.size + b.size ≤ 9223372036854775807 then some (.str (a ++ b)) else none
  | .eql => some (.bool (a.toList == b.toList))
  | .neq => some (.bool !(a.toList == b.toList))
  | .lss => some (.bool (Op.bytesLess a.toList b.toList))
  | .leq => some (.bool (Op.bytesLess a.toList b.toList || a.toList == b.toList))
  | .gtr => some (.bool !(Op.bytesLess a.toList b.toList || a.toList == b.toList))
  | .geq => some (.bool !(Op.bytesLess a.toList b.toList))
  | _ => none

section
variable (P : Program)

/-- 'part' over abstract cells. -/
def partV (t : TypeId) (cs : List V) (off : Nat) : Option V :=
  match tagg P t with
  | some true => match tsz P t with
    | some n => if off + n ≤ cs.length then some (.agg ((cs.drop off).take n)) else none
    | none => none
  | some false => cs[off]?
  | none => none

def eqB : V → V → Option Bool
  | .bool a, .bool b => some (a == b)
  | _, _ => none
def eqI : V → V → Option Bool
  | .int k a, .int k' b => if k = k' then some (a == b) else none
  | _, _ => none
def eqS : V → V → Option Bool
  | .str a, .str b => some (a == b)
  | _, _ => none
def eqSlice : V → V → Option Bool
  | .nils, .nils => some true
  | .nils, .sl _ _ _ _ => some false
  | .nils, .ros _ _ => some false
  | .sl _ _ _ _, .nils => some false
  | .ros _ _, .nils => some false
  | _, _ => none
def eqFn : V → V → Option Bool
  | .nilf, .nilf => some true
  | .nilf, .fn _ _ _ => some false
  | .fn _ _ _, .nilf => some false
  | _, _ => none
def eqIface : V → V → Option Bool
  | .nili, .iface _ _ => some false
  | .iface _ _, .nili => some false
  | .nili, .nili => some true
  | _, _ => none
def eqMap : V → V → Option Bool
  | .nilm, .nilm => some true
  | .nilm, .map _ => some false
  | .nilm, .rom _ _ => some false
  | .map _, .nilm => some false
  | .rom _ _, .nilm => some false
  | _, _ => none
def eqPtr : V → V → Option Bool
  | .nilp, .nilp => some true
  | .nilp, .ptr _ _ => some false
  | .nilp, .ro _ => some false
  | .ptr _ _, .nilp => some false
  | .ro _, .nilp => some false
  | _, _ => none
def aggOf : V → Option (List V)
  | .agg xs => some xs
  | _ => none

mutual
/-- '==' by the type, for types of whole numbers, bools, strings and structs or arrays of them; nil slices, functions, maps, pointers and interfaces. -/
def eqV : Nat → TypeId → V → V → Option Bool
  | 0, _, _, _ => none
  | d + 1, t, x, y =>
    match P.underlying t with
    | some .bool => eqB x y
    | some (.int _) => eqI x y
    | some .string => eqS x y
    | some (.slice _) => eqSlice x y
    | some (.func _ _ _) => eqFn x y
    | some (.interface _) => eqIface x y
    | some (.map _ _) => eqMap x y
    | some (.pointer _) => eqPtr x y
    | some (.struct fs) => if P.stoodInHeld t then none else match aggOf x, aggOf y with
      | some xs, some ys => eqFields d fs.toList xs ys
      | _, _ => none
    | some (.array n e) => match tsz P e, aggOf x, aggOf y with
      | some sz, some xs, some ys => eqElems d n 0 e sz xs ys
      | _, _, _ => none
    | _ => none
def eqFields : Nat → List Field → List V → List V → Option Bool
  | _, [], _, _ => some true
  | d, f :: fs, xs, ys =>
    if f.name = "_" then eqFields d fs xs ys
    else match partV P f.type xs f.offset, partV P f.type ys f.offset with
      | some a, some b => match eqV d f.type a b with
        | some true => eqFields d fs xs ys
        | some false => some false
        | none => none
      | _, _ => none
def eqElems : Nat → Nat → Nat → TypeId → Nat → List V → List V → Option Bool
  | _, 0, _, _, _, _, _ => some true
  | d, n + 1, i, e, sz, xs, ys =>
    match partV P e xs (i * sz), partV P e ys (i * sz) with
      | some a, some b => match eqV d e a b with
        | some true => eqElems d n (i + 1) e sz xs ys
        | some false => some false
        | none => none
      | _, _ => none
end

def noNumV : V → Bool
  | .int _ _ => false
  | .str _ => false
  | .junk => false
  | .tup _ => false
  | _ => true

/-- The same, seen by the kernel where no struct is compared. -/
def eqX (t : TypeId) (x y : V) : Option Bool :=
  match P.underlying t with
  | some .bool => eqB x y
  | some (.slice _) => eqSlice x y
  | some (.func _ _ _) => eqFn x y
  | some (.interface _) => eqIface x y
  | some (.map _ _) => eqMap x y
  | some (.pointer _) => eqPtr x y
  | _ => eqV P 10000 t x y
theorem eqX_eq (t : TypeId) (x y : V) : eqX P t x y = eqV P 10000 t x y := by
  have h : (10000 : Nat) = 9999 + 1 := rfl
  unfold eqX
  split <;> first | rfl | (rename_i hu; rw [h, eqV]; simp only [hu])
def evBin (op : BinOp) (t : TypeId) (x y : V) : Option V :=
  match x, y with
  | .int k a, .int k' b =>
    match op with
    | .shl => binShift .shl k a b
    | .shr => binShift .shr k a b
    | op => if k = k' then binInt op k a b else none
  | .str a, .str b => binStr op a b
  | .nili, .nili => none
  | .nili, .junk => none
  | x, y =>
    if noNumV x && ((aggOf x).isNone || !P.eqGuardType P.depth t) then
      match op with
      | .eql => (eqX P t x y).map .bool
      | .neq => (eqX P t x y).map fun b => .bool !b
      | _ => none
    else none

def evUn (op : UnOp) (x : V) : Option V :=
  match op, x with
  | .neg, .int k n => some (.int k (k.wrap (0 - n)))
  | .xor, .int k n => some (.int k (k.wrap (BitVec.ofInt k.bits (if k.signed then -1 else k.max) ^^^ BitVec.ofInt k.bits n).toNat))
  | .not, .bool b => some (.bool !b)
  | _, _ => none

/-- The cells that a pointer leads to. -/
def cellsAt (H : Heap) : V → Option (List V)
  | .ptr id off => match H[id]? with
    | some (some (.cells cs _)) => some (cs.drop off)
    | _ => none
  | .ro cs => some cs
  | _ => none

/-- What a slice holds: its length, the cells from its first on (at least its own). -/
def sliceAtV (H : Heap) : V → Option (Nat × List V)
  | .nils => some (0, [])
  | .sl id off len _ => match H[id]? with
    | some (some (.cells cs _)) => some (len, cs.drop off)
    | _ => none
  | .ros len cs => some (len, cs)
  | _ => none

def writeCells (H : Heap) (id off : Nat) (vs : List V) : Option Heap :=
  match H[id]? with
  | some (some (.cells cs e)) => if off + vs.length ≤ cs.length then some (H.set id (some (.cells (cs.take off ++ vs ++ cs.drop (off + vs.length)) e))) else none
  | _ => none

def loadV (H : Heap) (t : TypeId) (a : V) : Option V :=
  match cellsAt H a, tagg P t, tsz P t with
  | some cs, some true, some n => if n ≤ cs.length then some (.agg (cs.take n)) else none
  | some (c :: _), some false, _ => some c
  | _, _, _ => none

def storeV (H : Heap) (t : TypeId) (a x : V) : Option Heap :=
  match a, x.cellsO, tsz P t with
  | .ptr id off, some vs, some n => if vs.length = n then writeCells H id off vs else none
  | _, _, _ => none

/-- Parts laid over cells. -/
def fillV (place : Nat → Option (Nat × Nat)) : List V → List (Nat × V) → Option (List V)
  | cs, [] => some cs
  | cs, (i, v) :: rest =>
    match place i, v.cellsO with
    | some (off, size), some vs => if vs.length = size && off + size ≤ cs.length then fillV place (cs.take off ++ vs ++ cs.drop (off + size)) rest else none
    | _, _ => none

def placesOf : List Field → Option (List (Nat × Nat))
  | [] => some []
  | f :: fs => match tsz P f.type, placesOf fs with
    | some n, some l => some ((f.offset, n) :: l)
    | _, _ => none

def buildV (t : TypeId) (parts : List (Nat × V)) : Option V :=
  match tzero P t, P.underlying t with
  | some z, some (.struct fs) => match z.cellsO, placesOf P fs.toList with
    | some cs, some pl => (fillV (fun i => pl[i]?) cs parts).map .agg
    | _, _ => none
  | some z, some (.array _ e) => match z.cellsO, tsz P e with
    | some cs, some n => (fillV (fun i => some (i * n, n)) cs parts).map .agg
    | _, _ => none
  | _, _ => none

/-- A row of n zero values. -/
def zerosV (z : List V) : Nat → List V
  | 0 => []
  | n + 1 => z ++ zerosV z n

def buildSliceV (H : Heap) (t : TypeId) (len : Nat) (parts : List (Nat × V)) : Option (V × Heap) :=
  match P.underlying t with
  | some (.slice e) => match tsz P e, tzc P e with
    | some n, some z => if len * n > 2 ^ 24 || z.length != n || n = 0 then none else
      match fillV (fun i => some (i * n, n)) (zerosV z len) parts with
      | some cs => some (.sl H.length 0 len n, H ++ [some (.cells cs true)])
      | none => none
    | _, _ => none
  | _ => none

def makeSliceV (H : Heap) (t : TypeId) (l c : V) : Option (V × Heap) :=
  match P.underlying t, l, c with
  | some (.slice e), .int .i64 l, .int .i64 c => match tsz P e, tbytes P e, tzc P e with
    | some n, some b, some z => if 0 ≤ l && l = c && c * b ≤ 140737488355328 && c ≤ 140737488355328 && z.length == n && 0 < n then
        some (.sl H.length 0 l.toNat n, H ++ [some (.cells (zerosV z c.toNat) true)]) else none
    | _, _, _ => none
  | _, _, _ => none

def boundV (d : Nat) : Option V → Option Nat
  | none => some d
  | some (.int _ i) => if 0 ≤ i then some i.toNat else none
  | _ => none

/-- s[:h:h] of an own slice: the block ends there for good. -/
def sliceMaxV (H : Heap) (t : TypeId) (x hi m : V) : Option (V × Heap) :=
  match P.underlying t, x, hi, m with
  | some (.slice e), .sl id off len sz, .int _ h, .int _ k => match tsz P e, H[id]? with
    | some n, some (some (.cells cs _)) =>
      if 0 ≤ h && h ≤ len && k == h && n = sz && 0 < sz && off + h.toNat * sz ≤ cs.length then some (.sl H.length off h.toNat sz, H.set id none ++ [some (.cells (cs.take (off + h.toNat * sz)) true)]) else none
    | _, _ => none
  | some (.slice e), .nils, .int _ h, .int _ k => match tsz P e with
    | some _ => if h = 0 ∧ k = 0 then some (.nils, H) else none
    | none => none
  | _, _, _, _ => none

/-- A slice of an exact own block may end behind the slice that it is cut from. -/
def sliceBeyond (H : Heap) (id off l h m sz : Nat) : Option V :=
  if l ≤ h && m = sz && 0 < sz then match H[id]? with
    | some (some (.cells cs _)) => if off + h * sz ≤ cs.length then some (.sl id (off + l * sz) (h - l) sz) else none
    | _ => none
  else none
/-- s[l:h:k] of an own slice, within its length: it is not told what it is. -/
def slice3V (t : TypeId) (x : V) (lo hi : Option V) (m : V) : Option V :=
  match P.underlying t, x, lo, hi with
  | some (.slice e), .sl _ _ len _, some lo, some hi => match boundV 0 (some lo), boundV 0 (some hi), boundV 0 (some m), tsz P e with
    | some l, some h, some k, some _ => if l ≤ h && h ≤ k && k ≤ len then some .junk else none
    | _, _, _, _ => none
  | _, _, _, _ => none
def sliceV (H : Heap) (t : TypeId) (x : V) (lo hi mx : Option V) : Option V :=
  match mx with
  | some m => slice3V P t x lo hi m
  | none =>
    match P.underlying t, x with
    | some .string, .str s => match boundV 0 lo, boundV s.size hi with
      | some l, some h => if l ≤ h && h ≤ s.size then some (.str (s.extract l h)) else none
      | _, _ => none
    | some (.slice e), .nils => match boundV 0 lo, boundV 0 hi, tsz P e with
      | some 0, some 0, some _ => some .nils
      | _, _, _ => none
    | some (.slice e), .sl id off len sz => match boundV 0 lo, boundV len hi, tsz P e with
      | some l, some h, some n => if l ≤ h && h ≤ len && n = sz && 0 < sz then some (.sl id (off + l * sz) (h - l) sz) else sliceBeyond H id off l h n sz
      | _, _, _ => none
    | some (.slice e), .ros len cs => match boundV 0 lo, boundV len hi, tsz P e with
      | some l, some h, some n => if l ≤ h && h ≤ len then some (.ros (h - l) ((cs.drop (l * n)).take ((h - l) * n))) else none
      | _, _, _ => none
    | some (.array k e), .ptr id off => match boundV 0 lo, boundV k hi, tsz P e, H[id]? with
      | some l, some h, some n, some (some (.cells cs true)) => if l ≤ h && h ≤ k && l < k && 0 < n && off + k * n = cs.length then some (.sl id (off + l * n) (h - l) n) else none
      | _, _, _, _ => none
    | _, _ => none

def fieldAddrV (t : TypeId) (x : V) (f : Nat) : Option V :=
  match P.underlying t with
  | some (.struct fs) => match fs[f]? with
    | some fd => match tsz P fd.type with
      | some n => if n = 0 then none else match x with
        | .ptr id off => some (.ptr id (off + fd.offset))
        | .ro cs => some (.ro ((cs.drop fd.offset).take n))
        | _ => none
      | none => none
    | none => none
  | _ => none

def fieldV (t : TypeId) (x : V) (f : Nat) : Option V :=
  match P.underlying t, x with
  | some (.struct fs), .agg cs => match fs[f]? with
    | some fd => partV P fd.type cs fd.offset
    | none => none
  | _, _ => none

def indexAddrV (t : TypeId) (x i : V) : Option V :=
  match P.underlying t, x, i with
  | some (.slice e), .sl id off len sz, .int _ i => match tsz P e with
    | some n => if 0 ≤ i && i < len && n = sz then some (.ptr id (off + i.toNat * sz)) else none
    | none => none
  | some (.slice e), .ros len cs, .int _ i => match tsz P e with
    | some n => if 0 ≤ i && i < len then some (.ro ((cs.drop (i.toNat * n)).take n)) else none
    | none => none
  | some (.array k e), .ptr id off, .int _ i => match tsz P e with
    | some n => if 0 ≤ i && i < k then some (.ptr id (off + i.toNat * n)) else none
    | none => none
  | some (.array k e), .ro cs, .int _ i => match tsz P e with
    | some n => if 0 ≤ i && i < k then some (.ro ((cs.drop (i.toNat * n)).take n)) else none
    | none => none
  | _, _, _ => none

def indexV (t : TypeId) (x i : V) : Option V :=
  match P.underlying t, x, i with
  | some (.array k e), .agg cs, .int _ i => match tsz P e with
    | some n => if 0 ≤ i && i < k then partV P e cs (i.toNat * n) else none
    | none => none
  | some .string, .str s, .int _ i => if 0 ≤ i then match s[i.toNat]? with
      | some b => some (.int .u8 b.toNat)
      | none => none
    else none
  | _, _, _ => none

/-- Bytes as cells. -/
def byteCells (s : ByteArray) : List V := s.data.toList.map fun b => .int .u8 b.toNat
def numsOfCells : List V → Option (List Int)
  | [] => some []
  | .int .u8 n :: l => (numsOfCells l).map (n :: ·)
  | _ => none

def convertV (H : Heap) (src dst : TypeId) (x : V) : Option (V × Heap) :=
  match P.underlying src, P.underlying dst, x with
  | some _, some (.int k), .int _ n => some (.int k (k.wrap n), H)
  | some _, some .string, .str s => some (.str s, H)
  | some _, some (.slice e), .str s => match P.underlying e with
    | some (.int .u8) => some (.ros s.size (byteCells s), H)
    | _ => none
  | some (.slice e), some .string, x => match P.underlying e, sliceAtV H x with
    | some (.int .u8), some (len, cs) => if len ≤ cs.length then (numsOfCells (cs.take len)).map fun l => (.str (strOfNums l), H) else none
    | _, _ => none
  | _, _, _ => none

def lenV (H : Heap) (t : TypeId) (x : V) : Option V :=
  match P.underlying t, x with
  | some .string, .str s => some (.int .i64 s.size)
  | some (.slice _), .nils => some (.int .i64 0)
  | some (.slice _), .sl _ _ len _ => some (.int .i64 len)
  | some (.slice _), .ros len _ => some (.int .i64 len)
  | some (.map _ _), .nilm => some (.int .i64 0)
  | some (.map _ _), .rom ks _ => some (.int .i64 ks.length)
  | some (.map _ _), .map id => match H[id]? with
    | some (some (.map es _)) => some (.int .i64 es.length)
    | _ => none
  | _, _ => none

/-- The elements that are appended or copied: a slice's or a string's. -/
def itemsV (H : Heap) (n : Nat) (x : V) : Option (Nat × List V) :=
  match x with
  | .str s => if n = 1 then some (s.size, byteCells s) else none
  | x => match sliceAtV H x with
    | some (len, cs) => if len * n ≤ cs.length then some (len, cs.take (len * n)) else none
    | none => none

/-- append(s, x...): n the element's cells, b its bytes. -/
def appendS (H : Heap) (n b : Nat) (s : V) (k : Nat) (vs : List V) : Option (V × Heap) :=
  match s with
  | .nils => if k = 0 then some (.nils, H)
      else if k * b ≤ 140737488355328 then some (.sl H.length 0 k n, H ++ [some (.cells vs false)]) else none
  | .sl id off len sz => if sz != n then none else
    match H[id]? with
    | some (some (.cells cs ex)) =>
      if k = 0 then some (.sl id off len sz, H)
      else if off + (len + k) * n ≤ cs.length then (writeCells H id (off + len * n) vs).map fun H' => (.sl id off (len + k) sz, H')
      else if off + len * n ≤ cs.length && (len + k) * b ≤ 140737488355328 then
        if ex then some (.sl H.length 0 (len + k) n, H ++ [some (.cells ((cs.drop off).take (len * n) ++ vs) false)])
        else if off + len * n = cs.length then some (.sl H.length 0 (len + k) n, H.set id none ++ [some (.cells (cs.drop off ++ vs) false)])
        else none
      else none
    | _ => none
  | _ => none

def notInt (P : Program) (u : TypeId) : Bool := match P.underlying u with | some (.int _) => false | none => false | some _ => true

/-- append(nil, make([]T, n)...). -/
def appendZ (H : Heap) (e : TypeId) (s x : V) : Option (V × Heap) :=
  match s, x with
  | .nils, .int _ l => match tsz P e, tbytes P e, tzc P e with
    | some n, some b, some z => if n = 0 || b = 0 || z.length != n || decide (l < 0) || decide (140737488355328 < l.toNat * b) then none
      else if l.toNat = 0 then some (.nils, H) else some (.sl H.length 0 l.toNat n, H ++ [some (.cells (zerosV z l.toNat) false)])
    | _, _, _ => none
  | .sl id off len sz, .int _ l => match tsz P e, tbytes P e, tzc P e, H[id]? with
    | some n, some b, some z, some (some (.cells cs true)) =>
      if n = 0 || b = 0 || z.length != n || sz != n || decide (l < 0) || decide (l.toNat = 0) || decide (140737488355328 < (len + l.toNat) * b) || decide (off + (len + l.toNat) * n ≤ cs.length) || decide (cs.length < off + len * n) then none
      else some (.sl H.length 0 (len + l.toNat) n, H ++ [some (.cells ((cs.drop off).take (len * n) ++ zerosV z l.toNat) false)])
    | _, _, _, _ => none
  | _, _ => none

def appendV (H : Heap) (t : TypeId) (argT : Option TypeId) (s x : V) : Option (V × Heap) :=
  match P.underlying t, argT with
  | some (.slice e), some u => if notInt P u then match tsz P e, tbytes P e, tzc P e with
      | some n, some b, some z => if n = 0 || b = 0 || z.length != n then none else match itemsV H n x with
        | some (k, vs) => appendS H n b s k vs
        | none => none
      | _, _, _ => none
    else match P.underlying u with
      | some (.int _) => appendZ P H e s x
      | _ => none
  | _, _ => none

def copyV (H : Heap) (t : TypeId) (d x : V) : Option (V × Heap) :=
  match P.underlying t with
  | some (.slice e) => match tsz P e with
    | some n => match itemsV H n x with
      | some (k, vs) => match d with
        | .nils => some (.int .i64 0, H)
        | .sl id off len sz => if sz != n then none else (writeCells H id off (vs.take (min k len * n))).map fun H' => (.int .i64 (min k len : Nat), H')
        | _ => none
      | none => none
    | none => none
  | _ => none

def keyEq : V → V → Option Bool
  | .int k a, .int k' b => if k = k' then some (a == b) else none
  | .str a, .str b => some (a == b)
  | .bool a, .bool b => some (a == b)
  | _, _ => none
def keyKind (d : Option TypeDesc) : V → Bool
  | .int _ _ => match d with | some (.int _) => true | _ => false
  | .str _ => match d with | some .string => true | _ => false
  | .bool _ => match d with | some .bool => true | _ => false
  | _ => false

def findE (k : V) : List (V × V × Nat) → Nat → Option (Option (Nat × V))
  | [], _ => some none
  | (k', v, _) :: es, i => match keyEq k k' with
    | some true => some (some (i, v))
    | some false => findE k es (i + 1)
    | none => none
def findRo (k : V) : List V → List V → Option (Option V)
  | k' :: ks, v :: vs => match keyEq k k' with
    | some true => some (some v)
    | some false => findRo k ks vs
    | none => none
  | [], _ => some none
  | _, _ => none

def findAny (H : Heap) (x k : V) : Option (Option V) :=
  match x with
  | .nilm => some none
  | .map id => match H[id]? with
    | some (some (.map es _)) => (findE k es 0).map (Option.map (·.2))
    | _ => none
  | .rom ks vs => findRo k ks vs
  | _ => none
def pickV (et : TypeId) (ok : Bool) : Option V → Option V
  | some v => some (if ok then .tup [v, .bool true] else v)
  | none => (tzero P et).map fun z => if ok then .tup [z, .bool false] else z

def lookupV (H : Heap) (t : TypeId) (x k : V) (ok : Bool) : Option V :=
  match P.underlying t with
  | some (.map kt et) => if keyKind (P.underlying kt) k then (findAny H x k).bind (pickV P et ok) else none
  | _ => none

def setEntry (i : Nat) (f : V × V × Nat → V × V × Nat) (es : List (V × V × Nat)) : List (V × V × Nat) := es.modify i f

def mapUpdateV (H : Heap) (t : TypeId) (m k v : V) : Option Heap :=
  match P.underlying t, m with
  | some (.map kt _), .map id => if !keyKind (P.underlying kt) k then none else
    match H[id]? with
    | some (some (.map es c)) => match findE k es 0 with
      | some (some (i, _)) => some (H.set id (some (.map (setEntry i (fun e => (k, v, e.2.2)) es) c)))
      | some none => some (H.set id (some (.map (es ++ [(k, v, c)]) (c + 1))))
      | none => none
    | _ => none
  | _, _ => none

def mapEntryV (H : Heap) (t : TypeId) (m k : V) : Option (V × Heap) :=
  match P.underlying t, m with
  | some (.map kt et), .map id => if !keyKind (P.underlying kt) k then none else
    match H[id]?, tzero P et with
    | some (some (.map es c)), some z => match findE k es 0 with
      | some (some (i, v)) => match es[i]? with
        | some e => some (.tup [v, .int .i64 e.2.2], H.set id (some (.map (setEntry i (fun e => (k, e.2)) es) c)))
        | none => none
      | some none => some (.tup [z, .int .i64 c], H.set id (some (.map (es ++ [(k, z, c)]) (c + 1))))
      | none => none
    | _, _ => none
  | _, _ => none

def findBorn (b : Int) : List (V × V × Nat) → Nat → Option Nat
  | [], _ => none
  | e :: es, i => if (e.2.2 : Int) == b then some i else findBorn b es (i + 1)

def entryStoreV (H : Heap) (m st v : V) : Option Heap :=
  match m, st with
  | .map id, .int _ b => match H[id]? with
    | some (some (.map es c)) => match findBorn b es 0 with
      | some i => some (H.set id (some (.map (setEntry i (fun e => (e.1, v, e.2.2)) es) c)))
      | none => none
    | _ => none
  | _, _ => none

def minV : V → V → Option V
  | .int k x, .int _ y => some (.int k (if y < x then y else x))
  | _, _ => none
def maxV : V → V → Option V
  | .int k x, .int _ y => some (.int k (if y > x then y else x))
  | _, _ => none
def foldV (f : V → V → Option V) : V → List V → Option V
  | x, [] => some x
  | x, y :: l => (f x y).bind fun z => foldV f z l

/-- clear(s) of a slice. -/
def clearV (H : Heap) (t : TypeId) (x : V) : Option (V × Heap) :=
  match P.underlying t, x with
  | some (.slice _), .nils => some (V.undef, H)
  | some (.slice e), .sl id off len sz => match tsz P e, tzc P e with
    | some n, some z => if n = sz && z.length == n then (if len = 0 then some (V.undef, H) else (writeCells H id off (zerosV z len)).map fun H' => (V.undef, H')) else none
    | _, _ => none
  | _, _ => none
/-- cap(s), where it is known. -/
def capV (H : Heap) (t : TypeId) (x : V) : Option V :=
  match P.underlying t, x with
  | some (.slice _), .nils => some (.int .i64 0)
  | some (.slice _), .sl id off _ sz => match H[id]? with
    | some (some (.cells cs true)) => some (.int .i64 ((cs.length - off) / sz : Nat))
    | _ => none
  | _, _ => none

def evBuiltin (H : Heap) (b : Builtin) (ts : Array TypeId) (xs : List V) : Option (V × Heap) :=
  match b, xs with
  | .len, [x] => match ts[0]? with
    | some t => (lenV P H t x).map (·, H)
    | none => none
  | .append, [s, x] => match ts[0]? with
    | some t => appendV P H t ts[1]? s x
    | none => none
  | .copy, [d, x] => match ts[0]? with
    | some t => copyV P H t d x
    | none => none
  | .min, x :: l => (foldV minV x l).map (·, H)
  | .max, x :: l => (foldV maxV x l).map (·, H)
  | .clear, [x] => match ts[0]? with
    | some t => clearV P H t x
    | none => none
  | .cap, [x] => match ts[0]? with
    | some t => (capV P H t x).map (·, H)
    | none => none
  | _, _ => none

def nextV (H : Heap) (it : V) : Option (V × Heap) :=
  match it with
  | .ptr id 0 => match H[id]? with
    | some (some (.siter z p)) => if p < z.size then some (.tup [.bool true, .int .i64 p, .int .i32 (Utf8.decode z p).1], H.set id (some (.siter z (p + (Utf8.decode z p).2)))) else some (.tup [.bool false], H)
    | _ => none
  | _ => none

/-- An operation that calls no function. -/
def evPlain (Γ : Env) (s : List V) (H : Heap) : Op → Option (V × Heap)
  | .move x => some (evOperand Γ s x, H)
  | .assign x => some (evOperand Γ s x, H)
  | .pick c a b => match evOperand Γ s c with
    | .bool t => some (if t then evOperand Γ s a else evOperand Γ s b, H)
    | _ => none
  | .alloc t => match tzc P t with
    | some cs => some (.ptr H.length 0, H ++ [some (.cells cs true)])
    | none => none
  | .box _ x => match (evOperand Γ s x).cellsO with
    | some cs => some (.ptr H.length 0, H ++ [some (.cells cs true)])
    | none => none
  | .build t ps => (buildV P t (ps.toList.map fun (i, x) => (i, evOperand Γ s x))).map (·, H)
  | .buildSlice t n ps => buildSliceV P H t n (ps.toList.map fun (i, x) => (i, evOperand Γ s x))
  | .load t a => (loadV P H t (evOperand Γ s a)).map (·, H)
  | .store t a x => (storeV P H t (evOperand Γ s a) (evOperand Γ s x)).map (V.undef, ·)
  | .nilCheck x => match evOperand Γ s x with
    | .ptr id off => some (.ptr id off, H)
    | .ro cs => some (.ro cs, H)
    | .fn (.func f) a b => some (.fn (.func f) a b, H)
    | _ => none
  | .binOp op t x y _ => (evBin P op t (evOperand Γ s x) (evOperand Γ s y)).map (·, H)
  | .unOp op _ x => (evUn op (evOperand Γ s x)).map (·, H)
  | .convert a b x => convertV P H a b (evOperand Γ s x)
  | .makeInterface t x => match P.underlying t with
    | some (.interface _) => none
    | some _ => some (.iface t (evOperand Γ s x), H)
    | none => none
  | .makeFunc f a b => some (.fn f (a.toList.map (evOperand Γ s)) (b.toList.map (evOperand Γ s)), H)
  | .makeMap _ none => some (.map H.length, H ++ [some (.map [] 0)])
  | .makeSlice t l c => makeSliceV P H t (evOperand Γ s l) (evOperand Γ s c)
  | .slice t x none (some hi) (some m) => sliceMaxV P H t (evOperand Γ s x) (evOperand Γ s hi) (evOperand Γ s m)
  | .slice t x lo hi mx => (sliceV P H t (evOperand Γ s x) (lo.map (evOperand Γ s)) (hi.map (evOperand Γ s)) (mx.map (evOperand Γ s))).map (·, H)
  | .fieldAddr t x f => (fieldAddrV P t (evOperand Γ s x) f).map (·, H)
  | .field t x f => (fieldV P t (evOperand Γ s x) f).map (·, H)
  | .indexAddr t x i => (indexAddrV P t (evOperand Γ s x) (evOperand Γ s i)).map (·, H)
  | .index t x i => (indexV P t (evOperand Γ s x) (evOperand Γ s i)).map (·, H)
  | .lookup t x k ok => (lookupV P H t (evOperand Γ s x) (evOperand Γ s k) ok).map (·, H)
  | .mapUpdate t m k x => (mapUpdateV P H t (evOperand Γ s m) (evOperand Γ s k) (evOperand Γ s x)).map (V.undef, ·)
  | .insert t m k x => (mapUpdateV P H t (evOperand Γ s m) (evOperand Γ s k) (evOperand Γ s x)).map (V.undef, ·)
  | .mapEntry t m k => mapEntryV P H t (evOperand Γ s m) (evOperand Γ s k)
  | .entryStore _ m st x => (entryStoreV H (evOperand Γ s m) (evOperand Γ s st) (evOperand Γ s x)).map (V.undef, ·)
  | .range t x => match P.underlying t, evOperand Γ s x with
    | some .string, .str z => some (.ptr H.length 0, H ++ [some (.siter z 0)])
    | _, _ => none
  | .next it true => nextV H (evOperand Γ s it)
  | .extract x i => match evOperand Γ s x with
    | .tup vs => (vs[i]?).map (·, H)
    | _ => none
  | .call { callee := .builtin b, args := as, argTypes := ts } => evBuiltin P H b ts (as.toList.map (evOperand Γ s))
  | _ => none

/-- A function's own evaluation, handed in. -/
abbrev CallF := Nat → List V → Heap → Option (V × Heap)

/-- A call that is handed no memory of the caller's: what it is handed is read out. -/
def callPlain (call : CallF) (H : Heap) (f : Nat) (args : List V) : Option (V × Heap) :=
  match call f (args.map (snap 4 H)) [] with
  | some (r, G) => if r.own && G.all (fun b => match b with | some b => b.own | none => true) then
      some (r.ren (fun j => some (H.length + j)), H ++ G.map (Option.map (Blk.ren fun j => some (H.length + j)))) else none
  | none => none

def backOf (n : Nat) (L : List Nat) (j : Nat) : Option Nat := if j < L.length then L[j]? else some (n + (j - L.length))
def setMany : Heap → List Nat → Heap → Heap
  | H, id :: L, b :: G => setMany (H.set id b) L G
  | H, _, _ => H

/-- A call that is handed the part of the caller's memory that it can reach. -/
def callWide (call : CallF) (H : Heap) (f : Nat) (args : List V) : Option (V × Heap) :=
  let L := reach 0 H fuelR (refsL args) []
  match call f (args.map (V.ren fun id => indexIn id L)) (L.map fun id => (H.getD id none).map (Blk.ren fun id => indexIn id L)) with
  | some (r, G) => if L.length ≤ G.length then
      some (r.ren (backOf H.length L), setMany H L ((G.take L.length).map (Option.map (Blk.ren (backOf H.length L)))) ++ (G.drop L.length).map (Option.map (Blk.ren (backOf H.length L)))) else none
  | none => none

def evCall (Γ : Env) (call : CallF) (s : List V) (H : Heap) (c : Call) : Option (V × Heap) :=
  match c.callee with
  | .value f => match evOperand Γ s f with
    | .fn (.func g) a b => if Γ.plain g then callPlain call H g (a ++ c.args.toList.map (evOperand Γ s) ++ b) else callWide call H g (a ++ c.args.toList.map (evOperand Γ s) ++ b)
    | _ => none
  | _ => none

def evOp (Γ : Env) (call : CallF) (s : List V) (H : Heap) (o : Op) : Option (V × Heap) :=
  match o with
  | .call c => match c.callee with
    | .value _ => evCall Γ call s H c
    | _ => evPlain P Γ s H (.call c)
  | o => evPlain P Γ s H o

def putS (s : List V) (d : Option Tmp) (v : V) : List V := match d with | some t => s.set t v | none => s

/-- Is a guarded operation to be done? -/
def wantedV (ops : List Oper) (s : List V) (o : Oper) : Option Bool :=
  match o.guard with
  | none => some true
  | some (j, want) => match (ops[j]?).bind (·.dst) with
    | some d => match getS s d with
      | .bool b => some (b == want)
      | .tup [] => some false
      | _ => none
    | none => none

def evOpsGo (Γ : Env) (call : CallF) (all : List Oper) : List Oper → List V → Heap → Option (List V × Heap)
  | [], s, H => some (s, H)
  | o :: rest, s, H => match wantedV all s o with
    | some true => match evOp P Γ call s H o.op with
      | some (v, H') => evOpsGo Γ call all rest (putS s o.dst v) H'
      | none => none
    | some false => evOpsGo Γ call all rest (putS s o.dst V.undef) H
    | none => none
end
end Go.Ev

/-
  THE EVALUATOR, second part: regions, code, functions (own work).
-/
namespace Go.Ev
open Go

/-! ### Regions -/
/-- The blocks that an operation may write (those that lay before). -/
def refOf : V → List Nat
  | .ptr id _ => [id]
  | .sl id _ _ _ => [id]
  | .map id => [id]
  | _ => []

def writesOf (Γ : Env) (s : List V) (H : Heap) : Op → List Nat
  | .store _ a _ => refOf (evOperand Γ s a)
  | .mapUpdate _ m _ _ => refOf (evOperand Γ s m)
  | .insert _ m _ _ => refOf (evOperand Γ s m)
  | .mapEntry _ m _ => refOf (evOperand Γ s m)
  | .entryStore _ m _ _ => refOf (evOperand Γ s m)
  | .next it _ => refOf (evOperand Γ s it)
  | .slice _ x none (some _) (some _) => refOf (evOperand Γ s x)
  | .call c => match c.callee with
    | .builtin .append => (c.args.toList.map (evOperand Γ s)).head?.elim [] refOf
    | .builtin .copy => (c.args.toList.map (evOperand Γ s)).head?.elim [] refOf
    | .builtin .clear => (c.args.toList.map (evOperand Γ s)).head?.elim [] refOf
    | .builtin _ => []
    | .value f => match evOperand Γ s f with
      | .fn (.func g) a b => if Γ.plain g then [] else reach 0 H fuelR (refsL (a ++ c.args.toList.map (evOperand Γ s) ++ b)) []
      | _ => []
    | _ => []
  | _ => []

def bindsAny (e : Edge) : Bool := Region.binds .any e

/-- Whom each operation comes after, through others too. -/
def ancGo : List Oper → List (List Nat) → List (List Nat)
  | [], acc => acc
  | o :: rest, acc => ancGo rest (acc ++ [o.after.toList.foldl (fun l e => if bindsAny e then l ++ [e.on] ++ acc.getD e.on [] else l) []])
def ancs (ops : List Oper) : List (List Nat) := ancGo ops []

/-- Edges lead back; no slot is written twice. -/
def backward : List Oper → Nat → Bool
  | [], _ => true
  | o :: rest, i => (o.after.toList.all fun e => !bindsAny e || e.on < i) && backward rest (i + 1)
def dsts (ops : List Oper) : List Nat := ops.filterMap (·.dst)
def nodupB : List Nat → Bool
  | [] => true
  | x :: l => !l.contains x && nodupB l

structure Hint where
  w : List Nat
  lb : Nat
  la : Nat

section
variable (P : Program)

def hintsGo (Γ : Env) (call : CallF) (all : List Oper) : List Oper → List V → Heap → Option (List Hint)
  | [], _, _ => some []
  | o :: rest, s, H => match wantedV all s o with
    | some true => match evOp P Γ call s H o.op with
      | some (v, H') => (hintsGo Γ call all rest (putS s o.dst v) H').map (⟨writesOf Γ s H o.op, H.length, H'.length⟩ :: ·)
      | none => none
    | some false => (hintsGo Γ call all rest (putS s o.dst V.undef) H).map (⟨[], H.length, H.length⟩ :: ·)
    | none => none

def unordered (as : List (List Nat)) (i j : Nat) : Bool := i != j && !(as.getD i []).contains j && !(as.getD j []).contains i
def maskSlots (as : List (List Nat)) (i : Nat) : List Oper → Nat → List V → List V
  | [], _, s => s
  | o :: rest, j, s => maskSlots as i rest (j + 1) (if unordered as i j then putS s o.dst .junk else s)
def maskIds (as : List (List Nat)) (i : Nat) : List Hint → Nat → List Nat
  | [], _ => []
  | h :: rest, j => (if unordered as i j then h.w ++ (List.range (h.la - h.lb)).map (h.lb + ·) else []) ++ maskIds as i rest (j + 1)
def maskHeap (M : List Nat) (H : Heap) : Heap := H.mapIdx fun id b => if M.contains id then none else b
def mergeHeap (M : List Nat) (H H' : Heap) : Heap := H'.mapIdx fun id b => if M.contains id then H.getD id none else b

/-- No operation that may come before, though it stands behind, makes a block. -/
def laterOk (as : List (List Nat)) (i : Nat) : List Hint → Nat → Bool
  | [], _ => true
  | h :: rest, j => (decide (j ≤ i) || !unordered as i j || h.la == h.lb) && laterOk as i rest (j + 1)
def boundedS (n : Nat) (s : List V) (H : Heap) : Bool := (refsL s).all (decide <| · < n) && H.all fun b => (blkRefs b).all (decide <| · < n)

def drawGo (Γ : Env) (call : CallF) (all : List Oper) (as : List (List Nat)) (hs : List Hint) : List Oper → Nat → List V → Heap → Option (List V × Heap)
  | [], _, s, H => some (s, H)
  | o :: rest, i, s, H =>
    let sm := maskSlots as i all 0 s
    match wantedV all sm o, hs[i]? with
    | some true, some h =>
      let M := maskIds as i hs 0
      match evOp P Γ call sm (maskHeap M H) o.op with
      | some (v, H') => if h.lb = H.length ∧ h.la = H'.length ∧ h.w = writesOf Γ sm (maskHeap M H) o.op ∧ (h.w.all (fun id => decide (id < H.length) && !M.contains id)) = true ∧ (laterOk as i hs 0 || boundedS H.length sm (maskHeap M H)) = true then
          drawGo Γ call all as hs rest (i + 1) (putS s o.dst v) (mergeHeap M H H') else none
      | none => none
    | some false, some h => if h.lb = H.length ∧ h.la = H.length ∧ h.w = [] then drawGo Γ call all as hs rest (i + 1) (putS s o.dst V.undef) H else none
    | _, _ => none

def evRegion (Γ : Env) (call : CallF) (ops : List Oper) (draw : Bool) (s : List V) (H : Heap) : Option (List V × Heap) :=
  if draw then
    if backward ops 0 && nodupB (dsts ops) then
      match hintsGo P Γ call ops ops s H with
      | some hs => drawGo P Γ call ops (ancs ops) hs ops 0 s H
      | none => none
    else none
  else evOpsGo P Γ call ops ops s H

/-! ### Code -/
inductive Ex where
  | normal
  | exit (id : Nat)
  | ret

/-- The first region in a piece of code: by it a loop is told. -/
def firstRegion : Code → Nat
  | .region id _ _ => id
  | .seq a b => match firstRegion a with
    | 0 => firstRegion b
    | n => n
  | .block _ c => firstRegion c
  | .scope c => firstRegion c
  | .loop c => firstRegion c
  | _ => 0

def keepLive (l : List Nat) (s : List V) : List V := s.mapIdx fun i v => if l.contains i then v else .junk

/-- A loop's head: slots that don't matter are forgotten; blocks are numbered anew. -/
def tidy (Γ : Env) (f m : Nat) (id : Nat) (s : List V) (H : Heap) : List V × Heap :=
  match Γ.live f id with
  | none => (s, H)
  | some l =>
    let s' := keepLive l s
    if Γ.keep f id then (s', H) else
    if Γ.cold f id then
      let L := topPlace m H fuelR (leavesL s') []
      (s'.map (coldV m L H), coldHeap m L H)
    else
    let L := place m H fuelR (rootLeaves m H ++ leavesL s') []
    (renL (keepOf m L) s', keepHeap m L H)

def evLoop (step : List V → Heap → Option (Ex × List V × Heap)) : Nat → List V → Heap → Option (Ex × List V × Heap)
  | 0, _, _ => none
  | n + 1, s, H => match step s H with
    | some (.normal, s', H') => evLoop step n s' H'
    | r => r

def evCode (Γ : Env) (call : CallF) (n f m : Nat) : Code → List V → Heap → Option (Ex × List V × Heap)
  | .skip, s, H => some (.normal, s, H)
  | .region _ ops draw, s, H => match evRegion P Γ call ops.toList draw s H with
    | some (s', H') => some (.normal, s', H')
    | none => none
  | .seq a b, s, H => match evCode Γ call n f m a s H with
    | some (.normal, s', H') => evCode Γ call n f m b s' H'
    | r => r
  | .cond c x y, s, H => match evOperand Γ s c with
    | .bool t => if t then evCode Γ call n f m x s H else evCode Γ call n f m y s H
    | _ => none
  | .block id c, s, H => match evCode Γ call n f m c s H with
    | some (.exit j, s', H') => if j = id then some (.normal, s', H') else some (.exit j, s', H')
    | r => r
  | .loop c, s, H => evLoop (fun s H => evCode Γ call n f m c (tidy Γ f m (firstRegion c) s H).1 (tidy Γ f m (firstRegion c) s H).2) n s H
  | .scope c, s, H => evCode Γ call n f m c s H
  | .label _, s, H => some (.normal, s, H)
  | .exit id, s, H => some (.exit id, s, H)
  | .ret, s, H => some (.ret, s, H)
  | _, _, _ => none

def resultO (s : List V) (H : Heap) : ResultVar → Option V
  | .tmp t => some (getS s t)
  | .cell a t => loadV P H t (getS s a)
def resultsO (s : List V) (H : Heap) : List ResultVar → Option (List V)
  | [] => some []
  | r :: rs => match resultO P s H r, resultsO s H rs with
    | some v, some l => some (v :: l)
    | _, _ => none
def packV : List V → V
  | [v] => v
  | l => .tup l

/-- At a function's end: what its result and the caller's blocks reach is kept. -/
def finish (m : Nat) (H : Heap) (r : V) : V × Heap :=
  let L := place m H fuelR (rootLeaves m H ++ r.leaves) []
  (r.ren (keepOf m L), keepHeap m L H)

def evBody (Γ : Env) (call : CallF) (n f : Nat) (fn : Func) (args : List V) (H : Heap) : Option (V × Heap) :=
  match fn.body with
  | none => none
  | some c =>
    match evCode P Γ call n f H.length c (args ++ List.replicate (fn.ntmps - args.length) V.undef) H with
    | some (.exit _, _, _) => none
    | some (_, s, G) => match resultsO P s G fn.results.toList with
      | some l => some (finish H.length G (packV l))
      | none => none
    | none => none

def evF (Γ : Env) : Nat → CallF
  | 0, _, _, _ => none
  | k + 1, f, args, H => match Γ.orc f args H with
    | some r => some r
    | none => match P.funcs[f]? with
      | some fn => if fn.name = "runtime.NumGoroutine" then none else evBody P Γ (evF Γ k) k f fn args H
      | none => none
end
end Go.Ev

/-
  WHAT ABSTRACT VALUES STAND FOR (own work): 'Rep'; the heap's relation 'HS'; what a step may do, 'Go'.
-/
namespace Go.Ev
open Go

/-- Where a block lies: the real block, where its first cell lies in it, how many cells the real row has. -/
structure EB where
  b : Nat
  base : Nat
  size : Nat

/-- Where the blocks lie that have a name; which blocks will never turn again, with what they hold. -/
structure Emb where
  loc : Nat → Option EB
  frz : Nat → Option Obj
instance : CoeFun Emb (fun _ => Nat → Option EB) := ⟨Emb.loc⟩
def emp : Emb := ⟨fun _ => none, fun _ => none⟩
def Emb.bare (e : Emb) : Emb := ⟨fun _ => none, e.frz⟩
/-- What is known of a block for good. -/
def known (w0 : World) (B : Nat) (e : Emb) (b : Nat) : Option Obj := if b < B then w0.heap[b]? else e.frz b
def kcell (w0 : World) (B : Nat) (e : Emb) (b o : Nat) : Option Value := match known w0 B e b with
  | some (.cells c _ _) => c[o]?
  | _ => none
theorem kcell_mono {w0 w1 : World} {B B1 : Nat} {e e1 : Emb} (hk : ∀ b o, known w0 B e b = some o → known w1 B1 e1 b = some o) {b o : Nat} {v : Value} (h : kcell w0 B e b o = some v) : kcell w1 B1 e1 b o = some v := by
  unfold kcell at h ⊢
  cases hb : known w0 B e b with
  | none => rw [hb] at h; cases h
  | some x => rw [hb] at h; rw [hk _ _ hb]; exact h
theorem known_frz {w0 : World} {B : Nat} {e e1 : Emb} (hz : ∀ b o, e.frz b = some o → e1.frz b = some o) : ∀ b o, known w0 B e b = some o → known w0 B e1 b = some o := fun b o h => by
  unfold known at h ⊢
  split at h
  · rename_i hb; rw [if_pos hb]; exact h
  · rename_i hb; rw [if_neg hb]; exact hz b o h
theorem kcell_old {w0 : World} {B : Nat} {e : Emb} {b o : Nat} (hb : b < B) : kcell w0 B e b o = w0.cell? ⟨b, o, none⟩ := by
  unfold kcell known World.cell?
  rw [if_pos hb]
  cases w0.heap[b]? with
  | none => rfl
  | some x => cases x <;> rfl

abbrev one : Value → Bool := Value.oneCell'

inductive Rep (w0 : World) (B : Nat) : Emb → V → Value → Prop
  | bool (e b) : Rep w0 B e (.bool b) (.bool b)
  | int (e k n) : Rep w0 B e (.int k n) (.int k n)
  | str (e s) : Rep w0 B e (.str s) (.string s)
  | nilp (e) : Rep w0 B e .nilp (.pointer none)
  | ptr (e : Emb) (id off eb) (h : e id = some eb) : Rep w0 B e (.ptr id off) (.pointer (some ⟨eb.b, eb.base + off, none⟩))
  | ro (e : Emb) (cs : List V) (b o : Nat) (f : Nat → Value)
      (hc : ∀ j, j < cs.length → kcell w0 B e b (o + j) = some (f j)) (h1 : ∀ j, j < cs.length → one (f j) = true)
      (hr : ∀ j (h : j < cs.length), Rep w0 B e.bare (cs[j]'h) (f j)) : Rep w0 B e (.ro cs) (.pointer (some ⟨b, o, none⟩))
  | nils (e) : Rep w0 B e .nils (.slice none 0 0)
  | sl (e : Emb) (id off len sz cap eb o) (h : e id = some eb) (hl : len ≤ cap) (hz : 0 < sz) (hs : eb.base + off + cap * sz = eb.size) (ho : 0 < cap → o = eb.base + off) :
      Rep w0 B e (.sl id off len sz) (.slice (some ⟨eb.b, o, none⟩) len cap)
  | ros (e : Emb) (len : Nat) (cs : List V) (b o cap : Nat) (f : Nat → Value) (hl : len ≤ cap)
      (hc : ∀ j, j < cs.length → kcell w0 B e b (o + j) = some (f j)) (h1 : ∀ j, j < cs.length → one (f j) = true)
      (hr : ∀ j (h : j < cs.length), Rep w0 B e.bare (cs[j]'h) (f j)) : Rep w0 B e (.ros len cs) (.slice (some ⟨b, o, none⟩) len cap)
  | rose (e : Emb) (a : Addr) : Rep w0 B e (.ros 0 []) (.slice (some a) 0 0)
  | nilm (e) : Rep w0 B e .nilm (.map none)
  | map (e : Emb) (id eb) (h : e id = some eb) : Rep w0 B e (.map id) (.map (some eb.b))
  | rom (e : Emb) (ks vs : List V) (r clock : Nat) (es : List MapEntry) (hm : known w0 B e r = some (.map ⟨es⟩ clock))
      (hk : ks.length = es.length) (hv : vs.length = es.length)
      (hkr : ∀ j (h : j < ks.length) (h' : j < es.length), Rep w0 B e.bare (ks[j]'h) (es[j]'h').key)
      (hvr : ∀ j (h : j < vs.length) (h' : j < es.length), Rep w0 B e.bare (vs[j]'h) (es[j]'h').val) : Rep w0 B e (.rom ks vs) (.map (some r))
  | fn (e f) (a b : List V) (a' b' : List Value) (ha : a.length = a'.length) (hb : b.length = b'.length)
      (har : ∀ j (h : j < a.length) (h' : j < a'.length), Rep w0 B e (a[j]'h) (a'[j]'h'))
      (hbr : ∀ j (h : j < b.length) (h' : j < b'.length), Rep w0 B e (b[j]'h) (b'[j]'h')) : Rep w0 B e (.fn f a b) (.func f ⟨a'⟩ ⟨b'⟩)
  | nilf (e) : Rep w0 B e .nilf .nilFunc
  | iface (e t v v') (h : Rep w0 B e v v') : Rep w0 B e (.iface t v) (.iface t v')
  | nili (e) : Rep w0 B e .nili .nilIface
  | agg (e) (a : List V) (a' : List Value) (ha : a.length = a'.length) (h1 : ∀ v ∈ a', one v = true)
      (har : ∀ j (h : j < a.length) (h' : j < a'.length), Rep w0 B e (a[j]'h) (a'[j]'h')) : Rep w0 B e (.agg a) (.agg ⟨a'⟩)
  | tup (e) (a : List V) (a' : List Value) (ha : a.length = a'.length)
      (har : ∀ j (h : j < a.length) (h' : j < a'.length), Rep w0 B e (a[j]'h) (a'[j]'h')) : Rep w0 B e (.tup a) (.tuple ⟨a'⟩)
  | junk (e v) : Rep w0 B e .junk v

def RepL (w0 : World) (B : Nat) (e : Emb) (a : List V) (a' : List Value) : Prop :=
  a.length = a'.length ∧ ∀ j (h : j < a.length) (h' : j < a'.length), Rep w0 B e (a[j]'h) (a'[j]'h')

theorem RepL.nil (w0 B e) : RepL w0 B e [] [] := ⟨rfl, fun j h => by simp at h⟩
theorem RepL.cons {w0 B e v v' l l'} (h : Rep w0 B e v v') (hl : RepL w0 B e l l') : RepL w0 B e (v :: l) (v' :: l') := by
  refine ⟨by simp [hl.1], fun j h1 h2 => ?_⟩
  cases j with
  | zero => exact h
  | succ j => simpa using hl.2 j (by simpa using h1) (by simpa using h2)
theorem RepL.head {w0 B e v v' l l'} (h : RepL w0 B e (v :: l) (v' :: l')) : Rep w0 B e v v' := h.2 0 (by simp) (by simp)
theorem RepL.tail {w0 B e v v' l l'} (h : RepL w0 B e (v :: l) (v' :: l')) : RepL w0 B e l l' :=
  ⟨by simpa using h.1, fun j h1 h2 => h.2 (j + 1) (by simpa using h1) (by simpa using h2)⟩
theorem RepL.append {w0 B e a a' b b'} (h : RepL w0 B e a a') (k : RepL w0 B e b b') : RepL w0 B e (a ++ b) (a' ++ b') := by
  refine ⟨by simp [h.1, k.1], fun j h1 h2 => ?_⟩
  rcases Nat.lt_or_ge j a.length with hj | hj
  · rw [List.getElem_append_left hj, List.getElem_append_left (by rw [← h.1]; exact hj)]
    exact h.2 j hj _
  · rw [List.getElem_append_right hj, List.getElem_append_right (by rw [← h.1]; exact hj)]
    simp only [← h.1]
    have e1 : (a ++ b).length = a.length + b.length := List.length_append
    have e2 : (a' ++ b').length = a'.length + b'.length := List.length_append
    have := h.1
    exact k.2 _ (by omega) (by omega)
theorem RepL.take {w0 B e a a'} (h : RepL w0 B e a a') (n : Nat) : RepL w0 B e (a.take n) (a'.take n) := by
  refine ⟨by simp [h.1], fun j h1 h2 => ?_⟩
  simp only [List.getElem_take]
  exact h.2 j _ _
theorem RepL.drop {w0 B e a a'} (h : RepL w0 B e a a') (n : Nat) : RepL w0 B e (a.drop n) (a'.drop n) := by
  refine ⟨by simp [h.1], fun j h1 h2 => ?_⟩
  simp only [List.getElem_drop]
  exact h.2 _ _ _
theorem RepL.get? {w0 B e a a'} (h : RepL w0 B e a a') {j : Nat} {v : V} (hv : a[j]? = some v) : ∃ v', a'[j]? = some v' ∧ Rep w0 B e v v' := by
  obtain ⟨hj, rfl⟩ := List.getElem?_eq_some_iff.1 hv
  have hj' : j < a'.length := h.1 ▸ hj
  exact ⟨a'[j], by simp [hj'], h.2 j hj hj'⟩
theorem RepL.replicate {w0 B e v v'} (h : Rep w0 B e v v') (n : Nat) : RepL w0 B e (List.replicate n v) (List.replicate n v') :=
  ⟨by simp, fun j h1 h2 => by simpa using h⟩
theorem RepL.set {w0 B e a a' v v'} (h : RepL w0 B e a a') (k : Rep w0 B e v v') (t : Nat) : RepL w0 B e (a.set t v) (a'.set t v') := by
  refine ⟨by simp [h.1], fun j h1 h2 => ?_⟩
  simp only [List.getElem_set]
  split
  · exact k
  · exact h.2 j (by simpa using h1) (by simpa using h2)

theorem subL_eq (hp hs hm) : ∀ l : List V, subL hp hs hm l = l.map (V.sub hp hs hm)
  | [] => rfl
  | v :: l => by simp [subL, subL_eq hp hs hm l]
theorem renL_eq (ρ : Nat → Option Nat) (l : List V) : renL ρ l = l.map (V.ren ρ) := by
  unfold renL
  rw [subL_eq]
  rfl

/-- THE GENERAL LAW: references replaced, the base world moved on. -/
theorem Rep.sub {w0 w1 : World} {B B1 : Nat}
    {hp : Nat → Nat → V} {hs : Nat → Nat → Nat → Nat → V} {hm : Nat → V} {e e1 : Emb} (hk : ∀ b o, known w0 B e b = some o → known w1 B1 e1 b = some o)
    (Hp : ∀ id off v, Rep w0 B e (.ptr id off) v → Rep w1 B1 e1 (hp id off) v)
    (Hs : ∀ id off len sz v, Rep w0 B e (.sl id off len sz) v → Rep w1 B1 e1 (hs id off len sz) v)
    (Hm : ∀ id v, Rep w0 B e (.map id) v → Rep w1 B1 e1 (hm id) v) {a : V} {v : Value} (h : Rep w0 B e a v) :
    Rep w1 B1 e1 (a.sub hp hs hm) v := by
  -- what is read only holds nothing but what is read only
  have key : ∀ {e a v}, Rep w0 B e a v → (∀ id, e id = none) → (∀ b o, known w0 B e b = some o → known w1 B1 e1 b = some o) → Rep w1 B1 e1.bare a v := by
    intro e a v h
    induction h with
    | bool => intro _ _; constructor
    | int => intro _ _; constructor
    | str => intro _ _; constructor
    | nilp => intro _ _; constructor
    | ptr e id off eb h => intro he _; rw [he] at h; cases h
    | ro e cs b o f hc h1 hr ih => intro _ hk; exact .ro _ cs b o f (fun j hj => kcell_mono (e := e) (e1 := e1) hk (hc j hj)) h1 (fun j hj => ih j hj (fun _ => rfl) hk)
    | nils => intro _ _; constructor
    | sl e id off len sz cap eb o h => intro he _; rw [he] at h; cases h
    | ros e len cs b o cap f hl hc h1 hr ih => intro _ hk; exact .ros _ len cs b o cap f hl (fun j hj => kcell_mono (e := e) (e1 := e1) hk (hc j hj)) h1 (fun j hj => ih j hj (fun _ => rfl) hk)
    | rose e a => intro _ _; exact .rose _ _
    | nilm => intro _ _; constructor
    | map e id eb h => intro he _; rw [he] at h; cases h
    | rom e ks vs r clock es hm' hlk hlv hkr hvr ih1 ih2 => intro _ hk; exact .rom _ ks vs r clock es (hk _ _ hm') hlk hlv (fun j h h' => ih1 j h h' (fun _ => rfl) hk) (fun j h h' => ih2 j h h' (fun _ => rfl) hk)
    | fn e f a b a' b' ha hb har hbr ih1 ih2 => intro he hk; exact .fn _ f a b a' b' ha hb (fun j h h' => ih1 j h h' he hk) (fun j h h' => ih2 j h h' he hk)
    | nilf => intro _ _; constructor
    | iface e t v v' h ih => intro he hk; exact .iface _ _ _ _ (ih he hk)
    | nili => intro _ _; constructor
    | agg e a a' ha h1 har ih => intro he hk; exact .agg _ a a' ha h1 (fun j h h' => ih j h h' he hk)
    | tup e a a' ha har ih => intro he hk; exact .tup _ a a' ha (fun j h h' => ih j h h' he hk)
    | junk => intro _ _; constructor
  induction h with
  | bool => constructor
  | int => constructor
  | str => constructor
  | nilp => constructor
  | ptr e id off eb h => exact Hp _ _ _ (.ptr _ _ _ _ h)
  | ro e cs b o f hc h1 hr => exact .ro _ cs b o f (fun j hj => kcell_mono hk (hc j hj)) h1 (fun j hj => key (hr j hj) (fun _ => rfl) hk)
  | nils => constructor
  | sl e id off len sz cap eb o h h2 h3 h4 h5 => exact Hs _ _ _ _ _ (.sl _ _ _ _ _ _ _ _ h h2 h3 h4 h5)
  | ros e len cs b o cap f hl hc h1 hr => exact .ros _ len cs b o cap f hl (fun j hj => kcell_mono hk (hc j hj)) h1 (fun j hj => key (hr j hj) (fun _ => rfl) hk)
  | rose e a => exact .rose _ _
  | nilm => constructor
  | map e id eb h => exact Hm _ _ (.map _ _ _ h)
  | rom e ks vs r clock es hm' hlk hlv hkr hvr => exact .rom _ ks vs r clock es (hk _ _ hm') hlk hlv (fun j h h' => key (hkr j h h') (fun _ => rfl) hk) (fun j h h' => key (hvr j h h') (fun _ => rfl) hk)
  | fn e f a b a' b' ha hb har hbr ih1 ih2 =>
    simp only [V.sub, subL_eq]
    exact .fn _ f _ _ a' b' (by simp [ha]) (by simp [hb]) (fun j h h' => by simpa using ih1 j (by simpa using h) h' hk Hp Hs Hm) (fun j h h' => by simpa using ih2 j (by simpa using h) h' hk Hp Hs Hm)
  | nilf => constructor
  | iface e t v v' h ih => exact .iface _ _ _ _ (ih hk Hp Hs Hm)
  | nili => constructor
  | agg e a a' ha h1 har ih =>
    simp only [V.sub, subL_eq]
    exact .agg _ _ a' (by simp [ha]) h1 (fun j h h' => by simpa using ih j (by simpa using h) h' hk Hp Hs Hm)
  | tup e a a' ha har ih =>
    simp only [V.sub, subL_eq]
    exact .tup _ _ a' (by simp [ha]) (fun j h h' => by simpa using ih j (by simpa using h) h' hk Hp Hs Hm)
  | junk => constructor
end Go.Ev

/-
  THE HEAP's RELATION, AND WHAT A STEP MAY DO (own work).
-/
namespace Go.Ev
open Go

mutual
theorem V.sub_self : ∀ v : V, v.sub (fun id off => .ptr id off) (fun id off len sz => .sl id off len sz) (fun id => .map id) = v
  | .bool _ => rfl
  | .int _ _ => rfl
  | .str _ => rfl
  | .nilp => rfl
  | .ptr _ _ => rfl
  | .ro _ => rfl
  | .nils => rfl
  | .sl _ _ _ _ => rfl
  | .ros _ _ => rfl
  | .nilm => rfl
  | .map _ => rfl
  | .rom _ _ => rfl
  | .fn f a b => by simp only [V.sub]; rw [subL_self a, subL_self b]
  | .nilf => rfl
  | .iface t v => by simp only [V.sub]; rw [V.sub_self v]
  | .nili => rfl
  | .agg cs => by simp only [V.sub]; rw [subL_self cs]
  | .tup cs => by simp only [V.sub]; rw [subL_self cs]
  | .junk => rfl
theorem subL_self : ∀ l : List V, subL (fun id off => .ptr id off) (fun id off len sz => .sl id off len sz) (fun id => .map id) l = l
  | [] => rfl
  | v :: l => by simp only [subL]; rw [V.sub_self v, subL_self l]
end

theorem Rep.mono {w0 : World} {B : Nat} {e e1 : Emb} {a : V} {v : Value} (he : ∀ id eb, e id = some eb → e1 id = some eb) (h : Rep w0 B e a v) (hz : ∀ b o, e.frz b = some o → e1.frz b = some o := by exact fun _ _ h => h) : Rep w0 B e1 a v := by
  have := Rep.sub (e1 := e1) (hp := fun id off => .ptr id off) (hs := fun id off len sz => .sl id off len sz) (hm := fun id => .map id) (known_frz hz)
    (fun id off v hv => by cases hv with | ptr _ _ _ eb h => exact .ptr _ _ _ _ (he _ _ h))
    (fun id off len sz v hv => by cases hv with | sl _ _ _ _ _ _ eb o h h2 h3 h4 h5 => exact .sl _ _ _ _ _ _ _ _ (he _ _ h) h2 h3 h4 h5)
    (fun id v hv => by cases hv with | map _ _ eb h => exact .map _ _ _ (he _ _ h)) h
  rwa [V.sub_self] at this
theorem RepL.mono {w0 : World} {B : Nat} {e e1 : Emb} {a : List V} {v : List Value} (he : ∀ id eb, e id = some eb → e1 id = some eb) (h : RepL w0 B e a v) (hz : ∀ b o, e.frz b = some o → e1.frz b = some o := by exact fun _ _ h => h) : RepL w0 B e1 a v :=
  ⟨h.1, fun j h1 h2 => (h.2 j h1 h2).mono he hz⟩

theorem Rep.ren {w0 : World} {B : Nat} {e e1 : Emb} {ρ : Nat → Option Nat} (he : ∀ id j eb, ρ id = some j → e id = some eb → e1 j = some eb) {a : V} {v : Value} (h : Rep w0 B e a v) (hz : ∀ b o, e.frz b = some o → e1.frz b = some o := by exact fun _ _ h => h) :
    Rep w0 B e1 (a.ren ρ) v := by
  refine Rep.sub (known_frz hz) ?_ ?_ ?_ h
  · intro id off v hv
    cases hρ : ρ id with
    | none => exact .junk _ _
    | some j =>
      cases hv with
      | ptr _ _ _ eb h => exact .ptr _ _ _ _ (he _ _ _ hρ h)
  · intro id off len sz v hv
    cases hρ : ρ id with
    | none => exact .junk _ _
    | some j =>
      cases hv with
      | sl _ _ _ _ _ _ eb o h h2 h3 h4 h5 => exact .sl _ _ _ _ _ _ _ _ (he _ _ _ hρ h) h2 h3 h4 h5
  · intro id v hv
    cases hρ : ρ id with
    | none => exact .junk _ _
    | some j =>
      cases hv with
      | map _ _ eb h => exact .map _ _ _ (he _ _ _ hρ h)
theorem RepL.ren {w0 : World} {B : Nat} {e e1 : Emb} {ρ : Nat → Option Nat} (he : ∀ id j eb, ρ id = some j → e id = some eb → e1 j = some eb) {a : List V} {v : List Value} (h : RepL w0 B e a v) (hz : ∀ b o, e.frz b = some o → e1.frz b = some o := by exact fun _ _ h => h) :
    RepL w0 B e1 (a.map (V.ren ρ)) v :=
  ⟨by simp [h.1], fun j h1 h2 => by simpa using (h.2 j (by simpa using h1) h2).ren he hz⟩

def CellsOk (w0 : World) (B : Nat) (e : Emb) (cs : List V) (vs : List Value) : Prop := RepL w0 B e cs vs ∧ ∀ v ∈ vs, one v = true
theorem CellsOk.mono {w0 : World} {B : Nat} {e e1 : Emb} {a : List V} {v : List Value} (h : CellsOk w0 B e a v) (he : ∀ id eb, e id = some eb → e1 id = some eb) (hz : ∀ b o, e.frz b = some o → e1.frz b = some o := by exact fun _ _ h => h) : CellsOk w0 B e1 a v := ⟨h.1.mono he hz, h.2⟩
theorem CellsOk.append {w0 B e a a' b b'} (h : CellsOk w0 B e a a') (k : CellsOk w0 B e b b') : CellsOk w0 B e (a ++ b) (a' ++ b') :=
  ⟨h.1.append k.1, fun v hv => (List.mem_append.1 hv).elim (h.2 v) (k.2 v)⟩
theorem CellsOk.take {w0 B e a a'} (h : CellsOk w0 B e a a') (n : Nat) : CellsOk w0 B e (a.take n) (a'.take n) := ⟨h.1.take n, fun v hv => h.2 v (List.mem_of_mem_take hv)⟩
theorem CellsOk.drop {w0 B e a a'} (h : CellsOk w0 B e a a') (n : Nat) : CellsOk w0 B e (a.drop n) (a'.drop n) := ⟨h.1.drop n, fun v hv => h.2 v (List.mem_of_mem_drop hv)⟩
theorem CellsOk.nil (w0 B e) : CellsOk w0 B e [] [] := ⟨RepL.nil _ _ _, fun v hv => by simp at hv⟩

/-- The cells of a real row that a block shows. -/
def seg (c : Array Value) (base n : Nat) : List Value := (c.toList.drop base).take n

theorem one_splice {c : Array Value} {vs : List Value} {a b : Nat} (h : ∀ v ∈ c.toList, one v = true) (h2 : ∀ v ∈ vs, one v = true) : ∀ v ∈ (⟨c.toList.take a ++ vs ++ c.toList.drop b⟩ : Array Value).toList, one v = true := fun v hv => by
  rcases List.mem_append.1 hv with hv | hv
  · rcases List.mem_append.1 hv with hv | hv
    · exact h v (List.mem_of_mem_take hv)
    · exact h2 v hv
  · exact h v (List.mem_of_mem_drop hv)
def BlkOk (w0 : World) (B : Nat) (e : Emb) : Blk → EB → Obj → Prop
  | .cells cs ex, eb, .cells c _ fr => eb.size ≤ c.size ∧ eb.base + cs.length ≤ eb.size ∧ (ex = true → eb.base + cs.length = eb.size) ∧
      ((∀ j, j ≤ c.size → (decide (fr.1 ≤ j) && decide (j < fr.2)) = false) ∧ ∀ v ∈ c.toList, one v = true) ∧ CellsOk w0 B e cs (seg c eb.base cs.length)
  | .map es clock, _, .map ces cl => cl = clock ∧ es.length = ces.toList.length ∧
      ∀ j (h : j < es.length) (h' : j < ces.toList.length), Rep w0 B e (es[j]'h).1 (ces.toList[j]'h').key ∧ Rep w0 B e (es[j]'h).2.1 (ces.toList[j]'h').val ∧ (es[j]'h).2.2 = (ces.toList[j]'h').born
  | .siter s p, eb, .stringIter s' p' => s = s' ∧ p = p' ∧ eb.base = 0
  | _, _, _ => False

theorem BlkOk.mono {w0 : World} {B : Nat} {e e1 : Emb} (he : ∀ id eb, e id = some eb → e1 id = some eb) {k : Blk} {eb : EB} {o : Obj} (h : BlkOk w0 B e k eb o) (hz : ∀ b o, e.frz b = some o → e1.frz b = some o := by exact fun _ _ h => h) : BlkOk w0 B e1 k eb o := by
  cases k <;> cases o <;> simp only [BlkOk] at h ⊢
  · exact ⟨h.1, h.2.1, h.2.2.1, h.2.2.2.1, h.2.2.2.2.mono he hz⟩
  · exact ⟨h.1, h.2.1, fun j h1 h2 => ⟨(h.2.2 j h1 h2).1.mono he hz, (h.2.2 j h1 h2).2.1.mono he hz, (h.2.2 j h1 h2).2.2⟩⟩
  · exact h
theorem BlkOk.ren {w0 : World} {B : Nat} {e e1 : Emb} {ρ : Nat → Option Nat} (he : ∀ id j eb, ρ id = some j → e id = some eb → e1 j = some eb) {k : Blk} {eb : EB} {o : Obj} (h : BlkOk w0 B e k eb o) (hz : ∀ b o, e.frz b = some o → e1.frz b = some o := by exact fun _ _ h => h) :
    BlkOk w0 B e1 (k.ren ρ) eb o := by
  cases k <;> cases o <;> simp only [BlkOk, Blk.ren] at h ⊢
  · rw [renL_eq]
    simp only [List.length_map]
    exact ⟨h.1, h.2.1, h.2.2.1, h.2.2.2.1, h.2.2.2.2.1.ren he hz, h.2.2.2.2.2⟩
  · refine ⟨h.1, by simpa using h.2.1, fun j h1 h2 => ?_⟩
    have := h.2.2 j (by simpa using h1) h2
    simp only [List.getElem_map]
    exact ⟨this.1.ren he hz, this.2.1.ren he hz, this.2.2⟩
  · exact h

structure HS (w0 : World) (B : Nat) (e : Emb) (H : Heap) (w : World) : Prop where
  old : ∀ b, b < B → w.heap[b]? = w0.heap[b]?
  szB : B ≤ w.heap.size
  dom : ∀ id eb, e id = some eb → id < H.length ∧ B ≤ eb.b ∧ eb.b < w.heap.size
  live : ∀ id k, H[id]? = some (some k) → ∃ eb o, e id = some eb ∧ w.heap[eb.b]? = some o ∧ BlkOk w0 B e k eb o
  inj : ∀ i j bi bj ei ej, H[i]? = some (some bi) → H[j]? = some (some bj) → e i = some ei → e j = some ej → ei.b = ej.b → i = j
  frz : ∀ b o, e.frz b = some o → w.heap[b]? = some o
  frl : ∀ id k eb, H[id]? = some (some k) → e id = some eb → e.frz eb.b = none

/-- What a step may do. -/
structure Stp (w0 : World) (B : Nat) (e : Emb) (H : Heap) (w : World) (e' : Emb) (H' : Heap) (w' : World) : Prop where
  hs : HS w0 B e' H' w'
  ext : ∀ id, id < H.length → e' id = e id
  len : H.length ≤ H'.length
  alive : ∀ id b, id < H.length → H'[id]? = some (some b) → ∃ b', H[id]? = some (some b')
  new : ∀ id eb, H.length ≤ id → e' id = some eb → w.heap.size ≤ eb.b ∨ ∃ i bi ei, H[i]? = some (some bi) ∧ e i = some ei ∧ ei.b = eb.b
  frame : ∀ b, b < w.heap.size → (∀ i bi ei, H[i]? = some (some bi) → e i = some ei → ei.b ≠ b) → w'.heap[b]? = w.heap[b]?
  size : w.heap.size ≤ w'.heap.size
  os : w'.os = w.os
  tape : w'.tape = w.tape
  output : w'.output = w.output
  fup : ∀ b o, e.frz b = some o → e'.frz b = some o
  fnew : ∀ b o, e'.frz b = some o → e.frz b = some o ∨ w.heap.size ≤ b ∨ ∃ i bi ei, H[i]? = some (some bi) ∧ e i = some ei ∧ ei.b = b
  drawn : w0.drawn = 0 → w.drawn ≤ w'.drawn

/-- What is known stands in the heap. -/
theorem HS.known {w0 B e H w} (h : HS w0 B e H w) : ∀ b o, known w0 B e b = some o → w.heap[b]? = some o := fun b o hk => by
  unfold Go.Ev.known at hk
  split at hk
  · rename_i hb; rw [h.old b hb]; exact hk
  · exact h.frz b o hk
theorem HS.kcell {w0 B e H w} (h : HS w0 B e H w) {b o : Nat} {v : Value} (hk : kcell w0 B e b o = some v) : w.cell? ⟨b, o, none⟩ = some v := by
  unfold Go.Ev.kcell at hk
  cases hb : Go.Ev.known w0 B e b with
  | none => rw [hb] at hk; cases hk
  | some x =>
    rw [hb] at hk
    unfold World.cell?
    rw [h.known _ _ hb]
    cases x <;> first | (cases hk; done) | exact hk
theorem HS.frzlt {w0 B e H w} (h : HS w0 B e H w) {b : Nat} {o : Obj} (hk : e.frz b = some o) : b < w.heap.size := (Array.getElem?_eq_some_iff.1 (h.frz b o hk)).1

theorem Stp.refl {w0 B e H w} (h : HS w0 B e H w) : Stp w0 B e H w e H w :=
  ⟨h, fun _ _ => rfl, Nat.le_refl _, fun _ b _ hb => ⟨b, hb⟩, fun id eb hi he => absurd (h.dom id eb he).1 (by omega), fun _ _ _ => rfl, Nat.le_refl _, rfl, rfl, rfl, fun _ _ h => h, fun _ _ h => .inl h, fun _ => Nat.le_refl _⟩
theorem HS.ge {w0 B e H w} (h : HS w0 B e H w) {id : Nat} {eb : EB} (he : e id = some eb) : id < H.length := (h.dom id eb he).1
theorem Stp.up {w0 B e H w e' H' w'} (h : Stp w0 B e H w e' H' w') (h0 : HS w0 B e H w) : ∀ id eb, e id = some eb → e' id = some eb :=
  fun id eb he => by rw [h.ext id (h0.ge he)]; exact he
theorem Stp.trans {w0 B e H w e1 H1 w1 e2 H2 w2} (h : Stp w0 B e H w e1 H1 w1) (k : Stp w0 B e1 H1 w1 e2 H2 w2) : Stp w0 B e H w e2 H2 w2 := by
  refine ⟨k.hs, fun id hi => ?_, Nat.le_trans h.len k.len, fun id b hi hb => ?_, fun id eb hi he => ?_, fun b hb hn => ?_, Nat.le_trans h.size k.size, by rw [k.os, h.os], by rw [k.tape, h.tape], by rw [k.output, h.output], fun b o hb => k.fup b o (h.fup b o hb), fun b o hb => ?_, fun h0 => Nat.le_trans (h.drawn h0) (k.drawn h0)⟩
  · rw [k.ext id (by have := h.len; omega), h.ext id hi]
  · obtain ⟨b', hb'⟩ := k.alive id b (by have := h.len; omega) hb
    exact h.alive id b' hi hb'
  · rcases Nat.lt_or_ge id H1.length with hlt | hge
    · rw [k.ext id hlt] at he
      exact h.new id eb hi he
    · rcases k.new id eb hge he with hn | ⟨i, bi, ei, h1, h2, h3⟩
      · left; have := h.size; omega
      · rcases Nat.lt_or_ge i H.length with hl | hg
        · obtain ⟨bi', hbi'⟩ := h.alive i bi hl h1
          right
          exact ⟨i, bi', ei, hbi', by rw [← h.ext i hl]; exact h2, h3⟩
        · rcases h.new i ei hg h2 with hn | ⟨i', bi', ei', a, b, c⟩
          · left; omega
          · right; exact ⟨i', bi', ei', a, b, by omega⟩
  · have h1 := h.frame b hb hn
    rw [← h1]
    refine k.frame b (by have := h.size; omega) fun i bi ei hbi hei => ?_
    rcases Nat.lt_or_ge i H.length with hl | hg
    · obtain ⟨bi', hbi'⟩ := h.alive i bi hl hbi
      exact hn i bi' ei hbi' (by rw [← h.ext i hl]; exact hei)
    · rcases h.new i ei hg hei with hx | ⟨i', bi', ei', x, y, z⟩
      · omega
      · have := hn i' bi' ei' x y; omega
  · rcases k.fnew b o hb with h1 | h1 | ⟨i, bi, ei, h1, h2, h3⟩
    · exact h.fnew b o h1
    · right; left; have := h.size; omega
    · right
      rcases Nat.lt_or_ge i H.length with hl | hg
      · obtain ⟨bi', hbi'⟩ := h.alive i bi hl h1
        right
        exact ⟨i, bi', ei, hbi', by rw [← h.ext i hl]; exact h2, h3⟩
      · rcases h.new i ei hg h2 with hn | ⟨i', bi', ei', a, b, c⟩
        · left; omega
        · right; exact ⟨i', bi', ei', a, b, by omega⟩

theorem HS.same {w0 B e H w w'} (h : HS w0 B e H w) (hh : w'.heap = w.heap) : HS w0 B e H w' :=
  ⟨by rw [hh]; exact h.old, by rw [hh]; exact h.szB, by rw [hh]; exact h.dom, by rw [hh]; exact h.live, h.inj, by rw [hh]; exact h.frz, h.frl⟩
theorem Stp.same {w0 B e H w w'} (h : HS w0 B e H w) (hh : w'.heap = w.heap) (ho : w'.os = w.os) (ht : w'.tape = w.tape) (hp : w'.output = w.output) (hdr : w.drawn ≤ w'.drawn := by first | exact Nat.le_refl _ | exact Nat.le_succ _) : Stp w0 B e H w e H w' :=
  ⟨h.same hh, fun _ _ => rfl, Nat.le_refl _, fun _ b _ hb => ⟨b, hb⟩, fun id eb hi he => absurd (h.dom id eb he).1 (by omega), fun _ _ _ => by rw [hh], by rw [hh]; exact Nat.le_refl _, ho, ht, hp, fun _ _ h => h, fun _ _ h => .inl h, fun _ => hdr⟩

/-- A new name. -/
def Emb.put (e : Emb) (id : Nat) (eb : EB) : Emb := ⟨fun i => if i = id then some eb else e i, e.frz⟩

theorem HS.put_up {w0 B e H w} (h : HS w0 B e H w) (eb : EB) : ∀ id x, e id = some x → (Emb.put e H.length eb) id = some x := fun id x hx => by
  have := h.ge hx
  simp only [Emb.put]
  rw [if_neg (by omega)]
  exact hx

/-- A new block. -/
theorem Stp.alloc {w0 B e H w} (h : HS w0 B e H w) (k : Blk) (eb : EB) (o : Obj) (hb : eb.b = w.heap.size) (hk : BlkOk w0 B (Emb.put e H.length eb) k eb o) {w' : World} (hw : w'.heap = w.heap.push o)
    (ho : w'.os = w.os) (ht : w'.tape = w.tape) (hp : w'.output = w.output) (hdr : w.drawn ≤ w'.drawn := by first | exact Nat.le_refl _ | exact Nat.le_succ _) :
    Stp w0 B e H w (Emb.put e H.length eb) (H ++ [some k]) w' := by
  have hsz := h.szB
  have hget : ∀ b, b < w.heap.size → w'.heap[b]? = w.heap[b]? := fun b hb => by rw [hw, Array.getElem?_push]; rw [if_neg (by omega)]
  have hsize : w'.heap.size = w.heap.size + 1 := by rw [hw, Array.size_push]
  refine ⟨⟨fun b hb' => ?_, by omega, fun id x hx => ?_, fun id k' hk' => ?_, fun i j bi bj ei ej hi hj h1 h2 h3 => ?_, fun b o hb => by rw [hget b (h.frzlt hb)]; exact h.frz b o hb, fun id k' x hk' hx => ?_⟩, fun id hi => ?_, by simp, fun id b hi hb' => ?_, fun id x hi hx => ?_, fun b hb' _ => hget b hb', by omega, ho, ht, hp, fun _ _ h => h, fun _ _ h => .inl h, fun _ => hdr⟩
  · rw [hget b (by omega)]; exact h.old b hb'
  · simp only [Emb.put] at hx
    split at hx
    · cases hx; simp; omega
    · have := h.dom id x hx; simp; omega
  · rcases Nat.lt_or_ge id H.length with hl | hg
    · rw [List.getElem?_append_left hl] at hk'
      obtain ⟨x, o', hx, ho', hok⟩ := h.live id k' hk'
      exact ⟨x, o', h.put_up eb _ _ hx, by rw [hget _ (h.dom id x hx).2.2]; exact ho', hok.mono (h.put_up eb)⟩
    · rw [List.getElem?_append_right hg] at hk'
      have h0 : id - H.length = 0 := by
        rcases Nat.eq_zero_or_pos (id - H.length) with h0 | h0
        · exact h0
        · rw [List.getElem?_eq_none (by simp; omega)] at hk'; cases hk'
      rw [h0] at hk'
      have hid : id = H.length := by omega
      subst hid
      simp at hk'
      subst hk'
      exact ⟨eb, o, by simp [Emb.put], by rw [hw, hb]; simp, hk⟩
  · have low : ∀ i bi ei, (H ++ [some k])[i]? = some (some bi) → (Emb.put e H.length eb) i = some ei → (i < H.length ∧ H[i]? = some (some bi) ∧ e i = some ei ∧ ei.b < w.heap.size) ∨ (i = H.length ∧ ei.b = w.heap.size) := by
      intro i bi ei hi he
      simp only [Emb.put] at he
      split at he
      · right; cases he; exact ⟨by assumption, hb⟩
      · left
        have hd := h.dom i ei he
        rw [List.getElem?_append_left hd.1] at hi
        exact ⟨hd.1, hi, he, hd.2.2⟩
    rcases low i bi ei hi h1 with ⟨a1, a2, a3, a4⟩ | ⟨a1, a2⟩ <;> rcases low j bj ej hj h2 with ⟨b1, b2, b3, b4⟩ | ⟨b1, b2⟩
    · exact h.inj i j bi bj ei ej a2 b2 a3 b3 h3
    · omega
    · omega
    · omega
  · show e.frz x.b = none
    simp only [Emb.put] at hx
    split at hx
    · cases hx
      cases hz : e.frz eb.b with
      | none => rfl
      | some o => have := h.frzlt hz; omega
    · have hlt := h.ge hx
      rw [List.getElem?_append_left hlt] at hk'
      exact h.frl id k' x hk' hx
  · simp only [Emb.put]; rw [if_neg (by omega)]
  · rw [List.getElem?_append_left hi] at hb'; exact ⟨b, hb'⟩
  · simp only [Emb.put] at hx
    split at hx
    · cases hx; left; omega
    · have := h.dom id x hx; omega

/-- A new block that will never turn again. -/
theorem Stp.frzNew {w0 B e H w} (h : HS w0 B e H w) (o : Obj) {w' : World} (hw : w'.heap = w.heap.push o) (ho : w'.os = w.os) (ht : w'.tape = w.tape) (hp : w'.output = w.output) (hdr : w.drawn ≤ w'.drawn := by first | exact Nat.le_refl _ | exact Nat.le_succ _) :
    Stp w0 B e H w ⟨e.loc, fun b => if b = w.heap.size then some o else e.frz b⟩ H w' := by
  have hsz := h.szB
  have hget : ∀ b, b < w.heap.size → w'.heap[b]? = w.heap[b]? := fun b hb => by rw [hw, Array.getElem?_push]; rw [if_neg (by omega)]
  have hsize : w'.heap.size = w.heap.size + 1 := by rw [hw, Array.size_push]
  have hz : ∀ b x, e.frz b = some x → (if b = w.heap.size then some o else e.frz b) = some x := fun b x hb => by
    have := h.frzlt hb
    rw [if_neg (by omega)]; exact hb
  refine ⟨⟨fun b hb' => by rw [hget b (by omega)]; exact h.old b hb', by omega, fun id x hx => by have := h.dom id x hx; omega, fun id k' hk' => ?_, h.inj, fun b x hb => ?_, fun id k x hk hx => ?_⟩,
    fun _ _ => rfl, Nat.le_refl _, fun id b _ hb => ⟨b, hb⟩, fun id eb hi he => absurd (h.ge he) (by omega), fun b hb _ => hget b hb, by omega, ho, ht, hp, hz, fun b x hb => ?_, fun _ => hdr⟩
  · obtain ⟨x, o', hx, ho', hok⟩ := h.live id k' hk'
    exact ⟨x, o', hx, by rw [hget _ (h.dom id x hx).2.2]; exact ho', BlkOk.mono (e := e) (e1 := ⟨e.loc, fun b => if b = w.heap.size then some o else e.frz b⟩) (fun _ _ h => h) hok hz⟩
  · simp only at hb
    split at hb
    · rename_i hbe; cases hb; subst hbe; rw [hw]; simp
    · rw [hget b (h.frzlt hb)]; exact h.frz b x hb
  · have := h.dom id x hx
    show (if x.b = w.heap.size then some o else e.frz x.b) = none
    rw [if_neg (by omega)]; exact h.frl id k x hk hx
  · simp only at hb
    split at hb
    · right; left; omega
    · left; exact hb

/-- A block written in place. -/
theorem Stp.write {w0 B e H w} (h : HS w0 B e H w) {id : Nat} {k0 : Blk} (hid : H[id]? = some (some k0)) {eb : EB} (he : e id = some eb) (k : Blk) (o : Obj) (hk : BlkOk w0 B e k eb o)
    {w' : World} (hw : w'.heap = w.heap.setIfInBounds eb.b o) (ho : w'.os = w.os) (ht : w'.tape = w.tape) (hp : w'.output = w.output) (hdr : w.drawn ≤ w'.drawn := by first | exact Nat.le_refl _ | exact Nat.le_succ _) :
    Stp w0 B e H w e (H.set id (some k)) w' := by
  have hd := h.dom id eb he
  have hget : ∀ b, b ≠ eb.b → w'.heap[b]? = w.heap[b]? := fun b hb => by rw [hw, Array.getElem?_setIfInBounds_ne (Ne.symm hb)]
  have hsize : w'.heap.size = w.heap.size := by rw [hw, Array.size_setIfInBounds]
  have hlive : ∀ i bi, (H.set id (some k))[i]? = some (some bi) → ∃ bi', H[i]? = some (some bi') := fun i bi hi => by
    rw [List.getElem?_set] at hi
    split at hi
    · rename_i hii; subst hii; exact ⟨k0, hid⟩
    · exact ⟨bi, hi⟩
  refine ⟨⟨fun b hb => ?_, by rw [hsize]; exact h.szB, fun i x hx => by rw [hsize, List.length_set]; exact h.dom i x hx, fun i k' hk' => ?_, fun i j bi bj ei ej hi hj h1 h2 h3 => ?_, fun b o hb => by rw [hget b fun hbe => by have := h.frl id k0 eb hid he; rw [← hbe, hb] at this; cases this]; exact h.frz b o hb, fun i k' x hk' hx => by obtain ⟨b', hb'⟩ := hlive i k' hk'; exact h.frl i b' x hb' hx⟩, fun _ _ => rfl, by simp, fun i b hi hb => hlive i b hb, fun i x hi hx => absurd (h.ge hx) (by omega), fun b hb hn => hget b fun hbe => ?_, by omega, ho, ht, hp, fun _ _ h => h, fun _ _ h => .inl h, fun _ => hdr⟩
  · rw [hget b (by omega)]; exact h.old b hb
  · rw [List.getElem?_set] at hk'
    split at hk'
    · rename_i hii
      subst hii
      split at hk'
      · cases hk'
        refine ⟨eb, o, he, ?_, hk⟩
        rw [hw, Array.getElem?_setIfInBounds_self, if_pos hd.2.2]
      · cases hk'
    · rename_i hne
      obtain ⟨x, o', hx, ho', hok⟩ := h.live i k' hk'
      refine ⟨x, o', hx, ?_, hok⟩
      rw [hget x.b fun hb => hne (h.inj id i k0 k' eb x hid hk' he hx hb.symm)]
      exact ho'
  · obtain ⟨bi', hi'⟩ := hlive i bi hi
    obtain ⟨bj', hj'⟩ := hlive j bj hj
    exact h.inj i j bi' bj' ei ej hi' hj' h1 h2 h3
  · exact hn id k0 eb hid he hbe.symm

/-- A block forgotten. -/
theorem Stp.kill {w0 B e H w} (h : HS w0 B e H w) (id : Nat) : Stp w0 B e H w e (H.set id none) w := by
  have hlive : ∀ i bi, (H.set id none)[i]? = some (some bi) → H[i]? = some (some bi) := fun i bi hi => by
    rw [List.getElem?_set] at hi
    split at hi
    · split at hi <;> cases hi
    · exact hi
  refine ⟨⟨h.old, h.szB, fun i x hx => by rw [List.length_set]; exact h.dom i x hx, fun i k' hk' => h.live i k' (hlive i k' hk'), fun i j bi bj ei ej hi hj h1 h2 h3 => h.inj i j bi bj ei ej (hlive _ _ hi) (hlive _ _ hj) h1 h2 h3, h.frz, fun i k' x hk' hx => h.frl i k' x (hlive i k' hk') hx⟩, fun _ _ => rfl, by simp, fun i b _ hb => ⟨b, hlive i b hb⟩, fun i x hi hx => absurd (h.ge hx) (by omega), fun _ _ _ => rfl, Nat.le_refl _, rfl, rfl, rfl, fun _ _ h => h, fun _ _ h => .inl h, fun _ => Nat.le_refl _⟩
end Go.Ev

/-
  EACH OPERATION THAT CALLS NOTHING DOES WHAT THE EVALUATOR SAYS, first part (own work).
-/
set_option linter.unusedSimpArgs false
set_option linter.unusedVariables false
namespace Go.Ev
open Go

section
variable {P : Program} {w0 : World} {B : Nat} {e : Emb} {H : Heap} {w : World}

mutual
theorem ofConst_ok : ∀ (v : Value) (x : V), ofConst v = some x → Rep w0 B e x v
  | .bool b, x, h => by simp only [ofConst, Option.some.injEq] at h; subst h; constructor
  | .int k n, x, h => by simp only [ofConst, Option.some.injEq] at h; subst h; constructor
  | .string s, x, h => by simp only [ofConst, Option.some.injEq] at h; subst h; constructor
  | .pointer none, x, h => by simp only [ofConst, Option.some.injEq] at h; subst h; constructor
  | .pointer (some a), x, h => by simp [ofConst] at h
  | .slice none 0 0, x, h => by simp only [ofConst, Option.some.injEq] at h; subst h; constructor
  | .slice none 0 (c + 1), x, h => by simp [ofConst] at h
  | .slice none (l + 1) c, x, h => by simp [ofConst] at h
  | .slice (some a) l c, x, h => by simp [ofConst] at h
  | .map none, x, h => by simp only [ofConst, Option.some.injEq] at h; subst h; constructor
  | .map (some r), x, h => by simp [ofConst] at h
  | .nilFunc, x, h => by simp only [ofConst, Option.some.injEq] at h; subst h; constructor
  | .nilIface, x, h => by simp only [ofConst, Option.some.injEq] at h; subst h; constructor
  | .agg ⟨cs⟩, x, h => by
    simp only [ofConst] at h
    split at h
    · rename_i h1
      obtain ⟨l, hl, rfl⟩ := Option.map_eq_some_iff.1 h
      have hr := ofConstL_ok cs l hl
      exact .agg _ _ _ hr.1 (fun v hv => by
        simp only [List.all_eq_true, Array.all_eq_true_iff_forall_mem, List.mem_toArray] at h1
        exact h1 v (by simpa using hv)) hr.2
    · cases h
  | .tuple ⟨cs⟩, x, h => by
    simp only [ofConst] at h
    obtain ⟨l, hl, rfl⟩ := Option.map_eq_some_iff.1 h
    have hr := ofConstL_ok cs l hl
    exact .tup _ _ _ hr.1 hr.2
  | .float _ _, x, h => by simp [ofConst] at h
  | .complex _ _ _, x, h => by simp [ofConst] at h
  | .chan _, x, h => by simp [ofConst] at h
  | .func _ _ _, x, h => by simp [ofConst] at h
  | .iface _ _, x, h => by simp [ofConst] at h
theorem ofConstL_ok : ∀ (cs : List Value) (l : List V), ofConstL cs = some l → RepL w0 B e l cs
  | [], l, h => by simp only [ofConstL, Option.some.injEq] at h; subst h; exact RepL.nil _ _ _
  | v :: cs, l, h => by
    simp only [ofConstL] at h
    split at h
    · rename_i a b ha hb
      cases h
      exact RepL.cons (ofConst_ok v a ha) (ofConstL_ok cs b hb)
    · cases h
end

theorem undef_ok : Rep w0 B e V.undef undef := .tup _ [] [] rfl (fun j h => by simp at h)

def GlobMem (Γ : Env) (w0 : World) (B : Nat) : Prop := ∀ g cs, Γ.glob g = some cs → Rep w0 B emp (.ro cs) (.pointer (some ⟨g, 0, none⟩)) ∧ g < B ∧ ∃ c el fr, w0.heap[g]? = some (.cells c el fr) ∧ c.size = cs.length
/-- Listed variables hold what is told; where the base world's count of draws is zero, draws are counted up. -/
def GlobOk (Γ : Env) (w0 : World) (B : Nat) : Prop := (w0.drawn = 0 → Γ.mono = true) ∧ GlobMem Γ w0 B
/-- The base world's other parts don't matter. -/
theorem Rep.rebase {w0 w1 : World} {B : Nat} {e : Emb} {a : V} {v : Value} (hh : w1.heap = w0.heap) (h : Rep w0 B e a v) : Rep w1 B e a v := by
  have := Rep.sub (w1 := w1) (B1 := B) (e1 := e) (hp := fun id off => .ptr id off) (hs := fun id off len sz => .sl id off len sz) (hm := fun id => .map id) (fun b o hk => by unfold known at hk ⊢; rw [hh]; exact hk)
    (fun id off v hv => by cases hv with | ptr _ _ _ eb h => exact .ptr _ _ _ _ h)
    (fun id off len sz v hv => by cases hv with | sl _ _ _ _ _ _ eb o h h2 h3 h4 h5 => exact .sl _ _ _ _ _ _ _ _ h h2 h3 h4 h5)
    (fun id v hv => by cases hv with | map _ _ eb h => exact .map _ _ _ h) h
  rwa [V.sub_self] at this
theorem RepL.rebase {w0 w1 : World} {B : Nat} {e : Emb} {a : List V} {v : List Value} (hh : w1.heap = w0.heap) (h : RepL w0 B e a v) : RepL w1 B e a v :=
  ⟨h.1, fun j h1 h2 => (h.2 j h1 h2).rebase hh⟩

theorem getS_ok {s : List V} {t : List Value} (h : RepL w0 B e s t) (i : Nat) : Rep w0 B e (getS s i) ((⟨t⟩ : Array Value).getD i undef) := by
  unfold getS
  rcases Nat.lt_or_ge i s.length with hi | hi
  · rw [List.getD_eq_getElem?_getD, List.getElem?_eq_getElem hi]
    have hi' : i < t.length := h.1 ▸ hi
    have : (⟨t⟩ : Array Value).getD i undef = t[i] := by simp [Array.getD, hi']
    rw [this]
    exact h.2 i hi hi'
  · rw [List.getD_eq_getElem?_getD, List.getElem?_eq_none hi]
    exact .junk _ _

theorem evOperand_ok {Γ : Env} (hg : GlobOk Γ w0 B) {s : List V} {a : Act} (h : RepL w0 B e s a.tmps.toList) (x : Operand) : Rep w0 B e (evOperand Γ s x) (a.eval x) := by
  cases x with
  | tmp t => exact getS_ok h t
  | const v =>
    simp only [evOperand, Act.eval]
    cases hv : ofConst v with
    | none => exact .junk _ _
    | some x => exact ofConst_ok v x hv
  | global g =>
    simp only [evOperand, Act.eval]
    cases hv : Γ.glob g with
    | none => exact .junk _ _
    | some cs => exact (hg.2 g cs hv).1.mono (fun id eb h => by cases h) (fun b o h => by cases h)
  | func f => exact .fn _ _ [] [] [] [] rfl rfl (fun j h => by simp at h) (fun j h => by simp at h)

theorem cells_ok {x : V} {v : Value} {cs : List V} (h : Rep w0 B e x v) (hc : x.cellsO = some cs) : CellsOk w0 B e cs v.cells.toList := by
  have single : ∀ {x : V} {v : Value}, Rep w0 B e x v → one v = true → v.cells = #[v] → CellsOk w0 B e [x] v.cells.toList := by
    intro x v h h1 h2
    rw [h2]
    exact ⟨RepL.cons h (RepL.nil _ _ _), fun u hu => by simp at hu; rw [hu]; exact h1⟩
  cases h with
  | agg _ a a' ha h1 har =>
    simp only [V.cellsO, Option.some.injEq] at hc
    subst hc
    exact ⟨⟨ha, har⟩, h1⟩
  | tup => simp [V.cellsO] at hc
  | junk => simp [V.cellsO] at hc
  | bool _ b => cases hc; exact single (.bool _ _) rfl rfl
  | int _ k n => cases hc; exact single (.int _ _ _) rfl rfl
  | str => cases hc; exact single (.str _ _) rfl rfl
  | nilp => cases hc; exact single (.nilp _) rfl rfl
  | ptr _ id off eb h => cases hc; exact single (.ptr _ _ _ _ h) rfl rfl
  | ro _ cs b o f hcc h1 hr => cases hc; exact single (.ro _ _ _ _ _ hcc h1 hr) rfl rfl
  | nils => cases hc; exact single (.nils _) rfl rfl
  | sl _ id off len sz cap eb o h h2 h3 h4 h5 => cases hc; exact single (.sl _ _ _ _ _ _ _ _ h h2 h3 h4 h5) rfl rfl
  | ros _ len cs b o cap f hl hcc h1 hr => cases hc; exact single (.ros _ _ _ _ _ _ _ hl hcc h1 hr) rfl rfl
  | rose _ a => cases hc; exact single (.rose _ _) rfl rfl
  | nilm => cases hc; exact single (.nilm _) rfl rfl
  | map _ id eb h => cases hc; exact single (.map _ _ _ h) rfl rfl
  | rom _ ks vs r clock es hm hk hv hkr hvr => cases hc; exact single (.rom _ _ _ _ _ _ hm hk hv hkr hvr) rfl rfl
  | fn _ f a b a' b' ha hb har hbr => cases hc; exact single (.fn _ _ _ _ _ _ ha hb har hbr) rfl rfl
  | nilf => cases hc; exact single (.nilf _) rfl rfl
  | iface _ t v v' h => cases hc; exact single (.iface _ _ _ _ h) rfl rfl
  | nili => cases hc; exact single (.nili _) rfl rfl

/-! ### What the model's small words come to -/
theorem info_of_tsz {t : TypeId} {n : Nat} (h : tsz P t = some n) : ∃ i, P.info? t = some i ∧ i.size = n := by
  unfold tsz at h
  obtain ⟨i, hi, rfl⟩ := Option.map_eq_some_iff.1 h
  exact ⟨i, hi, rfl⟩
theorem info_of_tbytes {t : TypeId} {n : Nat} (h : tbytes P t = some n) : ∃ i, P.info? t = some i ∧ i.bytes = n := by
  unfold tbytes at h
  obtain ⟨i, hi, rfl⟩ := Option.map_eq_some_iff.1 h
  exact ⟨i, hi, rfl⟩
theorem rsizeOf {t : TypeId} {n : Nat} (h : tsz P t = some n) (w : World) : (sizeOf t).run P w = .ok n w := by
  obtain ⟨i, hi, rfl⟩ := info_of_tsz h
  simp [sizeOf, typeInfo, hi]
theorem rtypeInfo {t : TypeId} {i : TypeInfo} (h : P.info? t = some i) (w : World) : (typeInfo t).run P w = .ok i w := by simp [typeInfo, h]
theorem runder {t : TypeId} {d : TypeDesc} (h : P.underlying t = some d) (w : World) : (underlying t).run P w = .ok d w := by simp [underlying, h]
theorem risAgg {t : TypeId} {b : Bool} (h : tagg P t = some b) (w : World) : (isAgg t).run P w = .ok b w := by
  unfold tagg at h
  split at h <;> rename_i hu <;> simp only [Option.some.injEq, reduceCtorEq] at h
  · subst h; simp [isAgg, runder hu]
  · subst h; simp [isAgg, runder hu]
  · subst h
    rename_i d hn1 hn2
    simp only [isAgg, Sem.run_bind, runder hu, Result.andThen_ok]
    cases d <;> first | rfl | (exact absurd rfl (hn1 _)) | (exact absurd rfl (hn2 _ _))
theorem rzero {t : TypeId} {x : V} (h : tzero P t = some x) : ∃ z, (∀ w, (zeroValue t).run P w = .ok z w) ∧ (∀ w0 B e, Rep w0 B e x z) ∧ ∃ i, P.info? t = some i ∧ i.zero = some z := by
  unfold tzero at h
  obtain ⟨i, hi, hz⟩ := Option.bind_eq_some_iff.1 h
  obtain ⟨z, hz1, hz2⟩ := Option.bind_eq_some_iff.1 hz
  exact ⟨z, fun w => by simp [zeroValue, typeInfo, hi, hz1], fun w0 B e => ofConst_ok z x hz2, i, hi, hz1⟩
theorem add_plain (b o j : Nat) : (⟨b, o, none⟩ : Addr).add j = ⟨b, o + j, none⟩ := by unfold Addr.add; split <;> simp_all

/-! ### Cells behind a pointer -/
theorem seg_get {c : Array Value} {base n j : Nat} {v : Value} (h : (seg c base n)[j]? = some v) : c[base + j]? = some v := by
  unfold seg at h
  rw [List.getElem?_take] at h
  split at h
  · rw [List.getElem?_drop] at h; simpa using h
  · cases h
theorem cellsAt_ok (hs : HS w0 B e H w) {a : V} {v : Value} {cs : List V} (h : Rep w0 B e a v) (hc : cellsAt H a = some cs) :
    ∃ b o vs, v = .pointer (some ⟨b, o, none⟩) ∧ CellsOk w0 B e cs vs ∧ ∀ j x, vs[j]? = some x → w.cell? ⟨b, o + j, none⟩ = some x := by
  cases h with
  | ptr _ id off eb h =>
    simp only [cellsAt] at hc
    split at hc
    · rename_i cs0 ex hid
      cases hc
      obtain ⟨eb', o', he', ho', hok⟩ := hs.live id _ hid
      rw [h] at he'; cases he'
      cases o' <;> simp only [BlkOk] at hok
      rename_i c el fr
      refine ⟨eb.b, eb.base + off, (seg c eb.base cs0.length).drop off, rfl, hok.2.2.2.2.drop off, fun j x hx => ?_⟩
      rw [List.getElem?_drop] at hx
      have := seg_get hx
      simp only [World.cell?, ho']
      simpa [Nat.add_assoc] using this
    · cases hc
  | ro _ cs b o f hcc h1 hr =>
    simp only [cellsAt, Option.some.injEq] at hc
    subst hc
    refine ⟨b, o, (List.range cs.length).map f, rfl, ⟨⟨by simp, fun j h1 h2 => by simpa using (hr j h1).mono (fun id eb h => by cases h)⟩, fun v hv => ?_⟩, fun j x hx => ?_⟩
    · simp only [List.mem_map, List.mem_range] at hv
      obtain ⟨j, hj, rfl⟩ := hv
      exact h1 j hj
    · rw [List.getElem?_map] at hx
      rcases Nat.lt_or_ge j cs.length with hj | hj
      · simp [hj] at hx
        subst hx
        exact hs.kcell (hcc j hj)
      · simp [hj] at hx
  | _ => simp [cellsAt] at hc

theorem rload {t : TypeId} {cs : List V} {vs : List Value} {b o : Nat} {x : V} (hcs : CellsOk w0 B e cs vs) (hcell : ∀ j x, vs[j]? = some x → w.cell? ⟨b, o + j, none⟩ = some x)
    (hx : (match some cs, tagg P t, tsz P t with
      | some cs, some true, some n => if n ≤ cs.length then some (V.agg (cs.take n)) else none
      | some (c :: _), some false, _ => some c
      | _, _, _ => none) = some x) : ∃ v, (loadVar t ⟨b, o, none⟩).run P w = .ok v w ∧ Rep w0 B e x v := by
  split at hx
  · rename_i cs' n he1 ha hz
    cases he1
    split at hx
    · rename_i hn
      cases hx
      have hl : (vs.take n).length = n := by rw [List.length_take, ← hcs.1.1]; omega
      have hr := run_loadCells_list (P := P) w ⟨b, o, none⟩ (vs.take n) (fun j v hv => by
        rw [add_plain]
        rw [List.getElem?_take] at hv
        split at hv
        · exact hcell j v hv
        · cases hv)
      rw [hl] at hr
      refine ⟨.agg (vs.take n).toArray, ?_, ?_⟩
      · simp [loadVar, risAgg ha, rsizeOf hz, hr]
      · have ht := hcs.take n
        exact .agg _ _ _ ht.1.1 ht.2 ht.1.2
    · cases hx
  · rename_i c l _ he1 ha
    cases he1
    cases hx
    cases vs with
    | nil => have := hcs.1.1; simp at this
    | cons v vs =>
      refine ⟨v, ?_, hcs.1.head⟩
      have := hcell 0 v (by simp)
      simp only [Nat.add_zero] at this
      simp [loadVar, risAgg ha, run_load, this]
  · cases hx
end
end Go.Ev

/-
  EACH OPERATION THAT CALLS NOTHING DOES WHAT THE EVALUATOR SAYS, second part: memory (own work).
-/
set_option linter.unusedSimpArgs false
set_option linter.unusedVariables false
namespace Go.Ev
open Go

section
variable {P : Program} {w0 : World} {B : Nat} {e : Emb} {H : Heap} {w : World}

def OpOk (P : Program) (w0 : World) (B : Nat) (e : Emb) (H : Heap) (w : World) (m : Sem Next) (r : V × Heap) : Prop :=
  ∃ v' w' e', (m.run P w = .ok (.value v') w' ∨ (m.run P w = .ok .skip w' ∧ v' = undef)) ∧ Stp w0 B e H w e' r.2 w' ∧ Rep w0 B e' r.1 v'

/-- An operation that yields a value and leaves the world alone. -/
theorem OpOk.pure (hs : HS w0 B e H w) {m : Sem Value} {v : V} {v' : Value} (hm : m.run P w = .ok v' w) (hr : Rep w0 B e v v') :
    OpOk P w0 B e H w (do Pure.pure (.value (← m))) (v, H) :=
  ⟨v', w, e, .inl (by simp [hm]), Stp.refl hs, hr⟩
theorem OpOk.val {m : Sem Value} {v : V} {v' : Value} {w' : World} {e' : Emb} {H' : Heap} (hm : m.run P w = .ok v' w') (hst : Stp w0 B e H w e' H' w') (hr : Rep w0 B e' v v') :
    OpOk P w0 B e H w (do Pure.pure (.value (← m))) (v, H') :=
  ⟨v', w', e', .inl (by simp [hm]), hst, hr⟩
theorem OpOk.unit {m : Sem Unit} {w' : World} {e' : Emb} {H' : Heap} (hm : m.run P w = .ok () w') (hst : Stp w0 B e H w e' H' w') :
    OpOk P w0 B e H w (do m; Pure.pure .skip) (V.undef, H') :=
  ⟨undef, w', e', .inr ⟨by simp [hm], rfl⟩, hst, undef_ok⟩

/-! ### A new row -/
theorem rnewRow (el : TypeId) (c : Array Value) (w : World) : (newRow el c).run P w = .ok ⟨w.heap.size, 0, none⟩ { w with heap := w.heap.push (.cells c el) } := by
  simp [newRow, newObj, Sem.run]

theorem seg_all (c : Array Value) (n : Nat) (h : n = c.size) : seg c 0 n = c.toList := by
  subst h
  unfold seg
  rw [List.drop_zero, ← Array.length_toList, List.take_length]

theorem row_ok (hs : HS w0 B e H w) {el : TypeId} {c : Array Value} {cs : List V} (ex : Bool) (hc : CellsOk w0 B e cs c.toList) :
    Stp w0 B e H w (Emb.put e H.length ⟨w.heap.size, 0, c.size⟩) (H ++ [some (.cells cs ex)]) { w with heap := w.heap.push (.cells c el) } := by
  have hl : cs.length = c.size := by rw [hc.1.1]; simp
  refine Stp.alloc hs _ _ (.cells c el) rfl ?_ rfl rfl rfl rfl
  refine ⟨Nat.le_refl _, by simp [hl], fun _ => by simp [hl], ⟨fun j _ => by simp, hc.2⟩, ?_⟩
  · rw [seg_all c _ hl]
    exact hc.mono (hs.put_up _)
/-- A row with places left behind the cells that are told. -/
theorem row_more_ok (hs : HS w0 B e H w) {el : TypeId} {c more : List Value} {cs : List V} (hc : CellsOk w0 B e cs c) (hm : ∀ v ∈ more, one v = true) :
    Stp w0 B e H w (Emb.put e H.length ⟨w.heap.size, 0, c.length + more.length⟩) (H ++ [some (.cells cs false)]) { w with heap := w.heap.push (.cells ⟨c ++ more⟩ el) } := by
  have hl : cs.length = c.length := hc.1.1
  refine Stp.alloc hs _ _ (.cells ⟨c ++ more⟩ el) rfl ?_ rfl rfl rfl rfl
  refine ⟨by simp, by simp [hl], (fun h => by cases h), ⟨fun j _ => by simp, fun v hv => (List.mem_append.1 hv).elim (hc.2 v) (hm v)⟩, ?_⟩
  have : seg ⟨c ++ more⟩ 0 cs.length = c := by unfold seg; simp [hl]
  rw [this]
  exact hc.mono (hs.put_up _)
theorem put_self (e : Emb) (n : Nat) (eb : EB) : Emb.put e n eb n = some eb := by simp [Emb.put]
theorem ptr_new (e : Emb) (n : Nat) (eb : EB) (h0 : eb.base = 0) : Rep w0 B (Emb.put e n eb) (.ptr n 0) (.pointer (some ⟨eb.b, 0, none⟩)) := by
  have := Rep.ptr (w0 := w0) (B := B) (Emb.put e n eb) n 0 eb (put_self e n eb)
  rwa [h0] at this

theorem alloc_ok (hs : HS w0 B e H w) {t : TypeId} {cs : List V} (h : tzc P t = some cs) :
    OpOk P w0 B e H w (do Pure.pure (.value (← Instr.alloc t true (.tuple #[])))) (.ptr H.length 0, H ++ [some (.cells cs true)]) := by
  obtain ⟨x, hx, hc⟩ := Option.bind_eq_some_iff.1 h
  obtain ⟨z, hz, hr, _⟩ := rzero hx
  refine OpOk.val (v' := .pointer (some ⟨w.heap.size, 0, none⟩)) ?_ (row_ok (el := t) hs true (cells_ok (hr w0 B e) hc)) (ptr_new _ _ _ rfl)
  exact (by simp [Instr.alloc, hz, newVar, rnewRow] : (Instr.alloc t true (.tuple #[])).run P w = .ok (.pointer (some ⟨w.heap.size, 0, none⟩)) { w with heap := w.heap.push (.cells z.cells t) })
theorem box_ok (hs : HS w0 B e H w) {t : TypeId} {x : V} {v : Value} {cs : List V} (hv : Rep w0 B e x v) (h : x.cellsO = some cs) :
    OpOk P w0 B e H w (do Pure.pure (.value (← Instr.box t v))) (.ptr H.length 0, H ++ [some (.cells cs true)]) := by
  refine OpOk.val (v' := .pointer (some ⟨w.heap.size, 0, none⟩)) ?_ (row_ok (el := t) hs true (cells_ok hv h)) (ptr_new _ _ _ rfl)
  exact (by simp [Instr.box, newVar, rnewRow] : (Instr.box t v).run P w = .ok (.pointer (some ⟨w.heap.size, 0, none⟩)) { w with heap := w.heap.push (.cells v.cells t) })

/-! ### Reading -/
theorem load_ok (hs : HS w0 B e H w) {t : TypeId} {a : V} {v : Value} (hv : Rep w0 B e a v) {x : V} (h : loadV P H t a = some x) :
    OpOk P w0 B e H w (do Pure.pure (.value (← Instr.loadAt t v))) (x, H) := by
  unfold loadV at h
  cases hc : cellsAt H a with
  | none => rw [hc] at h; simp at h
  | some cs =>
    rw [hc] at h
    obtain ⟨b, o, vs, rfl, hcs, hcell⟩ := cellsAt_ok hs hv hc
    obtain ⟨u, hu, hr⟩ := rload (P := P) (t := t) hcs hcell h
    exact OpOk.pure hs (by simp [Instr.loadAt, Instr.sureAddr, hu]) hr

/-! ### Writing -/
theorem heap_modify_eq (hp : Array Obj) (b : Nat) (f : Obj → Obj) (o : Obj) (h : hp[b]? = some o) : hp.modify b f = hp.setIfInBounds b (f o) := by
  obtain ⟨hb, ho⟩ := Array.getElem?_eq_some_iff.1 h
  apply Array.ext
  · simp
  · intro i h1 h2
    rw [Array.getElem_modify]
    rw [Array.getElem_setIfInBounds]
    split
    · rename_i hi; subst hi; simp [ho]
    · rfl

theorem rstoreCells : ∀ (vs : List Value) (i : Nat) (c : Array Value) (w : World) (b o : Nat) (el : TypeId) (fr : Nat × Nat), w.heap[b]? = some (.cells c el fr) →
    (∀ j, j < c.size → (decide (fr.1 ≤ j) && decide (j < fr.2)) = false) → o + i + vs.length ≤ c.size → (∀ v ∈ vs, one v = true) →
    (storeCells ⟨b, o, none⟩ vs i).run P w = .ok () { w with heap := w.heap.setIfInBounds b (.cells ⟨c.toList.take (o + i) ++ vs ++ c.toList.drop (o + i + vs.length)⟩ el fr) }
  | [], i, c, w, b, o, el, fr, hb, _, _, _ => by
    simp only [storeCells, List.append_nil, List.length_nil, Nat.add_zero, List.take_append_drop]
    obtain ⟨hlt, hob⟩ := Array.getElem?_eq_some_iff.1 hb
    have : w.heap.setIfInBounds b (.cells ⟨c.toList⟩ el fr) = w.heap := by
      apply Array.ext
      · simp
      · intro j h1 h2
        rw [Array.getElem_setIfInBounds]
        split
        · rename_i hj; subst hj; exact hob.symm
        · rfl
    rw [this]
    rfl
  | v :: vs, i, c, w, b, o, el, fr, hb, hfr, hl, h1 => by
    simp only [List.length_cons] at hl
    have hlt : o + i < c.size := by omega
    have hcell : w.cell? ⟨b, o + i, none⟩ = some c[o + i] := by simp [World.cell?, hb, hlt]
    have hfz : w.frozen? ⟨b, o + i, none⟩ = false := by
      have := hfr (o + i) hlt
      obtain ⟨lo, hi⟩ := fr
      simpa [World.frozen?, hb] using this
    have hset : w.setCell ⟨b, o + i, none⟩ v = { w with heap := w.heap.setIfInBounds b (.cells (c.setIfInBounds (o + i) v) el fr) } := by
      unfold World.setCell
      rw [heap_modify_eq _ _ _ _ hb]
      rfl
    have hst : (store ((⟨b, o, none⟩ : Addr).add i) v).run P w = .ok () { w with heap := w.heap.setIfInBounds b (.cells (c.setIfInBounds (o + i) v) el fr) } := by
      rw [add_plain, run_store P w _ v _ (h1 v (by simp)), hcell]
      simp [hfz, hset]
    have hlt' : b < w.heap.size := (Array.getElem?_eq_some_iff.1 hb).1
    have ih := rstoreCells vs (i + 1) (c.setIfInBounds (o + i) v) { w with heap := w.heap.setIfInBounds b (.cells (c.setIfInBounds (o + i) v) el fr) } b o el fr
      (by simp [hlt']) (by simpa using hfr) (by simp; omega) (fun x hx => h1 x (by simp [hx]))
    simp only [storeCells, Sem.run_bind, hst, Result.andThen_ok, ih]
    congr 2
    rw [Array.setIfInBounds_setIfInBounds]
    congr 3
    have e := list_seg_step c.toList (o + i) v vs (by simpa using hl)
    simpa [Array.toList_setIfInBounds, Nat.add_assoc] using e

theorem seg_splice (L vs : List Value) (base off len : Nat) (h : off + vs.length ≤ len) (hl : base + len ≤ L.length) :
    ((L.take (base + off) ++ vs ++ L.drop (base + off + vs.length)).drop base).take len = ((L.drop base).take len).take off ++ vs ++ ((L.drop base).take len).drop (off + vs.length) := by
  have e1 : L.take (base + off) = L.take base ++ (L.drop base).take off := by rw [List.take_add]
  have e2 : L.drop (base + off + vs.length) = (L.drop base).drop (off + vs.length) := by rw [List.drop_drop, Nat.add_assoc]
  have e3 : (L.take base).length = base := by simp; omega
  have hM : (L.drop base).length = L.length - base := List.length_drop
  generalize hMM : L.drop base = M at *
  have e4 : (L.take base ++ M.take off ++ vs ++ M.drop (off + vs.length)).drop base = M.take off ++ vs ++ M.drop (off + vs.length) := by
    rw [List.append_assoc, List.append_assoc, List.drop_append, e3, Nat.sub_self, List.drop_zero, List.drop_eq_nil_of_le (by omega)]
    simp
  rw [e1, e2, e4, List.take_take, Nat.min_eq_left (by omega), List.drop_take]
  have e5 : (M.take off).length = off := by rw [List.length_take, hM]; omega
  have e6 : (M.take off ++ vs).length = off + vs.length := by rw [List.length_append, e5]
  rw [List.take_append, e6, List.take_of_length_le (l := M.take off ++ vs) (by omega)]

/-- Cells of a block written in place: the evaluator's 'writeCells'. -/
theorem write_ok (hs : HS w0 B e H w) {id off : Nat} {eb : EB} (he : e id = some eb) {cs : List V} {vs : List Value} (hcs : CellsOk w0 B e cs vs) {H' : Heap} (h : writeCells H id off cs = some H') :
    ∃ w', (storeCells ⟨eb.b, eb.base + off, none⟩ vs).run P w = .ok () w' ∧ Stp w0 B e H w e H' w' := by
  unfold writeCells at h
  split at h
  · rename_i cs0 ex hid
    split at h
    · rename_i hle
      cases h
      obtain ⟨eb', o, he', ho, hok⟩ := hs.live id _ hid
      rw [he] at he'; cases he'
      cases o <;> simp only [BlkOk] at hok
      rename_i c el fr
      obtain ⟨k1, k2, k3, k4, k5⟩ := hok
      have hlen : cs.length = vs.length := hcs.1.1
      have hst := rstoreCells (P := P) vs 0 c w eb.b (eb.base + off) el fr ho (fun j hj => k4.1 j (Nat.le_of_lt hj)) (by omega) hcs.2
      simp only [Nat.add_zero] at hst
      refine ⟨_, hst, Stp.write hs hid he _ _ ?_ rfl rfl rfl rfl⟩
      have hnew : (cs0.take off ++ cs ++ cs0.drop (off + cs.length)).length = cs0.length := by simp; omega
      have hsz : (⟨c.toList.take (eb.base + off) ++ vs ++ c.toList.drop (eb.base + off + vs.length)⟩ : Array Value).size = c.size := by simp; omega
      refine ⟨by rw [hsz]; exact k1, by rw [hnew]; exact k2, fun hx => by rw [hnew]; exact k3 hx, ⟨by rw [hsz]; exact k4.1, one_splice k4.2 hcs.2⟩, ?_⟩
      rw [hnew]
      unfold seg at k5 ⊢
      rw [seg_splice c.toList vs eb.base off cs0.length (by omega) (by have := Nat.le_trans k2 k1; simpa using this)]
      rw [hlen]
      exact ((k5.take off).append hcs).append (k5.drop _)
    · cases h
  · cases h

theorem store_ok (hs : HS w0 B e H w) {t : TypeId} {a x : V} {va vx : Value} (ha : Rep w0 B e a va) (hx : Rep w0 B e x vx) {H' : Heap} (h : storeV P H t a x = some H') :
    OpOk P w0 B e H w (do Instr.storeAt t va vx; Pure.pure .skip) (V.undef, H') := by
  unfold storeV at h
  split at h
  · rename_i id off vs n hc hz
    split at h
    · rename_i hn
      have hcs := cells_ok hx hc
      cases ha with
      | ptr _ _ _ eb he =>
        obtain ⟨w', hr, hst⟩ := write_ok (P := P) hs he hcs h
        have hsz : vx.cells.size = n := by have := hcs.1.1; simp at this; omega
        exact OpOk.unit (by simp [Instr.storeAt, Instr.sureAddr, storeVar, rsizeOf hz, hsz, hr]) hst
    · cases h
  · cases h
end
end Go.Ev

/-
  EACH OPERATION THAT CALLS NOTHING DOES WHAT THE EVALUATOR SAYS, third part: values (own work).
-/
set_option linter.unusedSimpArgs false
set_option linter.unusedVariables false
namespace Go.Ev
open Go

section
variable {P : Program} {w0 : World} {B : Nat} {e : Emb} {H : Heap} {w : World}

theorem part_ok {t : TypeId} {cs : List V} {vs : List Value} (hc : CellsOk w0 B e cs vs) {off : Nat} {x : V} (h : partV P t cs off = some x) (w : World) :
    ∃ v, (part t ⟨vs⟩ off).run P w = .ok v w ∧ Rep w0 B e x v := by
  unfold partV at h
  split at h
  · rename_i ha
    split at h
    · rename_i n hz
      split at h
      · rename_i hle
        cases h
        have hcc := (hc.drop off).take n
        refine ⟨.agg ⟨(vs.drop off).take n⟩, ?_, .agg _ _ _ hcc.1.1 hcc.2 hcc.1.2⟩
        simp [part, risAgg ha, rsizeOf hz]
      · cases h
    · cases h
  · rename_i ha
    obtain ⟨v, hv, hr⟩ := hc.1.get? h
    exact ⟨v, by simp [part, risAgg ha, hv], hr⟩
  · cases h

/-- '==' by the type. -/
theorem eqFields_ok (d : Nat) (ih : ∀ t x y b vx vy, eqV P d t x y = some b → Rep w0 B e x vx → Rep w0 B e y vy → (Op.equalIn d t vx vy).run P w = .ok b w) :
    ∀ (fs : List Field) (xs ys : List V) (vxs vys : List Value) (b : Bool), eqFields P d fs xs ys = some b → CellsOk w0 B e xs vxs → CellsOk w0 B e ys vys →
      (Op.eqFields d ⟨vxs⟩ ⟨vys⟩ fs).run P w = .ok b w
  | [], xs, ys, vxs, vys, b, h, _, _ => by
    simp only [eqFields, Option.some.injEq] at h
    subst h
    simp [Op.eqFields]
  | f :: fs, xs, ys, vxs, vys, b, h, hx, hy => by
    rw [eqFields] at h
    rw [Op.eqFields]
    split at h
    · rename_i hn
      rw [if_neg (by simpa using hn)]
      exact eqFields_ok d ih fs xs ys vxs vys b h hx hy
    · rename_i hn
      rw [if_pos (by simpa using hn)]
      split at h
      · rename_i a c hpa hpc
        obtain ⟨va, hva, hra⟩ := part_ok (P := P) hx hpa w
        obtain ⟨vc, hvc, hrc⟩ := part_ok (P := P) hy hpc w
        split at h
        · rename_i hq
          have := ih _ _ _ _ _ _ hq hra hrc
          simp [hva, hvc, this, eqFields_ok d ih fs xs ys vxs vys b h hx hy]
        · rename_i hq
          cases h
          have := ih _ _ _ _ _ _ hq hra hrc
          simp [hva, hvc, this]
        · cases h
      · cases h

/-- The elements of an array, compared one by one. -/
def eqElemsM (d : Nat) (e' : TypeId) (sz : Nat) (xs ys : Array Value) : Nat → Nat → Sem Bool
  | 0, _ => pure true
  | n + 1, i => do
    let a ← part e' xs (i * sz)
    let b ← part e' ys (i * sz)
    let r ← Op.equalIn d e' a b
    if (!r) = true then pure false else eqElemsM d e' sz xs ys n (i + 1)

theorem run_equalIn_array (d : Nat) (t e' : TypeId) (n sz : Nat) (xs ys : Array Value) (ht : P.underlying t = some (.array n e')) (hz : tsz P e' = some sz) (w : World) :
    (Op.equalIn (d + 1) t (.agg xs) (.agg ys)).run P w = (eqElemsM d e' sz xs ys n 0).run P w := by
  simp only [Op.equalIn, Sem.run_bind, runder ht, Result.andThen_ok, rsizeOf hz]
  rw [Std.Legacy.Range.forIn_eq_forIn_range']
  simp only [Std.Legacy.Range.size, Nat.sub_zero, Nat.add_sub_cancel, Nat.div_one]
  clear ht
  generalize 0 = i
  induction n generalizing i w with
  | zero => simp [eqElemsM]
  | succ n ih =>
    simp only [List.range'_succ, List.forIn_cons, eqElemsM, Sem.run_bind]
    generalize (part e' xs (i * sz)).run P w = r1
    cases r1 with
    | ok a w1 =>
      simp only [Result.andThen_ok]
      generalize (part e' ys (i * sz)).run P w1 = r2
      cases r2 with
      | ok b w2 =>
        simp only [Result.andThen_ok]
        generalize (Op.equalIn d e' a b).run P w2 = r3
        cases r3 with
        | ok r w3 =>
          cases r
          · simp
          · simp only [Result.andThen_ok, Bool.not_true, Bool.false_eq_true, if_false, Sem.run_pure]
            have := ih w3 (i + 1)
            simpa using this
        | halt x w3 => simp [Result.andThen]
      | halt x w2 => simp [Result.andThen]
    | halt x w1 => simp [Result.andThen]
theorem eqElems_ok (d : Nat) (ih : ∀ t x y b vx vy, eqV P d t x y = some b → Rep w0 B e x vx → Rep w0 B e y vy → (Op.equalIn d t vx vy).run P w = .ok b w) (e' : TypeId) (sz : Nat) :
    ∀ (n i : Nat) (xs ys : List V) (vxs vys : List Value) (b : Bool), eqElems P d n i e' sz xs ys = some b → CellsOk w0 B e xs vxs → CellsOk w0 B e ys vys →
      (eqElemsM d e' sz ⟨vxs⟩ ⟨vys⟩ n i).run P w = .ok b w
  | 0, i, xs, ys, vxs, vys, b, h, _, _ => by
    simp only [eqElems, Option.some.injEq] at h
    subst h
    simp [eqElemsM]
  | n + 1, i, xs, ys, vxs, vys, b, h, hx, hy => by
    rw [eqElems] at h
    rw [eqElemsM]
    split at h
    · rename_i a c hpa hpc
      obtain ⟨va, hva, hra⟩ := part_ok (P := P) hx hpa w
      obtain ⟨vc, hvc, hrc⟩ := part_ok (P := P) hy hpc w
      split at h
      · rename_i hq
        have := ih _ _ _ _ _ _ hq hra hrc
        simp [hva, hvc, this, eqElems_ok d ih e' sz n (i + 1) xs ys vxs vys b h hx hy]
      · rename_i hq
        cases h
        have := ih _ _ _ _ _ _ hq hra hrc
        simp [hva, hvc, this]
      · cases h
    · cases h

theorem aggOf_ok {x : V} {v : Value} {xs : List V} (h : Rep w0 B e x v) (hx : aggOf x = some xs) : ∃ vs, v = .agg ⟨vs⟩ ∧ CellsOk w0 B e xs vs := by
  cases h <;> simp only [aggOf, reduceCtorEq, Option.some.injEq] at hx
  subst hx
  rename_i a' ha h1 har
  exact ⟨a', rfl, ⟨ha, har⟩, h1⟩

theorem eqB_ok {d : Nat} {t : TypeId} {x y : V} {b : Bool} {vx vy : Value} (hu : P.underlying t = some .bool) (h : eqB x y = some b) (hx : Rep w0 B e x vx) (hy : Rep w0 B e y vy) :
    (Op.equalIn (d + 1) t vx vy).run P w = .ok b w := by
  unfold eqB at h
  split at h <;> first | (cases h; done) | (cases hx; cases hy; cases h; simp [Op.equalIn, runder hu]; done)

theorem eqS_ok {d : Nat} {t : TypeId} {x y : V} {b : Bool} {vx vy : Value} (hu : P.underlying t = some .string) (h : eqS x y = some b) (hx : Rep w0 B e x vx) (hy : Rep w0 B e y vy) :
    (Op.equalIn (d + 1) t vx vy).run P w = .ok b w := by
  unfold eqS at h
  split at h <;> first | (cases h; done) | (cases hx; cases hy; cases h; simp [Op.equalIn, runder hu]; done)

theorem eqSlice_ok {d : Nat} {t : TypeId} {x y : V} {b : Bool} {vx vy : Value} {el : TypeId} (hu : P.underlying t = some (.slice el)) (h : eqSlice x y = some b) (hx : Rep w0 B e x vx) (hy : Rep w0 B e y vy) :
    (Op.equalIn (d + 1) t vx vy).run P w = .ok b w := by
  unfold eqSlice at h
  split at h <;> first | (cases h; done) | (cases hx <;> cases hy <;> cases h <;> simp [Op.equalIn, runder hu]; done)

theorem eqFn_ok {d : Nat} {t : TypeId} {x y : V} {b : Bool} {vx vy : Value} {a1 a2 : Array TypeId} {a3 : Bool} (hu : P.underlying t = some (.func a1 a2 a3)) (h : eqFn x y = some b) (hx : Rep w0 B e x vx) (hy : Rep w0 B e y vy) :
    (Op.equalIn (d + 1) t vx vy).run P w = .ok b w := by
  unfold eqFn at h
  split at h <;> first | (cases h; done) | (cases hx; cases hy; cases h; simp [Op.equalIn, runder hu]; done)

theorem eqIface_ok {d : Nat} {t : TypeId} {x y : V} {b : Bool} {vx vy : Value} {ms : Array (String × TypeId)} (hu : P.underlying t = some (.interface ms)) (h : eqIface x y = some b) (hx : Rep w0 B e x vx) (hy : Rep w0 B e y vy) :
    (Op.equalIn (d + 1) t vx vy).run P w = .ok b w := by
  unfold eqIface at h
  split at h <;> first | (cases h; done) | (cases hx; cases hy; cases h; simp [Op.equalIn, runder hu]; done)

theorem eqMap_ok {d : Nat} {t : TypeId} {x y : V} {b : Bool} {vx vy : Value} {k1 k2 : TypeId} (hu : P.underlying t = some (.map k1 k2)) (h : eqMap x y = some b) (hx : Rep w0 B e x vx) (hy : Rep w0 B e y vy) :
    (Op.equalIn (d + 1) t vx vy).run P w = .ok b w := by
  unfold eqMap at h
  split at h <;> first | (cases h; done) | (cases hx; cases hy; cases h; simp [Op.equalIn, runder hu]; done)

theorem eqPtr_ok {d : Nat} {t : TypeId} {x y : V} {b : Bool} {vx vy : Value} {el : TypeId} (hu : P.underlying t = some (.pointer el)) (h : eqPtr x y = some b) (hx : Rep w0 B e x vx) (hy : Rep w0 B e y vy) :
    (Op.equalIn (d + 1) t vx vy).run P w = .ok b w := by
  unfold eqPtr at h
  split at h <;> first | (cases h; done) | (cases hx; cases hy; cases h; simp [Op.equalIn, runder hu]; done)

theorem eqI_ok {d : Nat} {t : TypeId} {x y : V} {b : Bool} {vx vy : Value} {k0 : IntKind} (hu : P.underlying t = some (.int k0)) (h : eqI x y = some b) (hx : Rep w0 B e x vx) (hy : Rep w0 B e y vy) :
    (Op.equalIn (d + 1) t vx vy).run P w = .ok b w := by
  unfold eqI at h
  split at h
  · cases hx; cases hy
    split at h
    · rename_i hk; subst hk; cases h; simp [Op.equalIn, runder hu]
    · cases h
  · cases h

theorem eqV_ok : ∀ (d : Nat) (t : TypeId) (x y : V) (b : Bool) (vx vy : Value), eqV P d t x y = some b → Rep w0 B e x vx → Rep w0 B e y vy → (Op.equalIn d t vx vy).run P w = .ok b w
  | 0, t, x, y, b, vx, vy, h, _, _ => by simp [eqV] at h
  | d + 1, t, x, y, b, vx, vy, h, hx, hy => by
    have ih := eqV_ok d
    unfold eqV at h
    split at h
    · rename_i hu; exact eqB_ok hu h hx hy
    · rename_i hu; exact eqI_ok hu h hx hy
    · rename_i hu; exact eqS_ok hu h hx hy
    · rename_i hu; exact eqSlice_ok hu h hx hy
    · rename_i hu; exact eqFn_ok hu h hx hy
    · rename_i hu; exact eqIface_ok hu h hx hy
    · rename_i hu; exact eqMap_ok hu h hx hy
    · rename_i hu; exact eqPtr_ok hu h hx hy
    · rename_i fs hu
      split at h
      · cases h
      · rename_i hst
        split at h
        · rename_i xs ys hxs hys
          obtain ⟨vxs, rfl, hcx⟩ := aggOf_ok hx hxs
          obtain ⟨vys, rfl, hcy⟩ := aggOf_ok hy hys
          have hf : P.fieldsOf t = fs := by simp [Program.fieldsOf, hu]
          rw [run_equalIn_struct (P := P) w d t ⟨vxs⟩ ⟨vys⟩ (by rw [hf]; exact hu) (by simpa using hst), hf]
          exact eqFields_ok d ih fs.toList _ _ vxs vys b h hcx hcy
        · cases h
    · rename_i n e' hu
      split at h
      · rename_i sz xs ys hz hxs hys
        obtain ⟨vxs, rfl, hcx⟩ := aggOf_ok hx hxs
        obtain ⟨vys, rfl, hcy⟩ := aggOf_ok hy hys
        rw [run_equalIn_array d t e' n sz ⟨vxs⟩ ⟨vys⟩ hu hz]
        exact eqElems_ok d ih e' sz n 0 _ _ vxs vys b h hcx hcy
      · cases h
    · cases h
end
end Go.Ev

/-
  EACH OPERATION THAT CALLS NOTHING DOES WHAT THE EVALUATOR SAYS, fourth part: operators (own work).
-/
set_option linter.unusedSimpArgs false
set_option linter.unusedVariables false
namespace Go.Ev
open Go

section
variable {P : Program} {w0 : World} {B : Nat} {e : Emb} {H : Heap} {w : World}

def noNum : Value → Bool
  | .bool _ => true
  | .pointer _ => true
  | .slice _ _ _ => true
  | .map _ => true
  | .func _ _ _ => true
  | .nilFunc => true
  | .iface _ _ => true
  | .nilIface => true
  | .agg _ => true
  | _ => false

theorem binOp_eql (t : TypeId) {x : Value} (y : Value) (h : noNum x = true) : binOp .eql t x y = (do Pure.pure (.bool (← Op.equal t x y))) := by
  cases x <;> simp only [noNum, reduceCtorEq] at h <;> cases y <;> rfl
theorem binOp_neq (t : TypeId) {x : Value} (y : Value) (h : noNum x = true) : binOp .neq t x y = (do Pure.pure (.bool (!(← Op.equal t x y)))) := by
  cases x <;> simp only [noNum, reduceCtorEq] at h <;> cases y <;> rfl

theorem guard_off (op : BinOp) (t : TypeId) (ox oy : Operand) (x y : Value) (h1 : ∀ a b, ¬ (x = .agg a ∧ y = .agg b)) (h2 : ¬ (x = .nilIface ∧ y = .nilIface)) : (eqGuard op t ox oy x y).run P w = .ok () w := by
  cases op <;> first | rfl | skip
  all_goals
    unfold eqGuard
    simp only [Bool.not_true, Bool.false_eq_true, if_false, Sem.run_bind, Sem.run_pure, Result.andThen_ok, pure_bind]
    split
    · exact absurd ⟨rfl, rfl⟩ h2
    · exact absurd ⟨rfl, rfl⟩ (h1 _ _)
    · rfl

def scal : V → Value
  | .int k n => .int k n
  | .bool b => .bool b
  | .str s => .string s
  | _ => undef

theorem binInt_ok {op : BinOp} {k : IntKind} {a b : Int} {z : V} {t : TypeId} (hs1 : op ≠ .shl) (hs2 : op ≠ .shr) (h : binInt op k a b = some z) : ∃ vz, (binOp op t (.int k a) (.int k b)).run P w = .ok vz w ∧ Rep w0 B e z vz := by
  refine ⟨scal z, ?_, ?_⟩
  · cases op <;> simp only [binInt, Option.some.injEq, reduceCtorEq] at h <;> first
      | (exact absurd rfl hs1)
      | (exact absurd rfl hs2)
      | (subst h; simp [scal, binOp, Op.intArith, Op.intBits, Op.intCmp]; done)
      | (split at h
         · cases h
         · rename_i hb; cases h; simp [scal, binOp, Op.intDiv, hb])
  · cases op <;> simp only [binInt, Option.some.injEq, reduceCtorEq] at h <;> first
      | (subst h; constructor; done)
      | (split at h
         · cases h
         · rename_i hb; cases h; constructor)

theorem binShift_ok {op : BinOp} {k k' : IntKind} {a b : Int} {z : V} {t : TypeId} (hop : op = .shl ∨ op = .shr) (h : binShift op k a b = some z) : ∃ vz, (binOp op t (.int k a) (.int k' b)).run P w = .ok vz w ∧ Rep w0 B e z vz := by
  unfold binShift at h
  split at h
  · cases h
  · rename_i hb
    rcases hop with rfl | rfl
    · simp only [Option.some.injEq] at h; subst h
      exact ⟨.int k (k.wrap (a * 2 ^ (min b.toNat k.bits))), by simp [binOp, Op.shift, hb], .int _ _ _⟩
    · simp only [Option.some.injEq] at h; subst h
      exact ⟨.int k (a.fdiv (2 ^ (min b.toNat k.bits))), by simp [binOp, Op.shift, hb], .int _ _ _⟩

theorem i64_max : IntKind.i64.max = 9223372036854775807 := by decide

theorem binStr_ok {op : BinOp} {a b : ByteArray} {z : V} {t : TypeId} (h : binStr op a b = some z) : ∃ vz, (binOp op t (.string a) (.string b)).run P w = .ok vz w ∧ Rep w0 B e z vz := by
  refine ⟨scal z, ?_, ?_⟩
  · cases op <;> simp only [binStr, Option.some.injEq, reduceCtorEq] at h <;> first
      | (subst h; simp [scal, binOp, Op.stringOp]; done)
      | (split at h
         · rename_i hl
           cases h
           have hn : ¬ (((a.size + b.size : Nat) : Int) > IntKind.i64.max) := by rw [i64_max]; omega
           simp only [scal, binOp, Op.stringOp]
           rw [if_neg hn]
           rfl
         · cases h)
  · cases op <;> simp only [binStr, Option.some.injEq, reduceCtorEq] at h <;> first
      | (subst h; constructor; done)
      | (split at h
         · cases h; constructor
         · cases h)

theorem noNum_ok {x : V} {v : Value} (h : Rep w0 B e x v) (hx : noNumV x = true) : noNum v = true := by
  cases h <;> first | rfl | simp [noNumV] at hx
theorem aggOf_none {x : V} {v : Value} (h : Rep w0 B e x v) (hx : noNumV x = true) (ha : (aggOf x).isNone = true) : ∀ a, v ≠ .agg a := by
  intro a hv
  subst hv
  cases h with
  | agg => simp [aggOf] at ha
  | junk => simp [noNumV] at hx

theorem bin_ok {op : BinOp} {t : TypeId} {x y z : V} {vx vy : Value} (h : evBin P op t x y = some z) (hx : Rep w0 B e x vx) (hy : Rep w0 B e y vy) (ox oy : Operand) :
    ∃ vz, (do eqGuard op t ox oy vx vy; binOp op t vx vy : Sem Value).run P w = .ok vz w ∧ Rep w0 B e z vz := by
  unfold evBin at h
  simp only [eqX_eq] at h
  split at h
  · rename_i k a k' b
    cases hx; cases hy
    have hg := guard_off (P := P) (w := w) op t ox oy (.int k a) (.int k' b) (fun _ _ h => by cases h.1) (fun h => by cases h.1)
    simp only [Sem.run_bind, hg, Result.andThen_ok]
    split at h
    · exact binShift_ok (.inl rfl) h
    · exact binShift_ok (.inr rfl) h
    · rename_i hn1 hn2
      split at h
      · rename_i hk; subst hk
        exact binInt_ok (fun h => hn1 h) (fun h => hn2 h) h
      · cases h
  · rename_i a b
    cases hx; cases hy
    have hg := guard_off (P := P) (w := w) op t ox oy (.string a) (.string b) (fun _ _ h => by cases h.1) (fun h => by cases h.1)
    simp only [Sem.run_bind, hg, Result.andThen_ok]
    exact binStr_ok h
  · cases h
  · cases h
  · rename_i hii hss hnn hnj
    split at h
    · rename_i hc
      simp only [Bool.and_eq_true, Bool.or_eq_true, Bool.not_eq_true'] at hc
      have hno := noNum_ok hx hc.1
      have hG : (eqGuard op t ox oy vx vy).run P w = .ok () w := by
        by_cases hagg : ∃ a b, vx = .agg a ∧ vy = .agg b
        · obtain ⟨a, b, rfl, rfl⟩ := hagg
          rcases hc.2 with h1 | h1
          · exact absurd rfl (aggOf_none hx hc.1 h1 a)
          · exact run_eqGuard_agg w op t ox oy a b h1
        · refine guard_off op t ox oy vx vy (fun a b hab => hagg ⟨a, b, hab⟩) fun hn => ?_
          obtain ⟨rfl, rfl⟩ := hn
          cases hx with
          | nili =>
            cases hy with
            | nili => exact hnn rfl rfl
            | junk => exact hnj rfl rfl
          | junk => simp [noNumV] at hc
      simp only [Sem.run_bind, hG, Result.andThen_ok]
      split at h
      · obtain ⟨b, hb, rfl⟩ := Option.map_eq_some_iff.1 h
        have := eqV_ok (w := w) 10000 t x y b vx vy hb hx hy
        rw [binOp_eql t vy hno]
        exact ⟨.bool b, by simp [Op.equal, Op.maxDepth, this], .bool _ _⟩
      · obtain ⟨b, hb, rfl⟩ := Option.map_eq_some_iff.1 h
        have := eqV_ok (w := w) 10000 t x y b vx vy hb hx hy
        rw [binOp_neq t vy hno]
        exact ⟨.bool !b, by simp [Op.equal, Op.maxDepth, this], .bool _ _⟩
      · cases h
    · cases h

theorem un_ok {op : UnOp} {x z : V} {v : Value} (h : evUn op x = some z) (hx : Rep w0 B e x v) : ∃ vz, (Op.unary op v).run P w = .ok vz w ∧ Rep w0 B e z vz := by
  refine ⟨scal z, ?_, ?_⟩
  · unfold evUn at h
    split at h <;> first
      | (cases h; done)
      | (cases hx; cases h; simp only [scal, Op.unary, Op.intArith, Op.intBits, Sem.run_pure]; done)
  · unfold evUn at h
    split at h <;> first
      | (cases h; done)
      | (cases hx; cases h; constructor)
end
end Go.Ev

/-
  EACH OPERATION THAT CALLS NOTHING DOES WHAT THE EVALUATOR SAYS, fifth part: places, slices, strings (own work).
-/
set_option linter.unusedSimpArgs false
set_option linter.unusedVariables false
namespace Go.Ev
open Go

section
variable {P : Program} {w0 : World} {B : Nat} {e : Emb} {H : Heap} {w : World}

/-- A part of what is read only. -/
theorem ro_part {cs : List V} {b o : Nat} {v : Value} (h : Rep w0 B e (.ro cs) v) (k n : Nat) :
    ∃ b o, v = .pointer (some ⟨b, o, none⟩) ∧ Rep w0 B e (.ro ((cs.drop k).take n)) (.pointer (some ⟨b, o + k, none⟩)) := by
  cases h with
  | ro _ _ b o f hc h1 hr =>
    refine ⟨b, o, rfl, .ro _ _ b (o + k) (fun j => f (k + j)) (fun j hj => ?_) (fun j hj => ?_) (fun j hj => ?_)⟩
    · simp only [List.length_take, List.length_drop] at hj
      rw [Nat.add_assoc]; exact hc (k + j) (by omega)
    · simp only [List.length_take, List.length_drop] at hj
      exact h1 (k + j) (by omega)
    · simp only [List.getElem_take, List.getElem_drop]
      exact hr _ _

theorem fieldAddr_ok {t : TypeId} {f : Nat} {x z : V} {v : Value} (h : fieldAddrV P t x f = some z) (hx : Rep w0 B e x v) :
    ∃ vz, (Instr.fieldAt t v f).run P w = .ok vz w ∧ Rep w0 B e z vz := by
  unfold fieldAddrV at h
  split at h
  · rename_i fs hu
    split at h
    · rename_i fd hf
      split at h
      · rename_i n hz
        split at h
        · cases h
        · rename_i hn
          split at h
          · rename_i id off
            cases h
            cases hx with
            | ptr _ _ _ eb he =>
              refine ⟨.pointer (some ⟨eb.b, eb.base + (off + fd.offset), none⟩), ?_, .ptr _ _ _ _ he⟩
              simp [Instr.fieldAt, runder hu, hf, Instr.sureAddr, fieldPlace, rsizeOf hz, hn, add_plain, Nat.add_assoc]
          · rename_i cs
            cases h
            obtain ⟨b, o, rfl, hr⟩ := ro_part (b := 0) (o := 0) hx fd.offset n
            refine ⟨_, ?_, hr⟩
            simp [Instr.fieldAt, runder hu, hf, Instr.sureAddr, fieldPlace, rsizeOf hz, hn, add_plain]
          · cases h
      · cases h
    · cases h
  · cases h

theorem field_ok {t : TypeId} {f : Nat} {x z : V} {v : Value} (h : fieldV P t x f = some z) (hx : Rep w0 B e x v) :
    ∃ vz, (Instr.field t v f).run P w = .ok vz w ∧ Rep w0 B e z vz := by
  unfold fieldV at h
  split at h
  · rename_i fs cs hu
    split at h
    · rename_i fd hf
      cases hx with
      | agg _ _ vs hl h1 hr =>
        obtain ⟨u, hu', hru⟩ := part_ok (P := P) ⟨⟨hl, hr⟩, h1⟩ h w
        exact ⟨u, by simp [Instr.field, runder hu, hf, asAgg, hu'], hru⟩
    · cases h
  · cases h

theorem indexAddr_ok {t : TypeId} {x i z : V} {v vi : Value} (h : indexAddrV P t x i = some z) (hx : Rep w0 B e x v) (hi : Rep w0 B e i vi) :
    ∃ vz, (Instr.indexAt t v vi).run P w = .ok vz w ∧ Rep w0 B e z vz := by
  unfold indexAddrV at h
  split at h
  · rename_i el id off len sz k i hu
    split at h
    · rename_i n hz
      split at h
      · rename_i hc
        simp only [Bool.and_eq_true, decide_eq_true_eq] at hc
        obtain ⟨⟨h0, h1⟩, h2⟩ := hc
        cases h; cases hi
        cases hx with
        | sl _ _ _ _ _ cap eb o he h3 h4 h5 h6 =>
          have ho := h6 (by omega)
          subst ho
          refine ⟨.pointer (some ⟨eb.b, eb.base + (off + i.toNat * sz), none⟩), ?_, .ptr _ _ _ _ he⟩
          simp [Instr.indexAt, asIntOf, runder hu, h0, h1, rsizeOf hz, add_plain, h2, Nat.add_assoc]
      · cases h
    · cases h
  · rename_i el len cs k i hu
    split at h
    · rename_i n hz
      split at h
      · rename_i hc
        simp only [Bool.and_eq_true, decide_eq_true_eq] at hc
        obtain ⟨h0, h1⟩ := hc
        cases h; cases hi
        cases hx with
        | rose _ a => omega
        | ros _ _ _ b o cap f hl hcc hone hr =>
          obtain ⟨b', o', hbo, hr'⟩ := ro_part (b := 0) (o := 0) (Rep.ro e cs b o f hcc hone hr) (i.toNat * n) n
          cases hbo
          refine ⟨_, ?_, hr'⟩
          simp [Instr.indexAt, asIntOf, runder hu, h0, h1, rsizeOf hz, add_plain]
      · cases h
    · cases h
  · rename_i m el id off k i hu
    split at h
    · rename_i n hz
      split at h
      · rename_i hc
        simp only [Bool.and_eq_true, decide_eq_true_eq] at hc
        obtain ⟨h0, h1⟩ := hc
        cases h; cases hi
        cases hx with
        | ptr _ _ _ eb he =>
          refine ⟨.pointer (some ⟨eb.b, eb.base + (off + i.toNat * n), none⟩), ?_, .ptr _ _ _ _ he⟩
          simp [Instr.indexAt, asIntOf, runder hu, h0, h1, rsizeOf hz, add_plain, Instr.sureAddr, Nat.add_assoc]
      · cases h
    · cases h
  · rename_i m el cs k i hu
    split at h
    · rename_i n hz
      split at h
      · rename_i hc
        simp only [Bool.and_eq_true, decide_eq_true_eq] at hc
        obtain ⟨h0, h1⟩ := hc
        cases h; cases hi
        obtain ⟨b', o', rfl, hr'⟩ := ro_part (b := 0) (o := 0) hx (i.toNat * n) n
        refine ⟨_, ?_, hr'⟩
        simp [Instr.indexAt, asIntOf, runder hu, h0, h1, rsizeOf hz, add_plain, Instr.sureAddr]
      · cases h
    · cases h
  · cases h

theorem index_ok {t : TypeId} {x i z : V} {v vi : Value} (h : indexV P t x i = some z) (hx : Rep w0 B e x v) (hi : Rep w0 B e i vi) :
    ∃ vz, (Instr.index t v vi).run P w = .ok vz w ∧ Rep w0 B e z vz := by
  unfold indexV at h
  split at h
  · rename_i m el cs k i hu
    split at h
    · rename_i n hz
      split at h
      · rename_i hc
        simp only [Bool.and_eq_true, decide_eq_true_eq] at hc
        obtain ⟨h0, h1⟩ := hc
        cases hi
        cases hx with
        | agg _ _ vs hl hone hr =>
          obtain ⟨u, hu', hru⟩ := part_ok (P := P) ⟨⟨hl, hr⟩, hone⟩ h w
          exact ⟨u, by simp [Instr.index, asIntOf, runder hu, h0, h1, rsizeOf hz, hu'], hru⟩
      · cases h
    · cases h
  · rename_i s k i hu
    split at h
    · rename_i h0
      split at h
      · rename_i b hb
        cases h; cases hi; cases hx
        exact ⟨.int .u8 b.toNat, by simp [Instr.index, asIntOf, runder hu, h0, hb], .int _ _ _⟩
      · cases h
    · cases h
  · cases h

/-! ### Slices -/
theorem bound_ok {k : Nat} {o : Option V} {o' : Option Value} {l : Nat} (ho : match o, o' with | none, none => True | some x, some v => Rep w0 B e x v | _, _ => False) (h : boundV k o = some l) :
    (o' = none ∧ l = k) ∨ ∃ kk, o' = some (.int kk (l : Int)) := by
  unfold boundV at h
  split at h
  · cases o' with
    | none => left; exact ⟨rfl, by cases h; rfl⟩
    | some v => exact ho.elim
  · rename_i kk i
    cases o' with
    | none => exact ho.elim
    | some v =>
      split at h
      · rename_i h0
        cases h
        cases ho
        right
        exact ⟨kk, by rw [Int.toNat_of_nonneg h0]⟩
      · cases h
  · cases h

def OptRep (w0 : World) (B : Nat) (e : Emb) (o : Option V) (o' : Option Value) : Prop := match o, o' with | none, none => True | some x, some v => Rep w0 B e x v | _, _ => False

theorem sliceBounds_ok {isS : Bool} {len cap : Nat} {lo hi : Option V} {lo' hi' : Option Value} {l h : Nat} (h1 : OptRep w0 B e lo lo') (h2 : OptRep w0 B e hi hi')
    (hl : boundV 0 lo = some l) (hh : boundV len hi = some h) (hle : l ≤ h) (hc : h ≤ cap) :
    (Instr.sliceBounds isS len cap lo' hi' none).run P w = .ok (l, h, cap) w := by
  rcases bound_ok h1 hl with ⟨rfl, rfl⟩ | ⟨k1, rfl⟩ <;> rcases bound_ok h2 hh with ⟨rfl, rfl⟩ | ⟨k2, rfl⟩
  · simp [Instr.sliceBounds]
  · simp [Instr.sliceBounds, Instr.sliceBound, asIntOf, hc]
  · simp [Instr.sliceBounds, Instr.sliceBound, asIntOf, hle]
  · simp [Instr.sliceBounds, Instr.sliceBound, asIntOf, hc, hle]

theorem slice_ok (hs : HS w0 B e H w) {t : TypeId} {x z : V} {v : Value} {lo hi mx : Option V} {lo' hi' mx' : Option Value} (h : sliceV P H t x lo hi mx = some z) (hx : Rep w0 B e x v)
    (h1 : OptRep w0 B e lo lo') (h2 : OptRep w0 B e hi hi') (h3 : OptRep w0 B e mx mx') : ∃ vz, (Instr.sliceAt t v lo' hi' mx').run P w = .ok vz w ∧ Rep w0 B e z vz := by
  unfold sliceV at h
  split at h
  · rename_i m
    unfold slice3V at h
    split at h
    · rename_i el id off len sz lo hi hu
      split at h
      · rename_i l hh k n hl hhh hk hz
        split at h
        · rename_i hc
          simp only [Bool.and_eq_true, decide_eq_true_eq] at hc
          obtain ⟨⟨hc1, hc2⟩, hc3⟩ := hc
          cases h; cases hx with
          | sl _ _ _ _ _ cap eb o he k1 k2 k3 k4 =>
            cases mx' with
            | none => exact h3.elim
            | some m' =>
              have hkc : k ≤ cap := by omega
              rcases bound_ok (o' := lo') h1 hl with ⟨rfl, _⟩ | ⟨q1, rfl⟩
              · exact h1.elim
              rcases bound_ok (o' := hi') h2 hhh with ⟨rfl, _⟩ | ⟨q2, rfl⟩
              · exact h2.elim
              rcases bound_ok (o' := some m') h3 hk with ⟨hq, _⟩ | ⟨q3, hq⟩
              · cases hq
              cases hq
              have hb : (Instr.sliceBounds true len cap (some (.int q1 (l : Int))) (some (.int q2 (hh : Int))) (some (.int q3 (k : Int)))).run P w = .ok (l, hh, k) w := by
                simp [Instr.sliceBounds, Instr.sliceBound, asIntOf, hc1, hc2, hkc]
              refine ⟨.slice (if k = l then some ⟨eb.b, o, none⟩ else (some ⟨eb.b, o, none⟩ : Option Addr).map (·.add (l * n))) (hh - l) (k - l), ?_, .junk _ _⟩
              simp [Instr.sliceAt, Instr.slice, runder hu, hb, rsizeOf hz]
        · cases h
      · cases h
    · cases h
  · have hm : mx' = none := by cases mx' with | none => rfl | some _ => exact h3.elim
    subst hm
    split at h
    · rename_i s hu
      split at h
      · rename_i l hh hl hhh
        split at h
        · rename_i hc
          simp only [Bool.and_eq_true, decide_eq_true_eq] at hc
          cases h; cases hx
          have := sliceBounds_ok (P := P) (w := w) (isS := false) (cap := s.size) h1 h2 hl hhh hc.1 hc.2
          exact ⟨.string (s.extract l hh), by simp [Instr.sliceAt, Instr.slice, runder hu, this], .str _ _⟩
        · cases h
      · cases h
    · rename_i el hu
      split at h
      · rename_i n hl hhh hz
        cases h; cases hx
        have := sliceBounds_ok (P := P) (w := w) (isS := true) (len := 0) (cap := 0) h1 h2 hl hhh (Nat.le_refl _) (Nat.le_refl _)
        exact ⟨.slice none 0 0, by simp [Instr.sliceAt, Instr.slice, runder hu, this, rsizeOf hz], .nils _⟩
      · cases h
    · rename_i el id off len sz hu
      split at h
      · rename_i l hh n hl hhh hz
        split at h
        · rename_i hc
          simp only [Bool.and_eq_true, decide_eq_true_eq] at hc
          obtain ⟨⟨⟨hc1, hc2⟩, hc3⟩, hc4⟩ := hc
          cases h
          cases hx with
          | sl _ _ _ _ _ cap eb o he k1 k2 k3 k4 =>
            have := sliceBounds_ok (P := P) (w := w) (isS := true) (cap := cap) h1 h2 hl hhh hc1 (by omega)
            have hadd : l * sz + (cap - l) * sz = cap * sz := by rw [← Nat.add_mul]; congr 1; omega
            by_cases hcl : cap = l
            · refine ⟨.slice (some ⟨eb.b, o, none⟩) (hh - l) (cap - l), ?_, .sl _ _ _ _ _ _ eb _ he (by omega) k2 (by omega) (by omega)⟩
              subst hcl
              simp [Instr.sliceAt, Instr.slice, runder hu, this, rsizeOf hz]
            · have ho := k4 (by omega)
              subst ho
              refine ⟨.slice (some ⟨eb.b, eb.base + off + l * sz, none⟩) (hh - l) (cap - l), ?_, .sl _ _ _ _ _ _ eb _ he (by omega) k2 (by omega) (by omega)⟩
              simp [Instr.sliceAt, Instr.slice, runder hu, this, rsizeOf hz, hcl, add_plain, hc3]
        · unfold sliceBeyond at h
          split at h
          · rename_i hc
            simp only [Bool.and_eq_true, decide_eq_true_eq] at hc
            obtain ⟨⟨hc1, hc3⟩, hc4⟩ := hc
            split at h
            · rename_i cs hid
              split at h
              · rename_i hin
                cases h
                cases hx with
                | sl _ _ _ _ _ cap eb o he k1 k2 k3 k4 =>
                  obtain ⟨eb', o', he', ho', hok⟩ := hs.live id _ hid
                  rw [he] at he'; cases he'
                  cases o' <;> simp only [BlkOk] at hok
                  obtain ⟨m1, m2, m3, _⟩ := hok
                  have hcap : hh ≤ cap := Nat.le_of_mul_le_mul_right (show hh * sz ≤ cap * sz by omega) k2
                  have := sliceBounds_ok (P := P) (w := w) (isS := true) (cap := cap) h1 h2 hl hhh hc1 hcap
                  have hadd : l * sz + (cap - l) * sz = cap * sz := by rw [← Nat.add_mul]; congr 1; omega
                  by_cases hcl : cap = l
                  · refine ⟨.slice (some ⟨eb.b, o, none⟩) (hh - l) (cap - l), ?_, .sl _ _ _ _ _ _ eb _ he (by omega) k2 (by omega) (by omega)⟩
                    subst hcl
                    simp [Instr.sliceAt, Instr.slice, runder hu, this, rsizeOf hz]
                  · have ho := k4 (by omega)
                    subst ho
                    refine ⟨.slice (some ⟨eb.b, eb.base + off + l * sz, none⟩) (hh - l) (cap - l), ?_, .sl _ _ _ _ _ _ eb _ he (by omega) k2 (by omega) (by omega)⟩
                    simp [Instr.sliceAt, Instr.slice, runder hu, this, rsizeOf hz, hcl, add_plain, hc3]
              · cases h
            · cases h
          · cases h
      · cases h
    · rename_i el len cs hu
      split at h
      · rename_i l hh n hl hhh hz
        split at h
        · rename_i hc
          simp only [Bool.and_eq_true, decide_eq_true_eq] at hc
          obtain ⟨hc1, hc2⟩ := hc
          cases h
          cases hx with
          | rose _ a =>
            have := sliceBounds_ok (P := P) (w := w) (isS := true) (cap := 0) h1 h2 hl hhh hc1 (by omega)
            have hl0 : l = 0 := by omega
            subst hl0
            have hh0 : hh = 0 := by omega
            subst hh0
            simp only [Nat.zero_mul, Nat.sub_self, List.drop_nil, List.take_nil]
            refine ⟨.slice (some a) 0 0, ?_, .rose _ _⟩
            simp [Instr.sliceAt, Instr.slice, runder hu, this, rsizeOf hz]
          | ros _ _ _ b o cap f k1 hcc hone hr =>
            have := sliceBounds_ok (P := P) (w := w) (isS := true) (cap := cap) h1 h2 hl hhh hc1 (by omega)
            by_cases hcl : cap = l
            · have h0 : (hh - l) * n = 0 := by rw [show hh - l = 0 by omega]; simp
              rw [h0, List.take_zero]
              refine ⟨.slice (some ⟨b, o, none⟩) (hh - l) (cap - l), ?_, .ros _ _ [] b o (cap - l) f (by omega) (fun j hj => by simp at hj) (fun j hj => by simp at hj) (fun j hj => by simp at hj)⟩
              subst hcl
              simp [Instr.sliceAt, Instr.slice, runder hu, this, rsizeOf hz]
            · obtain ⟨b', o', hbo, hr'⟩ := ro_part (b := 0) (o := 0) (Rep.ro e cs b o f hcc hone hr) (l * n) ((hh - l) * n)
              cases hbo
              cases hr' with
              | ro _ _ _ _ f' hcc' hone' hr'' =>
                refine ⟨.slice (some ⟨b, o + l * n, none⟩) (hh - l) (cap - l), ?_, .ros _ _ _ _ _ _ f' (by omega) hcc' hone' hr''⟩
                simp [Instr.sliceAt, Instr.slice, runder hu, this, rsizeOf hz, hcl, add_plain]
        · cases h
      · cases h
    · rename_i k el id off hu
      split at h
      · rename_i l hh n cs hl hhh hz hid
        split at h
        · rename_i hc
          simp only [Bool.and_eq_true, decide_eq_true_eq] at hc
          obtain ⟨⟨⟨⟨hc1, hc2⟩, hc3⟩, hc4⟩, hc5⟩ := hc
          cases h
          cases hx with
          | ptr _ _ _ eb he =>
            have := sliceBounds_ok (P := P) (w := w) (isS := false) (cap := k) h1 h2 hl hhh hc1 (by omega)
            obtain ⟨eb', o', he', ho', hok⟩ := hs.live id _ hid
            rw [he] at he'; cases he'
            cases o' <;> simp only [BlkOk] at hok
            obtain ⟨m1, m2, m3, _⟩ := hok
            have m4 := m3 trivial
            have hadd : l * n + (k - l) * n = k * n := by rw [← Nat.add_mul]; congr 1; omega
            refine ⟨.slice (some ⟨eb.b, eb.base + off + l * n, none⟩) (hh - l) (k - l), ?_, .sl _ _ _ _ _ _ eb _ he (by omega) hc4 (by omega) (by omega)⟩
            have hne : ¬ k = l := by omega
            simp [Instr.sliceAt, runder hu, this, rsizeOf hz, hne, add_plain, Instr.sureAddr]
        · cases h
      · cases h
    · cases h
end
end Go.Ev

/-
  EACH OPERATION THAT CALLS NOTHING DOES WHAT THE EVALUATOR SAYS, sixth part: literals, make, conversions, append, copy (own work).
-/
set_option linter.unusedSimpArgs false
set_option linter.unusedVariables false
namespace Go.Ev
open Go

section
variable {P : Program} {w0 : World} {B : Nat} {e : Emb} {H : Heap} {w : World}

theorem setAll : ∀ (vs : List Value) (k off : Nat) (c : Array Value), off + k + vs.length ≤ c.size →
    ((vs.zipIdx k).foldl (fun cs (x : Value × Nat) => cs.setIfInBounds (off + x.2) x.1) c).toList = c.toList.take (off + k) ++ vs ++ c.toList.drop (off + k + vs.length)
  | [], k, off, c, h => by simp
  | v :: vs, k, off, c, h => by
    simp only [List.length_cons] at h
    rw [List.zipIdx_cons, List.foldl_cons, setAll vs (k + 1) off _ (by simp; omega)]
    have := list_seg_step c.toList (off + k) v vs (by simp; omega)
    simpa [Array.toList_setIfInBounds, Nat.add_assoc] using this

theorem fill_ok {place : Nat → Option (Nat × Nat)} {f : Operand → V} {g : Operand → Value} (hfg : ∀ x, Rep w0 B e (f x) (g x)) :
    ∀ (ps : List (Nat × Operand)) (cs r : List V) (c : Array Value), CellsOk w0 B e cs c.toList → fillV place cs (ps.map fun (i, x) => (i, f x)) = some r →
      ∃ c', Instr.fill place c (ps.map fun (i, x) => (i, g x)) = some c' ∧ CellsOk w0 B e r c'.toList
  | [], cs, r, c, hc, h => by
    simp only [List.map_nil, fillV, Option.some.injEq] at h
    subst h
    exact ⟨c, by simp [Instr.fill], hc⟩
  | (i, x) :: ps, cs, r, c, hc, h => by
    simp only [List.map_cons, fillV] at h
    split at h
    · rename_i off size vs hp hv
      split at h
      · rename_i hle
        simp only [Bool.and_eq_true, beq_iff_eq, decide_eq_true_eq] at hle
        have hcv := cells_ok (hfg x) hv
        have hl1 : (g x).cells.size = size := by have := hcv.1.1; simp at this; omega
        have hl2 : c.size = cs.length := by have := hc.1.1; simp at this; omega
        have hset := setAll (g x).cells.toList 0 off c (by simp; omega)
        simp only [Nat.add_zero] at hset
        have hnew : CellsOk w0 B e (cs.take off ++ vs ++ cs.drop (off + size)) (((g x).cells.toList.zipIdx 0).foldl (fun cs (x : Value × Nat) => cs.setIfInBounds (off + x.2) x.1) c).toList := by
          rw [hset]
          have : (g x).cells.toList.length = size := by simpa using hl1
          rw [this]
          exact ((hc.take off).append hcv).append (hc.drop _)
        obtain ⟨c', hc', hok⟩ := fill_ok hfg ps _ r _ hnew h
        refine ⟨c', ?_, hok⟩
        simp only [List.map_cons, Instr.fill, hp]
        rw [if_neg (by simp; omega)]
        rw [← hc']
        congr 1
        rw [← Array.foldl_toList, Array.toList_zipIdx]
      · cases h
    · cases h

theorem places_ok : ∀ (fs : List Field) (pl : List (Nat × Nat)), placesOf P fs = some pl → fs.mapM (fun f => (P.info? f.type).map fun i => (f.offset, i.size)) = some pl
  | [], pl, h => by simp only [placesOf, Option.some.injEq] at h; subst h; simp
  | f :: fs, pl, h => by
    simp only [placesOf] at h
    split at h
    · rename_i n l hz hl
      cases h
      obtain ⟨i, hi, rfl⟩ := info_of_tsz hz
      simp [List.mapM_cons, hi, places_ok fs l hl]
    · cases h

theorem build_ok {t : TypeId} {z : V} {f : Operand → V} {g : Operand → Value} (hfg : ∀ x, Rep w0 B e (f x) (g x)) (ps : Array (Nat × Operand)) (h : buildV P t (ps.toList.map fun (i, x) => (i, f x)) = some z) :
    ∃ vz, (Instr.build t (ps.map fun (i, x) => (i, g x))).run P w = .ok vz w ∧ Rep w0 B e z vz := by
  unfold buildV at h
  split at h
  · rename_i zz fs hz hu
    split at h
    · rename_i cs pl hcs hpl
      obtain ⟨r, hr, rfl⟩ := Option.map_eq_some_iff.1 h
      obtain ⟨zv, _, hrep, it, hit, hzero⟩ := rzero hz
      obtain ⟨c', hc', hok⟩ := fill_ok hfg ps.toList _ _ _ (cells_ok (hrep w0 B e) hcs) hr
      refine ⟨.agg c', run_build w t _ c' ?_, .agg _ _ c'.toList hok.1.1 hok.2 hok.1.2⟩
      unfold Program.built
      simp only [hit, hu, hzero, places_ok _ _ hpl]
      rw [Array.toList_map, ← hc']
      congr 1
      funext i
      simp
    · cases h
  · rename_i zz n el hz hu
    split at h
    · rename_i cs m hcs hm
      obtain ⟨r, hr, rfl⟩ := Option.map_eq_some_iff.1 h
      obtain ⟨zv, _, hrep, it, hit, hzero⟩ := rzero hz
      obtain ⟨ie, hie, rfl⟩ := info_of_tsz hm
      obtain ⟨c', hc', hok⟩ := fill_ok hfg ps.toList _ _ _ (cells_ok (hrep w0 B e) hcs) hr
      refine ⟨.agg c', run_build w t _ c' ?_, .agg _ _ c'.toList hok.1.1 hok.2 hok.1.2⟩
      unfold Program.built
      simp only [hit, hu, hzero, hie]
      rw [Array.toList_map, ← hc']
    · cases h
  · cases h

theorem zerosV_length (z : List V) : ∀ n, (zerosV z n).length = n * z.length
  | 0 => by simp [zerosV]
  | n + 1 => by simp [zerosV, zerosV_length z n, Nat.add_mul]; omega
theorem zerosV_get (z : List V) : ∀ (n j : Nat) (h : j < (zerosV z n).length) (h' : j % z.length < z.length), (zerosV z n)[j] = z[j % z.length]
  | 0, j, h, h' => by simp [zerosV] at h
  | n + 1, j, h, h' => by
    simp only [zerosV]
    rcases Nat.lt_or_ge j z.length with hj | hj
    · rw [List.getElem_append_left hj]
      congr 1
      exact (Nat.mod_eq_of_lt hj).symm
    · rw [List.getElem_append_right hj]
      have hlen := zerosV_length z n
      have hj2 : j - z.length < (zerosV z n).length := by
        have := zerosV_length z (n + 1); rw [this] at h; rw [hlen]; rw [Nat.add_mul] at h; omega
      have hm : (j - z.length) % z.length = j % z.length := by rw [← Nat.mod_eq_sub_mod hj]
      rw [zerosV_get z n (j - z.length) hj2 (by rw [hm]; exact h')]
      congr 1

theorem zeros_ok {z : List V} {c : Array Value} (h : CellsOk w0 B e z c.toList) (n m : Nat) (hm : m = n * z.length) : CellsOk w0 B e (zerosV z n) ((Array.range m).map (fun i => c[i % c.size]!)).toList := by
  subst hm
  have hl : c.size = z.length := by have := h.1.1; simp at this; omega
  refine ⟨⟨by simp [zerosV_length], fun j h1 h2 => ?_⟩, fun v hv => ?_⟩
  · have hlt : j < n * z.length := by rw [zerosV_length] at h1; exact h1
    have hpos : 0 < z.length := by rcases Nat.eq_zero_or_pos z.length with h0 | h0; · rw [h0] at hlt; simp at hlt
                                   · exact h0
    have hmod : j % z.length < z.length := Nat.mod_lt _ hpos
    rw [zerosV_get z n j h1 hmod]
    have := h.1.2 (j % z.length) hmod (by simp [hl, hmod])
    simpa [hl, hmod] using this
  · simp only [Array.toList_map, Array.toList_range, List.mem_map, List.mem_range] at hv
    obtain ⟨j, hj, rfl⟩ := hv
    have hpos : 0 < z.length := by rcases Nat.eq_zero_or_pos z.length with h0 | h0; · rw [h0] at hj; simp at hj
                                   · exact h0
    have hmod : j % c.size < c.size := Nat.mod_lt _ (by omega)
    rw [getElem!_pos c (j % c.size) hmod]
    exact h.2 _ (by simp)

theorem sl_new (e : Emb) (n len cap sz b tot : Nat) (hl : len ≤ cap) (hz : 0 < sz) (ht : cap * sz = tot) : Rep w0 B (Emb.put e n ⟨b, 0, tot⟩) (.sl n 0 len sz) (.slice (some ⟨b, 0, none⟩) len cap) :=
  .sl _ _ _ _ _ cap ⟨b, 0, tot⟩ 0 (put_self e n _) hl hz (by simp [ht]) (fun _ => rfl)

theorem tzc_ok {t : TypeId} {cs : List V} (h : tzc P t = some cs) : ∃ z, (∀ w, (zeroValue t).run P w = .ok z w) ∧ (∀ w0 B e, CellsOk w0 B e cs z.cells.toList) ∧ ∃ i, P.info? t = some i ∧ i.zero = some z := by
  obtain ⟨x, hx, hc⟩ := Option.bind_eq_some_iff.1 h
  obtain ⟨z, hz, hr, hi⟩ := rzero hx
  exact ⟨z, hz, fun w0 B e => cells_ok (hr w0 B e) hc, hi⟩

theorem buildSlice_ok (hs : HS w0 B e H w) {t : TypeId} {len : Nat} {r : V × Heap} {f : Operand → V} {g : Operand → Value} (hfg : ∀ x, Rep w0 B e (f x) (g x)) (ps : Array (Nat × Operand))
    (h : buildSliceV P H t len (ps.toList.map fun (i, x) => (i, f x)) = some r) :
    OpOk P w0 B e H w (do Pure.pure (.value (← Instr.buildSlice t len (ps.map fun (i, x) => (i, g x))))) r := by
  unfold buildSliceV at h
  split at h
  · rename_i el hu
    split at h
    · rename_i n z hn hz
      split at h
      · cases h
      · rename_i hc
        simp only [Bool.or_eq_true, decide_eq_true_eq, bne_iff_ne, not_or, Classical.not_not, ne_eq] at hc
        obtain ⟨⟨hc1, hc2⟩, hc3⟩ := hc
        split at h
        · rename_i cs hf
          cases h
          obtain ⟨zv, hzv, hzc, i, hi, hi2⟩ := tzc_ok hz
          have hlz : zv.cells.size = n := by have := (hzc w0 B e).1.1; simp at this; omega
          obtain ⟨c', hc', hok⟩ := fill_ok hfg ps.toList _ _ _ (zeros_ok (hzc w0 B e) len (len * n) (by rw [hc2])) hf
          have hcl : c'.size = len * n := by
            have h1 := hok.1.1
            have h2 := (zeros_ok (hzc w0 B e) len (len * n) (by rw [hc2])).1.1
            have : ∀ (ps : List (Nat × V)) (cs r : List V) (place : Nat → Option (Nat × Nat)), fillV place cs ps = some r → r.length = cs.length := by
              intro ps
              induction ps with
              | nil => intro cs r place h; simp only [fillV, Option.some.injEq] at h; rw [h]
              | cons p ps ih =>
                obtain ⟨i, x⟩ := p
                intro cs r place h
                simp only [fillV] at h
                split at h
                · split at h
                  · rename_i hle
                    simp only [Bool.and_eq_true, beq_iff_eq, decide_eq_true_eq] at hle
                    rw [ih _ _ _ h]
                    simp; omega
                  · cases h
                · cases h
            have h3 := this _ _ _ _ hf
            rw [zerosV_length, hc2] at h3
            simp at h1
            omega
          refine OpOk.val (v' := .slice (some ⟨w.heap.size, 0, none⟩) len len) ?_ (row_ok (el := el) hs true hok) (sl_new e H.length len len n w.heap.size c'.size (Nat.le_refl _) (by omega) hcl.symm)
          have hc'' : Instr.fill (fun i => some (i * n, n)) ((Array.range (len * n)).map (zv.cells[· % zv.cells.size]!)) (ps.map fun (i, x) => (i, g x)).toList = some c' := by
            rw [Array.toList_map, ← hc']
          have hgt : ¬ len * n > 2 ^ 24 := hc1
          by_cases h0 : len * n = 0
          · have hlen0 : len = 0 := by rcases Nat.mul_eq_zero.1 h0 with h | h <;> omega
            subst hlen0
            have hr0 : Array.range 0 = (#[] : Array Nat) := by simp [Array.range]
            simp only [Nat.zero_mul, hr0, Array.map_empty] at hc''
            simp only [Instr.buildSlice, Sem.run_bind, runder hu, Result.andThen_ok, rsizeOf hn, Nat.zero_mul, if_true, Sem.run_pure, hr0, Array.map_empty, hc'', rnewRow]
            rw [if_neg (by omega)]
            simp only [Sem.run_bind, Sem.run_pure, Result.andThen_ok, hr0, Array.map_empty, hc'', rnewRow]
          · simp only [Instr.buildSlice, Sem.run_bind, runder hu, Result.andThen_ok, rsizeOf hn, hgt, if_false, h0, hzv, Sem.run_pure, hc'', rnewRow]
        · cases h
    · cases h
  · cases h
end
end Go.Ev
