/-
  THE EVALUATOR, second part: regions, code, functions (own work).
-/
import Derived.Test.YtnalmdnfoicokaaEv0
namespace Go.Ev
open Go

/-! ### Regions -/
/-- The blocks that an operation may write (those that lay before). -/
def refOf : V → List Nat
  | .ptr id _ => [id]
  | .sl id _ _ _ => [id]
  | .map id => [id]
  | _ => []

def writesOf (Γ : Env) (s : List V) (H : Heap) : Op → List Nat
  | .store _ a _ => refOf (evOperand Γ s a)
  | .mapUpdate _ m _ _ => refOf (evOperand Γ s m)
  | .insert _ m _ _ => refOf (evOperand Γ s m)
  | .mapEntry _ m _ => refOf (evOperand Γ s m)
  | .entryStore _ m _ _ => refOf (evOperand Γ s m)
  | .next it _ => refOf (evOperand Γ s it)
  | .slice _ x none (some _) (some _) => refOf (evOperand Γ s x)
  | .call c => match c.callee with
    | .builtin .append => (c.args.toList.map (evOperand Γ s)).head?.elim [] refOf
    | .builtin .copy => (c.args.toList.map (evOperand Γ s)).head?.elim [] refOf
    | .builtin .clear => (c.args.toList.map (evOperand Γ s)).head?.elim [] refOf
    | .builtin _ => []
    | .value f => match evOperand Γ s f with
      | .fn (.func g) a b => if Γ.plain g then [] else reach 0 H fuelR (refsL (a ++ c.args.toList.map (evOperand Γ s) ++ b)) []
      | _ => []
    | _ => []
  | _ => []

def bindsAny (e : Edge) : Bool := Region.binds .any e

/-- Whom each operation comes after, through others too. -/
def ancGo : List Oper → List (List Nat) → List (List Nat)
  | [], acc => acc
  | o :: rest, acc => ancGo rest (acc ++ [o.after.toList.foldl (fun l e => if bindsAny e then l ++ [e.on] ++ acc.getD e.on [] else l) []])
def ancs (ops : List Oper) : List (List Nat) := ancGo ops []

/-- Edges lead back; no slot is written twice. -/
def backward : List Oper → Nat → Bool
  | [], _ => true
  | o :: rest, i => (o.after.toList.all fun e => !bindsAny e || e.on < i) && backward rest (i + 1)
def dsts (ops : List Oper) : List Nat := ops.filterMap (·.dst)
def nodupB : List Nat → Bool
  | [] => true
  | x :: l => !l.contains x && nodupB l

structure Hint where
  w : List Nat
  lb : Nat
  la : Nat

section
variable (P : Program)

def hintsGo (Γ : Env) (call : CallF) (all : List Oper) : List Oper → List V → Heap → Option (List Hint)
  | [], _, _ => some []
  | o :: rest, s, H => match wantedV all s o with
    | some true => match evOp P Γ call s H o.op with
      | some (v, H') => (hintsGo Γ call all rest (putS s o.dst v) H').map (⟨writesOf Γ s H o.op, H.length, H'.length⟩ :: ·)
      | none => none
    | some false => (hintsGo Γ call all rest (putS s o.dst V.undef) H).map (⟨[], H.length, H.length⟩ :: ·)
    | none => none

def unordered (as : List (List Nat)) (i j : Nat) : Bool := i != j && !(as.getD i []).contains j && !(as.getD j []).contains i
def maskSlots (as : List (List Nat)) (i : Nat) : List Oper → Nat → List V → List V
  | [], _, s => s
  | o :: rest, j, s => maskSlots as i rest (j + 1) (if unordered as i j then putS s o.dst .junk else s)
def maskIds (as : List (List Nat)) (i : Nat) : List Hint → Nat → List Nat
  | [], _ => []
  | h :: rest, j => (if unordered as i j then h.w ++ (List.range (h.la - h.lb)).map (h.lb + ·) else []) ++ maskIds as i rest (j + 1)
def maskHeap (M : List Nat) (H : Heap) : Heap := H.mapIdx fun id b => if M.contains id then none else b
def mergeHeap (M : List Nat) (H H' : Heap) : Heap := H'.mapIdx fun id b => if M.contains id then H.getD id none else b

/-- No operation that may come before, though it stands behind, makes a block. -/
def laterOk (as : List (List Nat)) (i : Nat) : List Hint → Nat → Bool
  | [], _ => true
  | h :: rest, j => (decide (j ≤ i) || !unordered as i j || h.la == h.lb) && laterOk as i rest (j + 1)
def boundedS (n : Nat) (s : List V) (H : Heap) : Bool := (refsL s).all (decide <| · < n) && H.all fun b => (blkRefs b).all (decide <| · < n)

def drawGo (Γ : Env) (call : CallF) (all : List Oper) (as : List (List Nat)) (hs : List Hint) : List Oper → Nat → List V → Heap → Option (List V × Heap)
  | [], _, s, H => some (s, H)
  | o :: rest, i, s, H =>
    let sm := maskSlots as i all 0 s
    match wantedV all sm o, hs[i]? with
    | some true, some h =>
      let M := maskIds as i hs 0
      match evOp P Γ call sm (maskHeap M H) o.op with
      | some (v, H') => if h.lb = H.length ∧ h.la = H'.length ∧ h.w = writesOf Γ sm (maskHeap M H) o.op ∧ (h.w.all (fun id => decide (id < H.length) && !M.contains id)) = true ∧ (laterOk as i hs 0 || boundedS H.length sm (maskHeap M H)) = true then
          drawGo Γ call all as hs rest (i + 1) (putS s o.dst v) (mergeHeap M H H') else none
      | none => none
    | some false, some h => if h.lb = H.length ∧ h.la = H.length ∧ h.w = [] then drawGo Γ call all as hs rest (i + 1) (putS s o.dst V.undef) H else none
    | _, _ => none

def evRegion (Γ : Env) (call : CallF) (ops : List Oper) (draw : Bool) (s : List V) (H : Heap) : Option (List V × Heap) :=
  if draw then
    if backward ops 0 && nodupB (dsts ops) then
      match hintsGo P Γ call ops ops s H with
      | some hs => drawGo P Γ call ops (ancs ops) hs ops 0 s H
      | none => none
    else none
  else evOpsGo P Γ call ops ops s H

/-! ### Code -/
inductive Ex where
  | normal
  | exit (id : Nat)
  | ret

/-- The first region in a piece of code: by it a loop is told. -/
def firstRegion : Code → Nat
  | .region id _ _ => id
  | .seq a b => match firstRegion a with
    | 0 => firstRegion b
    | n => n
  | .block _ c => firstRegion c
  | .scope c => firstRegion c
  | .loop c => firstRegion c
  | _ => 0

def keepLive (l : List Nat) (s : List V) : List V := s.mapIdx fun i v => if l.contains i then v else .junk

/-- A loop's head: slots that don't matter are forgotten; blocks are numbered anew. -/
def tidy (Γ : Env) (f m : Nat) (id : Nat) (s : List V) (H : Heap) : List V × Heap :=
  match Γ.live f id with
  | none => (s, H)
  | some l =>
    let s' := keepLive l s
    if Γ.cold f id then
      let L := topPlace m H fuelR (leavesL s') []
      (s'.map (coldV m L H), coldHeap m L H)
    else
    let L := place m H fuelR (rootLeaves m H ++ leavesL s') []
    (renL (keepOf m L) s', keepHeap m L H)

def evLoop (step : List V → Heap → Option (Ex × List V × Heap)) : Nat → List V → Heap → Option (Ex × List V × Heap)
  | 0, _, _ => none
  | n + 1, s, H => match step s H with
    | some (.normal, s', H') => evLoop step n s' H'
    | r => r

def evCode (Γ : Env) (call : CallF) (n f m : Nat) : Code → List V → Heap → Option (Ex × List V × Heap)
  | .skip, s, H => some (.normal, s, H)
  | .region _ ops draw, s, H => match evRegion P Γ call ops.toList draw s H with
    | some (s', H') => some (.normal, s', H')
    | none => none
  | .seq a b, s, H => match evCode Γ call n f m a s H with
    | some (.normal, s', H') => evCode Γ call n f m b s' H'
    | r => r
  | .cond c x y, s, H => match evOperand Γ s c with
    | .bool t => if t then evCode Γ call n f m x s H else evCode Γ call n f m y s H
    | _ => none
  | .block id c, s, H => match evCode Γ call n f m c s H with
    | some (.exit j, s', H') => if j = id then some (.normal, s', H') else some (.exit j, s', H')
    | r => r
  | .loop c, s, H => evLoop (fun s H => evCode Γ call n f m c (tidy Γ f m (firstRegion c) s H).1 (tidy Γ f m (firstRegion c) s H).2) n s H
  | .scope c, s, H => evCode Γ call n f m c s H
  | .label _, s, H => some (.normal, s, H)
  | .exit id, s, H => some (.exit id, s, H)
  | .ret, s, H => some (.ret, s, H)
  | _, _, _ => none

def resultO (s : List V) (H : Heap) : ResultVar → Option V
  | .tmp t => some (getS s t)
  | .cell a t => loadV P H t (getS s a)
def resultsO (s : List V) (H : Heap) : List ResultVar → Option (List V)
  | [] => some []
  | r :: rs => match resultO P s H r, resultsO s H rs with
    | some v, some l => some (v :: l)
    | _, _ => none
def packV : List V → V
  | [v] => v
  | l => .tup l

/-- At a function's end: what its result and the caller's blocks reach is kept. -/
def finish (m : Nat) (H : Heap) (r : V) : V × Heap :=
  let L := place m H fuelR (rootLeaves m H ++ r.leaves) []
  (r.ren (keepOf m L), keepHeap m L H)

def evBody (Γ : Env) (call : CallF) (n f : Nat) (fn : Func) (args : List V) (H : Heap) : Option (V × Heap) :=
  match fn.body with
  | none => none
  | some c =>
    match evCode P Γ call n f H.length c (args ++ List.replicate (fn.ntmps - args.length) V.undef) H with
    | some (.exit _, _, _) => none
    | some (_, s, G) => match resultsO P s G fn.results.toList with
      | some l => some (finish H.length G (packV l))
      | none => none
    | none => none

def evF (Γ : Env) : Nat → CallF
  | 0, _, _, _ => none
  | k + 1, f, args, H => match Γ.orc f args H with
    | some r => some r
    | none => match P.funcs[f]? with
      | some fn => if fn.name = "runtime.NumGoroutine" then none else evBody P Γ (evF Γ k) k f fn args H
      | none => none
end
end Go.Ev
