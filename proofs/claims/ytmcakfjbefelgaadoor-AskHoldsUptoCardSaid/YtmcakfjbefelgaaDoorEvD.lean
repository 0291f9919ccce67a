/-
  FOR EVALUATION BY 'simp' (own work).
-/
import Derived.Test.YtmcakfjbefelgaaDoorEvC
import Derived.KernelRfl
set_option linter.unusedSimpArgs false
set_option linter.unusedVariables false
namespace Go.Ev
open Go

/-- A loop, left as it is by 'simp'. -/
def evLoopC (P : Program) (Γ : Env) (call : CallF) (n f m : Nat) (c : Code) (q : Nat) (s : List V) (H : Heap) : Option (Ex × List V × Heap) :=
  evLoop (fun s H => evCode P Γ call n f m c (tidy Γ f m (firstRegion c) s H).1 (tidy Γ f m (firstRegion c) s H).2) q s H

section
variable {P : Program} {Γ : Env} {call : CallF} {n f m : Nat}

@[simp] theorem evCode_skip (s : List V) (H : Heap) : evCode P Γ call n f m .skip s H = some (.normal, s, H) := rfl
/-- What follows a region, a piece of code, a block. -/
def regNext (r : Option (List V × Heap)) : Option (Ex × List V × Heap) := match r with
  | some (s', H') => some (.normal, s', H')
  | none => none
@[simp] theorem regNext_some (s : List V) (H : Heap) : regNext (some (s, H)) = some (.normal, s, H) := rfl
@[simp] theorem regNext_none : regNext none = none := rfl
@[simp] theorem regNext_ite (c : Prop) [Decidable c] (x y : Option (List V × Heap)) : regNext (if c then x else y) = if c then regNext x else regNext y := by split <;> rfl
def seqNext (P : Program) (Γ : Env) (call : CallF) (n f m : Nat) (b : Code) (r : Option (Ex × List V × Heap)) : Option (Ex × List V × Heap) := match r with
  | some (.normal, s', H') => evCode P Γ call n f m b s' H'
  | r => r
@[simp] theorem seqNext_normal (b : Code) (s : List V) (H : Heap) : seqNext P Γ call n f m b (some (.normal, s, H)) = evCode P Γ call n f m b s H := rfl
@[simp] theorem seqNext_exit (b : Code) (i : Nat) (s : List V) (H : Heap) : seqNext P Γ call n f m b (some (.exit i, s, H)) = some (.exit i, s, H) := rfl
@[simp] theorem seqNext_ret (b : Code) (s : List V) (H : Heap) : seqNext P Γ call n f m b (some (.ret, s, H)) = some (.ret, s, H) := rfl
@[simp] theorem seqNext_none (b : Code) : seqNext P Γ call n f m b none = none := rfl
@[simp] theorem seqNext_ite (b : Code) (c : Prop) [Decidable c] (x y : Option (Ex × List V × Heap)) : seqNext P Γ call n f m b (if c then x else y) = if c then seqNext P Γ call n f m b x else seqNext P Γ call n f m b y := by split <;> rfl
def blockNext (id : Nat) (r : Option (Ex × List V × Heap)) : Option (Ex × List V × Heap) := match r with
  | some (.exit j, s', H') => if j = id then some (.normal, s', H') else some (.exit j, s', H')
  | r => r
@[simp] theorem blockNext_normal (id : Nat) (s : List V) (H : Heap) : blockNext id (some (.normal, s, H)) = some (.normal, s, H) := rfl
@[simp] theorem blockNext_exit (id i : Nat) (s : List V) (H : Heap) : blockNext id (some (.exit i, s, H)) = if i = id then some (.normal, s, H) else some (.exit i, s, H) := rfl
@[simp] theorem blockNext_ret (id : Nat) (s : List V) (H : Heap) : blockNext id (some (.ret, s, H)) = some (.ret, s, H) := rfl
@[simp] theorem blockNext_none (id : Nat) : blockNext id none = none := rfl
@[simp] theorem blockNext_ite (id : Nat) (c : Prop) [Decidable c] (x y : Option (Ex × List V × Heap)) : blockNext id (if c then x else y) = if c then blockNext id x else blockNext id y := by split <;> rfl
@[simp] theorem evCode_region (id : Nat) (ops : Array Oper) (draw : Bool) (s : List V) (H : Heap) : evCode P Γ call n f m (.region id ops draw) s H = regNext (evRegion P Γ call ops.toList draw s H) := rfl
@[simp] theorem evCode_seq (a b : Code) (s : List V) (H : Heap) : evCode P Γ call n f m (.seq a b) s H = seqNext P Γ call n f m b (evCode P Γ call n f m a s H) := rfl
@[simp] theorem evCode_block (id : Nat) (c : Code) (s : List V) (H : Heap) : evCode P Γ call n f m (.block id c) s H = blockNext id (evCode P Γ call n f m c s H) := rfl
@[simp] theorem evCode_loop (c : Code) (s : List V) (H : Heap) : evCode P Γ call n f m (.loop c) s H = evLoopC P Γ call n f m c n s H := rfl
@[simp] theorem evCode_scope (c : Code) (s : List V) (H : Heap) : evCode P Γ call n f m (.scope c) s H = evCode P Γ call n f m c s H := rfl
@[simp] theorem evCode_label (l : Nat) (s : List V) (H : Heap) : evCode P Γ call n f m (.label l) s H = some (.normal, s, H) := rfl
@[simp] theorem evCode_exit (id : Nat) (s : List V) (H : Heap) : evCode P Γ call n f m (.exit id) s H = some (.exit id, s, H) := rfl
@[simp] theorem evCode_ret (s : List V) (H : Heap) : evCode P Γ call n f m .ret s H = some (.ret, s, H) := rfl
@[simp] theorem evRegion_in (ops : List Oper) (s : List V) (H : Heap) : evRegion P Γ call ops false s H = evOpsGo P Γ call ops ops s H := rfl

/-- A function's end. -/
def bodyEnd (P : Program) (rs : List ResultVar) (m : Nat) (r : Option (Ex × List V × Heap)) : Option (V × Heap) := match r with
  | some (.exit _, _, _) => none
  | some (_, s, G) => (resultsO P s G rs).map fun l => finish m G (packV l)
  | none => none
@[simp] theorem bodyEnd_normal (rs : List ResultVar) (m : Nat) (s : List V) (H : Heap) : bodyEnd P rs m (some (.normal, s, H)) = (resultsO P s H rs).map fun l => finish m H (packV l) := rfl
@[simp] theorem bodyEnd_ret (rs : List ResultVar) (m : Nat) (s : List V) (H : Heap) : bodyEnd P rs m (some (.ret, s, H)) = (resultsO P s H rs).map fun l => finish m H (packV l) := rfl
@[simp] theorem bodyEnd_exit (rs : List ResultVar) (m i : Nat) (s : List V) (H : Heap) : bodyEnd P rs m (some (.exit i, s, H)) = none := rfl
@[simp] theorem bodyEnd_none (rs : List ResultVar) (m : Nat) : bodyEnd P rs m none = none := rfl
@[simp] theorem bodyEnd_ite (rs : List ResultVar) (m : Nat) (c : Prop) [Decidable c] (x y : Option (Ex × List V × Heap)) : bodyEnd P rs m (if c then x else y) = if c then bodyEnd P rs m x else bodyEnd P rs m y := by split <;> rfl
theorem evF_body {k : Nat} {fn : Func} {c : Code} (hf : P.funcs[f]? = some fn) (hn : fn.name ≠ "runtime.NumGoroutine") (hb : fn.body = some c) (ho : ∀ args H, Γ.orc f args H = none) (args : List V) (H : Heap) :
    evF P Γ (k + 1) f args H = bodyEnd P fn.results.toList H.length (evCode P Γ (evF P Γ k) k f H.length c (args ++ List.replicate (fn.ntmps - args.length) V.undef) H) := by
  rw [evF, ho, hf]
  simp only [if_neg hn]
  unfold evBody
  rw [hb]
  simp only
  unfold bodyEnd
  split <;> rename_i hx
  · simp only [hx]
  · rename_i ex s G hne
    simp only [hx]
    cases ex with
    | exit i => exact absurd rfl (hne _)
    | normal => cases resultsO P s G fn.results.toList <;> rfl
    | ret => cases resultsO P s G fn.results.toList <;> rfl
  · simp only [hx]
end

/-- One operation more. -/
def opNext (P : Program) (Γ : Env) (call : CallF) (all rest : List Oper) (d : Option Tmp) (s : List V) (r : Option (V × Heap)) : Option (List V × Heap) := match r with
  | some (v, H') => evOpsGo P Γ call all rest (putS s d v) H'
  | none => none
@[simp] theorem opNext_some (P : Program) (Γ : Env) (call : CallF) (all rest : List Oper) (d : Option Tmp) (s : List V) (v : V) (H' : Heap) : opNext P Γ call all rest d s (some (v, H')) = evOpsGo P Γ call all rest (putS s d v) H' := rfl
@[simp] theorem opNext_none (P : Program) (Γ : Env) (call : CallF) (all rest : List Oper) (d : Option Tmp) (s : List V) : opNext P Γ call all rest d s none = none := rfl
@[simp] theorem opNext_ite (P : Program) (Γ : Env) (call : CallF) (all rest : List Oper) (d : Option Tmp) (s : List V) (c : Prop) [Decidable c] (x y : Option (V × Heap)) :
    opNext P Γ call all rest d s (if c then x else y) = if c then opNext P Γ call all rest d s x else opNext P Γ call all rest d s y := by split <;> rfl
@[simp] theorem evOpsGo_nil (P : Program) (Γ : Env) (call : CallF) (all : List Oper) (s : List V) (H : Heap) : evOpsGo P Γ call all [] s H = some (s, H) := rfl
/-- A guarded operation, where the guard is not known yet: kept as it is till 'thaw'. -/
def stepF (P : Program) (Γ : Env) (call : CallF) (all : List Oper) (o : Oper) (rest : List Oper) (s : List V) (H : Heap) (b : Bool) : Option (List V × Heap) :=
  if b then opNext P Γ call all rest o.dst s (evOp P Γ call s H o.op) else evOpsGo P Γ call all rest (putS s o.dst V.undef) H
def stepW (P : Program) (Γ : Env) (call : CallF) (all : List Oper) (o : Oper) (rest : List Oper) (s : List V) (H : Heap) (w : Option Bool) : Option (List V × Heap) := match w with
  | some b => stepF P Γ call all o rest s H b
  | none => none
@[simp] theorem stepW_true (P : Program) (Γ : Env) (call : CallF) (all : List Oper) (o : Oper) (rest : List Oper) (s : List V) (H : Heap) : stepW P Γ call all o rest s H (some true) = opNext P Γ call all rest o.dst s (evOp P Γ call s H o.op) := rfl
@[simp] theorem stepW_false (P : Program) (Γ : Env) (call : CallF) (all : List Oper) (o : Oper) (rest : List Oper) (s : List V) (H : Heap) : stepW P Γ call all o rest s H (some false) = evOpsGo P Γ call all rest (putS s o.dst V.undef) H := rfl
@[simp] theorem stepW_none (P : Program) (Γ : Env) (call : CallF) (all : List Oper) (o : Oper) (rest : List Oper) (s : List V) (H : Heap) : stepW P Γ call all o rest s H none = none := rfl
@[simp low] theorem stepW_any (P : Program) (Γ : Env) (call : CallF) (all : List Oper) (o : Oper) (rest : List Oper) (s : List V) (H : Heap) (b : Bool) : stepW P Γ call all o rest s H (some b) = if b = true then stepF P Γ call all o rest s H true else stepF P Γ call all o rest s H false := by cases b <;> rfl
@[simp 500] theorem stepW_not (P : Program) (Γ : Env) (call : CallF) (all : List Oper) (o : Oper) (rest : List Oper) (s : List V) (H : Heap) (b : Bool) : stepW P Γ call all o rest s H (some (!b)) = if b = true then stepF P Γ call all o rest s H false else stepF P Γ call all o rest s H true := by cases b <;> rfl
@[simp] theorem evOpsGo_cons (P : Program) (Γ : Env) (call : CallF) (all : List Oper) (o : Oper) (rest : List Oper) (s : List V) (H : Heap) :
    evOpsGo P Γ call all (o :: rest) s H = stepW P Γ call all o rest s H (wantedV all s o) := by
  rw [evOpsGo]
  cases wantedV all s o with
  | none => rfl
  | some b => cases b <;> rfl

/-- An 'if', likewise. -/
def condF (P : Program) (Γ : Env) (call : CallF) (n f m : Nat) (x y : Code) (s : List V) (H : Heap) (b : Bool) : Option (Ex × List V × Heap) := if b then evCode P Γ call n f m x s H else evCode P Γ call n f m y s H
def condW (P : Program) (Γ : Env) (call : CallF) (n f m : Nat) (x y : Code) (s : List V) (H : Heap) (v : V) : Option (Ex × List V × Heap) := match v with
  | .bool b => condF P Γ call n f m x y s H b
  | _ => none
section
variable {P : Program} {Γ : Env} {call : CallF} {n f m : Nat}
@[simp] theorem condW_true (x y : Code) (s : List V) (H : Heap) : condW P Γ call n f m x y s H (.bool true) = evCode P Γ call n f m x s H := rfl
@[simp] theorem condW_false (x y : Code) (s : List V) (H : Heap) : condW P Γ call n f m x y s H (.bool false) = evCode P Γ call n f m y s H := rfl
@[simp low] theorem condW_any (x y : Code) (s : List V) (H : Heap) (b : Bool) : condW P Γ call n f m x y s H (.bool b) = if b = true then condF P Γ call n f m x y s H true else condF P Γ call n f m x y s H false := by cases b <;> rfl
@[simp 500] theorem condW_not (x y : Code) (s : List V) (H : Heap) (b : Bool) : condW P Γ call n f m x y s H (.bool (!b)) = if b = true then condF P Γ call n f m x y s H false else condF P Γ call n f m x y s H true := by cases b <;> rfl
@[simp] theorem evCode_cond (c : Operand) (x y : Code) (s : List V) (H : Heap) : evCode P Γ call n f m (.cond c x y) s H = condW P Γ call n f m x y s H (evOperand Γ s c) := by
  rw [evCode]
  unfold condW
  split <;> simp_all [condF]
end

/-! ### Operations on integers, by name -/
/-- A function that the kernel does not open (it would count down a great literal). -/
noncomputable def closed (f : IntKind → Int → Int → Int) : { g : IntKind → Int → Int → Int // g = f } := Classical.choice ⟨⟨f, rfl⟩⟩
noncomputable def andI : IntKind → Int → Int → Int := (closed fun k a b => k.wrap (BitVec.ofInt k.bits a &&& BitVec.ofInt k.bits b).toNat).1
theorem andI_eq (k : IntKind) (a b : Int) : andI k a b = k.wrap (BitVec.ofInt k.bits a &&& BitVec.ofInt k.bits b).toNat := by unfold andI; rw [(closed _).2]
noncomputable def orI : IntKind → Int → Int → Int := (closed fun k a b => k.wrap (BitVec.ofInt k.bits a ||| BitVec.ofInt k.bits b).toNat).1
theorem orI_eq (k : IntKind) (a b : Int) : orI k a b = k.wrap (BitVec.ofInt k.bits a ||| BitVec.ofInt k.bits b).toNat := by unfold orI; rw [(closed _).2]
noncomputable def xorI : IntKind → Int → Int → Int := (closed fun k a b => k.wrap (BitVec.ofInt k.bits a ^^^ BitVec.ofInt k.bits b).toNat).1
theorem xorI_eq (k : IntKind) (a b : Int) : xorI k a b = k.wrap (BitVec.ofInt k.bits a ^^^ BitVec.ofInt k.bits b).toNat := by unfold xorI; rw [(closed _).2]
noncomputable def andNotI : IntKind → Int → Int → Int := (closed fun k a b => k.wrap (BitVec.ofInt k.bits a &&& ~~~ BitVec.ofInt k.bits b).toNat).1
theorem andNotI_eq (k : IntKind) (a b : Int) : andNotI k a b = k.wrap (BitVec.ofInt k.bits a &&& ~~~ BitVec.ofInt k.bits b).toNat := by unfold andNotI; rw [(closed _).2]
noncomputable def addI : IntKind → Int → Int → Int := (closed fun k a b => k.wrap (a + b)).1
theorem addI_eq (k : IntKind) (a b : Int) : addI k a b = k.wrap (a + b) := by unfold addI; rw [(closed _).2]
noncomputable def subI : IntKind → Int → Int → Int := (closed fun k a b => k.wrap (a - b)).1
theorem subI_eq (k : IntKind) (a b : Int) : subI k a b = k.wrap (a - b) := by unfold subI; rw [(closed _).2]
noncomputable def mulI : IntKind → Int → Int → Int := (closed fun k a b => k.wrap (a * b)).1
theorem mulI_eq (k : IntKind) (a b : Int) : mulI k a b = k.wrap (a * b) := by unfold mulI; rw [(closed _).2]
noncomputable def quoI : IntKind → Int → Int → Int := (closed fun k a b => k.wrap (a.tdiv b)).1
theorem quoI_eq (k : IntKind) (a b : Int) : quoI k a b = k.wrap (a.tdiv b) := by unfold quoI; rw [(closed _).2]
noncomputable def shlI : IntKind → Int → Int → Int := (closed fun k a b => k.wrap (a * 2 ^ (min b.toNat k.bits))).1
theorem shlI_eq (k : IntKind) (a b : Int) : shlI k a b = k.wrap (a * 2 ^ (min b.toNat k.bits)) := by unfold shlI; rw [(closed _).2]
noncomputable def shrI : IntKind → Int → Int → Int := (closed fun k a b => a.fdiv (2 ^ (min b.toNat k.bits))).1
theorem shrI_eq (k : IntKind) (a b : Int) : shrI k a b = a.fdiv (2 ^ (min b.toNat k.bits)) := by unfold shrI; rw [(closed _).2]
section
variable (k : IntKind) (a b : Int)
@[simp] theorem binInt_add : binInt .add k a b = some (.int k (addI k a b)) := by rw [binInt, addI_eq]
@[simp] theorem binInt_sub : binInt .sub k a b = some (.int k (subI k a b)) := by rw [binInt, subI_eq]
@[simp] theorem binInt_mul : binInt .mul k a b = some (.int k (mulI k a b)) := by rw [binInt, mulI_eq]
@[simp] theorem binInt_quo : binInt .quo k a b = if b = 0 then none else some (.int k (quoI k a b)) := by rw [binInt, quoI_eq]
@[simp] theorem binInt_rem : binInt .rem k a b = if b = 0 then none else some (.int k (a.tmod b)) := by rw [binInt]
@[simp] theorem binInt_and : binInt .and k a b = some (.int k (andI k a b)) := by rw [binInt, andI_eq]
@[simp] theorem binInt_or : binInt .or k a b = some (.int k (orI k a b)) := by rw [binInt, orI_eq]
@[simp] theorem binInt_xor : binInt .xor k a b = some (.int k (xorI k a b)) := by rw [binInt, xorI_eq]
@[simp] theorem binInt_andNot : binInt .andNot k a b = some (.int k (andNotI k a b)) := by rw [binInt, andNotI_eq]
@[simp] theorem binInt_eql : binInt .eql k a b = some (.bool (decide (a = b))) := by rw [binInt]; by_cases h : a = b <;> simp [h]
@[simp] theorem binInt_neq : binInt .neq k a b = some (.bool (!decide (a = b))) := by rw [binInt]; by_cases h : a = b <;> simp [h]
@[simp] theorem binInt_lss : binInt .lss k a b = some (.bool (a < b)) := by rw [binInt]
@[simp] theorem binInt_leq : binInt .leq k a b = some (.bool (a ≤ b)) := by rw [binInt]
@[simp] theorem binInt_gtr : binInt .gtr k a b = some (.bool (a > b)) := by rw [binInt]
@[simp] theorem binInt_geq : binInt .geq k a b = some (.bool (a ≥ b)) := by rw [binInt]
@[simp] theorem binShift_shl : binShift .shl k a b = if b < 0 then none else some (.int k (shlI k a b)) := by rw [binShift, shlI_eq]
@[simp] theorem binShift_shr : binShift .shr k a b = if b < 0 then none else some (.int k (shrI k a b)) := by rw [binShift, shrI_eq]
end

def byteAt (s : ByteArray) (i : Int) : Int := ((s.data.toList.getD i.toNat 0).toNat : Int)
@[simp] theorem indexV_str {P : Program} {t : TypeId} {s : ByteArray} {k : IntKind} {i : Int} (h : P.underlying t = some .string) (h0 : 0 ≤ i) (h1 : i.toNat < s.size) : indexV P t (.str s) (.int k i) = some (.int .u8 (byteAt s i)) := by
  have h2 : i.toNat < s.data.toList.length := h1
  unfold indexV byteAt
  rw [h]
  simp only [if_pos h0]
  have : s[i.toNat]? = some s[i.toNat] := by rw [getElem?_pos s i.toNat h1]
  rw [this]
  simp only [Option.some.injEq, V.int.injEq, true_and]
  rw [List.getD_eq_getElem?_getD, List.getElem?_eq_getElem h2]
  rfl
@[simp] theorem indexV_agg {P : Program} {t e : TypeId} {n : Nat} {cs : List V} {k : IntKind} {i : Int} (h : P.underlying t = some (.array n e)) : indexV P t (.agg cs) (.int k i) = match tsz P e with
    | some sz => if 0 ≤ i && i < n then partV P e cs (i.toNat * sz) else none
    | none => none := by
  unfold indexV
  rw [h]
  rfl

attribute [simp] wantedV evOp evPlain evOperand ofConst ofConstL evUn resultsO resultO packV finish reach rootsOf V.refs refsL Blk.refs blkRefs place rootLeaves blkLeavesM V.leaves leavesL Blk.leavesM keepHeap keepOf indexIn V.ren V.sub subL renL Blk.ren V.undef
  loadV storeV cellsAt writeCells evBuiltin fieldAddrV fieldV boundV sliceAtV evCall callPlain callWide backOf setMany V.own ownL Blk.own fuelR
section
@[simp] theorem cellsO_agg (cs : List V) : (V.agg cs).cellsO = some cs := rfl
@[simp] theorem cellsO_tup (cs : List V) : (V.tup cs).cellsO = none := rfl
@[simp] theorem cellsO_junk : V.junk.cellsO = none := rfl
@[simp] theorem cellsO_bool (b : Bool) : (V.bool b).cellsO = some [.bool b] := rfl
@[simp] theorem cellsO_int (k : IntKind) (n : Int) : (V.int k n).cellsO = some [.int k n] := rfl
@[simp] theorem cellsO_str (s : ByteArray) : (V.str s).cellsO = some [.str s] := rfl
@[simp] theorem cellsO_nilp : V.nilp.cellsO = some [.nilp] := rfl
@[simp] theorem cellsO_nils : V.nils.cellsO = some [.nils] := rfl
@[simp] theorem cellsO_nilm : V.nilm.cellsO = some [.nilm] := rfl
@[simp] theorem cellsO_nilf : V.nilf.cellsO = some [.nilf] := rfl
@[simp] theorem cellsO_nili : V.nili.cellsO = some [.nili] := rfl
@[simp] theorem cellsO_ptr (i o : Nat) : (V.ptr i o).cellsO = some [.ptr i o] := rfl
@[simp] theorem cellsO_sl (i o l s : Nat) : (V.sl i o l s).cellsO = some [.sl i o l s] := rfl
@[simp] theorem cellsO_map (i : Nat) : (V.map i).cellsO = some [.map i] := rfl
@[simp] theorem cellsO_rov (cs : List V) : (V.ro cs).cellsO = some [.ro cs] := rfl
@[simp] theorem cellsO_ros (n : Nat) (cs : List V) : (V.ros n cs).cellsO = some [.ros n cs] := rfl
@[simp] theorem cellsO_rom (ks vs : List V) : (V.rom ks vs).cellsO = some [.rom ks vs] := rfl
@[simp] theorem cellsO_fn (f : Fn) (a b : List V) : (V.fn f a b).cellsO = some [.fn f a b] := rfl
@[simp] theorem cellsO_iface (t : Nat) (v : V) : (V.iface t v).cellsO = some [.iface t v] := rfl
end
end Go.Ev

/-
  SLICES THAT MAY BE nil, AND ROWS OF FLAT VALUES (own work).
-/
set_option linter.unusedSimpArgs false
set_option linter.unusedVariables false
namespace Go.Ev
open Go

/-- A slice that is read only; nil if z and it is empty. -/
def roV (z : Bool) (n : Nat) (cs : List V) : V := if z && n == 0 then .nils else .ros n cs
/-- An own slice, likewise. -/
def ownV (z : Bool) (id off n sz : Nat) : V := if z && n == 0 then .nils else .sl id off n sz
/-- Its block. -/
def ownB (z : Bool) (n : Nat) (cs : List V) : Option Blk := if z && n == 0 then none else some (.cells cs false)

@[simp] theorem roV_succ (z : Bool) (n : Nat) (cs : List V) : roV z (n + 1) cs = .ros (n + 1) cs := by simp [roV]
@[simp] theorem roV_nil (cs : List V) : roV true 0 cs = .nils := by simp [roV]
@[simp] theorem roV_false (n : Nat) (cs : List V) : roV false n cs = .ros n cs := by simp [roV]
@[simp] theorem ownV_succ (z : Bool) (id off n sz : Nat) : ownV z id off (n + 1) sz = .sl id off (n + 1) sz := by simp [ownV]
@[simp] theorem ownV_nil (id off sz : Nat) : ownV true id off 0 sz = .nils := by simp [ownV]
@[simp] theorem ownV_false (id off n sz : Nat) : ownV false id off n sz = .sl id off n sz := by simp [ownV]
@[simp] theorem ownB_succ (z : Bool) (n : Nat) (cs : List V) : ownB z (n + 1) cs = some (.cells cs false) := by simp [ownB]
@[simp] theorem ownB_nil (cs : List V) : ownB true 0 cs = none := by simp [ownB]
@[simp] theorem ownB_false (n : Nat) (cs : List V) : ownB false n cs = some (.cells cs false) := by simp [ownB]

/-- Nothing that refers to a block that may turn. -/
def V.flat : V → Bool
  | .bool _ => true
  | .int _ _ => true
  | .str _ => true
  | .nils => true
  | .ros _ _ => true
  | .nilp => true
  | .ro _ => true
  | .nilm => true
  | .rom _ _ => true
  | .nilf => true
  | .nili => true
  | _ => false
@[simp] theorem flat_roV (z : Bool) (n : Nat) (cs : List V) : (roV z n cs).flat = true := by unfold roV; split <;> rfl

section
variable {P : Program} {Γ : Env} {t e : TypeId}

/-- Slice types; their elements' size. -/
def isSl (P : Program) (t : TypeId) : Bool := match P.underlying t with | some (.slice _) => true | _ => false
def elSz (P : Program) (t : TypeId) : Option Nat := match P.underlying t with | some (.slice e) => tsz P e | _ => none
def isStrT (P : Program) (t : TypeId) : Bool := match P.underlying t with | some .string => true | _ => false
def isArr (P : Program) (t : TypeId) : Bool := match P.underlying t with | some (.array _ _) => true | _ => false
def isMapT (P : Program) (t : TypeId) : Bool := match P.underlying t with | some (.map _ _) => true | _ => false
attribute [simp] isSl elSz isStrT isArr isMapT
theorem isSl_spec (h : isSl P t = true) : ∃ e, P.underlying t = some (.slice e) ∧ elSz P t = tsz P e := by
  unfold isSl at h
  split at h
  · rename_i e he; exact ⟨e, he, by simp only [elSz, he]⟩
  · cases h
theorem isStrT_spec (h : isStrT P t = true) : P.underlying t = some .string := by
  unfold isStrT at h
  split at h
  · assumption
  · cases h
theorem isMapT_spec (h : isMapT P t = true) : ∃ a b, P.underlying t = some (.map a b) := by
  unfold isMapT at h
  split at h
  · rename_i a b he; exact ⟨a, b, he⟩
  · cases h
@[simp] theorem lenV_nils (h : isSl P t = true) (H : Heap) : lenV P H t .nils = some (.int .i64 0) := by
  obtain ⟨e, h, _⟩ := isSl_spec h; simp only [lenV, h]
@[simp] theorem lenV_sl (h : isSl P t = true) (H : Heap) (id off n sz : Nat) : lenV P H t (.sl id off n sz) = some (.int .i64 n) := by
  obtain ⟨e, h, _⟩ := isSl_spec h; simp only [lenV, h]
@[simp] theorem lenV_ros (h : isSl P t = true) (H : Heap) (n : Nat) (cs : List V) : lenV P H t (.ros n cs) = some (.int .i64 n) := by
  obtain ⟨e, h, _⟩ := isSl_spec h; simp only [lenV, h]
@[simp] theorem lenV_str (h : isStrT P t = true) (H : Heap) (s : ByteArray) : lenV P H t (.str s) = some (.int .i64 s.size) := by
  simp only [lenV, isStrT_spec h]
@[simp] theorem lenV_nilm (h : isMapT P t = true) (H : Heap) : lenV P H t .nilm = some (.int .i64 0) := by
  obtain ⟨a, b, h⟩ := isMapT_spec h; simp only [lenV, h]
@[simp] theorem lenV_rom (h : isMapT P t = true) (H : Heap) (ks vs : List V) : lenV P H t (.rom ks vs) = some (.int .i64 ks.length) := by
  obtain ⟨a, b, h⟩ := isMapT_spec h; simp only [lenV, h]
@[simp] theorem lenV_map {c : Nat} {es : List (V × V × Nat)} {id : Nat} {H : Heap} (h : isMapT P t = true) (hH : H[id]? = some (some (.map es c))) : lenV P H t (.map id) = some (.int .i64 es.length) := by
  obtain ⟨a, b, h⟩ := isMapT_spec h; simp only [lenV, h, hH]
@[simp] theorem lenV_ro (h : isSl P t = true) (H : Heap) (z : Bool) (n : Nat) (cs : List V) : lenV P H t (roV z n cs) = some (.int .i64 n) := by
  unfold roV; split
  · rename_i hz; simp at hz; rw [lenV_nils h]; simp [hz.2]
  · exact lenV_ros h _ _ _
@[simp] theorem lenV_own (h : isSl P t = true) (H : Heap) (z : Bool) (id off n sz : Nat) : lenV P H t (ownV z id off n sz) = some (.int .i64 n) := by
  unfold ownV; split
  · rename_i hz; simp at hz; rw [lenV_nils h]; simp [hz.2]
  · exact lenV_sl h _ _ _ _ _
@[simp] theorem indexAddrV_nils (h : isSl P t = true) (i : V) : indexAddrV P t .nils i = none := by
  obtain ⟨e, h, _⟩ := isSl_spec h; simp only [indexAddrV, h]
@[simp] theorem indexAddrV_sl (h : isSl P t = true) (id off n sz : Nat) (k : IntKind) (i : Int) : indexAddrV P t (.sl id off n sz) (.int k i) = (elSz P t).bind fun m => if (0 ≤ i ∧ i < n) ∧ m = sz then some (.ptr id (off + i.toNat * sz)) else none := by
  obtain ⟨e, h, h'⟩ := isSl_spec h
  rw [h']
  simp only [indexAddrV, h]
  cases tsz P e <;> simp
@[simp] theorem indexAddrV_ros (h : isSl P t = true) (n : Nat) (cs : List V) (k : IntKind) (i : Int) : indexAddrV P t (.ros n cs) (.int k i) = (elSz P t).bind fun m => if 0 ≤ i ∧ i < n then some (.ro ((cs.drop (i.toNat * m)).take m)) else none := by
  obtain ⟨e, h, h'⟩ := isSl_spec h
  rw [h']
  simp only [indexAddrV, h]
  cases tsz P e <;> simp
@[simp] theorem indexAddrV_ro (h : isSl P t = true) (z : Bool) (n : Nat) (cs : List V) (k : IntKind) (i : Int) : indexAddrV P t (roV z n cs) (.int k i) = (elSz P t).bind fun m => if 0 ≤ i ∧ i < n then some (.ro ((cs.drop (i.toNat * m)).take m)) else none := by
  unfold roV; split
  · rename_i hz; simp at hz
    rw [indexAddrV_nils h, hz.2]
    cases elSz P t with
    | none => rfl
    | some m => simp only [Option.bind_some]; rw [if_neg (by omega)]
  · exact indexAddrV_ros h _ _ _ _
@[simp] theorem indexAddrV_own (h : isSl P t = true) (z : Bool) (id off n sz : Nat) (k : IntKind) (i : Int) : indexAddrV P t (ownV z id off n sz) (.int k i) = (elSz P t).bind fun m => if (0 ≤ i ∧ i < n) ∧ m = sz then some (.ptr id (off + i.toNat * sz)) else none := by
  unfold ownV; split
  · rename_i hz; simp at hz
    rw [indexAddrV_nils h, hz.2]
    cases elSz P t with
    | none => rfl
    | some m => simp only [Option.bind_some]; rw [if_neg (by omega)]
  · exact indexAddrV_sl h _ _ _ _ _ _
theorem isArr_spec (h : isArr P t = true) : ∃ k e, P.underlying t = some (.array k e) := by
  unfold isArr at h
  split at h
  · rename_i k e he; exact ⟨k, e, he⟩
  · cases h
def arrN (P : Program) (t : TypeId) : Nat × Option Nat := match P.underlying t with | some (.array k e) => (k, tsz P e) | _ => (0, none)
attribute [simp] arrN
@[simp] theorem indexAddrV_arr (h : isArr P t = true) (id off : Nat) (k : IntKind) (i : Int) : indexAddrV P t (.ptr id off) (.int k i) = (arrN P t).2.bind fun m => if 0 ≤ i ∧ i < (arrN P t).1 then some (.ptr id (off + i.toNat * m)) else none := by
  obtain ⟨c, e, h⟩ := isArr_spec h
  simp only [indexAddrV, h, arrN]
  cases tsz P e <;> simp
@[simp] theorem indexAddrV_arro (h : isArr P t = true) (cs : List V) (k : IntKind) (i : Int) : indexAddrV P t (.ro cs) (.int k i) = (arrN P t).2.bind fun m => if 0 ≤ i ∧ i < (arrN P t).1 then some (.ro ((cs.drop (i.toNat * m)).take m)) else none := by
  obtain ⟨c, e, h⟩ := isArr_spec h
  simp only [indexAddrV, h, arrN]
  cases tsz P e <;> simp
@[simp] theorem eqSlice_ro1 (z : Bool) (n : Nat) (cs : List V) : eqSlice (roV z n cs) .nils = some (z && n == 0) := by
  unfold roV; split <;> simp_all [eqSlice]
@[simp] theorem eqSlice_ro2 (z : Bool) (n : Nat) (cs : List V) : eqSlice .nils (roV z n cs) = some (z && n == 0) := by
  unfold roV; split <;> simp_all [eqSlice]
@[simp] theorem eqSlice_own1 (z : Bool) (id off n sz : Nat) : eqSlice (ownV z id off n sz) .nils = some (z && n == 0) := by
  unfold ownV; split <;> simp_all [eqSlice]
@[simp] theorem eqSlice_own2 (z : Bool) (id off n sz : Nat) : eqSlice .nils (ownV z id off n sz) = some (z && n == 0) := by
  unfold ownV; split <;> simp_all [eqSlice]
theorem itemsV_nils (H : Heap) (k : Nat) : itemsV H k .nils = some (0, []) := by simp [itemsV, sliceAtV]
@[simp] theorem itemsV_nil (H : Heap) (k : Nat) : itemsV H k .nils = some (0, []) := itemsV_nils H k
@[simp] theorem itemsV_str (H : Heap) (s : ByteArray) : itemsV H 1 (.str s) = some (s.size, byteCells s) := rfl
@[simp] theorem itemsV_ros (H : Heap) (k n : Nat) (cs : List V) : itemsV H k (.ros n cs) = if n * k ≤ cs.length then some (n, cs.take (n * k)) else none := rfl
def itemsB (k off n : Nat) : Option (Option Blk) → Option (Nat × List V)
  | some (some (.cells cs _)) => if n * k ≤ (cs.drop off).length then some (n, (cs.drop off).take (n * k)) else none
  | _ => none
@[simp] theorem itemsB_cells (k off n : Nat) (cs : List V) (e : Bool) : itemsB k off n (some (some (.cells cs e))) = if n * k ≤ (cs.drop off).length then some (n, (cs.drop off).take (n * k)) else none := rfl
@[simp] theorem itemsV_sl (H : Heap) (k id off n sz : Nat) : itemsV H k (.sl id off n sz) = itemsB k off n H[id]? := by
  simp only [itemsV, sliceAtV]
  cases H[id]? with
  | none => rfl
  | some o => cases o with
    | none => rfl
    | some b => cases b <;> rfl
@[simp] theorem appendS_nils (H : Heap) (n b k : Nat) (vs : List V) : appendS H n b .nils k vs = if k = 0 then some (.nils, H) else if k * b ≤ 140737488355328 then some (.sl H.length 0 k n, H ++ [some (.cells vs false)]) else none := rfl
/-- Behind a slice that was made as a whole. -/
@[simp] theorem appendS_exact {H : Heap} {n b id off len k : Nat} {cs vs : List V} (hH : H[id]? = some (some (.cells cs true))) (hl : off + len * n = cs.length) (hk : k ≠ 0) (hn : n ≠ 0) (hb : (len + k) * b ≤ 140737488355328) :
    appendS H n b (.sl id off len n) k vs = some (.sl H.length 0 (len + k) n, H ++ [some (.cells ((cs.drop off).take (len * n) ++ vs) false)]) := by
  have h1 : ¬ (off + (len + k) * n ≤ cs.length) := by rw [← hl, Nat.add_mul]; have : 0 < k * n := Nat.mul_pos (by omega) (by omega); omega
  simp only [appendS, hH, bne_self_eq_false, Bool.false_eq_true, if_false, if_neg hk, if_neg h1, hl, Nat.le_refl, hb, decide_true, Bool.and_self, if_true]
/-- Behind a slice of which nobody else sees the end. -/
@[simp] theorem appendS_last {H : Heap} {n b id off len k : Nat} {cs vs : List V} (hH : H[id]? = some (some (.cells cs false))) (hl : off + len * n = cs.length) (hk : k ≠ 0) (hn : n ≠ 0) (hb : (len + k) * b ≤ 140737488355328) :
    appendS H n b (.sl id off len n) k vs = some (.sl H.length 0 (len + k) n, H.set id none ++ [some (.cells (cs.drop off ++ vs) false)]) := by
  have h1 : ¬ (off + (len + k) * n ≤ cs.length) := by rw [← hl, Nat.add_mul]; have : 0 < k * n := Nat.mul_pos (by omega) (by omega); omega
  simp only [appendS, hH, bne_self_eq_false, Bool.false_eq_true, if_false, if_neg hk, if_neg h1, hl, Nat.le_refl, hb, decide_true, Bool.and_self, if_true]
@[simp] theorem itemsV_ro (H : Heap) (k : Nat) (z : Bool) (n : Nat) (cs : List V) (hl : n * k ≤ cs.length) : itemsV H k (roV z n cs) = some (n, cs.take (n * k)) := by
  unfold roV; split
  · rename_i hz; simp at hz; simp [itemsV_nils, hz.2]
  · simp [itemsV, sliceAtV, hl]
@[simp] theorem itemsV_own (H : Heap) (k : Nat) (z : Bool) (id off n sz : Nat) (cs : List V) (hH : H[id]? = some (ownB z n cs)) (hl : n * k ≤ (cs.drop off).length) : itemsV H k (ownV z id off n sz) = some (n, (cs.drop off).take (n * k)) := by
  unfold ownV; split
  · rename_i hz; simp at hz; simp [itemsV_nils, hz.2]
  · rename_i hz; rw [ownB, if_neg hz] at hH; simp only [itemsV, sliceAtV, hH]; rw [if_pos hl]
@[simp] theorem sliceV_str (h : isStrT P t = true) (H : Heap) (s : ByteArray) (lo hi : Option V) : sliceV P H t (.str s) lo hi none = (boundV 0 lo).bind fun l => (boundV s.size hi).bind fun h => if l ≤ h ∧ h ≤ s.size then some (.str (s.extract l h)) else none := by
  simp only [sliceV, isStrT_spec h]
  cases boundV 0 lo <;> cases boundV s.size hi <;> simp
@[simp] theorem sliceV_sl (h : isSl P t = true) (H : Heap) (id off n sz : Nat) (lo hi : Option V) : sliceV P H t (.sl id off n sz) lo hi none = (boundV 0 lo).bind fun l => (boundV n hi).bind fun h => (elSz P t).bind fun m => if ((l ≤ h ∧ h ≤ n) ∧ m = sz) ∧ 0 < sz then some (.sl id (off + l * sz) (h - l) sz) else sliceBeyond H id off l h m sz := by
  obtain ⟨e, h, h'⟩ := isSl_spec h
  rw [h']
  simp only [sliceV, h]
  cases boundV 0 lo <;> cases boundV n hi <;> cases tsz P e <;> simp
@[simp] theorem sliceBeyond_in {H : Heap} {id off l h sz : Nat} {cs : List V} (hH : H[id]? = some (some (.cells cs true))) (hl : l ≤ h) (hs : 0 < sz) (hc : off + h * sz ≤ cs.length) : sliceBeyond H id off l h sz sz = some (.sl id (off + l * sz) (h - l) sz) := by
  simp [sliceBeyond, hH, hl, hs, hc]
@[simp] theorem sliceV_ros (h : isSl P t = true) (H : Heap) (n : Nat) (cs : List V) (lo hi : Option V) : sliceV P H t (.ros n cs) lo hi none = (boundV 0 lo).bind fun l => (boundV n hi).bind fun h => (elSz P t).bind fun m => if l ≤ h ∧ h ≤ n then some (.ros (h - l) ((cs.drop (l * m)).take ((h - l) * m))) else none := by
  obtain ⟨e, h, h'⟩ := isSl_spec h
  rw [h']
  simp only [sliceV, h]
  cases boundV 0 lo <;> cases boundV n hi <;> cases tsz P e <;> simp
@[simp] theorem sliceV_nils (h : isSl P t = true) (H : Heap) (lo hi : Option V) : sliceV P H t .nils lo hi none = (boundV 0 lo).bind fun l => (boundV 0 hi).bind fun h => (elSz P t).bind fun _ => if l = 0 ∧ h = 0 then some .nils else none := by
  obtain ⟨e, h, h'⟩ := isSl_spec h
  rw [h']
  simp only [sliceV, h]
  cases boundV 0 lo with
  | none => rfl
  | some l => cases boundV 0 hi with
    | none => cases l <;> simp
    | some h => cases tsz P e <;> cases l <;> cases h <;> simp
@[simp] theorem sliceV_ro (h : isSl P t = true) (H : Heap) (z : Bool) (n : Nat) (cs : List V) (lo hi : Option V) :
    sliceV P H t (roV z n cs) lo hi none = (boundV 0 lo).bind fun l => (boundV n hi).bind fun h => (elSz P t).bind fun m => if l ≤ h ∧ h ≤ n then some (roV (z && n == 0) (h - l) ((cs.drop (l * m)).take ((h - l) * m))) else none := by
  unfold roV; split
  · rename_i hz; simp only [Bool.and_eq_true, beq_iff_eq] at hz
    rw [sliceV_nils h, hz.2]
    cases boundV 0 lo with
    | none => rfl
    | some l => cases boundV 0 hi with
      | none => rfl
      | some h => cases elSz P t <;> cases l <;> cases h <;> simp [hz.1]
  · rename_i hz
    have hz' : (z && n == 0) = false := by simpa using hz
    rw [sliceV_ros h]
    simp only [hz', Bool.false_and, Bool.false_eq_true, if_false]
@[simp] theorem sliceV_own (h : isSl P t = true) (H : Heap) (z : Bool) (id off n sz : Nat) (lo hi : Option V) (hs : 0 < sz) (he : elSz P t = some sz) :
    sliceV P H t (ownV z id off n sz) lo hi none = (boundV 0 lo).bind fun l => (boundV n hi).bind fun h => if l ≤ h ∧ h ≤ n then some (ownV (z && n == 0) id (off + l * sz) (h - l) sz) else if (z && n == 0) then none else sliceBeyond H id off l h sz sz := by
  unfold ownV; split
  · rename_i hz; simp only [Bool.and_eq_true, beq_iff_eq] at hz
    rw [sliceV_nils h, hz.2, he]
    cases boundV 0 lo with
    | none => rfl
    | some l => cases boundV 0 hi with
      | none => rfl
      | some h => cases l <;> cases h <;> simp [hz.1]
  · rename_i hz
    have hz' : (z && n == 0) = false := by simpa using hz
    rw [sliceV_sl h, he]
    simp only [hz', Bool.false_and, Bool.false_eq_true, if_false, hs, and_true, Option.bind_some]
@[simp] theorem sliceV_arr (h : isArr P t = true) (id off : Nat) (H : Heap) (cs : List V) (hH : H[id]? = some (some (.cells cs true))) (lo hi : Option V) :
    sliceV P H t (.ptr id off) lo hi none = (boundV 0 lo).bind fun l => (boundV (arrN P t).1 hi).bind fun h => (arrN P t).2.bind fun n => if (((l ≤ h ∧ h ≤ (arrN P t).1) ∧ l < (arrN P t).1) ∧ 0 < n) ∧ off + (arrN P t).1 * n = cs.length then some (.sl id (off + l * n) (h - l) n) else none := by
  obtain ⟨c, e, h⟩ := isArr_spec h
  simp only [sliceV, h, arrN, hH]
  cases boundV 0 lo <;> cases boundV c hi <;> cases tsz P e <;> simp
/-- With a third bound. -/
theorem sliceMaxV_sl (h : isSl P t = true) {H : Heap} {id off n sz : Nat} {cs : List V} {ex : Bool} (hH : H[id]? = some (some (.cells cs ex))) (k : IntKind) (a : Int) (h0 : 0 ≤ a) (h1 : a ≤ n) (hs : 0 < sz) (he : elSz P t = some sz) (hc : off + a.toNat * sz ≤ cs.length) :
    sliceMaxV P H t (.sl id off n sz) (.int k a) (.int k a) = some (.sl H.length off a.toNat sz, H.set id none ++ [some (.cells (cs.take (off + a.toNat * sz)) true)]) := by
  obtain ⟨e, h, h'⟩ := isSl_spec h
  rw [h'] at he
  simp only [sliceMaxV, h, he, hH]
  rw [if_pos]
  simp [h0, h1, hs, hc]
@[simp] theorem sliceMaxV_slf (h : isSl P t = true) {H : Heap} {id off n sz : Nat} {cs : List V} (hH : H[id]? = some (some (.cells cs false))) (k : IntKind) (a : Int) (h0 : 0 ≤ a) (h1 : a ≤ n) (hs : 0 < sz) (he : elSz P t = some sz) (hc : off + a.toNat * sz ≤ cs.length) :
    sliceMaxV P H t (.sl id off n sz) (.int k a) (.int k a) = some (.sl H.length off a.toNat sz, H.set id none ++ [some (.cells (cs.take (off + a.toNat * sz)) true)]) := sliceMaxV_sl h hH k a h0 h1 hs he hc
@[simp] theorem sliceMaxV_slt (h : isSl P t = true) {H : Heap} {id off n sz : Nat} {cs : List V} (hH : H[id]? = some (some (.cells cs true))) (k : IntKind) (a : Int) (h0 : 0 ≤ a) (h1 : a ≤ n) (hs : 0 < sz) (he : elSz P t = some sz) (hc : off + a.toNat * sz ≤ cs.length) :
    sliceMaxV P H t (.sl id off n sz) (.int k a) (.int k a) = some (.sl H.length off a.toNat sz, H.set id none ++ [some (.cells (cs.take (off + a.toNat * sz)) true)]) := sliceMaxV_sl h hH k a h0 h1 hs he hc
@[simp] theorem sliceMaxV_nils (h : isSl P t = true) {H : Heap} (k : IntKind) {sz : Nat} (he : elSz P t = some sz) : sliceMaxV P H t .nils (.int k 0) (.int k 0) = some (.nils, H) := by
  obtain ⟨e, h, h'⟩ := isSl_spec h
  rw [h'] at he
  simp [sliceMaxV, h, he]
theorem set_none {α : Type} (H : List (Option α)) (id : Nat) (h : H[id]? = some none) : H.set id none = H := by
  refine List.ext_getElem? fun i => ?_
  rw [List.getElem?_set]
  split
  · rename_i hi; subst hi
    obtain ⟨hl, hh⟩ := List.getElem?_eq_some_iff.1 h
    simp [hl, hh]
  · rfl
/-- What is appended to an own slice that no other one sees the end of. -/
@[simp] theorem appendS_own (H : Heap) (n b : Nat) (z : Bool) (id len k : Nat) (cs vs : List V) (hH : H[id]? = some (ownB z len cs)) (hcs : cs.length = len * n) (hk : k ≠ 0) (hvs : vs.length = k * n) (hn : n ≠ 0) (hb : (len + k) * b ≤ 140737488355328) :
    appendS H n b (ownV z id 0 len n) k vs = some (.sl H.length 0 (len + k) n, H.set id none ++ [some (.cells (cs ++ vs) false)]) := by
  unfold ownV; split
  · rename_i hz
    rw [ownB, if_pos hz] at hH
    simp at hz
    have : cs = [] := List.length_eq_zero_iff.1 (by rw [hcs, hz.2]; simp)
    have hb' : k * b ≤ 140737488355328 := by simpa [hz.2] using hb
    simp only [appendS, if_neg hk, if_pos hb', hz.2, set_none _ _ hH, this, List.nil_append, Nat.zero_add]
  · rename_i hz
    rw [ownB, if_neg hz] at hH
    have h1 : ¬ ((len + k) * n ≤ cs.length) := by rw [hcs, Nat.add_mul]; have : 0 < k * n := Nat.mul_pos (by omega) (by omega); omega
    have h2 : len * n ≤ cs.length := by omega
    simp only [appendS, hH, if_neg hk, bne_self_eq_false, Bool.false_eq_true, if_false, Nat.zero_add, if_neg h1, hcs, Nat.le_refl, hb, decide_true, Bool.and_self, if_true, List.drop_zero]
    rw [if_neg (by rw [hcs] at h1; exact h1)]
@[simp] theorem snap_ro (d : Nat) (H : Heap) (z : Bool) (n : Nat) (cs : List V) : snap d H (roV z n cs) = roV z n cs := by
  unfold roV; split <;> cases d <;> simp [snap, V.sub]
@[simp] theorem snap_own (d : Nat) (H : Heap) (z : Bool) (id off n sz : Nat) (cs : List V) (hH : H[id]? = some (ownB z n cs)) : snap (d + 1) H (ownV z id off n sz) = roV z n (((cs.drop off).take (n * sz)).map (snap d H)) := by
  unfold ownV roV; split
  · rename_i hz; simp [snap, V.sub]
  · rename_i hz; rw [ownB, if_neg hz] at hH; simp [snap, V.sub, hH]
@[simp] theorem leaves_ro (z : Bool) (n : Nat) (cs : List V) : (roV z n cs).leaves = [none] := by unfold roV; split <;> rfl
@[simp] theorem refs_ro (z : Bool) (n : Nat) (cs : List V) : (roV z n cs).refs = [] := by unfold roV; split <;> rfl
@[simp] theorem sub_ro (hp : Nat → Nat → V) (hs : Nat → Nat → Nat → Nat → V) (hm : Nat → V) (z : Bool) (n : Nat) (cs : List V) : (roV z n cs).sub hp hs hm = roV z n cs := by unfold roV; split <;> rfl
@[simp] theorem cellsO_ro (z : Bool) (n : Nat) (cs : List V) : (roV z n cs).cellsO = some [roV z n cs] := by unfold roV; split <;> rfl
@[simp] theorem cellsO_own (z : Bool) (id off n sz : Nat) : (ownV z id off n sz).cellsO = some [ownV z id off n sz] := by unfold ownV; split <;> rfl
@[simp] theorem own_own (z : Bool) (id off n sz : Nat) : (ownV z id off n sz).own = true := by unfold ownV; split <;> simp [V.own]
end

section
variable (d : Nat) (H : Heap)
@[simp] theorem snap_bool (b : Bool) : snap d H (.bool b) = .bool b := by cases d <;> rfl
@[simp] theorem snap_int (k : IntKind) (n : Int) : snap d H (.int k n) = .int k n := by cases d <;> rfl
@[simp] theorem snap_str (s : ByteArray) : snap d H (.str s) = .str s := by cases d <;> rfl
@[simp] theorem snap_nilp : snap d H .nilp = .nilp := by cases d <;> rfl
@[simp] theorem snap_nils : snap d H .nils = .nils := by cases d <;> rfl
@[simp] theorem snap_nilm : snap d H .nilm = .nilm := by cases d <;> rfl
@[simp] theorem snap_nilf : snap d H .nilf = .nilf := by cases d <;> rfl
@[simp] theorem snap_nili : snap d H .nili = .nili := by cases d <;> rfl
@[simp] theorem snap_junk : snap d H .junk = .junk := by cases d <;> rfl
@[simp] theorem snap_ros (n : Nat) (cs : List V) : snap d H (.ros n cs) = .ros n cs := by cases d <;> rfl
@[simp] theorem snap_rov (cs : List V) : snap d H (.ro cs) = .ro cs := by cases d <;> rfl
@[simp] theorem snap_rom (ks vs : List V) : snap d H (.rom ks vs) = .rom ks vs := by cases d <;> rfl
@[simp] theorem snap_agg (cs : List V) : snap (d + 1) H (.agg cs) = .agg (cs.map (snap (d + 1) H)) := by
  rw [snap, V.sub, subL_eq]
  exact congrArg V.agg (List.map_congr_left fun v _ => by rw [snap])
@[simp] theorem snap_tup (cs : List V) : snap (d + 1) H (.tup cs) = .tup (cs.map (snap (d + 1) H)) := by
  rw [snap, V.sub, subL_eq]
  exact congrArg V.tup (List.map_congr_left fun v _ => by rw [snap])
@[simp] theorem snap_fn (f : Fn) (a b : List V) : snap (d + 1) H (.fn f a b) = .fn f (a.map (snap (d + 1) H)) (b.map (snap (d + 1) H)) := by
  rw [snap, V.sub, subL_eq, subL_eq]
  exact congr (congrArg (V.fn f) (List.map_congr_left fun v _ => by rw [snap])) (List.map_congr_left fun v _ => by rw [snap])
@[simp] theorem snap_iface (t : Nat) (v : V) : snap (d + 1) H (.iface t v) = .iface t (snap (d + 1) H v) := by
  rw [snap, V.sub]; rfl
/-- A block, read out. -/
def snapB (d : Nat) (H : Heap) (off : Nat) (n : Option (Nat × Nat)) : Option (Option Blk) → V
  | some (some (.cells cs _)) => match n with
    | none => .ro ((cs.drop off).map (snap d H))
    | some (len, sz) => .ros len (((cs.drop off).take (len * sz)).map (snap d H))
  | _ => .junk
@[simp] theorem snapB_ptr (off : Nat) (cs : List V) (e : Bool) : snapB d H off none (some (some (.cells cs e))) = .ro ((cs.drop off).map (snap d H)) := rfl
@[simp] theorem snapB_sl (off len sz : Nat) (cs : List V) (e : Bool) : snapB d H off (some (len, sz)) (some (some (.cells cs e))) = .ros len (((cs.drop off).take (len * sz)).map (snap d H)) := rfl
@[simp] theorem snap_ptr (id off : Nat) : snap (d + 1) H (.ptr id off) = snapB d H off none H[id]? := by
  rw [snap, V.sub, snapB.eq_def]
  cases H[id]? with
  | none => rfl
  | some o => cases o with
    | none => rfl
    | some b => cases b <;> rfl
@[simp] theorem snap_sl (id off len sz : Nat) : snap (d + 1) H (.sl id off len sz) = snapB d H off (some (len, sz)) H[id]? := by
  rw [snap, V.sub, snapB.eq_def]
  cases H[id]? with
  | none => rfl
  | some o => cases o with
    | none => rfl
    | some b => cases b <;> rfl
end

@[simp] theorem refsL_app (a b : List V) : refsL (a ++ b) = refsL a ++ refsL b := by
  induction a with
  | nil => rfl
  | cons v l ih => simp [refsL, ih]
@[simp] theorem leavesL_app (a b : List V) : leavesL (a ++ b) = leavesL a ++ leavesL b := by
  induction a with
  | nil => rfl
  | cons v l ih => simp [leavesL, ih]
@[simp] theorem ownL_app (a b : List V) : ownL (a ++ b) = (ownL a && ownL b) := by
  induction a with
  | nil => rfl
  | cons v l ih => simp [ownL, ih, Bool.and_assoc]
@[simp] theorem subL_app (hp : Nat → Nat → V) (hs : Nat → Nat → Nat → Nat → V) (hm : Nat → V) (a b : List V) : subL hp hs hm (a ++ b) = subL hp hs hm a ++ subL hp hs hm b := by
  induction a with
  | nil => rfl
  | cons v l ih => simp [subL, ih]

/-! ### Rows of flat values -/
structure Enc (α : Type) where
  f : α → List V
  k : Nat
  len : ∀ a, (f a).length = k
  flat : ∀ a, ∀ v ∈ f a, v.flat = true

/-- Whole numbers, bools and strings alone. -/
class Enc.Own {α : Type} (E : Enc α) : Prop where
  own : ∀ a, ownL (E.f a) = true
  leaves : ∀ a, leavesL (E.f a) = []

def flatE {α : Type} (E : Enc α) (l : List α) : List V := l.flatMap E.f

def intE (k : IntKind) : Enc Int := ⟨fun n => [.int k n], 1, fun _ => rfl, fun a v h => by simp at h; subst h; rfl⟩
def strE : Enc ByteArray := ⟨fun n => [.str n], 1, fun _ => rfl, fun a v h => by simp at h; subst h; rfl⟩
def boolE : Enc Bool := ⟨fun n => [.bool n], 1, fun _ => rfl, fun a v h => by simp at h; subst h; rfl⟩
instance (k : IntKind) : (intE k).Own := ⟨fun _ => rfl, fun _ => rfl⟩
instance : strE.Own := ⟨fun _ => rfl, fun _ => rfl⟩
instance : boolE.Own := ⟨fun _ => rfl, fun _ => rfl⟩
@[simp] theorem intE_k (k : IntKind) : (intE k).k = 1 := rfl
@[simp] theorem strE_k : strE.k = 1 := rfl
@[simp] theorem boolE_k : boolE.k = 1 := rfl
@[simp] theorem intE_f (k : IntKind) (n : Int) : (intE k).f n = [.int k n] := rfl
@[simp] theorem strE_f (n : ByteArray) : strE.f n = [.str n] := rfl
@[simp] theorem boolE_f (n : Bool) : boolE.f n = [.bool n] := rfl

section
variable {α : Type} (E : Enc α)
@[simp] theorem flatE_nil : flatE E [] = [] := rfl
@[simp] theorem flatE_cons (x : α) (l : List α) : flatE E (x :: l) = E.f x ++ flatE E l := rfl
@[simp] theorem flatE_append (l m : List α) : flatE E (l ++ m) = flatE E l ++ flatE E m := by simp [flatE]
@[simp] theorem flatE_length (l : List α) : (flatE E l).length = l.length * E.k := by
  induction l with
  | nil => simp
  | cons x l ih => simp [ih, E.len, Nat.add_mul, Nat.add_comm]
theorem flatE_flat (l : List α) : ∀ v ∈ flatE E l, v.flat = true := fun v h => by
  obtain ⟨a, _, ha⟩ := List.mem_flatMap.1 h
  exact E.flat a v ha
@[simp] theorem enc_len (a : α) : (E.f a).length = E.k := E.len a
@[simp] theorem take_enc {n : Nat} (h : E.k = n) (a : α) : (E.f a).take n = E.f a := by rw [List.take_of_length_le]; rw [E.len, h]; exact Nat.le_refl _
theorem drop_flatE (l : List α) (i : Nat) : (flatE E l).drop (i * E.k) = flatE E (l.drop i) := by
  induction l generalizing i with
  | nil => simp
  | cons x l ih =>
    cases i with
    | zero => simp
    | succ i =>
      rw [Nat.add_mul, Nat.one_mul, Nat.add_comm, ← List.drop_drop]
      simp only [flatE_cons, List.drop_succ_cons]
      rw [← ih i, List.drop_append_of_le_length (by rw [E.len]; exact Nat.le_refl _), List.drop_of_length_le (l := E.f x) (by rw [E.len]; exact Nat.le_refl _)]
      simp
theorem take_flatE (l : List α) (i : Nat) : (flatE E l).take (i * E.k) = flatE E (l.take i) := by
  induction l generalizing i with
  | nil => simp
  | cons x l ih =>
    cases i with
    | zero => simp
    | succ i =>
      simp only [flatE_cons, List.take_succ_cons]
      rw [← ih i, List.take_append, E.len, Nat.add_mul, Nat.one_mul, Nat.add_sub_cancel, List.take_of_length_le (by rw [E.len]; omega)]
theorem drop_flatE' {n : Nat} (h : E.k = n) (l : List α) (i : Nat) : (flatE E l).drop (i * n) = flatE E (l.drop i) := by subst h; exact drop_flatE E l i
theorem take_flatE' {n : Nat} (h : E.k = n) (l : List α) (i : Nat) : (flatE E l).take (i * n) = flatE E (l.take i) := by subst h; exact take_flatE E l i
/-- An element, read. -/
@[simp] theorem at_flatE {n : Nat} (h : E.k = n) (l : List α) (i : Nat) (hi : i < l.length) : ((flatE E l).drop (i * n)).take n = E.f l[i] := by
  rw [drop_flatE' E h, List.drop_eq_getElem_cons hi]
  simp only [flatE_cons]
  rw [List.take_append_of_le_length (by rw [E.len, h]; exact Nat.le_refl _), List.take_of_length_le (by rw [E.len, h]; exact Nat.le_refl _)]
@[simp] theorem at_flatE1 (h : E.k = 1) (l : List α) (i : Nat) (hi : i < l.length) : ((flatE E l).drop i).take 1 = E.f l[i] := by
  have := at_flatE E h l i hi; simpa using this
@[simp] theorem take_all_flatE {n : Nat} (h : E.k = n) (l : List α) : (flatE E l).take (l.length * n) = flatE E l := by
  rw [List.take_of_length_le]; simp [h]
@[simp] theorem take_all_flatE1 (h : E.k = 1) (l : List α) : (flatE E l).take l.length = flatE E l := by
  rw [List.take_of_length_le]; simp [h]
theorem flat_refs {cs : List V} (h : ∀ v ∈ cs, v.flat = true) : refsL cs = [] := by
  induction cs with
  | nil => rfl
  | cons v l ih =>
    have h1 := h v (by simp)
    cases v <;> simp [V.flat] at h1 <;> simp [refsL, V.refs, ih fun v hv => h v (by simp [hv])]
theorem flat_sub {hp : Nat → Nat → V} {hs : Nat → Nat → Nat → Nat → V} {hm : Nat → V} {cs : List V} (h : ∀ v ∈ cs, v.flat = true) : subL hp hs hm cs = cs := by
  induction cs with
  | nil => rfl
  | cons v l ih =>
    have h1 := h v (by simp)
    cases v <;> simp [V.flat] at h1 <;> simp [subL, V.sub, ih fun v hv => h v (by simp [hv])]
theorem flat_snap {d : Nat} {H : Heap} {cs : List V} (h : ∀ v ∈ cs, v.flat = true) : cs.map (snap d H) = cs := by
  induction cs with
  | nil => rfl
  | cons v l ih =>
    have h1 := h v (by simp)
    have h2 : snap d H v = v := by cases v <;> simp [V.flat] at h1 <;> cases d <;> simp [snap, V.sub]
    simp [h2, ih fun v hv => h v (by simp [hv])]
@[simp] theorem leaves_flatE [E.Own] (l : List α) : leavesL (flatE E l) = [] := by
  induction l with
  | nil => rfl
  | cons x l ih => rw [flatE_cons, leavesL_app, ih, Enc.Own.leaves]; rfl
@[simp] theorem refs_flatE (l : List α) : refsL (flatE E l) = [] := flat_refs (flatE_flat E l)
@[simp] theorem own_flatE [E.Own] (l : List α) : ownL (flatE E l) = true := by
  induction l with
  | nil => rfl
  | cons x l ih => rw [flatE_cons, ownL_app, ih, Enc.Own.own]; rfl
@[simp] theorem sub_flatE {hp : Nat → Nat → V} {hs : Nat → Nat → Nat → Nat → V} {hm : Nat → V} (l : List α) : subL hp hs hm (flatE E l) = flatE E l := flat_sub (flatE_flat E l)
@[simp] theorem snap_flatE {d : Nat} {H : Heap} (l : List α) : (flatE E l).map (snap d H) = flatE E l := flat_snap (flatE_flat E l)
@[simp] theorem leaves_f [E.Own] (a : α) : leavesL (E.f a) = [] := Enc.Own.leaves a
@[simp] theorem refs_f (a : α) : refsL (E.f a) = [] := flat_refs (E.flat a)
@[simp] theorem own_f [E.Own] (a : α) : ownL (E.f a) = true := Enc.Own.own a
@[simp] theorem sub_f {hp : Nat → Nat → V} {hs : Nat → Nat → Nat → Nat → V} {hm : Nat → V} (a : α) : subL hp hs hm (E.f a) = E.f a := flat_sub (E.flat a)
@[simp] theorem snap_f {d : Nat} {H : Heap} (a : α) : (E.f a).map (snap d H) = E.f a := flat_snap (E.flat a)

/-- Written in its place. -/
theorem set_flatE {n : Nat} (h : E.k = n) (l : List α) (i : Nat) (x : α) (hi : i < l.length) : (flatE E l).take (i * n) ++ E.f x ++ (flatE E l).drop (i * n + n) = flatE E (l.set i x) := by
  have e1 : i * n + n = (i + 1) * n := by rw [Nat.add_mul, Nat.one_mul]
  rw [e1, take_flatE' E h, drop_flatE' E h, List.set_eq_take_append_cons_drop, if_pos hi]
  simp
theorem set_flatE1 (h : E.k = 1) (l : List α) (i : Nat) (x : α) (hi : i < l.length) : (flatE E l).take i ++ E.f x ++ (flatE E l).drop (i + 1) = flatE E (l.set i x) := by
  have := set_flatE E h l i x hi; simpa using this
end

@[simp] theorem set_ints {k : IntKind} {l : List Int} {j : Nat} {b : Int} (hj : j < l.length) : List.take j (flatE (intE k) l) ++ V.int k b :: List.drop (j + 1) (flatE (intE k) l) = flatE (intE k) (l.set j b) := by
  rw [← set_flatE1 (intE k) rfl l j b hj]; simp
@[simp] theorem set_bools {l : List Bool} {j : Nat} {b : Bool} (hj : j < l.length) : List.take j (flatE boolE l) ++ V.bool b :: List.drop (j + 1) (flatE boolE l) = flatE boolE (l.set j b) := by
  rw [← set_flatE1 boolE rfl l j b hj]; simp
@[simp] theorem set_strs {l : List ByteArray} {j : Nat} {b : ByteArray} (hj : j < l.length) : List.take j (flatE strE l) ++ V.str b :: List.drop (j + 1) (flatE strE l) = flatE strE (l.set j b) := by
  rw [← set_flatE1 strE rfl l j b hj]; simp
/-- Zeros. -/
def zeroI (n : Nat) : List Int := List.replicate n 0
@[simp] theorem zeroI_length (n : Nat) : (zeroI n).length = n := by simp [zeroI]
/-! ### Bytes -/
def bytesI (s : ByteArray) : List Int := s.data.toList.map fun b => (b.toNat : Int)
@[simp] theorem byteCells_eq (s : ByteArray) : byteCells s = flatE (intE .u8) (bytesI s) := by
  unfold byteCells bytesI flatE
  induction s.data.toList with
  | nil => rfl
  | cons x l ih => simp [ih]
@[simp] theorem bytesI_length (s : ByteArray) : (bytesI s).length = s.size := by
  unfold bytesI; rw [List.length_map]; rfl
@[simp] theorem take_bytes (s : ByteArray) : List.take s.size (flatE (intE .u8) (bytesI s)) = flatE (intE .u8) (bytesI s) := by
  rw [List.take_of_length_le]; simp
@[simp] theorem partV_one {P : Program} {t : TypeId} (h : tagg P t = some false) (cs : List V) (off : Nat) : partV P t cs off = cs[off]? := by simp only [partV, h]
@[simp] theorem partV_agg {P : Program} {t : TypeId} {n : Nat} (h : tagg P t = some true) (hn : tsz P t = some n) (cs : List V) (off : Nat) : partV P t cs off = if off + n ≤ cs.length then some (.agg ((cs.drop off).take n)) else none := by simp only [partV, h, hn]
end Go.Ev

/-
  DRAWN REGIONS, FOR EVALUATION BY 'simp' (own work).
-/
set_option linter.unusedSimpArgs false
set_option linter.unusedVariables false
namespace Go.Ev
open Go

section
variable (P : Program) (Γ : Env) (call : CallF)

def hintNext (all rest : List Oper) (o : Oper) (s : List V) (H : Heap) (r : Option (V × Heap)) : Option (List Hint) := match r with
  | some (v, H') => (hintsGo P Γ call all rest (putS s o.dst v) H').map (⟨writesOf Γ s H o.op, H.length, H'.length⟩ :: ·)
  | none => none
def hintF (all rest : List Oper) (o : Oper) (s : List V) (H : Heap) (b : Bool) : Option (List Hint) :=
  if b then hintNext P Γ call all rest o s H (evOp P Γ call s H o.op) else (hintsGo P Γ call all rest (putS s o.dst V.undef) H).map (⟨[], H.length, H.length⟩ :: ·)
def hintW (all rest : List Oper) (o : Oper) (s : List V) (H : Heap) (w : Option Bool) : Option (List Hint) := match w with
  | some b => hintF P Γ call all rest o s H b
  | none => none

variable {P Γ call}
@[simp] theorem hintNext_some (all rest : List Oper) (o : Oper) (s : List V) (H : Heap) (v : V) (H' : Heap) : hintNext P Γ call all rest o s H (some (v, H')) = (hintsGo P Γ call all rest (putS s o.dst v) H').map (⟨writesOf Γ s H o.op, H.length, H'.length⟩ :: ·) := rfl
@[simp] theorem hintNext_none (all rest : List Oper) (o : Oper) (s : List V) (H : Heap) : hintNext P Γ call all rest o s H none = none := rfl
@[simp] theorem hintNext_ite (all rest : List Oper) (o : Oper) (s : List V) (H : Heap) (c : Prop) [Decidable c] (x y : Option (V × Heap)) : hintNext P Γ call all rest o s H (if c then x else y) = if c then hintNext P Γ call all rest o s H x else hintNext P Γ call all rest o s H y := by split <;> rfl
@[simp] theorem hintW_true (all rest : List Oper) (o : Oper) (s : List V) (H : Heap) : hintW P Γ call all rest o s H (some true) = hintNext P Γ call all rest o s H (evOp P Γ call s H o.op) := rfl
@[simp] theorem hintW_false (all rest : List Oper) (o : Oper) (s : List V) (H : Heap) : hintW P Γ call all rest o s H (some false) = (hintsGo P Γ call all rest (putS s o.dst V.undef) H).map (⟨[], H.length, H.length⟩ :: ·) := rfl
@[simp] theorem hintW_none (all rest : List Oper) (o : Oper) (s : List V) (H : Heap) : hintW P Γ call all rest o s H none = none := rfl
@[simp low] theorem hintW_any (all rest : List Oper) (o : Oper) (s : List V) (H : Heap) (b : Bool) : hintW P Γ call all rest o s H (some b) = if b = true then hintF P Γ call all rest o s H true else hintF P Γ call all rest o s H false := by cases b <;> rfl
@[simp 500] theorem hintW_not (all rest : List Oper) (o : Oper) (s : List V) (H : Heap) (b : Bool) : hintW P Γ call all rest o s H (some (!b)) = if b = true then hintF P Γ call all rest o s H false else hintF P Γ call all rest o s H true := by cases b <;> rfl
@[simp] theorem hintsGo_nil (all : List Oper) (s : List V) (H : Heap) : hintsGo P Γ call all [] s H = some [] := rfl
@[simp] theorem hintsGo_cons (all : List Oper) (o : Oper) (rest : List Oper) (s : List V) (H : Heap) : hintsGo P Γ call all (o :: rest) s H = hintW P Γ call all rest o s H (wantedV all s o) := by
  rw [hintsGo]
  cases wantedV all s o with
  | none => rfl
  | some b => cases b <;> rfl

def drawNext (P : Program) (Γ : Env) (call : CallF) (all : List Oper) (as : List (List Nat)) (hs : List Hint) (rest : List Oper) (o : Oper) (i : Nat) (s : List V) (H : Heap) (h : Hint) (r : Option (V × Heap)) : Option (List V × Heap) := match r with
  | some (v, H') => if h.lb = H.length ∧ h.la = H'.length ∧ h.w = writesOf Γ (maskSlots as i all 0 s) (maskHeap (maskIds as i hs 0) H) o.op ∧ (h.w.all (fun id => decide (id < H.length) && !(maskIds as i hs 0).contains id)) = true ∧ (laterOk as i hs 0 || boundedS H.length (maskSlots as i all 0 s) (maskHeap (maskIds as i hs 0) H)) = true then
      drawGo P Γ call all as hs rest (i + 1) (putS s o.dst v) (mergeHeap (maskIds as i hs 0) H H') else none
  | none => none
def drawF (P : Program) (Γ : Env) (call : CallF) (all : List Oper) (as : List (List Nat)) (hs : List Hint) (rest : List Oper) (o : Oper) (i : Nat) (s : List V) (H : Heap) (h : Hint) (b : Bool) : Option (List V × Heap) :=
  if b then drawNext P Γ call all as hs rest o i s H h (evOp P Γ call (maskSlots as i all 0 s) (maskHeap (maskIds as i hs 0) H) o.op)
  else if h.lb = H.length ∧ h.la = H.length ∧ h.w = [] then drawGo P Γ call all as hs rest (i + 1) (putS s o.dst V.undef) H else none
def drawW (P : Program) (Γ : Env) (call : CallF) (all : List Oper) (as : List (List Nat)) (hs : List Hint) (rest : List Oper) (o : Oper) (i : Nat) (s : List V) (H : Heap) (w : Option Bool) (h : Option Hint) : Option (List V × Heap) := match w, h with
  | some b, some h => drawF P Γ call all as hs rest o i s H h b
  | _, _ => none
section
variable (all : List Oper) (as : List (List Nat)) (hs : List Hint) (rest : List Oper) (o : Oper) (i : Nat) (s : List V) (H : Heap) (h : Hint)
@[simp] theorem drawNext_some (v : V) (H' : Heap) : drawNext P Γ call all as hs rest o i s H h (some (v, H')) = if h.lb = H.length ∧ h.la = H'.length ∧ h.w = writesOf Γ (maskSlots as i all 0 s) (maskHeap (maskIds as i hs 0) H) o.op ∧ (h.w.all (fun id => decide (id < H.length) && !(maskIds as i hs 0).contains id)) = true ∧ (laterOk as i hs 0 || boundedS H.length (maskSlots as i all 0 s) (maskHeap (maskIds as i hs 0) H)) = true then
      drawGo P Γ call all as hs rest (i + 1) (putS s o.dst v) (mergeHeap (maskIds as i hs 0) H H') else none := rfl
@[simp] theorem drawNext_none : drawNext P Γ call all as hs rest o i s H h none = none := rfl
@[simp] theorem drawNext_ite (c : Prop) [Decidable c] (x y : Option (V × Heap)) : drawNext P Γ call all as hs rest o i s H h (if c then x else y) = if c then drawNext P Γ call all as hs rest o i s H h x else drawNext P Γ call all as hs rest o i s H h y := by split <;> rfl
@[simp] theorem drawW_true : drawW P Γ call all as hs rest o i s H (some true) (some h) = drawNext P Γ call all as hs rest o i s H h (evOp P Γ call (maskSlots as i all 0 s) (maskHeap (maskIds as i hs 0) H) o.op) := rfl
@[simp] theorem drawW_false : drawW P Γ call all as hs rest o i s H (some false) (some h) = if h.lb = H.length ∧ h.la = H.length ∧ h.w = [] then drawGo P Γ call all as hs rest (i + 1) (putS s o.dst V.undef) H else none := rfl
@[simp low] theorem drawW_any (b : Bool) : drawW P Γ call all as hs rest o i s H (some b) (some h) = if b = true then drawF P Γ call all as hs rest o i s H h true else drawF P Γ call all as hs rest o i s H h false := by cases b <;> rfl
@[simp 500] theorem drawW_not (b : Bool) : drawW P Γ call all as hs rest o i s H (some (!b)) (some h) = if b = true then drawF P Γ call all as hs rest o i s H h false else drawF P Γ call all as hs rest o i s H h true := by cases b <;> rfl
@[simp] theorem drawGo_nil : drawGo P Γ call all as hs [] i s H = some (s, H) := rfl
@[simp] theorem drawGo_cons : drawGo P Γ call all as hs (o :: rest) i s H = drawW P Γ call all as hs rest o i s H (wantedV all (maskSlots as i all 0 s) o) hs[i]? := by
  rw [drawGo]
  cases wantedV all (maskSlots as i all 0 s) o with
  | none => rfl
  | some b => cases hs[i]? with
    | none => cases b <;> rfl
    | some h => cases b <;> rfl
end

def afterHints (P : Program) (Γ : Env) (call : CallF) (ops : List Oper) (s : List V) (H : Heap) (r : Option (List Hint)) : Option (List V × Heap) := match r with
  | some hs => drawGo P Γ call ops (ancs ops) hs ops 0 s H
  | none => none
@[simp] theorem afterHints_some (ops : List Oper) (s : List V) (H : Heap) (hs : List Hint) : afterHints P Γ call ops s H (some hs) = drawGo P Γ call ops (ancs ops) hs ops 0 s H := rfl
@[simp] theorem afterHints_none (ops : List Oper) (s : List V) (H : Heap) : afterHints P Γ call ops s H none = none := rfl
@[simp] theorem afterHints_ite (ops : List Oper) (s : List V) (H : Heap) (c : Prop) [Decidable c] (x y : Option (List Hint)) : afterHints P Γ call ops s H (if c then x else y) = if c then afterHints P Γ call ops s H x else afterHints P Γ call ops s H y := by split <;> rfl
@[simp] theorem map_ite_hints (c : Prop) [Decidable c] (g : List Hint → List Hint) (x y : Option (List Hint)) : (if c then x else y).map g = if c then x.map g else y.map g := by split <;> rfl
@[simp] theorem evRegion_draw (ops : List Oper) (s : List V) (H : Heap) : evRegion P Γ call ops true s H = if (backward ops 0 && nodupB (dsts ops)) = true then afterHints P Γ call ops s H (hintsGo P Γ call ops ops s H) else none := by
  unfold evRegion afterHints
  simp
  rfl
end
attribute [simp] backward dsts nodupB bindsAny Region.binds ancs ancGo unordered maskSlots maskIds maskHeap mergeHeap laterOk writesOf refOf
end Go.Ev
namespace Go.Ev
open Go
/-! ### Strings -/
theorem toList_loop (b : ByteArray) : ∀ (n i : Nat) (r : List UInt8), b.size - i = n → ByteArray.toList.loop b i r = r.reverse ++ b.data.toList.drop i
  | 0, i, r, h => by
    rw [ByteArray.toList.loop, if_neg (by omega), List.drop_of_length_le (by show b.data.toList.length ≤ i; simp; show b.size ≤ i; omega)]; simp
  | n + 1, i, r, h => by
    have hi : i < b.size := by omega
    have hi' : i < b.data.toList.length := by simpa using hi
    rw [ByteArray.toList.loop, if_pos hi, toList_loop b n (i + 1) _ (by omega), List.drop_eq_getElem_cons hi']
    have e : b.get! i = b.data.toList[i] := by
      show b.data[i]! = _
      have hd : i < b.data.size := hi
      simp [getElem!_pos b.data i hd]
    simp [e]
theorem toList_data (b : ByteArray) : b.toList = b.data.toList := by
  rw [ByteArray.toList, toList_loop b b.size 0 [] rfl]; simp
@[simp] theorem toList_inj {a b : ByteArray} : a.toList = b.toList ↔ a = b := by
  rw [toList_data, toList_data]
  exact ⟨fun h => ByteArray.ext (Array.toList_inj.1 h), fun h => by rw [h]⟩

/-! ### Values built; '==' -/
section
variable {P : Program} {t e : TypeId}
@[simp] theorem buildV_struct {cs : List V} {fs : Array Field} {pl : List (Nat × Nat)} (hz : tzc P t = some cs) (h : P.underlying t = some (.struct fs)) (hp : placesOf P fs.toList = some pl) (parts : List (Nat × V)) :
    buildV P t parts = (fillV (fun i => pl[i]?) cs parts).map .agg := by
  unfold tzc at hz
  obtain ⟨z, h1, h2⟩ := Option.bind_eq_some_iff.1 hz
  simp only [buildV, h1, h, h2, hp]
theorem eqV_bool (h : P.underlying t = some .bool) (d : Nat) (x y : V) : eqV P (d + 1) t x y = eqB x y := by simp only [eqV, h]
theorem eqV_slice (h : P.underlying t = some (.slice e)) (d : Nat) (x y : V) : eqV P (d + 1) t x y = eqSlice x y := by simp only [eqV, h]
@[simp] theorem evBin_bool_eq (h : P.underlying t = some .bool) (a b : Bool) : evBin P .eql t (.bool a) (.bool b) = some (.bool (a == b)) := by
  simp only [evBin, eqX_eq, noNumV, aggOf, Option.isNone_none, Bool.true_or, Bool.and_self, if_true]
  rw [show (10000 : Nat) = 9999 + 1 from rfl, eqV_bool h]
  rfl
@[simp] theorem evBin_bool_ne (h : P.underlying t = some .bool) (a b : Bool) : evBin P .neq t (.bool a) (.bool b) = some (.bool (a != b)) := by
  simp only [evBin, eqX_eq, noNumV, aggOf, Option.isNone_none, Bool.true_or, Bool.and_self, if_true]
  rw [show (10000 : Nat) = 9999 + 1 from rfl, eqV_bool h]
  rfl
theorem evBin_sl (h : P.underlying t = some (.slice e)) (x y : V) (hx : noNumV x = true) (hx' : aggOf x = none) (hi : x ≠ .nili) :
    evBin P .eql t x y = (eqSlice x y).map .bool ∧ evBin P .neq t x y = (eqSlice x y).map fun b => .bool !b := by
  have key : eqV P 10000 t x y = eqSlice x y := by
    exact eqV_slice h 9999 x y
  cases x <;> simp [noNumV] at hx <;> simp [aggOf] at hx' <;> first | (exact absurd rfl hi) | (constructor <;> simp [evBin, eqX_eq, noNumV, aggOf, key])
@[simp] theorem evBin_ro_eq (h' : isSl P t = true) (z : Bool) (n : Nat) (cs : List V) : evBin P .eql t (roV z n cs) .nils = some (.bool (z && n == 0)) := by
  obtain ⟨e, h, _⟩ := isSl_spec h'
  rw [(evBin_sl h _ _ (by unfold roV; split <;> rfl) (by unfold roV; split <;> rfl) (by unfold roV; split <;> simp)).1, eqSlice_ro1]; rfl
@[simp] theorem evBin_ro_ne (h' : isSl P t = true) (z : Bool) (n : Nat) (cs : List V) : evBin P .neq t (roV z n cs) .nils = some (.bool !(z && n == 0)) := by
  obtain ⟨e, h, _⟩ := isSl_spec h'
  rw [(evBin_sl h _ _ (by unfold roV; split <;> rfl) (by unfold roV; split <;> rfl) (by unfold roV; split <;> simp)).2, eqSlice_ro1]; rfl
@[simp] theorem evBin_own_eq (h' : isSl P t = true) (z : Bool) (id off n sz : Nat) : evBin P .eql t (ownV z id off n sz) .nils = some (.bool (z && n == 0)) := by
  obtain ⟨e, h, _⟩ := isSl_spec h'
  rw [(evBin_sl h _ _ (by unfold ownV; split <;> rfl) (by unfold ownV; split <;> rfl) (by unfold ownV; split <;> simp)).1, eqSlice_own1]; rfl
@[simp] theorem evBin_own_ne (h' : isSl P t = true) (z : Bool) (id off n sz : Nat) : evBin P .neq t (ownV z id off n sz) .nils = some (.bool !(z && n == 0)) := by
  obtain ⟨e, h, _⟩ := isSl_spec h'
  rw [(evBin_sl h _ _ (by unfold ownV; split <;> rfl) (by unfold ownV; split <;> rfl) (by unfold ownV; split <;> simp)).2, eqSlice_own1]; rfl
@[simp] theorem evBin_sl_eq (h' : isSl P t = true) (id off n sz : Nat) : evBin P .eql t (.sl id off n sz) .nils = some (.bool false) := by
  obtain ⟨e, h, _⟩ := isSl_spec h'
  rw [(evBin_sl h _ _ rfl rfl (by simp)).1]; rfl
@[simp] theorem evBin_sl_ne (h' : isSl P t = true) (id off n sz : Nat) : evBin P .neq t (.sl id off n sz) .nils = some (.bool true) := by
  obtain ⟨e, h, _⟩ := isSl_spec h'
  rw [(evBin_sl h _ _ rfl rfl (by simp)).2]; rfl
@[simp] theorem evBin_ros_eq (h' : isSl P t = true) (n : Nat) (cs : List V) : evBin P .eql t (.ros n cs) .nils = some (.bool false) := by
  obtain ⟨e, h, _⟩ := isSl_spec h'
  rw [(evBin_sl h _ _ rfl rfl (by simp)).1]; rfl
@[simp] theorem evBin_ros_ne (h' : isSl P t = true) (n : Nat) (cs : List V) : evBin P .neq t (.ros n cs) .nils = some (.bool true) := by
  obtain ⟨e, h, _⟩ := isSl_spec h'
  rw [(evBin_sl h _ _ rfl rfl (by simp)).2]; rfl
@[simp] theorem evBin_nils_eq (h' : isSl P t = true) : evBin P .eql t .nils .nils = some (.bool true) := by
  obtain ⟨e, h, _⟩ := isSl_spec h'
  rw [(evBin_sl h _ _ rfl rfl (by simp)).1]; rfl
@[simp] theorem evBin_nils_ne (h' : isSl P t = true) : evBin P .neq t .nils .nils = some (.bool false) := by
  obtain ⟨e, h, _⟩ := isSl_spec h'
  rw [(evBin_sl h _ _ rfl rfl (by simp)).2]; rfl
@[simp] theorem evBin_int (op : BinOp) (k k' : IntKind) (a b : Int) : evBin P op t (.int k a) (.int k' b) = match op with
    | .shl => binShift .shl k a b
    | .shr => binShift .shr k a b
    | op => if k = k' then binInt op k a b else none := rfl
@[simp] theorem evBin_str (op : BinOp) (a b : ByteArray) : evBin P op t (.str a) (.str b) = binStr op a b := rfl
end
section
variable (a b : ByteArray)
@[simp] theorem binStr_add : binStr .add a b = if a.size + b.size ≤ 9223372036854775807 then some (.str (a ++ b)) else none := rfl
@[simp] theorem binStr_eql : binStr .eql a b = some (.bool (decide (a = b))) := by rw [binStr]; by_cases h : a = b <;> simp [h]
@[simp] theorem binStr_neq : binStr .neq a b = some (.bool (!decide (a = b))) := by rw [binStr]; by_cases h : a = b <;> simp [h]
@[simp] theorem binStr_lss : binStr .lss a b = some (.bool (Op.bytesLess a.toList b.toList)) := rfl
@[simp] theorem binStr_leq : binStr .leq a b = some (.bool (Op.bytesLess a.toList b.toList || decide (a = b))) := by rw [binStr]; by_cases h : a = b <;> simp [h]
@[simp] theorem binStr_gtr : binStr .gtr a b = some (.bool !(Op.bytesLess a.toList b.toList || decide (a = b))) := by rw [binStr]; by_cases h : a = b <;> simp [h]
@[simp] theorem binStr_geq : binStr .geq a b = some (.bool !(Op.bytesLess a.toList b.toList)) := rfl
@[simp] theorem bsize_mk (a : Array UInt8) : (ByteArray.mk a).size = a.size := rfl
@[simp] theorem empty_mk : (⟨#[]⟩ : ByteArray) = ByteArray.empty := rfl
end
attribute [simp] clearV capV fillV placesOf buildSliceV zerosV makeSliceV appendV appendZ copyV minV maxV foldV
end Go.Ev

/-
  CODE BY NAMES: a piece of a function's code is named by its place, so that terms stay small (own work).
-/
set_option linter.unusedSimpArgs false
set_option linter.unusedVariables false
namespace Go.Ev
open Go

/-! ### Slots as what was written into them, the last first -/
def lookD (d : V) : List (Nat × V) → Nat → V
  | [], _ => d
  | (i, v) :: l, j => if j = i then v else lookD d l j
def mkL (n : Nat) (d : V) (l : List (Nat × V)) : List V := (List.range n).map (lookD d l)
@[simp] theorem lookD_nil (d : V) (j : Nat) : lookD d [] j = d := rfl
@[simp] theorem lookD_cons (d : V) (i : Nat) (v : V) (l : List (Nat × V)) (j : Nat) : lookD d ((i, v) :: l) j = if j = i then v else lookD d l j := rfl
@[simp] theorem mkL_length (n : Nat) (d : V) (l : List (Nat × V)) : (mkL n d l).length = n := by simp [mkL]
theorem mkL_get (n : Nat) (d : V) (l : List (Nat × V)) (j : Nat) : (mkL n d l)[j]? = if j < n then some (lookD d l j) else none := by
  unfold mkL
  rw [List.getElem?_map]
  split
  · rename_i h; rw [List.getElem?_range h]; rfl
  · rename_i h; rw [List.getElem?_eq_none (by simpa using h)]; rfl
@[simp] theorem getS_mkL (n : Nat) (d : V) (l : List (Nat × V)) (j : Nat) : getS (mkL n d l) j = if j < n then lookD d l j else .junk := by
  unfold getS
  rw [List.getD_eq_getElem?_getD, mkL_get]
  split <;> rfl
@[simp] theorem putS_mkL (n : Nat) (d : V) (l : List (Nat × V)) (i : Nat) (v : V) : putS (mkL n d l) (some i) v = mkL n d ((i, v) :: l) := by
  unfold putS
  refine List.ext_getElem? fun j => ?_
  simp only [List.getElem?_set, mkL_get, mkL_length, lookD_cons]
  by_cases h : i = j
  · subst h; simp
  · rw [if_neg h, if_neg (Ne.symm h)]
@[simp] theorem putS_none (s : List V) (v : V) : putS s none v = s := rfl
def enumV : Nat → List V → List (Nat × V)
  | _, [] => []
  | i, v :: l => (i, v) :: enumV (i + 1) l
@[simp] theorem enumV_nil (i : Nat) : enumV i [] = [] := rfl
@[simp] theorem enumV_cons (i : Nat) (v : V) (l : List V) : enumV i (v :: l) = (i, v) :: enumV (i + 1) l := rfl
theorem look_enum (d : V) : ∀ (l : List V) (i j : Nat), i ≤ j → lookD d (enumV i l) j = l.getD (j - i) d
  | [], i, j, h => by simp
  | v :: l, i, j, h => by
    simp only [enumV_cons, lookD_cons]
    split
    · rename_i hj; subst hj; simp
    · rename_i hj
      rw [look_enum d l (i + 1) j (by omega)]
      have : j - i = (j - (i + 1)) + 1 := by omega
      rw [this]
      simp
theorem start_mkL (args : List V) (n : Nat) (h : args.length ≤ n) : args ++ List.replicate (n - args.length) V.undef = mkL n V.undef (enumV 0 args) := by
  refine List.ext_getElem? fun j => ?_
  rw [mkL_get, look_enum _ _ _ _ (Nat.zero_le _)]
  rcases Nat.lt_or_ge j args.length with hl | hg
  · rw [List.getElem?_append_left hl, if_pos (by omega)]
    simp [List.getD_eq_getElem?_getD, hl]
  · rw [List.getElem?_append_right hg]
    split
    · rename_i hj
      rw [List.getElem?_replicate, if_pos (by omega)]
      simp [List.getD_eq_getElem?_getD, List.getElem?_eq_none hg]
    · rename_i hj
      rw [List.getElem?_replicate, if_neg (by omega)]

/-- The live slots, in order. -/
def pick (d : V) (l : List (Nat × V)) : List Nat → List (Nat × V)
  | [] => []
  | i :: is => (i, lookD d l i) :: pick d l is
@[simp] theorem pick_nil (d : V) (l : List (Nat × V)) : pick d l [] = [] := rfl
@[simp] theorem pick_cons (d : V) (l : List (Nat × V)) (i : Nat) (is : List Nat) : pick d l (i :: is) = (i, lookD d l i) :: pick d l is := rfl
theorem look_pick (d : V) (l : List (Nat × V)) (j : Nat) : ∀ is : List Nat, lookD .junk (pick d l is) j = if is.contains j then lookD d l j else .junk
  | [] => by simp
  | i :: is => by
    simp only [pick_cons, lookD_cons, look_pick d l j is, List.contains_cons]
    by_cases h : j = i
    · subst h; simp
    · simp [h]
theorem keepLive_mkL (is : List Nat) (n : Nat) (d : V) (l : List (Nat × V)) : keepLive is (mkL n d l) = mkL n .junk (pick d l is) := by
  refine List.ext_getElem? fun j => ?_
  unfold keepLive
  rw [List.getElem?_mapIdx, mkL_get, mkL_get, look_pick]
  split <;> simp
def renA (ρ : Nat → Option Nat) : List (Nat × V) → List (Nat × V)
  | [] => []
  | (i, v) :: l => (i, v.ren ρ) :: renA ρ l
@[simp] theorem renA_nil (ρ : Nat → Option Nat) : renA ρ [] = [] := rfl
@[simp] theorem renA_cons (ρ : Nat → Option Nat) (i : Nat) (v : V) (l : List (Nat × V)) : renA ρ ((i, v) :: l) = (i, v.ren ρ) :: renA ρ l := rfl
theorem look_ren (ρ : Nat → Option Nat) (j : Nat) : ∀ l : List (Nat × V), lookD .junk (renA ρ l) j = (lookD .junk l j).ren ρ
  | [] => by simp [V.ren, V.sub]
  | (i, v) :: l => by
    simp only [renA_cons, lookD_cons, look_ren ρ j l]
    split <;> rfl
theorem renL_mkL (ρ : Nat → Option Nat) (n : Nat) (l : List (Nat × V)) : renL ρ (mkL n .junk l) = mkL n .junk (renA ρ l) := by
  rw [renL_eq]
  refine List.ext_getElem? fun j => ?_
  rw [List.getElem?_map, mkL_get, mkL_get, look_ren]
  split <;> rfl
/-- Slots in order, below n. -/
def asc (n : Nat) : List Nat → Bool
  | [] => true
  | [i] => decide (i < n)
  | i :: j :: l => decide (i < j) && asc n (j :: l)
def leavesA : List (Nat × V) → List (Option Nat)
  | [] => []
  | (_, v) :: l => v.leaves ++ leavesA l
@[simp] theorem leavesA_nil : leavesA [] = [] := rfl
@[simp] theorem leavesA_cons (i : Nat) (v : V) (l : List (Nat × V)) : leavesA ((i, v) :: l) = v.leaves ++ leavesA l := rfl
theorem leavesL_append (a b : List V) : leavesL (a ++ b) = leavesL a ++ leavesL b := by
  induction a with
  | nil => rfl
  | cons v l ih => simp [leavesL, ih]
theorem leaves_part : ∀ (l : List (Nat × V)) (n : Nat) (is : List Nat), l.map (·.1) = is → asc n is = true → ∀ m ≤ n, (∀ i ∈ is, m ≤ i) → leavesL ((List.range' m (n - m)).map (lookD .junk l)) = leavesA l
  | [], n, is, h, ha, m, hm, hl => by
    have : ∀ k j, leavesL ((List.range' j k).map (lookD .junk [])) = [] := by
      intro k
      induction k with
      | zero => intro j; rfl
      | succ k ih => intro j; simp only [List.range'_succ, List.map_cons, leavesL, lookD_nil, V.leaves, ih]; rfl
    exact this _ _
  | (i, v) :: l, n, is, h, ha, m, hm, hl => by
    subst h
    have hin : i < n := by
      clear hl
      revert ha
      cases l with
      | nil => intro ha; simpa [asc] using ha
      | cons p l =>
        intro ha
        have : ∀ (l : List Nat) (i : Nat), asc n (i :: l) = true → i < n := by
          intro l
          induction l with
          | nil => intro i h; simpa [asc] using h
          | cons j l ih => intro i h; simp [asc] at h; have := ih j h.2; omega
        exact this _ _ ha
    have hmi : m ≤ i := hl i (by simp)
    have hup : ∀ j ∈ l.map (·.1), i + 1 ≤ j := by
      have : ∀ (l : List Nat) (i : Nat), asc n (i :: l) = true → ∀ j ∈ l, i + 1 ≤ j := by
        intro l
        induction l with
        | nil => intro i h j hj; cases hj
        | cons a l ih =>
          intro i h j hj
          simp [asc] at h
          rcases List.mem_cons.1 hj with rfl | hj
          · omega
          · have := ih a h.2 j hj; omega
      exact this _ _ ha
    have ha' : asc n (l.map (·.1)) = true := by
      revert ha
      cases l with
      | nil => intro _; rfl
      | cons p l => intro ha; simp [asc] at ha; exact ha.2
    have e1 : n - m = (i - m) + ((n - (i + 1)) + 1) := by omega
    rw [e1, ← List.range'_append_1, List.map_append, leavesL_append, List.range'_succ, List.map_cons]
    have hlow : leavesL ((List.range' m (i - m)).map (lookD .junk ((i, v) :: l))) = [] := by
      have : ∀ k j, j + k ≤ i → leavesL ((List.range' j k).map (lookD .junk ((i, v) :: l))) = [] := by
        intro k
        induction k with
        | zero => intro j _; rfl
        | succ k ih =>
          intro j hj
          have hn : lookD .junk ((i, v) :: l) j = .junk := by
            rw [lookD_cons, if_neg (by omega)]
            have : ∀ l : List (Nat × V), (∀ x ∈ l.map (·.1), j < x) → lookD .junk l j = .junk := by
              intro l
              induction l with
              | nil => intro _; rfl
              | cons p l ih2 => intro hp; obtain ⟨a, b⟩ := p; rw [lookD_cons, if_neg (by have := hp a (by simp); omega)]; exact ih2 fun x hx => hp x (by simp at hx ⊢; exact .inr hx)
            exact this l fun x hx => by have := hup x hx; omega
          simp only [List.range'_succ, List.map_cons, leavesL, hn, V.leaves, List.nil_append]
          exact ih (j + 1) (by omega)
      exact this _ _ (by omega)
    rw [hlow, List.nil_append]
    simp only [leavesL, leavesA_cons]
    have e2 : m + 1 * (i - m) = i := by omega
    have e3 : m + (i - m) = i := by omega
    simp only [e3] at *
    have hv : lookD .junk ((i, v) :: l) i = v := by rw [lookD_cons, if_pos rfl]
    rw [hv]
    congr 1
    have hrest : (List.range' (i + 1) (n - (i + 1))).map (lookD .junk ((i, v) :: l)) = (List.range' (i + 1) (n - (i + 1))).map (lookD .junk l) := by
      refine List.map_congr_left fun j hj => ?_
      have := (List.mem_range'_1.1 hj).1
      rw [lookD_cons, if_neg (by omega)]
    rw [hrest]
    exact leaves_part l n _ rfl ha' (i + 1) (by omega) hup
theorem leavesL_mkL (n : Nat) (l : List (Nat × V)) (h : asc n (l.map (·.1)) = true) : leavesL (mkL n .junk l) = leavesA l := by
  have := leaves_part l n _ rfl h 0 (Nat.zero_le _) (fun _ _ => Nat.zero_le _)
  unfold mkL
  rw [List.range_eq_range']
  exact this
theorem pick_keys (d : V) (l : List (Nat × V)) : ∀ is : List Nat, (pick d l is).map (·.1) = is
  | [] => rfl
  | i :: is => by simp [pick_keys d l is]

attribute [simp] asc
/-- A loop's head, by what was written. -/
@[simp] theorem tidy_mkL {Γ : Env} {f m id n : Nat} {d : V} {l : List (Nat × V)} {H : Heap} {is : List Nat} (h : Γ.live f id = some is) (hk : Γ.keep f id = false) (hc : Γ.cold f id = false) (ha : asc n is = true) :
    tidy Γ f m id (mkL n d l) H = (mkL n .junk (renA (keepOf m (place m H fuelR (rootLeaves m H ++ leavesA (pick d l is)) [])) (pick d l is)), keepHeap m (place m H fuelR (rootLeaves m H ++ leavesA (pick d l is)) []) H) := by
  unfold tidy
  rw [h]
  simp only [hk, hc, Bool.false_eq_true, if_false]
  rw [keepLive_mkL, renL_mkL, leavesL_mkL _ _ (by rw [pick_keys]; exact ha)]
/-- A loop's head at which blocks stay as they are. -/
@[simp] theorem tidy_keep {Γ : Env} {f m id n : Nat} {d : V} {l : List (Nat × V)} {H : Heap} {is : List Nat} (h : Γ.live f id = some is) (hk : Γ.keep f id = true) :
    tidy Γ f m id (mkL n d l) H = (mkL n .junk (pick d l is), H) := by
  unfold tidy
  rw [h]
  simp only [hk, if_true]
  rw [keepLive_mkL]

theorem refs_mkL (p : Nat → Bool) (n : Nat) (d : V) (l : List (Nat × V)) (hd : d.refs = []) (hl : (l.all fun x => x.2.refs.all p) = true) : (refsL (mkL n d l)).all p = true := by
  have h1 : ∀ j, ((lookD d l j).refs.all p) = true := by
    intro j
    induction l with
    | nil => simp [hd]
    | cons x l ih =>
      obtain ⟨i, v⟩ := x
      simp only [List.all_cons, Bool.and_eq_true] at hl
      rw [lookD_cons]
      split
      · exact hl.1
      · exact ih hl.2
  have h2 : ∀ is : List Nat, (refsL (is.map (lookD d l))).all p = true := by
    intro is
    induction is with
    | nil => rfl
    | cons j is ih => simp only [List.map_cons, refsL, List.all_append, h1 j, ih]; rfl
  exact h2 _
@[simp] theorem boundedS_mkL (k n : Nat) (d : V) (l : List (Nat × V)) (H : Heap) (hd : d.refs = []) (hl : (l.all fun x => x.2.refs.all (decide <| · < k)) = true) (hH : (H.all fun b => (blkRefs b).all (decide <| · < k)) = true) : boundedS k (mkL n d l) H = true := by
  unfold boundedS
  rw [refs_mkL _ _ _ _ hd hl, hH]
  rfl

def kids : Code → List Code
  | .seq a b => [a, b]
  | .cond _ x y => [x, y]
  | .block _ c => [c]
  | .loop c => [c]
  | .scope c => [c]
  | _ => []
def cAt : List Nat → Code → Code
  | [], c => c
  | i :: p, c => cAt p ((kids c).getD i .skip)
def bodyOf (f : Func) : Code := match f.body with
  | some c => c
  | none => .skip
/-- What a piece is: its kind, a number that it has. -/
def kindOf : Code → Nat × Nat
  | .skip => (0, 0)
  | .region _ _ draw => (1, if draw then 1 else 0)
  | .seq _ _ => (2, 0)
  | .cond _ _ _ => (3, 0)
  | .block id _ => (4, id)
  | .loop _ => (5, 0)
  | .scope _ => (6, 0)
  | .exit id => (7, id)
  | .ret => (8, 0)
  | .label _ => (9, 0)
  | _ => (10, 0)
def opsOf : Code → List Oper
  | .region _ ops _ => ops.toList
  | _ => []
def condOf : Code → Operand
  | .cond c _ _ => c
  | _ => .tmp 0

section
variable {P : Program} {Γ : Env} {call : CallF} {n f m : Nat}

theorem cAt_snoc (p : List Nat) (i : Nat) (c : Code) : cAt (p ++ [i]) c = (kids (cAt p c)).getD i .skip := by
  induction p generalizing c with
  | nil => rfl
  | cons j p ih => exact ih _

theorem at_seq {p p0 p1 : List Nat} {c : Code} (h : kindOf (cAt p c) = (2, 0)) (h0 : p0 = p ++ [0]) (h1 : p1 = p ++ [1]) (s : List V) (H : Heap) :
    evCode P Γ call n f m (cAt p c) s H = seqNext P Γ call n f m (cAt p1 c) (evCode P Γ call n f m (cAt p0 c) s H) := by
  subst h0 h1
  rw [cAt_snoc, cAt_snoc]
  generalize cAt p c = d at *
  cases d <;> simp [kindOf] at h
  rfl
theorem at_cond {p p0 p1 : List Nat} {c : Code} {o : Operand} (h : kindOf (cAt p c) = (3, 0)) (ho : condOf (cAt p c) = o) (h0 : p0 = p ++ [0]) (h1 : p1 = p ++ [1]) (s : List V) (H : Heap) :
    evCode P Γ call n f m (cAt p c) s H = condW P Γ call n f m (cAt p0 c) (cAt p1 c) s H (evOperand Γ s o) := by
  subst h0 h1
  rw [cAt_snoc, cAt_snoc]
  generalize cAt p c = d at *
  cases d <;> simp [kindOf] at h
  rw [evCode_cond, ← ho]
  rfl
theorem at_block {p p0 : List Nat} {c : Code} {id : Nat} (h : kindOf (cAt p c) = (4, id)) (h0 : p0 = p ++ [0]) (s : List V) (H : Heap) :
    evCode P Γ call n f m (cAt p c) s H = blockNext id (evCode P Γ call n f m (cAt p0 c) s H) := by
  subst h0
  rw [cAt_snoc]
  generalize cAt p c = d at *
  cases d <;> simp [kindOf] at h
  subst h
  rfl
theorem at_loop {p p0 : List Nat} {c : Code} (h : kindOf (cAt p c) = (5, 0)) (h0 : p0 = p ++ [0]) (s : List V) (H : Heap) :
    evCode P Γ call n f m (cAt p c) s H = evLoopC P Γ call n f m (cAt p0 c) n s H := by
  subst h0
  rw [cAt_snoc]
  generalize cAt p c = d at *
  cases d <;> simp [kindOf] at h
  rfl
theorem at_region {p : List Nat} {c : Code} {l : List Oper} (h : kindOf (cAt p c) = (1, 0)) (hl : opsOf (cAt p c) = l) (s : List V) (H : Heap) :
    evCode P Γ call n f m (cAt p c) s H = regNext (evOpsGo P Γ call l l s H) := by
  generalize cAt p c = d at *
  subst hl
  cases d <;> simp [kindOf] at h
  subst h
  rfl
theorem at_draw {p : List Nat} {c : Code} {l : List Oper} (h : kindOf (cAt p c) = (1, 1)) (hl : opsOf (cAt p c) = l) (s : List V) (H : Heap) :
    evCode P Γ call n f m (cAt p c) s H = regNext (evRegion P Γ call l true s H) := by
  generalize cAt p c = d at *
  subst hl
  cases d <;> simp [kindOf] at h
  subst h
  rfl
theorem at_skip {p : List Nat} {c : Code} (h : kindOf (cAt p c) = (0, 0)) (s : List V) (H : Heap) : evCode P Γ call n f m (cAt p c) s H = some (.normal, s, H) := by
  generalize cAt p c = d at *
  cases d <;> simp [kindOf] at h
  rfl
theorem at_exit {p : List Nat} {c : Code} {id : Nat} (h : kindOf (cAt p c) = (7, id)) (s : List V) (H : Heap) : evCode P Γ call n f m (cAt p c) s H = some (.exit id, s, H) := by
  generalize cAt p c = d at *
  cases d <;> simp [kindOf] at h
  subst h
  rfl
theorem at_ret {p : List Nat} {c : Code} (h : kindOf (cAt p c) = (8, 0)) (s : List V) (H : Heap) : evCode P Γ call n f m (cAt p c) s H = some (.ret, s, H) := by
  generalize cAt p c = d at *
  cases d <;> simp [kindOf] at h
  rfl
theorem body_at {k : Nat} {fn : Func} {rs : List ResultVar} {nt : Nat} (hf : P.funcs[f]? = some fn) (hn : fn.name ≠ "runtime.NumGoroutine") (hb : fn.body.isSome = true) (ho : ∀ args H, Γ.orc f args H = none) (hr : fn.results.toList = rs) (hnt : fn.ntmps = nt) (args : List V) (H : Heap) (ha : args.length ≤ nt) :
    evF P Γ (k + 1) f args H = bodyEnd P rs H.length (evCode P Γ (evF P Γ k) k f H.length (cAt [] (bodyOf fn)) (mkL nt V.undef (enumV 0 args)) H) := by
  obtain ⟨c, hc⟩ := Option.isSome_iff_exists.1 hb
  rw [evF_body hf hn hc ho, hr, hnt, start_mkL _ _ ha]
  simp only [cAt, bodyOf, hc]
end
end Go.Ev

/-
  LOOPS: a loop in its place, by what holds at its head (own work).
-/
set_option linter.unusedSimpArgs false
set_option linter.unusedVariables false
namespace Go.Ev
open Go

section
variable {P : Program} {Γ : Env} {call : CallF} {n f m : Nat}

/-- What a round owes: another state at the head that is smaller; or the loop is left, and the rest is as wanted. -/
def Rnd {σ : Type} (Γ : Env) (f m r : Nat) (S : σ → List V × Heap) (I : σ → Prop) (μ : σ → Nat) (G : Option (Ex × List V × Heap) → Prop) (a : σ) : Option (Ex × List V × Heap) → Prop
  | some (.normal, s, H) => ∃ b, I b ∧ μ b < μ a ∧ tidy Γ f m r s H = S b
  | some x => G (some x)
  | none => False

section
variable {σ : Type} {r : Nat} {S : σ → List V × Heap} {I : σ → Prop} {μ : σ → Nat} {G : Option (Ex × List V × Heap) → Prop} {a : σ}
@[simp] theorem rnd_exit {i : Nat} {s : List V} {H : Heap} : Rnd Γ f m r S I μ G a (some (.exit i, s, H)) = G (some (.exit i, s, H)) := rfl
@[simp] theorem rnd_ret {s : List V} {H : Heap} : Rnd Γ f m r S I μ G a (some (.ret, s, H)) = G (some (.ret, s, H)) := rfl
@[simp] theorem rnd_none : Rnd Γ f m r S I μ G a none = False := rfl
@[simp] theorem rnd_ite {c : Prop} [Decidable c] {x y : Option (Ex × List V × Heap)} : Rnd Γ f m r S I μ G a (if c then x else y) = if c then Rnd Γ f m r S I μ G a x else Rnd Γ f m r S I μ G a y := by split <;> rfl
/-- A round's end. -/
theorem rnd_next {s : List V} {H : Heap} (b : σ) (hI : I b) (hμ : μ b < μ a) (ht : tidy Γ f m r s H = S b) : Rnd Γ f m r S I μ G a (some (.normal, s, H)) := ⟨b, hI, hμ, ht⟩

theorem loop_gen {C : Code} {q : Nat} {s : List V} {H : Heap} {R : Option (Ex × List V × Heap)} (hx : evLoopC P Γ call n f m C q s H = R) (S : σ → List V × Heap) (I : σ → Prop) (μ : σ → Nat) (a : σ)
    (hI : I a) (ht : tidy Γ f m (firstRegion C) s H = S a) (hq : μ a < q)
    (round : ∀ a, I a → μ a < q → Rnd Γ f m (firstRegion C) S I μ G a (evCode P Γ call n f m C (S a).1 (S a).2)) : G R := by
  subst hx
  suffices h : ∀ (q' : Nat) (a : σ) (s : List V) (H : Heap), q' ≤ q → I a → tidy Γ f m (firstRegion C) s H = S a → μ a < q' → G (evLoopC P Γ call n f m C q' s H) from h q a s H (Nat.le_refl _) hI ht hq
  intro q'
  induction q' with
  | zero => intro a s H _ _ _ h; omega
  | succ q' ih =>
    intro a s H hle hI ht hq
    have hr := round a hI (by omega)
    unfold evLoopC
    simp only [evLoop, ht]
    revert hr
    cases hc : evCode P Γ call n f m C (S a).1 (S a).2 with
    | none => intro hr; exact hr.elim
    | some x =>
      obtain ⟨ex, s1, H1⟩ := x
      intro hr
      cases ex with
      | normal =>
        obtain ⟨b, hb, hm, hb2⟩ := hr
        exact ih b s1 H1 (by omega) hb hb2 (by omega)
      | exit i => exact hr
      | ret => exact hr
end
end
end Go.Ev

/-
  DRAWN REGIONS BY A TABLE of which operations are unordered (own work).
-/
set_option linter.unusedSimpArgs false
set_option linter.unusedVariables false
namespace Go.Ev
open Go

/-! The same order, told without repetition. -/
def insU (l : List Nat) (x : Nat) : List Nat := if l.contains x then l else x :: l
def uniU (l : List Nat) : List Nat → List Nat
  | [] => l
  | x :: m => uniU (insU l x) m
def anc2Go : List Oper → List (List Nat) → List (List Nat)
  | [], acc => acc
  | o :: rest, acc => anc2Go rest (acc ++ [o.after.toList.foldl (fun l e => if bindsAny e then uniU (insU l e.on) (acc.getD e.on []) else l) []])
def ancs2 (ops : List Oper) : List (List Nat) := anc2Go ops []
theorem mem_insU {l : List Nat} {x y : Nat} : y ∈ insU l x ↔ y ∈ l ∨ y = x := by
  unfold insU
  split
  · rename_i h
    have : x ∈ l := by simpa using h
    exact ⟨fun h => .inl h, fun h => h.elim id fun e => e ▸ this⟩
  · simp [or_comm]
theorem mem_uniU {m : List Nat} : ∀ {l : List Nat} {y : Nat}, y ∈ uniU l m ↔ y ∈ l ∨ y ∈ m := by
  induction m with
  | nil => intro l y; simp [uniU]
  | cons x m ih =>
    intro l y
    rw [uniU, ih, mem_insU, List.mem_cons, or_assoc]
def SameM (a b : List (List Nat)) : Prop := a.length = b.length ∧ ∀ i y, y ∈ a.getD i [] ↔ y ∈ b.getD i []
theorem SameM.snoc {a b : List (List Nat)} (h : SameM a b) {x z : List Nat} (hx : ∀ y, y ∈ x ↔ y ∈ z) : SameM (a ++ [x]) (b ++ [z]) := by
  refine ⟨by simp [h.1], fun i y => ?_⟩
  rcases Nat.lt_trichotomy i a.length with hi | hi | hi
  · have hb : i < b.length := h.1 ▸ hi
    have := h.2 i y
    simp only [List.getD_eq_getElem?_getD] at this ⊢
    rwa [List.getElem?_append_left hi, List.getElem?_append_left hb]
  · subst hi
    simp only [List.getD_eq_getElem?_getD]
    rw [List.getElem?_append_right (Nat.le_refl _), h.1, List.getElem?_append_right (Nat.le_refl _)]
    simpa using hx y
  · simp only [List.getD_eq_getElem?_getD]
    rw [List.getElem?_eq_none (by simp; omega), List.getElem?_eq_none (by simp; have := h.1; omega)]
theorem same_fold {a b : List (List Nat)} (h : SameM a b) (es : List Edge) : ∀ (l m : List Nat), (∀ y, y ∈ l ↔ y ∈ m) → ∀ y, y ∈ es.foldl (fun l e => if bindsAny e then l ++ [e.on] ++ a.getD e.on [] else l) l ↔ y ∈ es.foldl (fun l e => if bindsAny e then uniU (insU l e.on) (b.getD e.on []) else l) m := by
  induction es with
  | nil => intro l m hl y; exact hl y
  | cons e es ih =>
    intro l m hl y
    simp only [List.foldl_cons]
    refine ih _ _ (fun y => ?_) y
    split
    · rw [mem_uniU, mem_insU, List.mem_append, List.mem_append, List.mem_singleton, hl y, h.2 e.on y]
    · exact hl y
theorem same_go : ∀ (ops : List Oper) (a b : List (List Nat)), SameM a b → SameM (ancGo ops a) (anc2Go ops b)
  | [], a, b, h => h
  | o :: rest, a, b, h => by
    simp only [ancGo, anc2Go]
    exact same_go rest _ _ (h.snoc (same_fold h _ [] [] fun _ => Iff.rfl))
theorem unordered_eq (ops : List Oper) (i j : Nat) : unordered (ancs ops) i j = unordered (ancs2 ops) i j := by
  have h := same_go ops [] [] ⟨rfl, fun _ _ => Iff.rfl⟩
  have hc : ∀ i j, ((ancs ops).getD i []).contains j = ((ancs2 ops).getD i []).contains j := fun i j => by
    rw [Bool.eq_iff_iff, List.contains_iff_mem, List.contains_iff_mem]
    exact h.2 i j
  unfold unordered
  rw [hc, hc]

def unordOf (ops : List Oper) (as : List (List Nat)) (i : Nat) : List Nat := (List.range ops.length).filter (unordered as i)
def rowOf (ops : List Oper) (as : List (List Nat)) (i : Nat) : List Nat × List Nat := (unordOf ops as i, (unordOf ops as i).filterMap fun j => (ops[j]?).bind (·.dst))
def tableOf (ops : List Oper) : Option (List (List Nat × List Nat)) :=
  if backward ops 0 && nodupB (dsts ops) then some ((List.range ops.length).map (rowOf ops (ancs2 ops))) else none

def junkAt (s : List V) : List Nat → List V
  | [] => s
  | t :: l => junkAt (putS s (some t) .junk) l
def idsAt (hs : List Hint) (j : Nat) : List Nat := match hs[j]? with
  | some h => h.w ++ (List.range (h.la - h.lb)).map (h.lb + ·)
  | none => []
def idsL (hs : List Hint) : List Nat → List Nat
  | [] => []
  | j :: l => idsAt hs j ++ idsL hs l
def laterL (hs : List Hint) (i : Nat) : List Nat → Bool
  | [] => true
  | j :: l => (decide (j ≤ i) || (match hs[j]? with | some h => h.la == h.lb | none => true)) && laterL hs i l

theorem maskSlots_tab (as : List (List Nat)) (i : Nat) : ∀ (rest : List Oper) (k : Nat) (s : List V), maskSlots as i rest k s = junkAt s (((List.range' k rest.length).filter (unordered as i)).filterMap fun j => (rest[j - k]?).bind (·.dst))
  | [], k, s => by simp [maskSlots, junkAt]
  | o :: rest, k, s => by
    have hrest : ∀ (l : List Nat), (∀ j ∈ l, k + 1 ≤ j) → (l.filterMap fun j => ((o :: rest)[j - k]?).bind (·.dst)) = l.filterMap fun j => (rest[j - (k + 1)]?).bind (·.dst) := fun l hl => by
      induction l with
      | nil => rfl
      | cons j l ih =>
        have := hl j (by simp)
        have e : j - k = (j - (k + 1)) + 1 := by omega
        rw [List.filterMap_cons, List.filterMap_cons, e, List.getElem?_cons_succ, ih fun x hx => hl x (by simp [hx])]
    have hmem : ∀ j ∈ (List.range' (k + 1) rest.length).filter (unordered as i), k + 1 ≤ j := fun j hj => (List.mem_range'_1.1 (List.mem_filter.1 hj).1).1
    simp only [maskSlots, List.length_cons, List.range'_succ, List.filter_cons]
    by_cases hu : unordered as i k = true
    · rw [if_pos hu, if_pos hu, maskSlots_tab as i rest (k + 1)]
      simp only [List.filterMap_cons, Nat.sub_self, List.getElem?_cons_zero, Option.bind_some]
      cases hd : o.dst with
      | none => simp only [putS]; rw [hrest _ hmem]
      | some t => simp only [junkAt]; rw [hrest _ hmem]
    · rw [if_neg hu, if_neg hu, maskSlots_tab as i rest (k + 1), hrest _ hmem]

theorem maskIds_tab (as : List (List Nat)) (i : Nat) (hs0 : List Hint) : ∀ (hs : List Hint) (k : Nat), hs = hs0.drop k → k + hs.length = hs0.length → maskIds as i hs k = idsL hs0 ((List.range' k hs.length).filter (unordered as i))
  | [], k, _, _ => by simp [maskIds, idsL]
  | h :: rest, k, hd, hk => by
    have hg : hs0[k]? = some h := by
      have := congrArg List.head? hd
      simp at this
      rw [← List.head?_drop]; exact congrArg List.head? hd |>.symm
    have hd2 : rest = hs0.drop (k + 1) := by
      have := congrArg List.tail hd
      simpa using this
    simp only [maskIds, List.length_cons, List.range'_succ, List.filter_cons]
    rw [maskIds_tab as i hs0 rest (k + 1) hd2 (by simp at hk; omega)]
    by_cases hu : unordered as i k = true
    · rw [if_pos hu, if_pos hu]
      simp only [idsL, idsAt, hg]
    · rw [if_neg hu, if_neg hu]
      rfl
theorem laterOk_tab (as : List (List Nat)) (i : Nat) (hs0 : List Hint) : ∀ (hs : List Hint) (k : Nat), hs = hs0.drop k → k + hs.length = hs0.length → laterOk as i hs k = laterL hs0 i ((List.range' k hs.length).filter (unordered as i))
  | [], k, _, _ => by simp [laterOk, laterL]
  | h :: rest, k, hd, hk => by
    have hg : hs0[k]? = some h := by
      rw [← List.head?_drop]; exact congrArg List.head? hd |>.symm
    have hd2 : rest = hs0.drop (k + 1) := by
      have := congrArg List.tail hd
      simpa using this
    simp only [laterOk, List.length_cons, List.range'_succ, List.filter_cons]
    rw [laterOk_tab as i hs0 rest (k + 1) hd2 (by simp at hk; omega)]
    by_cases hu : unordered as i k = true
    · rw [if_pos hu]
      simp only [laterL, hg, hu, Bool.not_true, Bool.or_false]
    · have hu' : unordered as i k = false := by simpa using hu
      rw [if_neg hu]
      simp only [hu', Bool.not_false, Bool.or_true, Bool.true_or, Bool.true_and]

section
variable (P : Program) (Γ : Env) (call : CallF)

/-- The hints, gathered. -/
def hintsA (all : List Oper) : List Oper → List V → Heap → List Hint → Option (List Hint)
  | [], _, _, acc => some acc.reverse
  | o :: rest, s, H, acc => match wantedV all s o with
    | some true => match evOp P Γ call s H o.op with
      | some (v, H') => hintsA all rest (putS s o.dst v) H' (⟨writesOf Γ s H o.op, H.length, H'.length⟩ :: acc)
      | none => none
    | some false => hintsA all rest (putS s o.dst V.undef) H (⟨[], H.length, H.length⟩ :: acc)
    | none => none
theorem hintsA_eq (all : List Oper) : ∀ (ops : List Oper) (s : List V) (H : Heap) (acc : List Hint), hintsA P Γ call all ops s H acc = (hintsGo P Γ call all ops s H).map (acc.reverse ++ ·)
  | [], s, H, acc => by simp [hintsA, hintsGo]
  | o :: rest, s, H, acc => by
    simp only [hintsA, hintsGo]
    cases wantedV all s o with
    | none => rfl
    | some b => cases b with
      | true =>
        simp only
        cases evOp P Γ call s H o.op with
        | none => rfl
        | some r => obtain ⟨v, H'⟩ := r; simp only; rw [hintsA_eq all rest]; simp [Option.map_map, Function.comp_def]
      | false => simp only; rw [hintsA_eq all rest]; simp [Option.map_map, Function.comp_def]

def drawT (all : List Oper) (hs : List Hint) : List Oper → List (List Nat × List Nat) → Nat → List V → Heap → Option (List V × Heap)
  | o :: rest, (js, sl) :: T, i, s, H => match wantedV all (junkAt s sl) o, hs[i]? with
    | some true, some h => match evOp P Γ call (junkAt s sl) (maskHeap (idsL hs js) H) o.op with
      | some (v, H') => if h.lb = H.length ∧ h.la = H'.length ∧ h.w = writesOf Γ (junkAt s sl) (maskHeap (idsL hs js) H) o.op ∧ (h.w.all (fun id => decide (id < H.length) && !(idsL hs js).contains id)) = true ∧ (laterL hs i js || boundedS H.length (junkAt s sl) (maskHeap (idsL hs js) H)) = true then
          drawT all hs rest T (i + 1) (putS s o.dst v) (mergeHeap (idsL hs js) H H') else none
      | none => none
    | some false, some h => if h.lb = H.length ∧ h.la = H.length ∧ h.w = [] then drawT all hs rest T (i + 1) (putS s o.dst V.undef) H else none
    | _, _ => none
  | _, _, _, s, H => some (s, H)

theorem drawT_eq (all : List Oper) (hs : List Hint) (hlen : hs.length = all.length) : ∀ (ops : List Oper) (i : Nat) (s : List V) (H : Heap), i + ops.length = all.length →
    drawT P Γ call all hs ops ((List.range' i ops.length).map (rowOf all (ancs2 all))) i s H = drawGo P Γ call all (ancs all) hs ops i s H
  | [], i, s, H, _ => by simp [drawT, drawGo]
  | o :: rest, i, s, H, hi => by
    have hU : ∀ i, unordOf all (ancs2 all) i = (List.range all.length).filter (unordered (ancs all) i) := fun i => by
      unfold unordOf
      congr 1
      funext j
      exact (unordered_eq all i j).symm
    have e1 : junkAt s ((unordOf all (ancs2 all) i).filterMap fun j => (all[j]?).bind (·.dst)) = maskSlots (ancs all) i all 0 s := by
      rw [maskSlots_tab]
      rw [hU, List.range_eq_range']
      rfl
    have e2 : idsL hs (unordOf all (ancs2 all) i) = maskIds (ancs all) i hs 0 := by
      rw [maskIds_tab (ancs all) i hs hs 0 rfl (by simp)]
      rw [hU, List.range_eq_range', hlen]
    have e3 : laterL hs i (unordOf all (ancs2 all) i) = laterOk (ancs all) i hs 0 := by
      rw [laterOk_tab (ancs all) i hs hs 0 rfl (by simp)]
      rw [hU, List.range_eq_range', hlen]
    simp only [List.length_cons, List.range'_succ, List.map_cons, rowOf, drawT, drawGo]
    rw [e1, e2, e3]
    have ih := fun s H => drawT_eq all hs hlen rest (i + 1) s H (by simp at hi; omega)
    simp only [ih]
    generalize wantedV all (maskSlots (ancs all) i all 0 s) o = w
    generalize hs[i]? = h
    generalize evOp P Γ call (maskSlots (ancs all) i all 0 s) (maskHeap (maskIds (ancs all) i hs 0) H) o.op = r
    cases w with
    | none => rfl
    | some b => cases h with
      | none => cases b <;> rfl
      | some h => cases b with
        | false => rfl
        | true => cases r with
          | none => rfl
          | some r => obtain ⟨v, H'⟩ := r; rfl

/-- A drawn region by its table. -/
def drawR (ops : List Oper) (T : List (List Nat × List Nat)) (s : List V) (H : Heap) : Option (List V × Heap) := match hintsA P Γ call ops ops s H [] with
  | some hs => drawT P Γ call ops hs ops T 0 s H
  | none => none
theorem drawR_eq {ops : List Oper} {T : List (List Nat × List Nat)} (h : tableOf ops = some T) (s : List V) (H : Heap) : evRegion P Γ call ops true s H = drawR P Γ call ops T s H := by
  unfold tableOf at h
  split at h
  · rename_i hb
    cases h
    unfold evRegion drawR
    rw [if_pos rfl, if_pos hb, hintsA_eq]
    cases hh : hintsGo P Γ call ops ops s H with
    | none => rfl
    | some hs =>
      have hlen := hintsGo_length _ _ _ _ hh
      simp only [Option.map_some, List.reverse_nil, List.nil_append]
      rw [List.range_eq_range']
      exact (drawT_eq P Γ call ops hs hlen ops 0 s H (by simp)).symm
  · cases h
end

/-! ### For 'simp' -/
section
variable {P : Program} {Γ : Env} {call : CallF}
def hAnext (P : Program) (Γ : Env) (call : CallF) (all rest : List Oper) (o : Oper) (s : List V) (H : Heap) (acc : List Hint) (r : Option (V × Heap)) : Option (List Hint) := match r with
  | some (v, H') => hintsA P Γ call all rest (putS s o.dst v) H' (⟨writesOf Γ s H o.op, H.length, H'.length⟩ :: acc)
  | none => none
def hAF (P : Program) (Γ : Env) (call : CallF) (all rest : List Oper) (o : Oper) (s : List V) (H : Heap) (acc : List Hint) (b : Bool) : Option (List Hint) :=
  if b then hAnext P Γ call all rest o s H acc (evOp P Γ call s H o.op) else hintsA P Γ call all rest (putS s o.dst V.undef) H (⟨[], H.length, H.length⟩ :: acc)
def hAW (P : Program) (Γ : Env) (call : CallF) (all rest : List Oper) (o : Oper) (s : List V) (H : Heap) (acc : List Hint) (w : Option Bool) : Option (List Hint) := match w with
  | some b => hAF P Γ call all rest o s H acc b
  | none => none
section
variable (all rest : List Oper) (o : Oper) (s : List V) (H : Heap) (acc : List Hint)
@[simp] theorem hAnext_some (v : V) (H' : Heap) : hAnext P Γ call all rest o s H acc (some (v, H')) = hintsA P Γ call all rest (putS s o.dst v) H' (⟨writesOf Γ s H o.op, H.length, H'.length⟩ :: acc) := rfl
@[simp] theorem hAnext_none : hAnext P Γ call all rest o s H acc none = none := rfl
@[simp] theorem hAnext_ite (c : Prop) [Decidable c] (x y : Option (V × Heap)) : hAnext P Γ call all rest o s H acc (if c then x else y) = if c then hAnext P Γ call all rest o s H acc x else hAnext P Γ call all rest o s H acc y := by split <;> rfl
@[simp] theorem hAW_true : hAW P Γ call all rest o s H acc (some true) = hAnext P Γ call all rest o s H acc (evOp P Γ call s H o.op) := rfl
@[simp] theorem hAW_false : hAW P Γ call all rest o s H acc (some false) = hintsA P Γ call all rest (putS s o.dst V.undef) H (⟨[], H.length, H.length⟩ :: acc) := rfl
@[simp] theorem hAW_none : hAW P Γ call all rest o s H acc none = none := rfl
@[simp low] theorem hAW_any (b : Bool) : hAW P Γ call all rest o s H acc (some b) = if b = true then hAF P Γ call all rest o s H acc true else hAF P Γ call all rest o s H acc false := by cases b <;> rfl
@[simp 500] theorem hAW_not (b : Bool) : hAW P Γ call all rest o s H acc (some (!b)) = if b = true then hAF P Γ call all rest o s H acc false else hAF P Γ call all rest o s H acc true := by cases b <;> rfl
@[simp] theorem hintsA_nil : hintsA P Γ call all [] s H acc = some acc.reverse := rfl
@[simp] theorem hintsA_cons : hintsA P Γ call all (o :: rest) s H acc = hAW P Γ call all rest o s H acc (wantedV all s o) := by
  rw [hintsA]
  cases wantedV all s o with
  | none => rfl
  | some b => cases b <;> rfl
end
def dTnext (P : Program) (Γ : Env) (call : CallF) (all : List Oper) (hs : List Hint) (rest : List Oper) (T : List (List Nat × List Nat)) (o : Oper) (js sl : List Nat) (i : Nat) (s : List V) (H : Heap) (h : Hint) (r : Option (V × Heap)) : Option (List V × Heap) := match r with
  | some (v, H') => if h.lb = H.length ∧ h.la = H'.length ∧ h.w = writesOf Γ (junkAt s sl) (maskHeap (idsL hs js) H) o.op ∧ (h.w.all (fun id => decide (id < H.length) && !(idsL hs js).contains id)) = true ∧ (laterL hs i js || boundedS H.length (junkAt s sl) (maskHeap (idsL hs js) H)) = true then
          drawT P Γ call all hs rest T (i + 1) (putS s o.dst v) (mergeHeap (idsL hs js) H H') else none
  | none => none
def dTF (P : Program) (Γ : Env) (call : CallF) (all : List Oper) (hs : List Hint) (rest : List Oper) (T : List (List Nat × List Nat)) (o : Oper) (js sl : List Nat) (i : Nat) (s : List V) (H : Heap) (h : Hint) (b : Bool) : Option (List V × Heap) :=
  if b then dTnext P Γ call all hs rest T o js sl i s H h (evOp P Γ call (junkAt s sl) (maskHeap (idsL hs js) H) o.op)
  else if h.lb = H.length ∧ h.la = H.length ∧ h.w = [] then drawT P Γ call all hs rest T (i + 1) (putS s o.dst V.undef) H else none
def dTW (P : Program) (Γ : Env) (call : CallF) (all : List Oper) (hs : List Hint) (rest : List Oper) (T : List (List Nat × List Nat)) (o : Oper) (js sl : List Nat) (i : Nat) (s : List V) (H : Heap) (w : Option Bool) (h : Option Hint) : Option (List V × Heap) := match w, h with
  | some b, some h => dTF P Γ call all hs rest T o js sl i s H h b
  | _, _ => none
section
variable (all : List Oper) (hs : List Hint) (rest : List Oper) (T : List (List Nat × List Nat)) (o : Oper) (js sl : List Nat) (i : Nat) (s : List V) (H : Heap) (h : Hint)
@[simp] theorem dTnext_some (v : V) (H' : Heap) : dTnext P Γ call all hs rest T o js sl i s H h (some (v, H')) = if h.lb = H.length ∧ h.la = H'.length ∧ h.w = writesOf Γ (junkAt s sl) (maskHeap (idsL hs js) H) o.op ∧ (h.w.all (fun id => decide (id < H.length) && !(idsL hs js).contains id)) = true ∧ (laterL hs i js || boundedS H.length (junkAt s sl) (maskHeap (idsL hs js) H)) = true then
          drawT P Γ call all hs rest T (i + 1) (putS s o.dst v) (mergeHeap (idsL hs js) H H') else none := rfl
@[simp] theorem dTnext_none : dTnext P Γ call all hs rest T o js sl i s H h none = none := rfl
@[simp] theorem dTnext_ite (c : Prop) [Decidable c] (x y : Option (V × Heap)) : dTnext P Γ call all hs rest T o js sl i s H h (if c then x else y) = if c then dTnext P Γ call all hs rest T o js sl i s H h x else dTnext P Γ call all hs rest T o js sl i s H h y := by split <;> rfl
@[simp] theorem dTW_true : dTW P Γ call all hs rest T o js sl i s H (some true) (some h) = dTnext P Γ call all hs rest T o js sl i s H h (evOp P Γ call (junkAt s sl) (maskHeap (idsL hs js) H) o.op) := rfl
@[simp] theorem dTW_false : dTW P Γ call all hs rest T o js sl i s H (some false) (some h) = if h.lb = H.length ∧ h.la = H.length ∧ h.w = [] then drawT P Γ call all hs rest T (i + 1) (putS s o.dst V.undef) H else none := rfl
@[simp low] theorem dTW_any (b : Bool) : dTW P Γ call all hs rest T o js sl i s H (some b) (some h) = if b = true then dTF P Γ call all hs rest T o js sl i s H h true else dTF P Γ call all hs rest T o js sl i s H h false := by cases b <;> rfl
@[simp 500] theorem dTW_not (b : Bool) : dTW P Γ call all hs rest T o js sl i s H (some (!b)) (some h) = if b = true then dTF P Γ call all hs rest T o js sl i s H h false else dTF P Γ call all hs rest T o js sl i s H h true := by cases b <;> rfl
@[simp] theorem drawT_nil : drawT P Γ call all hs [] T i s H = some (s, H) := by cases T <;> rfl
@[simp] theorem drawT_cons : drawT P Γ call all hs (o :: rest) ((js, sl) :: T) i s H = dTW P Γ call all hs rest T o js sl i s H (wantedV all (junkAt s sl) o) hs[i]? := by
  rw [drawT]
  cases wantedV all (junkAt s sl) o with
  | none => rfl
  | some b => cases hs[i]? with
    | none => cases b <;> rfl
    | some h => cases b <;> rfl
end
def dRnext (P : Program) (Γ : Env) (call : CallF) (ops : List Oper) (T : List (List Nat × List Nat)) (s : List V) (H : Heap) (r : Option (List Hint)) : Option (List V × Heap) := match r with
  | some hs => drawT P Γ call ops hs ops T 0 s H
  | none => none
section
variable (ops : List Oper) (T : List (List Nat × List Nat)) (s : List V) (H : Heap)
@[simp] theorem dRnext_some (hs : List Hint) : dRnext P Γ call ops T s H (some hs) = drawT P Γ call ops hs ops T 0 s H := rfl
@[simp] theorem dRnext_none : dRnext P Γ call ops T s H none = none := rfl
@[simp] theorem dRnext_ite (c : Prop) [Decidable c] (x y : Option (List Hint)) : dRnext P Γ call ops T s H (if c then x else y) = if c then dRnext P Γ call ops T s H x else dRnext P Γ call ops T s H y := by split <;> rfl
@[simp] theorem drawR_def : drawR P Γ call ops T s H = dRnext P Γ call ops T s H (hintsA P Γ call ops ops s H []) := rfl
end
theorem at_drawT {n f m : Nat} {p : List Nat} {c : Code} {l : List Oper} {T : List (List Nat × List Nat)} (h : kindOf (cAt p c) = (1, 1)) (hl : opsOf (cAt p c) = l) (ht : tableOf l = some T) (s : List V) (H : Heap) :
    evCode P Γ call n f m (cAt p c) s H = regNext (drawR P Γ call l T s H) := by
  rw [at_draw h hl, drawR_eq P Γ call ht]
@[simp] theorem junkAt_nil (s : List V) : junkAt s [] = s := rfl
@[simp] theorem junkAt_cons (s : List V) (t : Nat) (l : List Nat) : junkAt s (t :: l) = junkAt (putS s (some t) .junk) l := rfl
theorem maskHeap_nil' (H : Heap) : maskHeap [] H = H := by
  unfold maskHeap
  refine List.ext_getElem? fun i => ?_
  rw [List.getElem?_mapIdx]
  cases H[i]? <;> simp
@[simp] theorem maskHeap_none (H : Heap) : maskHeap [] H = H := maskHeap_nil' H
@[simp] theorem mergeHeap_none (H H' : Heap) : mergeHeap [] H H' = H' := by
  unfold mergeHeap
  refine List.ext_getElem? fun i => ?_
  rw [List.getElem?_mapIdx]
  cases H'[i]? <;> simp
end
attribute [simp] idsAt idsL laterL

/-! ### Bounds -/
def bndR (k : Nat) : List Nat → Bool
  | [] => true
  | i :: l => decide (i < k) && bndR k l
def bndA (k : Nat) : List (Nat × V) → Bool
  | [] => true
  | (_, v) :: l => bndR k v.refs && bndA k l
def bndH (k : Nat) : Heap → Bool
  | [] => true
  | b :: H => bndR k (blkRefs b) && bndH k H
theorem bndR_all (k : Nat) : ∀ l : List Nat, bndR k l = l.all (decide <| · < k)
  | [] => rfl
  | i :: l => by simp only [bndR, List.all_cons, bndR_all k l]
theorem bounded_ok {k n : Nat} {d : V} {l : List (Nat × V)} {H : Heap} (hd : d.refs = []) (hl : bndA k l = true) (hH : bndH k H = true) : boundedS k (mkL n d l) H = true := by
  refine boundedS_mkL _ _ _ _ _ hd ?_ ?_
  · induction l with
    | nil => rfl
    | cons x l ih =>
      obtain ⟨i, v⟩ := x
      simp only [bndA, Bool.and_eq_true] at hl
      simp only [List.all_cons, Bool.and_eq_true]
      exact ⟨by rw [← bndR_all]; exact hl.1, ih hl.2⟩
  · induction H with
    | nil => rfl
    | cons b H ih =>
      simp only [bndH, Bool.and_eq_true] at hH
      simp only [List.all_cons, Bool.and_eq_true]
      exact ⟨by rw [← bndR_all]; exact hH.1, ih hH.2⟩
@[simp] theorem bounded1 {k n : Nat} {l : List (Nat × V)} {H : Heap} (hl : bndA k l = true) (hH : bndH k H = true) : boundedS k (mkL n (.tup []) l) H = true := bounded_ok rfl hl hH
@[simp] theorem bounded2 {k n : Nat} {l : List (Nat × V)} {H : Heap} (hl : bndA k l = true) (hH : bndH k H = true) : boundedS k (mkL n .junk l) H = true := bounded_ok rfl hl hH
attribute [simp] bndA bndR bndH
end Go.Ev

/-
  LOOP HEADS AT WHICH WHAT IS WITHIN BLOCKS IS READ OUT FOR GOOD, FOR EVALUATION BY 'simp' (own work).
-/
set_option linter.unusedSimpArgs false
set_option linter.unusedVariables false
namespace Go.Ev
open Go

section
variable (keep : Nat → Bool) (d : Nat) (H : Heap)
@[simp] theorem snapK_bool (b : Bool) : snapK keep d H (.bool b) = .bool b := by cases d <;> rfl
@[simp] theorem snapK_int (k : IntKind) (n : Int) : snapK keep d H (.int k n) = .int k n := by cases d <;> rfl
@[simp] theorem snapK_str (s : ByteArray) : snapK keep d H (.str s) = .str s := by cases d <;> rfl
@[simp] theorem snapK_nilp : snapK keep d H .nilp = .nilp := by cases d <;> rfl
@[simp] theorem snapK_nils : snapK keep d H .nils = .nils := by cases d <;> rfl
@[simp] theorem snapK_nilm : snapK keep d H .nilm = .nilm := by cases d <;> rfl
@[simp] theorem snapK_nilf : snapK keep d H .nilf = .nilf := by cases d <;> rfl
@[simp] theorem snapK_nili : snapK keep d H .nili = .nili := by cases d <;> rfl
@[simp] theorem snapK_junk : snapK keep d H .junk = .junk := by cases d <;> rfl
@[simp] theorem snapK_ros (n : Nat) (cs : List V) : snapK keep d H (.ros n cs) = .ros n cs := by cases d <;> rfl
@[simp] theorem snapK_rov (cs : List V) : snapK keep d H (.ro cs) = .ro cs := by cases d <;> rfl
@[simp] theorem snapK_rom (ks vs : List V) : snapK keep d H (.rom ks vs) = .rom ks vs := by cases d <;> rfl
@[simp] theorem snapK_roV (z : Bool) (n : Nat) (cs : List V) : snapK keep d H (roV z n cs) = roV z n cs := by unfold roV; split <;> simp
/-- A block, read out. -/
def snapKB (off : Nat) (n : Option (Nat × Nat)) : Option (Option Blk) → V
  | some (some (.cells cs _)) => match n with
    | none => .ro ((cs.drop off).map (snapK keep d H))
    | some (len, sz) => .ros len (((cs.drop off).take (len * sz)).map (snapK keep d H))
  | _ => .junk
@[simp] theorem snapKB_ptr (off : Nat) (cs : List V) (e : Bool) : snapKB keep d H off none (some (some (.cells cs e))) = .ro ((cs.drop off).map (snapK keep d H)) := rfl
@[simp] theorem snapKB_sl (off len sz : Nat) (cs : List V) (e : Bool) : snapKB keep d H off (some (len, sz)) (some (some (.cells cs e))) = .ros len (((cs.drop off).take (len * sz)).map (snapK keep d H)) := rfl
@[simp] theorem snapK_ptr (id off : Nat) : snapK keep (d + 1) H (.ptr id off) = if keep id then .junk else snapKB keep d H off none H[id]? := by
  rw [snapK, V.sub, snapKB.eq_def]
  cases keep id <;> simp
  cases H[id]? with
  | none => rfl
  | some o => cases o with
    | none => rfl
    | some b => cases b <;> rfl
@[simp] theorem snapK_sl (id off len sz : Nat) : snapK keep (d + 1) H (.sl id off len sz) = if keep id then .junk else snapKB keep d H off (some (len, sz)) H[id]? := by
  rw [snapK, V.sub, snapKB.eq_def]
  cases keep id <;> simp
  cases H[id]? with
  | none => rfl
  | some o => cases o with
    | none => rfl
    | some b => cases b <;> rfl
end
theorem flat_snapK {keep : Nat → Bool} {d : Nat} {H : Heap} {cs : List V} (h : ∀ v ∈ cs, v.flat = true) : cs.map (snapK keep d H) = cs := by
  induction cs with
  | nil => rfl
  | cons v l ih =>
    have h1 := h v (by simp)
    have h2 : snapK keep d H v = v := by cases v <;> simp [V.flat] at h1 <;> simp
    simp [h2, ih fun v hv => h v (by simp [hv])]
@[simp] theorem snapK_flatE {α : Type} (E : Enc α) {keep : Nat → Bool} {d : Nat} {H : Heap} (l : List α) : (flatE E l).map (snapK keep d H) = flatE E l := flat_snapK (flatE_flat E l)
@[simp] theorem snapK_f {α : Type} (E : Enc α) {keep : Nat → Bool} {d : Nat} {H : Heap} (a : α) : (E.f a).map (snapK keep d H) = E.f a := flat_snapK (E.flat a)

section
variable (m : Nat) (L : List Nat) (H : Heap)
@[simp] theorem coldV_bool (b : Bool) : coldV m L H (.bool b) = .bool b := rfl
@[simp] theorem coldV_int (k : IntKind) (n : Int) : coldV m L H (.int k n) = .int k n := rfl
@[simp] theorem coldV_str (s : ByteArray) : coldV m L H (.str s) = .str s := rfl
@[simp] theorem coldV_nilp : coldV m L H .nilp = .nilp := rfl
@[simp] theorem coldV_nils : coldV m L H .nils = .nils := rfl
@[simp] theorem coldV_nilm : coldV m L H .nilm = .nilm := rfl
@[simp] theorem coldV_nilf : coldV m L H .nilf = .nilf := rfl
@[simp] theorem coldV_nili : coldV m L H .nili = .nili := rfl
@[simp] theorem coldV_junk : coldV m L H .junk = .junk := rfl
@[simp] theorem coldV_ros (n : Nat) (cs : List V) : coldV m L H (.ros n cs) = .ros n cs := rfl
@[simp] theorem coldV_rov (cs : List V) : coldV m L H (.ro cs) = .ro cs := rfl
@[simp] theorem coldV_rom (ks vs : List V) : coldV m L H (.rom ks vs) = .rom ks vs := rfl
@[simp] theorem coldV_roV (z : Bool) (n : Nat) (cs : List V) : coldV m L H (roV z n cs) = roV z n cs := by unfold roV; split <;> rfl
@[simp] theorem coldV_agg (cs : List V) : coldV m L H (.agg cs) = .agg (cs.map (coldV m L H)) := by
  unfold coldV; rw [V.sub, subL_eq]
@[simp] theorem coldV_tup (cs : List V) : coldV m L H (.tup cs) = .tup (cs.map (coldV m L H)) := by
  unfold coldV; rw [V.sub, subL_eq]
@[simp] theorem coldV_fn (f : Fn) (a b : List V) : coldV m L H (.fn f a b) = .fn f (a.map (coldV m L H)) (b.map (coldV m L H)) := by
  unfold coldV; rw [V.sub, subL_eq, subL_eq]
@[simp] theorem coldV_iface (t : Nat) (v : V) : coldV m L H (.iface t v) = .iface t (coldV m L H v) := rfl
@[simp] theorem coldV_ptr (id off : Nat) : coldV m L H (.ptr id off) = if keptB m L id = true then (V.ptr id off).ren (keepOf m L) else snapK (keptB m L) 4 H (.ptr id off) := rfl
@[simp] theorem coldV_sl (id off len sz : Nat) : coldV m L H (.sl id off len sz) = if keptB m L id = true then (V.sl id off len sz).ren (keepOf m L) else snapK (keptB m L) 4 H (.sl id off len sz) := rfl
@[simp] theorem coldV_map (id : Nat) : coldV m L H (.map id) = if keptB m L id = true then (V.map id).ren (keepOf m L) else snapK (keptB m L) 4 H (.map id) := rfl
/-- An own slice within a block: read out. -/
@[simp] theorem coldV_own {z : Bool} {id off n sz : Nat} {cs : List V} (hk : keptB m L id = false) (hH : H[id]? = some (ownB z n cs)) : coldV m L H (ownV z id off n sz) = roV z n (((cs.drop off).take (n * sz)).map (snapK (keptB m L) 3 H)) := by
  unfold ownV roV; split
  · rfl
  · rename_i hz
    rw [ownB, if_neg hz] at hH
    simp [hk, hH]
end
theorem flat_cold {m : Nat} {L : List Nat} {H : Heap} {cs : List V} (h : ∀ v ∈ cs, v.flat = true) : cs.map (coldV m L H) = cs := by
  induction cs with
  | nil => rfl
  | cons v l ih =>
    have h1 := h v (by simp)
    have h2 : coldV m L H v = v := by cases v <;> simp [V.flat] at h1 <;> simp
    simp [h2, ih fun v hv => h v (by simp [hv])]
@[simp] theorem cold_flatE {α : Type} (E : Enc α) {m : Nat} {L : List Nat} {H : Heap} (l : List α) : (flatE E l).map (coldV m L H) = flatE E l := flat_cold (flatE_flat E l)
@[simp] theorem cold_f {α : Type} (E : Enc α) {m : Nat} {L : List Nat} {H : Heap} (a : α) : (E.f a).map (coldV m L H) = E.f a := flat_cold (E.flat a)

def coldA (m : Nat) (L : List Nat) (H : Heap) : List (Nat × V) → List (Nat × V)
  | [] => []
  | (i, v) :: l => (i, coldV m L H v) :: coldA m L H l
@[simp] theorem coldA_nil (m : Nat) (L : List Nat) (H : Heap) : coldA m L H [] = [] := rfl
@[simp] theorem coldA_cons (m : Nat) (L : List Nat) (H : Heap) (i : Nat) (v : V) (l : List (Nat × V)) : coldA m L H ((i, v) :: l) = (i, coldV m L H v) :: coldA m L H l := rfl
theorem look_cold (m : Nat) (L : List Nat) (H : Heap) (j : Nat) : ∀ l : List (Nat × V), lookD .junk (coldA m L H l) j = coldV m L H (lookD .junk l j)
  | [] => rfl
  | (i, v) :: l => by
    simp only [coldA_cons, lookD_cons, look_cold m L H j l]
    split <;> rfl
theorem cold_mkL (m : Nat) (L : List Nat) (H : Heap) (n : Nat) (l : List (Nat × V)) : (mkL n .junk l).map (coldV m L H) = mkL n .junk (coldA m L H l) := by
  refine List.ext_getElem? fun j => ?_
  rw [List.getElem?_map, mkL_get, mkL_get, look_cold]
  split <;> rfl
/-- A loop's head, by what was written: what lies within blocks is read out for good. -/
@[simp] theorem tidy_cold {Γ : Env} {f m id n : Nat} {d : V} {l : List (Nat × V)} {H : Heap} {is : List Nat} (h : Γ.live f id = some is) (hk : Γ.keep f id = false) (hc : Γ.cold f id = true) (ha : asc n is = true) :
    tidy Γ f m id (mkL n d l) H = (mkL n .junk (coldA m (topPlace m H fuelR (leavesA (pick d l is)) []) H (pick d l is)), coldHeap m (topPlace m H fuelR (leavesA (pick d l is)) []) H) := by
  unfold tidy
  rw [h]
  simp only [hk, hc, Bool.false_eq_true, if_false, if_true]
  rw [keepLive_mkL, cold_mkL, leavesL_mkL _ _ (by rw [pick_keys]; exact ha)]
/-- Nothing appended. -/
@[simp] theorem appendS_zero_t {H : Heap} {n b id off len : Nat} {cs vs : List V} (hH : H[id]? = some (some (.cells cs true))) : appendS H n b (.sl id off len n) 0 vs = some (.sl id off len n, H) := by
  simp only [appendS, hH, bne_self_eq_false, Bool.false_eq_true, if_false, if_true]
@[simp] theorem appendS_zero_f {H : Heap} {n b id off len : Nat} {cs vs : List V} (hH : H[id]? = some (some (.cells cs false))) : appendS H n b (.sl id off len n) 0 vs = some (.sl id off len n, H) := by
  simp only [appendS, hH, bne_self_eq_false, Bool.false_eq_true, if_false, if_true]
attribute [simp] coldHeap topPlace keptB Blk.mapV
theorem evF_orc {P : Program} {Γ : Env} {k f : Nat} {args : List V} {H : Heap} {r : V × Heap} (h : Γ.orc f args H = some r) : evF P Γ (k + 1) f args H = some r := by
  simp only [evF, h]

/-! ### The same by short names: what the kernel can see is left to it -/
section
variable {P : Program} {Γ : Env} {call : CallF} {n f m : Nat} {p p0 p1 : List Nat} {c : Code} {s : List V} {H : Heap} {id : Nat} {o : Operand} {l : List Oper} {T : List (List Nat × List Nat)}
end
end Go.Ev
