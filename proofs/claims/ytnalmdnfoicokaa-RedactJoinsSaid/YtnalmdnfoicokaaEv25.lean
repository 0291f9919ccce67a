/-
  FOR EVALUATION BY 'simp' (own work).
-/
import Derived.Test.YtnalmdnfoicokaaEv24
set_option linter.unusedSimpArgs false
set_option linter.unusedVariables false
namespace Go.Ev
open Go

/-- A loop, left as it is by 'simp'. -/
def evLoopC (P : Program) (Γ : Env) (call : CallF) (n f m : Nat) (c : Code) (q : Nat) (s : List V) (H : Heap) : Option (Ex × List V × Heap) :=
  evLoop (fun s H => evCode P Γ call n f m c (tidy Γ f m (firstRegion c) s H).1 (tidy Γ f m (firstRegion c) s H).2) q s H

def codeLoops : Code → List Code
  | .seq a b => codeLoops a ++ codeLoops b
  | .cond _ a b => codeLoops a ++ codeLoops b
  | .block _ c => codeLoops c
  | .scope c => codeLoops c
  | .loop c => c :: codeLoops c
  | _ => []
def loopBody (f : Func) (i : Nat) : Code := match f.body with
  | some c => (codeLoops c).getD i .skip
  | none => .skip

section
variable {P : Program} {Γ : Env} {call : CallF} {n f m : Nat}

@[simp] theorem evCode_skip (s : List V) (H : Heap) : evCode P Γ call n f m .skip s H = some (.normal, s, H) := rfl
/-- What follows a region, a piece of code, a block. -/
def regNext (r : Option (List V × Heap)) : Option (Ex × List V × Heap) := match r with
  | some (s', H') => some (.normal, s', H')
  | none => none
@[simp] theorem regNext_some (s : List V) (H : Heap) : regNext (some (s, H)) = some (.normal, s, H) := rfl
@[simp] theorem regNext_none : regNext none = none := rfl
@[simp] theorem regNext_ite (c : Prop) [Decidable c] (x y : Option (List V × Heap)) : regNext (if c then x else y) = if c then regNext x else regNext y := by split <;> rfl
def seqNext (P : Program) (Γ : Env) (call : CallF) (n f m : Nat) (b : Code) (r : Option (Ex × List V × Heap)) : Option (Ex × List V × Heap) := match r with
  | some (.normal, s', H') => evCode P Γ call n f m b s' H'
  | r => r
@[simp] theorem seqNext_normal (b : Code) (s : List V) (H : Heap) : seqNext P Γ call n f m b (some (.normal, s, H)) = evCode P Γ call n f m b s H := rfl
@[simp] theorem seqNext_exit (b : Code) (i : Nat) (s : List V) (H : Heap) : seqNext P Γ call n f m b (some (.exit i, s, H)) = some (.exit i, s, H) := rfl
@[simp] theorem seqNext_ret (b : Code) (s : List V) (H : Heap) : seqNext P Γ call n f m b (some (.ret, s, H)) = some (.ret, s, H) := rfl
@[simp] theorem seqNext_none (b : Code) : seqNext P Γ call n f m b none = none := rfl
@[simp] theorem seqNext_ite (b : Code) (c : Prop) [Decidable c] (x y : Option (Ex × List V × Heap)) : seqNext P Γ call n f m b (if c then x else y) = if c then seqNext P Γ call n f m b x else seqNext P Γ call n f m b y := by split <;> rfl
def blockNext (id : Nat) (r : Option (Ex × List V × Heap)) : Option (Ex × List V × Heap) := match r with
  | some (.exit j, s', H') => if j = id then some (.normal, s', H') else some (.exit j, s', H')
  | r => r
@[simp] theorem blockNext_normal (id : Nat) (s : List V) (H : Heap) : blockNext id (some (.normal, s, H)) = some (.normal, s, H) := rfl
@[simp] theorem blockNext_exit (id i : Nat) (s : List V) (H : Heap) : blockNext id (some (.exit i, s, H)) = if i = id then some (.normal, s, H) else some (.exit i, s, H) := rfl
@[simp] theorem blockNext_ret (id : Nat) (s : List V) (H : Heap) : blockNext id (some (.ret, s, H)) = some (.ret, s, H) := rfl
@[simp] theorem blockNext_none (id : Nat) : blockNext id none = none := rfl
@[simp] theorem blockNext_ite (id : Nat) (c : Prop) [Decidable c] (x y : Option (Ex × List V × Heap)) : blockNext id (if c then x else y) = if c then blockNext id x else blockNext id y := by split <;> rfl
@[simp] theorem evCode_region (id : Nat) (ops : Array Oper) (draw : Bool) (s : List V) (H : Heap) : evCode P Γ call n f m (.region id ops draw) s H = regNext (evRegion P Γ call ops.toList draw s H) := rfl
@[simp] theorem evCode_seq (a b : Code) (s : List V) (H : Heap) : evCode P Γ call n f m (.seq a b) s H = seqNext P Γ call n f m b (evCode P Γ call n f m a s H) := rfl
@[simp] theorem evCode_block (id : Nat) (c : Code) (s : List V) (H : Heap) : evCode P Γ call n f m (.block id c) s H = blockNext id (evCode P Γ call n f m c s H) := rfl
@[simp] theorem evCode_loop (c : Code) (s : List V) (H : Heap) : evCode P Γ call n f m (.loop c) s H = evLoopC P Γ call n f m c n s H := rfl
@[simp] theorem evCode_scope (c : Code) (s : List V) (H : Heap) : evCode P Γ call n f m (.scope c) s H = evCode P Γ call n f m c s H := rfl
@[simp] theorem evCode_label (l : Nat) (s : List V) (H : Heap) : evCode P Γ call n f m (.label l) s H = some (.normal, s, H) := rfl
@[simp] theorem evCode_exit (id : Nat) (s : List V) (H : Heap) : evCode P Γ call n f m (.exit id) s H = some (.exit id, s, H) := rfl
@[simp] theorem evCode_ret (s : List V) (H : Heap) : evCode P Γ call n f m .ret s H = some (.ret, s, H) := rfl
@[simp] theorem evRegion_in (ops : List Oper) (s : List V) (H : Heap) : evRegion P Γ call ops false s H = evOpsGo P Γ call ops ops s H := rfl

/-- A loop sees its state tidied. -/
theorem loop_same {c : Code} {q : Nat} {s s' : List V} {H H' : Heap} (ht : tidy Γ f m (firstRegion c) s H = tidy Γ f m (firstRegion c) s' H') :
    evLoopC P Γ call n f m c (q + 1) s H = evLoopC P Γ call n f m c (q + 1) s' H' := by
  unfold evLoopC
  simp only [evLoop, ht]
/-- A loop's round that goes on. -/
theorem loop_on {c : Code} {q : Nat} {s s0 s1 : List V} {H H0 H1 : Heap} (ht : tidy Γ f m (firstRegion c) s H = (s0, H0)) (hc : evCode P Γ call n f m c s0 H0 = some (.normal, s1, H1)) :
    evLoopC P Γ call n f m c (q + 1) s H = evLoopC P Γ call n f m c q s1 H1 := by
  unfold evLoopC
  simp only [evLoop, ht, hc]
/-- A loop's last round. -/
theorem loop_off {c : Code} {q id : Nat} {s s0 s1 : List V} {H H0 H1 : Heap} (ht : tidy Γ f m (firstRegion c) s H = (s0, H0)) (hc : evCode P Γ call n f m c s0 H0 = some (.exit id, s1, H1)) :
    evLoopC P Γ call n f m c (q + 1) s H = some (.exit id, s1, H1) := by
  unfold evLoopC
  simp only [evLoop, ht, hc]
theorem loop_ret {c : Code} {q : Nat} {s s0 s1 : List V} {H H0 H1 : Heap} (ht : tidy Γ f m (firstRegion c) s H = (s0, H0)) (hc : evCode P Γ call n f m c s0 H0 = some (.ret, s1, H1)) :
    evLoopC P Γ call n f m c (q + 1) s H = some (.ret, s1, H1) := by
  unfold evLoopC
  simp only [evLoop, ht, hc]

/-- A function's end. -/
def bodyEnd (P : Program) (rs : List ResultVar) (m : Nat) (r : Option (Ex × List V × Heap)) : Option (V × Heap) := match r with
  | some (.exit _, _, _) => none
  | some (_, s, G) => (resultsO P s G rs).map fun l => finish m G (packV l)
  | none => none
@[simp] theorem bodyEnd_normal (rs : List ResultVar) (m : Nat) (s : List V) (H : Heap) : bodyEnd P rs m (some (.normal, s, H)) = (resultsO P s H rs).map fun l => finish m H (packV l) := rfl
@[simp] theorem bodyEnd_ret (rs : List ResultVar) (m : Nat) (s : List V) (H : Heap) : bodyEnd P rs m (some (.ret, s, H)) = (resultsO P s H rs).map fun l => finish m H (packV l) := rfl
@[simp] theorem bodyEnd_exit (rs : List ResultVar) (m i : Nat) (s : List V) (H : Heap) : bodyEnd P rs m (some (.exit i, s, H)) = none := rfl
@[simp] theorem bodyEnd_none (rs : List ResultVar) (m : Nat) : bodyEnd P rs m none = none := rfl
@[simp] theorem bodyEnd_ite (rs : List ResultVar) (m : Nat) (c : Prop) [Decidable c] (x y : Option (Ex × List V × Heap)) : bodyEnd P rs m (if c then x else y) = if c then bodyEnd P rs m x else bodyEnd P rs m y := by split <;> rfl
theorem evF_body {k : Nat} {fn : Func} {c : Code} (hf : P.funcs[f]? = some fn) (hn : fn.name ≠ "runtime.NumGoroutine") (hb : fn.body = some c) (ho : ∀ args H, Γ.orc f args H = none) (args : List V) (H : Heap) :
    evF P Γ (k + 1) f args H = bodyEnd P fn.results.toList H.length (evCode P Γ (evF P Γ k) k f H.length c (args ++ List.replicate (fn.ntmps - args.length) V.undef) H) := by
  rw [evF, ho, hf]
  simp only [if_neg hn]
  unfold evBody
  rw [hb]
  simp only
  unfold bodyEnd
  split <;> rename_i hx
  · simp only [hx]
  · rename_i ex s G hne
    simp only [hx]
    cases ex with
    | exit i => exact absurd rfl (hne _)
    | normal => cases resultsO P s G fn.results.toList <;> rfl
    | ret => cases resultsO P s G fn.results.toList <;> rfl
  · simp only [hx]
end

/-- One operation more. -/
def opNext (P : Program) (Γ : Env) (call : CallF) (all rest : List Oper) (d : Option Tmp) (s : List V) (r : Option (V × Heap)) : Option (List V × Heap) := match r with
  | some (v, H') => evOpsGo P Γ call all rest (putS s d v) H'
  | none => none
@[simp] theorem opNext_some (P : Program) (Γ : Env) (call : CallF) (all rest : List Oper) (d : Option Tmp) (s : List V) (v : V) (H' : Heap) : opNext P Γ call all rest d s (some (v, H')) = evOpsGo P Γ call all rest (putS s d v) H' := rfl
@[simp] theorem opNext_none (P : Program) (Γ : Env) (call : CallF) (all rest : List Oper) (d : Option Tmp) (s : List V) : opNext P Γ call all rest d s none = none := rfl
@[simp] theorem opNext_ite (P : Program) (Γ : Env) (call : CallF) (all rest : List Oper) (d : Option Tmp) (s : List V) (c : Prop) [Decidable c] (x y : Option (V × Heap)) :
    opNext P Γ call all rest d s (if c then x else y) = if c then opNext P Γ call all rest d s x else opNext P Γ call all rest d s y := by split <;> rfl
@[simp] theorem evOpsGo_nil (P : Program) (Γ : Env) (call : CallF) (all : List Oper) (s : List V) (H : Heap) : evOpsGo P Γ call all [] s H = some (s, H) := rfl
/-- A guarded operation, where the guard is not known yet: kept as it is till 'thaw'. -/
def stepF (P : Program) (Γ : Env) (call : CallF) (all : List Oper) (o : Oper) (rest : List Oper) (s : List V) (H : Heap) (b : Bool) : Option (List V × Heap) :=
  if b then opNext P Γ call all rest o.dst s (evOp P Γ call s H o.op) else evOpsGo P Γ call all rest (putS s o.dst V.undef) H
def stepW (P : Program) (Γ : Env) (call : CallF) (all : List Oper) (o : Oper) (rest : List Oper) (s : List V) (H : Heap) (w : Option Bool) : Option (List V × Heap) := match w with
  | some b => stepF P Γ call all o rest s H b
  | none => none
theorem stepF_true (P : Program) (Γ : Env) (call : CallF) (all : List Oper) (o : Oper) (rest : List Oper) (s : List V) (H : Heap) : stepF P Γ call all o rest s H true = opNext P Γ call all rest o.dst s (evOp P Γ call s H o.op) := rfl
theorem stepF_false (P : Program) (Γ : Env) (call : CallF) (all : List Oper) (o : Oper) (rest : List Oper) (s : List V) (H : Heap) : stepF P Γ call all o rest s H false = evOpsGo P Γ call all rest (putS s o.dst V.undef) H := rfl
@[simp] theorem stepW_true (P : Program) (Γ : Env) (call : CallF) (all : List Oper) (o : Oper) (rest : List Oper) (s : List V) (H : Heap) : stepW P Γ call all o rest s H (some true) = opNext P Γ call all rest o.dst s (evOp P Γ call s H o.op) := rfl
@[simp] theorem stepW_false (P : Program) (Γ : Env) (call : CallF) (all : List Oper) (o : Oper) (rest : List Oper) (s : List V) (H : Heap) : stepW P Γ call all o rest s H (some false) = evOpsGo P Γ call all rest (putS s o.dst V.undef) H := rfl
@[simp] theorem stepW_none (P : Program) (Γ : Env) (call : CallF) (all : List Oper) (o : Oper) (rest : List Oper) (s : List V) (H : Heap) : stepW P Γ call all o rest s H none = none := rfl
@[simp low] theorem stepW_any (P : Program) (Γ : Env) (call : CallF) (all : List Oper) (o : Oper) (rest : List Oper) (s : List V) (H : Heap) (b : Bool) : stepW P Γ call all o rest s H (some b) = if b = true then stepF P Γ call all o rest s H true else stepF P Γ call all o rest s H false := by cases b <;> rfl
@[simp 500] theorem stepW_not (P : Program) (Γ : Env) (call : CallF) (all : List Oper) (o : Oper) (rest : List Oper) (s : List V) (H : Heap) (b : Bool) : stepW P Γ call all o rest s H (some (!b)) = if b = true then stepF P Γ call all o rest s H false else stepF P Γ call all o rest s H true := by cases b <;> rfl
@[simp] theorem evOpsGo_cons (P : Program) (Γ : Env) (call : CallF) (all : List Oper) (o : Oper) (rest : List Oper) (s : List V) (H : Heap) :
    evOpsGo P Γ call all (o :: rest) s H = stepW P Γ call all o rest s H (wantedV all s o) := by
  rw [evOpsGo]
  cases wantedV all s o with
  | none => rfl
  | some b => cases b <;> rfl

/-- An 'if', likewise. -/
def condF (P : Program) (Γ : Env) (call : CallF) (n f m : Nat) (x y : Code) (s : List V) (H : Heap) (b : Bool) : Option (Ex × List V × Heap) := if b then evCode P Γ call n f m x s H else evCode P Γ call n f m y s H
def condW (P : Program) (Γ : Env) (call : CallF) (n f m : Nat) (x y : Code) (s : List V) (H : Heap) (v : V) : Option (Ex × List V × Heap) := match v with
  | .bool b => condF P Γ call n f m x y s H b
  | _ => none
section
variable {P : Program} {Γ : Env} {call : CallF} {n f m : Nat}
theorem condF_true (x y : Code) (s : List V) (H : Heap) : condF P Γ call n f m x y s H true = evCode P Γ call n f m x s H := rfl
theorem condF_false (x y : Code) (s : List V) (H : Heap) : condF P Γ call n f m x y s H false = evCode P Γ call n f m y s H := rfl
@[simp] theorem condW_true (x y : Code) (s : List V) (H : Heap) : condW P Γ call n f m x y s H (.bool true) = evCode P Γ call n f m x s H := rfl
@[simp] theorem condW_false (x y : Code) (s : List V) (H : Heap) : condW P Γ call n f m x y s H (.bool false) = evCode P Γ call n f m y s H := rfl
@[simp low] theorem condW_any (x y : Code) (s : List V) (H : Heap) (b : Bool) : condW P Γ call n f m x y s H (.bool b) = if b = true then condF P Γ call n f m x y s H true else condF P Γ call n f m x y s H false := by cases b <;> rfl
@[simp 500] theorem condW_not (x y : Code) (s : List V) (H : Heap) (b : Bool) : condW P Γ call n f m x y s H (.bool (!b)) = if b = true then condF P Γ call n f m x y s H false else condF P Γ call n f m x y s H true := by cases b <;> rfl
@[simp] theorem evCode_cond (c : Operand) (x y : Code) (s : List V) (H : Heap) : evCode P Γ call n f m (.cond c x y) s H = condW P Γ call n f m x y s H (evOperand Γ s c) := by
  rw [evCode]
  unfold condW
  split <;> simp_all [condF]
end

/-! ### Operations on integers, by name -/
/-- A function that the kernel does not open (it would count down a great literal). -/
noncomputable def closed (f : IntKind → Int → Int → Int) : { g : IntKind → Int → Int → Int // g = f } := Classical.choice ⟨⟨f, rfl⟩⟩
noncomputable def andI : IntKind → Int → Int → Int := (closed fun k a b => k.wrap (BitVec.ofInt k.bits a &&& BitVec.ofInt k.bits b).toNat).1
theorem andI_eq (k : IntKind) (a b : Int) : andI k a b = k.wrap (BitVec.ofInt k.bits a &&& BitVec.ofInt k.bits b).toNat := by unfold andI; rw [(closed _).2]
noncomputable def orI : IntKind → Int → Int → Int := (closed fun k a b => k.wrap (BitVec.ofInt k.bits a ||| BitVec.ofInt k.bits b).toNat).1
theorem orI_eq (k : IntKind) (a b : Int) : orI k a b = k.wrap (BitVec.ofInt k.bits a ||| BitVec.ofInt k.bits b).toNat := by unfold orI; rw [(closed _).2]
noncomputable def xorI : IntKind → Int → Int → Int := (closed fun k a b => k.wrap (BitVec.ofInt k.bits a ^^^ BitVec.ofInt k.bits b).toNat).1
theorem xorI_eq (k : IntKind) (a b : Int) : xorI k a b = k.wrap (BitVec.ofInt k.bits a ^^^ BitVec.ofInt k.bits b).toNat := by unfold xorI; rw [(closed _).2]
noncomputable def andNotI : IntKind → Int → Int → Int := (closed fun k a b => k.wrap (BitVec.ofInt k.bits a &&& ~~~ BitVec.ofInt k.bits b).toNat).1
theorem andNotI_eq (k : IntKind) (a b : Int) : andNotI k a b = k.wrap (BitVec.ofInt k.bits a &&& ~~~ BitVec.ofInt k.bits b).toNat := by unfold andNotI; rw [(closed _).2]
noncomputable def addI : IntKind → Int → Int → Int := (closed fun k a b => k.wrap (a + b)).1
theorem addI_eq (k : IntKind) (a b : Int) : addI k a b = k.wrap (a + b) := by unfold addI; rw [(closed _).2]
noncomputable def subI : IntKind → Int → Int → Int := (closed fun k a b => k.wrap (a - b)).1
theorem subI_eq (k : IntKind) (a b : Int) : subI k a b = k.wrap (a - b) := by unfold subI; rw [(closed _).2]
noncomputable def mulI : IntKind → Int → Int → Int := (closed fun k a b => k.wrap (a * b)).1
theorem mulI_eq (k : IntKind) (a b : Int) : mulI k a b = k.wrap (a * b) := by unfold mulI; rw [(closed _).2]
noncomputable def quoI : IntKind → Int → Int → Int := (closed fun k a b => k.wrap (a.tdiv b)).1
theorem quoI_eq (k : IntKind) (a b : Int) : quoI k a b = k.wrap (a.tdiv b) := by unfold quoI; rw [(closed _).2]
noncomputable def shlI : IntKind → Int → Int → Int := (closed fun k a b => k.wrap (a * 2 ^ (min b.toNat k.bits))).1
theorem shlI_eq (k : IntKind) (a b : Int) : shlI k a b = k.wrap (a * 2 ^ (min b.toNat k.bits)) := by unfold shlI; rw [(closed _).2]
noncomputable def shrI : IntKind → Int → Int → Int := (closed fun k a b => a.fdiv (2 ^ (min b.toNat k.bits))).1
theorem shrI_eq (k : IntKind) (a b : Int) : shrI k a b = a.fdiv (2 ^ (min b.toNat k.bits)) := by unfold shrI; rw [(closed _).2]
section
variable (k : IntKind) (a b : Int)
@[simp] theorem binInt_add : binInt .add k a b = some (.int k (addI k a b)) := by rw [binInt, addI_eq]
@[simp] theorem binInt_sub : binInt .sub k a b = some (.int k (subI k a b)) := by rw [binInt, subI_eq]
@[simp] theorem binInt_mul : binInt .mul k a b = some (.int k (mulI k a b)) := by rw [binInt, mulI_eq]
@[simp] theorem binInt_quo : binInt .quo k a b = if b = 0 then none else some (.int k (quoI k a b)) := by rw [binInt, quoI_eq]
@[simp] theorem binInt_rem : binInt .rem k a b = if b = 0 then none else some (.int k (a.tmod b)) := by rw [binInt]
@[simp] theorem binInt_and : binInt .and k a b = some (.int k (andI k a b)) := by rw [binInt, andI_eq]
@[simp] theorem binInt_or : binInt .or k a b = some (.int k (orI k a b)) := by rw [binInt, orI_eq]
@[simp] theorem binInt_xor : binInt .xor k a b = some (.int k (xorI k a b)) := by rw [binInt, xorI_eq]
@[simp] theorem binInt_andNot : binInt .andNot k a b = some (.int k (andNotI k a b)) := by rw [binInt, andNotI_eq]
@[simp] theorem binInt_eql : binInt .eql k a b = some (.bool (decide (a = b))) := by rw [binInt]; by_cases h : a = b <;> simp [h]
@[simp] theorem binInt_neq : binInt .neq k a b = some (.bool (!decide (a = b))) := by rw [binInt]; by_cases h : a = b <;> simp [h]
@[simp] theorem binInt_lss : binInt .lss k a b = some (.bool (a < b)) := by rw [binInt]
@[simp] theorem binInt_leq : binInt .leq k a b = some (.bool (a ≤ b)) := by rw [binInt]
@[simp] theorem binInt_gtr : binInt .gtr k a b = some (.bool (a > b)) := by rw [binInt]
@[simp] theorem binInt_geq : binInt .geq k a b = some (.bool (a ≥ b)) := by rw [binInt]
@[simp] theorem binShift_shl : binShift .shl k a b = if b < 0 then none else some (.int k (shlI k a b)) := by rw [binShift, shlI_eq]
@[simp] theorem binShift_shr : binShift .shr k a b = if b < 0 then none else some (.int k (shrI k a b)) := by rw [binShift, shrI_eq]
end

def byteAt (s : ByteArray) (i : Int) : Int := ((s.data.toList.getD i.toNat 0).toNat : Int)
@[simp] theorem indexV_str {P : Program} {t : TypeId} {s : ByteArray} {k : IntKind} {i : Int} (h : P.underlying t = some .string) (h0 : 0 ≤ i) (h1 : i.toNat < s.size) : indexV P t (.str s) (.int k i) = some (.int .u8 (byteAt s i)) := by
  have h2 : i.toNat < s.data.toList.length := h1
  unfold indexV byteAt
  rw [h]
  simp only [if_pos h0]
  have : s[i.toNat]? = some s[i.toNat] := by rw [getElem?_pos s i.toNat h1]
  rw [this]
  simp only [Option.some.injEq, V.int.injEq, true_and]
  rw [List.getD_eq_getElem?_getD, List.getElem?_eq_getElem h2]
  rfl
@[simp] theorem indexV_agg {P : Program} {t e : TypeId} {n : Nat} {cs : List V} {k : IntKind} {i : Int} (h : P.underlying t = some (.array n e)) : indexV P t (.agg cs) (.int k i) = match tsz P e with
    | some sz => if 0 ≤ i && i < n then partV P e cs (i.toNat * sz) else none
    | none => none := by
  unfold indexV
  rw [h]
  rfl

attribute [simp] wantedV evOp evPlain evOperand ofConst ofConstL evUn resultsO resultO packV finish reach rootsOf V.refs refsL Blk.refs blkRefs place rootLeaves blkLeaves V.leaves leavesL Blk.leaves keepHeap keepOf indexIn V.ren V.sub subL renL Blk.ren V.undef
  loadV storeV cellsAt writeCells evBuiltin fieldAddrV fieldV boundV sliceAtV evCall callPlain callWide backOf setMany V.own ownL Blk.own fuelR
section
@[simp] theorem cellsO_agg (cs : List V) : (V.agg cs).cellsO = some cs := rfl
@[simp] theorem cellsO_tup (cs : List V) : (V.tup cs).cellsO = none := rfl
@[simp] theorem cellsO_junk : V.junk.cellsO = none := rfl
@[simp] theorem cellsO_bool (b : Bool) : (V.bool b).cellsO = some [.bool b] := rfl
@[simp] theorem cellsO_int (k : IntKind) (n : Int) : (V.int k n).cellsO = some [.int k n] := rfl
@[simp] theorem cellsO_str (s : ByteArray) : (V.str s).cellsO = some [.str s] := rfl
@[simp] theorem cellsO_nilp : V.nilp.cellsO = some [.nilp] := rfl
@[simp] theorem cellsO_nils : V.nils.cellsO = some [.nils] := rfl
@[simp] theorem cellsO_nilm : V.nilm.cellsO = some [.nilm] := rfl
@[simp] theorem cellsO_nilf : V.nilf.cellsO = some [.nilf] := rfl
@[simp] theorem cellsO_nili : V.nili.cellsO = some [.nili] := rfl
@[simp] theorem cellsO_ptr (i o : Nat) : (V.ptr i o).cellsO = some [.ptr i o] := rfl
@[simp] theorem cellsO_sl (i o l s : Nat) : (V.sl i o l s).cellsO = some [.sl i o l s] := rfl
@[simp] theorem cellsO_map (i : Nat) : (V.map i).cellsO = some [.map i] := rfl
@[simp] theorem cellsO_rov (cs : List V) : (V.ro cs).cellsO = some [.ro cs] := rfl
@[simp] theorem cellsO_ros (n : Nat) (cs : List V) : (V.ros n cs).cellsO = some [.ros n cs] := rfl
@[simp] theorem cellsO_rom (ks vs : List V) : (V.rom ks vs).cellsO = some [.rom ks vs] := rfl
@[simp] theorem cellsO_fn (f : Fn) (a b : List V) : (V.fn f a b).cellsO = some [.fn f a b] := rfl
@[simp] theorem cellsO_iface (t : Nat) (v : V) : (V.iface t v).cellsO = some [.iface t v] := rfl
end
end Go.Ev
