/-
  CLOCKBLAME's ROW AND CARD: for all arguments the law returns true, and they read as before; no condition (printed by wip/tools/gen_drow.py).
-/
import Derived.Test.YtflmadkbppnmcaaDoorDkBla
import Derived.Test.YtflmadkbppnmcaaDoorDkW
import Derived.Test.YtflmadkbppnmcaaDoorEvF
import Derived.Test.YtflmadkbppnmcaaDoorCards
import Derived.Test.YtflmadkbppnmcaaDoorTie
import Derived.WalkKit
import Derived.ProofKit
import Derived.OpenShut
import Derived.Deep.DeepHandedRow
import Derived.Lib.LaidTab
set_option linter.unusedVariables false
set_option maxRecDepth 100000
set_option maxHeartbeats 4000000
namespace Go.Proofs.YtflmadkbppnmcaaDoor.clockBlame
open Go.ChangeShapes Go.WideShapes Go.ChangeAt Go.RowKit Go.Ev

theorem own : ownKnob Tryd.prog.godebug = none := by kernel_rfl
theorem cells3 : Tryd.prog.cellsOf 3 = 1 := by kernel_rfl
theorem globOk {W : World} : GlobMem Tryd.Γ W W.heap.size := fun g cs hg => by cases hg
theorem flat_map (k : IntKind) (l : List Int) : flatE (intE k) l = l.map (V.int k) := by
  induction l with
  | nil => rfl
  | cons x l ih => simp [ih]
theorem callable : Callable Tryd.prog 5 := ⟨Tryd.f5, Tryd.func5, by kernel_rfl, fun h => by
  have : (Tryd.f5.name == "runtime.NumGoroutine") = false := by decide
  rw [h] at this
  simp at this⟩

theorem walk (W : World) (b : Bool) (l : List Int) (hb : b = true → l = []) (v0 : Value) (hr : Rep W W.heap.size emp (intsV .i64 b l) v0) :
    Calls Tryd.prog 5 #[v0] W fun e W' => e = .returned (.bool true) ∧ Below W.heap.size W W' := by
  have hrep : RepL W W.heap.size emp [intsV .i64 b l] [v0] := RepL.cons hr (RepL.nil _ _ _)
  refine law_calls Tryd.orcOk (by kernel_rfl) callable globOk hrep ⟨2001, ?_⟩ (G := [])
  have := Tryd.blame_law l b (k := 2000) (by omega)
  rw [flat_map] at this
  cases b with
  | true =>
    have hl := hb rfl
    subst hl
    exact this
  | false => rw [roV_false] at this; exact this

theorem laidOut : laidOutB Tryd.prog = true := by kernel_rfl
theorem hrec : ∀ t ∈ Tryd.f5.params.toList, Tryd.prog.readableRec t = true ∧ t < Tryd.prog.types.size := by
  rw [Tryd.params5]
  intro t ht
  have h22 : Tryd.prog.readableRec 22 = true ∧ 22 < Tryd.prog.types.size := ⟨by kernel_rfl, by decide +kernel⟩
  have h3 : Tryd.prog.readableRec 3 = true ∧ 3 < Tryd.prog.types.size := ⟨by kernel_rfl, by decide +kernel⟩
  simp at ht
  subst ht
  exact h22

/-- WHAT THE WALK GIVES, FOR EVERY ARGUMENT AND EVERY WORLD. -/
theorem contract (H : Type) (enc : TypeId × Value → H) (W : World) (base : Nat) (args : Array Value) (ds gs : List (DataW H)) (before : List MemPlace)
    (hval : ∀ (j : Nat) t v, Tryd.f5.params[j]? = some t → args[j]? = some v → Value.okWide Tryd.prog W .any base t v)
    (hW : DataW.Whole enc Tryd.prog Tryd.f5.params.toList Rows.clockBlameSpec.vars false W args.toList ds gs before) :
    Calls Tryd.prog 5 args W fun e W' => ∃ v, e = .returned v ∧ Rows.clockBlameSpec.post enc Tryd.prog Tryd.f5 false true false false W args v W' := by
  have hW' := hW
  obtain ⟨p, q, hA0, hV, rfl, hfz, hnd⟩ := hW
  have hA : DataW.TrodAll enc Tryd.prog W 0 (fun _ => true) true Tryd.f5.params.toList args.toList ds p := hA0
  rw [Tryd.params5] at hA hval
  obtain ⟨v0, vs0, d0, ds0, p0, q0, hargs, rfl, rfl, h0, r0⟩ := trodAll_cons hA
  obtain ⟨rfl, rfl, rfl⟩ := trodAll_nil r0
  obtain rfl : args = #[v0] := by cases args; simp_all
  obtain ⟨rfl, rfl⟩ := trodVars_none hV
  obtain ⟨b, l, _, _, hb, hr⟩ := open_ints Tryd.underlying22 Tryd.underlying3 cells3 h0 (hval 0 22 v0 rfl rfl)
  refine (walk W b l hb v0 hr).mono fun e W' ⟨he, hbe⟩ => ?_
  subst he
  refine ⟨_, rfl, ?_⟩
  exact law_post (s := Rows.clockBlameSpec) laidOut hrec rfl Tryd.underlying4 rfl hW' hbe rfl

/-- A WORLD FOR THE WITNESS. -/
def lay (cs : Array Value) : Obj → Obj
  | .cells _ t frozen => .cells cs t frozen
  | o => o
def tab0 : Array Value := ((List.range 20).map fun i => Value.int .u64 ((10 : Int) ^ i)).toArray
def tab1 : Array Value := (([0,1,28,2,29,14,24,3,30,22,20,15,25,17,4,8,31,27,13,23,21,19,16,7,26,12,18,6,11,5,10,9] : List Int).map (Value.int .u8)).toArray
def tab2 : Array Value := (([0,1,56,2,57,49,28,3,61,58,42,50,38,29,17,4,62,47,59,36,45,43,51,22,53,39,33,30,24,18,12,5,63,55,48,27,60,41,37,16,46,35,44,21,52,32,23,11,54,26,40,15,34,20,31,10,25,14,19,9,13,8,7,6] : List Int).map (Value.int .u8)).toArray
noncomputable def laidHeap (h : Array Obj) : Array Obj := ((h.modify 0 (lay tab0)).modify 1 (lay tab1)).modify 2 (lay tab2)
noncomputable def laidWorld (os : Os) : World :=
  { World.holding Tryd.prog os ⟨#[], #[], []⟩ with heap := laidHeap (World.holding Tryd.prog os ⟨#[], #[], []⟩).heap }
def args0 : Array Value := #[.slice none 0 0]
theorem laid_met (os : Os) : laidMet Tryd.prog Rows.clockBlameRow.laid ((laidWorld os).forCall (fun _ _ => 0) ⟨#[], args0, []⟩).memory :=
  laidMet_of_run' 8 (by kernel_rfl) (by kernel_rfl)
theorem reads (os : Os) {H : Type} (enc : TypeId × Value → H) : ∃ places, DataW.whole enc Tryd.prog ((laidWorld os).forCall (fun _ _ => 0) ⟨#[], args0, []⟩).memory Tryd.f5.params.toList Rows.clockBlameSpec.vars false args0.toList 8 = some ([.nil], [], places) :=
  ⟨[], by kernel_rfl⟩

set_option maxRecDepth 100000 in
theorem lifted (os : Os) (started : os.Started) (H : Type) (enc : TypeId × Value → H) (F : Stop.Interp) :
    ReturnsInHanded {} Tryd.checked os 5 .any ((OpenSpec.ofChange Rows.clockBlameSpec).preRow enc Tryd.prog Tryd.f5 Rows.clockBlameRow.domain false Rows.clockBlameRow.laid) (((OpenSpec.ofChange Rows.clockBlameSpec).at F).post enc Tryd.prog Tryd.f5 false true false false) := by
  obtain ⟨places, hx⟩ := reads os enc
  refine returnsInHanded_of_row (C := Tryd.checked) (s := OpenSpec.ofChange Rows.clockBlameSpec) own started (by kernel_rfl) Tryd.func5
    (witness_row_at (enc := enc) (C := Tryd.checked) false (laidWorld os) args0 rfl (by kernel_rfl) (by kernel_rfl) (by kernel_rfl)
      (OpenSpec.preRow_of_cond 8 hx (by kernel_rfl) (fun k hk => by cases hk) (by kernel_rfl) (laid_met os))) ?_
  intro W base args ds gs before hval hW _ _ _ hL _ _
  exact contract H enc W base args ds gs before hval hW

theorem said : Rows.ClockBlameSaid :=
  OpenClaim.holds_of_cond 5 Tryd.f5 rfl rfl rfl rfl rfl rfl rfl ⟨rfl, rfl, rfl, rfl, rfl⟩ rfl rfl rfl rfl rfl (by kernel_rfl) Tryd.func5 (by kernel_rfl)
    (of_decide_eq_true (by kernel_rfl)) (by unfold Func.isWrapper; first | (rw [if_pos (by decide +kernel)]; kernel_rfl) | (rw [if_neg (by decide +kernel)]; exact ⟨rfl, rfl⟩))
    (fun os started H enc _ F => by rw [OpenClaim.pre_eq_preRow]; exact lifted os started H enc F)

theorem plain (f : FuncId) (fn : Func) (hf : Tryd.pinned.checked.prog.funcNamed "wrackline/wrackkeep4.ClockBlame" = some f) (hfn : Tryd.pinned.checked.prog.funcs[f]? = some fn) :
    false = Tryd.pinned.checked.prog.looks [] ∧ ∀ (j : Nat) t, fn.params[j]? = some t → Tryd.pinned.checked.prog.wantsStandIn t = false := by
  obtain rfl : f = 5 := Option.some.inj ((show Tryd.prog.funcNamed "wrackline/wrackkeep4.ClockBlame" = some 5 by kernel_rfl).symm.trans hf) |>.symm
  obtain rfl : fn = Tryd.f5 := (Option.some.inj (Tryd.func5.symm.trans hfn)).symm
  refine ⟨by kernel_rfl, fun j t ht => ?_⟩
  rw [Tryd.params5] at ht
  have hm := Array.mem_of_getElem? ht
  have h22 : Tryd.prog.wantsStandIn 22 = false := by kernel_rfl
  have h3 : Tryd.prog.wantsStandIn 3 = false := by kernel_rfl
  simp at hm
  subst hm
  exact h22

/-- THE CARD. -/
theorem card : Rows.ClockBlameCardSaid :=
  Claim7.holds_tied_plain_at .later [] _ _ _ _ said (fun _ h => by cases h) (by kernel_rfl) (fun _ h => by cases h) clockBlame_row_tie rfl ⟨rfl, rfl⟩ (by kernel_rfl) rfl plain (by kernel_rfl)
end Go.Proofs.YtflmadkbppnmcaaDoor.clockBlame
