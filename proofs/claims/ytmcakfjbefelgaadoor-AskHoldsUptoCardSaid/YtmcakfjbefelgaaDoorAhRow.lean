/-
  ASKHOLDS'S ROW AND CARD, the second form: for all arguments of bulk at most 1048576 the law returns true, and they read as before (own work).
-/
import Derived.Test.YtmcakfjbefelgaaDoorAhK
import Derived.Test.YtmcakfjbefelgaaDoorAhW
import Derived.Test.YtmcakfjbefelgaaDoorAhOp
import Derived.Test.YtmcakfjbefelgaaDoorCards
import Derived.Test.YtmcakfjbefelgaaDoorTie
import Derived.WalkKit
import Derived.ProofKit
import Derived.OpenShut
import Derived.Deep.DeepHandedRow
import Derived.Lib.LaidTab
set_option linter.unusedVariables false
set_option maxRecDepth 100000
set_option maxHeartbeats 4000000
namespace Go.Proofs.YtmcakfjbefelgaaDoor.askHolds
open Go.ChangeShapes Go.WideShapes Go.ChangeAt Go.RowKit Go.Ev

/-- WHAT THE WALK GIVES, FOR EVERY ARGUMENT OF THE BULK AND EVERY WORLD OF THE SHAPE. -/
theorem contract (H : Type) (enc : TypeId × Value → H) (W : World) (base : Nat) (args : Array Value) (ds gs : List (DataW H)) (before : List MemPlace)
    (hval : ∀ (j : Nat) t v, Tryd.f4.params[j]? = some t → args[j]? = some v → Value.okWide Tryd.prog W .any base t v)
    (hW : DataW.Whole enc Tryd.prog Tryd.f4.params.toList Rows.askHoldsSpec.vars false W args.toList ds gs before)
    (hk : Rows.uptoSmall H (ds ++ gs) = true) (hsh : W.ShapedOpen Tryd.prog) :
    Calls Tryd.prog 4 args W fun e W' => ∃ v, e = .returned v ∧ Rows.askHoldsSpec.post enc Tryd.prog Tryd.f4 false true false false W args v W' := by
  have hW' := hW
  obtain ⟨p, q, hA0, hV, rfl, hfz, hnd⟩ := hW
  have hA : DataW.TrodAll enc Tryd.prog W 0 (fun _ => true) true Tryd.f4.params.toList args.toList ds p := hA0
  rw [Tryd.params4] at hA hval
  obtain ⟨v0, vs0, d0, ds0, p0, q0, hargs, rfl, rfl, h0, r0⟩ := trodAll_cons hA
  obtain ⟨v1, vs1, d1, ds1, p1, q1, rfl, rfl, rfl, h1, r1⟩ := trodAll_cons r0
  obtain ⟨v2, vs2, d2, ds2, p2, q2, rfl, rfl, rfl, h2, r2⟩ := trodAll_cons r1
  obtain ⟨v3, vs3, d3, ds3, p3, q3, rfl, rfl, rfl, h3, r3⟩ := trodAll_cons r2
  obtain ⟨rfl, rfl, rfl⟩ := trodAll_nil r3
  obtain rfl : args = #[v0, v1, v2, v3] := by cases args; simp_all
  obtain ⟨rfl, rfl⟩ := trodVars_none hV
  obtain ⟨n0, h0⟩ := h0
  obtain ⟨n1, h1⟩ := h1
  obtain ⟨n2, h2⟩ := h2
  obtain ⟨_, ⟨fa, rfl, ba, ua, ra⟩, ok0⟩ := opn_finding n0 _ _ _ h0
  obtain ⟨_, ⟨fb, rfl, bb, ub, rb⟩, ok1⟩ := opn_finding n1 _ _ _ h1
  obtain ⟨_, ⟨c, hc, rfl⟩, ok2⟩ := opn_cond n2 n2 (Nat.le_refl _) _ _ _ h2
  obtain ⟨op, rfl, rfl, _, _⟩ := open_int Tryd.underlying3 (hval 3 3 v3 rfl rfl) h3
  have hbc : Tryd.wt c + 1 ≤ Rows.uptoBulk d2 := (bulk_both (Tryd.wt c)).1 c d2 (Nat.le_refl _) hc
  have hbound : Rows.uptoBulk d0 + Rows.uptoBulk d1 + Rows.uptoBulk d2 ≤ 1048576 := by
    have h := of_decide_eq_true hk
    simp only [List.append_nil, Rows.uptoBulkAll] at h
    omega
  have agg0 : ∃ cs, v0 = .agg cs := by
    have hlen := ok0.1.1
    rw [Tryd.Hd.findE_f] at hlen
    cases v0 <;> first | (exact ⟨_, rfl⟩) | (simp [Value.cells] at hlen)
  have agg1 : ∃ cs, v1 = .agg cs := by
    have hlen := ok1.1.1
    rw [Tryd.Hd.findE_f] at hlen
    cases v1 <;> first | (exact ⟨_, rfl⟩) | (simp [Value.cells] at hlen)
  have agg2 : ∃ cs, v2 = .agg cs := by
    have hlen := ok2.1.1
    rw [Tryd.condE_f] at hlen
    cases v2 <;> first | (exact ⟨_, rfl⟩) | (simp [Value.cells] at hlen)
  obtain ⟨⟨cs0⟩, rfl⟩ := agg0
  obtain ⟨⟨cs1⟩, rfl⟩ := agg1
  obtain ⟨⟨cs2⟩, rfl⟩ := agg2
  have hr0 : Rep W W.heap.size emp (.agg (Tryd.Hd.findE.f fa)) (.agg ⟨cs0⟩) := .agg _ _ _ ok0.1.1 ok0.2 ok0.1.2
  have hr1 : Rep W W.heap.size emp (.agg (Tryd.Hd.findE.f fb)) (.agg ⟨cs1⟩) := .agg _ _ _ ok1.1.1 ok1.2 ok1.1.2
  have hr2 : Rep W W.heap.size emp (.agg (Tryd.condE.f c)) (.agg ⟨cs2⟩) := .agg _ _ _ ok2.1.1 ok2.2 ok2.1.2
  have hrep : RepL W W.heap.size emp [.agg (Tryd.Hd.findE.f fa), .agg (Tryd.Hd.findE.f fb), .agg (Tryd.condE.f c), .int .i64 op] [.agg ⟨cs0⟩, .agg ⟨cs1⟩, .agg ⟨cs2⟩, .int .i64 op] :=
    RepL.cons hr0 (RepL.cons hr1 (RepL.cons hr2 (RepL.cons (.int _ _ _) (RepL.nil _ _ _))))
  have hcb : Callable Tryd.prog 4 := ⟨Tryd.f4, Tryd.func4, by kernel_rfl, fun h => by
    have : (Tryd.f4.name == "runtime.NumGoroutine") = false := by decide
    rw [h] at this
    simp at this⟩
  obtain ⟨mx, hgl⟩ := Tryd.Hd.globOk hsh
  have hwalk : Calls Tryd.prog 4 #[.agg ⟨cs0⟩, .agg ⟨cs1⟩, .agg ⟨cs2⟩, .int .i64 op] W fun e W' => e = .returned (.bool true) ∧ Below W.heap.size W W' :=
    law_calls (Tryd.Hd.orcOk mx) (by kernel_rfl) hcb hgl hrep ⟨100000000 + 1, Tryd.Hd.law4_ok fa fb c op ⟨by omega, by omega, ua⟩ ⟨by omega, by omega, ub⟩ ⟨by omega, by omega, ra⟩ ⟨by omega, by omega, rb⟩ (by omega) (k := 100000000) (by omega)⟩ (G := [])
  refine hwalk.mono fun e W' ⟨he, hbe⟩ => ?_
  subst he
  refine ⟨_, rfl, ?_⟩
  exact law_post (s := Rows.askHoldsSpec) laidOut hrec rfl Tryd.underlying4 rfl hW' hbe rfl

/-- A WORLD FOR THE WITNESS. -/
def lay (cs : Array Value) : Obj → Obj
  | .cells _ t frozen => .cells cs t frozen
  | o => o
def tabA : Array Value := (([128,191,160,191,128,159,144,191,128,143,0,0,0,0,0,0,0,0,0,0,0,0,0,0,0,0,0,0,0,0,0,0] : List Int).map (Value.int .u8)).toArray
def tabF : Array Value := (Go.Pinned.utf8FirstZ.map fun (n : Nat) => Value.int .u8 (n : Int)).toArray
noncomputable def laidHeap (h : Array Obj) : Array Obj := (h.modify 3 (lay tabA)).modify 2 (lay tabF)
noncomputable def laidWorld (os : Os) : World :=
  { World.holding Tryd.prog os ⟨#[], #[], []⟩ with heap := laidHeap (World.holding Tryd.prog os ⟨#[], #[], []⟩).heap }
def args0 : Array Value := #[.agg #[.string ⟨#[]⟩, .slice none 0 0, .slice none 0 0, .slice none 0 0, .string ⟨#[]⟩, .int .i64 0, .int .i64 0], .agg #[.string ⟨#[]⟩, .slice none 0 0, .slice none 0 0, .slice none 0 0, .string ⟨#[]⟩, .int .i64 0, .int .i64 0], .agg #[.int .i64 0, .string ⟨#[]⟩, .int .i64 0, .int .i64 0, .slice none 0 0], .int .i64 0]
theorem laid_met (os : Os) : laidMet Tryd.prog Rows.askHoldsUptoRow.laid ((laidWorld os).forCall (fun _ _ => 0) ⟨#[], args0, []⟩).memory :=
  laidMet_of_run' 8 (by kernel_rfl) (by kernel_rfl)
theorem reads (os : Os) {H : Type} (enc : TypeId × Value → H) : ∃ places, DataW.whole enc Tryd.prog ((laidWorld os).forCall (fun _ _ => 0) ⟨#[], args0, []⟩).memory Tryd.f4.params.toList Rows.askHoldsSpec.vars false args0.toList 8 = some ([.agg [.lit (.string []), .nil, .nil, .nil, .lit (.string []), .lit (.int .i64 0), .lit (.int .i64 0)], .agg [.lit (.string []), .nil, .nil, .nil, .lit (.string []), .lit (.int .i64 0), .lit (.int .i64 0)], .agg [.lit (.int .i64 0), .lit (.string []), .lit (.int .i64 0), .lit (.int .i64 0), .nil], .lit (.int .i64 0)], [], places) :=
  ⟨[], by kernel_rfl⟩

set_option maxRecDepth 100000 in
theorem lifted (os : Os) (started : os.Started) (H : Type) (enc : TypeId × Value → H) (F : Stop.Interp) :
    ReturnsInHanded {} Tryd.checked os 4 .any ((Rows.OpenSpec.upto Rows.askHoldsSpec).preRow enc Tryd.prog Tryd.f4 Rows.askHoldsUptoRow.domain false Rows.askHoldsUptoRow.laid) (((Rows.OpenSpec.upto Rows.askHoldsSpec).at F).post enc Tryd.prog Tryd.f4 false true false false) := by
  obtain ⟨places, hx⟩ := reads os enc
  refine returnsInHanded_of_row (C := Tryd.checked) (s := Rows.OpenSpec.upto Rows.askHoldsSpec) own started (by kernel_rfl) Tryd.func4
    (witness_row_at (enc := enc) (C := Tryd.checked) false (laidWorld os) args0 rfl (by kernel_rfl) (by kernel_rfl) (by kernel_rfl)
      (OpenSpec.preRow_of_cond 8 hx (by kernel_rfl) (fun k hk => by cases hk; kernel_rfl) (by kernel_rfl) (laid_met os))) ?_
  intro W base args ds gs before hval hW _ hcond _ hL hsh _
  exact contract H enc W base args ds gs before hval hW (hcond _ rfl) hsh

theorem said : Rows.AskHoldsUptoSaid :=
  OpenClaim.holds_of_cond 4 Tryd.f4 rfl rfl rfl rfl rfl rfl rfl ⟨rfl, rfl, rfl, rfl, rfl⟩ rfl rfl rfl rfl rfl (by kernel_rfl) Tryd.func4 (by kernel_rfl)
    (of_decide_eq_true (by kernel_rfl)) (by unfold Func.isWrapper; first | (rw [if_pos (by decide +kernel)]; kernel_rfl) | (rw [if_neg (by decide +kernel)]; exact ⟨rfl, rfl⟩))
    (fun os started H enc _ F => by rw [OpenClaim.pre_eq_preRow]; exact lifted os started H enc F)

theorem plain (f : FuncId) (fn : Func) (hf : Tryd.pinned.checked.prog.funcNamed "wrackline/wracklaw4.AskHolds" = some f) (hfn : Tryd.pinned.checked.prog.funcs[f]? = some fn) :
    false = Tryd.pinned.checked.prog.looks [] ∧ ∀ (j : Nat) t, fn.params[j]? = some t → Tryd.pinned.checked.prog.wantsStandIn t = false := by
  obtain rfl : f = 4 := Option.some.inj ((show Tryd.prog.funcNamed "wrackline/wracklaw4.AskHolds" = some 4 by kernel_rfl).symm.trans hf) |>.symm
  obtain rfl : fn = Tryd.f4 := (Option.some.inj (Tryd.func4.symm.trans hfn)).symm
  refine ⟨by kernel_rfl, fun j t ht => ?_⟩
  rw [Tryd.params4] at ht
  have hm := Array.mem_of_getElem? ht
  have h37 : Tryd.prog.wantsStandIn 37 = false := by kernel_rfl
  have h27 : Tryd.prog.wantsStandIn 27 = false := by kernel_rfl
  have h3 : Tryd.prog.wantsStandIn 3 = false := by kernel_rfl
  simp at hm
  rcases hm with rfl | rfl | rfl <;> assumption

/-- THE SECOND FORM'S CARD. -/
theorem cardUpto : Rows.AskHoldsUptoCardSaid :=
  Claim7.holds_tied_plain_at .later [] _ _ _ _ said (fun _ h => by cases h) (by kernel_rfl) (fun _ h => by cases h) askHoldsUpto_row_tie rfl ⟨rfl, rfl⟩ (by kernel_rfl) rfl plain (by kernel_rfl)
end Go.Proofs.YtmcakfjbefelgaaDoor.askHolds
