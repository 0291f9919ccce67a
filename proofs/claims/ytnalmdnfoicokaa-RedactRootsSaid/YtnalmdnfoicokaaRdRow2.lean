/-
  REDACTROOTS'S ROW: for all arguments the law returns true, and they read as before; no condition (own work, printed by wip/tools/gen_row.py).
-/
import Derived.Test.YtnalmdnfoicokaaRdZ
import Derived.Test.YtnalmdnfoicokaaRdW
import Derived.Test.YtnalmdnfoicokaaRows
import Derived.WalkKit
import Derived.ProofKit
import Derived.OpenShut
import Derived.JoinedOf
set_option linter.unusedVariables false
set_option maxRecDepth 100000
namespace Go.Proofs.Ytnalmdnfoicokaa.redactRoots
open Go.ChangeShapes Go.WideShapes Go.ChangeAt Go.RowKit Go.Ev

theorem own : ownKnob Try.prog.godebug = none := by kernel_rfl
theorem cells3 : Try.prog.cellsOf 3 = 1 := by kernel_rfl
theorem globOk {W : World} : GlobMem Try.Γ W W.heap.size := fun g cs hg => by cases hg

theorem flat_map (k : IntKind) (l : List Int) : flatE (intE k) l = l.map (V.int k) := by
  induction l with
  | nil => rfl
  | cons x l ih => simp [ih]
theorem roV_ints (b : Bool) (l : List Int) (hb : b = true → l = []) : roV b l.length (flatE (intE .i64) l) = intsV .i64 b l := by
  rw [flat_map]
  cases b with
  | true => have hl := hb rfl; subst hl; rfl
  | false => rw [roV_false]; rfl

theorem walk (W : World) (b0 : Bool) (l0 : List Int) (hb0 : b0 = true → l0 = []) (v0 : Value) (hr0 : Rep W W.heap.size emp (intsV .i64 b0 l0) v0) (b1 : Bool) (l1 : List Int) (hb1 : b1 = true → l1 = []) (v1 : Value) (hr1 : Rep W W.heap.size emp (intsV .i64 b1 l1) v1) (b2 : Bool) (l2 : List Int) (hb2 : b2 = true → l2 = []) (v2 : Value) (hr2 : Rep W W.heap.size emp (intsV .i64 b2 l2) v2) (z3 : Int) :
    Calls Try.prog 5 #[v0, v1, v2, .int .i64 z3] W fun e W' => e = .returned (.bool true) ∧ Below W.heap.size W W' := by
  have hrep : RepL W W.heap.size emp [intsV .i64 b0 l0, intsV .i64 b1 l1, intsV .i64 b2 l2, .int .i64 z3] [v0, v1, v2, .int .i64 z3] := RepL.cons hr0 (RepL.cons hr1 (RepL.cons hr2 (RepL.cons (.int _ _ _) (RepL.nil _ _ _))))
  refine law_calls (Try.orcOk) (by kernel_rfl) globOk hrep ⟨400002, ?_⟩ (G := [])
  have := Try.roots_ok l0 l1 l2 b0 b1 b2 z3 (k := 400001) (by omega)
  rw [roV_ints b0 l0 hb0, roV_ints b1 l1 hb1, roV_ints b2 l2 hb2] at this
  exact this

theorem laidOut : laidOutB Try.prog = true := by kernel_rfl
theorem hrec : ∀ t ∈ Try.f5.params.toList, Try.prog.readableRec t = true ∧ t < Try.prog.types.size := by
  rw [Try.params5]
  intro t ht
  have h22 : Try.prog.readableRec 22 = true ∧ 22 < Try.prog.types.size := ⟨by kernel_rfl, by decide +kernel⟩
  have h3 : Try.prog.readableRec 3 = true ∧ 3 < Try.prog.types.size := ⟨by kernel_rfl, by decide +kernel⟩
  simp at ht
  rcases ht with rfl | rfl
  · exact h22
  · exact h3

/-- WHAT THE WALK GIVES, FOR EVERY ARGUMENT AND EVERY WORLD. -/
theorem contract (H : Type) (enc : TypeId × Value → H) (W : World) (base : Nat) (args : Array Value) (ds gs : List (DataW H)) (before : List MemPlace)
    (hval : ∀ (j : Nat) t v, Try.f5.params[j]? = some t → args[j]? = some v → Value.okWide Try.prog W .any base t v)
    (hW : DataW.Whole enc Try.prog Try.f5.params.toList Rows.redactRootsSpec.vars false W args.toList ds gs before) :
    Calls Try.prog 5 args W fun e W' => ∃ v, e = .returned v ∧ Rows.redactRootsSpec.post enc Try.prog Try.f5 false true false false W args v W' := by
  have hW' := hW
  obtain ⟨p, q, hA0, hV, rfl, hfz, hnd⟩ := hW
  have hA : DataW.TrodAll enc Try.prog W 0 (fun _ => true) true Try.f5.params.toList args.toList ds p := hA0
  rw [Try.params5] at hA hval
  obtain ⟨v0, vs0, d0, ds0, p0, q0, hargs, rfl, rfl, h0, r0⟩ := trodAll_cons hA
  obtain ⟨v1, vs1, d1, ds1, p1, q1, rfl, rfl, rfl, h1, r1⟩ := trodAll_cons r0
  obtain ⟨v2, vs2, d2, ds2, p2, q2, rfl, rfl, rfl, h2, r2⟩ := trodAll_cons r1
  obtain ⟨v3, vs3, d3, ds3, p3, q3, rfl, rfl, rfl, h3, r3⟩ := trodAll_cons r2
  obtain ⟨rfl, rfl, rfl⟩ := trodAll_nil r3
  obtain rfl : args = #[v0, v1, v2, v3] := by cases args; simp_all
  obtain ⟨rfl, rfl⟩ := trodVars_none hV
  obtain ⟨b0, l0, _, _, hb0, hr0⟩ := open_ints Try.underlying22 Try.underlying3 cells3 h0 (hval 0 22 v0 rfl rfl)
  obtain ⟨b1, l1, _, _, hb1, hr1⟩ := open_ints Try.underlying22 Try.underlying3 cells3 h1 (hval 1 22 v1 rfl rfl)
  obtain ⟨b2, l2, _, _, hb2, hr2⟩ := open_ints Try.underlying22 Try.underlying3 cells3 h2 (hval 2 22 v2 rfl rfl)
  obtain ⟨z3, rfl, rfl, rfl, _⟩ := open_int Try.underlying3 (hval 3 3 v3 rfl rfl) h3
  refine (walk W b0 l0 hb0 v0 hr0 b1 l1 hb1 v1 hr1 b2 l2 hb2 v2 hr2 z3).mono fun e W' ⟨he, hbe⟩ => ?_
  subst he
  refine ⟨_, rfl, ?_⟩
  exact law_post (s := Rows.redactRootsSpec) laidOut hrec rfl Try.underlying4 rfl hW' hbe rfl

set_option maxRecDepth 100000 in
theorem lifted (os : Os) (started : os.Started) (H : Type) (enc : TypeId × Value → H) :
    ReturnsInHanded {} Try.checked os 5 .any (Rows.redactRootsSpec.pre6 enc Try.prog Try.f5 Rows.redactRootsRow.domain false) (Rows.redactRootsSpec.post enc Try.prog Try.f5 false true false false) := by
  refine returnsInHanded_of_change (C := Try.checked) own started (by kernel_rfl) Try.func5
    (ChangeSpec.witness6 (enc := enc) (C := Try.checked) false ⟨#[], #[.slice none 0 0, .slice none 0 0, .slice none 0 0, .int .i64 0], []⟩ 8 (by kernel_rfl) (by kernel_rfl) (by kernel_rfl) (by kernel_rfl)) ?_
  intro W base args ds gs before hval hW _ _
  exact contract H enc W base args ds gs before hval hW

theorem said : Rows.RedactRootsSaid :=
  OpenClaim.holds_of_wide 5 Try.f5 rfl rfl rfl rfl rfl rfl rfl ⟨rfl, rfl, rfl, rfl, rfl⟩ rfl rfl rfl rfl rfl (by kernel_rfl) Try.func5 (by kernel_rfl)
    (of_decide_eq_true (by kernel_rfl)) (by unfold Func.isWrapper; first | (rw [if_pos (by decide +kernel)]; kernel_rfl) | (rw [if_neg (by decide +kernel)]; exact ⟨rfl, rfl⟩))
    (fun os started H enc _ => lifted os started H enc)
end Go.Proofs.Ytnalmdnfoicokaa.redactRoots
