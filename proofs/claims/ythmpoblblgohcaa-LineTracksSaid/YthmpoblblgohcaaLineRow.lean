/-
  LINETRACKS' ROW: for every list of numbers the law returns true, and the argument reads as before; no condition (own work).
-/
import Derived.Test.YthmpoblblgohcaaLineK
import Derived.Test.YthmpoblblgohcaaRows
import Derived.WalkKit
import Derived.ProofKit
import Derived.OpenShut
import Derived.JoinedOf
set_option linter.unusedVariables false
namespace Go.Proofs.Ythmpoblblgohcaa.lineTracks
open Go.ChangeShapes Go.WideShapes Go.ChangeAt Go.RowKit Go.Ev

theorem own : ownKnob Try.prog.godebug = none := by kernel_rfl
theorem cells3 : Try.prog.cellsOf 3 = 1 := by kernel_rfl
theorem globOk {W : World} : GlobOk Try.Γ W W.heap.size := fun g cs hg => by cases hg

theorem flat_map (k : IntKind) (l : List Int) : flatE (intE k) l = l.map (V.int k) := by
  induction l with
  | nil => rfl
  | cons x l ih => simp [ih]

theorem walk (W : World) (b : Bool) (l : List Int) (hb : b = true → l = []) (v0 : Value) (hr : Rep W W.heap.size emp (intsV .i64 b l) v0) :
    Calls Try.prog 3 #[v0] W fun e W' => e = .returned (.bool true) ∧ Below W.heap.size W W' := by
  have hrep : RepL W W.heap.size emp [intsV .i64 b l] [v0] := RepL.cons hr (RepL.nil _ _ _)
  refine law_calls (orc_none rfl) (by kernel_rfl) globOk hrep ⟨5001, ?_⟩ (G := [])
  have := Try.law3_ok l b (k := 5000) (by omega)
  rw [flat_map] at this
  cases b with
  | true =>
    have hl := hb rfl
    subst hl
    exact this
  | false => rw [roV_false] at this; exact this

theorem laidOut : laidOutB Try.prog = true := by kernel_rfl
theorem hrec : ∀ t ∈ Try.f3.params.toList, Try.prog.readableRec t = true ∧ t < Try.prog.types.size := by
  rw [Try.params3]
  intro t ht
  have h22 : Try.prog.readableRec 22 = true ∧ 22 < Try.prog.types.size := ⟨by kernel_rfl, by decide +kernel⟩
  simp at ht
  subst ht
  exact h22

/-- WHAT THE WALK GIVES, FOR EVERY ARGUMENT AND EVERY WORLD. -/
theorem contract (H : Type) (enc : TypeId × Value → H) (W : World) (base : Nat) (args : Array Value) (ds gs : List (DataW H)) (before : List MemPlace)
    (hval : ∀ (j : Nat) t v, Try.f3.params[j]? = some t → args[j]? = some v → Value.okWide Try.prog W .any base t v)
    (hW : DataW.Whole enc Try.prog Try.f3.params.toList Rows.lineTracksSpec.vars false W args.toList ds gs before) :
    Calls Try.prog 3 args W fun e W' => ∃ v, e = .returned v ∧ Rows.lineTracksSpec.post enc Try.prog Try.f3 false true false false W args v W' := by
  have hW' := hW
  obtain ⟨p, q, hA0, hV, rfl, hfz, hnd⟩ := hW
  have hA : DataW.TrodAll enc Try.prog W 0 (fun _ => true) true Try.f3.params.toList args.toList ds p := hA0
  rw [Try.params3] at hA hval
  obtain ⟨v0, vs0, d0, ds0, p0, q0, hargs, rfl, rfl, h0, r0⟩ := trodAll_cons hA
  obtain ⟨rfl, rfl, rfl⟩ := trodAll_nil r0
  obtain rfl : args = #[v0] := by cases args; simp_all
  obtain ⟨rfl, rfl⟩ := trodVars_none hV
  obtain ⟨b, l, _, _, hb, hr⟩ := open_ints Try.underlying22 Try.underlying3 cells3 h0 (hval 0 22 v0 rfl rfl)
  refine (walk W b l hb v0 hr).mono fun e W' ⟨he, hbe⟩ => ?_
  subst he
  refine ⟨_, rfl, ?_⟩
  exact law_post (s := Rows.lineTracksSpec) laidOut hrec rfl Try.underlying4 rfl hW' hbe rfl

set_option maxRecDepth 100000 in
theorem lifted (os : Os) (started : os.Started) (H : Type) (enc : TypeId × Value → H) :
    ReturnsInHanded {} Try.checked os 3 .any (Rows.lineTracksSpec.pre6 enc Try.prog Try.f3 Rows.lineTracksRow.domain false) (Rows.lineTracksSpec.post enc Try.prog Try.f3 false true false false) := by
  refine returnsInHanded_of_change (C := Try.checked) own started (by kernel_rfl) Try.func3
    (ChangeSpec.witness6 (enc := enc) (C := Try.checked) false ⟨#[], #[.slice none 0 0], []⟩ 8 (by kernel_rfl) (by kernel_rfl) (by kernel_rfl) (by kernel_rfl)) ?_
  intro W base args ds gs before hval hW _ _
  exact contract H enc W base args ds gs before hval hW

theorem said : Rows.LineTracksSaid :=
  OpenClaim.holds_of_wide 3 Try.f3 rfl rfl rfl rfl rfl rfl rfl ⟨rfl, rfl, rfl, rfl, rfl⟩ rfl rfl rfl rfl rfl (by kernel_rfl) Try.func3 (by kernel_rfl)
    (of_decide_eq_true (by kernel_rfl)) (by unfold Func.isWrapper; first | (rw [if_pos (by decide +kernel)]; kernel_rfl) | (rw [if_neg (by decide +kernel)]; exact ⟨rfl, rfl⟩))
    (fun os started H enc _ => lifted os started H enc)
end Go.Proofs.Ythmpoblblgohcaa.lineTracks
