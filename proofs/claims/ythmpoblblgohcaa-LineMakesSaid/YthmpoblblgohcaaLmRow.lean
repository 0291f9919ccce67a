/-
  LINEMAKES'S ROW: for all arguments the law returns true, and they read as before; no condition (own work).
-/
import Derived.Test.YthmpoblblgohcaaLmH0
import Derived.Test.YthmpoblblgohcaaLmH1
import Derived.Test.YthmpoblblgohcaaLmH2
import Derived.Test.YthmpoblblgohcaaLmH3
import Derived.Test.YthmpoblblgohcaaLmH4
import Derived.Test.YthmpoblblgohcaaLineW
import Derived.Test.YthmpoblblgohcaaEvF
import Derived.Test.YthmpoblblgohcaaRows
import Derived.WalkKit
import Derived.ProofKit
import Derived.OpenShut
import Derived.JoinedOf
import Derived.HandedShaped
set_option linter.unusedVariables false
set_option maxRecDepth 100000
set_option maxHeartbeats 4000000
namespace Go.Proofs.Ythmpoblblgohcaa.lineMakes
open Go.ChangeShapes Go.WideShapes Go.ChangeAt Go.RowKit Go.Ev

theorem own : ownKnob Try.prog.godebug = none := by kernel_rfl
theorem globOk {W : World} : GlobMem Try.Γ W W.heap.size := fun g cs hg => by cases hg
theorem laidOut : laidOutB Try.prog = true := by kernel_rfl
theorem bytes35 : Try.prog.bytesOf 35 = 24 := by kernel_rfl
theorem cells35 : Try.prog.cellsOf 35 = 3 := by kernel_rfl
theorem cells3 : Try.prog.cellsOf 3 = 1 := by kernel_rfl
theorem hrec : ∀ t ∈ Try.f5.params.toList, Try.prog.readableRec t = true ∧ t < Try.prog.types.size := by
  rw [Try.params5]
  intro t ht
  have h23 : Try.prog.readableRec 23 = true ∧ 23 < Try.prog.types.size := ⟨by kernel_rfl, by decide +kernel⟩
  simp at ht
  rcases ht with rfl | rfl <;> exact h23

/-! ### The arguments opened -/
def markD (H : Type) (x : Try.Mark) : DataW H := .agg [.lit (.int .i64 x.id), .lit (.int .i64 x.low), .lit (.int .i64 x.high)]
section
variable {H : Type} {enc : TypeId × Value → H} {W : World} {held : Bool}
theorem Opn.mono {P : Program} {n : Nat} {t : TypeId} {Q Q' : DataW H → List V → Prop} (h : Opn enc P W held n t Q) (hq : ∀ d vs, Q d vs → Q' d vs) : Opn enc P W held n t Q' := fun cs d ps hc => by
  obtain ⟨vs, h1, h2⟩ := h cs d ps hc
  exact ⟨vs, hq d vs h1, h2⟩
theorem opn_mark (n : Nat) : Opn enc Try.prog W held n 35 (fun d vs => ∃ x, d = markD H x ∧ vs = Try.markE.f x) := by
  refine Opn.mono (opn_struct (Qs := [(fun d vs => ∃ z, d = .lit (.int .i64 z) ∧ vs = [V.int .i64 z]), (fun d vs => ∃ z, d = .lit (.int .i64 z) ∧ vs = [V.int .i64 z]), (fun d vs => ∃ z, d = .lit (.int .i64 z) ∧ vs = [V.int .i64 z])]) Try.underlying35 (by kernel_rfl) (by kernel_rfl) rfl ?_) ?_
  · intro i f Q hf hQ n
    match i with
    | 0 => cases hf; cases hQ; exact Opn.mono (opn_int Try.underlying3) fun d vs ⟨z, _, h1, h2⟩ => ⟨z, h1, h2⟩
    | 1 => cases hf; cases hQ; exact Opn.mono (opn_int Try.underlying3) fun d vs ⟨z, _, h1, h2⟩ => ⟨z, h1, h2⟩
    | 2 => cases hf; cases hQ; exact Opn.mono (opn_int Try.underlying3) fun d vs ⟨z, _, h1, h2⟩ => ⟨z, h1, h2⟩
    | i + 3 => simp at hQ
  · rintro d vs ⟨ds, rfl, hp⟩
    match ds, hp with
    | [d1, d2, d3], hp =>
      obtain ⟨v1, v2, rfl, ⟨z1, rfl, rfl⟩, w1, w2, rfl, ⟨z2, rfl, rfl⟩, u1, u2, rfl, ⟨z3, rfl, rfl⟩, hw⟩ := hp
      obtain rfl : u2 = [] := hw
      exact ⟨⟨z1, z2, z3⟩, rfl, rfl⟩
end
theorem reach_eq : reachBytes = 140737488351232 := rfl
theorem opn_marks {H : Type} {enc : TypeId × Value → H} {W : World} {held : Bool} (n : Nat) : Opn enc Try.prog W held n 23 (fun d vs => ∃ (z : Bool) (l : List Try.Mark), (z = true → l = []) ∧ vs = [roV z l.length (flatE Try.markE l)] ∧ (l = [] ∨ ∃ D sp, d = .slice D sp ∧ l.length ≤ D.length)) :=
  Opn.mono (opn_slice2 (α := Try.Mark) Try.markE (by decide) Try.underlying23 cells35 (G := fun x d => d = markD H x) (fun n => opn_mark n)) fun d vs ⟨z, l, h1, h2, h3, _, h4⟩ => ⟨z, l, h1, h2, h4⟩
theorem marks_of {H : Type} {l : List Try.Mark} {d : DataW H} (h : l = [] ∨ ∃ D sp, d = .slice D sp ∧ l.length ≤ D.length) (hw : (d.weights Try.prog 23).all (· ≤ reachBytes) = true) : l.length ≤ 5864062014805 := by
  rcases h with rfl | ⟨D, sp, rfl, hl⟩
  · simp
  · simp only [DataW.weights, Try.underlying23, List.all_cons, Bool.and_eq_true, decide_eq_true_eq, bytes35] at hw
    rw [reach_eq] at hw
    have := hw.1
    omega

theorem makes_ok (l m : List Try.Mark) (zl zm : Bool) (hz : zl = true → l = []) (hl : l.length ≤ 5864062014805) (hm : m.length ≤ 5864062014805) {k : Nat} (hk : l.length + m.length + 7000 < k) :
    evF Try.prog Try.Γ (k + 1) 5 [roV zl l.length (flatE Try.markE l), roV zm m.length (flatE Try.markE m)] [] = some (.bool true, []) := by
  by_cases hl0 : l.length = 0
  · have hnil := List.length_eq_zero_iff.1 hl0
    cases zl with
    | true => exact Try.makesA_true l m _ zm hl hm hnil rfl hk
    | false => exact Try.makesA_false l m _ zm hl hm hnil rfl hk
  · by_cases he : Try.faultM (Try.lineM l) = 0
    · by_cases hm0 : m.length = 0
      · exact Try.makesD_nil l m zl zm hl hm he hl0 (List.length_eq_zero_iff.1 hm0) hk
      · exact Try.makesD_both l m zl zm hl hm he hl0 hm0 hk
    · by_cases hm0 : m.length = 0
      · exact Try.makesE_nil l m zl zm hl hm he hl0 (List.length_eq_zero_iff.1 hm0) hk
      · exact Try.makesE_both l m zl zm hl hm he hl0 hm0 hk

/-- WHAT THE WALK GIVES, FOR EVERY ARGUMENT AND EVERY WORLD. -/
theorem contract (H : Type) (enc : TypeId × Value → H) (W : World) (base : Nat) (args : Array Value) (ds gs : List (DataW H)) (before : List MemPlace)
    (hval : ∀ (j : Nat) t v, Try.f5.params[j]? = some t → args[j]? = some v → Value.okWide Try.prog W .any base t v)
    (hW : DataW.Whole enc Try.prog Try.f5.params.toList Rows.lineMakesSpec.vars false W args.toList ds gs before)
    (hwt : (DataW.weightsEach Try.prog (Try.f5.params.toList ++ Rows.lineMakesSpec.plain.varTypes Try.prog) (ds ++ gs)).all (· ≤ reachBytes) = true) :
    Calls Try.prog 5 args W fun e W' => ∃ v, e = .returned v ∧ Rows.lineMakesSpec.post enc Try.prog Try.f5 false true false false W args v W' := by
  have hW' := hW
  obtain ⟨p, q, hA0, hV, rfl, hfz, hnd⟩ := hW
  have hA : DataW.TrodAll enc Try.prog W 0 (fun _ => true) true Try.f5.params.toList args.toList ds p := hA0
  rw [Try.params5] at hA hval hwt
  obtain ⟨v0, vs0, d0, ds0, p0, q0, hargs, rfl, rfl, h0, r0⟩ := trodAll_cons hA
  obtain ⟨v1, vs1, d1, ds1, p1, q1, rfl, rfl, rfl, h1, r1⟩ := trodAll_cons r0
  obtain ⟨rfl, rfl, rfl⟩ := trodAll_nil r1
  obtain rfl : args = #[v0, v1] := by cases args; simp_all
  obtain ⟨rfl, rfl⟩ := trodVars_none hV
  obtain ⟨a0, len0, cap0, rfl⟩ := okWide_slice Try.underlying23 (hval 0 23 v0 rfl rfl)
  obtain ⟨a1, len1, cap1, rfl⟩ := okWide_slice Try.underlying23 (hval 1 23 v1 rfl rfl)
  obtain ⟨n0, h0⟩ := h0
  obtain ⟨n1, h1⟩ := h1
  obtain ⟨_, ⟨zl, l, hzl, rfl, hll⟩, ok0⟩ := opn_marks n0 _ _ _ h0
  obtain ⟨_, ⟨zm, m, hzm, rfl, hml⟩, ok1⟩ := opn_marks n1 _ _ _ h1
  simp only [List.cons_append, List.nil_append, DataW.weightsEach, List.all_append, Bool.and_eq_true] at hwt
  have hl := marks_of hll hwt.1
  have hm := marks_of hml hwt.2.1
  have hrep : RepL W W.heap.size emp [roV zl l.length (flatE Try.markE l), roV zm m.length (flatE Try.markE m)] [.slice a0 len0 cap0, .slice a1 len1 cap1] :=
    RepL.cons ok0.1.head (RepL.cons ok1.1.head (RepL.nil _ _ _))
  have hcb : Callable Try.prog 5 := ⟨Try.f5, Try.func5, by kernel_rfl, fun h => by
    have : (Try.f5.name == "runtime.NumGoroutine") = false := by decide
    rw [h] at this
    simp at this⟩
  have hwalk : Calls Try.prog 5 #[.slice a0 len0 cap0, .slice a1 len1 cap1] W fun e W' => e = .returned (.bool true) ∧ Below W.heap.size W W' :=
    law_calls (Try.orcOk) (by kernel_rfl) hcb globOk hrep ⟨8000 + l.length + m.length + 1, makes_ok l m zl zm hzl hl hm (k := 8000 + l.length + m.length) (by omega)⟩ (G := [])
  refine hwalk.mono fun e W' ⟨he, hbe⟩ => ?_
  subst he
  refine ⟨_, rfl, ?_⟩
  exact law_post (s := Rows.lineMakesSpec) laidOut hrec rfl Try.underlying4 rfl hW' hbe rfl

set_option maxRecDepth 100000 in
theorem lifted (os : Os) (started : os.Started) (H : Type) (enc : TypeId × Value → H) :
    ReturnsInHanded {} Try.checked os 5 .any (Rows.lineMakesSpec.pre6 enc Try.prog Try.f5 Rows.lineMakesRow.domain false) (Rows.lineMakesSpec.post enc Try.prog Try.f5 false true false false) := by
  refine returnsInHanded_of_change_shaped (C := Try.checked) own started (by kernel_rfl) Try.func5
    (ChangeSpec.witness6 (enc := enc) (C := Try.checked) false ⟨#[], #[.slice none 0 0, .slice none 0 0], []⟩ 8 (by kernel_rfl) (by kernel_rfl) (by kernel_rfl) (by kernel_rfl)) ?_
  intro W base args ds gs before hval hW _ hwt _ _
  exact contract H enc W base args ds gs before hval hW hwt

theorem said : Rows.LineMakesSaid :=
  OpenClaim.holds_of_wide 5 Try.f5 rfl rfl rfl rfl rfl rfl rfl ⟨rfl, rfl, rfl, rfl, rfl⟩ rfl rfl rfl rfl rfl (by kernel_rfl) Try.func5 (by kernel_rfl)
    (of_decide_eq_true (by kernel_rfl)) (by unfold Func.isWrapper; first | (rw [if_pos (by decide +kernel)]; kernel_rfl) | (rw [if_neg (by decide +kernel)]; exact ⟨rfl, rfl⟩))
    (fun os started H enc _ => lifted os started H enc)
end Go.Proofs.Ythmpoblblgohcaa.lineMakes
