/-
  REDACTMAKES'S ROW: for all arguments the law returns true, and they read as before; no condition (own work).
-/
import Derived.Test.YtnalmdnfoicokaaRmG
import Derived.Test.YtnalmdnfoicokaaRmO
import Derived.Test.YtnalmdnfoicokaaRdW
import Derived.Test.YtnalmdnfoicokaaRows
import Derived.WalkKit
import Derived.ProofKit
import Derived.OpenShut
import Derived.JoinedOf
set_option linter.unusedVariables false
set_option maxRecDepth 100000
set_option maxHeartbeats 4000000
namespace Go.Proofs.Ytnalmdnfoicokaa.redactMakes
open Go.ChangeShapes Go.WideShapes Go.ChangeAt Go.RowKit Go.Ev

theorem own : ownKnob Try.prog.godebug = none := by kernel_rfl
theorem globOk {W : World} : GlobMem Try.Γ W W.heap.size := fun g cs hg => by cases hg
theorem laidOut : laidOutB Try.prog = true := by kernel_rfl
theorem hrec : ∀ t ∈ Try.f4.params.toList, Try.prog.readableRec t = true ∧ t < Try.prog.types.size := by
  rw [Try.params4]
  intro t ht
  have h23 : Try.prog.readableRec 23 = true ∧ 23 < Try.prog.types.size := ⟨by kernel_rfl, by decide +kernel⟩
  have h31 : Try.prog.readableRec 31 = true ∧ 31 < Try.prog.types.size := ⟨by kernel_rfl, by decide +kernel⟩
  have h27 : Try.prog.readableRec 27 = true ∧ 27 < Try.prog.types.size := ⟨by kernel_rfl, by decide +kernel⟩
  have h36 : Try.prog.readableRec 36 = true ∧ 36 < Try.prog.types.size := ⟨by kernel_rfl, by decide +kernel⟩
  simp at ht
  rcases ht with rfl | rfl | rfl | rfl
  · exact h23
  · exact h31
  · exact h27
  · exact h36

/-- WHAT THE WALK GIVES, FOR EVERY ARGUMENT AND EVERY WORLD. -/
theorem contract (H : Type) (enc : TypeId × Value → H) (W : World) (base : Nat) (args : Array Value) (ds gs : List (DataW H)) (before : List MemPlace)
    (hval : ∀ (j : Nat) t v, Try.f4.params[j]? = some t → args[j]? = some v → Value.okWide Try.prog W .any base t v)
    (hW : DataW.Whole enc Try.prog Try.f4.params.toList Rows.redactMakesSpec.vars false W args.toList ds gs before) :
    Calls Try.prog 4 args W fun e W' => ∃ v, e = .returned v ∧ Rows.redactMakesSpec.post enc Try.prog Try.f4 false true false false W args v W' := by
  have hW' := hW
  obtain ⟨p, q, hA0, hV, rfl, hfz, hnd⟩ := hW
  have hA : DataW.TrodAll enc Try.prog W 0 (fun _ => true) true Try.f4.params.toList args.toList ds p := hA0
  rw [Try.params4] at hA hval
  obtain ⟨v0, vs0, d0, ds0, p0, q0, hargs, rfl, rfl, h0, r0⟩ := trodAll_cons hA
  obtain ⟨v1, vs1, d1, ds1, p1, q1, rfl, rfl, rfl, h1, r1⟩ := trodAll_cons r0
  obtain ⟨v2, vs2, d2, ds2, p2, q2, rfl, rfl, rfl, h2, r2⟩ := trodAll_cons r1
  obtain ⟨v3, vs3, d3, ds3, p3, q3, rfl, rfl, rfl, h3, r3⟩ := trodAll_cons r2
  obtain ⟨rfl, rfl, rfl⟩ := trodAll_nil r3
  obtain rfl : args = #[v0, v1, v2, v3] := by cases args; simp_all
  obtain ⟨rfl, rfl⟩ := trodVars_none hV
  obtain ⟨a0, len0, cap0, rfl⟩ := okWide_slice Try.underlying23 (hval 0 23 v0 rfl rfl)
  obtain ⟨a1, len1, cap1, rfl⟩ := okWide_slice Try.underlying31 (hval 1 31 v1 rfl rfl)
  obtain ⟨n0, h0⟩ := h0
  obtain ⟨n1, h1⟩ := h1
  obtain ⟨n2, h2⟩ := h2
  obtain ⟨_, ⟨zb, bs, hzb, rfl, hbl⟩, ok0⟩ := Try.opn_bytes n0 _ _ _ h0
  obtain ⟨_, ⟨zl, l, hzl, rfl, hll⟩, ok1⟩ := Try.opn_spans n1 _ _ _ h1
  obtain ⟨_, ⟨size, zp, ps, hzp, rfl, hpl, hpb⟩, ok2⟩ := Try.opn_exhibit n2 _ _ _ h2
  obtain ⟨root, rfl, rfl, rfl, _⟩ := open_int Try.underlying36 (hval 3 36 v3 rfl rfl) h3
  have hagg : ∃ cs, v2 = .agg cs := by
    have hlen := ok2.1.1
    cases v2 <;> first | (exact ⟨_, rfl⟩) | (simp [Value.cells] at hlen)
  obtain ⟨⟨cs2⟩, rfl⟩ := hagg
  have hr2 : Rep W W.heap.size emp (.agg [.int .i64 size, roV zp ps.length (flatE Try.pieceE ps)]) (.agg ⟨cs2⟩) := .agg _ _ _ ok2.1.1 ok2.2 ok2.1.2
  have hrep : RepL W W.heap.size emp [roV zb bs.length (flatE (intE .u8) bs), roV zl l.length (flatE Try.spanE l), .agg [.int .i64 size, roV zp ps.length (flatE Try.pieceE ps)], .int .u64 root] [.slice a0 len0 cap0, .slice a1 len1 cap1, .agg ⟨cs2⟩, .int .u64 root] :=
    RepL.cons ok0.1.head (RepL.cons ok1.1.head (RepL.cons hr2 (RepL.cons (.int _ _ _) (RepL.nil _ _ _))))
  have hwalk : Calls Try.prog 4 #[.slice a0 len0 cap0, .slice a1 len1 cap1, .agg ⟨cs2⟩, .int .u64 root] W fun e W' => e = .returned (.bool true) ∧ Below W.heap.size W W' :=
    law_calls (Try.orcOk) (by kernel_rfl) globOk hrep ⟨400001 + l.length + 1, Try.makes_ok bs zb hzb l zl size ps zp root hbl hll hpl hpb (k := 400001 + l.length) (by omega)⟩ (G := [])
  refine hwalk.mono fun e W' ⟨he, hbe⟩ => ?_
  subst he
  refine ⟨_, rfl, ?_⟩
  exact law_post (s := Rows.redactMakesSpec) laidOut hrec rfl Try.underlying4 rfl hW' hbe rfl

set_option maxRecDepth 100000 in
theorem lifted (os : Os) (started : os.Started) (H : Type) (enc : TypeId × Value → H) :
    ReturnsInHanded {} Try.checked os 4 .any (Rows.redactMakesSpec.pre6 enc Try.prog Try.f4 Rows.redactMakesRow.domain false) (Rows.redactMakesSpec.post enc Try.prog Try.f4 false true false false) := by
  refine returnsInHanded_of_change (C := Try.checked) own started (by kernel_rfl) Try.func4
    (ChangeSpec.witness6 (enc := enc) (C := Try.checked) false ⟨#[], #[.slice none 0 0, .slice none 0 0, .agg #[.int .i64 0, .slice none 0 0], .int .u64 0], []⟩ 8 (by kernel_rfl) (by kernel_rfl) (by kernel_rfl) (by kernel_rfl)) ?_
  intro W base args ds gs before hval hW _ _
  exact contract H enc W base args ds gs before hval hW

theorem said : Rows.RedactMakesSaid :=
  OpenClaim.holds_of_wide 4 Try.f4 rfl rfl rfl rfl rfl rfl rfl ⟨rfl, rfl, rfl, rfl, rfl⟩ rfl rfl rfl rfl rfl (by kernel_rfl) Try.func4 (by kernel_rfl)
    (of_decide_eq_true (by kernel_rfl)) (by unfold Func.isWrapper; first | (rw [if_pos (by decide +kernel)]; kernel_rfl) | (rw [if_neg (by decide +kernel)]; exact ⟨rfl, rfl⟩))
    (fun os started H enc _ => lifted os started H enc)
end Go.Proofs.Ytnalmdnfoicokaa.redactMakes
