/-
  REDACTSHOWS'S ROW: for all arguments the law returns true, and they read as before; no condition (own work).
-/
import Derived.Test.YtnalmdnfoicokaaRsY
import Derived.Test.YtnalmdnfoicokaaRmO
import Derived.Test.YtnalmdnfoicokaaRdW
import Derived.Test.YtnalmdnfoicokaaRows
import Derived.WalkKit
import Derived.ProofKit
import Derived.OpenShut
import Derived.JoinedOf
import Derived.HandedShaped
set_option linter.unusedVariables false
set_option maxRecDepth 100000
set_option maxHeartbeats 4000000
namespace Go.Proofs.Ytnalmdnfoicokaa.redactShows
open Go.ChangeShapes Go.WideShapes Go.ChangeAt Go.RowKit Go.Ev

theorem own : ownKnob Try.prog.godebug = none := by kernel_rfl
theorem globOk {W : World} : GlobMem Try.Γ W W.heap.size := fun g cs hg => by cases hg
theorem laidOut : laidOutB Try.prog = true := by kernel_rfl
theorem bytes42 : Try.prog.bytesOf 42 = 16 := by kernel_rfl
theorem hrec : ∀ t ∈ Try.f6.params.toList, Try.prog.readableRec t = true ∧ t < Try.prog.types.size := by
  rw [Try.params6]
  intro t ht
  have h23 : Try.prog.readableRec 23 = true ∧ 23 < Try.prog.types.size := ⟨by kernel_rfl, by decide +kernel⟩
  have h31 : Try.prog.readableRec 31 = true ∧ 31 < Try.prog.types.size := ⟨by kernel_rfl, by decide +kernel⟩
  have h42 : Try.prog.readableRec 42 = true ∧ 42 < Try.prog.types.size := ⟨by kernel_rfl, by decide +kernel⟩
  simp at ht
  rcases ht with rfl | rfl | rfl
  · exact h23
  · exact h31
  · exact h42

theorem opn_spans2 {H : Type} {enc : TypeId × Value → H} {W : World} {held : Bool} (n : Nat) : Opn enc Try.prog W held n 31 (fun d vs => ∃ (z : Bool) (l : List Try.Span), (z = true → l = []) ∧ vs = [roV z l.length (flatE Try.spanE l)] ∧ (l = [] ∨ ∃ D sp, d = .slice D sp ∧ l.length ≤ D.length)) :=
  Try.Opn.mono (opn_slice2 (α := Try.Span) Try.spanE (by decide) Try.underlying31 Try.cells42 (G := fun _ _ => True) (fun n => Try.opn_span n)) fun d vs ⟨z, l, h1, h2, h3, _, h4⟩ => ⟨z, l, h1, h2, h4⟩
theorem len_of {H : Type} {l : List Try.Span} {d : DataW H} (h : l = [] ∨ ∃ D sp, d = .slice D sp ∧ l.length ≤ D.length) (hw : (d.weights Try.prog 31).all (· ≤ reachBytes) = true) : l.length ≤ 8796093022208 := by
  rcases h with rfl | ⟨D, sp, rfl, hl⟩
  · simp
  · simp only [DataW.weights, Try.underlying31, List.all_cons, Bool.and_eq_true, decide_eq_true_eq, bytes42] at hw
    have h1 := hw.1
    have h2 : reachBytes = 140737488351232 := rfl
    rw [h2] at h1
    omega

/-- WHAT THE WALK GIVES, FOR EVERY ARGUMENT AND EVERY WORLD. -/
theorem contract (H : Type) (enc : TypeId × Value → H) (W : World) (base : Nat) (args : Array Value) (ds gs : List (DataW H)) (before : List MemPlace)
    (hval : ∀ (j : Nat) t v, Try.f6.params[j]? = some t → args[j]? = some v → Value.okWide Try.prog W .any base t v)
    (hW : DataW.Whole enc Try.prog Try.f6.params.toList Rows.redactShowsSpec.vars false W args.toList ds gs before)
    (hwt : (DataW.weightsEach Try.prog (Try.f6.params.toList ++ Rows.redactShowsSpec.plain.varTypes Try.prog) (ds ++ gs)).all (· ≤ reachBytes) = true) :
    Calls Try.prog 6 args W fun e W' => ∃ v, e = .returned v ∧ Rows.redactShowsSpec.post enc Try.prog Try.f6 false true false false W args v W' := by
  have hW' := hW
  obtain ⟨p, q, hA0, hV, rfl, hfz, hnd⟩ := hW
  have hA : DataW.TrodAll enc Try.prog W 0 (fun _ => true) true Try.f6.params.toList args.toList ds p := hA0
  rw [Try.params6] at hA hval hwt
  obtain ⟨v0, vs0, d0, ds0, p0, q0, hargs, rfl, rfl, h0, r0⟩ := trodAll_cons hA
  obtain ⟨v1, vs1, d1, ds1, p1, q1, rfl, rfl, rfl, h1, r1⟩ := trodAll_cons r0
  obtain ⟨v2, vs2, d2, ds2, p2, q2, rfl, rfl, rfl, h2, r2⟩ := trodAll_cons r1
  obtain ⟨v3, vs3, d3, ds3, p3, q3, rfl, rfl, rfl, h3, r3⟩ := trodAll_cons r2
  obtain ⟨rfl, rfl, rfl⟩ := trodAll_nil r3
  obtain rfl : args = #[v0, v1, v2, v3] := by cases args; simp_all
  obtain ⟨rfl, rfl⟩ := trodVars_none hV
  obtain ⟨a0, len0, cap0, rfl⟩ := okWide_slice Try.underlying23 (hval 0 23 v0 rfl rfl)
  obtain ⟨a1, len1, cap1, rfl⟩ := okWide_slice Try.underlying31 (hval 1 31 v1 rfl rfl)
  obtain ⟨a2, len2, cap2, rfl⟩ := okWide_slice Try.underlying31 (hval 2 31 v2 rfl rfl)
  obtain ⟨n0, h0⟩ := h0
  obtain ⟨n1, h1⟩ := h1
  obtain ⟨n2, h2⟩ := h2
  obtain ⟨n3, h3⟩ := h3
  obtain ⟨_, ⟨zb, bs, hzb, rfl, hbl⟩, ok0⟩ := Try.opn_bytes n0 _ _ _ h0
  obtain ⟨_, ⟨zl, l, hzl, rfl, hll⟩, ok1⟩ := opn_spans2 n1 _ _ _ h1
  obtain ⟨_, ⟨zm, m, hzm, rfl, hml⟩, ok2⟩ := opn_spans2 n2 _ _ _ h2
  obtain ⟨_, ⟨s, _, rfl⟩, ok3⟩ := Try.opn_span n3 _ _ _ h3
  simp only [List.cons_append, List.nil_append, DataW.weightsEach, List.all_append, Bool.and_eq_true] at hwt
  have hl := len_of hll hwt.2.1
  have hm := len_of hml hwt.2.2.1
  have hagg : ∃ cs, v3 = .agg cs := by
    have hlen := ok3.1.1
    cases v3 <;> first | (exact ⟨_, rfl⟩) | (simp [Value.cells, Try.spanE_f] at hlen)
  obtain ⟨⟨cs3⟩, rfl⟩ := hagg
  have hr3 : Rep W W.heap.size emp (.agg [.int .i64 s.off, .int .i64 s.len]) (.agg ⟨cs3⟩) := .agg _ _ _ ok3.1.1 ok3.2 ok3.1.2
  have hrep : RepL W W.heap.size emp [roV zb bs.length (flatE (intE .u8) bs), roV zl l.length (flatE Try.spanE l), roV zm m.length (flatE Try.spanE m), .agg [.int .i64 s.off, .int .i64 s.len]] [.slice a0 len0 cap0, .slice a1 len1 cap1, .slice a2 len2 cap2, .agg ⟨cs3⟩] :=
    RepL.cons ok0.1.head (RepL.cons ok1.1.head (RepL.cons ok2.1.head (RepL.cons hr3 (RepL.nil _ _ _))))
  have hwalk : Calls Try.prog 6 #[.slice a0 len0 cap0, .slice a1 len1 cap1, .slice a2 len2 cap2, .agg ⟨cs3⟩] W fun e W' => e = .returned (.bool true) ∧ Below W.heap.size W W' :=
    law_calls (Try.orcOk) (by kernel_rfl) globOk hrep ⟨400001 + l.length + m.length + 1, Try.shows_ok bs zb hzb l m zl zm hzl hzm s hbl hl hm (k := 400001 + l.length + m.length) (by omega)⟩ (G := [])
  refine hwalk.mono fun e W' ⟨he, hbe⟩ => ?_
  subst he
  refine ⟨_, rfl, ?_⟩
  exact law_post (s := Rows.redactShowsSpec) laidOut hrec rfl Try.underlying4 rfl hW' hbe rfl

set_option maxRecDepth 100000 in
theorem lifted (os : Os) (started : os.Started) (H : Type) (enc : TypeId × Value → H) :
    ReturnsInHanded {} Try.checked os 6 .any (Rows.redactShowsSpec.pre6 enc Try.prog Try.f6 Rows.redactShowsRow.domain false) (Rows.redactShowsSpec.post enc Try.prog Try.f6 false true false false) := by
  refine returnsInHanded_of_change_shaped (C := Try.checked) own started (by kernel_rfl) Try.func6
    (ChangeSpec.witness6 (enc := enc) (C := Try.checked) false ⟨#[], #[.slice none 0 0, .slice none 0 0, .slice none 0 0, .agg #[.int .i64 0, .int .i64 0]], []⟩ 8 (by kernel_rfl) (by kernel_rfl) (by kernel_rfl) (by kernel_rfl)) ?_
  intro W base args ds gs before hval hW _ hwt _ _
  exact contract H enc W base args ds gs before hval hW hwt

theorem said : Rows.RedactShowsSaid :=
  OpenClaim.holds_of_wide 6 Try.f6 rfl rfl rfl rfl rfl rfl rfl ⟨rfl, rfl, rfl, rfl, rfl⟩ rfl rfl rfl rfl rfl (by kernel_rfl) Try.func6 (by kernel_rfl)
    (of_decide_eq_true (by kernel_rfl)) (by unfold Func.isWrapper; first | (rw [if_pos (by decide +kernel)]; kernel_rfl) | (rw [if_neg (by decide +kernel)]; exact ⟨rfl, rfl⟩))
    (fun os started H enc _ => lifted os started H enc)
end Go.Proofs.Ytnalmdnfoicokaa.redactShows
