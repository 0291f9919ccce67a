/-
  LINEEVENTS'S ROW: for all arguments the law returns true, and they read as before; no condition (own work).
-/
import Derived.Test.YtflmadkbppnmcaaClV
import Derived.Test.YtflmadkbppnmcaaCkW
import Derived.Test.YtflmadkbppnmcaaEvF
import Derived.Test.YtflmadkbppnmcaaRows
import Derived.WalkKit
import Derived.ProofKit
import Derived.OpenShut
import Derived.JoinedOf
import Derived.HandedShaped
set_option linter.unusedVariables false
set_option maxRecDepth 100000
set_option maxHeartbeats 4000000
namespace Go.Proofs.Ytflmadkbppnmcaa.lineEvents
open Go.ChangeShapes Go.WideShapes Go.ChangeAt Go.RowKit Go.Ev

theorem own : ownKnob Try.prog.godebug = none := by kernel_rfl
theorem globOk {W : World} : GlobMem Try.Γ W W.heap.size := fun g cs hg => by cases hg
theorem laidOut : laidOutB Try.prog = true := by kernel_rfl
theorem bytes64 : Try.prog.bytesOf 64 = 32 := by kernel_rfl
theorem bytes66 : Try.prog.bytesOf 66 = 32 := by kernel_rfl
theorem cells64 : Try.prog.cellsOf 64 = 3 := by kernel_rfl
theorem cells66 : Try.prog.cellsOf 66 = 4 := by kernel_rfl
theorem cells3 : Try.prog.cellsOf 3 = 1 := by kernel_rfl
theorem cells9 : Try.prog.cellsOf 9 = 1 := by kernel_rfl
theorem hrec : ∀ t ∈ Try.f7.params.toList, Try.prog.readableRec t = true ∧ t < Try.prog.types.size := by
  rw [Try.params7]
  intro t ht
  have h22 : Try.prog.readableRec 22 = true ∧ 22 < Try.prog.types.size := ⟨by kernel_rfl, by decide +kernel⟩
  have h23 : Try.prog.readableRec 23 = true ∧ 23 < Try.prog.types.size := ⟨by kernel_rfl, by decide +kernel⟩
  simp at ht
  rcases ht with rfl | rfl
  · exact h22
  · exact h23

/-! ### The arguments opened -/
def eventD (H : Type) (x : Try.Event) : DataW H := .agg [.lit (.string x.clock.data.toList), .lit (.int .i64 x.show'), .lit (.int .i64 x.wide')]
section
variable {H : Type} {enc : TypeId × Value → H} {W : World} {held : Bool}
theorem Opn.mono {P : Program} {n : Nat} {t : TypeId} {Q Q' : DataW H → List V → Prop} (h : Opn enc P W held n t Q) (hq : ∀ d vs, Q d vs → Q' d vs) : Opn enc P W held n t Q' := fun cs d ps hc => by
  obtain ⟨vs, h1, h2⟩ := h cs d ps hc
  exact ⟨vs, hq d vs h1, h2⟩
theorem opn_event (n : Nat) : Opn enc Try.prog W held n 64 (fun d vs => ∃ x, d = eventD H x ∧ vs = Try.eventE.f x) := by
  refine Opn.mono (opn_struct (Qs := [(fun d vs => ∃ s, d = .lit (.string s.data.toList) ∧ vs = [V.str s]), (fun d vs => ∃ z, d = .lit (.int .i64 z) ∧ vs = [V.int .i64 z]), (fun d vs => ∃ z, d = .lit (.int .i64 z) ∧ vs = [V.int .i64 z])]) Try.underlying64 (by kernel_rfl) (by kernel_rfl) rfl ?_) ?_
  · intro i f Q hf hQ n
    match i with
    | 0 => cases hf; cases hQ; exact fun cs d ps h => by
             obtain ⟨vs, h1, h2⟩ := opn_str Try.underlying9 cs d ps h
             exact ⟨vs, h1, h2⟩
    | 1 => cases hf; cases hQ; exact Opn.mono (opn_int Try.underlying3) fun d vs ⟨z, _, h1, h2⟩ => ⟨z, h1, h2⟩
    | 2 => cases hf; cases hQ; exact Opn.mono (opn_int Try.underlying3) fun d vs ⟨z, _, h1, h2⟩ => ⟨z, h1, h2⟩
    | i + 3 => simp at hQ
  · rintro d vs ⟨ds, rfl, hp⟩
    match ds, hp with
    | [d1, d2, d3], hp =>
      obtain ⟨v1, v2, rfl, ⟨s, rfl, rfl⟩, w1, w2, rfl, ⟨z1, rfl, rfl⟩, u1, u2, rfl, ⟨z2, rfl, rfl⟩, hw⟩ := hp
      obtain rfl : u2 = [] := hw
      exact ⟨⟨s, z1, z2⟩, rfl, rfl⟩
theorem opn_tie (n : Nat) : Opn enc Try.prog W held n 66 (fun _ vs => ∃ x : Try.Tie, True ∧ vs = Try.tieE.f x) := by
  refine Opn.mono (opn_struct (Qs := [(fun _ vs => ∃ z, vs = [V.int .i64 z]), (fun _ vs => ∃ z, vs = [V.int .i64 z]), (fun _ vs => ∃ z, vs = [V.int .i64 z]), (fun _ vs => ∃ z, vs = [V.int .i64 z])]) Try.underlying66 (by kernel_rfl) (by kernel_rfl) rfl ?_) ?_
  · intro i f Q hf hQ n
    match i with
    | 0 => cases hf; cases hQ; exact Opn.mono (opn_int Try.underlying3) fun d vs ⟨z, _, _, h⟩ => ⟨z, h⟩
    | 1 => cases hf; cases hQ; exact Opn.mono (opn_int Try.underlying3) fun d vs ⟨z, _, _, h⟩ => ⟨z, h⟩
    | 2 => cases hf; cases hQ; exact Opn.mono (opn_int Try.underlying3) fun d vs ⟨z, _, _, h⟩ => ⟨z, h⟩
    | 3 => cases hf; cases hQ; exact Opn.mono (opn_int Try.underlying3) fun d vs ⟨z, _, _, h⟩ => ⟨z, h⟩
    | i + 4 => simp at hQ
  · rintro d vs ⟨ds, rfl, hp⟩
    match ds, hp with
    | [d1, d2, d3, d4], hp =>
      obtain ⟨v1, v2, rfl, ⟨z1, rfl⟩, w1, w2, rfl, ⟨z2, rfl⟩, u1, u2, rfl, ⟨z3, rfl⟩, t1, t2, rfl, ⟨z4, rfl⟩, hw⟩ := hp
      obtain rfl : t2 = [] := hw
      exact ⟨⟨z1, z2, z3, z4⟩, trivial, rfl⟩
end
theorem weightsAll_mem {H : Type} {P : Program} {e : TypeId} : ∀ {ds : List (DataW H)} {d : DataW H} {n : Nat}, d ∈ ds → n ∈ d.weights P e → n ∈ DataW.weightsAll P e ds
  | d' :: ds, d, n, hd, hn => by
    rw [DataW.weightsAll]
    cases hd with
    | head => exact List.mem_append_left _ hn
    | tail _ hd => exact List.mem_append_right _ (weightsAll_mem hd hn)
theorem reach_eq : reachBytes = 140737488351232 := rfl
theorem events_of {H : Type} {l : List Try.Event} {d : DataW H} (h : l = [] ∨ ∃ D sp, d = .slice D sp ∧ l.length ≤ D.length) (hG : ∀ x ∈ l, ∃ D sp y, d = .slice D sp ∧ y ∈ D ∧ y = eventD H x) (hw : (d.weights Try.prog 22).all (· ≤ reachBytes) = true) :
    l.length ≤ 8796093022206 ∧ ∀ x ∈ l, x.clock.size ≤ 140737488351232 := by
  rcases h with rfl | ⟨D, sp, rfl, hl⟩
  · exact ⟨by simp, fun x hx => by simp at hx⟩
  · simp only [DataW.weights, Try.underlying22, List.all_cons, List.all_append, Bool.and_eq_true, decide_eq_true_eq, bytes64] at hw
    rw [reach_eq] at hw
    refine ⟨by have := hw.1; omega, fun x hx => ?_⟩
    obtain ⟨D', sp', y, hd, hy, rfl⟩ := hG x hx
    cases hd
    have hm : x.clock.data.toList.length ∈ (eventD H x).weights Try.prog 64 := by
      simp [eventD, DataW.weights, DataW.weightsEach, Try.underlying64]
    have := of_decide_eq_true (List.all_eq_true.1 hw.2.1 _ (weightsAll_mem hy hm))
    simpa using this
theorem ties_of {H : Type} {l : List Try.Tie} {d : DataW H} (h : l = [] ∨ ∃ D sp, d = .slice D sp ∧ l.length ≤ D.length) (hw : (d.weights Try.prog 23).all (· ≤ reachBytes) = true) : l.length ≤ 8796093022206 := by
  rcases h with rfl | ⟨D, sp, rfl, hl⟩
  · simp
  · simp only [DataW.weights, Try.underlying23, List.all_cons, Bool.and_eq_true, decide_eq_true_eq, bytes66] at hw
    rw [reach_eq] at hw
    have := hw.1
    omega

/-- WHAT THE WALK GIVES, FOR EVERY ARGUMENT AND EVERY WORLD. -/
theorem contract (H : Type) (enc : TypeId × Value → H) (W : World) (base : Nat) (args : Array Value) (ds gs : List (DataW H)) (before : List MemPlace)
    (hval : ∀ (j : Nat) t v, Try.f7.params[j]? = some t → args[j]? = some v → Value.okWide Try.prog W .any base t v)
    (hW : DataW.Whole enc Try.prog Try.f7.params.toList Rows.lineEventsSpec.vars false W args.toList ds gs before)
    (hwt : (DataW.weightsEach Try.prog (Try.f7.params.toList ++ Rows.lineEventsSpec.plain.varTypes Try.prog) (ds ++ gs)).all (· ≤ reachBytes) = true) :
    Calls Try.prog 7 args W fun e W' => ∃ v, e = .returned v ∧ Rows.lineEventsSpec.post enc Try.prog Try.f7 false true false false W args v W' := by
  have hW' := hW
  obtain ⟨p, q, hA0, hV, rfl, hfz, hnd⟩ := hW
  have hA : DataW.TrodAll enc Try.prog W 0 (fun _ => true) true Try.f7.params.toList args.toList ds p := hA0
  rw [Try.params7] at hA hval hwt
  obtain ⟨v0, vs0, d0, ds0, p0, q0, hargs, rfl, rfl, h0, r0⟩ := trodAll_cons hA
  obtain ⟨v1, vs1, d1, ds1, p1, q1, rfl, rfl, rfl, h1, r1⟩ := trodAll_cons r0
  obtain ⟨rfl, rfl, rfl⟩ := trodAll_nil r1
  obtain rfl : args = #[v0, v1] := by cases args; simp_all
  obtain ⟨rfl, rfl⟩ := trodVars_none hV
  obtain ⟨a0, len0, cap0, rfl⟩ := okWide_slice Try.underlying22 (hval 0 22 v0 rfl rfl)
  obtain ⟨a1, len1, cap1, rfl⟩ := okWide_slice Try.underlying23 (hval 1 23 v1 rfl rfl)
  obtain ⟨n0, h0⟩ := h0
  obtain ⟨n1, h1⟩ := h1
  obtain ⟨_, ⟨z, l, _, rfl, _, hG, hD⟩, ok0⟩ := opn_slice2 (α := Try.Event) Try.eventE (by decide) Try.underlying22 cells64 (G := fun x d => d = eventD H x) (fun n => opn_event n) _ _ _ h0
  obtain ⟨_, ⟨z2, ties, _, rfl, _, _, hD2⟩, ok1⟩ := opn_slice2 (α := Try.Tie) Try.tieE (by decide) Try.underlying23 cells66 (G := fun _ _ => True) (fun n => opn_tie n) _ _ _ h1
  simp only [List.cons_append, List.nil_append, DataW.weightsEach, List.all_append, Bool.and_eq_true] at hwt
  obtain ⟨hl, hz⟩ := events_of hD hG hwt.1
  have ht := ties_of hD2 hwt.2.1
  have hrep : RepL W W.heap.size emp [roV z l.length (flatE Try.eventE l), roV z2 ties.length (flatE Try.tieE ties)] [.slice a0 len0 cap0, .slice a1 len1 cap1] :=
    RepL.cons ok0.1.head (RepL.cons ok1.1.head (RepL.nil _ _ _))
  have hcb : Callable Try.prog 7 := ⟨Try.f7, Try.func7, by kernel_rfl, fun h => by
    have : (Try.f7.name == "runtime.NumGoroutine") = false := by decide
    rw [h] at this
    simp at this⟩
  have hwalk : Calls Try.prog 7 #[.slice a0 len0 cap0, .slice a1 len1 cap1] W fun e W' => e = .returned (.bool true) ∧ Below W.heap.size W W' :=
    law_calls (Try.orcOk) (by kernel_rfl) hcb globOk hrep ⟨140737488351232 + l.length + 6001 + 1, Try.Ln.lineEvents_ok l ties z z2 140737488351232 (by omega) hz hl ht (k := 140737488351232 + l.length + 6001) (by omega)⟩ (G := [])
  refine hwalk.mono fun e W' ⟨he, hbe⟩ => ?_
  subst he
  refine ⟨_, rfl, ?_⟩
  exact law_post (s := Rows.lineEventsSpec) laidOut hrec rfl Try.underlying4 rfl hW' hbe rfl

set_option maxRecDepth 100000 in
theorem lifted (os : Os) (started : os.Started) (H : Type) (enc : TypeId × Value → H) :
    ReturnsInHanded {} Try.checked os 7 .any (Rows.lineEventsSpec.pre6 enc Try.prog Try.f7 Rows.lineEventsRow.domain false) (Rows.lineEventsSpec.post enc Try.prog Try.f7 false true false false) := by
  refine returnsInHanded_of_change_shaped (C := Try.checked) own started (by kernel_rfl) Try.func7
    (ChangeSpec.witness6 (enc := enc) (C := Try.checked) false ⟨#[], #[.slice none 0 0, .slice none 0 0], []⟩ 8 (by kernel_rfl) (by kernel_rfl) (by kernel_rfl) (by kernel_rfl)) ?_
  intro W base args ds gs before hval hW _ hwt _ _
  exact contract H enc W base args ds gs before hval hW hwt

theorem said : Rows.LineEventsSaid :=
  OpenClaim.holds_of_wide 7 Try.f7 rfl rfl rfl rfl rfl rfl rfl ⟨rfl, rfl, rfl, rfl, rfl⟩ rfl rfl rfl rfl rfl (by kernel_rfl) Try.func7 (by kernel_rfl)
    (of_decide_eq_true (by kernel_rfl)) (by unfold Func.isWrapper; first | (rw [if_pos (by decide +kernel)]; kernel_rfl) | (rw [if_neg (by decide +kernel)]; exact ⟨rfl, rfl⟩))
    (fun os started H enc _ => lifted os started H enc)
end Go.Proofs.Ytflmadkbppnmcaa.lineEvents
