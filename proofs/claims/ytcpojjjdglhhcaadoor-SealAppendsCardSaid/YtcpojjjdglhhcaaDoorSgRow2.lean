/-
  SEALAPPENDS' ROW AND CARD: for every list of entries the law returns true, and the argument reads as before; no condition (own work).
-/
import Derived.Test.YtcpojjjdglhhcaaDoorSgU
import Derived.Test.YtcpojjjdglhhcaaDoorSgRow
set_option linter.unusedVariables false
set_option linter.unusedSimpArgs false
namespace Go.Proofs.YtcpojjjdglhhcaaDoor.sealAppends
open Go.ChangeShapes Go.WideShapes Go.ChangeAt Go.RowKit Go.Ev

theorem walk (W : World) (l : List Tryd.Entry) (z : Bool) (hl : Tryd.okL l) (hlen : l.length < 9223372036854775807) (v0 : Value) (hr : Rep W W.heap.size emp (roV z l.length (flatE Tryd.entryE l)) v0)
    (hL : laidMetH Tryd.prog Rows.sealAppendsRow.laid W) :
    Calls Tryd.prog 6 #[v0] W fun e W' => e = .returned (.bool true) ∧ Below W.heap.size W W' := by
  have hrep : RepL W W.heap.size emp [roV z l.length (flatE Tryd.entryE l)] [v0] := RepL.cons hr (RepL.nil _ _ _)
  refine law_calls Tryd.orcOk (by kernel_rfl) (sealChecks.globOk hL) hrep ⟨3000 + Tryd.szL l + l.length + 1, ?_⟩ (G := [])
  exact Tryd.law6_ok l z hl hlen (k := 3000 + Tryd.szL l + l.length) (by omega)

theorem hrec : ∀ t ∈ Tryd.f6.params.toList, Tryd.prog.readableRec t = true ∧ t < Tryd.prog.types.size := by
  rw [Tryd.params6]
  intro t ht
  have h23 : Tryd.prog.readableRec 23 = true ∧ 23 < Tryd.prog.types.size := ⟨by kernel_rfl, by decide +kernel⟩
  simp at ht
  subst ht
  exact h23

theorem bytes38 : Tryd.prog.bytesOf 38 = 64 := by kernel_rfl
theorem len_of_rep {W : World} {z : Bool} {n : Nat} {cs : List V} {a0 : Option Addr} {len0 cap0 : Nat} (h : Rep W W.heap.size emp (roV z n cs) (.slice a0 len0 cap0)) : n = len0 := by
  unfold roV at h
  split at h
  · rename_i hz
    simp at hz
    cases h
    exact hz.2
  · cases h with
    | ros => rfl
    | rose => rfl

/-- WHAT THE WALK GIVES, FOR EVERY ARGUMENT AND EVERY WORLD THAT HOLDS THE TABLES. -/
theorem contract (H : Type) (enc : TypeId × Value → H) (W : World) (base : Nat) (args : Array Value) (ds gs : List (DataW H)) (before : List MemPlace)
    (hval : ∀ (j : Nat) t v, Tryd.f6.params[j]? = some t → args[j]? = some v → Value.okWide Tryd.prog W .any base t v)
    (hW : DataW.Whole enc Tryd.prog Tryd.f6.params.toList Rows.sealAppendsSpec.vars false W args.toList ds gs before)
    (hwt : (DataW.weightsEach Tryd.prog (Tryd.f6.params.toList ++ (OpenSpec.ofChange Rows.sealAppendsSpec).bare.plain.varTypes Tryd.prog) (ds ++ gs)).all (· ≤ reachBytes) = true) (hL : laidMetH Tryd.prog Rows.sealAppendsRow.laid W) :
    Calls Tryd.prog 6 args W fun e W' => ∃ v, e = .returned v ∧ Rows.sealAppendsSpec.post enc Tryd.prog Tryd.f6 false true false false W args v W' := by
  have hW' := hW
  obtain ⟨p, q, hA0, hV, rfl, hfz, hnd⟩ := hW
  have hA : DataW.TrodAll enc Tryd.prog W 0 (fun _ => true) true Tryd.f6.params.toList args.toList ds p := hA0
  rw [Tryd.params6] at hA hval hwt
  obtain ⟨v0, vs0, d0, ds0, p0, q0, hargs, rfl, rfl, h0, r0⟩ := trodAll_cons hA
  obtain ⟨rfl, rfl, rfl⟩ := trodAll_nil r0
  obtain rfl : args = #[v0] := by cases args; simp_all
  obtain ⟨rfl, rfl⟩ := trodVars_none hV
  obtain ⟨a0, len0, cap0, rfl⟩ := okWide_slice Tryd.underlying23 (hval 0 23 v0 rfl rfl)
  obtain ⟨n0, h0⟩ := h0
  obtain ⟨vs, ⟨z, l, _, rfl, hG⟩, hok⟩ := opn_slice (α := Tryd.Entry) Tryd.entryE (by decide) Tryd.underlying23 sealChecks.cells38 (fun n => sealChecks.opn_entry n) _ _ _ h0
  have hr : Rep W W.heap.size emp (roV z l.length (flatE Tryd.entryE l)) (.slice a0 len0 cap0) := hok.1.head
  simp only [List.cons_append, List.nil_append, DataW.weightsEach, List.all_append, Bool.and_eq_true] at hwt
  have hl : Tryd.okL l := fun y hy => by
    obtain ⟨D, sp, d', hd, hm, rfl, hwy⟩ := hG y hy
    refine sealChecks.okE_of (H := H) hwy ?_
    have hw0 := hwt.1
    rw [hd] at hw0
    simp only [DataW.weights, Tryd.underlying23, List.all_cons, List.all_append, Bool.and_eq_true] at hw0
    rw [List.all_eq_true]
    intro n hn
    exact List.all_eq_true.1 hw0.2.1 n (sealChecks.weightsAll_mem hm hn)
  have hlen : l.length < 9223372036854775807 := by
    rw [len_of_rep hr]
    rcases Go.Deep.open_slice Tryd.underlying23 h0 with ⟨h1, _⟩ | ⟨a, len, cap, m, n, D, Pl, h1, hb, hl', hm, hmm, h2, hx⟩
    · have h1' : [Value.slice a0 len0 cap0] = [.slice none 0 0] := h1
      cases h1'
      omega
    · have h1' : [Value.slice a0 len0 cap0] = [.slice (some a) len cap] := h1
      cases h1'
      cases h2
      have hw0 := hwt.1
      simp only [DataW.weights, Tryd.underlying23, List.all_cons, Bool.and_eq_true] at hw0
      have hw1 := of_decide_eq_true hw0.1
      rw [bytes38, List.length_map, List.length_range] at hw1
      have hre : reachBytes = 140737488351232 := rfl
      omega
  refine (walk W l z hl hlen _ hr hL).mono fun e W' ⟨he, hbe⟩ => ?_
  subst he
  refine ⟨_, rfl, ?_⟩
  exact law_post (s := Rows.sealAppendsSpec) sealChecks.laidOut hrec rfl Tryd.underlying4 rfl hW' hbe rfl

def args0 : Array Value := #[.slice none 0 0]
theorem laid_met (os : Os) : laidMet Tryd.prog Rows.sealAppendsRow.laid ((sealChecks.laidWorld os).forCall (fun _ _ => 0) ⟨#[], args0, []⟩).memory :=
  laidMet_of_run' 8 (by kernel_rfl) (by kernel_rfl)
theorem reads (os : Os) {H : Type} (enc : TypeId × Value → H) : ∃ places, DataW.whole enc Tryd.prog ((sealChecks.laidWorld os).forCall (fun _ _ => 0) ⟨#[], args0, []⟩).memory Tryd.f6.params.toList Rows.sealAppendsSpec.vars false args0.toList 8 = some ([.nil], [], places) :=
  ⟨[], by kernel_rfl⟩

set_option maxRecDepth 100000 in
theorem lifted (os : Os) (started : os.Started) (H : Type) (enc : TypeId × Value → H) (F : Stop.Interp) :
    ReturnsInHanded {} Tryd.checked os 6 .any ((OpenSpec.ofChange Rows.sealAppendsSpec).preRow enc Tryd.prog Tryd.f6 Rows.sealAppendsRow.domain false Rows.sealAppendsRow.laid) (((OpenSpec.ofChange Rows.sealAppendsSpec).at F).post enc Tryd.prog Tryd.f6 false true false false) := by
  obtain ⟨places, hx⟩ := reads os enc
  refine returnsInHanded_of_row (C := Tryd.checked) (s := OpenSpec.ofChange Rows.sealAppendsSpec) sealChecks.own started (by kernel_rfl) Tryd.func6
    (witness_row_at (enc := enc) (C := Tryd.checked) false (sealChecks.laidWorld os) args0 rfl (by kernel_rfl) (by kernel_rfl) (by kernel_rfl)
      (OpenSpec.preRow_of_cond 8 hx (by kernel_rfl) (fun k hk => by cases hk) (by kernel_rfl) (laid_met os))) ?_
  intro W base args ds gs before hval hW _ _ hwt hL _ _
  exact contract H enc W base args ds gs before hval hW hwt hL

theorem said : Rows.SealAppendsSaid :=
  OpenClaim.holds_of_cond 6 Tryd.f6 rfl rfl rfl rfl rfl rfl rfl ⟨rfl, rfl, rfl, rfl, rfl⟩ rfl rfl rfl rfl rfl (by kernel_rfl) Tryd.func6 (by kernel_rfl)
    (of_decide_eq_true (by kernel_rfl)) (by unfold Func.isWrapper; first | (rw [if_pos (by decide +kernel)]; kernel_rfl) | (rw [if_neg (by decide +kernel)]; exact ⟨rfl, rfl⟩))
    (fun os started H enc _ F => by rw [OpenClaim.pre_eq_preRow]; exact lifted os started H enc F)

theorem plain (f : FuncId) (fn : Func) (hf : Tryd.pinned.checked.prog.funcNamed "wrackline/wracklaw4.SealAppends" = some f) (hfn : Tryd.pinned.checked.prog.funcs[f]? = some fn) :
    false = Tryd.pinned.checked.prog.looks [] ∧ ∀ (j : Nat) t, fn.params[j]? = some t → Tryd.pinned.checked.prog.wantsStandIn t = false := by
  obtain rfl : f = 6 := Option.some.inj ((show Tryd.prog.funcNamed "wrackline/wracklaw4.SealAppends" = some 6 by kernel_rfl).symm.trans hf) |>.symm
  obtain rfl : fn = Tryd.f6 := (Option.some.inj (Tryd.func6.symm.trans hfn)).symm
  refine ⟨by kernel_rfl, fun j t ht => ?_⟩
  rw [Tryd.params6] at ht
  have hm := Array.mem_of_getElem? ht
  have h23 : Tryd.prog.wantsStandIn 23 = false := by kernel_rfl
  simp at hm
  subst hm
  exact h23

/-- THE CARD. -/
theorem card : Rows.SealAppendsCardSaid :=
  Claim7.holds_tied_plain_at .later [] _ _ _ _ said (fun _ h => by cases h) (by kernel_rfl) (fun _ h => by cases h) sealAppends_row_tie rfl ⟨rfl, rfl⟩ (by kernel_rfl) rfl plain (by kernel_rfl)
end Go.Proofs.YtcpojjjdglhhcaaDoor.sealAppends
