/-
  SEALCHAIN's ROW AND CARD: for every list of numbers and every two numbers the law returns true, and the arguments read as before; no condition (own work).
-/
import Derived.Test.YtcpojjjdglhhcaaDoorSealM
import Derived.Test.YtcpojjjdglhhcaaDoorCards
import Derived.Test.YtcpojjjdglhhcaaDoorTie
import Derived.WalkKit
import Derived.ProofKit
import Derived.OpenShut
import Derived.Deep.DeepHandedRow
import Derived.Lib.LaidTab
set_option linter.unusedVariables false
namespace Go.Proofs.YtcpojjjdglhhcaaDoor.sealChain
open Go.ChangeShapes Go.WideShapes Go.ChangeAt Go.RowKit Go.Ev

theorem own : ownKnob Tryd.prog.godebug = none := by kernel_rfl
theorem g0 : Tryd.prog.globalNamed "internal/strconv.uint64pow10" = some 0 := by kernel_rfl
theorem g2 : Tryd.prog.globalNamed "math/bits.deBruijn32tab" = some 2 := by kernel_rfl
theorem g3 : Tryd.prog.globalNamed "math/bits.deBruijn64tab" = some 3 := by kernel_rfl
theorem t0 : (Tryd.prog.globals[0]?).map (·.type) = some 84 := by kernel_rfl
theorem t2 : (Tryd.prog.globals[2]?).map (·.type) = some 93 := by kernel_rfl
theorem t3 : (Tryd.prog.globals[3]?).map (·.type) = some 94 := by kernel_rfl
theorem cells84 : Tryd.prog.cellsOf 84 = 20 := by kernel_rfl
theorem cells93 : Tryd.prog.cellsOf 93 = 32 := by kernel_rfl
theorem cells94 : Tryd.prog.cellsOf 94 = 64 := by kernel_rfl
theorem cells25 : Tryd.prog.cellsOf 25 = 1 := by kernel_rfl
theorem cells5 : Tryd.prog.cellsOf 5 = 1 := by kernel_rfl
theorem cells3 : Tryd.prog.cellsOf 3 = 1 := by kernel_rfl

theorem laid_tail {P : Program} {x : String × DataW Unit} {rest : List (String × DataW Unit)} {W : World} (h : laidMet P (x :: rest) W) : laidMet P rest W := by
  obtain ⟨n, d⟩ := x
  obtain ⟨ps, ⟨g', t', cs, fuel, p, q, h1, h2, h3, h4, h5, rfl⟩, hn, hc⟩ := h
  exact ⟨q, h5, (List.nodup_append.1 hn).2.1, fun b off hb => hc b off (List.mem_append_right _ hb)⟩

theorem rep_tab {W : World} {name : String} {k : IntKind} {zs : List Int} {g : Nat} (h : Lib.TabIs Tryd.prog W name k zs) (hg : Tryd.prog.globalNamed name = some g) (hz : 0 < zs.length) :
    Rep W W.heap.size emp (.ro (zs.map (V.int k))) (.pointer (some ⟨g, 0, none⟩)) := by
  have hc : ∀ j, j < zs.length → W.cell? ⟨g, j, none⟩ = some (.int k (zs.getD j 0)) := fun j hj => h.cell hg j hj
  refine .ro _ _ g 0 (fun j => .int k (zs.getD j 0)) ?_ (fun j hj => ?_) (fun j hj => rfl) (fun j hj => ?_)
  · have := hc 0 hz
    exact cell_lt this
  · rw [Nat.zero_add]; exact hc j (by simpa using hj)
  · have hj' : j < zs.length := by simpa using hj
    simp only [List.getElem_map, List.getD_eq_getElem?_getD, List.getElem?_eq_getElem hj', Option.getD_some]
    exact .int _ _ _

theorem globOk {W : World} (h : laidMetH Tryd.prog Rows.sealChainRow.laid W) : GlobOk Tryd.Γ W W.heap.size := by
  have h' : laidMet Tryd.prog Rows.sealChainRow.laid W := h
  have a2 := Lib.tabIs_of_head (k := .u8) (zs := [0,1,28,2,29,14,24,3,30,22,20,15,25,17,4,8,31,27,13,23,21,19,16,7,26,12,18,6,11,5,10,9]) g2 t2 Tryd.underlying93 Tryd.underlying5 cells5 cells93 h'
  have a3 := Lib.tabIs_of_head (k := .u8) (zs := [0,1,56,2,57,49,28,3,61,58,42,50,38,29,17,4,62,47,59,36,45,43,51,22,53,39,33,30,24,18,12,5,63,55,48,27,60,41,37,16,46,35,44,21,52,32,23,11,54,26,40,15,34,20,31,10,25,14,19,9,13,8,7,6]) g3 t3 Tryd.underlying94 Tryd.underlying5 cells5 cells94 (laid_tail h')
  have a0 := Lib.tabIs_of_head (k := .u64) (zs := (List.range 20).map fun i => (10 : Int) ^ i) g0 t0 Tryd.underlying84 Tryd.underlying25 cells25 cells84 (laid_tail (laid_tail h'))
  intro g cs hg
  simp only [Tryd.Γ, Tryd.globs] at hg
  split at hg
  · rename_i e; subst e; cases hg
    have := rep_tab a0 g0 (by simp)
    rw [List.map_map] at this
    exact this
  · split at hg
    · rename_i e; subst e; cases hg; exact rep_tab a2 g2 (by simp)
    · split at hg
      · rename_i e; subst e; cases hg; exact rep_tab a3 g3 (by simp)
      · cases hg

theorem flat_map (k : IntKind) (l : List Int) : flatE (intE k) l = l.map (V.int k) := by
  induction l with
  | nil => rfl
  | cons x l ih => simp [ih]

theorem walk (W : World) (b : Bool) (l : List Int) (hb : b = true → l = []) (v0 : Value) (z1 z2 : Int) (hr : Rep W W.heap.size emp (intsV .i64 b l) v0) (hL : laidMetH Tryd.prog Rows.sealChainRow.laid W) :
    Calls Tryd.prog 3 #[v0, .int .i64 z1, .int .i64 z2] W fun e W' => e = .returned (.bool true) ∧ Below W.heap.size W W' := by
  have hrep : RepL W W.heap.size emp [intsV .i64 b l, .int .i64 z1, .int .i64 z2] [v0, .int .i64 z1, .int .i64 z2] := RepL.cons hr (RepL.cons (.int _ _ _) (RepL.cons (.int _ _ _) (RepL.nil _ _ _)))
  refine law_calls (orc_none rfl) (by kernel_rfl) (globOk hL) hrep ⟨1001, ?_⟩ (G := [])
  have := Tryd.law_ok l b z1 z2 (k := 1000) (by omega)
  rw [flat_map] at this
  cases b with
  | true =>
    have hl := hb rfl
    subst hl
    exact this
  | false => rw [roV_false] at this; exact this

theorem laidOut : laidOutB Tryd.prog = true := by kernel_rfl
theorem hrec : ∀ t ∈ Tryd.f3.params.toList, Tryd.prog.readableRec t = true ∧ t < Tryd.prog.types.size := by
  rw [Tryd.params3]
  intro t ht
  have h22 : Tryd.prog.readableRec 22 = true ∧ 22 < Tryd.prog.types.size := ⟨by kernel_rfl, by decide +kernel⟩
  have h3 : Tryd.prog.readableRec 3 = true ∧ 3 < Tryd.prog.types.size := ⟨by kernel_rfl, by decide +kernel⟩
  simp at ht
  rcases ht with rfl | rfl
  · exact h22
  · exact h3

/-- WHAT THE WALK GIVES, FOR EVERY ARGUMENT AND EVERY WORLD THAT HOLDS THE TABLES. -/
theorem contract (H : Type) (enc : TypeId × Value → H) (W : World) (base : Nat) (args : Array Value) (ds gs : List (DataW H)) (before : List MemPlace)
    (hval : ∀ (j : Nat) t v, Tryd.f3.params[j]? = some t → args[j]? = some v → Value.okWide Tryd.prog W .any base t v)
    (hW : DataW.Whole enc Tryd.prog Tryd.f3.params.toList Rows.sealChainSpec.vars false W args.toList ds gs before) (hL : laidMetH Tryd.prog Rows.sealChainRow.laid W) :
    Calls Tryd.prog 3 args W fun e W' => ∃ v, e = .returned v ∧ Rows.sealChainSpec.post enc Tryd.prog Tryd.f3 false true false false W args v W' := by
  have hW' := hW
  obtain ⟨p, q, hA0, hV, rfl, hfz, hnd⟩ := hW
  have hA : DataW.TrodAll enc Tryd.prog W 0 (fun _ => true) true Tryd.f3.params.toList args.toList ds p := hA0
  rw [Tryd.params3] at hA hval
  obtain ⟨v0, vs0, d0, ds0, p0, q0, hargs, rfl, rfl, h0, r0⟩ := trodAll_cons hA
  obtain ⟨v1, vs1, d1, ds1, p1, q1, rfl, rfl, rfl, h1, r1⟩ := trodAll_cons r0
  obtain ⟨v2, vs2, d2, ds2, p2, q2, rfl, rfl, rfl, h2, r2⟩ := trodAll_cons r1
  obtain ⟨rfl, rfl, rfl⟩ := trodAll_nil r2
  obtain rfl : args = #[v0, v1, v2] := by cases args; simp_all
  obtain ⟨rfl, rfl⟩ := trodVars_none hV
  obtain ⟨b, l, _, _, hb, hr⟩ := open_ints Tryd.underlying22 Tryd.underlying3 cells3 h0 (hval 0 22 v0 rfl rfl)
  obtain ⟨z1, rfl, rfl, rfl, _⟩ := open_int Tryd.underlying3 (hval 1 3 v1 rfl rfl) h1
  obtain ⟨z2, rfl, rfl, rfl, _⟩ := open_int Tryd.underlying3 (hval 2 3 v2 rfl rfl) h2
  refine (walk W b l hb v0 z1 z2 hr hL).mono fun e W' ⟨he, hbe⟩ => ?_
  subst he
  refine ⟨_, rfl, ?_⟩
  exact law_post (s := Rows.sealChainSpec) laidOut hrec rfl Tryd.underlying4 rfl hW' hbe rfl

/-- A WORLD FOR THE WITNESS. -/
def lay (cs : Array Value) : Obj → Obj
  | .cells _ t frozen => .cells cs t frozen
  | o => o
def tab0 : Array Value := ((List.range 20).map fun i => Value.int .u64 ((10 : Int) ^ i)).toArray
def tab2 : Array Value := (([0,1,28,2,29,14,24,3,30,22,20,15,25,17,4,8,31,27,13,23,21,19,16,7,26,12,18,6,11,5,10,9] : List Int).map (Value.int .u8)).toArray
def tab3 : Array Value := (([0,1,56,2,57,49,28,3,61,58,42,50,38,29,17,4,62,47,59,36,45,43,51,22,53,39,33,30,24,18,12,5,63,55,48,27,60,41,37,16,46,35,44,21,52,32,23,11,54,26,40,15,34,20,31,10,25,14,19,9,13,8,7,6] : List Int).map (Value.int .u8)).toArray
noncomputable def laidHeap (h : Array Obj) : Array Obj := ((h.modify 0 (lay tab0)).modify 2 (lay tab2)).modify 3 (lay tab3)
noncomputable def laidWorld (os : Os) : World :=
  { World.holding Tryd.prog os ⟨#[], #[], []⟩ with heap := laidHeap (World.holding Tryd.prog os ⟨#[], #[], []⟩).heap }
def args0 : Array Value := #[.slice none 0 0, .int .i64 0, .int .i64 0]
theorem laid_met (os : Os) : laidMet Tryd.prog Rows.sealChainRow.laid ((laidWorld os).forCall (fun _ _ => 0) ⟨#[], args0, []⟩).memory :=
  laidMet_of_run' 8 (by kernel_rfl) (by kernel_rfl)
theorem reads (os : Os) {H : Type} (enc : TypeId × Value → H) : ∃ places, DataW.whole enc Tryd.prog ((laidWorld os).forCall (fun _ _ => 0) ⟨#[], args0, []⟩).memory Tryd.f3.params.toList Rows.sealChainSpec.vars false args0.toList 8 = some ([.nil, .lit (.int .i64 0), .lit (.int .i64 0)], [], places) :=
  ⟨[], by kernel_rfl⟩

set_option maxRecDepth 100000 in
theorem lifted (os : Os) (started : os.Started) (H : Type) (enc : TypeId × Value → H) (F : Stop.Interp) :
    ReturnsInHanded {} Tryd.checked os 3 .any ((OpenSpec.ofChange Rows.sealChainSpec).preRow enc Tryd.prog Tryd.f3 Rows.sealChainRow.domain false Rows.sealChainRow.laid) (((OpenSpec.ofChange Rows.sealChainSpec).at F).post enc Tryd.prog Tryd.f3 false true false false) := by
  obtain ⟨places, hx⟩ := reads os enc
  refine returnsInHanded_of_row (C := Tryd.checked) (s := OpenSpec.ofChange Rows.sealChainSpec) own started (by kernel_rfl) Tryd.func3
    (witness_row_at (enc := enc) (C := Tryd.checked) false (laidWorld os) args0 rfl (by kernel_rfl) (by kernel_rfl) (by kernel_rfl)
      (OpenSpec.preRow_of_cond 8 hx (by kernel_rfl) (fun k hk => by cases hk) (by kernel_rfl) (laid_met os))) ?_
  intro W base args ds gs before hval hW _ _ _ hL _ _
  exact contract H enc W base args ds gs before hval hW hL

theorem said : Rows.SealChainSaid :=
  OpenClaim.holds_of_cond 3 Tryd.f3 rfl rfl rfl rfl rfl rfl rfl ⟨rfl, rfl, rfl, rfl, rfl⟩ rfl rfl rfl rfl rfl (by kernel_rfl) Tryd.func3 (by kernel_rfl)
    (of_decide_eq_true (by kernel_rfl)) (by unfold Func.isWrapper; first | (rw [if_pos (by decide +kernel)]; kernel_rfl) | (rw [if_neg (by decide +kernel)]; exact ⟨rfl, rfl⟩))
    (fun os started H enc _ F => by rw [OpenClaim.pre_eq_preRow]; exact lifted os started H enc F)

theorem plain (f : FuncId) (fn : Func) (hf : Tryd.pinned.checked.prog.funcNamed "wrackline/wrackkeep4.SealChain" = some f) (hfn : Tryd.pinned.checked.prog.funcs[f]? = some fn) :
    false = Tryd.pinned.checked.prog.looks [] ∧ ∀ (j : Nat) t, fn.params[j]? = some t → Tryd.pinned.checked.prog.wantsStandIn t = false := by
  obtain rfl : f = 3 := Option.some.inj ((show Tryd.prog.funcNamed "wrackline/wrackkeep4.SealChain" = some 3 by kernel_rfl).symm.trans hf) |>.symm
  obtain rfl : fn = Tryd.f3 := (Option.some.inj (Tryd.func3.symm.trans hfn)).symm
  refine ⟨by kernel_rfl, fun j t ht => ?_⟩
  rw [Tryd.params3] at ht
  have hm := Array.mem_of_getElem? ht
  have h22 : Tryd.prog.wantsStandIn 22 = false := by kernel_rfl
  have h3 : Tryd.prog.wantsStandIn 3 = false := by kernel_rfl
  simp at hm
  rcases hm with rfl | rfl
  · exact h22
  · exact h3

/-- THE CARD. -/
theorem card : Rows.SealChainCardSaid :=
  Claim7.holds_tied_plain_at .later [] _ _ _ _ said (fun _ h => by cases h) (by kernel_rfl) (fun _ h => by cases h) sealChain_row_tie rfl ⟨rfl, rfl⟩ (by kernel_rfl) rfl plain (by kernel_rfl)
end Go.Proofs.YtcpojjjdglhhcaaDoor.sealChain
