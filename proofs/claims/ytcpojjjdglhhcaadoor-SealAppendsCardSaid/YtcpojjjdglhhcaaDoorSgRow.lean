/-
  SEALCHECKS' ROW AND CARD: for every list of entries, every sum and every entry the law returns true, and the arguments read as before; no condition (own work).
-/
import Derived.Test.YtcpojjjdglhhcaaDoorSgS
import Derived.Test.YtcpojjjdglhhcaaDoorSgW
import Derived.Test.YtcpojjjdglhhcaaDoorEv24
import Derived.Test.YtcpojjjdglhhcaaDoorCards
import Derived.Test.YtcpojjjdglhhcaaDoorTie
import Derived.WalkKit
import Derived.ProofKit
import Derived.OpenShut
import Derived.Deep.DeepHandedRow
import Derived.Lib.LaidTab
set_option linter.unusedVariables false
set_option linter.unusedSimpArgs false
namespace Go.Proofs.YtcpojjjdglhhcaaDoor.sealChecks
open Go.ChangeShapes Go.WideShapes Go.ChangeAt Go.RowKit Go.Ev

theorem own : ownKnob Tryd.prog.godebug = none := by kernel_rfl
theorem g0 : Tryd.prog.globalNamed "internal/strconv.uint64pow10" = some 0 := by kernel_rfl
theorem g2 : Tryd.prog.globalNamed "math/bits.deBruijn32tab" = some 2 := by kernel_rfl
theorem g3 : Tryd.prog.globalNamed "math/bits.deBruijn64tab" = some 3 := by kernel_rfl
theorem t0 : (Tryd.prog.globals[0]?).map (·.type) = some 84 := by kernel_rfl
theorem t2 : (Tryd.prog.globals[2]?).map (·.type) = some 93 := by kernel_rfl
theorem t3 : (Tryd.prog.globals[3]?).map (·.type) = some 94 := by kernel_rfl
theorem cells84 : Tryd.prog.cellsOf 84 = 20 := by kernel_rfl
theorem cells93 : Tryd.prog.cellsOf 93 = 32 := by kernel_rfl
theorem cells94 : Tryd.prog.cellsOf 94 = 64 := by kernel_rfl
theorem cells25 : Tryd.prog.cellsOf 25 = 1 := by kernel_rfl
theorem cells5 : Tryd.prog.cellsOf 5 = 1 := by kernel_rfl
theorem cells3 : Tryd.prog.cellsOf 3 = 1 := by kernel_rfl

theorem laid_tail {P : Program} {x : String × DataW Unit} {rest : List (String × DataW Unit)} {W : World} (h : laidMet P (x :: rest) W) : laidMet P rest W := by
  obtain ⟨n, d⟩ := x
  obtain ⟨ps, ⟨g', t', cs, fuel, p, q, h1, h2, h3, h4, h5, rfl⟩, hn, hc⟩ := h
  exact ⟨q, h5, (List.nodup_append.1 hn).2.1, fun b off hb => hc b off (List.mem_append_right _ hb)⟩

theorem rep_tab {W : World} {name : String} {k : IntKind} {zs : List Int} {g : Nat} (h : Lib.TabIs Tryd.prog W name k zs) (hg : Tryd.prog.globalNamed name = some g) (hz : 0 < zs.length) :
    Rep W W.heap.size emp (.ro (zs.map (V.int k))) (.pointer (some ⟨g, 0, none⟩)) ∧ g < W.heap.size ∧ ∃ c el fr, W.heap[g]? = some (.cells c el fr) ∧ c.size = (zs.map (V.int k)).length := by
  have hc : ∀ j, j < zs.length → W.cell? ⟨g, j, none⟩ = some (.int k (zs.getD j 0)) := fun j hj => h.cell hg j hj
  have hlt : g < W.heap.size := cell_lt (hc 0 hz)
  refine ⟨?_, hlt, ?_⟩
  rotate_left
  · have h' : W.var? Tryd.prog name = some (zs.map fun z => Value.int k z).toArray := h
    unfold World.var? at h'
    rw [hg] at h'
    simp only [Option.bind_some] at h'
    split at h'
    · rename_i cs el fr hob
      cases h'
      exact ⟨_, el, fr, hob, by simp⟩
    · cases h'
  refine .ro _ _ g 0 (fun j => .int k (zs.getD j 0)) (fun j hj => ?_) (fun j hj => rfl) (fun j hj => ?_)
  · rw [kcell_old hlt, Nat.zero_add]; exact hc j (by simpa using hj)
  · have hj' : j < zs.length := by simpa using hj
    simp only [List.getElem_map, List.getD_eq_getElem?_getD, List.getElem?_eq_getElem hj', Option.getD_some]
    exact .int _ _ _

theorem globOk {W : World} (h : laidMetH Tryd.prog Rows.sealChecksRow.laid W) : GlobMem Tryd.Γ W W.heap.size := by
  have h' : laidMet Tryd.prog Rows.sealChecksRow.laid W := h
  have a2 := Lib.tabIs_of_head (k := .u8) (zs := [0,1,28,2,29,14,24,3,30,22,20,15,25,17,4,8,31,27,13,23,21,19,16,7,26,12,18,6,11,5,10,9]) g2 t2 Tryd.underlying93 Tryd.underlying5 cells5 cells93 h'
  have a3 := Lib.tabIs_of_head (k := .u8) (zs := [0,1,56,2,57,49,28,3,61,58,42,50,38,29,17,4,62,47,59,36,45,43,51,22,53,39,33,30,24,18,12,5,63,55,48,27,60,41,37,16,46,35,44,21,52,32,23,11,54,26,40,15,34,20,31,10,25,14,19,9,13,8,7,6]) g3 t3 Tryd.underlying94 Tryd.underlying5 cells5 cells94 (laid_tail h')
  have a0 := Lib.tabIs_of_head (k := .u64) (zs := (List.range 20).map fun i => (10 : Int) ^ i) g0 t0 Tryd.underlying84 Tryd.underlying25 cells25 cells84 (laid_tail (laid_tail h'))
  intro g cs hg
  simp only [Tryd.Γ, Tryd.globs] at hg
  split at hg
  · rename_i e; subst e; cases hg
    have := rep_tab a0 g0 (by simp)
    rw [List.map_map] at this
    exact this
  · split at hg
    · rename_i e; subst e; cases hg; exact rep_tab a2 g2 (by simp)
    · split at hg
      · rename_i e; subst e; cases hg; exact rep_tab a3 g3 (by simp)
      · cases hg

theorem walk (W : World) (l : List Tryd.Entry) (z : Bool) (hl : Tryd.okL l) (v0 : Value) (before : Int) (hb : Tryd.u64 before) (x : Tryd.Entry) (hx : Tryd.okE x) (v2 : Value) (hr : Rep W W.heap.size emp (roV z l.length (flatE Tryd.entryE l)) v0)
    (hr2 : Rep W W.heap.size emp (.agg (Tryd.entryE.f x)) v2) (hL : laidMetH Tryd.prog Rows.sealChecksRow.laid W) :
    Calls Tryd.prog 5 #[v0, .int .u64 before, v2] W fun e W' => e = .returned (.bool true) ∧ Below W.heap.size W W' := by
  have hrep : RepL W W.heap.size emp [roV z l.length (flatE Tryd.entryE l), .int .u64 before, .agg (Tryd.entryE.f x)] [v0, .int .u64 before, v2] := RepL.cons hr (RepL.cons (.int _ _ _) (RepL.cons hr2 (RepL.nil _ _ _)))
  refine law_calls Tryd.orcOk (by kernel_rfl) (globOk hL) hrep ⟨1100 + Tryd.szL l + Tryd.szE x + 1, ?_⟩ (G := [])
  exact Tryd.law5_ok l z hl before hb x hx (k := 1100 + Tryd.szL l + Tryd.szE x) (by omega)

/-! ### The arguments opened -/
def entryD (H : Type) (x : Tryd.Entry) : DataW H := .agg [.lit (.int .i64 x.kind), .lit (.string x.who.data.toList), .lit (.string x.to.data.toList), .lit (.int .i64 x.time), .lit (.int .u64 x.root), .lit (.int .u64 x.sum)]
structure wfE (x : Tryd.Entry) : Prop where
  kind : i64 x.kind
  time : i64 x.time
  root : Tryd.u64 x.root
  sum : Tryd.u64 x.sum
theorem wf_in {z : Int} (h : (Lit.int .i64 z).wf = true) : i64 z := by
  simp only [Lit.wf, Bool.and_eq_true, decide_eq_true_eq] at h
  exact ⟨h.1, h.2⟩
theorem wf_un {z : Int} (h : (Lit.int .u64 z).wf = true) : Tryd.u64 z := by
  simp only [Lit.wf, Bool.and_eq_true, decide_eq_true_eq] at h
  have h1 : IntKind.u64.min = 0 := rfl
  have h2 : IntKind.u64.max = 18446744073709551615 := rfl
  rw [h1, h2] at h
  exact ⟨h.1, by omega⟩
theorem cells38 : Tryd.prog.cellsOf 38 = 6 := by kernel_rfl
theorem cells9 : Tryd.prog.cellsOf 9 = 1 := by kernel_rfl
instance : Inhabited Tryd.Entry := ⟨⟨0, ByteArray.empty, ByteArray.empty, 0, 0, 0⟩⟩

theorem opn_entry {H : Type} {enc : TypeId × Value → H} {W : World} {held : Bool} (n : Nat) : Opn enc Tryd.prog W held n 38 (fun d vs => ∃ x, (d = entryD H x ∧ wfE x) ∧ vs = Tryd.entryE.f x) := by
  intro cs d ps h
  obtain ⟨xs, m, _, h2, hl, hlen, hf⟩ := DataW.trod_struct Tryd.underlying38 h
  rw [cells38] at hl
  match cs, hl with
  | [c0, c1, c2, c3, c4, c5], _ =>
    match xs, hlen with
    | [x0, x1, x2, x3, x4, x5], _ =>
      have f0 := hf 0 _ rfl
      have f1 := hf 1 _ rfl
      have f2 := hf 2 _ rfl
      have f3 := hf 3 _ rfl
      have f4 := hf 4 _ rfl
      have f5 := hf 5 _ rfl
      simp only [cells3, cells9, cells25, List.drop_zero, List.drop_succ_cons, List.take_succ_cons, List.take_zero, List.getElem?_cons_zero, List.getElem?_cons_succ] at f0 f1 f2 f3 f4 f5
      obtain ⟨d0, p0⟩ := x0
      obtain ⟨d1, p1⟩ := x1
      obtain ⟨d2, p2⟩ := x2
      obtain ⟨d3, p3⟩ := x3
      obtain ⟨d4, p4⟩ := x4
      obtain ⟨d5, p5⟩ := x5
      obtain ⟨z0, w0, rfl, e0⟩ := trod_int Tryd.underlying3 f0
      obtain ⟨s1, rfl, e1⟩ := trod_str Tryd.underlying9 f1
      obtain ⟨s2, rfl, e2⟩ := trod_str Tryd.underlying9 f2
      obtain ⟨z3, w3, rfl, e3⟩ := trod_int Tryd.underlying3 f3
      obtain ⟨z4, w4, rfl, e4⟩ := trod_int Tryd.underlying25 f4
      obtain ⟨z5, w5, rfl, e5⟩ := trod_int Tryd.underlying25 f5
      cases e0; cases e1; cases e2; cases e3; cases e4; cases e5
      cases h2
      refine ⟨_, ⟨⟨z0, s1, s2, z3, z4, z5⟩, ⟨rfl, ⟨wf_in w0, wf_in w3, wf_un w4, wf_un w5⟩⟩, rfl⟩, ?_, ?_⟩
      · exact RepL.cons (.int _ _ _) (RepL.cons (.str _ _) (RepL.cons (.str _ _) (RepL.cons (.int _ _ _) (RepL.cons (.int _ _ _) (RepL.cons (.int _ _ _) (RepL.nil _ _ _))))))
      · intro v hv
        simp at hv
        rcases hv with h | h | h | h | h | h <;> subst h <;> rfl

theorem okE_of {H : Type} {x : Tryd.Entry} (hw : wfE x) (h : ((entryD H x).weights Tryd.prog 38).all (· ≤ reachBytes) = true) : Tryd.okE x := by
  have e : (entryD H x).weights Tryd.prog 38 = [x.who.data.toList.length, x.to.data.toList.length] := by
    simp [entryD, DataW.weights, DataW.weightsEach, Tryd.underlying38]
  rw [e] at h
  have h' := List.all_eq_true.1 h
  have a1 := of_decide_eq_true (h' x.who.data.toList.length (by simp))
  have a2 := of_decide_eq_true (h' x.to.data.toList.length (by simp))
  rw [Array.length_toList] at a1 a2
  exact ⟨hw.kind, hw.time, hw.root, hw.sum, a1, a2⟩
theorem weightsAll_mem {H : Type} {P : Program} {e : TypeId} : ∀ {ds : List (DataW H)} {d : DataW H} {n : Nat}, d ∈ ds → n ∈ d.weights P e → n ∈ DataW.weightsAll P e ds
  | d' :: ds, d, n, hd, hn => by
    rw [DataW.weightsAll]
    cases hd with
    | head => exact List.mem_append_left _ hn
    | tail _ hd => exact List.mem_append_right _ (weightsAll_mem hd hn)

theorem laidOut : laidOutB Tryd.prog = true := by kernel_rfl
theorem hrec : ∀ t ∈ Tryd.f5.params.toList, Tryd.prog.readableRec t = true ∧ t < Tryd.prog.types.size := by
  rw [Tryd.params5]
  intro t ht
  have h23 : Tryd.prog.readableRec 23 = true ∧ 23 < Tryd.prog.types.size := ⟨by kernel_rfl, by decide +kernel⟩
  have h25 : Tryd.prog.readableRec 25 = true ∧ 25 < Tryd.prog.types.size := ⟨by kernel_rfl, by decide +kernel⟩
  have h38 : Tryd.prog.readableRec 38 = true ∧ 38 < Tryd.prog.types.size := ⟨by kernel_rfl, by decide +kernel⟩
  simp at ht
  rcases ht with rfl | rfl | rfl
  · exact h23
  · exact h25
  · exact h38

/-- WHAT THE WALK GIVES, FOR EVERY ARGUMENT AND EVERY WORLD THAT HOLDS THE TABLES. -/
theorem contract (H : Type) (enc : TypeId × Value → H) (W : World) (base : Nat) (args : Array Value) (ds gs : List (DataW H)) (before : List MemPlace)
    (hval : ∀ (j : Nat) t v, Tryd.f5.params[j]? = some t → args[j]? = some v → Value.okWide Tryd.prog W .any base t v)
    (hW : DataW.Whole enc Tryd.prog Tryd.f5.params.toList Rows.sealChecksSpec.vars false W args.toList ds gs before)
    (hwt : (DataW.weightsEach Tryd.prog (Tryd.f5.params.toList ++ (OpenSpec.ofChange Rows.sealChecksSpec).bare.plain.varTypes Tryd.prog) (ds ++ gs)).all (· ≤ reachBytes) = true) (hL : laidMetH Tryd.prog Rows.sealChecksRow.laid W) :
    Calls Tryd.prog 5 args W fun e W' => ∃ v, e = .returned v ∧ Rows.sealChecksSpec.post enc Tryd.prog Tryd.f5 false true false false W args v W' := by
  have hW' := hW
  obtain ⟨p, q, hA0, hV, rfl, hfz, hnd⟩ := hW
  have hA : DataW.TrodAll enc Tryd.prog W 0 (fun _ => true) true Tryd.f5.params.toList args.toList ds p := hA0
  rw [Tryd.params5] at hA hval hwt
  obtain ⟨v0, vs0, d0, ds0, p0, q0, hargs, rfl, rfl, h0, r0⟩ := trodAll_cons hA
  obtain ⟨v1, vs1, d1, ds1, p1, q1, rfl, rfl, rfl, h1, r1⟩ := trodAll_cons r0
  obtain ⟨v2, vs2, d2, ds2, p2, q2, rfl, rfl, rfl, h2, r2⟩ := trodAll_cons r1
  obtain ⟨rfl, rfl, rfl⟩ := trodAll_nil r2
  obtain rfl : args = #[v0, v1, v2] := by cases args; simp_all
  obtain ⟨rfl, rfl⟩ := trodVars_none hV
  obtain ⟨a0, len0, cap0, rfl⟩ := okWide_slice Tryd.underlying23 (hval 0 23 v0 rfl rfl)
  obtain ⟨n0, h0⟩ := h0
  obtain ⟨vs, ⟨z, l, _, rfl, hG⟩, hok⟩ := opn_slice (α := Tryd.Entry) Tryd.entryE (by decide) Tryd.underlying23 cells38 (fun n => opn_entry n) _ _ _ h0
  have hr : Rep W W.heap.size emp (roV z l.length (flatE Tryd.entryE l)) (.slice a0 len0 cap0) := hok.1.head
  obtain ⟨z1, rfl, rfl, rfl, hwf1⟩ := open_int Tryd.underlying25 (hval 1 25 v1 rfl rfl) h1
  obtain ⟨n2, h2⟩ := h2
  obtain ⟨vs2, ⟨x, ⟨rfl, hwx⟩, rfl⟩, hok2⟩ := opn_entry n2 _ _ _ h2
  have hagg : ∃ cs, v2 = .agg cs := by
    have hlen := hok2.1.1
    cases v2 <;> first | (exact ⟨_, rfl⟩) | (simp [Value.cells, Tryd.entryE_f] at hlen)
  obtain ⟨cs2, rfl⟩ := hagg
  have hr2 : Rep W W.heap.size emp (.agg (Tryd.entryE.f x)) (.agg cs2) := by
    obtain ⟨cs2⟩ := cs2
    exact .agg _ _ _ hok2.1.1 hok2.2 hok2.1.2
  simp only [List.cons_append, List.nil_append, DataW.weightsEach, List.all_append, Bool.and_eq_true] at hwt
  have hx : Tryd.okE x := okE_of hwx hwt.2.2.1
  have hl : Tryd.okL l := fun y hy => by
    obtain ⟨D, sp, d', hd, hm, rfl, hwy⟩ := hG y hy
    refine okE_of (H := H) hwy ?_
    have hw0 := hwt.1
    rw [hd] at hw0
    simp only [DataW.weights, Tryd.underlying23, List.all_cons, List.all_append, Bool.and_eq_true] at hw0
    rw [List.all_eq_true]
    intro n hn
    exact List.all_eq_true.1 hw0.2.1 n (weightsAll_mem hm hn)
  refine (walk W l z hl _ z1 (wf_un hwf1) x hx _ hr hr2 hL).mono fun e W' ⟨he, hbe⟩ => ?_
  subst he
  refine ⟨_, rfl, ?_⟩
  exact law_post (s := Rows.sealChecksSpec) laidOut hrec rfl Tryd.underlying4 rfl hW' hbe rfl

/-- A WORLD FOR THE WITNESS. -/
def lay (cs : Array Value) : Obj → Obj
  | .cells _ t frozen => .cells cs t frozen
  | o => o
def tab0 : Array Value := ((List.range 20).map fun i => Value.int .u64 ((10 : Int) ^ i)).toArray
def tab2 : Array Value := (([0,1,28,2,29,14,24,3,30,22,20,15,25,17,4,8,31,27,13,23,21,19,16,7,26,12,18,6,11,5,10,9] : List Int).map (Value.int .u8)).toArray
def tab3 : Array Value := (([0,1,56,2,57,49,28,3,61,58,42,50,38,29,17,4,62,47,59,36,45,43,51,22,53,39,33,30,24,18,12,5,63,55,48,27,60,41,37,16,46,35,44,21,52,32,23,11,54,26,40,15,34,20,31,10,25,14,19,9,13,8,7,6] : List Int).map (Value.int .u8)).toArray
noncomputable def laidHeap (h : Array Obj) : Array Obj := ((h.modify 0 (lay tab0)).modify 2 (lay tab2)).modify 3 (lay tab3)
noncomputable def laidWorld (os : Os) : World :=
  { World.holding Tryd.prog os ⟨#[], #[], []⟩ with heap := laidHeap (World.holding Tryd.prog os ⟨#[], #[], []⟩).heap }
def args0 : Array Value := #[.slice none 0 0, .int .u64 0, .agg #[.int .i64 0, .string ⟨#[]⟩, .string ⟨#[]⟩, .int .i64 0, .int .u64 0, .int .u64 0]]
theorem laid_met (os : Os) : laidMet Tryd.prog Rows.sealChecksRow.laid ((laidWorld os).forCall (fun _ _ => 0) ⟨#[], args0, []⟩).memory :=
  laidMet_of_run' 8 (by kernel_rfl) (by kernel_rfl)
theorem reads (os : Os) {H : Type} (enc : TypeId × Value → H) : ∃ places, DataW.whole enc Tryd.prog ((laidWorld os).forCall (fun _ _ => 0) ⟨#[], args0, []⟩).memory Tryd.f5.params.toList Rows.sealChecksSpec.vars false args0.toList 8 = some ([.nil, .lit (.int .u64 0), .agg [.lit (.int .i64 0), .lit (.string []), .lit (.string []), .lit (.int .i64 0), .lit (.int .u64 0), .lit (.int .u64 0)]], [], places) :=
  ⟨[], by kernel_rfl⟩

set_option maxRecDepth 100000 in
theorem lifted (os : Os) (started : os.Started) (H : Type) (enc : TypeId × Value → H) (F : Stop.Interp) :
    ReturnsInHanded {} Tryd.checked os 5 .any ((OpenSpec.ofChange Rows.sealChecksSpec).preRow enc Tryd.prog Tryd.f5 Rows.sealChecksRow.domain false Rows.sealChecksRow.laid) (((OpenSpec.ofChange Rows.sealChecksSpec).at F).post enc Tryd.prog Tryd.f5 false true false false) := by
  obtain ⟨places, hx⟩ := reads os enc
  refine returnsInHanded_of_row (C := Tryd.checked) (s := OpenSpec.ofChange Rows.sealChecksSpec) own started (by kernel_rfl) Tryd.func5
    (witness_row_at (enc := enc) (C := Tryd.checked) false (laidWorld os) args0 rfl (by kernel_rfl) (by kernel_rfl) (by kernel_rfl)
      (OpenSpec.preRow_of_cond 8 hx (by kernel_rfl) (fun k hk => by cases hk) (by kernel_rfl) (laid_met os))) ?_
  intro W base args ds gs before hval hW _ _ hwt hL _ _
  exact contract H enc W base args ds gs before hval hW hwt hL

theorem said : Rows.SealChecksSaid :=
  OpenClaim.holds_of_cond 5 Tryd.f5 rfl rfl rfl rfl rfl rfl rfl ⟨rfl, rfl, rfl, rfl, rfl⟩ rfl rfl rfl rfl rfl (by kernel_rfl) Tryd.func5 (by kernel_rfl)
    (of_decide_eq_true (by kernel_rfl)) (by unfold Func.isWrapper; first | (rw [if_pos (by decide +kernel)]; kernel_rfl) | (rw [if_neg (by decide +kernel)]; exact ⟨rfl, rfl⟩))
    (fun os started H enc _ F => by rw [OpenClaim.pre_eq_preRow]; exact lifted os started H enc F)

theorem plain (f : FuncId) (fn : Func) (hf : Tryd.pinned.checked.prog.funcNamed "wrackline/wracklaw4.SealChecks" = some f) (hfn : Tryd.pinned.checked.prog.funcs[f]? = some fn) :
    false = Tryd.pinned.checked.prog.looks [] ∧ ∀ (j : Nat) t, fn.params[j]? = some t → Tryd.pinned.checked.prog.wantsStandIn t = false := by
  obtain rfl : f = 5 := Option.some.inj ((show Tryd.prog.funcNamed "wrackline/wracklaw4.SealChecks" = some 5 by kernel_rfl).symm.trans hf) |>.symm
  obtain rfl : fn = Tryd.f5 := (Option.some.inj (Tryd.func5.symm.trans hfn)).symm
  refine ⟨by kernel_rfl, fun j t ht => ?_⟩
  rw [Tryd.params5] at ht
  have hm := Array.mem_of_getElem? ht
  have h23 : Tryd.prog.wantsStandIn 23 = false := by kernel_rfl
  have h25 : Tryd.prog.wantsStandIn 25 = false := by kernel_rfl
  have h38 : Tryd.prog.wantsStandIn 38 = false := by kernel_rfl
  simp at hm
  rcases hm with rfl | rfl | rfl
  · exact h23
  · exact h25
  · exact h38

/-- THE CARD. -/
theorem card : Rows.SealChecksCardSaid :=
  Claim7.holds_tied_plain_at .later [] _ _ _ _ said (fun _ h => by cases h) (by kernel_rfl) (fun _ h => by cases h) sealChecks_row_tie rfl ⟨rfl, rfl⟩ (by kernel_rfl) rfl plain (by kernel_rfl)
end Go.Proofs.YtcpojjjdglhhcaaDoor.sealChecks
