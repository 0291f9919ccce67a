/-
  ASKCHECKS'S ROW AND CARD, the second form: for all arguments of bulk at most 1048576 the law returns true, and they read as before (own work).
-/
import Derived.Test.YtmcakfjbefelgaaDoorAkM
import Derived.Test.YtmcakfjbefelgaaDoorAkW
import Derived.Test.YtmcakfjbefelgaaDoorEvL
import Derived.Test.YtmcakfjbefelgaaDoorCards
import Derived.Test.YtmcakfjbefelgaaDoorTie
import Derived.WalkKit
import Derived.ProofKit
import Derived.OpenShut
import Derived.Deep.DeepHandedRow
import Derived.Lib.LaidTab
set_option linter.unusedVariables false
set_option maxRecDepth 100000
set_option maxHeartbeats 4000000
namespace Go.Proofs.YtmcakfjbefelgaaDoor.askChecks
open Go.ChangeShapes Go.WideShapes Go.ChangeAt Go.RowKit Go.Ev

theorem own : ownKnob Tryd.prog.godebug = none := by kernel_rfl
theorem globOk {W : World} : GlobMem Tryd.Γ W W.heap.size := fun g cs hg => by cases hg
theorem laidOut : laidOutB Tryd.prog = true := by kernel_rfl
theorem cells27 : Tryd.prog.cellsOf 27 = 5 := by kernel_rfl
theorem cells59 : Tryd.prog.cellsOf 59 = 3 := by kernel_rfl
theorem hrec : ∀ t ∈ Tryd.f3.params.toList, Tryd.prog.readableRec t = true ∧ t < Tryd.prog.types.size := by
  rw [Tryd.params3]
  intro t ht
  have h25 : Tryd.prog.readableRec 25 = true ∧ 25 < Tryd.prog.types.size := ⟨by kernel_rfl, by decide +kernel⟩
  simp at ht
  subst ht
  exact h25

/-! ### The argument opened -/
mutual
/-- The datum of a condition. -/
def relC {H : Type} : Tryd.Cond → DataW H → Prop
  | .mk o s l h z ks, d => ∃ dk, d = .agg [.lit (.int .i64 o), .lit (.string s.data.toList), .lit (.int .i64 l), .lit (.int .i64 h), dk] ∧ ((z = true ∧ ks = [] ∧ dk = .nil) ∨ (z = false ∧ ∃ D sp, dk = .slice D sp ∧ relCs ks D))
def relCs {H : Type} : List Tryd.Cond → List (DataW H) → Prop
  | [], D => D = []
  | c :: l, D => ∃ d D', D = d :: D' ∧ relC c d ∧ relCs l D'
end
theorem relCs_of {H : Type} : ∀ (l : List Tryd.Cond) (D : List (DataW H)), D.length = l.length → (∀ (i : Nat) (h : i < l.length) (h' : i < D.length), relC l[i] D[i]) → relCs l D
  | [], D, h, _ => by rw [relCs]; exact List.length_eq_zero_iff.1 (by simpa using h)
  | c :: l, [], h, _ => by simp at h
  | c :: l, d :: D, h, hx => by
    rw [relCs]
    refine ⟨d, D, rfl, hx 0 (by simp) (by simp), relCs_of l D (by simpa using h) fun i h1 h2 => ?_⟩
    have := hx (i + 1) (by simpa using h1) (by simpa using h2)
    simpa using this
theorem bulk_both {H : Type} : ∀ n : Nat, (∀ (c : Tryd.Cond) (d : DataW H), Tryd.wt c ≤ n → relC c d → Tryd.wt c + 1 ≤ Rows.uptoBulk d) ∧ (∀ (l : List Tryd.Cond) (D : List (DataW H)), Tryd.wts l ≤ n → relCs l D → Tryd.wts l ≤ Rows.uptoBulkAll D) := by
  intro n
  induction n with
  | zero =>
    refine ⟨fun c d h => ?_, fun l D h hr => ?_⟩
    · have := Tryd.wt_eq c; omega
    · cases l with
      | nil => simp [Tryd.wts]
      | cons c l => simp only [Tryd.wts] at h; omega
  | succ n ih =>
    have hc : ∀ (c : Tryd.Cond) (d : DataW H), Tryd.wt c ≤ n + 1 → relC c d → Tryd.wt c + 1 ≤ Rows.uptoBulk d := fun c d h hr => by
      cases c with
      | mk o s l h' z ks =>
        rw [relC] at hr
        obtain ⟨dk, rfl, hk⟩ := hr
        have hw := Tryd.wt_eq (.mk o s l h' z ks)
        have hks : (Tryd.Cond.mk o s l h' z ks).kids = ks := rfl
        have hs : (Tryd.Cond.mk o s l h' z ks).s = s := rfl
        rw [hks, hs] at hw
        have hsl : s.data.toList.length = s.size := rfl
        simp only [Rows.uptoBulk, Rows.uptoBulkAll, hsl]
        rcases hk with ⟨rfl, rfl, rfl⟩ | ⟨rfl, D, sp, rfl, hD⟩
        · simp only [Rows.uptoBulk]
          have : Tryd.wts [] = 0 := rfl
          omega
        · simp only [Rows.uptoBulk]
          have := ih.2 ks D (by omega) hD
          omega
    refine ⟨hc, fun l D h hr => ?_⟩
    cases l with
    | nil => simp [Tryd.wts]
    | cons c l =>
      rw [relCs] at hr
      obtain ⟨d, D', rfl, h1, h2⟩ := hr
      simp only [Tryd.wts] at h ⊢
      have a := ih.1 c d (by omega) h1
      have b := ih.2 l D' (by omega) h2
      simp only [Rows.uptoBulkAll]
      omega
theorem bulk_vars {H : Type} {l : List Tryd.Cond} {D : List (DataW H)} (h : relCs l D) : Tryd.wts l ≤ Rows.uptoBulkAll D := (bulk_both (Tryd.wts l)).2 l D (Nat.le_refl _) h
theorem one_le {H : Type} (d : DataW H) : 1 ≤ Rows.uptoBulk d := by
  cases d with
  | lit l => cases l <;> simp [Rows.uptoBulk]
  | nil => simp [Rows.uptoBulk]
  | ptr d => simp [Rows.uptoBulk]
  | slice elems spare => simp [Rows.uptoBulk]
  | agg parts => simp [Rows.uptoBulk]
  | iface t d => simp [Rows.uptoBulk]
  | map entries => simp [Rows.uptoBulk]
  | held h => simp [Rows.uptoBulk]
theorem length_le {H : Type} (l : List (DataW H)) : l.length ≤ Rows.uptoBulkAll l := by
  induction l with
  | nil => simp [Rows.uptoBulkAll]
  | cons x r ih => have := one_le x; simp only [Rows.uptoBulkAll, List.length_cons]; omega
section
variable {H : Type} {enc : TypeId × Value → H} {W : World} {held : Bool}
theorem opn_i64 (n : Nat) : Opn enc Tryd.prog W held n 3 (fun d vs => ∃ z, d = .lit (.int .i64 z) ∧ vs = [V.int .i64 z]) := Opn.mono' (opn_int Tryd.underlying3) fun d vs ⟨z, _, h1, h2⟩ => ⟨z, h1, h2⟩
theorem opn_string (n : Nat) : Opn enc Tryd.prog W held n 9 (fun d vs => ∃ s, d = .lit (.string s.data.toList) ∧ vs = [V.str s]) := fun cs d ps h => by
  obtain ⟨vs, h1, h2⟩ := opn_str Tryd.underlying9 cs d ps h
  exact ⟨vs, h1, h2⟩
theorem opn_conds (n : Nat) (ih : ∀ m, m < n → Opn enc Tryd.prog W held m 27 (fun d vs => ∃ c, relC c d ∧ vs = Tryd.condE.f c)) :
    Opn enc Tryd.prog W held n 22 (fun d vs => ∃ (z : Bool) (l : List Tryd.Cond), vs = [roV z l.length (flatE Tryd.condE l)] ∧ ((z = true ∧ l = [] ∧ d = .nil) ∨ (z = false ∧ ∃ D sp, d = .slice D sp ∧ relCs l D))) := by
  refine Opn.mono' (opn_sliceR (α := Tryd.Cond) Tryd.condE (by decide) Tryd.underlying22 cells27 (G := fun c d => relC c d) ih) fun d vs ⟨z, l, h1, h2, h3, h4⟩ => ⟨z, l, h2, ?_⟩
  rcases h4 with ⟨rfl, rfl⟩ | ⟨rfl, D, sp, rfl, h5, h6⟩
  · exact .inl ⟨rfl, h1 rfl, rfl⟩
  · exact .inr ⟨rfl, D, sp, rfl, relCs_of l D h5 h6⟩
theorem opn_cond : ∀ n : Nat, ∀ m, m ≤ n → Opn enc Tryd.prog W held m 27 (fun d vs => ∃ c, relC c d ∧ vs = Tryd.condE.f c) := by
  intro n
  induction n with
  | zero =>
    intro m hm cs d ps h
    obtain rfl : m = 0 := by omega
    simp [DataW.trod] at h
  | succ n ih =>
    intro m hm
    refine Opn.mono' (opn_structR (Qs := [(fun d vs => ∃ z, d = .lit (.int .i64 z) ∧ vs = [V.int .i64 z]), (fun d vs => ∃ s, d = .lit (.string s.data.toList) ∧ vs = [V.str s]), (fun d vs => ∃ z, d = .lit (.int .i64 z) ∧ vs = [V.int .i64 z]), (fun d vs => ∃ z, d = .lit (.int .i64 z) ∧ vs = [V.int .i64 z]),
        (fun d vs => ∃ (z : Bool) (l : List Tryd.Cond), vs = [roV z l.length (flatE Tryd.condE l)] ∧ ((z = true ∧ l = [] ∧ d = .nil) ∨ (z = false ∧ ∃ D sp, d = .slice D sp ∧ relCs l D)))]) Tryd.underlying27 (by kernel_rfl) (by kernel_rfl) rfl ?_) ?_
    · intro i f Q hf hQ q hq
      match i with
      | 0 => cases hf; cases hQ; exact opn_i64 q
      | 1 => cases hf; cases hQ; exact opn_string q
      | 2 => cases hf; cases hQ; exact opn_i64 q
      | 3 => cases hf; cases hQ; exact opn_i64 q
      | 4 => cases hf; cases hQ; exact opn_conds q fun r hr => ih r (by omega)
      | i + 5 => simp at hQ
    · rintro d vs ⟨ds, rfl, hp⟩
      match ds, hp with
      | [d1, d2, d3, d4, d5], hp =>
        obtain ⟨v1, v2, rfl, ⟨o, rfl, rfl⟩, w1, w2, rfl, ⟨s, rfl, rfl⟩, u1, u2, rfl, ⟨lo, rfl, rfl⟩, t1, t2, rfl, ⟨hi, rfl, rfl⟩, p1, p2, rfl, ⟨z, l, rfl, hk⟩, hw⟩ := hp
        obtain rfl : p2 = [] := hw
        refine ⟨.mk o s lo hi z l, ?_, ?_⟩
        · rw [relC]; exact ⟨_, rfl, hk⟩
        · rw [Tryd.condE_f]; rfl
theorem opn_link (n : Nat) : Opn enc Tryd.prog W held n 59 (fun d vs => ∃ x : Tryd.Link, True ∧ vs = Tryd.linkE.f x) := by
  refine Opn.mono' (opn_struct (Qs := [(fun d vs => ∃ z, d = .lit (.int .i64 z) ∧ vs = [V.int .i64 z]), (fun d vs => ∃ z, d = .lit (.int .i64 z) ∧ vs = [V.int .i64 z]), (fun d vs => ∃ z, d = .lit (.int .i64 z) ∧ vs = [V.int .i64 z])]) Tryd.underlying59 (by kernel_rfl) (by kernel_rfl) rfl ?_) ?_
  · intro i f Q hf hQ n
    match i with
    | 0 => cases hf; cases hQ; exact opn_i64 n
    | 1 => cases hf; cases hQ; exact opn_i64 n
    | 2 => cases hf; cases hQ; exact opn_i64 n
    | i + 3 => simp at hQ
  · rintro d vs ⟨ds, rfl, hp⟩
    match ds, hp with
    | [d1, d2, d3], hp =>
      obtain ⟨v1, v2, rfl, ⟨z1, rfl, rfl⟩, w1, w2, rfl, ⟨z2, rfl, rfl⟩, u1, u2, rfl, ⟨z3, rfl, rfl⟩, hw⟩ := hp
      obtain rfl : u2 = [] := hw
      exact ⟨⟨z1, z2, z3⟩, trivial, rfl⟩
/-- A question opened, with its bulk. -/
theorem opn_ask (n : Nat) : Opn enc Tryd.prog W held n 25 (fun d vs => ∃ (vq : List Tryd.Cond) (lq : List Tryd.Link) (zv zl : Bool) (most : Int), vs = [roV zv vq.length (flatE Tryd.condE vq), roV zl lq.length (flatE Tryd.linkE lq), .int .i64 most] ∧ Tryd.wts vq + lq.length ≤ Rows.uptoBulk d) := by
  refine Opn.mono' (opn_struct (Qs := [(fun d vs => ∃ (z : Bool) (l : List Tryd.Cond), vs = [roV z l.length (flatE Tryd.condE l)] ∧ ((z = true ∧ l = [] ∧ d = .nil) ∨ (z = false ∧ ∃ D sp, d = .slice D sp ∧ relCs l D))),
      (fun d vs => ∃ (z : Bool) (l : List Tryd.Link), vs = [roV z l.length (flatE Tryd.linkE l)] ∧ (l = [] ∨ ∃ D sp, d = .slice D sp ∧ l.length ≤ D.length)), (fun d vs => ∃ z, d = .lit (.int .i64 z) ∧ vs = [V.int .i64 z])]) Tryd.underlying25 (by kernel_rfl) (by kernel_rfl) rfl ?_) ?_
  · intro i f Q hf hQ n
    match i with
    | 0 => cases hf; cases hQ; exact opn_conds n fun m _ => opn_cond m m (Nat.le_refl _)
    | 1 => cases hf; cases hQ; exact Opn.mono' (opn_slice2 (α := Tryd.Link) Tryd.linkE (by decide) Tryd.underlying23 cells59 (G := fun _ _ => True) (fun n => opn_link n)) fun d vs ⟨z, l, h1, h2, h3, _, h4⟩ => ⟨z, l, h2, h4⟩
    | 2 => cases hf; cases hQ; exact opn_i64 n
    | i + 3 => simp at hQ
  · rintro d vs ⟨ds, rfl, hp⟩
    match ds, hp with
    | [d1, d2, d3], hp =>
      obtain ⟨v1, v2, rfl, ⟨zv, vq, rfl, hv⟩, w1, w2, rfl, ⟨zl, lq, rfl, hl⟩, u1, u2, rfl, ⟨most, rfl, rfl⟩, hw⟩ := hp
      obtain rfl : u2 = [] := hw
      refine ⟨vq, lq, zv, zl, most, rfl, ?_⟩
      simp only [Rows.uptoBulk, Rows.uptoBulkAll]
      have hb1 : Tryd.wts vq ≤ Rows.uptoBulk d1 := by
        rcases hv with ⟨_, rfl, rfl⟩ | ⟨_, D, sp, rfl, hD⟩
        · simp [Tryd.wts]
        · have := bulk_vars hD
          simp only [Rows.uptoBulk]; omega
      have hb2 : lq.length ≤ Rows.uptoBulk d2 := by
        rcases hl with rfl | ⟨D, sp, rfl, hD⟩
        · simp
        · have := length_le D
          simp only [Rows.uptoBulk]; omega
      omega
end

/-- WHAT THE WALK GIVES, FOR EVERY ARGUMENT OF THE BULK AND EVERY WORLD. -/
theorem contract (H : Type) (enc : TypeId × Value → H) (W : World) (base : Nat) (args : Array Value) (ds gs : List (DataW H)) (before : List MemPlace)
    (hval : ∀ (j : Nat) t v, Tryd.f3.params[j]? = some t → args[j]? = some v → Value.okWide Tryd.prog W .any base t v)
    (hW : DataW.Whole enc Tryd.prog Tryd.f3.params.toList Rows.askChecksSpec.vars false W args.toList ds gs before)
    (hk : Rows.uptoSmall H (ds ++ gs) = true) :
    Calls Tryd.prog 3 args W fun e W' => ∃ v, e = .returned v ∧ Rows.askChecksSpec.post enc Tryd.prog Tryd.f3 false true false false W args v W' := by
  have hW' := hW
  obtain ⟨p, q, hA0, hV, rfl, hfz, hnd⟩ := hW
  have hA : DataW.TrodAll enc Tryd.prog W 0 (fun _ => true) true Tryd.f3.params.toList args.toList ds p := hA0
  rw [Tryd.params3] at hA hval
  obtain ⟨v0, vs0, d0, ds0, p0, q0, hargs, rfl, rfl, h0, r0⟩ := trodAll_cons hA
  obtain ⟨rfl, rfl, rfl⟩ := trodAll_nil r0
  obtain rfl : args = #[v0] := by cases args; simp_all
  obtain ⟨rfl, rfl⟩ := trodVars_none hV
  obtain ⟨n0, h0⟩ := h0
  obtain ⟨_, ⟨vq, lq, zv, zl, most, rfl, hb⟩, ok0⟩ := opn_ask n0 _ _ _ h0
  have hbound : Rows.uptoBulk d0 ≤ 1048576 := by
    have h := of_decide_eq_true hk
    simp only [List.append_nil, Rows.uptoBulkAll] at h
    omega
  have hagg : ∃ cs, v0 = .agg cs := by
    have hlen := ok0.1.1
    cases v0 <;> first | (exact ⟨_, rfl⟩) | (simp [Value.cells] at hlen)
  obtain ⟨⟨cs0⟩, rfl⟩ := hagg
  have hr0 : Rep W W.heap.size emp (.agg [roV zv vq.length (flatE Tryd.condE vq), roV zl lq.length (flatE Tryd.linkE lq), .int .i64 most]) (.agg ⟨cs0⟩) := .agg _ _ _ ok0.1.1 ok0.2 ok0.1.2
  have hrep : RepL W W.heap.size emp [.agg [roV zv vq.length (flatE Tryd.condE vq), roV zl lq.length (flatE Tryd.linkE lq), .int .i64 most]] [.agg ⟨cs0⟩] := RepL.cons hr0 (RepL.nil _ _ _)
  have hcb : Callable Tryd.prog 3 := ⟨Tryd.f3, Tryd.func3, by kernel_rfl, fun h => by
    have : (Tryd.f3.name == "runtime.NumGoroutine") = false := by decide
    rw [h] at this
    simp at this⟩
  have hwalk : Calls Tryd.prog 3 #[.agg ⟨cs0⟩] W fun e W' => e = .returned (.bool true) ∧ Below W.heap.size W W' :=
    law_calls (Tryd.orcOk) (by kernel_rfl) hcb globOk hrep ⟨1050000 + 1, Tryd.checks_ok vq lq zv zl most (by omega) (by omega) (k := 1050000) (by omega)⟩ (G := [])
  refine hwalk.mono fun e W' ⟨he, hbe⟩ => ?_
  subst he
  refine ⟨_, rfl, ?_⟩
  exact law_post (s := Rows.askChecksSpec) laidOut hrec rfl Tryd.underlying4 rfl hW' hbe rfl

/-- A WORLD FOR THE WITNESS. -/
def lay (cs : Array Value) : Obj → Obj
  | .cells _ t frozen => .cells cs t frozen
  | o => o
def tabA : Array Value := (([128,191,160,191,128,159,144,191,128,143,0,0,0,0,0,0,0,0,0,0,0,0,0,0,0,0,0,0,0,0,0,0] : List Int).map (Value.int .u8)).toArray
def tabF : Array Value := (Go.Pinned.utf8FirstZ.map fun (n : Nat) => Value.int .u8 (n : Int)).toArray
noncomputable def laidHeap (h : Array Obj) : Array Obj := (h.modify 3 (lay tabA)).modify 2 (lay tabF)
noncomputable def laidWorld (os : Os) : World :=
  { World.holding Tryd.prog os ⟨#[], #[], []⟩ with heap := laidHeap (World.holding Tryd.prog os ⟨#[], #[], []⟩).heap }
def args0 : Array Value := #[.agg #[.slice none 0 0, .slice none 0 0, .int .i64 0]]
theorem laid_met (os : Os) : laidMet Tryd.prog Rows.askChecksUptoRow.laid ((laidWorld os).forCall (fun _ _ => 0) ⟨#[], args0, []⟩).memory :=
  laidMet_of_run' 8 (by kernel_rfl) (by kernel_rfl)
theorem reads (os : Os) {H : Type} (enc : TypeId × Value → H) : ∃ places, DataW.whole enc Tryd.prog ((laidWorld os).forCall (fun _ _ => 0) ⟨#[], args0, []⟩).memory Tryd.f3.params.toList Rows.askChecksSpec.vars false args0.toList 8 = some ([.agg [.nil, .nil, .lit (.int .i64 0)]], [], places) :=
  ⟨[], by kernel_rfl⟩

set_option maxRecDepth 100000 in
theorem lifted (os : Os) (started : os.Started) (H : Type) (enc : TypeId × Value → H) (F : Stop.Interp) :
    ReturnsInHanded {} Tryd.checked os 3 .any ((Rows.OpenSpec.upto Rows.askChecksSpec).preRow enc Tryd.prog Tryd.f3 Rows.askChecksUptoRow.domain false Rows.askChecksUptoRow.laid) (((Rows.OpenSpec.upto Rows.askChecksSpec).at F).post enc Tryd.prog Tryd.f3 false true false false) := by
  obtain ⟨places, hx⟩ := reads os enc
  refine returnsInHanded_of_row (C := Tryd.checked) (s := Rows.OpenSpec.upto Rows.askChecksSpec) own started (by kernel_rfl) Tryd.func3
    (witness_row_at (enc := enc) (C := Tryd.checked) false (laidWorld os) args0 rfl (by kernel_rfl) (by kernel_rfl) (by kernel_rfl)
      (OpenSpec.preRow_of_cond 8 hx (by kernel_rfl) (fun k hk => by cases hk; kernel_rfl) (by kernel_rfl) (laid_met os))) ?_
  intro W base args ds gs before hval hW _ hcond _ hL _ _
  exact contract H enc W base args ds gs before hval hW (hcond _ rfl)

theorem said : Rows.AskChecksUptoSaid :=
  OpenClaim.holds_of_cond 3 Tryd.f3 rfl rfl rfl rfl rfl rfl rfl ⟨rfl, rfl, rfl, rfl, rfl⟩ rfl rfl rfl rfl rfl (by kernel_rfl) Tryd.func3 (by kernel_rfl)
    (of_decide_eq_true (by kernel_rfl)) (by unfold Func.isWrapper; first | (rw [if_pos (by decide +kernel)]; kernel_rfl) | (rw [if_neg (by decide +kernel)]; exact ⟨rfl, rfl⟩))
    (fun os started H enc _ F => by rw [OpenClaim.pre_eq_preRow]; exact lifted os started H enc F)

theorem plain (f : FuncId) (fn : Func) (hf : Tryd.pinned.checked.prog.funcNamed "wrackline/wracklaw4.AskChecks" = some f) (hfn : Tryd.pinned.checked.prog.funcs[f]? = some fn) :
    false = Tryd.pinned.checked.prog.looks [] ∧ ∀ (j : Nat) t, fn.params[j]? = some t → Tryd.pinned.checked.prog.wantsStandIn t = false := by
  obtain rfl : f = 3 := Option.some.inj ((show Tryd.prog.funcNamed "wrackline/wracklaw4.AskChecks" = some 3 by kernel_rfl).symm.trans hf) |>.symm
  obtain rfl : fn = Tryd.f3 := (Option.some.inj (Tryd.func3.symm.trans hfn)).symm
  refine ⟨by kernel_rfl, fun j t ht => ?_⟩
  rw [Tryd.params3] at ht
  have hm := Array.mem_of_getElem? ht
  have h25 : Tryd.prog.wantsStandIn 25 = false := by kernel_rfl
  simp at hm
  subst hm
  exact h25

/-- THE SECOND FORM'S CARD. -/
theorem cardUpto : Rows.AskChecksUptoCardSaid :=
  Claim7.holds_tied_plain_at .later [] _ _ _ _ said (fun _ h => by cases h) (by kernel_rfl) (fun _ h => by cases h) askChecksUpto_row_tie rfl ⟨rfl, rfl⟩ (by kernel_rfl) rfl plain (by kernel_rfl)
end Go.Proofs.YtmcakfjbefelgaaDoor.askChecks
