/-
  FROM THE EVALUATOR TO A ROW's CONTRACT (own work).
-/
import Derived.Test.YtnalmdnfoicokaaEv23
import Derived.Carry
import Derived.OpenShut
import Derived.ProofKit
import Derived.Lib.LaidTab
import Derived.Deep.Slices
set_option linter.unusedSimpArgs false
set_option linter.unusedVariables false
namespace Go.Ev
open Go Go.RowKit Go.ChangeShapes Go.WideShapes

section
variable {P : Program} {Γ : Env}

theorem Stp.below {e e' : Emb} {H' : Heap} {w0 w w' : World} {B : Nat} (h : Stp w0 B e [] w e' H' w') : Below w.heap.size w w' :=
  ⟨h.os, h.tape, h.output, h.size, fun k hk => h.frame k hk fun i bi ei hi => by simp at hi⟩

/-- What the program does where the evaluator answers true. -/
theorem law_calls (ho : CallOk P Γ Γ.orc) (hm : P.follows .mixedOrders = true) {f : Nat} {args : List Value} {vs : List V} {W : World} {G : Heap} (hg : GlobMem Γ W W.heap.size) (hrep : RepL W W.heap.size emp vs args)
    (h : Runs P Γ f vs [] (.bool true, G)) : Calls P f ⟨args⟩ W fun e W' => e = .returned (.bool true) ∧ Below W.heap.size W W' := by
  obtain ⟨k, hk⟩ := h
  obtain ⟨_, hc⟩ := evF_sound ho hm k f vs [] _ hk { W with drawn := 1 } W.heap.size emp W args ⟨fun h => by simp at h, fun g cs hc => ⟨Rep.rebase (w0 := W) (w1 := { W with drawn := 1 }) rfl (hg g cs hc).1, (hg g cs hc).2⟩⟩ (HS.freshAt W 1) (RepL.rebase (w0 := W) (w1 := { W with drawn := 1 }) rfl hrep)
  refine hc.mono fun ed w' hp => ?_
  obtain ⟨v, e', rfl, hst, hr⟩ := hp
  cases hr
  exact ⟨rfl, hst.below⟩

theorem trodAll_below {H : Type} {enc : TypeId × Value → H} (hl : laidOutB P = true) {W W' : World} (hb : Below W.heap.size W W') : ∀ (ts : List TypeId) (vs : List Value) (ds : List (DataW H)) (ps : List MemPlace),
    (∀ t ∈ ts, P.readableRec t = true ∧ t < P.types.size) → DataW.TrodAll enc P W 0 (fun _ => true) true ts vs ds ps → (∀ x ∈ ps, x.block < W.heap.size) →
    DataW.TrodAll enc P W' 0 (fun b => decide (b < W.heap.size)) true ts vs ds ps
  | [], vs, ds, ps, _, h, _ => by
    obtain ⟨rfl, rfl, rfl⟩ := trodAll_nil h
    exact trodAll_mk0
  | t :: ts, vs, ds, ps, ht, h, hp => by
    obtain ⟨v, vs', d, ds', p, q, rfl, rfl, rfl, h1, h2⟩ := trodAll_cons h
    exact trodAll_cons_mk (Below.trod hl (ht t (by simp)).1 (ht t (by simp)).2 h1 hb fun x hx => hp x (by simp [hx]))
      (trodAll_below hl hb ts vs' ds' q (fun t' h' => ht t' (by simp [h'])) h2 fun x hx => hp x (by simp [hx]))

/-- What a law's row asks at the end. -/
theorem law_post {H : Type} {enc : TypeId × Value → H} (hl : laidOutB P = true) {fn : Func} {s : ChangeSpec} {W W' : World} {args : Array Value} {ds gs : List (DataW H)} {before : List MemPlace} {tb : TypeId}
    (hrec : ∀ t ∈ fn.params.toList, P.readableRec t = true ∧ t < P.types.size) (hrt : fn.resultTypes = #[tb]) (htb : P.underlying tb = some .bool) (hvars : s.vars = [])
    (hW : DataW.Whole enc P fn.params.toList s.vars false W args.toList ds gs before) (hb : Below W.heap.size W W') (hs : s.fn H (ds ++ gs) = { results := [.lit (.bool true)], args := ds }) :
    s.post enc P fn false true false false W args (.bool true) W' := by
  have hlt : ∀ x ∈ before, x.block < W.heap.size := fun x hx => hW.lt x hx
  have hW' := hW
  obtain ⟨p, q, hA, hV, rfl, hfz, hnd⟩ := hW
  rw [hvars] at hV
  obtain ⟨rfl, rfl⟩ := trodVars_none hV
  refine ⟨ds, [], p ++ [], [], p, [], hW', ?_, ?_, ?_, hb.frame _, fun h => by cases h⟩
  · rw [hs, hrt]
    have : DataW.TrodAll enc P W' W.heap.size (fun _ => false) false [tb] [.bool true] [.lit (.bool true)] ([] ++ []) :=
      trodAll_cons_mk ⟨1, by simp [DataW.trod, Value.cells, htb]⟩ trodAll_mk0
    exact this
  · rw [hs]
    exact trodAll_below hl hb _ _ _ _ hrec hA fun x hx => hlt x (by simp [hx])
  · rw [hvars, hs]
    rfl

theorem orc_none {P : Program} {Γ : Env} (h : Γ.orc = fun _ _ _ => none) : CallOk P Γ Γ.orc := fun f args H r hr => by
  rw [h] at hr; cases hr

/-! ### Arguments -/
theorem rep_int {w0 : World} {B : Nat} (e : Emb) (k : IntKind) (n : Int) : Rep w0 B e (.int k n) (.int k n) := .int _ _ _

/-- A slice of integers as the evaluator has it. -/
def intsV (k : IntKind) : Bool → List Int → V
  | true, _ => .nils
  | false, l => .ros l.length (l.map (V.int k))

theorem cell_lt {w : World} {a : Addr} {v : Value} (h : w.cell? a = some v) : a.block < w.heap.size := by
  unfold World.cell? at h
  rcases Nat.lt_or_ge a.block w.heap.size with hl | hl
  · exact hl
  · rw [Array.getElem?_eq_none hl] at h; simp at h

theorem addr_add (b o j : Nat) : (⟨b, o, none⟩ : Addr).add j = ⟨b, o + j, none⟩ := by
  unfold Addr.add
  split
  · rename_i h; subst h; rfl
  · rfl
theorem has_lt {W : World} {a : Addr} {e : TypeId} {n : Nat} {r : Reach} {b : Nat} (h : W.has P r b a e n) : a.block < W.heap.size := by
  obtain ⟨_, _, row, cells, hs, _⟩ := h
  unfold World.shape? at hs
  rcases Nat.lt_or_ge a.block W.heap.size with hl | hl
  · exact hl
  · rw [Array.getElem?_eq_none hl] at hs; simp at hs
theorem open_ints {H : Type} {enc : TypeId × Value → H} {W : World} {held : Bool} {t e : TypeId} {k : IntKind} {v : Value} {d : DataW H} {p : List MemPlace} (ht : P.underlying t = some (.slice e)) (he : P.underlying e = some (.int k)) (hc : P.cellsOf e = 1)
    (h : DataW.Trod enc P W 0 (fun _ => true) held t v d p) (hv : Value.okWide P W .any 0 t v) :
    ∃ (b : Bool) (l : List Int), (∀ x ∈ l, (Lit.int k x).wf = true) ∧ l.length ≤ maxLen ∧ (b = true → l = []) ∧ Rep W W.heap.size emp (intsV k b l) v := by
  obtain ⟨fuel, hf⟩ := h
  obtain ⟨a0, len0, cap0, rfl⟩ := okWide_slice ht hv
  have hcs : (Value.slice a0 len0 cap0).cells.toList = [.slice a0 len0 cap0] := rfl
  rw [hcs] at hf
  rcases Go.Deep.open_slice1 ht hc hf with ⟨h1, _⟩ | ⟨a, len, cap, m, n, V, D, Pl, h1, hb, hl, hm, hmm, h2, h3⟩
  · cases h1
    exact ⟨true, [], by simp, by simp, fun _ => rfl, .nils _⟩
  · simp only [List.cons.injEq, and_true] at h1
    cases h1
    have hblk : a.block < W.heap.size := by
      simp only [Value.okWide, ht, Cell.okWide, Cell.ok] at hv
      exact has_lt hv.2.2
    have hmc : len0 ≤ m := by rw [hmm]; split <;> omega
    have hint : ∀ i, i < m → ∃ z, V i = .int k z ∧ (Lit.int k z).wf = true := fun i hi => by
      obtain ⟨z, hz, _, hwf⟩ := DataW.trod_int he (h3 i hi).2
      exact ⟨z, by simpa using hz, hwf⟩
    refine ⟨false, (List.range len0).map fun i => RowKit.intOf (V i), fun x hx => ?_, by simpa using Nat.le_trans hl hm, fun h => (by cases h), ?_⟩
    · obtain ⟨i, hi, rfl⟩ := List.mem_map.1 hx
      obtain ⟨z, hz, hwf⟩ := hint i (by have := List.mem_range.1 hi; omega)
      rw [hz]
      exact hwf
    · have hsp : a.spot = none := by
        simp only [Value.okWide, ht, Cell.okWide, Cell.ok] at hv
        exact hv.2.2.2.1
      obtain ⟨b, o, sp⟩ := a
      simp only at hsp
      subst hsp
      simp only [intsV, List.length_map, List.length_range]
      refine .ros _ _ _ b o cap0 V hl (fun j hj => ?_) (fun j hj => ?_) (fun j hj => ?_)
      · have hj' : j < len0 := by simpa using hj
        have := (h3 j (by omega)).1
        rw [addr_add] at this
        rw [kcell_old hblk]
        exact this
      · have hj' : j < len0 := by simpa using hj
        obtain ⟨z, hz, _⟩ := hint j (by omega)
        rw [hz]
        rfl
      · have hj' : j < len0 := by simpa using hj
        obtain ⟨z, hz, _⟩ := hint j (by omega)
        simp only [List.getElem_map, List.getElem_range, hz]
        exact .int _ _ _
end
end Go.Ev
