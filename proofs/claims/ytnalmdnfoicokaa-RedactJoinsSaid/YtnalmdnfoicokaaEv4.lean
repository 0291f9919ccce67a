/-
  EACH OPERATION THAT CALLS NOTHING DOES WHAT THE EVALUATOR SAYS, first part (own work).
-/
import Derived.Test.YtnalmdnfoicokaaEv3
import Derived.Laws.Cells
set_option linter.unusedSimpArgs false
set_option linter.unusedVariables false
namespace Go.Ev
open Go

section
variable {P : Program} {w0 : World} {B : Nat} {e : Emb} {H : Heap} {w : World}

mutual
theorem ofConst_ok : ∀ (v : Value) (x : V), ofConst v = some x → Rep w0 B e x v
  | .bool b, x, h => by simp only [ofConst, Option.some.injEq] at h; subst h; constructor
  | .int k n, x, h => by simp only [ofConst, Option.some.injEq] at h; subst h; constructor
  | .string s, x, h => by simp only [ofConst, Option.some.injEq] at h; subst h; constructor
  | .pointer none, x, h => by simp only [ofConst, Option.some.injEq] at h; subst h; constructor
  | .pointer (some a), x, h => by simp [ofConst] at h
  | .slice none 0 0, x, h => by simp only [ofConst, Option.some.injEq] at h; subst h; constructor
  | .slice none 0 (c + 1), x, h => by simp [ofConst] at h
  | .slice none (l + 1) c, x, h => by simp [ofConst] at h
  | .slice (some a) l c, x, h => by simp [ofConst] at h
  | .map none, x, h => by simp only [ofConst, Option.some.injEq] at h; subst h; constructor
  | .map (some r), x, h => by simp [ofConst] at h
  | .nilFunc, x, h => by simp only [ofConst, Option.some.injEq] at h; subst h; constructor
  | .nilIface, x, h => by simp only [ofConst, Option.some.injEq] at h; subst h; constructor
  | .agg ⟨cs⟩, x, h => by
    simp only [ofConst] at h
    split at h
    · rename_i h1
      obtain ⟨l, hl, rfl⟩ := Option.map_eq_some_iff.1 h
      have hr := ofConstL_ok cs l hl
      exact .agg _ _ _ hr.1 (fun v hv => by
        simp only [List.all_eq_true, Array.all_eq_true_iff_forall_mem, List.mem_toArray] at h1
        exact h1 v (by simpa using hv)) hr.2
    · cases h
  | .tuple ⟨cs⟩, x, h => by
    simp only [ofConst] at h
    obtain ⟨l, hl, rfl⟩ := Option.map_eq_some_iff.1 h
    have hr := ofConstL_ok cs l hl
    exact .tup _ _ _ hr.1 hr.2
  | .float _ _, x, h => by simp [ofConst] at h
  | .complex _ _ _, x, h => by simp [ofConst] at h
  | .chan _, x, h => by simp [ofConst] at h
  | .func _ _ _, x, h => by simp [ofConst] at h
  | .iface _ _, x, h => by simp [ofConst] at h
theorem ofConstL_ok : ∀ (cs : List Value) (l : List V), ofConstL cs = some l → RepL w0 B e l cs
  | [], l, h => by simp only [ofConstL, Option.some.injEq] at h; subst h; exact RepL.nil _ _ _
  | v :: cs, l, h => by
    simp only [ofConstL] at h
    split at h
    · rename_i a b ha hb
      cases h
      exact RepL.cons (ofConst_ok v a ha) (ofConstL_ok cs b hb)
    · cases h
end

theorem undef_ok : Rep w0 B e V.undef undef := .tup _ [] [] rfl (fun j h => by simp at h)

def GlobMem (Γ : Env) (w0 : World) (B : Nat) : Prop := ∀ g cs, Γ.glob g = some cs → Rep w0 B emp (.ro cs) (.pointer (some ⟨g, 0, none⟩)) ∧ g < B ∧ ∃ c el fr, w0.heap[g]? = some (.cells c el fr) ∧ c.size = cs.length
/-- Listed variables hold what is told; where the base world's count of draws is zero, draws are counted up. -/
def GlobOk (Γ : Env) (w0 : World) (B : Nat) : Prop := (w0.drawn = 0 → Γ.mono = true) ∧ GlobMem Γ w0 B
/-- The base world's other parts don't matter. -/
theorem Rep.rebase {w0 w1 : World} {B : Nat} {e : Emb} {a : V} {v : Value} (hh : w1.heap = w0.heap) (h : Rep w0 B e a v) : Rep w1 B e a v := by
  have := Rep.sub (w1 := w1) (B1 := B) (e1 := e) (hp := fun id off => .ptr id off) (hs := fun id off len sz => .sl id off len sz) (hm := fun id => .map id) (fun b o hk => by unfold known at hk ⊢; rw [hh]; exact hk)
    (fun id off v hv => by cases hv with | ptr _ _ _ eb h => exact .ptr _ _ _ _ h)
    (fun id off len sz v hv => by cases hv with | sl _ _ _ _ _ _ eb o h h2 h3 h4 h5 => exact .sl _ _ _ _ _ _ _ _ h h2 h3 h4 h5)
    (fun id v hv => by cases hv with | map _ _ eb h => exact .map _ _ _ h) h
  rwa [V.sub_self] at this
theorem RepL.rebase {w0 w1 : World} {B : Nat} {e : Emb} {a : List V} {v : List Value} (hh : w1.heap = w0.heap) (h : RepL w0 B e a v) : RepL w1 B e a v :=
  ⟨h.1, fun j h1 h2 => (h.2 j h1 h2).rebase hh⟩

theorem getS_ok {s : List V} {t : List Value} (h : RepL w0 B e s t) (i : Nat) : Rep w0 B e (getS s i) ((⟨t⟩ : Array Value).getD i undef) := by
  unfold getS
  rcases Nat.lt_or_ge i s.length with hi | hi
  · rw [List.getD_eq_getElem?_getD, List.getElem?_eq_getElem hi]
    have hi' : i < t.length := h.1 ▸ hi
    have : (⟨t⟩ : Array Value).getD i undef = t[i] := by simp [Array.getD, hi']
    rw [this]
    exact h.2 i hi hi'
  · rw [List.getD_eq_getElem?_getD, List.getElem?_eq_none hi]
    exact .junk _ _

theorem evOperand_ok {Γ : Env} (hg : GlobOk Γ w0 B) {s : List V} {a : Act} (h : RepL w0 B e s a.tmps.toList) (x : Operand) : Rep w0 B e (evOperand Γ s x) (a.eval x) := by
  cases x with
  | tmp t => exact getS_ok h t
  | const v =>
    simp only [evOperand, Act.eval]
    cases hv : ofConst v with
    | none => exact .junk _ _
    | some x => exact ofConst_ok v x hv
  | global g =>
    simp only [evOperand, Act.eval]
    cases hv : Γ.glob g with
    | none => exact .junk _ _
    | some cs => exact (hg.2 g cs hv).1.mono (fun id eb h => by cases h) (fun b o h => by cases h)
  | func f => exact .fn _ _ [] [] [] [] rfl rfl (fun j h => by simp at h) (fun j h => by simp at h)

theorem cells_ok {x : V} {v : Value} {cs : List V} (h : Rep w0 B e x v) (hc : x.cellsO = some cs) : CellsOk w0 B e cs v.cells.toList := by
  have single : ∀ {x : V} {v : Value}, Rep w0 B e x v → one v = true → v.cells = #[v] → CellsOk w0 B e [x] v.cells.toList := by
    intro x v h h1 h2
    rw [h2]
    exact ⟨RepL.cons h (RepL.nil _ _ _), fun u hu => by simp at hu; rw [hu]; exact h1⟩
  cases h with
  | agg _ a a' ha h1 har =>
    simp only [V.cellsO, Option.some.injEq] at hc
    subst hc
    exact ⟨⟨ha, har⟩, h1⟩
  | tup => simp [V.cellsO] at hc
  | junk => simp [V.cellsO] at hc
  | bool _ b => cases hc; exact single (.bool _ _) rfl rfl
  | int _ k n => cases hc; exact single (.int _ _ _) rfl rfl
  | str => cases hc; exact single (.str _ _) rfl rfl
  | nilp => cases hc; exact single (.nilp _) rfl rfl
  | ptr _ id off eb h => cases hc; exact single (.ptr _ _ _ _ h) rfl rfl
  | ro _ cs b o f hcc h1 hr => cases hc; exact single (.ro _ _ _ _ _ hcc h1 hr) rfl rfl
  | nils => cases hc; exact single (.nils _) rfl rfl
  | sl _ id off len sz cap eb o h h2 h3 h4 h5 => cases hc; exact single (.sl _ _ _ _ _ _ _ _ h h2 h3 h4 h5) rfl rfl
  | ros _ len cs b o cap f hl hcc h1 hr => cases hc; exact single (.ros _ _ _ _ _ _ _ hl hcc h1 hr) rfl rfl
  | rose _ a => cases hc; exact single (.rose _ _) rfl rfl
  | nilm => cases hc; exact single (.nilm _) rfl rfl
  | map _ id eb h => cases hc; exact single (.map _ _ _ h) rfl rfl
  | rom _ ks vs r clock es hm hk hv hkr hvr => cases hc; exact single (.rom _ _ _ _ _ _ hm hk hv hkr hvr) rfl rfl
  | fn _ f a b a' b' ha hb har hbr => cases hc; exact single (.fn _ _ _ _ _ _ ha hb har hbr) rfl rfl
  | nilf => cases hc; exact single (.nilf _) rfl rfl
  | iface _ t v v' h => cases hc; exact single (.iface _ _ _ _ h) rfl rfl
  | nili => cases hc; exact single (.nili _) rfl rfl

/-! ### What the model's small words come to -/
theorem info_of_tsz {t : TypeId} {n : Nat} (h : tsz P t = some n) : ∃ i, P.info? t = some i ∧ i.size = n := by
  unfold tsz at h
  obtain ⟨i, hi, rfl⟩ := Option.map_eq_some_iff.1 h
  exact ⟨i, hi, rfl⟩
theorem info_of_tbytes {t : TypeId} {n : Nat} (h : tbytes P t = some n) : ∃ i, P.info? t = some i ∧ i.bytes = n := by
  unfold tbytes at h
  obtain ⟨i, hi, rfl⟩ := Option.map_eq_some_iff.1 h
  exact ⟨i, hi, rfl⟩
theorem rsizeOf {t : TypeId} {n : Nat} (h : tsz P t = some n) (w : World) : (sizeOf t).run P w = .ok n w := by
  obtain ⟨i, hi, rfl⟩ := info_of_tsz h
  simp [sizeOf, typeInfo, hi]
theorem rtypeInfo {t : TypeId} {i : TypeInfo} (h : P.info? t = some i) (w : World) : (typeInfo t).run P w = .ok i w := by simp [typeInfo, h]
theorem runder {t : TypeId} {d : TypeDesc} (h : P.underlying t = some d) (w : World) : (underlying t).run P w = .ok d w := by simp [underlying, h]
theorem risAgg {t : TypeId} {b : Bool} (h : tagg P t = some b) (w : World) : (isAgg t).run P w = .ok b w := by
  unfold tagg at h
  split at h <;> rename_i hu <;> simp only [Option.some.injEq, reduceCtorEq] at h
  · subst h; simp [isAgg, runder hu]
  · subst h; simp [isAgg, runder hu]
  · subst h
    rename_i d hn1 hn2
    simp only [isAgg, Sem.run_bind, runder hu, Result.andThen_ok]
    cases d <;> first | rfl | (exact absurd rfl (hn1 _)) | (exact absurd rfl (hn2 _ _))
theorem rzero {t : TypeId} {x : V} (h : tzero P t = some x) : ∃ z, (∀ w, (zeroValue t).run P w = .ok z w) ∧ (∀ w0 B e, Rep w0 B e x z) ∧ ∃ i, P.info? t = some i ∧ i.zero = some z := by
  unfold tzero at h
  obtain ⟨i, hi, hz⟩ := Option.bind_eq_some_iff.1 h
  obtain ⟨z, hz1, hz2⟩ := Option.bind_eq_some_iff.1 hz
  exact ⟨z, fun w => by simp [zeroValue, typeInfo, hi, hz1], fun w0 B e => ofConst_ok z x hz2, i, hi, hz1⟩
theorem add_plain (b o j : Nat) : (⟨b, o, none⟩ : Addr).add j = ⟨b, o + j, none⟩ := by unfold Addr.add; split <;> simp_all

/-! ### Cells behind a pointer -/
theorem seg_get {c : Array Value} {base n j : Nat} {v : Value} (h : (seg c base n)[j]? = some v) : c[base + j]? = some v := by
  unfold seg at h
  rw [List.getElem?_take] at h
  split at h
  · rw [List.getElem?_drop] at h; simpa using h
  · cases h
theorem cellsAt_ok (hs : HS w0 B e H w) {a : V} {v : Value} {cs : List V} (h : Rep w0 B e a v) (hc : cellsAt H a = some cs) :
    ∃ b o vs, v = .pointer (some ⟨b, o, none⟩) ∧ CellsOk w0 B e cs vs ∧ ∀ j x, vs[j]? = some x → w.cell? ⟨b, o + j, none⟩ = some x := by
  cases h with
  | ptr _ id off eb h =>
    simp only [cellsAt] at hc
    split at hc
    · rename_i cs0 ex hid
      cases hc
      obtain ⟨eb', o', he', ho', hok⟩ := hs.live id _ hid
      rw [h] at he'; cases he'
      cases o' <;> simp only [BlkOk] at hok
      rename_i c el fr
      refine ⟨eb.b, eb.base + off, (seg c eb.base cs0.length).drop off, rfl, hok.2.2.2.2.drop off, fun j x hx => ?_⟩
      rw [List.getElem?_drop] at hx
      have := seg_get hx
      simp only [World.cell?, ho']
      simpa [Nat.add_assoc] using this
    · cases hc
  | ro _ cs b o f hcc h1 hr =>
    simp only [cellsAt, Option.some.injEq] at hc
    subst hc
    refine ⟨b, o, (List.range cs.length).map f, rfl, ⟨⟨by simp, fun j h1 h2 => by simpa using (hr j h1).mono (fun id eb h => by cases h)⟩, fun v hv => ?_⟩, fun j x hx => ?_⟩
    · simp only [List.mem_map, List.mem_range] at hv
      obtain ⟨j, hj, rfl⟩ := hv
      exact h1 j hj
    · rw [List.getElem?_map] at hx
      rcases Nat.lt_or_ge j cs.length with hj | hj
      · simp [hj] at hx
        subst hx
        exact hs.kcell (hcc j hj)
      · simp [hj] at hx
  | _ => simp [cellsAt] at hc

theorem rload {t : TypeId} {cs : List V} {vs : List Value} {b o : Nat} {x : V} (hcs : CellsOk w0 B e cs vs) (hcell : ∀ j x, vs[j]? = some x → w.cell? ⟨b, o + j, none⟩ = some x)
    (hx : (match some cs, tagg P t, tsz P t with
      | some cs, some true, some n => if n ≤ cs.length then some (V.agg (cs.take n)) else none
      | some (c :: _), some false, _ => some c
      | _, _, _ => none) = some x) : ∃ v, (loadVar t ⟨b, o, none⟩).run P w = .ok v w ∧ Rep w0 B e x v := by
  split at hx
  · rename_i cs' n he1 ha hz
    cases he1
    split at hx
    · rename_i hn
      cases hx
      have hl : (vs.take n).length = n := by rw [List.length_take, ← hcs.1.1]; omega
      have hr := run_loadCells_list (P := P) w ⟨b, o, none⟩ (vs.take n) (fun j v hv => by
        rw [add_plain]
        rw [List.getElem?_take] at hv
        split at hv
        · exact hcell j v hv
        · cases hv)
      rw [hl] at hr
      refine ⟨.agg (vs.take n).toArray, ?_, ?_⟩
      · simp [loadVar, risAgg ha, rsizeOf hz, hr]
      · have ht := hcs.take n
        exact .agg _ _ _ ht.1.1 ht.2 ht.1.2
    · cases hx
  · rename_i c l _ he1 ha
    cases he1
    cases hx
    cases vs with
    | nil => have := hcs.1.1; simp at this
    | cons v vs =>
      refine ⟨v, ?_, hcs.1.head⟩
      have := hcell 0 v (by simp)
      simp only [Nat.add_zero] at this
      simp [loadVar, risAgg ha, run_load, this]
  · cases hx
end
end Go.Ev
