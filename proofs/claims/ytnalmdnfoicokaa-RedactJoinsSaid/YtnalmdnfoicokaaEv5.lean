/-
  EACH OPERATION THAT CALLS NOTHING DOES WHAT THE EVALUATOR SAYS, second part: memory (own work).
-/
import Derived.Test.YtnalmdnfoicokaaEv4
import Derived.Laws.CopyRow
set_option linter.unusedSimpArgs false
set_option linter.unusedVariables false
namespace Go.Ev
open Go

section
variable {P : Program} {w0 : World} {B : Nat} {e : Emb} {H : Heap} {w : World}

def OpOk (P : Program) (w0 : World) (B : Nat) (e : Emb) (H : Heap) (w : World) (m : Sem Next) (r : V × Heap) : Prop :=
  ∃ v' w' e', (m.run P w = .ok (.value v') w' ∨ (m.run P w = .ok .skip w' ∧ v' = undef)) ∧ Stp w0 B e H w e' r.2 w' ∧ Rep w0 B e' r.1 v'

/-- An operation that yields a value and leaves the world alone. -/
theorem OpOk.pure (hs : HS w0 B e H w) {m : Sem Value} {v : V} {v' : Value} (hm : m.run P w = .ok v' w) (hr : Rep w0 B e v v') :
    OpOk P w0 B e H w (do Pure.pure (.value (← m))) (v, H) :=
  ⟨v', w, e, .inl (by simp [hm]), Stp.refl hs, hr⟩
theorem OpOk.val {m : Sem Value} {v : V} {v' : Value} {w' : World} {e' : Emb} {H' : Heap} (hm : m.run P w = .ok v' w') (hst : Stp w0 B e H w e' H' w') (hr : Rep w0 B e' v v') :
    OpOk P w0 B e H w (do Pure.pure (.value (← m))) (v, H') :=
  ⟨v', w', e', .inl (by simp [hm]), hst, hr⟩
theorem OpOk.unit {m : Sem Unit} {w' : World} {e' : Emb} {H' : Heap} (hm : m.run P w = .ok () w') (hst : Stp w0 B e H w e' H' w') :
    OpOk P w0 B e H w (do m; Pure.pure .skip) (V.undef, H') :=
  ⟨undef, w', e', .inr ⟨by simp [hm], rfl⟩, hst, undef_ok⟩

/-! ### A new row -/
theorem rnewRow (el : TypeId) (c : Array Value) (w : World) : (newRow el c).run P w = .ok ⟨w.heap.size, 0, none⟩ { w with heap := w.heap.push (.cells c el) } := by
  simp [newRow, newObj, Sem.run]

theorem seg_all (c : Array Value) (n : Nat) (h : n = c.size) : seg c 0 n = c.toList := by
  subst h
  unfold seg
  rw [List.drop_zero, ← Array.length_toList, List.take_length]

theorem row_ok (hs : HS w0 B e H w) {el : TypeId} {c : Array Value} {cs : List V} (ex : Bool) (hc : CellsOk w0 B e cs c.toList) :
    Stp w0 B e H w (Emb.put e H.length ⟨w.heap.size, 0, c.size⟩) (H ++ [some (.cells cs ex)]) { w with heap := w.heap.push (.cells c el) } := by
  have hl : cs.length = c.size := by rw [hc.1.1]; simp
  refine Stp.alloc hs _ _ (.cells c el) rfl ?_ rfl rfl rfl rfl
  refine ⟨Nat.le_refl _, by simp [hl], fun _ => by simp [hl], fun j _ => ?_, ?_⟩
  · simp
  · rw [seg_all c _ hl]
    exact hc.mono (hs.put_up _)
/-- A row with places left behind the cells that are told. -/
theorem row_more_ok (hs : HS w0 B e H w) {el : TypeId} {c more : List Value} {cs : List V} (hc : CellsOk w0 B e cs c) :
    Stp w0 B e H w (Emb.put e H.length ⟨w.heap.size, 0, c.length + more.length⟩) (H ++ [some (.cells cs false)]) { w with heap := w.heap.push (.cells ⟨c ++ more⟩ el) } := by
  have hl : cs.length = c.length := hc.1.1
  refine Stp.alloc hs _ _ (.cells ⟨c ++ more⟩ el) rfl ?_ rfl rfl rfl rfl
  refine ⟨by simp, by simp [hl], (fun h => by cases h), (fun j _ => by simp), ?_⟩
  have : seg ⟨c ++ more⟩ 0 cs.length = c := by unfold seg; simp [hl]
  rw [this]
  exact hc.mono (hs.put_up _)
theorem put_self (e : Emb) (n : Nat) (eb : EB) : Emb.put e n eb n = some eb := by simp [Emb.put]
theorem ptr_new (e : Emb) (n : Nat) (eb : EB) (h0 : eb.base = 0) : Rep w0 B (Emb.put e n eb) (.ptr n 0) (.pointer (some ⟨eb.b, 0, none⟩)) := by
  have := Rep.ptr (w0 := w0) (B := B) (Emb.put e n eb) n 0 eb (put_self e n eb)
  rwa [h0] at this

theorem alloc_ok (hs : HS w0 B e H w) {t : TypeId} {cs : List V} (h : tzc P t = some cs) :
    OpOk P w0 B e H w (do Pure.pure (.value (← Instr.alloc t true (.tuple #[])))) (.ptr H.length 0, H ++ [some (.cells cs true)]) := by
  obtain ⟨x, hx, hc⟩ := Option.bind_eq_some_iff.1 h
  obtain ⟨z, hz, hr, _⟩ := rzero hx
  refine OpOk.val (v' := .pointer (some ⟨w.heap.size, 0, none⟩)) ?_ (row_ok (el := t) hs true (cells_ok (hr w0 B e) hc)) (ptr_new _ _ _ rfl)
  exact (by simp [Instr.alloc, hz, newVar, rnewRow] : (Instr.alloc t true (.tuple #[])).run P w = .ok (.pointer (some ⟨w.heap.size, 0, none⟩)) { w with heap := w.heap.push (.cells z.cells t) })
theorem box_ok (hs : HS w0 B e H w) {t : TypeId} {x : V} {v : Value} {cs : List V} (hv : Rep w0 B e x v) (h : x.cellsO = some cs) :
    OpOk P w0 B e H w (do Pure.pure (.value (← Instr.box t v))) (.ptr H.length 0, H ++ [some (.cells cs true)]) := by
  refine OpOk.val (v' := .pointer (some ⟨w.heap.size, 0, none⟩)) ?_ (row_ok (el := t) hs true (cells_ok hv h)) (ptr_new _ _ _ rfl)
  exact (by simp [Instr.box, newVar, rnewRow] : (Instr.box t v).run P w = .ok (.pointer (some ⟨w.heap.size, 0, none⟩)) { w with heap := w.heap.push (.cells v.cells t) })

/-! ### Reading -/
theorem load_ok (hs : HS w0 B e H w) {t : TypeId} {a : V} {v : Value} (hv : Rep w0 B e a v) {x : V} (h : loadV P H t a = some x) :
    OpOk P w0 B e H w (do Pure.pure (.value (← Instr.loadAt t v))) (x, H) := by
  unfold loadV at h
  cases hc : cellsAt H a with
  | none => rw [hc] at h; simp at h
  | some cs =>
    rw [hc] at h
    obtain ⟨b, o, vs, rfl, hcs, hcell⟩ := cellsAt_ok hs hv hc
    obtain ⟨u, hu, hr⟩ := rload (P := P) (t := t) hcs hcell h
    exact OpOk.pure hs (by simp [Instr.loadAt, Instr.sureAddr, hu]) hr

/-! ### Writing -/
theorem heap_modify_eq (hp : Array Obj) (b : Nat) (f : Obj → Obj) (o : Obj) (h : hp[b]? = some o) : hp.modify b f = hp.setIfInBounds b (f o) := by
  obtain ⟨hb, ho⟩ := Array.getElem?_eq_some_iff.1 h
  apply Array.ext
  · simp
  · intro i h1 h2
    rw [Array.getElem_modify]
    rw [Array.getElem_setIfInBounds]
    split
    · rename_i hi; subst hi; simp [ho]
    · rfl

theorem rstoreCells : ∀ (vs : List Value) (i : Nat) (c : Array Value) (w : World) (b o : Nat) (el : TypeId) (fr : Nat × Nat), w.heap[b]? = some (.cells c el fr) →
    (∀ j, j < c.size → (decide (fr.1 ≤ j) && decide (j < fr.2)) = false) → o + i + vs.length ≤ c.size → (∀ v ∈ vs, one v = true) →
    (storeCells ⟨b, o, none⟩ vs i).run P w = .ok () { w with heap := w.heap.setIfInBounds b (.cells ⟨c.toList.take (o + i) ++ vs ++ c.toList.drop (o + i + vs.length)⟩ el fr) }
  | [], i, c, w, b, o, el, fr, hb, _, _, _ => by
    simp only [storeCells, List.append_nil, List.length_nil, Nat.add_zero, List.take_append_drop]
    obtain ⟨hlt, hob⟩ := Array.getElem?_eq_some_iff.1 hb
    have : w.heap.setIfInBounds b (.cells ⟨c.toList⟩ el fr) = w.heap := by
      apply Array.ext
      · simp
      · intro j h1 h2
        rw [Array.getElem_setIfInBounds]
        split
        · rename_i hj; subst hj; exact hob.symm
        · rfl
    rw [this]
    rfl
  | v :: vs, i, c, w, b, o, el, fr, hb, hfr, hl, h1 => by
    simp only [List.length_cons] at hl
    have hlt : o + i < c.size := by omega
    have hcell : w.cell? ⟨b, o + i, none⟩ = some c[o + i] := by simp [World.cell?, hb, hlt]
    have hfz : w.frozen? ⟨b, o + i, none⟩ = false := by
      have := hfr (o + i) hlt
      obtain ⟨lo, hi⟩ := fr
      simpa [World.frozen?, hb] using this
    have hset : w.setCell ⟨b, o + i, none⟩ v = { w with heap := w.heap.setIfInBounds b (.cells (c.setIfInBounds (o + i) v) el fr) } := by
      unfold World.setCell
      rw [heap_modify_eq _ _ _ _ hb]
      rfl
    have hst : (store ((⟨b, o, none⟩ : Addr).add i) v).run P w = .ok () { w with heap := w.heap.setIfInBounds b (.cells (c.setIfInBounds (o + i) v) el fr) } := by
      rw [add_plain, run_store P w _ v _ (h1 v (by simp)), hcell]
      simp [hfz, hset]
    have hlt' : b < w.heap.size := (Array.getElem?_eq_some_iff.1 hb).1
    have ih := rstoreCells vs (i + 1) (c.setIfInBounds (o + i) v) { w with heap := w.heap.setIfInBounds b (.cells (c.setIfInBounds (o + i) v) el fr) } b o el fr
      (by simp [hlt']) (by simpa using hfr) (by simp; omega) (fun x hx => h1 x (by simp [hx]))
    simp only [storeCells, Sem.run_bind, hst, Result.andThen_ok, ih]
    congr 2
    rw [Array.setIfInBounds_setIfInBounds]
    congr 3
    have e := list_seg_step c.toList (o + i) v vs (by simpa using hl)
    simpa [Array.toList_setIfInBounds, Nat.add_assoc] using e

theorem seg_splice (L vs : List Value) (base off len : Nat) (h : off + vs.length ≤ len) (hl : base + len ≤ L.length) :
    ((L.take (base + off) ++ vs ++ L.drop (base + off + vs.length)).drop base).take len = ((L.drop base).take len).take off ++ vs ++ ((L.drop base).take len).drop (off + vs.length) := by
  have e1 : L.take (base + off) = L.take base ++ (L.drop base).take off := by rw [List.take_add]
  have e2 : L.drop (base + off + vs.length) = (L.drop base).drop (off + vs.length) := by rw [List.drop_drop, Nat.add_assoc]
  have e3 : (L.take base).length = base := by simp; omega
  have hM : (L.drop base).length = L.length - base := List.length_drop
  generalize hMM : L.drop base = M at *
  have e4 : (L.take base ++ M.take off ++ vs ++ M.drop (off + vs.length)).drop base = M.take off ++ vs ++ M.drop (off + vs.length) := by
    rw [List.append_assoc, List.append_assoc, List.drop_append, e3, Nat.sub_self, List.drop_zero, List.drop_eq_nil_of_le (by omega)]
    simp
  rw [e1, e2, e4, List.take_take, Nat.min_eq_left (by omega), List.drop_take]
  have e5 : (M.take off).length = off := by rw [List.length_take, hM]; omega
  have e6 : (M.take off ++ vs).length = off + vs.length := by rw [List.length_append, e5]
  rw [List.take_append, e6, List.take_of_length_le (l := M.take off ++ vs) (by omega)]

/-- Cells of a block written in place: the evaluator's 'writeCells'. -/
theorem write_ok (hs : HS w0 B e H w) {id off : Nat} {eb : EB} (he : e id = some eb) {cs : List V} {vs : List Value} (hcs : CellsOk w0 B e cs vs) {H' : Heap} (h : writeCells H id off cs = some H') :
    ∃ w', (storeCells ⟨eb.b, eb.base + off, none⟩ vs).run P w = .ok () w' ∧ Stp w0 B e H w e H' w' := by
  unfold writeCells at h
  split at h
  · rename_i cs0 ex hid
    split at h
    · rename_i hle
      cases h
      obtain ⟨eb', o, he', ho, hok⟩ := hs.live id _ hid
      rw [he] at he'; cases he'
      cases o <;> simp only [BlkOk] at hok
      rename_i c el fr
      obtain ⟨k1, k2, k3, k4, k5⟩ := hok
      have hlen : cs.length = vs.length := hcs.1.1
      have hst := rstoreCells (P := P) vs 0 c w eb.b (eb.base + off) el fr ho k4 (by omega) hcs.2
      simp only [Nat.add_zero] at hst
      refine ⟨_, hst, Stp.write hs hid he _ _ ?_ rfl rfl rfl rfl⟩
      have hnew : (cs0.take off ++ cs ++ cs0.drop (off + cs.length)).length = cs0.length := by simp; omega
      have hsz : (⟨c.toList.take (eb.base + off) ++ vs ++ c.toList.drop (eb.base + off + vs.length)⟩ : Array Value).size = c.size := by simp; omega
      refine ⟨by rw [hsz]; exact k1, by rw [hnew]; exact k2, fun hx => by rw [hnew]; exact k3 hx, by rw [hsz]; exact k4, ?_⟩
      rw [hnew]
      unfold seg at k5 ⊢
      rw [seg_splice c.toList vs eb.base off cs0.length (by omega) (by have := Nat.le_trans k2 k1; simpa using this)]
      rw [hlen]
      exact ((k5.take off).append hcs).append (k5.drop _)
    · cases h
  · cases h

theorem store_ok (hs : HS w0 B e H w) {t : TypeId} {a x : V} {va vx : Value} (ha : Rep w0 B e a va) (hx : Rep w0 B e x vx) {H' : Heap} (h : storeV P H t a x = some H') :
    OpOk P w0 B e H w (do Instr.storeAt t va vx; Pure.pure .skip) (V.undef, H') := by
  unfold storeV at h
  split at h
  · rename_i id off vs n hc hz
    split at h
    · rename_i hn
      have hcs := cells_ok hx hc
      cases ha with
      | ptr _ _ _ eb he =>
        obtain ⟨w', hr, hst⟩ := write_ok (P := P) hs he hcs h
        have hsz : vx.cells.size = n := by have := hcs.1.1; simp at this; omega
        exact OpOk.unit (by simp [Instr.storeAt, Instr.sureAddr, storeVar, rsizeOf hz, hsz, hr]) hst
    · cases h
  · cases h
end
end Go.Ev
