/-
  EACH OPERATION THAT CALLS NOTHING DOES WHAT THE EVALUATOR SAYS, seventh part: make, conversions, append, copy (own work).
-/
import Derived.Test.YtnalmdnfoicokaaEv9
import Derived.Lib.ConvBytes
import Derived.Laws.AppendOwn
set_option linter.unusedSimpArgs false
set_option linter.unusedVariables false
namespace Go.Ev
open Go

section
variable {P : Program} {w0 : World} {B : Nat} {e : Emb} {H : Heap} {w : World}

theorem raskRoom (n : Nat) (w : World) : (askRoom n).run P w = .ok () w := by
  unfold askRoom
  split
  · rfl
  · rfl

theorem makeSlice_ok (hs : HS w0 B e H w) {t : TypeId} {l c : V} {vl vc : Value} {r : V × Heap} (hl : Rep w0 B e l vl) (hc : Rep w0 B e c vc) (h : makeSliceV P H t l c = some r) :
    OpOk P w0 B e H w (do Pure.pure (.value (← Instr.makeSlice t vl vc))) r := by
  unfold makeSliceV at h
  split at h
  · rename_i el l c hu
    split at h
    · rename_i n b z hn hb hz
      split at h
      · rename_i hcond
        simp only [Bool.and_eq_true, decide_eq_true_eq, beq_iff_eq] at hcond
        obtain ⟨⟨⟨⟨⟨h0, h1⟩, h2⟩, h3⟩, h4⟩, h5⟩ := hcond
        subst h1
        cases h; cases hl; cases hc
        obtain ⟨zv, hzv, hzc, i, hi, hi2⟩ := tzc_ok hz
        obtain ⟨m, rfl⟩ := Int.eq_ofNat_of_zero_le h0
        obtain ⟨ib, hib, hbytes⟩ := info_of_tbytes hb
        rw [hi] at hib; cases hib
        have hzero := zeros_ok (hzc w0 B e) m (m * n) (by rw [h4])
        have hw : IntKind.i64.wrap (m : Int) = m := by unfold IntKind.wrap; simp [IntKind.bits, IntKind.signed]; omega
        have hrun : (Instr.makeSlice t (.int .i64 (m : Int)) (.int .i64 (m : Int))).run P w = .ok (.slice (some ⟨w.heap.size, 0, none⟩) m m) { w with heap := w.heap.push (.cells ((Array.range (m * n)).map (zv.cells[· % zv.cells.size]!)) el) } := by
          have hbig : ¬ ((i.bytes : Int) * (m : Int) > 2 ^ 48) := by rw [hbytes]; rw [Int.mul_comm]; omega
          have hneg : ¬ ((m : Int) < 0) := by omega
          simp only [Instr.makeSlice, Sem.run_bind, runder hu, Result.andThen_ok, asInt, asIntOf, Sem.run_pure, rtypeInfo hi, hw, hneg, hbig, decide_false, Bool.false_or, Bool.or_false, gt_iff_lt, Int.lt_irrefl, Bool.false_eq_true, if_false, raskRoom, Int.toNat_natCast, rsizeOf hn]
          by_cases hmn : m * n = 0
          · have hr0 : Array.range 0 = (#[] : Array Nat) := by simp [Array.range]
            simp only [hmn, if_true, Sem.run_pure, Result.andThen_ok, hr0, Array.map_empty, rnewRow]
            simp [rnewRow]
          · simp only [hmn, if_false, hzv, Sem.run_bind, Sem.run_pure, Result.andThen_ok, rnewRow]
        simp only [Int.toNat_natCast]
        exact OpOk.val hrun (row_ok (el := el) hs true hzero) (sl_new e H.length m m n w.heap.size _ (Nat.le_refl _) h5 (by simp))
      · cases h
    · cases h
  · cases h

/-! ### Conversions -/
theorem nums_ok : ∀ (cs : List V) (xs : List Int) (vs : List Value), numsOfCells cs = some xs → RepL w0 B e cs vs → vs = xs.map (Value.int .u8)
  | [], xs, vs, h, hr => by
    simp only [numsOfCells, Option.some.injEq] at h
    subst h
    cases vs with
    | nil => rfl
    | cons v vs => have := hr.1; simp at this
  | c :: cs, xs, vs, h, hr => by
    cases vs with
    | nil => have := hr.1; simp at this
    | cons v vs =>
      unfold numsOfCells at h
      split at h
      · rename_i heq; cases heq
      · rename_i n l heq
        cases heq
        obtain ⟨ys, hys, rfl⟩ := Option.map_eq_some_iff.1 h
        have h1 := hr.head
        cases h1
        rw [List.map_cons, nums_ok cs ys vs hys hr.tail]
      · cases h

theorem sliceAt_ok (hs : HS w0 B e H w) {a : V} {v : Value} {len : Nat} {cs : List V} (h : Rep w0 B e a v) (hc : sliceAtV H a = some (len, cs)) :
    (v = .slice none 0 0 ∧ len = 0 ∧ cs = []) ∨ (∃ a, v = .slice (some a) 0 0 ∧ len = 0 ∧ cs = []) ∨ ∃ b o cap vs, v = .slice (some ⟨b, o, none⟩) len cap ∧ CellsOk w0 B e cs vs ∧ (0 < len → ∀ j x, vs[j]? = some x → w.cell? ⟨b, o + j, none⟩ = some x) := by
  cases h with
  | nils =>
    simp only [sliceAtV, Option.some.injEq, Prod.mk.injEq] at hc
    exact .inl ⟨rfl, hc.1.symm, hc.2.symm⟩
  | sl _ id off len' sz cap eb o h h2 h3 h4 h5 =>
    right; right
    simp only [sliceAtV] at hc
    split at hc
    · rename_i cs0 ex hid
      simp only [Option.some.injEq, Prod.mk.injEq] at hc
      obtain ⟨rfl, rfl⟩ := hc
      obtain ⟨b, o', vs, hv, hcs, hcell⟩ := cellsAt_ok hs (a := .ptr id off) (cs := cs0.drop off) (.ptr _ id off eb h) (by simp [cellsAt, hid])
      cases hv
      refine ⟨_, o, cap, vs, rfl, hcs, fun hp j x hx => ?_⟩
      rw [h5 (by omega)]
      exact hcell j x hx
    · cases hc
  | rose _ a =>
    simp only [sliceAtV, Option.some.injEq, Prod.mk.injEq] at hc
    exact .inr (.inl ⟨a, rfl, hc.1.symm, hc.2.symm⟩)
  | ros _ len' cs' b o cap f hl hcc h1 hr =>
    right; right
    simp only [sliceAtV, Option.some.injEq, Prod.mk.injEq] at hc
    obtain ⟨rfl, rfl⟩ := hc
    obtain ⟨b', o', vs, hv, hcs, hcell⟩ := cellsAt_ok hs (a := .ro cs') (cs := cs') (Rep.ro e cs' b o f hcc h1 hr) rfl
    cases hv
    exact ⟨b, o, cap, vs, rfl, hcs, fun _ => hcell⟩
  | _ => simp [sliceAtV] at hc

theorem bytes_cells (s : ByteArray) : CellsOk w0 B e (byteCells s) (s.data.toList.map fun b => Value.int .u8 b.toNat) := by
  refine ⟨⟨by simp [byteCells], fun j h1 h2 => ?_⟩, fun v hv => ?_⟩
  · simp only [byteCells, List.getElem_map]
    exact .int _ _ _
  · simp only [List.mem_map] at hv
    obtain ⟨b, _, rfl⟩ := hv
    rfl

theorem convert_ok (hs : HS w0 B e H w) {src dst : TypeId} {x : V} {v : Value} {r : V × Heap} (hx : Rep w0 B e x v) (h : convertV P H src dst x = some r) :
    OpOk P w0 B e H w (do Pure.pure (.value (← convert src dst v))) r := by
  unfold convertV at h
  split at h
  · rename_i d1 k k' n hu1 hu2
    cases h; cases hx
    refine OpOk.pure hs (v' := .int k (k.wrap n)) ?_ (.int _ _ _)
    simp only [convert, Sem.run_bind, runder hu1, runder hu2, Result.andThen_ok]
    cases d1 <;> simp [Conv.intToInt]
  · rename_i d1 s hu1 hu2
    cases h; cases hx
    refine OpOk.pure hs (v' := .string s) ?_ (.str _ _)
    simp only [convert, Sem.run_bind, runder hu1, runder hu2, Result.andThen_ok]
    cases d1 <;> simp
  · rename_i d1 el s hu1 hu2
    split at h
    · rename_i hel
      cases h; cases hx
      have hcells : CellsOk w0 B e (byteCells s) (s.data.toList.map fun b => Value.int .u8 b.toNat) := bytes_cells s
      have hheap : (Lib.bytesWorld w el s).heap = w.heap.push (.cells (Lib.bytesCells w el s) el ((Lib.bytesCells w el s).size, (Lib.bytesCells w el s).size + 1)) := by
        apply Array.ext_getElem?
        intro j
        rcases Nat.lt_trichotomy j w.heap.size with hj | hj | hj
        · rw [Lib.bytesWorld_at_old w el s j hj, Array.getElem?_push, if_neg (by omega)]
        · subst hj
          rw [Lib.bytesWorld_at_new, Array.getElem?_push, if_pos rfl]
        · rw [Array.getElem?_eq_none (by rw [Lib.bytesWorld_size]; omega), Array.getElem?_eq_none (by rw [Array.size_push]; omega)]
      have hge := grownCap_ge w s.size 0 el
      have hsz : (Lib.bytesCells w el s).size = grownCap w s.size 0 el := by
        simp [Lib.bytesCells]
        have : s.data.size = s.size := rfl
        omega
      have hlen : (byteCells s).length = s.size := by simp [byteCells]
      refine OpOk.val (Lib.run_convert_string_bytes w src dst el s hu1 hu2 hel)
        (Stp.alloc hs (.cells (byteCells s) false) ⟨w.heap.size, 0, grownCap w s.size 0 el⟩ _ rfl ?_ hheap rfl rfl rfl)
        (sl_new e H.length s.size _ 1 w.heap.size _ hge (by omega) (by omega))
      refine ⟨Nat.le_of_eq hsz.symm, by simp only [hlen]; omega, (fun h => by cases h), (fun j hj => by simp; omega), ?_⟩
      have hseg : seg (Lib.bytesCells w el s) 0 (byteCells s).length = s.data.toList.map fun b => Value.int .u8 b.toNat := by
        unfold seg
        rw [hlen, List.drop_zero]
        simp only [Lib.bytesCells, Array.toList_append, Array.toList_map]
        rw [List.take_append_of_le_length (by simp)]
        rw [List.take_of_length_le (by simp)]
      show CellsOk _ _ _ _ (seg (Lib.bytesCells w el s) 0 (byteCells s).length)
      rw [hseg]
      exact hcells.mono (hs.put_up _)
    · cases h
  · rename_i x' el hu1 hu2 hn
    split at h
    · rename_i len cs hel hsl
      split at h
      · rename_i hle
        obtain ⟨xs, hxs, rfl⟩ := Option.map_eq_some_iff.1 h
        rcases sliceAt_ok hs hx hsl with ⟨rfl, rfl, rfl⟩ | ⟨a, rfl, rfl, rfl⟩ | ⟨b, o, cap, vs, rfl, hcs, hcell⟩
        · simp [numsOfCells] at hxs
          subst hxs
          exact OpOk.pure hs (run_convert_bytes_nil w src el hu1 hel 0 0 dst hu2) (.str _ _)
        · simp [numsOfCells] at hxs
          subst hxs
          exact OpOk.pure hs (v' := .string (strOfNums [])) (by simp [convert, runder hu1, runder hu2, runder hel, loadCells, loadCellsFrom]; rfl) (.str _ _)
        · have hnum := nums_ok _ _ _ hxs (hcs.1.take len)
          have hl1 : (vs.take len).length = len := by have := hcs.1.1; simp; omega
          have hlx : xs.length = len := by rw [hnum] at hl1; simpa using hl1
          refine OpOk.pure hs (run_convert_bytes_arg w src el hu1 hel b o len cap xs hlx (fun i hi => ?_) dst hu2) (.str _ _)
          apply hcell (by omega) i
          have : (vs.take len)[i]? = (xs.map (Value.int .u8))[i]? := by rw [hnum]
          rw [List.getElem?_take, if_pos hi] at this
          rw [this]
          simp [hlx, hi]
      · cases h
    · cases h
  · cases h
/-! ### append, copy -/
theorem items_ok (hs : HS w0 B e H w) {n : Nat} {x : V} {v : Value} {k : Nat} {vs : List V} (hx : Rep w0 B e x v) (h : itemsV H n x = some (k, vs)) :
    ∃ news : List Value, (∀ W, (Builtin.lenOf v).run P W = .ok k W) ∧ (Builtin.firstCells n k v).run P w = .ok ⟨news⟩ w ∧ CellsOk w0 B e vs news ∧ news.length = k * n ∧
      ∀ k', k' ≤ k → (Builtin.firstCells n k' v).run P w = .ok ⟨news.take (k' * n)⟩ w := by
  unfold itemsV at h
  split at h
  · rename_i s
    split at h
    · rename_i hn
      subst hn
      cases h; cases hx
      have hlen : (s.data.toList.map fun b => Value.int .u8 b.toNat).length = s.size := by simp
      refine ⟨s.data.toList.map fun b => Value.int .u8 b.toNat, fun W => by simp [Builtin.lenOf], ?_, bytes_cells s, by rw [hlen]; omega, fun k' hk' => ?_⟩
      · simp only [Builtin.firstCells, Sem.run_pure]
        congr 1
        apply Array.ext'
        simp only [Array.toList_map]
        congr 1
        have : (s.extract 0 s.size) = s := by simp
        rw [this]
      · simp only [Builtin.firstCells, Sem.run_pure]
        congr 1
        apply Array.ext'
        simp only [Array.toList_map, ← List.map_take]
        congr 1
        rw [ByteArray.data_extract]
        simp [Array.toList_extract]
    · cases h
  · split at h
    · rename_i len cs hsl
      split at h
      · rename_i hle
        simp only [Option.some.injEq, Prod.mk.injEq] at h
        obtain ⟨rfl, rfl⟩ := h
        rcases sliceAt_ok hs hx hsl with ⟨rfl, rfl, rfl⟩ | ⟨a, rfl, rfl, rfl⟩ | ⟨b, o, cap, ws, rfl, hcs, hcell⟩
        · refine ⟨[], fun W => by simp [Builtin.lenOf], by simp [Builtin.firstCells], by simpa using CellsOk.nil w0 B e, by simp, fun k' hk' => by simp [Builtin.firstCells]⟩
        · refine ⟨[], fun W => by simp [Builtin.lenOf], by simp [Builtin.firstCells, loadCells, loadCellsFrom], by simpa using CellsOk.nil w0 B e, by simp, fun k' hk' => ?_⟩
          have : k' = 0 := by omega
          subst this
          simp [Builtin.firstCells, loadCells, loadCellsFrom]
        · have hl : ws.length = cs.length := hcs.1.1.symm
          have key : ∀ k', k' ≤ len → (loadCells ⟨b, o, none⟩ (k' * n)).run P w = .ok ⟨ws.take (k' * n)⟩ w := by
            intro k' hk'
            have hkn : k' * n ≤ len * n := Nat.mul_le_mul_right _ hk'
            rcases Nat.eq_zero_or_pos len with h0 | h0
            · subst h0
              have : k' = 0 := by omega
              subst this
              simp [loadCells, loadCellsFrom]
            · have hl2 : (ws.take (k' * n)).length = k' * n := by rw [List.length_take]; omega
              have := run_loadCells_list (P := P) w ⟨b, o, none⟩ (ws.take (k' * n)) (fun j u hu => by
                rw [add_plain]
                rw [List.getElem?_take] at hu
                split at hu
                · exact hcell h0 j u hu
                · cases hu)
              rw [hl2] at this
              exact this
          refine ⟨ws.take (len * n), fun W => by simp [Builtin.lenOf], by simpa [Builtin.firstCells] using key len (Nat.le_refl _), hcs.take _, by rw [List.length_take]; omega, fun k' hk' => ?_⟩
          have hkn : k' * n ≤ len * n := Nat.mul_le_mul_right _ hk'
          rw [List.take_take, Nat.min_eq_left hkn]
          simpa [Builtin.firstCells] using key k' hk'
      · cases h
    · cases h
end
end Go.Ev
