/-
  EACH OPERATION THAT CALLS NOTHING DOES WHAT THE EVALUATOR SAYS, seventh part: make, conversions, append, copy (own work).
-/
import Derived.Test.YtmcakfjbefelgaaDoorEvA
import Derived.Lib.ConvBytes
import Derived.Laws.AppendOwn
set_option linter.unusedSimpArgs false
set_option linter.unusedVariables false
namespace Go.Ev
open Go

section
variable {P : Program} {w0 : World} {B : Nat} {e : Emb} {H : Heap} {w : World}

theorem raskRoom (n : Nat) (w : World) : (askRoom n).run P w = .ok () w := by
  unfold askRoom
  split
  · rfl
  · rfl

theorem makeSlice_ok (hs : HS w0 B e H w) {t : TypeId} {l c : V} {vl vc : Value} {r : V × Heap} (hl : Rep w0 B e l vl) (hc : Rep w0 B e c vc) (h : makeSliceV P H t l c = some r) :
    OpOk P w0 B e H w (do Pure.pure (.value (← Instr.makeSlice t vl vc))) r := by
  unfold makeSliceV at h
  split at h
  · rename_i el l c hu
    split at h
    · rename_i n b z hn hb hz
      split at h
      · rename_i hcond
        simp only [Bool.and_eq_true, decide_eq_true_eq, beq_iff_eq] at hcond
        obtain ⟨⟨⟨⟨⟨h0, h1⟩, h2⟩, h3⟩, h4⟩, h5⟩ := hcond
        subst h1
        cases h; cases hl; cases hc
        obtain ⟨zv, hzv, hzc, i, hi, hi2⟩ := tzc_ok hz
        obtain ⟨m, rfl⟩ := Int.eq_ofNat_of_zero_le h0
        obtain ⟨ib, hib, hbytes⟩ := info_of_tbytes hb
        rw [hi] at hib; cases hib
        have hzero := zeros_ok (hzc w0 B e) m (m * n) (by rw [h4])
        have hw : IntKind.i64.wrap (m : Int) = m := by unfold IntKind.wrap; simp [IntKind.bits, IntKind.signed]; omega
        have hrun : (Instr.makeSlice t (.int .i64 (m : Int)) (.int .i64 (m : Int))).run P w = .ok (.slice (some ⟨w.heap.size, 0, none⟩) m m) { w with heap := w.heap.push (.cells ((Array.range (m * n)).map (zv.cells[· % zv.cells.size]!)) el) } := by
          have hbig : ¬ ((i.bytes : Int) * (m : Int) > 2 ^ 48) := by rw [hbytes]; rw [Int.mul_comm]; omega
          have hneg : ¬ ((m : Int) < 0) := by omega
          simp only [Instr.makeSlice, Sem.run_bind, runder hu, Result.andThen_ok, asInt, asIntOf, Sem.run_pure, rtypeInfo hi, hw, hneg, hbig, decide_false, Bool.false_or, Bool.or_false, gt_iff_lt, Int.lt_irrefl, Bool.false_eq_true, if_false, raskRoom, Int.toNat_natCast, rsizeOf hn]
          by_cases hmn : m * n = 0
          · have hr0 : Array.range 0 = (#[] : Array Nat) := by simp [Array.range]
            simp only [hmn, if_true, Sem.run_pure, Result.andThen_ok, hr0, Array.map_empty, rnewRow]
            simp [rnewRow]
          · simp only [hmn, if_false, hzv, Sem.run_bind, Sem.run_pure, Result.andThen_ok, rnewRow]
        simp only [Int.toNat_natCast]
        exact OpOk.val hrun (row_ok (el := el) hs true hzero) (sl_new e H.length m m n w.heap.size _ (Nat.le_refl _) h5 (by simp))
      · cases h
    · cases h
  · cases h

/-! ### Conversions -/
theorem nums_ok : ∀ (cs : List V) (xs : List Int) (vs : List Value), numsOfCells cs = some xs → RepL w0 B e cs vs → vs = xs.map (Value.int .u8)
  | [], xs, vs, h, hr => by
    simp only [numsOfCells, Option.some.injEq] at h
    subst h
    cases vs with
    | nil => rfl
    | cons v vs => have := hr.1; simp at this
  | c :: cs, xs, vs, h, hr => by
    cases vs with
    | nil => have := hr.1; simp at this
    | cons v vs =>
      unfold numsOfCells at h
      split at h
      · rename_i heq; cases heq
      · rename_i n l heq
        cases heq
        obtain ⟨ys, hys, rfl⟩ := Option.map_eq_some_iff.1 h
        have h1 := hr.head
        cases h1
        rw [List.map_cons, nums_ok cs ys vs hys hr.tail]
      · cases h

theorem sliceAt_ok (hs : HS w0 B e H w) {a : V} {v : Value} {len : Nat} {cs : List V} (h : Rep w0 B e a v) (hc : sliceAtV H a = some (len, cs)) :
    (v = .slice none 0 0 ∧ len = 0 ∧ cs = []) ∨ (∃ a, v = .slice (some a) 0 0 ∧ len = 0 ∧ cs = []) ∨ ∃ b o cap vs, v = .slice (some ⟨b, o, none⟩) len cap ∧ CellsOk w0 B e cs vs ∧ (0 < len → ∀ j x, vs[j]? = some x → w.cell? ⟨b, o + j, none⟩ = some x) := by
  cases h with
  | nils =>
    simp only [sliceAtV, Option.some.injEq, Prod.mk.injEq] at hc
    exact .inl ⟨rfl, hc.1.symm, hc.2.symm⟩
  | sl _ id off len' sz cap eb o h h2 h3 h4 h5 =>
    right; right
    simp only [sliceAtV] at hc
    split at hc
    · rename_i cs0 ex hid
      simp only [Option.some.injEq, Prod.mk.injEq] at hc
      obtain ⟨rfl, rfl⟩ := hc
      obtain ⟨b, o', vs, hv, hcs, hcell⟩ := cellsAt_ok hs (a := .ptr id off) (cs := cs0.drop off) (.ptr _ id off eb h) (by simp [cellsAt, hid])
      cases hv
      refine ⟨_, o, cap, vs, rfl, hcs, fun hp j x hx => ?_⟩
      rw [h5 (by omega)]
      exact hcell j x hx
    · cases hc
  | rose _ a =>
    simp only [sliceAtV, Option.some.injEq, Prod.mk.injEq] at hc
    exact .inr (.inl ⟨a, rfl, hc.1.symm, hc.2.symm⟩)
  | ros _ len' cs' b o cap f hl hcc h1 hr =>
    right; right
    simp only [sliceAtV, Option.some.injEq, Prod.mk.injEq] at hc
    obtain ⟨rfl, rfl⟩ := hc
    obtain ⟨b', o', vs, hv, hcs, hcell⟩ := cellsAt_ok hs (a := .ro cs') (cs := cs') (Rep.ro e cs' b o f hcc h1 hr) rfl
    cases hv
    exact ⟨b, o, cap, vs, rfl, hcs, fun _ => hcell⟩
  | _ => simp [sliceAtV] at hc

theorem bytes_cells (s : ByteArray) : CellsOk w0 B e (byteCells s) (s.data.toList.map fun b => Value.int .u8 b.toNat) := by
  refine ⟨⟨by simp [byteCells], fun j h1 h2 => ?_⟩, fun v hv => ?_⟩
  · simp only [byteCells, List.getElem_map]
    exact .int _ _ _
  · simp only [List.mem_map] at hv
    obtain ⟨b, _, rfl⟩ := hv
    rfl

theorem convert_ok (hs : HS w0 B e H w) {src dst : TypeId} {x : V} {v : Value} {r : V × Heap} (hx : Rep w0 B e x v) (h : convertV P H src dst x = some r) :
    OpOk P w0 B e H w (do Pure.pure (.value (← convert src dst v))) r := by
  unfold convertV at h
  split at h
  · rename_i d1 k k' n hu1 hu2
    cases h; cases hx
    refine OpOk.pure hs (v' := .int k (k.wrap n)) ?_ (.int _ _ _)
    simp only [convert, Sem.run_bind, runder hu1, runder hu2, Result.andThen_ok]
    cases d1 <;> simp [Conv.intToInt]
  · rename_i d1 s hu1 hu2
    cases h; cases hx
    refine OpOk.pure hs (v' := .string s) ?_ (.str _ _)
    simp only [convert, Sem.run_bind, runder hu1, runder hu2, Result.andThen_ok]
    cases d1 <;> simp
  · rename_i d1 el s hu1 hu2
    split at h
    · rename_i hel
      cases h; cases hx
      have hcells : CellsOk w0 B e (byteCells s) (s.data.toList.map fun b => Value.int .u8 b.toNat) := bytes_cells s
      have hheap : (Lib.bytesWorld w el s).heap = w.heap.push (.cells (Lib.bytesCells w el s) el ((Lib.bytesCells w el s).size, (Lib.bytesCells w el s).size + 1)) := by
        apply Array.ext_getElem?
        intro j
        rcases Nat.lt_trichotomy j w.heap.size with hj | hj | hj
        · rw [Lib.bytesWorld_at_old w el s j hj, Array.getElem?_push, if_neg (by omega)]
        · subst hj
          rw [Lib.bytesWorld_at_new, Array.getElem?_push, if_pos rfl]
        · rw [Array.getElem?_eq_none (by rw [Lib.bytesWorld_size]; omega), Array.getElem?_eq_none (by rw [Array.size_push]; omega)]
      have hge := grownCap_ge w s.size 0 el
      have hsz : (Lib.bytesCells w el s).size = grownCap w s.size 0 el := by
        simp [Lib.bytesCells]
        have : s.data.size = s.size := rfl
        omega
      have hlen : (byteCells s).length = s.size := by simp [byteCells]
      refine OpOk.val (Lib.run_convert_string_bytes w src dst el s hu1 hu2 hel)
        (Stp.frzNew hs (.cells (Lib.bytesCells w el s) el ((Lib.bytesCells w el s).size, (Lib.bytesCells w el s).size + 1)) hheap rfl rfl rfl) ?_
      refine .ros _ _ _ _ _ _ (fun j => Value.int .u8 (s.data.toList.getD j 0).toNat) hge (fun j hj => ?_) (fun j hj => rfl) (fun j hj => ?_)
      · have hsB := hs.szB
        unfold kcell known
        rw [if_neg (by omega)]
        simp only [if_pos]
        have hj' : j < s.data.toList.length := by rw [hlen] at hj; simpa using hj
        rw [Nat.zero_add, ← Array.getElem?_toList]
        simp only [Lib.bytesCells, Array.toList_append, Array.toList_map]
        rw [List.getElem?_append_left (by simpa using hj'), List.getElem?_map, List.getElem?_eq_getElem hj', List.getD_eq_getElem?_getD, List.getElem?_eq_getElem hj']
        rfl
      · have hj' : j < s.data.toList.length := by rw [hlen] at hj; simpa using hj
        simp only [byteCells, List.getElem_map, List.getD_eq_getElem?_getD, List.getElem?_eq_getElem hj', Option.getD_some]
        exact .int _ _ _
    · cases h
  · rename_i x' el hu1 hu2 hn
    split at h
    · rename_i len cs hel hsl
      split at h
      · rename_i hle
        obtain ⟨xs, hxs, rfl⟩ := Option.map_eq_some_iff.1 h
        rcases sliceAt_ok hs hx hsl with ⟨rfl, rfl, rfl⟩ | ⟨a, rfl, rfl, rfl⟩ | ⟨b, o, cap, vs, rfl, hcs, hcell⟩
        · simp [numsOfCells] at hxs
          subst hxs
          exact OpOk.pure hs (run_convert_bytes_nil w src el hu1 hel 0 0 dst hu2) (.str _ _)
        · simp [numsOfCells] at hxs
          subst hxs
          exact OpOk.pure hs (v' := .string (strOfNums [])) (by simp [convert, runder hu1, runder hu2, runder hel, loadCells, loadCellsFrom]; rfl) (.str _ _)
        · have hnum := nums_ok _ _ _ hxs (hcs.1.take len)
          have hl1 : (vs.take len).length = len := by have := hcs.1.1; simp; omega
          have hlx : xs.length = len := by rw [hnum] at hl1; simpa using hl1
          refine OpOk.pure hs (run_convert_bytes_arg w src el hu1 hel b o len cap xs hlx (fun i hi => ?_) dst hu2) (.str _ _)
          apply hcell (by omega) i
          have : (vs.take len)[i]? = (xs.map (Value.int .u8))[i]? := by rw [hnum]
          rw [List.getElem?_take, if_pos hi] at this
          rw [this]
          simp [hlx, hi]
      · cases h
    · cases h
  · cases h
/-! ### append, copy -/
theorem items_ok (hs : HS w0 B e H w) {n : Nat} {x : V} {v : Value} {k : Nat} {vs : List V} (hx : Rep w0 B e x v) (h : itemsV H n x = some (k, vs)) :
    ∃ news : List Value, (∀ W, (Builtin.lenOf v).run P W = .ok k W) ∧ (Builtin.firstCells n k v).run P w = .ok ⟨news⟩ w ∧ CellsOk w0 B e vs news ∧ news.length = k * n ∧
      ∀ k', k' ≤ k → (Builtin.firstCells n k' v).run P w = .ok ⟨news.take (k' * n)⟩ w := by
  unfold itemsV at h
  split at h
  · rename_i s
    split at h
    · rename_i hn
      subst hn
      cases h; cases hx
      have hlen : (s.data.toList.map fun b => Value.int .u8 b.toNat).length = s.size := by simp
      refine ⟨s.data.toList.map fun b => Value.int .u8 b.toNat, fun W => by simp [Builtin.lenOf], ?_, bytes_cells s, by rw [hlen]; omega, fun k' hk' => ?_⟩
      · simp only [Builtin.firstCells, Sem.run_pure]
        congr 1
        apply Array.ext'
        simp only [Array.toList_map]
        congr 1
        have : (s.extract 0 s.size) = s := by simp
        rw [this]
      · simp only [Builtin.firstCells, Sem.run_pure]
        congr 1
        apply Array.ext'
        simp only [Array.toList_map, ← List.map_take]
        congr 1
        rw [ByteArray.data_extract]
        simp [Array.toList_extract]
    · cases h
  · split at h
    · rename_i len cs hsl
      split at h
      · rename_i hle
        simp only [Option.some.injEq, Prod.mk.injEq] at h
        obtain ⟨rfl, rfl⟩ := h
        rcases sliceAt_ok hs hx hsl with ⟨rfl, rfl, rfl⟩ | ⟨a, rfl, rfl, rfl⟩ | ⟨b, o, cap, ws, rfl, hcs, hcell⟩
        · refine ⟨[], fun W => by simp [Builtin.lenOf], by simp [Builtin.firstCells], by simpa using CellsOk.nil w0 B e, by simp, fun k' hk' => by simp [Builtin.firstCells]⟩
        · refine ⟨[], fun W => by simp [Builtin.lenOf], by simp [Builtin.firstCells, loadCells, loadCellsFrom], by simpa using CellsOk.nil w0 B e, by simp, fun k' hk' => ?_⟩
          have : k' = 0 := by omega
          subst this
          simp [Builtin.firstCells, loadCells, loadCellsFrom]
        · have hl : ws.length = cs.length := hcs.1.1.symm
          have key : ∀ k', k' ≤ len → (loadCells ⟨b, o, none⟩ (k' * n)).run P w = .ok ⟨ws.take (k' * n)⟩ w := by
            intro k' hk'
            have hkn : k' * n ≤ len * n := Nat.mul_le_mul_right _ hk'
            rcases Nat.eq_zero_or_pos len with h0 | h0
            · subst h0
              have : k' = 0 := by omega
              subst this
              simp [loadCells, loadCellsFrom]
            · have hl2 : (ws.take (k' * n)).length = k' * n := by rw [List.length_take]; omega
              have := run_loadCells_list (P := P) w ⟨b, o, none⟩ (ws.take (k' * n)) (fun j u hu => by
                rw [add_plain]
                rw [List.getElem?_take] at hu
                split at hu
                · exact hcell h0 j u hu
                · cases hu)
              rw [hl2] at this
              exact this
          refine ⟨ws.take (len * n), fun W => by simp [Builtin.lenOf], by simpa [Builtin.firstCells] using key len (Nat.le_refl _), hcs.take _, by rw [List.length_take]; omega, fun k' hk' => ?_⟩
          have hkn : k' * n ≤ len * n := Nat.mul_le_mul_right _ hk'
          rw [List.take_take, Nat.min_eq_left hkn]
          simpa [Builtin.firstCells] using key k' hk'
      · cases h
    · cases h
end
end Go.Ev

/-
  EACH OPERATION THAT CALLS NOTHING DOES WHAT THE EVALUATOR SAYS, eighth part: append, copy (own work).
-/
set_option linter.unusedSimpArgs false
set_option linter.unusedVariables false
namespace Go.Ev
open Go

section
variable {P : Program} {w0 : World} {B : Nat} {e : Emb} {H : Heap} {w : World}

/-- A block written in place and told anew, under a new name. -/
theorem Stp.renew (h : HS w0 B e H w) {id : Nat} {k0 : Blk} (hid : H[id]? = some (some k0)) {eb eb' : EB} (he : e id = some eb) (hb : eb'.b = eb.b) (k : Blk) (o : Obj)
    (hk : BlkOk w0 B (Emb.put e H.length eb') k eb' o) {w' : World} (hw : w'.heap = w.heap.setIfInBounds eb.b o) (ho : w'.os = w.os) (ht : w'.tape = w.tape) (hp : w'.output = w.output) (hdr : w.drawn ≤ w'.drawn := by first | exact Nat.le_refl _ | exact Nat.le_succ _) :
    Stp w0 B e H w (Emb.put e H.length eb') (H.set id none ++ [some k]) w' := by
  have hd := h.dom id eb he
  have hget : ∀ b, b ≠ eb.b → w'.heap[b]? = w.heap[b]? := fun b hb => by rw [hw, Array.getElem?_setIfInBounds_ne (Ne.symm hb)]
  have hsize : w'.heap.size = w.heap.size := by rw [hw, Array.size_setIfInBounds]
  have low : ∀ i bi, (H.set id none ++ [some k])[i]? = some (some bi) → (i < H.length ∧ i ≠ id ∧ H[i]? = some (some bi)) ∨ (i = H.length ∧ bi = k) := by
    intro i bi hi
    rcases Nat.lt_or_ge i H.length with hl | hg
    · left
      rw [List.getElem?_append_left (by simpa using hl), List.getElem?_set] at hi
      split at hi
      · split at hi <;> cases hi
      · rename_i hne; exact ⟨hl, fun h => hne h.symm, hi⟩
    · right
      rw [List.getElem?_append_right (by simpa using hg)] at hi
      simp only [List.length_set] at hi
      have h0 : i - H.length = 0 := by
        rcases Nat.eq_zero_or_pos (i - H.length) with h0 | h0
        · exact h0
        · rw [List.getElem?_eq_none (by simp; omega)] at hi; cases hi
      rw [h0] at hi
      simp at hi
      exact ⟨by omega, hi.symm⟩
  have eput : ∀ i x, i < H.length → (Emb.put e H.length eb') i = some x → e i = some x := fun i x hi hx => by
    simp only [Emb.put] at hx; rw [if_neg (by omega)] at hx; exact hx
  refine ⟨⟨fun b hb' => ?_, by rw [hsize]; exact h.szB, fun i x hx => ?_, fun i k' hk' => ?_, fun i j bi bj ei ej hi hj h1 h2 h3 => ?_, fun b o hb => by rw [hget b fun hbe => by have := h.frl id k0 eb hid he; rw [← hbe, show e.frz b = some o from hb] at this; cases this]; exact h.frz b o hb, fun i k' x hk' hx => ?_⟩, fun i hi => ?_, by simp, fun i b hi hb' => ?_, fun i x hi hx => ?_, fun b hb' hn => hget b fun hbe => ?_, by omega, ho, ht, hp, fun _ _ h => h, fun _ _ h => .inl h, fun _ => hdr⟩
  · rw [hget b (by omega)]; exact h.old b hb'
  · simp only [Emb.put] at hx
    split at hx
    · cases hx; rw [hsize]; simp; omega
    · have := h.dom i x hx; rw [hsize]; simp; omega
  · rcases low i k' hk' with ⟨hl, hne, hi⟩ | ⟨rfl, rfl⟩
    · obtain ⟨x, o', hx, ho', hok⟩ := h.live i k' hi
      refine ⟨x, o', h.put_up eb' _ _ hx, ?_, hok.mono (h.put_up eb')⟩
      rw [hget x.b fun hb => hne (h.inj i id k' k0 x eb hi hid hx he hb)]
      exact ho'
    · exact ⟨eb', o, put_self _ _ _, by rw [hw, hb, Array.getElem?_setIfInBounds_self, if_pos hd.2.2], hk⟩
  · rcases low i bi hi with ⟨a1, a2, a3⟩ | ⟨a1, a2⟩ <;> rcases low j bj hj with ⟨b1, b2, b3⟩ | ⟨b1, b2⟩
    · exact h.inj i j bi bj ei ej a3 b3 (eput _ _ a1 h1) (eput _ _ b1 h2) h3
    · exfalso
      subst b1
      rw [put_self] at h2; cases h2
      exact a2 (h.inj i id bi k0 ei eb a3 hid (eput _ _ a1 h1) he (by omega))
    · exfalso
      subst a1
      rw [put_self] at h1; cases h1
      exact b2 (h.inj j id bj k0 ej eb b3 hid (eput _ _ b1 h2) he (by omega))
    · omega
  · show e.frz x.b = none
    rcases low i k' hk' with ⟨a1, a2, a3⟩ | ⟨a1, a2⟩
    · exact h.frl i k' x a3 (eput _ _ a1 hx)
    · subst a1
      rw [put_self] at hx; cases hx
      rw [hb]; exact h.frl id k0 eb hid he
  · simp only [Emb.put]; rw [if_neg (by omega)]
  · rcases low i b hb' with ⟨_, _, h3⟩ | ⟨h3, _⟩
    · exact ⟨b, h3⟩
    · omega
  · simp only [Emb.put] at hx
    split at hx
    · cases hx; right; exact ⟨id, k0, eb, hid, he, hb.symm⟩
    · have := h.dom i x hx; omega
  · exact hn id k0 eb hid he hbe.symm

theorem rappend_room {t el u : TypeId} {ty : TypeId} {ts : Array TypeId} {n k : Nat} {a : Addr} {sLen sCap : Nat} {vx : Value} {news : List Value} {w' : World} (ht : ts[0]? = some t) (hts : ts[1]? = some u)
    (hu : P.underlying t = some (.slice el)) (hn : tsz P el = some n) (hni : notInt P u = true) (hlen : ∀ W, (Builtin.lenOf vx).run P W = .ok k W) (hf : (Builtin.firstCells n k vx).run P w = .ok ⟨news⟩ w)
    (hroom : sLen + k ≤ sCap) (hst : (storeCells (a.add (sLen * n)) news).run P w = .ok () w') :
    (Builtin.append_ ts ty #[.slice (some a) sLen sCap, vx]).run P w = .ok (.slice (some a) (sLen + k) sCap) w' := by
  unfold notInt at hni
  cases hd : P.underlying u with
  | none => rw [hd] at hni; cases hni
  | some d =>
    rw [hd] at hni
    simp only [Builtin.append_, ht, hts]
    cases d <;> first
      | (cases hni; done)
      | (simp [runder hu, runder hd, rsizeOf hn, hlen, hf, hroom, hst]; done)

theorem rappend_none {t el u : TypeId} {ty : TypeId} {ts : Array TypeId} {n : Nat} {vx : Value} {news : List Value} (ht : ts[0]? = some t) (hts : ts[1]? = some u)
    (hu : P.underlying t = some (.slice el)) (hn : tsz P el = some n) (hni : notInt P u = true) (hlen : ∀ W, (Builtin.lenOf vx).run P W = .ok 0 W) (hf : (Builtin.firstCells n 0 vx).run P w = .ok ⟨news⟩ w) :
    (Builtin.append_ ts ty #[.slice none 0 0, vx]).run P w = .ok (.slice none 0 0) w := by
  unfold notInt at hni
  cases hd : P.underlying u with
  | none => rw [hd] at hni; cases hni
  | some d =>
    rw [hd] at hni
    simp only [Builtin.append_, ht, hts]
    cases d <;> first
      | (cases hni; done)
      | (simp [runder hu, runder hd, rsizeOf hn, hlen, hf]; done)

set_option maxHeartbeats 2000000 in
theorem rappend_grow {t el u : TypeId} {ty : TypeId} {ts : Array TypeId} {n b k : Nat} {base : Option Addr} {sLen sCap : Nat} {vx z : Value} {old news : Array Value} (ht : ts[0]? = some t) (hts : ts[1]? = some u)
    (hu : P.underlying t = some (.slice el)) (hn : tsz P el = some n) (hb : tbytes P el = some b) (hb0 : b ≠ 0) (hz : ∀ w, (zeroValue el).run P w = .ok z w) (hni : notInt P u = true) (hlen : ∀ W, (Builtin.lenOf vx).run P W = .ok k W)
    (hf : (Builtin.firstCells n k vx).run P w.drew = .ok news w.drew) (hold : (Builtin.firstCells n sLen (.slice base sLen sCap)).run P w.drew = .ok old w.drew)
    (hroom : sCap < sLen + k) (hfit : (sLen + k) * b ≤ 140737488355328) :
    (Builtin.append_ ts ty #[.slice base sLen sCap, vx]).run P w = .ok (.slice (some ⟨w.heap.size, 0, none⟩) (sLen + k) (grownCap w (sLen + k) sCap el))
      (w.drew.alloc (.cells (old ++ news ++ Builtin.zeroCells z.cells (grownCap w (sLen + k) sCap el - (sLen + k))) el)) := by
  obtain ⟨i, hi, rfl⟩ := info_of_tbytes hb
  have hfits := growslice_fits hroom hfit
  unfold notInt at hni
  have hnot : ¬ (sLen + k ≤ sCap) := by omega
  have hbig : ¬ (2 ^ 48 < Builtin.nextslicecap (sLen + k) sCap * i.bytes) := by omega
  have hbig' : ¬ (281474976710656 < Builtin.nextslicecap (sLen + k) sCap * i.bytes) := by omega
  have hforced : (Question.appendCap (sLen + k) sCap el).forced = false := rfl
  cases hd : P.underlying u with
  | none => rw [hd] at hni; cases hni
  | some d =>
    rw [hd] at hni
    simp only [Builtin.append_, ht, hts]
    cases d <;> first
      | (cases hni; done)
      | (simp [runder hu, runder hd, rsizeOf hn, hlen, hf, hold, hnot, hb0, hbig, hbig', rtypeInfo hi, raskRoom, rnewRow, hforced, hz, grownCap]; done)
theorem zeroCells_one {z : Array Value} {n : Nat} (h : ∀ v ∈ z.toList, one v = true) : ∀ v ∈ (Builtin.zeroCells z n).toList, one v = true := fun v hv => by
  simp only [Builtin.zeroCells, Array.toList_map, List.mem_map, Array.toList_range, List.mem_range] at hv
  obtain ⟨i, hi, rfl⟩ := hv
  have hp : 0 < z.size := by rcases Nat.eq_zero_or_pos z.size with h0 | h0; · rw [h0] at hi; simp at hi
                             · exact h0
  have hm : i % z.size < z.size := Nat.mod_lt _ hp
  rw [getElem!_pos z _ hm]
  exact h _ (by rw [Array.mem_toList_iff]; exact Array.getElem_mem hm)
theorem zeroCells_size (z : Array Value) (n : Nat) : (Builtin.zeroCells z n).size = n * z.size := by simp [Builtin.zeroCells]

/-- The new row of an append. -/
theorem grown_ok (hs : HS w0 B e H w) {el : TypeId} {cs : List V} {vs : List Value} (hc : CellsOk w0 B e cs vs) (rest : Array Value) {old news : List Value} (ho : old ++ news = vs) {len cap sz : Nat} (hl : len ≤ cap) (hz : 0 < sz) (hsz : vs.length + rest.size = cap * sz) (hrest : ∀ v ∈ rest.toList, one v = true) :
    Stp w0 B e H w (Emb.put e H.length ⟨w.heap.size, 0, cap * sz⟩) (H ++ [some (.cells cs false)]) (w.drew.alloc (.cells ((⟨old⟩ : Array Value) ++ ⟨news⟩ ++ rest) el)) ∧
      Rep w0 B (Emb.put e H.length ⟨w.heap.size, 0, cap * sz⟩) (.sl H.length 0 len sz) (.slice (some ⟨w.heap.size, 0, none⟩) len cap) := by
  refine ⟨?_, sl_new e H.length len cap sz w.heap.size _ hl hz rfl⟩
  have := row_more_ok (more := rest.toList) (el := el) hs hc hrest
  have e1 : vs.length + rest.toList.length = cap * sz := by simpa using hsz
  rw [e1] at this
  have e2 : (⟨vs ++ rest.toList⟩ : Array Value) = (⟨old⟩ : Array Value) ++ ⟨news⟩ ++ rest := by
    apply Array.ext'
    simp [← ho]
  rw [e2] at this
  exact ⟨this.hs.same rfl, this.ext, this.len, this.alive, this.new, this.frame, this.size, rfl, rfl, rfl, this.fup, this.fnew, fun _ => Nat.le_succ _⟩

set_option maxHeartbeats 2000000 in
theorem rappendZ_grow {t el u : TypeId} {ty : TypeId} {ts : Array TypeId} {n b l : Nat} {k ik : IntKind} {z : Value} (ht : ts[0]? = some t) (hts : ts[1]? = some u)
    (hu : P.underlying t = some (.slice el)) (hd : P.underlying u = some (.int ik)) (hn : tsz P el = some n) (hb : tbytes P el = some b) (hb0 : b ≠ 0) (hn0 : n ≠ 0) (hz : ∀ w, (zeroValue el).run P w = .ok z w) (hl : l ≠ 0) (hfit : l * b ≤ 140737488355328) :
    (Builtin.append_ ts ty #[.slice none 0 0, .int k (l : Int)]).run P w = .ok (.slice (some ⟨w.heap.size, 0, none⟩) l (grownCap w l 0 el))
      (w.drew.alloc (.cells ((⟨[]⟩ : Array Value) ++ Builtin.zeroCells z.cells l ++ Builtin.zeroCells z.cells (grownCap w l 0 el - l)) el)) := by
  obtain ⟨i, hi, rfl⟩ := info_of_tbytes hb
  have hroom : 0 < 0 + l := by omega
  have hfits := growslice_fits hroom (bytes := i.bytes) (by simpa using hfit)
  have hle : l ≤ 140737488355328 := Nat.le_trans (Nat.le_mul_of_pos_right l (by omega)) hfit
  have hw : IntKind.i64.wrap (l : Int) = l := by unfold IntKind.wrap; simp [IntKind.bits, IntKind.signed]; omega
  have hneg : ¬ ((l : Int) < 0) := by omega
  have hbig0 : ¬ (281474976710656 < (l : Int) * (i.bytes : Int)) := by
    have := Int.ofNat_le.2 hfit
    rw [Int.natCast_mul] at this
    omega
  simp only [Nat.zero_add] at hfits
  have hbig' : ¬ (281474976710656 < Builtin.nextslicecap l 0 * i.bytes) := by omega
  have hmax : ¬ ((9223372036854775807 : Int) < (l : Int)) := by omega
  have hln : ¬ (l * n = 0) := Nat.mul_ne_zero hl hn0
  have hforced : (Question.appendCap l 0 el).forced = false := rfl
  have hempty : (⟨[]⟩ : Array Value) = #[] := rfl
  simp only [Builtin.append_, ht, hts]
  simp [runder hu, runder hd, rsizeOf hn, asInt, asIntOf, hw, hneg, hbig0, rtypeInfo hi, hl, hmax, IntKind.max, IntKind.signed, IntKind.bits, hbig', raskRoom, rnewRow, hforced, hz, grownCap, hln, Builtin.firstCells, loadCells, loadCellsFrom, hn0]

set_option maxHeartbeats 2000000 in
theorem rappendZ_growN {t el u : TypeId} {ty : TypeId} {ts : Array TypeId} {n b l : Nat} {k ik : IntKind} {base : Option Addr} {sLen sCap : Nat} {old : Array Value} {z : Value} (ht : ts[0]? = some t) (hts : ts[1]? = some u)
    (hu : P.underlying t = some (.slice el)) (hd : P.underlying u = some (.int ik)) (hn : tsz P el = some n) (hb : tbytes P el = some b) (hb0 : b ≠ 0) (hn0 : n ≠ 0) (hz : ∀ w, (zeroValue el).run P w = .ok z w) (hl : l ≠ 0)
    (hold : (Builtin.firstCells n sLen (.slice base sLen sCap)).run P w.drew = .ok old w.drew) (hroom : sCap < sLen + l) (hfit : (sLen + l) * b ≤ 140737488355328) :
    (Builtin.append_ ts ty #[.slice base sLen sCap, .int k (l : Int)]).run P w = .ok (.slice (some ⟨w.heap.size, 0, none⟩) (sLen + l) (grownCap w (sLen + l) sCap el))
      (w.drew.alloc (.cells (old ++ Builtin.zeroCells z.cells l ++ Builtin.zeroCells z.cells (grownCap w (sLen + l) sCap el - (sLen + l))) el)) := by
  obtain ⟨i, hi, rfl⟩ := info_of_tbytes hb
  have hfits := growslice_fits hroom (bytes := i.bytes) hfit
  have hle0 : sLen + l ≤ 140737488355328 := Nat.le_trans (Nat.le_mul_of_pos_right _ (by omega)) hfit
  have hle : l ≤ 140737488355328 := by omega
  have hfl : l * i.bytes ≤ 140737488355328 := Nat.le_trans (Nat.mul_le_mul_right _ (by omega)) hfit
  have hw : IntKind.i64.wrap (l : Int) = l := by unfold IntKind.wrap; simp [IntKind.bits, IntKind.signed]; omega
  have hneg : ¬ ((l : Int) < 0) := by omega
  have hbig0 : ¬ (281474976710656 < (l : Int) * (i.bytes : Int)) := by
    have := Int.ofNat_le.2 hfl
    rw [Int.natCast_mul] at this
    omega
  have hbig' : ¬ (281474976710656 < Builtin.nextslicecap (sLen + l) sCap * i.bytes) := by omega
  have hmax : ¬ ((9223372036854775807 : Int) < (sLen : Int) + (l : Int)) := by omega
  have hln : ¬ (l * n = 0) := Nat.mul_ne_zero hl hn0
  have hnot : ¬ (sLen + l ≤ sCap) := by omega
  have hforced : (Question.appendCap (sLen + l) sCap el).forced = false := rfl
  simp only [Builtin.append_, ht, hts]
  simp [runder hu, runder hd, rsizeOf hn, asInt, asIntOf, hw, hneg, hbig0, rtypeInfo hi, hl, hnot, hmax, IntKind.max, IntKind.signed, IntKind.bits, hbig', raskRoom, rnewRow, hforced, hz, grownCap, hln, hold, hn0]

theorem appendZ_ok (hs : HS w0 B e H w) {t el u : TypeId} {ts : Array TypeId} {ty : TypeId} {ik : IntKind} (ht : ts[0]? = some t) (hts : ts[1]? = some u) (hu : P.underlying t = some (.slice el)) (hd : P.underlying u = some (.int ik))
    {s x : V} {vs vx : Value} (hvs : Rep w0 B e s vs) (hvx : Rep w0 B e x vx) {r : V × Heap} (h : appendZ P H el s x = some r) : OpOk P w0 B e H w (do Pure.pure (.value (← Builtin.append_ ts ty #[vs, vx]))) r := by
  unfold appendZ at h
  split at h
  · rename_i k l
    split at h
    · rename_i n b z hn hb hz
      split at h
      · cases h
      · rename_i hc
        simp only [Bool.or_eq_true, decide_eq_true_eq, bne_iff_ne, ne_eq, not_or, Classical.not_not, Nat.not_lt, Int.not_lt] at hc
        obtain ⟨⟨⟨⟨hn0, hb0⟩, hzl⟩, hl0⟩, hfit⟩ := hc
        cases hvs
        cases hvx
        obtain ⟨m, rfl⟩ := Int.eq_ofNat_of_zero_le hl0
        simp only [Int.toNat_natCast] at h hfit
        split at h
        · rename_i h0
          subst h0
          cases h
          obtain ⟨i, hi, rfl⟩ := info_of_tbytes hb
          refine OpOk.pure hs (v' := .slice none 0 0) ?_ (.nils _)
          have hw : IntKind.i64.wrap 0 = 0 := rfl
          simp only [Builtin.append_, ht, hts]
          simp [runder hu, runder hd, rsizeOf hn, asInt, asIntOf, hw, rtypeInfo hi]
        · rename_i h0
          cases h
          obtain ⟨zv, hzv, hzc, _⟩ := tzc_ok hz
          have hzs : zv.cells.size = n := by have := (hzc w0 B e).1.1; simp at this; omega
          have hzero := zeros_ok (hzc w0 B e) m (m * n) (by rw [hzl])
          have hge := grownCap_ge w m 0 el
          have hrun := rappendZ_grow (P := P) (w := w) (ty := ty) (k := k) ht hts hu hd hn hb hb0 hn0 hzv h0 hfit
          have ecells : (Builtin.zeroCells zv.cells m) = ⟨((Array.range (m * n)).map (fun i => zv.cells[i % zv.cells.size]!)).toList⟩ := by
            apply Array.ext'
            simp [Builtin.zeroCells, hzs]
          obtain ⟨h1, h2⟩ := grown_ok (el := el) hs hzero (Builtin.zeroCells zv.cells (grownCap w m 0 el - m)) (old := []) (news := ((Array.range (m * n)).map (fun i => zv.cells[i % zv.cells.size]!)).toList) rfl (len := m) (cap := grownCap w m 0 el) (sz := n) hge (by omega)
            (by rw [zeroCells_size, hzs]; simp; rw [← Nat.add_mul]; congr 1; omega) (zeroCells_one (hzc w0 B e).2)
          rw [← ecells] at h1
          exact OpOk.val hrun h1 h2
    · cases h
  · rename_i id off len sz k l
    split at h
    · rename_i n b z cs0 hn hb hz hid
      split at h
      · cases h
      · rename_i hc
        simp only [Bool.or_eq_true, decide_eq_true_eq, bne_iff_ne, ne_eq, not_or, Classical.not_not, Nat.not_lt, Int.not_lt, Nat.not_le] at hc
        obtain ⟨⟨⟨⟨⟨⟨⟨⟨hn0, hb0⟩, hzl⟩, hsz⟩, hl0⟩, hl1⟩, hfit⟩, hroom⟩, hin⟩ := hc
        subst hsz
        cases h
        cases hvx
        obtain ⟨m, rfl⟩ := Int.eq_ofNat_of_zero_le hl0
        simp only [Int.toNat_natCast] at hl1 hfit hroom ⊢
        cases hvs with
        | sl _ _ _ _ _ cap eb o he k1 k2 k3 k4 =>
          obtain ⟨eb', o', he', ho', hok⟩ := hs.live id _ hid
          rw [he] at he'; cases he'
          cases o' <;> simp only [BlkOk] at hok
          rename_i c elr fr
          obtain ⟨m1, m2, m3, m4, m5⟩ := hok
          have m6 := m3 trivial
          obtain ⟨zv, hzv, hzc, _⟩ := tzc_ok hz
          have hzs : zv.cells.size = sz := by have := (hzc w0 B e).1.1; simp at this; omega
          have hzero := zeros_ok (hzc w0 B e) m (m * sz) (by rw [hzl])
          have ecells : (Builtin.zeroCells zv.cells m) = ⟨((Array.range (m * sz)).map (fun i => zv.cells[i % zv.cells.size]!)).toList⟩ := by
            apply Array.ext'
            simp [Builtin.zeroCells, hzs]
          have hlo : (((seg c eb.base cs0.length).drop off).take (len * sz)).length = len * sz := by
            have : (seg c eb.base cs0.length).length = cs0.length := m5.1.1.symm
            rw [List.length_take, List.length_drop, this]; omega
          have hold : (Builtin.firstCells sz len (.slice (some ⟨eb.b, o, none⟩) len cap)).run P w.drew = .ok ⟨((seg c eb.base cs0.length).drop off).take (len * sz)⟩ w.drew := by
            rcases Nat.eq_zero_or_pos len with h0 | h0
            · subst h0
              simp [Builtin.firstCells, loadCells, loadCellsFrom]
            · have hoo := k4 (by omega)
              have := run_loadCells_list (P := P) w.drew ⟨eb.b, o, none⟩ (((seg c eb.base cs0.length).drop off).take (len * sz)) (fun j u hu => by
                rw [add_plain, hoo]
                rw [List.getElem?_take] at hu
                split at hu
                · rw [List.getElem?_drop] at hu
                  have := seg_get hu
                  simp only [World.cell?, World.drew, ho']
                  simpa [Nat.add_assoc] using this
                · cases hu)
              rw [hlo] at this
              simpa [Builtin.firstCells] using this
          have hgrow : cap < len + m := by
            have : cap * sz < (len + m) * sz := by omega
            exact Nat.lt_of_mul_lt_mul_right this
          have hrun := rappendZ_growN (P := P) (w := w) (ty := ty) (k := k) (base := some ⟨eb.b, o, none⟩) (sLen := len) (sCap := cap) ht hts hu hd hn hb hb0 hn0 hzv hl1 hold hgrow hfit
          have hge := grownCap_ge w (len + m) cap el
          have hcold : CellsOk w0 B e ((cs0.drop off).take (len * sz)) (((seg c eb.base cs0.length).drop off).take (len * sz)) := (m5.drop off).take _
          obtain ⟨h1, h2⟩ := grown_ok (el := el) hs (hcold.append hzero) (Builtin.zeroCells zv.cells (grownCap w (len + m) cap el - (len + m))) rfl (len := len + m) (cap := grownCap w (len + m) cap el) (sz := sz) hge k2
            (by rw [List.length_append, hlo, zeroCells_size, hzs]; simp; rw [← Nat.add_mul, ← Nat.add_mul]; congr 1; omega) (zeroCells_one (hzc w0 B e).2)
          rw [← ecells] at h1
          exact OpOk.val hrun h1 h2
    · cases h
  · cases h

theorem append_ok (hs : HS w0 B e H w) {t : TypeId} {ts : Array TypeId} {ty : TypeId} (ht : ts[0]? = some t) {s x : V} {vs vx : Value} (hvs : Rep w0 B e s vs) (hvx : Rep w0 B e x vx) {r : V × Heap} (h : appendV P H t ts[1]? s x = some r) :
    OpOk P w0 B e H w (do Pure.pure (.value (← Builtin.append_ ts ty #[vs, vx]))) r := by
  unfold appendV at h
  split at h
  · rename_i el u hu hts
    split at h
    · rename_i hni
      split at h
      · rename_i n b z hn hb hz
        split at h
        · cases h
        · rename_i hc
          simp only [Bool.or_eq_true, decide_eq_true_eq, bne_iff_ne, ne_eq, not_or, Classical.not_not] at hc
          obtain ⟨⟨hn0, hb0⟩, hzl⟩ := hc
          split at h
          · rename_i k cs hit
            obtain ⟨zv, hzv, hzc, _⟩ := tzc_ok hz
            have hzs : zv.cells.size = n := by have := (hzc w0 B e).1.1; simp at this; omega
            obtain ⟨news, hlen, hf, hcs, hnl, _⟩ := items_ok (P := P) hs hvx hit
            obtain ⟨news', _, hfd, hcs', hnl', _⟩ := items_ok (P := P) (hs.same (w' := w.drew) rfl) hvx hit
            unfold appendS at h
            split at h
            · -- onto nil
              cases hvs
              split at h
              · rename_i hk
                subst hk
                cases h
                exact OpOk.pure hs (rappend_none ht hts hu hn hni hlen hf) (.nils _)
              · split at h
                · rename_i hk hfit
                  cases h
                  have hrun := rappend_grow (P := P) (w := w) (ty := ty) (z := zv) (old := ⟨[]⟩) (news := ⟨news'⟩) (base := none) (sLen := 0) (sCap := 0) ht hts hu hn hb hb0 hzv hni hlen hfd (by simp [Builtin.firstCells]) (by omega) (by simpa using hfit)
                  have hge := grownCap_ge w (0 + k) 0 el
                  obtain ⟨h1, h2⟩ := grown_ok (el := el) hs hcs' (Builtin.zeroCells zv.cells (grownCap w (0 + k) 0 el - (0 + k))) (old := []) (news := news') rfl (len := 0 + k) (cap := grownCap w (0 + k) 0 el) (sz := n) hge (by omega)
                    (by rw [zeroCells_size, hzs, hnl', ← Nat.add_mul]; congr 1; omega) (zeroCells_one (hzc w0 B e).2)
                  simp only [Nat.zero_add] at hrun h1 h2
                  exact OpOk.val hrun h1 h2
                · cases h
            · rename_i id off len sz
              split at h
              · cases h
              · rename_i hsz
                have hsz' : sz = n := by simpa using hsz
                subst hsz'
                split at h
                · rename_i cs0 ex hid
                  cases hvs with
                  | sl _ _ _ _ _ cap eb o he k1 k2 k3 k4 =>
                    obtain ⟨eb', o', he', ho', hok⟩ := hs.live id _ hid
                    rw [he] at he'; cases he'
                    cases o' <;> simp only [BlkOk] at hok
                    rename_i c elr fr
                    obtain ⟨m1, m2, m3, m4, m5⟩ := hok
                    split at h
                    · -- nothing is appended
                      rename_i hk
                      subst hk
                      cases h
                      have hnil : news = [] := List.eq_nil_of_length_eq_zero (by omega)
                      subst hnil
                      refine OpOk.pure hs (v' := .slice (some ⟨eb.b, o, none⟩) len cap) ?_ (.sl _ _ _ _ _ _ _ _ he k1 k2 k3 k4)
                      exact rappend_room (sLen := len) ht hts hu hn hni hlen hf (by omega) (by simp [storeCells])
                    · rename_i hk
                      split at h
                      · -- there is room within what is told
                        rename_i hroom
                        obtain ⟨H', hw, rfl⟩ := Option.map_eq_some_iff.1 h
                        have hcap : (len + k) * sz ≤ cap * sz := by omega
                        have hcap' : len + k ≤ cap := Nat.le_of_mul_le_mul_right hcap k2
                        have ho := k4 (by omega)
                        subst ho
                        obtain ⟨w', hst, hstp⟩ := write_ok (P := P) hs he hcs hw
                        refine OpOk.val (rappend_room (sLen := len) ht hts hu hn hni hlen hf hcap' (by rw [add_plain, Nat.add_assoc]; exact hst)) hstp ?_
                        exact (Rep.sl _ _ _ _ _ _ _ _ he hcap' k2 k3 k4).mono (hstp.up hs)
                      · rename_i hroom
                        split at h
                        · rename_i hfit
                          simp only [Bool.and_eq_true, decide_eq_true_eq] at hfit
                          -- the old cells
                          have hold : ∀ W : World, W.heap = w.heap → (0 < len → o = eb.base + off) → (Builtin.firstCells sz len (.slice (some ⟨eb.b, o, none⟩) len cap)).run P W = .ok ⟨((seg c eb.base cs0.length).drop off).take (len * sz)⟩ W := by
                            intro W hW hoo
                            have hl2 : (((seg c eb.base cs0.length).drop off).take (len * sz)).length = len * sz := by
                              have : (seg c eb.base cs0.length).length = cs0.length := m5.1.1.symm
                              rw [List.length_take, List.length_drop, this]; omega
                            rcases Nat.eq_zero_or_pos len with h0 | h0
                            · subst h0
                              simp [Builtin.firstCells, loadCells, loadCellsFrom]
                            · have := run_loadCells_list (P := P) W ⟨eb.b, o, none⟩ (((seg c eb.base cs0.length).drop off).take (len * sz)) (fun j u hu => by
                                rw [add_plain, hoo h0]
                                rw [List.getElem?_take] at hu
                                split at hu
                                · rw [List.getElem?_drop] at hu
                                  have := seg_get hu
                                  simp only [World.cell?, hW, ho']
                                  simpa [Nat.add_assoc] using this
                                · cases hu)
                              rw [hl2] at this
                              simpa [Builtin.firstCells] using this
                          have hoo : 0 < len → o = eb.base + off := fun hp => k4 (by omega)
                          have grow : cap < len + k → ∃ w' e', (Builtin.append_ ts ty #[.slice (some ⟨eb.b, o, none⟩) len cap, vx]).run P w = .ok (.slice (some ⟨w.heap.size, 0, none⟩) (len + k) (grownCap w (len + k) cap el)) w' ∧
                              Stp w0 B e H w e' (H ++ [some (.cells ((cs0.drop off).take (len * sz) ++ cs) false)]) w' ∧ Rep w0 B e' (.sl H.length 0 (len + k) sz) (.slice (some ⟨w.heap.size, 0, none⟩) (len + k) (grownCap w (len + k) cap el)) := by
                            intro hgrow
                            have hrun := rappend_grow (P := P) (w := w) (ty := ty) (z := zv) (base := some ⟨eb.b, o, none⟩) (sLen := len) (sCap := cap) ht hts hu hn hb hb0 hzv hni hlen hfd (hold w.drew rfl hoo) hgrow hfit.2
                            have hge := grownCap_ge w (len + k) cap el
                            have hcold : CellsOk w0 B e ((cs0.drop off).take (len * sz)) (((seg c eb.base cs0.length).drop off).take (len * sz)) := (m5.drop off).take _
                            have hlo : (((seg c eb.base cs0.length).drop off).take (len * sz)).length = len * sz := by
                              have : (seg c eb.base cs0.length).length = cs0.length := m5.1.1.symm
                              rw [List.length_take, List.length_drop, this]; omega
                            obtain ⟨h1, h2⟩ := grown_ok (el := el) hs (hcold.append hcs') (Builtin.zeroCells zv.cells (grownCap w (len + k) cap el - (len + k))) rfl (len := len + k) (cap := grownCap w (len + k) cap el) (sz := sz) hge k2
                              (by rw [List.length_append, hlo, zeroCells_size, hzs, hnl', ← Nat.add_mul, ← Nat.add_mul]; congr 1; omega) (zeroCells_one (hzc w0 B e).2)
                            exact ⟨_, _, hrun, h1, h2⟩
                          split at h
                          · -- a row whose end is known
                            rename_i hex
                            cases h
                            have m6 := m3 hex
                            have hlt : cap * sz < (len + k) * sz := by omega
                            obtain ⟨w', e', hrun, h1, h2⟩ := grow (Nat.lt_of_mul_lt_mul_right hlt)
                            exact OpOk.val hrun h1 h2
                          · split at h
                            · rename_i hex hend
                              cases h
                              have hall : (cs0.drop off).take (len * sz) = cs0.drop off := by apply List.take_of_length_le; rw [List.length_drop]; omega
                              by_cases hcap : len + k ≤ cap
                              · -- written in place
                                have ho := k4 (by omega)
                                subst ho
                                have hsum : off + (len + k) * sz = off + len * sz + k * sz := by rw [Nat.add_mul, Nat.add_assoc]
                                have hcs2 : (len + k) * sz ≤ cap * sz := Nat.mul_le_mul_right _ hcap
                                have hst := rstoreCells (P := P) news 0 c w eb.b (eb.base + off + len * sz) elr fr ho' (fun j hj => m4.1 j (Nat.le_of_lt hj)) (by omega) hcs.2
                                simp only [Nat.add_zero] at hst
                                rw [← add_plain eb.b (eb.base + off) (len * sz)] at hst
                                refine OpOk.val (rappend_room (sLen := len) ht hts hu hn hni hlen hf hcap hst)
                                  (Stp.renew hs hid he (eb' := ⟨eb.b, eb.base + off, eb.size⟩) rfl _ _ ?_ rfl rfl rfl rfl) ?_
                                · have hsize : (⟨c.toList.take (eb.base + off + len * sz) ++ news ++ c.toList.drop (eb.base + off + len * sz + news.length)⟩ : Array Value).size = c.size := by simp; omega
                                  have hlcs : (cs0.drop off ++ cs).length = (len + k) * sz := by
                                    have := hcs.1.1
                                    rw [List.length_append, List.length_drop]; omega
                                  refine ⟨by rw [hsize]; exact m1, by rw [hlcs]; simp only; omega, (fun h => by cases h), ⟨by rw [hsize]; exact m4.1, one_splice m4.2 hcs.2⟩, ?_⟩
                                  rw [hlcs]
                                  have hsp := seg_splice c.toList news (eb.base + off) (len * sz) ((len + k) * sz) (by omega) (by simp; omega)
                                  show CellsOk _ _ _ _ (seg _ (eb.base + off) ((len + k) * sz))
                                  unfold seg
                                  rw [hsp, List.take_take, Nat.min_eq_left (by omega), List.drop_eq_nil_of_le (as := (c.toList.drop (eb.base + off)).take ((len + k) * sz)) (i := len * sz + news.length) (by rw [List.length_take]; omega), List.append_nil]
                                  have hseg : (c.toList.drop (eb.base + off)).take (len * sz) = (seg c eb.base cs0.length).drop off := by
                                    unfold seg
                                    rw [List.drop_take, List.drop_drop]
                                    congr 1
                                    omega
                                  rw [hseg]
                                  exact ((m5.drop off).append hcs).mono (hs.put_up _)
                                · exact .sl _ _ _ _ _ cap ⟨eb.b, eb.base + off, eb.size⟩ _ (put_self _ _ _) hcap k2 (by simp only; omega) (fun _ => rfl)
                              · obtain ⟨w', e', hrun, h1, h2⟩ := grow (by omega)
                                rw [hall] at h1
                                have hk1 := Stp.kill h1.hs id
                                have hidl : id < H.length := hs.ge he
                                rw [List.set_append_left _ _ hidl] at hk1
                                exact OpOk.val hrun (h1.trans hk1) h2
                            · cases h
                        · cases h
                · cases h
            · cases h
          · cases h
      · cases h
    · split at h
      · rename_i ik hd
        exact appendZ_ok hs ht hts hu hd hvs hvx h
      · cases h
  · cases h
end
end Go.Ev

/-
  EACH OPERATION THAT CALLS NOTHING DOES WHAT THE EVALUATOR SAYS, ninth part: copy, len, min, max, maps, strings' iterators; all together (own work).
-/
set_option linter.unusedSimpArgs false
set_option linter.unusedVariables false
namespace Go.Ev
open Go

section
variable {P : Program} {w0 : World} {B : Nat} {e : Emb} {H : Heap} {w : World}

theorem copy_ok (hs : HS w0 B e H w) {t : TypeId} {ts : Array TypeId} {ty : TypeId} (ht : ts[0]? = some t) {d x : V} {vd vx : Value} (hvd : Rep w0 B e d vd) (hvx : Rep w0 B e x vx) {r : V × Heap} (h : copyV P H t d x = some r) :
    OpOk P w0 B e H w (do Pure.pure (.value (← Builtin.copy_ ts ty #[vd, vx]))) r := by
  unfold copyV at h
  split at h
  · rename_i el hu
    split at h
    · rename_i n hn
      split at h
      · rename_i k cs hit
        obtain ⟨news, hlen, hf, hcs, hnl, hft⟩ := items_ok (P := P) hs hvx hit
        split at h
        · cases h; cases hvd
          refine OpOk.pure hs (v' := .int .i64 0) ?_ (.int _ _ _)
          have := hft 0 (Nat.zero_le _)
          simp [Builtin.copy_, ht, runder hu, hlen, rsizeOf hn, this, goInt]
        · rename_i id off len sz
          split at h
          · cases h
          · rename_i hsz
            have hsz' : sz = n := by simpa using hsz
            subst hsz'
            obtain ⟨H', hw, rfl⟩ := Option.map_eq_some_iff.1 h
            cases hvd with
            | sl _ _ _ _ _ cap eb o he k1 k2 k3 k4 =>
              have hmin : Nat.min k len ≤ k := Nat.min_le_left _ _
              have hcs' := hcs.take (min k len * sz)
              obtain ⟨w', hst, hstp⟩ := write_ok (P := P) hs he hcs' hw
              have hrun : (storeCells ⟨eb.b, o, none⟩ (news.take (min k len * sz))).run P w = .ok () w' := by
                rcases Nat.eq_zero_or_pos (min k len) with h0 | h0
                · rw [h0] at hst ⊢
                  simp only [Nat.zero_mul, List.take_zero] at hst ⊢
                  exact hst
                · rw [k4 (by omega)]; exact hst
              have := hft (min k len) hmin
              exact OpOk.val (v' := .int .i64 (min k len : Nat)) (by simp [Builtin.copy_, ht, runder hu, hlen, rsizeOf hn, this, hrun, goInt]) hstp (.int _ _ _)
        · cases h
      · cases h
    · cases h
  · cases h

theorem clear_ok (hs : HS w0 B e H w) {t : TypeId} {ts : Array TypeId} {ty : TypeId} (ht : ts[0]? = some t) {x : V} {vx : Value} (hvx : Rep w0 B e x vx) {r : V × Heap} (h : clearV P H t x = some r) :
    OpOk P w0 B e H w (do Pure.pure (.value (← Builtin.clear_ ts ty #[vx]))) r := by
  unfold clearV at h
  split at h
  · rename_i el hu
    cases h; cases hvx
    exact OpOk.pure hs (v' := undef) (by simp [Builtin.clear_, ht, runder hu]; rfl) undef_ok
  · rename_i el id off len sz hu
    split at h
    · rename_i n z hn hz
      split at h
      · rename_i hc
        simp only [Bool.and_eq_true, decide_eq_true_eq, beq_iff_eq] at hc
        obtain ⟨rfl, hzl⟩ := hc
        cases hvx with
        | sl _ _ _ _ _ cap eb o he k1 k2 k3 k4 =>
          cases len with
          | zero =>
            simp only [if_true, Option.some.injEq] at h
            subst h
            exact OpOk.pure hs (v' := undef) (by simp [Builtin.clear_, ht, runder hu]; rfl) undef_ok
          | succ len =>
            simp only [Nat.add_one_ne_zero, if_false] at h
            obtain ⟨H', hw, rfl⟩ := Option.map_eq_some_iff.1 h
            obtain ⟨zx, hzx, hzc⟩ := Option.bind_eq_some_iff.1 hz
            obtain ⟨zv, hzv, hzr, _⟩ := rzero hzx
            have hcz := cells_ok (hzr w0 B e) hzc
            have hsz : zv.cells.size = n := by have := hcz.1.1; simp at this; omega
            have hcs := zeros_ok hcz (len + 1) ((len + 1) * n) (by rw [hzl])
            obtain ⟨w', hst, hstp⟩ := write_ok (P := P) hs he hcs hw
            rw [← k4 (by omega)] at hst
            have hzz : (Builtin.zeroCells zv.cells (len + 1)).toList = ((Array.range ((len + 1) * n)).map (fun i => zv.cells[i % zv.cells.size]!)).toList := by
              simp [Builtin.zeroCells, hsz]
            rw [← hzz] at hst
            exact OpOk.val (v' := undef) (by simp [Builtin.clear_, ht, runder hu, hzv, hst]; rfl) hstp undef_ok
      · cases h
    · cases h
  · cases h

theorem cap_ok (hs : HS w0 B e H w) {t : TypeId} {ts : Array TypeId} {ty : TypeId} (ht : ts[0]? = some t) {x z : V} {v : Value} (hx : Rep w0 B e x v) (h : capV P H t x = some z) :
    ∃ vz, (Builtin.cap_ ts ty #[v]).run P w = .ok vz w ∧ Rep w0 B e z vz := by
  unfold capV at h
  split at h
  · rename_i el hu
    cases h; cases hx
    exact ⟨.int .i64 0, by simp [Builtin.cap_, ht, runder hu, goInt], .int _ _ _⟩
  · rename_i el id off len sz hu
    split at h
    · rename_i cs hid
      cases h
      cases hx with
      | sl _ _ _ _ _ cap eb o he k1 k2 k3 k4 =>
        obtain ⟨eb', o', he', ho', hok⟩ := hs.live id _ hid
        rw [he] at he'; cases he'
        cases o' <;> simp only [BlkOk] at hok
        have h1 := hok.1
        have h2 := hok.2.2.1 trivial
        have h3 : cs.length - off = cap * sz := by omega
        have hcap : (cs.length - off) / sz = cap := by rw [h3]; exact Nat.mul_div_cancel _ k2
        rw [hcap]
        exact ⟨.int .i64 cap, by simp [Builtin.cap_, ht, runder hu, goInt], .int _ _ _⟩
    · cases h
  · cases h

theorem len_ok (hs : HS w0 B e H w) {t : TypeId} {ts : Array TypeId} {ty : TypeId} (ht : ts[0]? = some t) {x z : V} {v : Value} (hx : Rep w0 B e x v) (h : lenV P H t x = some z) :
    ∃ vz, (Builtin.len_ ts ty #[v]).run P w = .ok vz w ∧ Rep w0 B e z vz := by
  unfold lenV at h
  split at h
  · rename_i s hu
    cases h; cases hx
    exact ⟨.int .i64 s.size, by simp [Builtin.len_, ht, runder hu, goInt], .int _ _ _⟩
  · rename_i el hu
    cases h; cases hx
    exact ⟨.int .i64 0, by simp [Builtin.len_, ht, runder hu, goInt], .int _ _ _⟩
  · rename_i el id off len sz hu
    cases h; cases hx
    exact ⟨.int .i64 len, by simp [Builtin.len_, ht, runder hu, goInt], .int _ _ _⟩
  · rename_i el len cs hu
    cases h; cases hx
    · exact ⟨.int .i64 len, by simp [Builtin.len_, ht, runder hu, goInt], .int _ _ _⟩
    · exact ⟨.int .i64 0, by simp [Builtin.len_, ht, runder hu, goInt], .int _ _ _⟩
  · rename_i k el hu
    cases h; cases hx
    exact ⟨.int .i64 0, by simp [Builtin.len_, ht, runder hu, goInt], .int _ _ _⟩
  · rename_i k el ks vs hu
    cases h
    cases hx with
    | rom _ _ _ r clock es hm hk hv hkr hvr =>
      have hm' : w.heap[r]? = some (.map ⟨es⟩ clock) := hs.known _ _ hm
      exact ⟨.int .i64 ks.length, by simp [Builtin.len_, ht, runder hu, goInt, getObj, Sem.run, hm', hk], .int _ _ _⟩
  · rename_i k el id hu
    split at h
    · rename_i es c hid
      cases h
      cases hx with
      | map _ _ eb he =>
        obtain ⟨eb', o', he', ho', hok⟩ := hs.live id _ hid
        rw [he] at he'; cases he'
        cases o' <;> simp only [BlkOk] at hok
        rename_i ces cl
        have hsz : ces.size = es.length := by have := hok.2.1; simp at this; omega
        exact ⟨.int .i64 es.length, by simp [Builtin.len_, ht, runder hu, goInt, getObj, Sem.run, ho', hsz], .int _ _ _⟩
    · cases h
  · cases h

theorem min2_ok {x y z : V} {vx vy : Value} (h : minV x y = some z) (hx : Rep w0 B e x vx) (hy : Rep w0 B e y vy) : ∃ vz, (Builtin.min2 vx vy).run P w = .ok vz w ∧ Rep w0 B e z vz := by
  unfold minV at h
  split at h
  · cases h; cases hx; cases hy
    exact ⟨_, rfl, .int _ _ _⟩
  · cases h
theorem max2_ok {x y z : V} {vx vy : Value} (h : maxV x y = some z) (hx : Rep w0 B e x vx) (hy : Rep w0 B e y vy) : ∃ vz, (Builtin.max2 vx vy).run P w = .ok vz w ∧ Rep w0 B e z vz := by
  unfold maxV at h
  split at h
  · cases h; cases hx; cases hy
    exact ⟨_, rfl, .int _ _ _⟩
  · cases h
theorem fold_ok {f : V → V → Option V} {g : Value → Value → Sem Value} (hfg : ∀ x y z vx vy, f x y = some z → Rep w0 B e x vx → Rep w0 B e y vy → ∃ vz, (g vx vy).run P w = .ok vz w ∧ Rep w0 B e z vz) :
    ∀ (l : List V) (l' : List Value) (x z : V) (vx : Value), RepL w0 B e l l' → Rep w0 B e x vx → foldV f x l = some z → ∃ vz, (l'.foldlM g vx).run P w = .ok vz w ∧ Rep w0 B e z vz
  | [], l', x, z, vx, hl, hx, h => by
    cases l' with
    | nil => simp only [foldV, Option.some.injEq] at h; subst h; exact ⟨vx, by simp, hx⟩
    | cons a b => have := hl.1; simp at this
  | y :: l, l', x, z, vx, hl, hx, h => by
    cases l' with
    | nil => have := hl.1; simp at this
    | cons vy l' =>
      simp only [foldV] at h
      obtain ⟨u, hu, hz⟩ := Option.bind_eq_some_iff.1 h
      obtain ⟨vu, hvu, hru⟩ := hfg x y u vx vy hu hx hl.head
      obtain ⟨vz, hvz, hrz⟩ := fold_ok hfg l l' u z vu hl.tail hru hz
      exact ⟨vz, by simp [List.foldlM_cons, hvu, hvz], hrz⟩

/-! ### Maps -/
theorem key_ok {d : TypeDesc} {k : V} {vk : Value} (hk : Rep w0 B e k vk) (hkk : keyKind (some d) k = true) {k' : V} {vk' : Value} (hk' : Rep w0 B e k' vk') {b : Bool} (h : keyEq k k' = some b) :
    Instr.sameNow d vk vk' = some b := by
  unfold keyEq at h
  split at h
  · cases hk; cases hk'
    split at h
    · rename_i hkk'; subst hkk'; cases h
      cases d <;> simp [keyKind] at hkk
      simp [Instr.sameNow]
    · cases h
  · cases hk; cases hk'; cases h
    cases d <;> simp [keyKind] at hkk
    simp [Instr.sameNow]
  · cases hk; cases hk'; cases h
    cases d <;> simp [keyKind] at hkk
    simp [Instr.sameNow]
  · cases h

theorem checkKey_ok {kt : TypeId} {d : TypeDesc} {k : V} {vk : Value} (hd : P.underlying kt = some d) (hk : Rep w0 B e k vk) (hkk : keyKind (some d) k = true) (b : Bool) (n : Nat) (w : World) : (Instr.checkKey b (n + 1) kt vk).run P w = .ok () w := by
  cases hk <;> cases d <;> simp [keyKind] at hkk <;> simp [Instr.checkKey, runder hd]

theorem sameBits_ok {k k' : V} {vk vk' : Value} (hk : Rep w0 B e k vk) (hk' : Rep w0 B e k' vk') (h : keyEq k k' = some true) : Instr.sameBits 10000 vk' vk = true := by
  unfold keyEq at h
  split at h
  · cases hk; cases hk'
    split at h
    · rename_i hkk; subst hkk
      simp only [Option.some.injEq, beq_iff_eq] at h
      simp [Instr.sameBits, h]
    · cases h
  · cases hk; cases hk'
    simp only [Option.some.injEq] at h
    simp only [Instr.sameBits]
    rw [beq_toListBytes, beq_iff_eq] at h ⊢
    exact h.symm
  · cases hk; cases hk'
    simp only [Option.some.injEq, beq_iff_eq] at h
    simp [Instr.sameBits, h]
  · cases h

def Found (w0 : World) (B : Nat) (e : Emb) (vk : Value) (ces : List MapEntry) (i n : Nat) : Option (Nat × V) → Option (Nat × Value) → Prop
  | none, none => True
  | some (a, v), some (b, v') => a = b ∧ Rep w0 B e v v' ∧ i ≤ a ∧ a < i + n ∧ ∃ c, ces[a - i]? = some c ∧ Instr.sameBits 10000 c.key vk = true ∧ c.val = v'
  | _, _ => False

theorem findE_ok {d : TypeDesc} {k : V} {vk : Value} (hk : Rep w0 B e k vk) (hkk : keyKind (some d) k = true) :
    ∀ (es : List (V × V × Nat)) (ces : List MapEntry) (i : Nat) (r : Option (Nat × V)), es.length = ces.length →
      (∀ j (h : j < es.length) (h' : j < ces.length), Rep w0 B e (es[j]'h).1 (ces[j]'h').key ∧ Rep w0 B e (es[j]'h).2.1 (ces[j]'h').val ∧ (es[j]'h).2.2 = (ces[j]'h').born) →
      findE k es i = some r → ∃ r', Instr.findNow d vk ces i = some r' ∧ Found w0 B e vk ces i es.length r r'
  | [], ces, i, r, hl, hes, h => by
    cases ces with
    | nil => simp only [findE, Option.some.injEq] at h; subst h; exact ⟨none, rfl, trivial⟩
    | cons a b => simp at hl
  | (k', v, b) :: es, ces, i, r, hl, hes, h => by
    cases ces with
    | nil => simp at hl
    | cons c ces =>
      have h0 := hes 0 (by simp) (by simp)
      simp only [findE] at h
      split at h
      · rename_i hq
        cases h
        have := key_ok hk hkk h0.1 hq
        have hsb := sameBits_ok hk h0.1 hq
        simp only [List.getElem_cons_zero] at this hsb
        exact ⟨some (i, c.val), by simp [Instr.findNow, this], rfl, h0.2.1, Nat.le_refl _, by simp, c, by simp, hsb, rfl⟩
      · rename_i hq
        have := key_ok hk hkk h0.1 hq
        simp only [List.getElem_cons_zero] at this
        obtain ⟨r', hr', hm⟩ := findE_ok hk hkk es ces (i + 1) r (by simpa using hl) (fun j h h' => hes (j + 1) (by simpa using h) (by simpa using h')) h
        refine ⟨r', by simp [Instr.findNow, this, hr'], ?_⟩
        cases r with
        | none =>
          cases r' with
          | none => trivial
          | some x => exact hm
        | some x =>
          cases r' with
          | none => exact hm
          | some y =>
            obtain ⟨a, v⟩ := x
            obtain ⟨a', v'⟩ := y
            obtain ⟨h1, h2, h3, h4, c', h5, h6, h7⟩ := hm
            refine ⟨h1, h2, by omega, by simp; omega, c', ?_, h6, h7⟩
            rw [show a - i = (a - (i + 1)) + 1 by omega, List.getElem?_cons_succ]
            exact h5
      · cases h

theorem findRo_ok {d : TypeDesc} {k : V} {vk : Value} (hk : Rep w0 B e k vk) (hkk : keyKind (some d) k = true) :
    ∀ (ks vs : List V) (ces : List MapEntry) (i : Nat) (r : Option V), ks.length = ces.length → vs.length = ces.length →
      (∀ j (h : j < ks.length) (h' : j < ces.length), Rep w0 B e (ks[j]'h) (ces[j]'h').key) → (∀ j (h : j < vs.length) (h' : j < ces.length), Rep w0 B e (vs[j]'h) (ces[j]'h').val) →
      findRo k ks vs = some r → ∃ r', Instr.findNow d vk ces i = some r' ∧ (match r, r' with | none, none => True | some v, some (_, v') => Rep w0 B e v v' | _, _ => False)
  | [], vs, ces, i, r, hl, hl2, h1, h2, h => by
    cases ces with
    | nil =>
      cases vs with
      | nil => simp only [findRo, Option.some.injEq] at h; subst h; exact ⟨none, rfl, trivial⟩
      | cons a b => simp at hl2
    | cons a b => simp at hl
  | k' :: ks, vs, ces, i, r, hl, hl2, h1, h2, h => by
    cases ces with
    | nil => simp at hl
    | cons c ces =>
      cases vs with
      | nil => simp at hl2
      | cons v vs =>
        simp only [findRo] at h
        have hk0 := h1 0 (by simp) (by simp)
        have hv0 := h2 0 (by simp) (by simp)
        split at h
        · rename_i hq
          cases h
          have := key_ok hk hkk hk0 hq
          simp only [List.getElem_cons_zero] at this
          exact ⟨some (i, c.val), by simp [Instr.findNow, this], hv0⟩
        · rename_i hq
          have := key_ok hk hkk hk0 hq
          simp only [List.getElem_cons_zero] at this
          obtain ⟨r', hr', hm⟩ := findRo_ok hk hkk ks vs ces (i + 1) r (by simpa using hl) (by simpa using hl2) (fun j h h' => h1 (j + 1) (by simpa using h) (by simpa using h')) (fun j h h' => h2 (j + 1) (by simpa using h) (by simpa using h')) h
          exact ⟨r', by simp [Instr.findNow, this, hr'], hm⟩
        · cases h

theorem live_map (hs : HS w0 B e H w) {id : Nat} {eb : EB} (he : e id = some eb) {es : List (V × V × Nat)} {c : Nat} (hid : H[id]? = some (some (.map es c))) :
    ∃ ces, w.heap[eb.b]? = some (.map ⟨ces⟩ c) ∧ es.length = ces.length ∧ ∀ j (h : j < es.length) (h' : j < ces.length), Rep w0 B e (es[j]'h).1 (ces[j]'h').key ∧ Rep w0 B e (es[j]'h).2.1 (ces[j]'h').val ∧ (es[j]'h).2.2 = (ces[j]'h').born := by
  obtain ⟨eb', o', he', ho', hok⟩ := hs.live id _ hid
  rw [he] at he'; cases he'
  cases o' <;> simp only [BlkOk] at hok
  rename_i ces cl
  obtain ⟨rfl, h2, h3⟩ := hok
  exact ⟨ces.toList, ho', h2, h3⟩

def FoundV (w0 : World) (B : Nat) (e : Emb) : Option V → Option (Nat × Value) → Prop
  | none, none => True
  | some v, some (_, v') => Rep w0 B e v v'
  | _, _ => False

theorem pick_ok {et : TypeId} {ok : Bool} {r : Option V} {r' : Option (Nat × Value)} {z : V} (hm : FoundV w0 B e r r') (hz : pickV P et ok r = some z) :
    ∃ vz, (do
      let (v, ok') ← match r' with
        | some (_, v) => Pure.pure (v, true)
        | none => Pure.pure (← zeroValue et, false)
      Pure.pure (if ok then Value.tuple #[v, .bool ok'] else v) : Sem Value).run P w = .ok vz w ∧ Rep w0 B e z vz := by
  cases r with
  | none =>
    cases r' with
    | some y => exact hm.elim
    | none =>
      simp only [pickV] at hz
      obtain ⟨zz, hzz, rfl⟩ := Option.map_eq_some_iff.1 hz
      obtain ⟨zv, hzv, hr, _⟩ := rzero hzz
      cases ok
      · exact ⟨zv, by simp [hzv], by simpa using hr w0 B e⟩
      · exact ⟨.tuple #[zv, .bool false], by simp [hzv], .tup _ _ [zv, .bool false] rfl (RepL.cons (hr w0 B e) (RepL.cons (.bool _ _) (RepL.nil _ _ _))).2⟩
  | some v =>
    cases r' with
    | none => exact hm.elim
    | some y =>
      obtain ⟨i, v'⟩ := y
      simp only [pickV, Option.some.injEq] at hz
      subst hz
      cases ok
      · exact ⟨v', by simp, by simp only [Bool.false_eq_true, if_false]; exact hm⟩
      · exact ⟨.tuple #[v', .bool true], by simp, .tup _ _ [v', .bool true] rfl (RepL.cons hm (RepL.cons (.bool _ _) (RepL.nil _ _ _))).2⟩

theorem lookup_ok (hs : HS w0 B e H w) {t : TypeId} {x k z : V} {vx vk : Value} {ok : Bool} (hx : Rep w0 B e x vx) (hk : Rep w0 B e k vk) (h : lookupV P H t x k ok = some z) :
    ∃ vz, (Instr.lookup t vx vk ok).run P w = .ok vz w ∧ Rep w0 B e z vz := by
  unfold lookupV at h
  split at h
  · rename_i kt et hu
    split at h
    · rename_i hkk
      cases hd : P.underlying kt with
      | none => exfalso; rw [hd] at hkk; cases k <;> simp [keyKind] at hkk
      | some d =>
        rw [hd] at hkk
        obtain ⟨r, hr, hz⟩ := Option.bind_eq_some_iff.1 h
        unfold findAny at hr
        split at hr
        · cases hr; cases hx
          obtain ⟨vz, hvz, hrz⟩ := pick_ok (w := w) (w0 := w0) (B := B) (e := e) (r := none) (r' := none) trivial hz
          refine ⟨vz, ?_, hrz⟩
          rw [← hvz]
          simp [Instr.lookup, runder hu, checkKey_ok hd hk hkk, Instr.findKey, runder hd, Instr.findNow]
        · rename_i id
          split at hr
          · rename_i es c hid
            cases hx with
            | map _ _ eb he =>
              obtain ⟨ces, hob, hl, hes⟩ := live_map hs he hid
              obtain ⟨r0, hf, rfl⟩ := Option.map_eq_some_iff.1 hr
              obtain ⟨r', hr', hm⟩ := findE_ok hk hkk es ces 0 r0 hl hes hf
              have hm' : FoundV w0 B e (r0.map (·.2)) r' := by
                cases r0 with
                | none => cases r' with
                  | none => trivial
                  | some y => exact hm.elim
                | some x => cases r' with
                  | none => exact hm.elim
                  | some y => exact hm.2.1
              obtain ⟨vz, hvz, hrz⟩ := pick_ok (w := w) hm' hz
              refine ⟨vz, ?_, hrz⟩
              rw [← hvz]
              cases r' <;> simp [Instr.lookup, runder hu, getObj, Sem.run, hob, checkKey_ok hd hk hkk, Instr.findKey, runder hd, hr']
          · cases hr
        · rename_i ks vs
          cases hx with
          | rom _ _ _ r0 clock es hm0 hlk hlv hkr hvr =>
            have hm1 : w.heap[r0]? = some (.map ⟨es⟩ clock) := hs.known _ _ hm0
            obtain ⟨r', hr', hm⟩ := findRo_ok hk hkk ks vs es 0 r hlk hlv (fun j h h' => (hkr j h h').mono (fun _ _ h => by cases h)) (fun j h h' => (hvr j h h').mono (fun _ _ h => by cases h)) hr
            have hm' : FoundV w0 B e r r' := by
              cases r <;> cases r' <;> exact hm
            obtain ⟨vz, hvz, hrz⟩ := pick_ok (w := w) hm' hz
            refine ⟨vz, ?_, hrz⟩
            rw [← hvz]
            cases r' <;> simp [Instr.lookup, runder hu, getObj, Sem.run, hm1, checkKey_ok hd hk hkk, Instr.findKey, runder hd, hr']
        · cases hr
    · cases h
  · cases h
theorem rsetMap {r : Nat} {es es' : Array MapEntry} {c c' : Nat} (h : w.heap[r]? = some (.map es c)) : (setObj r (.map es' c')).run P w = .ok () { w with heap := w.heap.setIfInBounds r (.map es' c') } := by
  simp [setObj, Sem.run, h]

theorem entries_set {es : List (V × V × Nat)} {ces : List MapEntry} (hl : es.length = ces.length)
    (hes : ∀ j (h : j < es.length) (h' : j < ces.length), Rep w0 B e (es[j]'h).1 (ces[j]'h').key ∧ Rep w0 B e (es[j]'h).2.1 (ces[j]'h').val ∧ (es[j]'h).2.2 = (ces[j]'h').born)
    {i : Nat} {f : V × V × Nat → V × V × Nat} {g : MapEntry → MapEntry} (hfg : ∀ x y, Rep w0 B e x.1 y.key → Rep w0 B e x.2.1 y.val → x.2.2 = y.born → Rep w0 B e (f x).1 (g y).key ∧ Rep w0 B e (f x).2.1 (g y).val ∧ (f x).2.2 = (g y).born) :
    ∀ j (h : j < (setEntry i f es).length) (h' : j < (ces.modify i g).length), Rep w0 B e ((setEntry i f es)[j]'h).1 ((ces.modify i g)[j]'h').key ∧ Rep w0 B e ((setEntry i f es)[j]'h).2.1 ((ces.modify i g)[j]'h').val ∧ ((setEntry i f es)[j]'h).2.2 = ((ces.modify i g)[j]'h').born := by
  intro j h h'
  simp only [setEntry, List.length_modify] at h h'
  have := hes j h h'
  simp only [setEntry, List.getElem_modify]
  split
  · exact hfg _ _ this.1 this.2.1 this.2.2
  · exact this

theorem mapUpdate_ok (hs : HS w0 B e H w) {t : TypeId} {m k v : V} {vm vk vv : Value} (hm : Rep w0 B e m vm) (hk : Rep w0 B e k vk) (hv : Rep w0 B e v vv) {H' : Heap} (h : mapUpdateV P H t m k v = some H') :
    OpOk P w0 B e H w (do Instr.mapUpdate t vm vk vv; Pure.pure .skip) (V.undef, H') := by
  unfold mapUpdateV at h
  split at h
  · rename_i kt et id hu
    split at h
    · cases h
    · rename_i hkk
      cases hd : P.underlying kt with
      | none => exfalso; rw [hd] at hkk; cases k <;> simp [keyKind] at hkk
      | some d =>
        rw [hd] at hkk
        have hkk : keyKind (some d) k = true := by simpa using hkk
        split at h
        · rename_i es c hid
          cases hm with
          | map _ _ eb he =>
            obtain ⟨ces, hob, hl, hes⟩ := live_map hs he hid
            have hset := fun es' c' => rsetMap (P := P) (es' := es') (c' := c') hob
            split at h
            · rename_i i v0 hf
              cases h
              obtain ⟨r', hr', hfd⟩ := findE_ok hk hkk es ces 0 _ hl hes hf
              cases r' with
              | none => exact hfd.elim
              | some y =>
                obtain ⟨a, v'⟩ := y
                obtain ⟨rfl, h2, h3, h4, ce, h5, h6, h7⟩ := hfd
                simp only [Nat.sub_zero] at h5
                refine OpOk.unit (w' := { w with heap := w.heap.setIfInBounds eb.b (.map ((⟨ces⟩ : Array MapEntry).modify i fun x => { x with key := vk, val := vv }) c) }) ?_
                  (Stp.write hs hid he _ _ ?_ rfl rfl rfl rfl)
                · simp [Instr.mapUpdate, runder hu, getObj, Sem.run, hob, checkKey_ok hd hk hkk, Instr.findKey, runder hd, hr', Instr.keyThatStays, h5, h6, hset]
                · refine ⟨rfl, by simp [setEntry, hl], ?_⟩
                  have := entries_set (i := i) (f := fun x => (k, v, x.2.2)) (g := fun x => { x with key := vk, val := vv }) hl hes (fun x y _ _ h3 => ⟨hk, hv, h3⟩)
                  simpa using this
            · rename_i hf
              cases h
              obtain ⟨r', hr', hfd⟩ := findE_ok hk hkk es ces 0 _ hl hes hf
              cases r' with
              | some y => exact hfd.elim
              | none =>
                refine OpOk.unit (w' := { w with heap := w.heap.setIfInBounds eb.b (.map ((⟨ces⟩ : Array MapEntry).push { key := vk, val := vv, born := c }) (c + 1)) }) ?_
                  (Stp.write hs hid he _ _ ?_ rfl rfl rfl rfl)
                · simp [Instr.mapUpdate, runder hu, getObj, Sem.run, hob, checkKey_ok hd hk hkk, Instr.findKey, runder hd, hr', hset]
                · refine ⟨rfl, by simp [hl], fun j h1 h2 => ?_⟩
                  simp only [Array.toList_push] at h2 ⊢
                  rcases Nat.lt_or_ge j es.length with hj | hj
                  · rw [List.getElem_append_left hj, List.getElem_append_left (by omega)]
                    exact hes j hj (by omega)
                  · have hj' : j = es.length := by simp at h1; omega
                    subst hj'
                    rw [List.getElem_append_right (by omega), List.getElem_append_right (by omega)]
                    simp only [Nat.sub_self, hl, List.getElem_cons_zero]
                    exact ⟨hk, hv, trivial⟩
            · cases h
        · cases h
  · cases h

theorem mapEntry_ok (hs : HS w0 B e H w) {t : TypeId} {m k : V} {vm vk : Value} (hm : Rep w0 B e m vm) (hk : Rep w0 B e k vk) {r : V × Heap} (h : mapEntryV P H t m k = some r) :
    OpOk P w0 B e H w (do Pure.pure (.value (← Instr.mapEntry t vm vk))) r := by
  unfold mapEntryV at h
  split at h
  · rename_i kt et id hu
    split at h
    · cases h
    · rename_i hkk
      cases hd : P.underlying kt with
      | none => exfalso; rw [hd] at hkk; cases k <;> simp [keyKind] at hkk
      | some d =>
        rw [hd] at hkk
        have hkk : keyKind (some d) k = true := by simpa using hkk
        split at h
        · rename_i es c z hid hz
          cases hm with
          | map _ _ eb he =>
            obtain ⟨ces, hob, hl, hes⟩ := live_map hs he hid
            have hset := fun es' c' => rsetMap (P := P) (es' := es') (c' := c') hob
            split at h
            · rename_i i v0 hf
              split at h
              · rename_i en hen
                cases h
                obtain ⟨r', hr', hfd⟩ := findE_ok hk hkk es ces 0 _ hl hes hf
                cases r' with
                | none => exact hfd.elim
                | some y =>
                  obtain ⟨a, v'⟩ := y
                  obtain ⟨rfl, h2, h3, h4, ce, h5, h6, h7⟩ := hfd
                  simp only [Nat.sub_zero] at h5
                  have hbn : en.2.2 = ce.born := by
                    obtain ⟨hi1, rfl⟩ := List.getElem?_eq_some_iff.1 hen
                    obtain ⟨hi2, rfl⟩ := List.getElem?_eq_some_iff.1 h5
                    exact (hes _ hi1 hi2).2.2
                  refine OpOk.val (v' := .tuple #[v', .int .i64 ce.born]) (w' := { w with heap := w.heap.setIfInBounds eb.b (.map ((⟨ces⟩ : Array MapEntry).modify i fun x => { x with key := vk }) c) }) ?_
                    (Stp.write hs hid he _ _ ?_ rfl rfl rfl rfl) ?_
                  · simp [Instr.mapEntry, runder hu, getObj, Sem.run, hob, checkKey_ok hd hk hkk, Instr.findKey, runder hd, hr', Instr.keyThatStays, h5, h6, hset, goInt]
                  · refine ⟨rfl, by simp [setEntry, hl], ?_⟩
                    have := entries_set (i := i) (f := fun x => (k, x.2)) (g := fun x => { x with key := vk }) hl hes (fun x y _ h2 h3 => ⟨hk, h2, h3⟩)
                    simpa using this
                  · rw [hbn]
                    exact .tup _ _ [v', .int .i64 ce.born] rfl (RepL.cons h2 (RepL.cons (.int _ _ _) (RepL.nil _ _ _))).2
              · cases h
            · rename_i hf
              cases h
              obtain ⟨r', hr', hfd⟩ := findE_ok hk hkk es ces 0 _ hl hes hf
              obtain ⟨zv, hzv, hzr, _⟩ := rzero hz
              cases r' with
              | some y => exact hfd.elim
              | none =>
                refine OpOk.val (v' := .tuple #[zv, .int .i64 c]) (w' := { w with heap := w.heap.setIfInBounds eb.b (.map ((⟨ces⟩ : Array MapEntry).push { key := vk, val := zv, born := c }) (c + 1)) }) ?_
                  (Stp.write hs hid he _ _ ?_ rfl rfl rfl rfl) (.tup _ _ [zv, .int .i64 c] rfl (RepL.cons (hzr w0 B e) (RepL.cons (.int _ _ _) (RepL.nil _ _ _))).2)
                · simp [Instr.mapEntry, runder hu, getObj, Sem.run, hob, checkKey_ok hd hk hkk, Instr.findKey, runder hd, hr', hset, hzv, goInt]
                · refine ⟨rfl, by simp [hl], fun j h1 h2 => ?_⟩
                  simp only [Array.toList_push] at h2 ⊢
                  rcases Nat.lt_or_ge j es.length with hj | hj
                  · rw [List.getElem_append_left hj, List.getElem_append_left (by omega)]
                    exact hes j hj (by omega)
                  · have hj' : j = es.length := by simp at h1; omega
                    subst hj'
                    rw [List.getElem_append_right (by omega), List.getElem_append_right (by omega)]
                    simp only [Nat.sub_self, hl, List.getElem_cons_zero]
                    exact ⟨hk, hzr w0 B e, trivial⟩
            · cases h
        · cases h
  · cases h
theorem findBorn_ok (b : Int) : ∀ (es : List (V × V × Nat)) (ces : List MapEntry) (i : Nat) (r : Nat), es.length = ces.length → (∀ j (h : j < es.length) (h' : j < ces.length), (es[j]'h).2.2 = (ces[j]'h').born) →
    findBorn b es i = some r → (ces.findIdx? (fun e => (e.born : Int) == b)).map (· + i) = some r
  | [], ces, i, r, hl, hes, h => by simp [findBorn] at h
  | x :: es, ces, i, r, hl, hes, h => by
    cases ces with
    | nil => simp at hl
    | cons c ces =>
      have h0 := hes 0 (by simp) (by simp)
      simp only [List.getElem_cons_zero] at h0
      simp only [findBorn] at h
      rw [List.findIdx?_cons]
      split at h
      · rename_i hq
        cases h
        rw [h0] at hq
        simp [hq]
      · rename_i hq
        rw [h0] at hq
        have ih := findBorn_ok b es ces (i + 1) r (by simpa using hl) (fun j h h' => hes (j + 1) (by simpa using h) (by simpa using h')) h
        simp only [hq, Bool.false_eq_true, if_false]
        obtain ⟨q, hq1, hq2⟩ := Option.map_eq_some_iff.1 ih
        simp [hq1]
        omega

theorem entryStore_ok (hs : HS w0 B e H w) {t : TypeId} {m st v : V} {vm vst vv : Value} (hm : Rep w0 B e m vm) (hst : Rep w0 B e st vst) (hv : Rep w0 B e v vv) {H' : Heap} (h : entryStoreV H m st v = some H') :
    OpOk P w0 B e H w (do Instr.entryStore t vm vst vv; Pure.pure .skip) (V.undef, H') := by
  unfold entryStoreV at h
  split at h
  · rename_i id kk b
    split at h
    · rename_i es c hid
      split at h
      · rename_i i hf
        cases h; cases hst
        cases hm with
        | map _ _ eb he =>
          obtain ⟨ces, hob, hl, hes⟩ := live_map hs he hid
          have hset := fun es' c' => rsetMap (P := P) (es' := es') (c' := c') hob
          have hfi := findBorn_ok b es ces 0 i hl (fun j h h' => (hes j h h').2.2) hf
          simp only [Nat.add_zero, Option.map_id'] at hfi
          refine OpOk.unit (w' := { w with heap := w.heap.setIfInBounds eb.b (.map ((⟨ces⟩ : Array MapEntry).modify i fun x => { x with val := vv }) c) }) ?_ (Stp.write hs hid he _ _ ?_ rfl rfl rfl rfl)
          · simp [Instr.entryStore, getObj, Sem.run, hob, asInt, asIntOf, hfi, hset]
          · refine ⟨rfl, by simp [setEntry, hl], ?_⟩
            have := entries_set (i := i) (f := fun x => (x.1, v, x.2.2)) (g := fun x => { x with val := vv }) hl hes (fun x y h1 _ h3 => ⟨h1, hv, h3⟩)
            simpa using this
      · cases h
    · cases h
  · cases h

theorem range_ok (hs : HS w0 B e H w) {t : TypeId} {z : ByteArray} (hu : P.underlying t = some .string) :
    OpOk P w0 B e H w (do Pure.pure (.value (← Instr.range t (.string z)))) (.ptr H.length 0, H ++ [some (.siter z 0)]) := by
  refine OpOk.val (v' := .pointer (some ⟨w.heap.size, 0, none⟩)) (w' := { w with heap := w.heap.push (.stringIter z 0) }) ?_
    (Stp.alloc hs (.siter z 0) ⟨w.heap.size, 0, 0⟩ (.stringIter z 0) rfl ⟨rfl, rfl, rfl⟩ rfl rfl rfl rfl) (ptr_new _ _ _ rfl)
  simp only [Instr.range, Sem.run_bind, runder hu, Result.andThen_ok, Sem.run_pure]
  rfl

theorem next_ok (hs : HS w0 B e H w) {ty : TypeId} {it : V} {vi : Value} (hi : Rep w0 B e it vi) {r : V × Heap}
    (h : nextV H it = some r) : OpOk P w0 B e H w (do Pure.pure (.value (← Instr.next vi true ty))) r := by
  unfold nextV at h
  split at h
  · rename_i id
    split at h
    · rename_i z p hid
      cases hi with
      | ptr _ _ _ eb he =>
        obtain ⟨eb', o', he', ho', hok⟩ := hs.live id _ hid
        rw [he] at he'; cases he'
        cases o' <;> simp only [BlkOk] at hok
        obtain ⟨rfl, rfl, hbase⟩ := hok
        have ha : eb.base + 0 = 0 := by omega
        rw [ha]
        split at h
        · rename_i hlt
          cases h
          refine OpOk.val (v' := .tuple #[.bool true, .int .i64 p, .int .i32 (Utf8.decode z p).1]) (w' := { w with heap := w.heap.setIfInBounds eb.b (.stringIter z (p + (Utf8.decode z p).2)) }) ?_
            (Stp.write hs hid he (.siter z (p + (Utf8.decode z p).2)) (.stringIter z (p + (Utf8.decode z p).2)) ⟨rfl, rfl, hbase⟩ rfl rfl rfl rfl)
            (.tup _ _ [.bool true, .int .i64 p, .int .i32 (Utf8.decode z p).1] rfl (RepL.cons (.bool _ _) (RepL.cons (.int _ _ _) (RepL.cons (.int _ _ _) (RepL.nil _ _ _)))).2)
          simp [Instr.next, getObj, setObj, Sem.run, ho', hlt, goInt]
        · rename_i hlt
          cases h
          exact OpOk.pure hs (v' := .tuple #[.bool false]) (by simp [Instr.next, getObj, Sem.run, ho', hlt]) (.tup _ _ [.bool false] rfl (RepL.cons (.bool _ _) (RepL.nil _ _ _)).2)
    · cases h
  · cases h

/-! ### All together -/
theorem opt_ok {Γ : Env} (hg : GlobOk Γ w0 B) {s : List V} {a : Act} (h : RepL w0 B e s a.tmps.toList) (x : Option Operand) : OptRep w0 B e (x.map (evOperand Γ s)) (x.map a.eval) := by
  cases x with
  | none => trivial
  | some x => exact evOperand_ok hg h x

theorem mapRep {Γ : Env} (hg : GlobOk Γ w0 B) {s : List V} {a : Act} (h : RepL w0 B e s a.tmps.toList) : ∀ l : List Operand, RepL w0 B e (l.map (evOperand Γ s)) (l.map a.eval)
  | [] => RepL.nil _ _ _
  | x :: l => RepL.cons (evOperand_ok hg h x) (mapRep hg h l)

theorem builtin_ok {Γ : Env} (hg : GlobOk Γ w0 B) (hs : HS w0 B e H w) {s : List V} {a : Act} (h : RepL w0 B e s a.tmps.toList) {b : Builtin} {as : Array Operand} {ts : Array TypeId} {ty : TypeId} {r : V × Heap}
    (hr : evBuiltin P H b ts (as.toList.map (evOperand Γ s)) = some r) {consts : Array Bool} : OpOk P w0 B e H w (builtin b ts ty consts (as.map a.eval)) r := by
  have hrep := mapRep hg h as.toList
  obtain ⟨l⟩ := as
  simp only at hr hrep
  unfold evBuiltin at hr
  split at hr
  · rename_i x hl
    split at hr
    · rename_i t ht
      obtain ⟨z, hz, rfl⟩ := Option.map_eq_some_iff.1 hr
      match l, hl, hrep with
      | [o], hl, hrep =>
        simp only [List.map_cons, List.map_nil, List.cons.injEq, and_true] at hl
        subst hl
        obtain ⟨vz, hvz, hrz⟩ := len_ok (P := P) (ty := ty) hs ht (evOperand_ok hg h o) hz
        have ha : (⟨[o]⟩ : Array Operand).map a.eval = #[a.eval o] := by simp
        rw [ha]
        exact OpOk.pure hs hvz hrz
    · cases hr
  · rename_i s' x hl
    split at hr
    · rename_i t ht
      match l, hl, hrep with
      | [o1, o2], hl, hrep =>
        simp only [List.map_cons, List.map_nil, List.cons.injEq, and_true] at hl
        obtain ⟨rfl, rfl⟩ := hl
        have ha : (⟨[o1, o2]⟩ : Array Operand).map a.eval = #[a.eval o1, a.eval o2] := by simp
        rw [ha]
        exact append_ok hs ht (evOperand_ok hg h o1) (evOperand_ok hg h o2) hr
    · cases hr
  · rename_i d x hl
    split at hr
    · rename_i t ht
      match l, hl, hrep with
      | [o1, o2], hl, hrep =>
        simp only [List.map_cons, List.map_nil, List.cons.injEq, and_true] at hl
        obtain ⟨rfl, rfl⟩ := hl
        have ha : (⟨[o1, o2]⟩ : Array Operand).map a.eval = #[a.eval o1, a.eval o2] := by simp
        rw [ha]
        exact copy_ok hs ht (evOperand_ok hg h o1) (evOperand_ok hg h o2) hr
    · cases hr
  · rename_i x l' hl
    obtain ⟨z, hz, rfl⟩ := Option.map_eq_some_iff.1 hr
    match l, hl, hrep with
    | o :: os, hl, hrep =>
      simp only [List.map_cons, List.cons.injEq] at hl
      obtain ⟨rfl, rfl⟩ := hl
      obtain ⟨vz, hvz, hrz⟩ := fold_ok (P := P) (w := w) (f := minV) (g := Builtin.min2) (fun x y z vx vy => min2_ok) _ _ _ z (a.eval o) hrep.tail (evOperand_ok hg h o) hz
      exact OpOk.pure hs (by simpa [Builtin.min_] using hvz) hrz
  · rename_i x l' hl
    obtain ⟨z, hz, rfl⟩ := Option.map_eq_some_iff.1 hr
    match l, hl, hrep with
    | o :: os, hl, hrep =>
      simp only [List.map_cons, List.cons.injEq] at hl
      obtain ⟨rfl, rfl⟩ := hl
      obtain ⟨vz, hvz, hrz⟩ := fold_ok (P := P) (w := w) (f := maxV) (g := Builtin.max2) (fun x y z vx vy => max2_ok) _ _ _ z (a.eval o) hrep.tail (evOperand_ok hg h o) hz
      exact OpOk.pure hs (by simpa [Builtin.max_] using hvz) hrz
  · rename_i x hl
    split at hr
    · rename_i t ht
      match l, hl, hrep with
      | [o], hl, hrep =>
        simp only [List.map_cons, List.map_nil, List.cons.injEq, and_true] at hl
        subst hl
        have ha : (⟨[o]⟩ : Array Operand).map a.eval = #[a.eval o] := by simp
        rw [ha]
        exact clear_ok hs ht (evOperand_ok hg h o) hr
    · cases hr
  · rename_i x hl
    split at hr
    · rename_i t ht
      obtain ⟨z, hz, rfl⟩ := Option.map_eq_some_iff.1 hr
      match l, hl, hrep with
      | [o], hl, hrep =>
        simp only [List.map_cons, List.map_nil, List.cons.injEq, and_true] at hl
        subst hl
        obtain ⟨vz, hvz, hrz⟩ := cap_ok (P := P) (ty := ty) hs ht (evOperand_ok hg h o) hz
        have ha : (⟨[o]⟩ : Array Operand).map a.eval = #[a.eval o] := by simp
        rw [ha]
        exact OpOk.pure hs hvz hrz
    · cases hr
  · cases hr
end
end Go.Ev

/-
  ALL OPERATIONS THAT CALL NOTHING, TOGETHER; CALLS (own work).
-/
set_option linter.unusedSimpArgs false
set_option linter.unusedVariables false
namespace Go.Ev
open Go

section
variable {P : Program} {w0 : World} {B : Nat} {e : Emb} {H : Heap} {w : World} {Γ : Env}

theorem pure_of (hs : HS w0 B e H w) {m : Sem Value} {z : V} (h : ∃ vz, m.run P w = .ok vz w ∧ Rep w0 B e z vz) : OpOk P w0 B e H w (do Pure.pure (.value (← m))) (z, H) := by
  obtain ⟨vz, h1, h2⟩ := h
  exact OpOk.pure hs h1 h2

theorem OpOk.ret (hs : HS w0 B e H w) {v : V} {v' : Value} (hr : Rep w0 B e v v') : OpOk P w0 B e H w (Pure.pure (.value v')) (v, H) :=
  ⟨v', w, e, .inl rfl, Stp.refl hs, hr⟩

theorem sliceMax_ok (hs : HS w0 B e H w) {t : TypeId} {x hi m : V} {v vh vm : Value} {r : V × Heap} (h : sliceMaxV P H t x hi m = some r) (hx : Rep w0 B e x v) (h2 : Rep w0 B e hi vh) (h3 : Rep w0 B e m vm) :
    OpOk P w0 B e H w (do Pure.pure (.value (← Instr.sliceAt t v none (some vh) (some vm)))) r := by
  unfold sliceMaxV at h
  split at h
  · rename_i el id off len sz k1 hh k2 kk hu
    split at h
    · rename_i n cs ex hz hid
      split at h
      · rename_i hc
        simp only [Bool.and_eq_true, decide_eq_true_eq, beq_iff_eq] at hc
        obtain ⟨⟨⟨⟨⟨c1, c2⟩, c3⟩, c4⟩, c5⟩, c6⟩ := hc
        cases h
        subst c3
        cases h2
        cases h3
        cases hx with
        | sl _ _ _ _ _ cap eb o he k1 k2 k3 k4 =>
          obtain ⟨j, rfl⟩ : ∃ j : Nat, kk = j := ⟨kk.toNat, by omega⟩
          have hjc : j ≤ cap := by omega
          simp only [Int.toNat_natCast] at c6 ⊢
          obtain ⟨eb', ob, he', ho, hok⟩ := hs.live id _ hid
          rw [he] at he'; cases he'
          cases ob <;> simp only [BlkOk] at hok
          rename_i c elr fr
          obtain ⟨m1, m2, m3, m4, m5⟩ := hok
          have hself : w.heap = w.heap.setIfInBounds eb.b (.cells c elr fr) := by
            apply Array.ext_getElem?
            intro i
            by_cases hi : i = eb.b
            · subst hi; rw [ho, Array.getElem?_setIfInBounds_self_of_lt (Array.getElem?_eq_some_iff.1 ho).1]
            · rw [Array.getElem?_setIfInBounds_ne (Ne.symm hi)]
          have hlen : (cs.take (off + j * sz)).length = off + j * sz := by rw [List.length_take]; omega
          have hseg : (seg c eb.base cs.length).take (off + j * sz) = seg c eb.base (off + j * sz) := by
            unfold seg; rw [List.take_take, Nat.min_eq_left c6]
          refine OpOk.val (v' := .slice (some ⟨eb.b, o, none⟩) j j) (w' := w) ?_ (Stp.renew hs hid he (eb' := ⟨eb.b, eb.base, eb.base + off + j * sz⟩) rfl (.cells (cs.take (off + j * sz)) true) (.cells c elr fr) ?_ hself rfl rfl rfl)
            (.sl _ _ _ _ _ j ⟨eb.b, eb.base, eb.base + off + j * sz⟩ _ (put_self _ _ _) (Nat.le_refl _) k2 rfl (fun h => k4 (by omega)))
          · simp [Instr.sliceAt, Instr.slice, Instr.sliceBounds, Instr.sliceBound, asIntOf, runder hu, rsizeOf hz, hjc, Addr.add]
          · refine ⟨by simp only; omega, by rw [hlen]; simp only; omega, fun _ => by rw [hlen]; simp only; omega, m4, ?_⟩
            rw [hlen, ← hseg]
            exact (m5.take _).mono (hs.put_up _)
      · cases h
    · cases h
  · rename_i el k1 hh k2 kk hu
    split at h
    · rename_i n hz
      split at h
      · rename_i hc
        obtain ⟨rfl, rfl⟩ := hc
        cases h
        cases h2
        cases h3
        cases hx
        exact OpOk.pure hs (v' := .slice none 0 0) (by simp [Instr.sliceAt, Instr.slice, Instr.sliceBounds, Instr.sliceBound, asIntOf, runder hu, rsizeOf hz]) (.nils _)
      · cases h
    · cases h
  · cases h

theorem plain_ok (hg : GlobOk Γ w0 B) (hs : HS w0 B e H w) {s : List V} {a : Act} (hrep : RepL w0 B e s a.tmps.toList) {o : Oper} {r : V × Heap} (h : evPlain P Γ s H o.op = some r) : OpOk P w0 B e H w (execOp a.eval o) r := by
  have hop := fun x => evOperand_ok hg hrep x
  unfold execOp
  generalize o.type = ty at *
  generalize o.op = op at *
  unfold evPlain at h
  split at h
  · cases h; exact OpOk.ret hs (hop _)
  · cases h; exact OpOk.ret hs (hop _)
  · rename_i c x y
    split at h
    · rename_i t hc
      cases h
      have hcv := hop c
      rw [hc] at hcv
      generalize hv : a.eval c = vc at hcv
      cases hcv
      refine ⟨if t then a.eval x else a.eval y, w, e, .inl ?_, Stp.refl hs, ?_⟩
      · simp only [hv, asBool, Sem.run_bind, Sem.run_pure, Result.andThen_ok]
      · cases t
        · exact hop y
        · exact hop x
    · cases h
  · rename_i t
    split at h
    · rename_i cs hc; cases h; exact alloc_ok hs hc
    · cases h
  · rename_i t x
    split at h
    · rename_i cs hc; cases h; exact box_ok hs (hop x) hc
    · cases h
  · rename_i t ps
    obtain ⟨z, hz, rfl⟩ := Option.map_eq_some_iff.1 h
    exact pure_of hs (build_ok hop ps hz)
  · rename_i t n ps
    exact buildSlice_ok hs hop ps h
  · rename_i t x
    obtain ⟨z, hz, rfl⟩ := Option.map_eq_some_iff.1 h
    exact load_ok hs (hop x) hz
  · rename_i t x y
    obtain ⟨H', hz, rfl⟩ := Option.map_eq_some_iff.1 h
    exact store_ok hs (hop x) (hop y) hz
  · rename_i x
    have hx := hop x
    split at h
    · rename_i id off hc
      cases h
      rw [hc] at hx
      generalize hv : a.eval x = vx at hx
      cases hx with
      | ptr _ _ _ eb he => exact ⟨_, w, e, .inl (by simp only [hv]; rfl), Stp.refl hs, .ptr _ _ _ _ he⟩
    · rename_i cs hc
      cases h
      rw [hc] at hx
      generalize hv : a.eval x = vx at hx
      cases hx with
      | ro _ _ b o f h2 h3 h4 => exact ⟨_, w, e, .inl (by simp only [hv]; rfl), Stp.refl hs, .ro _ _ _ _ _ h2 h3 h4⟩
    · rename_i f c d hc
      cases h
      rw [hc] at hx
      generalize hv : a.eval x = vx at hx
      cases hx with
      | fn _ _ _ _ a' b' h1 h2 h3 h4 => exact ⟨_, w, e, .inl (by simp only [hv]; rfl), Stp.refl hs, .fn _ _ _ _ _ _ h1 h2 h3 h4⟩
    · cases h
  · rename_i op t x y u
    obtain ⟨z, hz, rfl⟩ := Option.map_eq_some_iff.1 h
    exact pure_of hs (bin_ok hz (hop x) (hop y) x y)
  · rename_i op t x
    obtain ⟨z, hz, rfl⟩ := Option.map_eq_some_iff.1 h
    exact pure_of hs (un_ok hz (hop x))
  · rename_i c d x
    exact convert_ok hs (hop x) h
  · rename_i t x
    split at h
    · cases h
    · rename_i d hn hu
      cases h
      refine OpOk.pure hs (v' := .iface t (a.eval x)) ?_ (.iface _ _ _ _ (hop x))
      simp only [Instr.makeInterface, Sem.run_bind, runder hu, Result.andThen_ok]
      cases d <;> first | rfl | exact absurd rfl (hn _)
    · cases h
  · rename_i f x y
    cases h
    have h1 := mapRep (e := e) hg hrep x.toList
    have h2 := mapRep (e := e) hg hrep y.toList
    refine OpOk.pure hs (v' := .func f (x.map a.eval) (y.map a.eval)) (by simp [Instr.makeFunc]) ?_
    have e1 : x.map a.eval = ⟨x.toList.map a.eval⟩ := by apply Array.ext'; simp
    have e2 : y.map a.eval = ⟨y.toList.map a.eval⟩ := by apply Array.ext'; simp
    rw [e1, e2]
    exact .fn _ _ _ _ _ _ h1.1 h2.1 h1.2 h2.2
  · rename_i t
    cases h
    refine OpOk.val (v' := .map (some w.heap.size)) (w' := { w with heap := w.heap.push (.map #[] 0) }) (by rfl)
      (Stp.alloc hs (.map [] 0) ⟨w.heap.size, 0, 0⟩ (.map #[] 0) rfl ⟨rfl, rfl, fun j h => by simp at h⟩ rfl rfl rfl rfl) (.map _ _ ⟨w.heap.size, 0, 0⟩ (put_self _ _ _))
  · rename_i t l c
    exact makeSlice_ok hs (hop l) (hop c) h
  · rename_i t x hi m
    exact sliceMax_ok hs h (hop x) (hop hi) (hop m)
  · rename_i t x lo hi mx _
    obtain ⟨z, hz, rfl⟩ := Option.map_eq_some_iff.1 h
    exact pure_of hs (slice_ok hs hz (hop x) (opt_ok hg hrep lo) (opt_ok hg hrep hi) (opt_ok hg hrep mx))
  · rename_i t x f
    obtain ⟨z, hz, rfl⟩ := Option.map_eq_some_iff.1 h
    exact pure_of hs (fieldAddr_ok hz (hop x))
  · rename_i t x f
    obtain ⟨z, hz, rfl⟩ := Option.map_eq_some_iff.1 h
    exact pure_of hs (field_ok hz (hop x))
  · rename_i t x i
    obtain ⟨z, hz, rfl⟩ := Option.map_eq_some_iff.1 h
    exact pure_of hs (indexAddr_ok hz (hop x) (hop i))
  · rename_i t x i
    obtain ⟨z, hz, rfl⟩ := Option.map_eq_some_iff.1 h
    exact pure_of hs (index_ok hz (hop x) (hop i))
  · rename_i t x k ok
    obtain ⟨z, hz, rfl⟩ := Option.map_eq_some_iff.1 h
    exact pure_of hs (lookup_ok hs (hop x) (hop k) hz)
  · rename_i t m k x
    obtain ⟨H', hz, rfl⟩ := Option.map_eq_some_iff.1 h
    exact mapUpdate_ok hs (hop m) (hop k) (hop x) hz
  · rename_i t m k x
    obtain ⟨H', hz, rfl⟩ := Option.map_eq_some_iff.1 h
    exact mapUpdate_ok hs (hop m) (hop k) (hop x) hz
  · rename_i t m k
    exact mapEntry_ok hs (hop m) (hop k) h
  · rename_i t m st x
    obtain ⟨H', hz, rfl⟩ := Option.map_eq_some_iff.1 h
    exact entryStore_ok hs (hop m) (hop st) (hop x) hz
  · rename_i t x
    have hx := hop x
    split at h
    · rename_i z hu hc
      cases h
      rw [hc] at hx
      generalize hv : a.eval x = vx at hx
      cases hx
      simp only [hv]
      exact range_ok hs hu
    · cases h
  · rename_i it
    exact next_ok hs (hop it) h
  · rename_i x i
    have hx := hop x
    split at h
    · rename_i vs hc
      obtain ⟨z, hz, rfl⟩ := Option.map_eq_some_iff.1 h
      rw [hc] at hx
      generalize hv : a.eval x = vx at hx
      cases hx with
      | tup _ _ a' ha har =>
        obtain ⟨v', hv', hr⟩ := RepL.get? ⟨ha, har⟩ hz
        simp only [hv]
        exact OpOk.pure hs (by simp [Instr.extract, hv']) hr
    · cases h
  · rename_i b as ts
    unfold OpOk
    simp only [resolve, Sem.run_bind, Sem.run_pure, Result.andThen_ok, invoke]
    exact builtin_ok hg hs hrep h
  · cases h
end
end Go.Ev

/-
  CALLS: what is handed in, what comes back (own work).
-/
set_option linter.unusedSimpArgs false
set_option linter.unusedVariables false
namespace Go.Ev
open Go

section
variable {P : Program} {w0 : World} {B : Nat} {e : Emb} {H : Heap} {w : World} {Γ : Env}

/-- What holds no read-only part stands over whatever world. -/
theorem Rep.ownRen {w0 w1 : World} {B B1 : Nat} {e e1 : Emb} {ρ : Nat → Option Nat} (he : ∀ id j eb, ρ id = some j → e id = some eb → e1 j = some eb) {a : V} {v : Value} (h : Rep w0 B e a v) (ho : a.own = true) : Rep w1 B1 e1 (a.ren ρ) v := by
  have hL : ∀ {l : List V}, ownL l = true → ∀ j (h : j < l.length), (l[j]'h).own = true := by
    intro l
    induction l with
    | nil => intro _ j h; simp at h
    | cons x l ih =>
      intro hl j h
      simp only [ownL, Bool.and_eq_true] at hl
      cases j with
      | zero => exact hl.1
      | succ j => exact ih hl.2 j (by simpa using h)
  unfold V.ren
  induction h with
  | bool => constructor
  | int => constructor
  | str => constructor
  | nilp => constructor
  | ptr e id off eb h =>
    simp only [V.sub]
    cases hρ : ρ id with
    | none => exact .junk _ _
    | some j => exact .ptr _ _ _ _ (he _ _ _ hρ h)
  | ro => simp [V.own] at ho
  | nils => constructor
  | sl e id off len sz cap eb o h h2 h3 h4 h5 =>
    simp only [V.sub]
    cases hρ : ρ id with
    | none => exact .junk _ _
    | some j => exact .sl _ _ _ _ _ _ _ _ (he _ _ _ hρ h) h2 h3 h4 h5
  | ros => simp [V.own] at ho
  | rose => simp [V.own] at ho
  | nilm => constructor
  | map e id eb h =>
    simp only [V.sub]
    cases hρ : ρ id with
    | none => exact .junk _ _
    | some j => exact .map _ _ _ (he _ _ _ hρ h)
  | rom => simp [V.own] at ho
  | fn e f a b a' b' ha hb har hbr ih1 ih2 =>
    simp only [V.own, Bool.and_eq_true] at ho
    simp only [V.sub, subL_eq]
    exact .fn _ f _ _ a' b' (by simp [ha]) (by simp [hb]) (fun j h h' => by simpa using ih1 j (by simpa using h) h' he (hL ho.1 j (by simpa using h))) (fun j h h' => by simpa using ih2 j (by simpa using h) h' he (hL ho.2 j (by simpa using h)))
  | nilf => constructor
  | iface e t v v' h ih => exact .iface _ _ _ _ (ih he ho)
  | nili => constructor
  | agg e a a' ha h1 har ih =>
    simp only [V.sub, subL_eq]
    exact .agg _ _ a' (by simp [ha]) h1 (fun j h h' => by simpa using ih j (by simpa using h) h' he (hL ho j (by simpa using h)))
  | tup e a a' ha har ih =>
    simp only [V.sub, subL_eq]
    exact .tup _ _ a' (by simp [ha]) (fun j h h' => by simpa using ih j (by simpa using h) h' he (hL ho j (by simpa using h)))
  | junk => constructor

theorem ownL_get : ∀ {l : List V}, ownL l = true → ∀ j (h : j < l.length), (l[j]'h).own = true
  | [], _, j, h => by simp at h
  | x :: l, hl, j, h => by
    simp only [ownL, Bool.and_eq_true] at hl
    cases j with
    | zero => exact hl.1
    | succ j => exact ownL_get hl.2 j (by simpa using h)

theorem BlkOk.ownRen {w0 w1 : World} {B B1 : Nat} {e e1 : Emb} {ρ : Nat → Option Nat} (he : ∀ id j eb, ρ id = some j → e id = some eb → e1 j = some eb) {k : Blk} {eb : EB} {o : Obj} (h : BlkOk w0 B e k eb o) (ho : k.own = true) :
    BlkOk w1 B1 e1 (k.ren ρ) eb o := by
  cases k <;> cases o <;> simp only [BlkOk, Blk.ren, Blk.own] at h ho ⊢
  · rw [renL_eq]
    simp only [List.length_map]
    refine ⟨h.1, h.2.1, h.2.2.1, h.2.2.2.1, ⟨by simpa using h.2.2.2.2.1.1, fun j h1 h2 => ?_⟩, h.2.2.2.2.2⟩
    simpa using (h.2.2.2.2.1.2 j (by simpa using h1) h2).ownRen he (ownL_get ho j (by simpa using h1))
  · refine ⟨h.1, by simpa using h.2.1, fun j h1 h2 => ?_⟩
    have := h.2.2 j (by simpa using h1) h2
    simp only [List.getElem_map]
    have hj := (List.all_eq_true.1 ho) _ (List.getElem_mem (l := _) (by simpa using h1 : j < _))
    simp only [Bool.and_eq_true] at hj
    exact ⟨this.1.ownRen he hj.1, this.2.1.ownRen he hj.2, this.2.2⟩
  · exact h

/-- What is read out for good: the general law. The blocks that are not kept are known in the new base. -/
theorem snapK_ok {keep : Nat → Bool} {w1 : World} {B1 : Nat} {e1 : Emb} {H : Heap} {e : Emb} (hs : HS w0 B e H w) (hk : ∀ b o, known w0 B e b = some o → known w1 B1 e1 b = some o)
    (hl : ∀ id k eb, keep id = false → H[id]? = some (some k) → e id = some eb → ∀ o, w.heap[eb.b]? = some o → known w1 B1 e1 eb.b = some o) : ∀ (d : Nat) {v : V} {x : Value}, Rep w0 B e v x → Rep w1 B1 e1.bare (snapK keep d H v) x
  | 0, v, x, hr => by
    unfold snapK
    exact Rep.sub (e1 := e1.bare) hk (fun _ _ _ _ => .junk _ _) (fun _ _ _ _ _ _ => .junk _ _) (fun _ _ _ => .junk _ _) hr
  | d + 1, v, x, hr => by
    unfold snapK
    refine Rep.sub (e1 := e1.bare) hk ?_ ?_ ?_ hr
    · intro id off x hx
      cases hkp : keep id with
      | true => exact .junk _ _
      | false =>
      simp only [Bool.false_eq_true, if_false]
      cases hx with
      | ptr _ _ _ eb he =>
        split
        · rename_i cs ex hid
          obtain ⟨eb', o', he', ho', hok⟩ := hs.live id _ hid
          rw [he] at he'; cases he'
          have hkn := hl id _ eb hkp hid he _ ho'
          cases o' <;> simp only [BlkOk] at hok
          rename_i c el fr
          obtain ⟨m1, m2, m3, m4, m5⟩ := hok
          refine .ro _ _ eb.b (eb.base + off) (fun j => (c[eb.base + off + j]?).getD undef) (fun j hj => ?_) (fun j hj => ?_) (fun j hj => ?_)
          · simp only [List.length_map, List.length_drop] at hj
            have hlt : eb.base + off + j < c.size := by omega
            show kcell w1 B1 e1 _ _ = _
            simp [kcell, hkn, hlt]
          · simp only [List.length_map, List.length_drop] at hj
            have hlt : eb.base + off + j < c.size := by omega
            simp only [hlt, getElem?_pos, Option.getD_some]
            apply m5.2
            unfold seg
            rw [List.mem_iff_getElem]
            exact ⟨off + j, by simp; omega, by simp [Nat.add_assoc]⟩
          · simp only [List.length_map, List.length_drop] at hj
            have hlt : eb.base + off + j < c.size := by omega
            simp only [List.getElem_map, List.getElem_drop, hlt, getElem?_pos, Option.getD_some]
            have h2 : off + j < (seg c eb.base cs.length).length := by rw [← m5.1.1]; omega
            have := m5.1.2 (off + j) (by omega) h2
            have e1' : (seg c eb.base cs.length)[off + j] = c[eb.base + off + j] := by
              have h3 : (seg c eb.base cs.length)[off + j]? = some ((seg c eb.base cs.length)[off + j]) := List.getElem?_eq_getElem h2
              have h4 := seg_get h3
              have h5 : eb.base + (off + j) = eb.base + off + j := by omega
              rw [h5] at h4
              rw [Array.getElem?_eq_getElem hlt] at h4
              exact (Option.some.inj h4).symm
            rw [e1'] at this
            exact snapK_ok hs hk hl d this
        · exact .junk _ _
    · intro id off len sz x hx
      cases hkp : keep id with
      | true => exact .junk _ _
      | false =>
      simp only [Bool.false_eq_true, if_false]
      cases hx with
      | sl _ _ _ _ _ cap eb o he k1 k2 k3 k4 =>
        split
        · rename_i cs ex hid
          obtain ⟨eb', o', he', ho', hok⟩ := hs.live id _ hid
          rw [he] at he'; cases he'
          have hkn := hl id _ eb hkp hid he _ ho'
          cases o' <;> simp only [BlkOk] at hok
          rename_i c el fr
          obtain ⟨m1, m2, m3, m4, m5⟩ := hok
          have hpos : ∀ j, j < len * sz → o = eb.base + off := fun j hj => k4 (by rcases Nat.eq_zero_or_pos len with h0 | h0; · rw [h0] at hj; simp at hj
                                                                                  · omega)
          refine .ros _ _ _ eb.b o cap (fun j => (c[eb.base + off + j]?).getD undef) k1 (fun j hj => ?_) (fun j hj => ?_) (fun j hj => ?_)
          · simp only [List.length_map, List.length_take, List.length_drop] at hj
            have hlt : eb.base + off + j < c.size := by omega
            rw [hpos j (by omega)]
            show kcell w1 B1 e1 _ _ = _
            simp [kcell, hkn, hlt]
          · simp only [List.length_map, List.length_take, List.length_drop] at hj
            have hlt : eb.base + off + j < c.size := by omega
            simp only [hlt, getElem?_pos, Option.getD_some]
            apply m5.2
            unfold seg
            rw [List.mem_iff_getElem]
            exact ⟨off + j, by simp; omega, by simp [Nat.add_assoc]⟩
          · simp only [List.length_map, List.length_take, List.length_drop] at hj
            have hlt : eb.base + off + j < c.size := by omega
            simp only [List.getElem_map, List.getElem_take, List.getElem_drop, hlt, getElem?_pos, Option.getD_some]
            have h2 : off + j < (seg c eb.base cs.length).length := by rw [← m5.1.1]; omega
            have := m5.1.2 (off + j) (by omega) h2
            have e1' : (seg c eb.base cs.length)[off + j] = c[eb.base + off + j] := by
              have h3 : (seg c eb.base cs.length)[off + j]? = some ((seg c eb.base cs.length)[off + j]) := List.getElem?_eq_getElem h2
              have h4 := seg_get h3
              have h5 : eb.base + (off + j) = eb.base + off + j := by omega
              rw [h5] at h4
              rw [Array.getElem?_eq_getElem hlt] at h4
              exact (Option.some.inj h4).symm
            rw [e1'] at this
            exact snapK_ok hs hk hl d this
        · exact .junk _ _
    · intro id x hx
      cases hkp : keep id with
      | true => exact .junk _ _
      | false =>
      simp only [Bool.false_eq_true, if_false]
      cases hx with
      | map _ _ eb he =>
        split
        · rename_i es c hid
          obtain ⟨ces, hob, hlen, hes⟩ := live_map hs he hid
          exact .rom _ _ _ eb.b c ces (hl id _ eb hkp hid he _ hob) (by simp [hlen]) (by simp [hlen]) (fun j h h' => by simp only [List.getElem_map]; exact snapK_ok hs hk hl d (hes j (by simpa using h) h').1) (fun j h h' => by simp only [List.getElem_map]; exact snapK_ok hs hk hl d (hes j (by simpa using h) h').2.1)
        · exact .junk _ _
theorem snap_eq : ∀ (d : Nat) (H : Heap) (v : V), snap d H v = snapK (fun _ => false) d H v
  | 0, H, v => by unfold snap snapK; rfl
  | d + 1, H, v => by
    unfold snap snapK
    have h : snap d H = snapK (fun _ => false) d H := funext (snap_eq d H)
    rw [h]
    rfl
theorem snap_ok (d : Nat) {H : Heap} {e : Emb} {v : V} {x : Value} (hs : HS w0 B e H w) (hr : Rep w0 B e v x) : Rep w w.heap.size emp (snap d H v) x := by
  rw [snap_eq]
  have hkn : ∀ b o, w.heap[b]? = some o → known w w.heap.size emp b = some o := fun b o ho => by
    unfold known; rw [if_pos (Array.getElem?_eq_some_iff.1 ho).1]; exact ho
  exact snapK_ok (e1 := emp) hs (fun b o h => hkn b o (hs.known b o h)) (fun id k eb _ _ _ o ho => hkn _ o ho) d hr
end
end Go.Ev

/-
  CALLS, second part (own work).
-/
set_option linter.unusedSimpArgs false
set_option linter.unusedVariables false
namespace Go.Ev
open Go

section
variable {P : Program} {w0 : World} {B : Nat} {e : Emb} {H : Heap} {w : World} {Γ : Env}

/-- A function can be called. -/
def Callable (P : Program) (f : Nat) : Prop := ∃ fn, P.funcs[f]? = some fn ∧ fn.body.isSome = true ∧ fn.name ≠ "runtime.NumGoroutine"

/-- A call of a function with a body, or of one that the model answers itself. -/
def CallsE (P : Program) (f : Nat) (vs : List Value) (w : World) (Q : Ending → World → Prop) : Prop :=
  (Callable P f ∧ Calls P f ⟨vs⟩ w Q) ∨ ∃ v w', (callFunc f ⟨vs⟩).run P w = .ok (.value v) w' ∧ Q (.returned v) w'
theorem CallsE.mono {P : Program} {f : Nat} {vs : List Value} {w : World} {Q Q' : Ending → World → Prop} (h : CallsE P f vs w Q) (hq : ∀ ed w', Q ed w' → Q' ed w') : CallsE P f vs w Q' := by
  rcases h with ⟨hcb, hc⟩ | ⟨v, w', hr, hp⟩
  · exact .inl ⟨hcb, hc.mono hq⟩
  · exact .inr ⟨v, w', hr, hq _ _ hp⟩
/-- What a call comes to. -/
def CallAt (P : Program) (f : Nat) (vs : List Value) (w0 : World) (B : Nat) (e : Emb) (H : Heap) (w : World) (r : V × Heap) : Prop :=
  CallsE P f vs w fun ed w' => ∃ v e', ed = .returned v ∧ Stp w0 B e H w e' r.2 w' ∧ Rep w0 B e' r.1 v

def CallOk (P : Program) (Γ : Env) (call : CallF) : Prop := ∀ f args H r, call f args H = some r → ∀ w0 B e w vs, GlobOk Γ w0 B → HS w0 B e H w → RepL w0 B e args vs → CallAt P f vs w0 B e H w r

theorem HS.fresh (w : World) : HS w w.heap.size emp [] w :=
  ⟨fun _ _ => rfl, Nat.le_refl _, (fun id eb h => by cases h), (fun id k h => by simp at h), (fun i j bi bj ei ej h => by simp at h), (fun b o h => by cases h), (fun id k eb h => by simp at h)⟩
/-- A fresh start, the base's count of draws told otherwise. -/
theorem HS.freshAt (w : World) (d : Nat) : HS { w with drawn := d } w.heap.size emp [] w :=
  ⟨fun _ _ => rfl, Nat.le_refl _, (fun id eb h => by cases h), (fun id k h => by simp at h), (fun i j bi bj ei ej h => by simp at h), (fun b o h => by cases h), (fun id k eb h => by simp at h)⟩

theorem GlobMem.move (hg : GlobMem Γ w0 B) (hs : HS w0 B e H w) : GlobMem Γ w w.heap.size := fun g cs hc => by
  obtain ⟨this, hgB, c, el, fr, hob, hsz⟩ := hg g cs hc
  refine ⟨?_, by have := hs.szB; omega, c, el, fr, by rw [hs.old g hgB]; exact hob, hsz⟩
  have h2 := Rep.sub (hp := fun id off => .junk) (hs := fun _ _ _ _ => .junk) (hm := fun _ => .junk) (e1 := emp) (w1 := w) (B1 := w.heap.size) (fun b o h => by
    have hb : w.heap[b]? = some o := by
      unfold known at h
      split at h
      · rename_i hb; rw [hs.old b hb]; exact h
      · cases h
    unfold known; rw [if_pos (Array.getElem?_eq_some_iff.1 hb).1]; exact hb) (fun _ _ _ _ => .junk _ _) (fun _ _ _ _ _ _ => .junk _ _) (fun _ _ _ => .junk _ _) this
  exact h2
theorem GlobOk.move (hg : GlobOk Γ w0 B) (hs : HS w0 B e H w) : GlobOk Γ { w with drawn := w0.drawn } w.heap.size :=
  ⟨hg.1, fun g cs hc => ⟨Rep.rebase (w0 := w) (w1 := { w with drawn := w0.drawn }) rfl (hg.2.move hs g cs hc).1, (hg.2.move hs g cs hc).2⟩⟩

/-- The callee's new names behind the caller's. -/
def shiftE (n : Nat) (e e1 : Emb) : Emb := ⟨fun id => if id < n then e id else e1 (id - n), e.frz⟩

theorem callPlain_ok {call : CallF} (hc : CallOk P Γ call) {f : Nat} {args : List V} {vs : List Value} (hg : GlobOk Γ w0 B) (hs : HS w0 B e H w) (ha : RepL w0 B e args vs) {r : V × Heap} (h : callPlain call H f args = some r) :
    CallAt P f vs w0 B e H w r := by
  unfold callPlain at h
  split at h
  · rename_i r0 G hcall
    split at h
    · rename_i hown
      simp only [Bool.and_eq_true] at hown
      cases h
      have hsnap : RepL w w.heap.size emp (args.map (snap 4 H)) vs := ⟨by simp [ha.1], fun j h1 h2 => by simpa using snap_ok 4 hs (ha.2 j (by simpa using h1) h2)⟩
      have hat := hc f _ _ _ hcall { w with drawn := w0.drawn } w.heap.size emp w vs (hg.move hs) (HS.freshAt w _) (RepL.rebase (w0 := w) (w1 := { w with drawn := w0.drawn }) rfl hsnap)
      refine CallsE.mono hat fun ed w' hpost => ?_
      obtain ⟨v, e1, hed, hst, hr⟩ := hpost
      refine ⟨v, shiftE H.length e e1, hed, ?_, ?_⟩
      · have hsame : ∀ b, b < w.heap.size → w'.heap[b]? = w.heap[b]? := fun b hb => hst.hs.old b hb
        have hren : ∀ id j eb, (fun j => some (H.length + j)) id = some j → e1 id = some eb → shiftE H.length e e1 j = some eb := fun id j eb hj he => by
          cases hj
          simp only [shiftE]
          rw [if_neg (by omega), Nat.add_sub_cancel_left]
          exact he
        have hup : ∀ id eb, e id = some eb → shiftE H.length e e1 id = some eb := fun id eb he => by
          simp only [shiftE]; rw [if_pos (hs.ge he)]; exact he
        have hget : ∀ id k, (H ++ G.map (Option.map (Blk.ren fun j => some (H.length + j))))[id]? = some (some k) → (id < H.length ∧ H[id]? = some (some k)) ∨ (H.length ≤ id ∧ ∃ k0, G[id - H.length]? = some (some k0) ∧ k = k0.ren fun j => some (H.length + j)) := by
          intro id k hk
          rcases Nat.lt_or_ge id H.length with hl | hge
          · left; rw [List.getElem?_append_left hl] at hk; exact ⟨hl, hk⟩
          · right
            rw [List.getElem?_append_right hge, List.getElem?_map] at hk
            cases hG : G[id - H.length]? with
            | none => rw [hG] at hk; cases hk
            | some o =>
              rw [hG] at hk
              cases o with
              | none => simp at hk
              | some k0 => simp at hk; exact ⟨hge, k0, rfl, hk.symm⟩
        refine ⟨⟨fun b hb => ?_, by have := hst.size; have := hs.szB; omega, fun id eb he => ?_, fun id k hk => ?_, fun i j bi bj ei ej hi hj h1 h2 h3 => ?_, fun b o hb => by rw [hsame b (hs.frzlt hb)]; exact hs.frz b o hb, fun id k eb hk he => ?_⟩, fun id hid => ?_, by simp, fun id b hid hb => ?_, fun id eb hid he => ?_, fun b hb _ => hsame b hb, hst.size, hst.os, hst.tape, hst.output, fun _ _ h => h, fun _ _ h => .inl h, hst.drawn⟩
        · rw [hsame b (by have := hs.szB; omega)]; exact hs.old b hb
        · simp only [shiftE] at he
          split at he
          · have := hs.dom id eb he; have := hst.size; simp; omega
          · have h1 := hst.hs.dom _ _ he
            dsimp only at h1
            have := hs.szB
            simp only [List.length_append, List.length_map]
            omega
        · rcases hget id k hk with ⟨hl, hk'⟩ | ⟨hge, k0, hk', rfl⟩
          · obtain ⟨eb, o, he, ho, hok⟩ := hs.live id k hk'
            exact ⟨eb, o, hup _ _ he, by rw [hsame _ (hs.dom id eb he).2.2]; exact ho, hok.mono hup⟩
          · obtain ⟨eb, o, he, ho, hok⟩ := hst.hs.live _ _ hk'
            have hown' : k0.own = true := by
              have := (List.all_eq_true.1 hown.2) _ (List.mem_of_getElem? hk')
              exact this
            exact ⟨eb, o, by simp only [shiftE]; rw [if_neg (by omega)]; exact he, ho, hok.ownRen hren hown'⟩
        · simp only [shiftE] at h1 h2
          rcases hget i bi hi with ⟨hl, hk'⟩ | ⟨hge, k0, hk', _⟩ <;> rcases hget j bj hj with ⟨hl2, hk2⟩ | ⟨hge2, k2, hk2, _⟩
          · rw [if_pos hl] at h1; rw [if_pos hl2] at h2
            exact hs.inj i j bi bj ei ej hk' hk2 h1 h2 h3
          · rw [if_pos hl] at h1; rw [if_neg (by omega)] at h2
            have a1 := hs.dom i ei h1
            have a2 := hst.hs.dom _ ej h2
            omega
          · rw [if_neg (by omega)] at h1; rw [if_pos hl2] at h2
            have a1 := hs.dom j ej h2
            have a2 := hst.hs.dom _ ei h1
            omega
          · rw [if_neg (by omega)] at h1; rw [if_neg (by omega)] at h2
            have := hst.hs.inj _ _ k0 k2 ei ej hk' hk2 h1 h2 h3
            omega
        · show e.frz eb.b = none
          simp only [shiftE] at he
          rcases hget id k hk with ⟨hl, hk'⟩ | ⟨hge, k0, hk', _⟩
          · rw [if_pos hl] at he
            exact hs.frl id k eb hk' he
          · rw [if_neg (by omega)] at he
            have a2 := hst.hs.dom _ eb he
            cases hz : e.frz eb.b with
            | none => rfl
            | some o => have := hs.frzlt hz; omega
        · simp only [shiftE]; rw [if_pos hid]
        · rcases hget id b hb with ⟨_, hk'⟩ | ⟨hge, _⟩
          · exact ⟨b, hk'⟩
          · omega
        · simp only [shiftE] at he
          rw [if_neg (by omega)] at he
          left
          have := hst.hs.dom _ _ he
          omega
      · exact hr.ownRen (ρ := fun j => some (H.length + j)) (fun id j eb hj he => by
          cases hj
          simp only [shiftE]
          rw [if_neg (by omega), Nat.add_sub_cancel_left]
          exact he) hown.1
    · cases h
  · cases h
end
end Go.Ev

/-
  CALLS, third part: a call that is handed what it can reach (own work).
-/
set_option linter.unusedSimpArgs false
set_option linter.unusedVariables false
namespace Go.Ev
open Go

section
variable {P : Program} {w0 : World} {B : Nat} {e : Emb} {H : Heap} {w : World} {Γ : Env}

theorem reach_spec (m : Nat) (H : Heap) : ∀ (k : Nat) (todo seen : List Nat), seen.Nodup → (∀ id ∈ seen, m ≤ id ∧ ∃ b, H[id]? = some (some b)) →
    (reach m H k todo seen).Nodup ∧ ∀ id ∈ reach m H k todo seen, m ≤ id ∧ ∃ b, H[id]? = some (some b)
  | 0, todo, seen, hn, hl => by simp only [reach]; exact ⟨hn, hl⟩
  | k + 1, [], seen, hn, hl => by simp only [reach]; exact ⟨hn, hl⟩
  | k + 1, id :: todo, seen, hn, hl => by
    simp only [reach]
    split
    · exact reach_spec m H k todo seen hn hl
    · rename_i hm
      split
      · exact reach_spec m H k todo seen hn hl
      · rename_i hc
        split
        · rename_i b hb
          refine reach_spec m H k _ _ ?_ ?_
          · rw [List.nodup_append]
            refine ⟨hn, by simp, fun a ha b' hb' => ?_⟩
            simp only [List.mem_singleton] at hb'
            subst hb'
            intro hab
            subst hab
            exact hc (by simpa using ha)
          · intro x hx
            rcases List.mem_append.1 hx with hx | hx
            · exact hl x hx
            · simp only [List.mem_singleton] at hx
              subst hx
              exact ⟨by omega, b, hb⟩
        · exact reach_spec m H k todo seen hn hl

theorem nodup_inj {L : List Nat} (hn : L.Nodup) {i j x : Nat} (hi : L[i]? = some x) (hj : L[j]? = some x) : i = j := by
  obtain ⟨hi1, hi2⟩ := List.getElem?_eq_some_iff.1 hi
  obtain ⟨hj1, hj2⟩ := List.getElem?_eq_some_iff.1 hj
  rcases Nat.lt_trichotomy i j with h | h | h
  · exact absurd (hi2.trans hj2.symm) (List.pairwise_iff_getElem.1 hn i j hi1 hj1 h)
  · exact h
  · exact absurd (hj2.trans hi2.symm) (List.pairwise_iff_getElem.1 hn j i hj1 hi1 h)

theorem indexIn_get : ∀ {L : List Nat} {id j : Nat}, indexIn id L = some j → L[j]? = some id
  | [], id, j, h => by simp [indexIn] at h
  | x :: L, id, j, h => by
    simp only [indexIn] at h
    split at h
    · rename_i hx; cases h; subst hx; simp
    · obtain ⟨i, hi, rfl⟩ := Option.map_eq_some_iff.1 h
      rw [List.getElem?_cons_succ]
      exact indexIn_get hi

theorem setMany_length : ∀ (L : List Nat) (H G : Heap), (setMany H L G).length = H.length
  | [], H, G => by cases G <;> rfl
  | id :: L, H, [] => by rfl
  | id :: L, H, b :: G => by simp [setMany, setMany_length L]
theorem setMany_out : ∀ (L : List Nat) (H G : Heap) (id : Nat), id ∉ L → (setMany H L G)[id]? = H[id]?
  | [], H, G, id, h => by cases G <;> rfl
  | x :: L, H, [], id, h => by rfl
  | x :: L, H, b :: G, id, h => by
    simp only [List.mem_cons, not_or] at h
    rw [setMany, setMany_out L _ G id h.2, List.getElem?_set_ne (by omega)]
theorem setMany_in : ∀ (L : List Nat) (H G : Heap) (j id : Nat), L.Nodup → L[j]? = some id → j < G.length → id < H.length → (setMany H L G)[id]? = G[j]?
  | [], H, G, j, id, hn, h, hj, hid => by simp at h
  | x :: L, H, [], j, id, hn, h, hj, hid => by simp at hj
  | x :: L, H, b :: G, j, id, hn, h, hj, hid => by
    rw [List.nodup_cons] at hn
    rw [setMany]
    cases j with
    | zero =>
      simp only [List.getElem?_cons_zero, Option.some.injEq] at h
      subst h
      rw [setMany_out L _ G x hn.1]
      simp [hid]
    | succ j =>
      rw [List.getElem?_cons_succ] at h
      rw [setMany_in L (H.set x b) G j id hn.2 h (by simpa using hj) (by simpa using hid), List.getElem?_cons_succ]

theorem renB_get {ρ : Nat → Option Nat} {o : Option Blk} {k : Blk} (h : o.map (Blk.ren ρ) = some k) : ∃ k0, o = some k0 ∧ k = k0.ren ρ := by
  obtain ⟨k0, h1, h2⟩ := Option.map_eq_some_iff.1 h
  exact ⟨k0, h1, h2.symm⟩

def subE (L : List Nat) (e : Emb) : Emb := ⟨fun j => (L[j]?).bind e.loc, e.frz⟩
def backE (n : Nat) (L : List Nat) (e e1 : Emb) : Emb := ⟨fun id => if id < n then e id else e1 (L.length + (id - n)), e1.frz⟩
theorem subE_at (L : List Nat) (e : Emb) (j : Nat) : subE L e j = (L[j]?).bind e.loc := rfl
theorem backE_at (n : Nat) (L : List Nat) (e e1 : Emb) (id : Nat) : backE n L e e1 id = if id < n then e id else e1 (L.length + (id - n)) := rfl

theorem sub_hs (hs : HS w0 B e H w) {L : List Nat} (hn : L.Nodup) : HS w0 B (subE L e) (L.map fun id => (H.getD id none).map (Blk.ren fun id => indexIn id L)) w := by
  have hget : ∀ (j : Nat) (k : Blk), (L.map fun id => (H.getD id none).map (Blk.ren fun id => indexIn id L))[j]? = some (some k) → ∃ (id : Nat) (k0 : Blk), L[j]? = some id ∧ H[id]? = some (some k0) ∧ k = k0.ren (fun id => indexIn id L) := by
    intro j k hk
    rw [List.getElem?_map] at hk
    cases hL : L[j]? with
    | none => rw [hL] at hk; cases hk
    | some id =>
      rw [hL] at hk
      simp only [Option.map_some, Option.some.injEq] at hk
      obtain ⟨k0, h1, h2⟩ := renB_get hk
      refine ⟨id, k0, rfl, ?_, h2⟩
      rw [List.getD_eq_getElem?_getD] at h1
      cases hH : H[id]? with
      | none => rw [hH] at h1; cases h1
      | some o => rw [hH] at h1; simp at h1; rw [h1]
  have hjs : ∀ j eb, subE L e j = some eb → ∃ id, L[j]? = some id ∧ e id = some eb := fun j eb h => by
    rw [subE_at] at h
    exact Option.bind_eq_some_iff.1 h
  refine ⟨hs.old, hs.szB, fun j eb h => ?_, fun j k hk => ?_, fun i j bi bj ei ej hi hj h1 h2 h3 => ?_, hs.frz, fun j k eb hk h => ?_⟩
  · obtain ⟨id, h1, h2⟩ := hjs j eb h
    have := hs.dom id eb h2
    have hj := (List.getElem?_eq_some_iff.1 h1).1
    simp only [List.length_map]
    exact ⟨hj, this.2⟩
  · obtain ⟨id, k0, h1, h2, rfl⟩ := hget j k hk
    obtain ⟨eb, o, he, ho, hok⟩ := hs.live id k0 h2
    refine ⟨eb, o, by rw [subE_at]; rw [h1]; exact he, ho, hok.ren fun id' j' eb' hi' he' => ?_⟩
    rw [subE_at]
    rw [indexIn_get hi']
    exact he'
  · obtain ⟨a, ka, a1, a2, _⟩ := hget i bi hi
    obtain ⟨b, kb, b1, b2, _⟩ := hget j bj hj
    obtain ⟨a', a3, a4⟩ := hjs i ei h1
    obtain ⟨b', b3, b4⟩ := hjs j ej h2
    rw [a1] at a3; cases a3
    rw [b1] at b3; cases b3
    have := hs.inj a b ka kb ei ej a2 b2 a4 b4 h3
    subst this
    have hi' := (List.getElem?_eq_some_iff.1 a1).1
    have hj' := (List.getElem?_eq_some_iff.1 b1).1
    exact nodup_inj hn a1 b1
  · show e.frz eb.b = none
    obtain ⟨a, ka, a1, a2, _⟩ := hget j k hk
    obtain ⟨a', a3, a4⟩ := hjs j eb h
    rw [a1] at a3; cases a3
    exact hs.frl a ka eb a2 a4

theorem back_stp (hs : HS w0 B e H w) {L : List Nat} (hn : L.Nodup) (hlive : ∀ id ∈ L, ∃ b, H[id]? = some (some b)) {e1 : Emb} {G : Heap} {w' : World}
    (hst : Stp w0 B (subE L e) (L.map fun id => (H.getD id none).map (Blk.ren fun id => indexIn id L)) w e1 G w') :
    Stp w0 B e H w (backE H.length L e e1) (setMany H L ((G.take L.length).map (Option.map (Blk.ren (backOf H.length L)))) ++ (G.drop L.length).map (Option.map (Blk.ren (backOf H.length L)))) w' ∧
      ∀ id j eb, backOf H.length L id = some j → e1 id = some eb → backE H.length L e e1 j = some eb := by
  have hlen : L.length ≤ G.length := by have := hst.len; simpa using this
  have hltH : ∀ id ∈ L, id < H.length := fun id hid => by
    obtain ⟨b, hb⟩ := hlive id hid
    exact (List.getElem?_eq_some_iff.1 hb).1
  have hL0 : ∀ j id, L[j]? = some id → e1 j = e id := fun j id hj => by
    have hlt := (List.getElem?_eq_some_iff.1 hj).1
    rw [hst.ext j (by simpa using hlt)]
    rw [subE_at]
    rw [hj]
    rfl
  have hren : ∀ id j eb, backOf H.length L id = some j → e1 id = some eb → backE H.length L e e1 j = some eb := by
    intro id j eb hj he
    unfold backOf at hj
    split at hj
    · rw [hL0 id j hj] at he
      rw [backE_at]
      rw [if_pos (hltH j (List.mem_of_getElem? hj))]
      exact he
    · cases hj
      rw [backE_at]
      rw [if_neg (by omega), show L.length + (H.length + (id - L.length) - H.length) = id by omega]
      exact he
  have hup : ∀ id eb, e id = some eb → backE H.length L e e1 id = some eb := fun id eb he => by
    rw [backE_at]; rw [if_pos (hs.ge he)]; exact he
  refine ⟨?_, hren⟩
  have hX : (setMany H L ((G.take L.length).map (Option.map (Blk.ren (backOf H.length L))))).length = H.length := setMany_length _ _ _
  have hX2 : (setMany H L ((G.take L.length).map (Option.map (Blk.ren (backOf H.length L)))) ++ (G.drop L.length).map (Option.map (Blk.ren (backOf H.length L)))).length = H.length + (G.length - L.length) := by
    rw [List.length_append, hX, List.length_map, List.length_drop]
  -- where a block of the new heap comes from
  have hget : ∀ (id : Nat) (k : Blk), (setMany H L ((G.take L.length).map (Option.map (Blk.ren (backOf H.length L)))) ++ (G.drop L.length).map (Option.map (Blk.ren (backOf H.length L))))[id]? = some (some k) →
      (id < H.length ∧ id ∉ L ∧ H[id]? = some (some k)) ∨ (∃ j k0, G[j]? = some (some k0) ∧ k = k0.ren (backOf H.length L) ∧ backOf H.length L j = some id ∧ e1 j = backE H.length L e e1 id) := by
    intro id k hk
    rcases Nat.lt_or_ge id H.length with hl | hge
    · rw [List.getElem?_append_left (by omega)] at hk
      by_cases hid : id ∈ L
      · right
        obtain ⟨j, hj⟩ := List.getElem?_of_mem hid
        have hjlt := (List.getElem?_eq_some_iff.1 hj).1
        rw [setMany_in L H _ j id hn hj (by simp; omega) hl] at hk
        rw [List.getElem?_map, List.getElem?_take, if_pos hjlt] at hk
        cases hG : G[j]? with
        | none => rw [hG] at hk; cases hk
        | some o =>
          rw [hG] at hk
          simp only [Option.map_some, Option.some.injEq] at hk
          obtain ⟨k0, rfl, hk0⟩ := renB_get hk
          refine ⟨j, k0, hG, hk0, by unfold backOf; rw [if_pos hjlt]; exact hj, ?_⟩
          rw [hL0 j id hj]
          rw [backE_at]
          rw [if_pos hl]
      · left
        rw [setMany_out L H _ id hid] at hk
        exact ⟨hl, hid, hk⟩
    · right
      rw [List.getElem?_append_right (by omega), hX, List.getElem?_map, List.getElem?_drop] at hk
      cases hG : G[L.length + (id - H.length)]? with
      | none => rw [hG] at hk; cases hk
      | some o =>
        rw [hG] at hk
        simp only [Option.map_some, Option.some.injEq] at hk
        obtain ⟨k0, rfl, hk0⟩ := renB_get hk
        refine ⟨_, k0, hG, hk0, ?_, ?_⟩
        · unfold backOf; rw [if_neg (by omega)]; congr 1; omega
        · rw [backE_at]; rw [if_neg (by omega)]
  have hsub : ∀ (j : Nat) (k : Blk), (L.map fun id => (H.getD id none).map (Blk.ren fun id => indexIn id L))[j]? = some (some k) → ∃ (id : Nat) (k0 : Blk), L[j]? = some id ∧ H[id]? = some (some k0) := by
    intro j k hk
    rw [List.getElem?_map] at hk
    cases hL : L[j]? with
    | none => rw [hL] at hk; cases hk
    | some id =>
      obtain ⟨b, hb⟩ := hlive id (List.mem_of_getElem? hL)
      exact ⟨id, b, rfl, hb⟩
  -- a new name's block is fresh, or one of those handed in
  have hnew : ∀ j eb, L.length ≤ j → e1 j = some eb → w.heap.size ≤ eb.b ∨ ∃ i bi ei, i ∈ L ∧ H[i]? = some (some bi) ∧ e i = some ei ∧ ei.b = eb.b := by
    intro j eb hj he
    rcases hst.new j eb (by simpa using hj) he with h | ⟨i, bi, ei, h1, h2, h3⟩
    · exact .inl h
    · right
      obtain ⟨id, k0, h4, h5⟩ := hsub i bi h1
      refine ⟨id, k0, ei, List.mem_of_getElem? h4, h5, ?_, h3⟩
      rw [subE_at] at h2
      rw [h4] at h2
      exact h2
  have hframe : ∀ b, b < w.heap.size → (∀ i bi ei, i ∈ L → H[i]? = some (some bi) → e i = some ei → ei.b ≠ b) → w'.heap[b]? = w.heap[b]? := by
    intro b hb hne
    refine hst.frame b hb fun i bi ei h1 h2 => ?_
    obtain ⟨id, k0, h4, h5⟩ := hsub i bi h1
    rw [subE_at] at h2
    rw [h4] at h2
    exact hne id k0 ei (List.mem_of_getElem? h4) h5 h2
  -- the block of a live name out of G, in terms of the caller's blocks
  have horig : ∀ j k0 eb, G[j]? = some (some k0) → e1 j = some eb → w.heap.size ≤ eb.b ∨ ∃ i bi ei, i ∈ L ∧ H[i]? = some (some bi) ∧ e i = some ei ∧ ei.b = eb.b := by
    intro j k0 eb hG he
    rcases Nat.lt_or_ge j L.length with hj | hj
    · right
      have hLj : L[j]? = some L[j] := List.getElem?_eq_getElem hj
      obtain ⟨b, hb⟩ := hlive L[j] (List.getElem_mem hj)
      exact ⟨L[j], b, eb, List.getElem_mem hj, hb, by rw [← hL0 j _ hLj]; exact he, rfl⟩
    · exact hnew j eb hj he
  refine ⟨⟨hst.hs.old, hst.hs.szB, fun id eb he => ?_, fun id k hk => ?_, fun i j bi bj ei ej hi hj h1 h2 h3 => ?_, hst.hs.frz, fun id k eb hk he => ?_⟩, fun id hid => ?_, by rw [hX2]; omega, fun id b hid hb => ?_, fun id eb hid he => ?_, fun b hb hne => hframe b hb fun i bi ei hi => hne i bi ei, hst.size, hst.os, hst.tape, hst.output, hst.fup, fun b o hb => ?_, hst.drawn⟩
  · rw [backE_at] at he
    split at he
    · have := hs.dom id eb he; have := hst.size; rw [hX2]; omega
    · have h1 := hst.hs.dom _ _ he
      rw [hX2]
      omega
  · rcases hget id k hk with ⟨hl, hnl, hk'⟩ | ⟨j, k0, hG, rfl, hj, he1⟩
    · obtain ⟨eb, o, he, ho, hok⟩ := hs.live id k hk'
      refine ⟨eb, o, hup _ _ he, ?_, hok.mono hup hst.fup⟩
      rw [hframe eb.b (hs.dom id eb he).2.2 fun i bi ei hi hbi hei heq => hnl (by rw [hs.inj id i k bi eb ei hk' hbi he hei heq.symm]; exact hi)]
      exact ho
    · obtain ⟨eb, o, he, ho, hok⟩ := hst.hs.live j k0 hG
      exact ⟨eb, o, by rw [← he1]; exact he, ho, hok.ren hren⟩
  · rcases hget i bi hi with ⟨hl, hnl, hk'⟩ | ⟨a, k0, hG, rfl, ha, he1⟩ <;> rcases hget j bj hj with ⟨hl2, hnl2, hk2⟩ | ⟨b, k2, hG2, rfl, hb, he2⟩
    · rw [backE_at] at h1 h2
      rw [if_pos hl] at h1; rw [if_pos hl2] at h2
      exact hs.inj i j bi bj ei ej hk' hk2 h1 h2 h3
    · exfalso
      rw [backE_at] at h1
      rw [if_pos hl] at h1
      rw [← he2] at h2
      rcases horig b k2 ej hG2 h2 with hx | ⟨x, bx, ex, hx1, hx2, hx3, hx4⟩
      · have := hs.dom i ei h1; omega
      · have := hs.inj i x bi bx ei ex hk' hx2 h1 hx3 (by omega)
        subst this
        exact hnl hx1
    · exfalso
      rw [backE_at] at h2
      rw [if_pos hl2] at h2
      rw [← he1] at h1
      rcases horig a k0 ei hG h1 with hx | ⟨x, bx, ex, hx1, hx2, hx3, hx4⟩
      · have := hs.dom j ej h2; omega
      · have := hs.inj j x bj bx ej ex hk2 hx2 h2 hx3 (by omega)
        subst this
        exact hnl2 hx1
    · rw [← he1] at h1
      rw [← he2] at h2
      have := hst.hs.inj a b k0 k2 ei ej hG hG2 h1 h2 h3
      subst this
      rw [ha] at hb
      exact Option.some.inj hb
  · show e1.frz eb.b = none
    rcases hget id k hk with ⟨hl, hnl, hk'⟩ | ⟨a, k0, hG, rfl, ha, he1⟩
    · rw [backE_at] at he
      simp only [if_pos hl] at he
      cases hz : e1.frz eb.b with
      | none => rfl
      | some o =>
        rcases hst.fnew eb.b o hz with h1 | h1 | ⟨i, bi, ei, h1, h2, h3⟩
        · have h4 := hs.frl id k eb hk' he
          rw [show e.frz eb.b = some o from h1] at h4; cases h4
        · have := (hs.dom id eb he).2.2; omega
        · obtain ⟨x, bx, hx1, hx2⟩ := hsub i bi h1
          rw [subE_at] at h2
          simp only [hx1, Option.bind_some] at h2
          have := hs.inj x id bx k ei eb hx2 hk' h2 he h3
          subst this
          exact absurd (List.mem_of_getElem? hx1) hnl
    · rw [← he1] at he
      exact hst.hs.frl a k0 eb hG he
  · rw [backE_at]; rw [if_pos hid]
  · rcases hget id b hb with ⟨_, _, hk'⟩ | ⟨j, k0, hG, rfl, hj, he1⟩
    · exact ⟨b, hk'⟩
    · unfold backOf at hj
      split at hj
      · exact hlive id (List.mem_of_getElem? hj)
      · cases hj; omega
  · rw [backE_at] at he
    rw [if_neg (by omega)] at he
    rcases hnew _ eb (by omega) he with h | ⟨i, bi, ei, _, h2, h3, h4⟩
    · exact .inl h
    · exact .inr ⟨i, bi, ei, h2, h3, h4⟩
  · rcases hst.fnew b o hb with h1 | h1 | ⟨i, bi, ei, h1, h2, h3⟩
    · exact .inl h1
    · exact .inr (.inl h1)
    · obtain ⟨x, bx, hx1, hx2⟩ := hsub i bi h1
      rw [subE_at] at h2
      simp only [hx1, Option.bind_some] at h2
      exact .inr (.inr ⟨x, bx, ei, hx2, h2, h3⟩)

theorem callWide_ok {call : CallF} (hc : CallOk P Γ call) {f : Nat} {args : List V} {vs : List Value} (hg : GlobOk Γ w0 B) (hs : HS w0 B e H w) (ha : RepL w0 B e args vs) {r : V × Heap} (h : callWide call H f args = some r) :
    CallAt P f vs w0 B e H w r := by
  unfold callWide at h
  have hsp := reach_spec 0 H fuelR (refsL args) [] (by simp) (by simp)
  simp only at h
  generalize reach 0 H fuelR (refsL args) [] = L at h hsp
  obtain ⟨hn, hlive0⟩ := hsp
  have hlive : ∀ id ∈ L, ∃ b, H[id]? = some (some b) := fun id hid => (hlive0 id hid).2
  split at h
  · rename_i r0 G hcall
    split at h
    · rename_i hlen
      cases h
      have hargs : RepL w0 B (subE L e) (args.map (V.ren fun id => indexIn id L)) vs := RepL.ren (fun id j eb hj he => by rw [subE_at]; rw [indexIn_get hj]; exact he) ha
      have hat := hc f _ _ _ hcall w0 B (subE L e) w vs hg (sub_hs hs hn) hargs
      refine CallsE.mono hat fun ed w' hpost => ?_
      obtain ⟨v, e1, hed, hst, hr⟩ := hpost
      obtain ⟨h1, h2⟩ := back_stp hs hn hlive hst
      exact ⟨v, _, hed, h1, hr.ren h2⟩
    · cases h
  · cases h
end
end Go.Ev
