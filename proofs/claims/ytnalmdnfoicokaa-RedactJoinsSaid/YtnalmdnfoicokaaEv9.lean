/-
  EACH OPERATION THAT CALLS NOTHING DOES WHAT THE EVALUATOR SAYS, sixth part: literals, make, conversions, append, copy (own work).
-/
import Derived.Test.YtnalmdnfoicokaaEv8
import Derived.Laws.Tables
import Derived.Laws.Append
set_option linter.unusedSimpArgs false
set_option linter.unusedVariables false
namespace Go.Ev
open Go

section
variable {P : Program} {w0 : World} {B : Nat} {e : Emb} {H : Heap} {w : World}

theorem setAll : ∀ (vs : List Value) (k off : Nat) (c : Array Value), off + k + vs.length ≤ c.size →
    ((vs.zipIdx k).foldl (fun cs (x : Value × Nat) => cs.setIfInBounds (off + x.2) x.1) c).toList = c.toList.take (off + k) ++ vs ++ c.toList.drop (off + k + vs.length)
  | [], k, off, c, h => by simp
  | v :: vs, k, off, c, h => by
    simp only [List.length_cons] at h
    rw [List.zipIdx_cons, List.foldl_cons, setAll vs (k + 1) off _ (by simp; omega)]
    have := list_seg_step c.toList (off + k) v vs (by simp; omega)
    simpa [Array.toList_setIfInBounds, Nat.add_assoc] using this

theorem fill_ok {place : Nat → Option (Nat × Nat)} {f : Operand → V} {g : Operand → Value} (hfg : ∀ x, Rep w0 B e (f x) (g x)) :
    ∀ (ps : List (Nat × Operand)) (cs r : List V) (c : Array Value), CellsOk w0 B e cs c.toList → fillV place cs (ps.map fun (i, x) => (i, f x)) = some r →
      ∃ c', Instr.fill place c (ps.map fun (i, x) => (i, g x)) = some c' ∧ CellsOk w0 B e r c'.toList
  | [], cs, r, c, hc, h => by
    simp only [List.map_nil, fillV, Option.some.injEq] at h
    subst h
    exact ⟨c, by simp [Instr.fill], hc⟩
  | (i, x) :: ps, cs, r, c, hc, h => by
    simp only [List.map_cons, fillV] at h
    split at h
    · rename_i off size vs hp hv
      split at h
      · rename_i hle
        simp only [Bool.and_eq_true, beq_iff_eq, decide_eq_true_eq] at hle
        have hcv := cells_ok (hfg x) hv
        have hl1 : (g x).cells.size = size := by have := hcv.1.1; simp at this; omega
        have hl2 : c.size = cs.length := by have := hc.1.1; simp at this; omega
        have hset := setAll (g x).cells.toList 0 off c (by simp; omega)
        simp only [Nat.add_zero] at hset
        have hnew : CellsOk w0 B e (cs.take off ++ vs ++ cs.drop (off + size)) (((g x).cells.toList.zipIdx 0).foldl (fun cs (x : Value × Nat) => cs.setIfInBounds (off + x.2) x.1) c).toList := by
          rw [hset]
          have : (g x).cells.toList.length = size := by simpa using hl1
          rw [this]
          exact ((hc.take off).append hcv).append (hc.drop _)
        obtain ⟨c', hc', hok⟩ := fill_ok hfg ps _ r _ hnew h
        refine ⟨c', ?_, hok⟩
        simp only [List.map_cons, Instr.fill, hp]
        rw [if_neg (by simp; omega)]
        rw [← hc']
        congr 1
        rw [← Array.foldl_toList, Array.toList_zipIdx]
      · cases h
    · cases h

theorem places_ok : ∀ (fs : List Field) (pl : List (Nat × Nat)), placesOf P fs = some pl → fs.mapM (fun f => (P.info? f.type).map fun i => (f.offset, i.size)) = some pl
  | [], pl, h => by simp only [placesOf, Option.some.injEq] at h; subst h; simp
  | f :: fs, pl, h => by
    simp only [placesOf] at h
    split at h
    · rename_i n l hz hl
      cases h
      obtain ⟨i, hi, rfl⟩ := info_of_tsz hz
      simp [List.mapM_cons, hi, places_ok fs l hl]
    · cases h

theorem build_ok {t : TypeId} {z : V} {f : Operand → V} {g : Operand → Value} (hfg : ∀ x, Rep w0 B e (f x) (g x)) (ps : Array (Nat × Operand)) (h : buildV P t (ps.toList.map fun (i, x) => (i, f x)) = some z) :
    ∃ vz, (Instr.build t (ps.map fun (i, x) => (i, g x))).run P w = .ok vz w ∧ Rep w0 B e z vz := by
  unfold buildV at h
  split at h
  · rename_i zz fs hz hu
    split at h
    · rename_i cs pl hcs hpl
      obtain ⟨r, hr, rfl⟩ := Option.map_eq_some_iff.1 h
      obtain ⟨zv, _, hrep, it, hit, hzero⟩ := rzero hz
      obtain ⟨c', hc', hok⟩ := fill_ok hfg ps.toList _ _ _ (cells_ok (hrep w0 B e) hcs) hr
      refine ⟨.agg c', run_build w t _ c' ?_, .agg _ _ c'.toList hok.1.1 hok.2 hok.1.2⟩
      unfold Program.built
      simp only [hit, hu, hzero, places_ok _ _ hpl]
      rw [Array.toList_map, ← hc']
      congr 1
      funext i
      simp
    · cases h
  · rename_i zz n el hz hu
    split at h
    · rename_i cs m hcs hm
      obtain ⟨r, hr, rfl⟩ := Option.map_eq_some_iff.1 h
      obtain ⟨zv, _, hrep, it, hit, hzero⟩ := rzero hz
      obtain ⟨ie, hie, rfl⟩ := info_of_tsz hm
      obtain ⟨c', hc', hok⟩ := fill_ok hfg ps.toList _ _ _ (cells_ok (hrep w0 B e) hcs) hr
      refine ⟨.agg c', run_build w t _ c' ?_, .agg _ _ c'.toList hok.1.1 hok.2 hok.1.2⟩
      unfold Program.built
      simp only [hit, hu, hzero, hie]
      rw [Array.toList_map, ← hc']
    · cases h
  · cases h

theorem zerosV_length (z : List V) : ∀ n, (zerosV z n).length = n * z.length
  | 0 => by simp [zerosV]
  | n + 1 => by simp [zerosV, zerosV_length z n, Nat.add_mul]; omega
theorem zerosV_get (z : List V) : ∀ (n j : Nat) (h : j < (zerosV z n).length) (h' : j % z.length < z.length), (zerosV z n)[j] = z[j % z.length]
  | 0, j, h, h' => by simp [zerosV] at h
  | n + 1, j, h, h' => by
    simp only [zerosV]
    rcases Nat.lt_or_ge j z.length with hj | hj
    · rw [List.getElem_append_left hj]
      congr 1
      exact (Nat.mod_eq_of_lt hj).symm
    · rw [List.getElem_append_right hj]
      have hlen := zerosV_length z n
      have hj2 : j - z.length < (zerosV z n).length := by
        have := zerosV_length z (n + 1); rw [this] at h; rw [hlen]; rw [Nat.add_mul] at h; omega
      have hm : (j - z.length) % z.length = j % z.length := by rw [← Nat.mod_eq_sub_mod hj]
      rw [zerosV_get z n (j - z.length) hj2 (by rw [hm]; exact h')]
      congr 1

theorem zeros_ok {z : List V} {c : Array Value} (h : CellsOk w0 B e z c.toList) (n m : Nat) (hm : m = n * z.length) : CellsOk w0 B e (zerosV z n) ((Array.range m).map (fun i => c[i % c.size]!)).toList := by
  subst hm
  have hl : c.size = z.length := by have := h.1.1; simp at this; omega
  refine ⟨⟨by simp [zerosV_length], fun j h1 h2 => ?_⟩, fun v hv => ?_⟩
  · have hlt : j < n * z.length := by rw [zerosV_length] at h1; exact h1
    have hpos : 0 < z.length := by rcases Nat.eq_zero_or_pos z.length with h0 | h0; · rw [h0] at hlt; simp at hlt
                                   · exact h0
    have hmod : j % z.length < z.length := Nat.mod_lt _ hpos
    rw [zerosV_get z n j h1 hmod]
    have := h.1.2 (j % z.length) hmod (by simp [hl, hmod])
    simpa [hl, hmod] using this
  · simp only [Array.toList_map, Array.toList_range, List.mem_map, List.mem_range] at hv
    obtain ⟨j, hj, rfl⟩ := hv
    have hpos : 0 < z.length := by rcases Nat.eq_zero_or_pos z.length with h0 | h0; · rw [h0] at hj; simp at hj
                                   · exact h0
    have hmod : j % c.size < c.size := Nat.mod_lt _ (by omega)
    rw [getElem!_pos c (j % c.size) hmod]
    exact h.2 _ (by simp)

theorem sl_new (e : Emb) (n len cap sz b tot : Nat) (hl : len ≤ cap) (hz : 0 < sz) (ht : cap * sz = tot) : Rep w0 B (Emb.put e n ⟨b, 0, tot⟩) (.sl n 0 len sz) (.slice (some ⟨b, 0, none⟩) len cap) :=
  .sl _ _ _ _ _ cap ⟨b, 0, tot⟩ 0 (put_self e n _) hl hz (by simp [ht]) (fun _ => rfl)

theorem tzc_ok {t : TypeId} {cs : List V} (h : tzc P t = some cs) : ∃ z, (∀ w, (zeroValue t).run P w = .ok z w) ∧ (∀ w0 B e, CellsOk w0 B e cs z.cells.toList) ∧ ∃ i, P.info? t = some i ∧ i.zero = some z := by
  obtain ⟨x, hx, hc⟩ := Option.bind_eq_some_iff.1 h
  obtain ⟨z, hz, hr, hi⟩ := rzero hx
  exact ⟨z, hz, fun w0 B e => cells_ok (hr w0 B e) hc, hi⟩

theorem buildSlice_ok (hs : HS w0 B e H w) {t : TypeId} {len : Nat} {r : V × Heap} {f : Operand → V} {g : Operand → Value} (hfg : ∀ x, Rep w0 B e (f x) (g x)) (ps : Array (Nat × Operand))
    (h : buildSliceV P H t len (ps.toList.map fun (i, x) => (i, f x)) = some r) :
    OpOk P w0 B e H w (do Pure.pure (.value (← Instr.buildSlice t len (ps.map fun (i, x) => (i, g x))))) r := by
  unfold buildSliceV at h
  split at h
  · rename_i el hu
    split at h
    · rename_i n z hn hz
      split at h
      · cases h
      · rename_i hc
        simp only [Bool.or_eq_true, decide_eq_true_eq, bne_iff_ne, not_or, Classical.not_not, ne_eq] at hc
        obtain ⟨⟨hc1, hc2⟩, hc3⟩ := hc
        split at h
        · rename_i cs hf
          cases h
          obtain ⟨zv, hzv, hzc, i, hi, hi2⟩ := tzc_ok hz
          have hlz : zv.cells.size = n := by have := (hzc w0 B e).1.1; simp at this; omega
          obtain ⟨c', hc', hok⟩ := fill_ok hfg ps.toList _ _ _ (zeros_ok (hzc w0 B e) len (len * n) (by rw [hc2])) hf
          have hcl : c'.size = len * n := by
            have h1 := hok.1.1
            have h2 := (zeros_ok (hzc w0 B e) len (len * n) (by rw [hc2])).1.1
            have : ∀ (ps : List (Nat × V)) (cs r : List V) (place : Nat → Option (Nat × Nat)), fillV place cs ps = some r → r.length = cs.length := by
              intro ps
              induction ps with
              | nil => intro cs r place h; simp only [fillV, Option.some.injEq] at h; rw [h]
              | cons p ps ih =>
                obtain ⟨i, x⟩ := p
                intro cs r place h
                simp only [fillV] at h
                split at h
                · split at h
                  · rename_i hle
                    simp only [Bool.and_eq_true, beq_iff_eq, decide_eq_true_eq] at hle
                    rw [ih _ _ _ h]
                    simp; omega
                  · cases h
                · cases h
            have h3 := this _ _ _ _ hf
            rw [zerosV_length, hc2] at h3
            simp at h1
            omega
          refine OpOk.val (v' := .slice (some ⟨w.heap.size, 0, none⟩) len len) ?_ (row_ok (el := el) hs true hok) (sl_new e H.length len len n w.heap.size c'.size (Nat.le_refl _) (by omega) hcl.symm)
          have hc'' : Instr.fill (fun i => some (i * n, n)) ((Array.range (len * n)).map (zv.cells[· % zv.cells.size]!)) (ps.map fun (i, x) => (i, g x)).toList = some c' := by
            rw [Array.toList_map, ← hc']
          have hgt : ¬ len * n > 2 ^ 24 := hc1
          by_cases h0 : len * n = 0
          · have hlen0 : len = 0 := by rcases Nat.mul_eq_zero.1 h0 with h | h <;> omega
            subst hlen0
            have hr0 : Array.range 0 = (#[] : Array Nat) := by simp [Array.range]
            simp only [Nat.zero_mul, hr0, Array.map_empty] at hc''
            simp only [Instr.buildSlice, Sem.run_bind, runder hu, Result.andThen_ok, rsizeOf hn, Nat.zero_mul, if_true, Sem.run_pure, hr0, Array.map_empty, hc'', rnewRow]
            rw [if_neg (by omega)]
            simp only [Sem.run_bind, Sem.run_pure, Result.andThen_ok, hr0, Array.map_empty, hc'', rnewRow]
          · simp only [Instr.buildSlice, Sem.run_bind, runder hu, Result.andThen_ok, rsizeOf hn, hgt, if_false, h0, hzv, Sem.run_pure, hc'', rnewRow]
        · cases h
    · cases h
  · cases h
end
end Go.Ev
