import Derived.Test.YtflmadkbppnmcaaEvD
set_option linter.unusedSimpArgs false
set_option linter.unusedVariables false
namespace Go.Ev
open Go
def rowC (n : Nat) (f : Nat → Int) : List V := (List.range n).map fun j => .int .i64 (f j)
def outC (b n : Nat) : List V := (List.range n).map fun i => .sl (b + i) 0 n 1
@[simp] theorem rowC_length (n : Nat) (f : Nat → Int) : (rowC n f).length = n := by simp [rowC]
@[simp] theorem outC_length (b n : Nat) : (outC b n).length = n := by simp [outC]
theorem rowC_drop {n : Nat} (f : Nat → Int) {j : Nat} (h : j < n) : (rowC n f).drop j = .int .i64 (f j) :: (rowC n f).drop (j + 1) := by
  rw [List.drop_eq_getElem_cons (by simpa using h)]; simp [rowC]
theorem outC_drop {b n : Nat} {i : Nat} (h : i < n) : (outC b n).drop i = .sl (b + i) 0 n 1 :: (outC b n).drop (i + 1) := by
  rw [List.drop_eq_getElem_cons (by simpa using h)]; simp [outC]
theorem rowC_set {n : Nat} (f : Nat → Int) {j : Nat} (h : j < n) (v : Int) : (rowC n f).take j ++ V.int .i64 v :: (rowC n f).drop (j + 1) = rowC n (fun a => if a = j then v else f a) := by
  refine List.ext_getElem? fun q => ?_
  rcases Nat.lt_trichotomy q j with hq | hq | hq
  · rw [List.getElem?_append_left (by simp; omega), List.getElem?_take, if_pos hq]
    simp only [rowC, List.getElem?_map]
    cases hr : (List.range n)[q]? with
    | none => rfl
    | some w => have : w = q := by
                  have := List.getElem?_eq_some_iff.1 hr
                  obtain ⟨h1, h2⟩ := this; simpa using h2.symm
                subst this
                simp [show w ≠ j by omega]
  · subst hq
    rw [List.getElem?_append_right (by simp; omega)]
    simp [rowC, h, Nat.min_eq_left (Nat.le_of_lt h)]
  · rw [List.getElem?_append_right (by simp; omega)]
    have : q - (List.take j (rowC n f)).length = (q - j - 1) + 1 := by simp; omega
    rw [this, List.getElem?_cons_succ, List.getElem?_drop]
    have e : j + 1 + (q - j - 1) = q := by omega
    rw [e]
    simp only [rowC, List.getElem?_map]
    cases hr : (List.range n)[q]? with
    | none => rfl
    | some w => have : w = q := by
                  have := List.getElem?_eq_some_iff.1 hr
                  obtain ⟨h1, h2⟩ := this; simpa using h2.symm
                subst this
                simp [show w ≠ j by omega]
theorem rowC_congr {n : Nat} {f g : Nat → Int} (h : ∀ j, j < n → f j = g j) : rowC n f = rowC n g := List.map_congr_left fun j hj => by rw [h j (List.mem_range.1 hj)]
theorem refsL_ints (l : List Nat) (f : Nat → Int) : refsL (l.map fun j => V.int .i64 (f j)) = [] := by
  induction l with
  | nil => rfl
  | cons a l ih => simp only [List.map_cons, refsL, V.refs, ih]; rfl
theorem leavesL_ints (l : List Nat) (f : Nat → Int) : leavesL (l.map fun j => V.int .i64 (f j)) = [] := by
  induction l with
  | nil => rfl
  | cons a l ih => simp only [List.map_cons, leavesL, V.leaves, ih]; rfl
@[simp] theorem refsL_rowC (n : Nat) (f : Nat → Int) : refsL (rowC n f) = [] := refsL_ints _ f
@[simp] theorem leavesL_rowC (n : Nat) (f : Nat → Int) : leavesL (rowC n f) = [] := leavesL_ints _ f
@[simp] theorem renL_rowC (ρ : Nat → Option Nat) (n : Nat) (f : Nat → Int) : renL ρ (rowC n f) = rowC n f := by
  rw [renL_eq]; simp only [rowC, List.map_map]; rfl
@[simp] theorem subL_rowC (hp : Nat → Nat → V) (hs : Nat → Nat → Nat → Nat → V) (hm : Nat → V) (n : Nat) (f : Nat → Int) : subL hp hs hm (rowC n f) = rowC n f := by
  rw [subL_eq]; simp only [rowC, List.map_map]; rfl
theorem ownL_ints (l : List Nat) (f : Nat → Int) : ownL (l.map fun j => V.int .i64 (f j)) = true := by
  induction l with
  | nil => rfl
  | cons a l ih => simp only [List.map_cons, ownL, V.own, ih]; rfl
@[simp] theorem ownL_rowC (n : Nat) (f : Nat → Int) : ownL (rowC n f) = true := ownL_ints _ f
theorem refsL_sls (l : List Nat) (b n : Nat) : refsL (l.map fun i => V.sl (b + i) 0 n 1) = l.map (b + ·) := by
  induction l with
  | nil => rfl
  | cons a l ih => simp only [List.map_cons, refsL, V.refs, ih]; rfl
theorem leavesL_sls (l : List Nat) (b n : Nat) : leavesL (l.map fun i => V.sl (b + i) 0 n 1) = l.map fun i => some (b + i) := by
  induction l with
  | nil => rfl
  | cons a l ih => simp only [List.map_cons, leavesL, V.leaves, ih]; rfl
theorem ownL_sls (l : List Nat) (b n : Nat) : ownL (l.map fun i => V.sl (b + i) 0 n 1) = true := by
  induction l with
  | nil => rfl
  | cons a l ih => simp only [List.map_cons, ownL, V.own, ih]; rfl
@[simp] theorem refsL_outC (b n : Nat) : refsL (outC b n) = (List.range n).map (b + ·) := refsL_sls _ b n
@[simp] theorem leavesL_outC (b n : Nat) : leavesL (outC b n) = (List.range n).map fun i => some (b + i) := leavesL_sls _ b n
@[simp] theorem ownL_outC (b n : Nat) : ownL (outC b n) = true := ownL_sls _ b n
theorem renL_outC {ρ : Nat → Option Nat} {b c n : Nat} (h : ∀ i, i < n → ρ (b + i) = some (c + i)) : renL ρ (outC b n) = outC c n := by
  rw [renL_eq]
  simp only [outC, List.map_map]
  refine List.map_congr_left fun i hi => ?_
  simp [h i (List.mem_range.1 hi)]
abbrev MatI := Nat → Nat → Int
def rowB (n : Nat) (f : Nat → Int) : Option Blk := some (.cells (rowC n f) true)
def gridH (n : Nat) (d : MatI) : Heap := some (.cells (outC 1 n) true) :: (List.range n).map fun i => rowB n (d i)
@[simp] theorem gridH_length (n : Nat) (d : MatI) : (gridH n d).length = n + 1 := by simp [gridH]
structure Grid (H : Heap) (o b n : Nat) (d : MatI) : Prop where
  ob : o < b
  out : H[o]? = some (some (.cells (outC b n) true))
  row : ∀ i, i < n → H[b + i]? = some (rowB n (d i))
theorem Grid.lt {H : Heap} {o b n : Nat} {d : MatI} (g : Grid H o b n d) {i : Nat} (h : i < n) : b + i < H.length := by
  have := (List.getElem?_eq_some_iff.1 (g.row i h)).1; exact this
theorem Grid.lto {H : Heap} {o b n : Nat} {d : MatI} (g : Grid H o b n d) : o < H.length := (List.getElem?_eq_some_iff.1 g.out).1
theorem Grid.app {H : Heap} {o b n : Nat} {d : MatI} (g : Grid H o b n d) (E : Heap) : Grid (H ++ E) o b n d :=
  ⟨g.ob, by rw [List.getElem?_append_left g.lto]; exact g.out, fun i hi => by rw [List.getElem?_append_left (g.lt hi)]; exact g.row i hi⟩
theorem Grid.set_row {H : Heap} {o b n : Nat} {d : MatI} (g : Grid H o b n d) {i : Nat} (hi : i < n) (f : Nat → Int) : Grid (H.set (b + i) (rowB n f)) o b n (fun a => if a = i then f else d a) :=
  ⟨g.ob, by rw [List.getElem?_set_ne (by have := g.ob; omega)]; exact g.out, fun j hj => by
    by_cases h : j = i
    · subst h; rw [List.getElem?_set_self (g.lt hi)]; simp
    · rw [List.getElem?_set_ne (by omega), if_neg h]; exact g.row j hj⟩
theorem Grid.congr {H : Heap} {o b n : Nat} {d d' : MatI} (g : Grid H o b n d) (h : ∀ i j, i < n → j < n → d i j = d' i j) : Grid H o b n d' :=
  ⟨g.ob, g.out, fun i hi => by rw [g.row i hi]; unfold rowB; rw [rowC_congr fun j hj => h i j hi hj]⟩
theorem grid_gridH (n : Nat) (d : MatI) (E : Heap) : Grid (gridH n d ++ E) 0 1 n d := by
  refine Grid.app (H := gridH n d) ⟨by omega, rfl, fun i hi => ?_⟩ E
  rw [Nat.add_comm, gridH, List.getElem?_cons_succ, List.getElem?_map]
  simp [hi]
theorem Grid.other {H H' : Heap} {o b n : Nat} {d : MatI} (g : Grid H o b n d) (h : ∀ j, j = o ∨ (b ≤ j ∧ j < b + n) → H'[j]? = H[j]?) : Grid H' o b n d :=
  ⟨g.ob, by rw [h o (.inl rfl)]; exact g.out, fun i hi => by rw [h (b + i) (.inr ⟨by omega, by omega⟩)]; exact g.row i hi⟩
theorem reach_rows {H : Heap} : ∀ (ids : List Nat) (F : Nat) (seen : List Nat), ids.length ≤ F → ids.Nodup → (∀ i ∈ ids, i ∉ seen) → (∀ i ∈ ids, ∃ b : Blk, H[i]? = some (some b) ∧ b.refs = []) → reach 0 H F ids seen = seen ++ ids
  | [], 0, seen, _, _, _, _ => by simp [reach]
  | [], F + 1, seen, _, _, _, _ => by simp [reach]
  | i :: ids, F + 1, seen, hF, hnd, hs, hb => by
    obtain ⟨b, h1, h2⟩ := hb i (by simp)
    rw [reach]
    have hc : seen.contains i = false := by simpa using hs i (by simp)
    rw [if_neg (Nat.not_lt_zero _), hc]
    simp only [Bool.false_eq_true, if_false, h1, h2, List.append_nil]
    rw [reach_rows ids F (seen ++ [i]) (by simpa using hF) (List.nodup_cons.1 hnd).2 (fun j hj => by
      have h3 : j ≠ i := fun e => (List.nodup_cons.1 hnd).1 (e ▸ hj)
      have h4 := hs j (by simp [hj])
      simp [h3, h4]) (fun j hj => hb j (by simp [hj]))]
    simp
def idsG (o b n : Nat) : List Nat := o :: (List.range n).map (b + ·)
theorem idsG_nodup {o b n : Nat} (h : o < b) : (idsG o b n).Nodup := by
  refine List.nodup_cons.2 ⟨fun hm => ?_, ?_⟩
  · obtain ⟨i, _, hi⟩ := List.mem_map.1 hm; omega
  · exact List.Pairwise.map _ (fun a b (h : a ≠ b) => by omega) (List.nodup_range)
theorem Grid.reach {H : Heap} {o b n : Nat} {d : MatI} (g : Grid H o b n d) (hn : n < 1000) : reach 0 H 1000 [o] [] = idsG o b n := by
  rw [show (1000 : Nat) = 999 + 1 from rfl, Go.Ev.reach, if_neg (Nat.not_lt_zero _)]
  simp only [List.contains_nil, Bool.false_eq_true, if_false, g.out, List.nil_append, Blk.refs, refsL_outC]
  rw [reach_rows _ 999 [o] (by simp; omega) (List.nodup_cons.1 (idsG_nodup g.ob)).2 (fun j hj => by
    have := fun e : j = o => (List.nodup_cons.1 (idsG_nodup (n := n) g.ob)).1 (e ▸ hj)
    simpa using this) (fun j hj => by
    obtain ⟨i, hi, rfl⟩ := List.mem_map.1 hj
    exact ⟨_, g.row i (List.mem_range.1 hi), by simp [Blk.refs]⟩)]
  rfl
theorem place_rows {m : Nat} {H : Heap} : ∀ (ids : List Nat) (F : Nat) (seen : List Nat), ids.length ≤ F → ids.Nodup → (∀ i ∈ ids, i ∉ seen) → (∀ i ∈ ids, m ≤ i) → (∀ i ∈ ids, ∃ b : Blk, H[i]? = some (some b) ∧ b.leavesM m = []) → place m H F (ids.map some) seen = seen ++ ids
  | [], 0, seen, _, _, _, _, _ => by simp [place]
  | [], F + 1, seen, _, _, _, _, _ => by simp [place]
  | i :: ids, F + 1, seen, hF, hnd, hs, hm, hb => by
    obtain ⟨b, h1, h2⟩ := hb i (by simp)
    rw [List.map_cons, place]
    have hc : seen.contains i = false := by simpa using hs i (by simp)
    rw [if_neg (by have := hm i (by simp); omega), hc]
    simp only [Bool.false_eq_true, if_false, h1, h2, List.append_nil]
    rw [place_rows ids F (seen ++ [i]) (by simpa using hF) (List.nodup_cons.1 hnd).2 (fun j hj => by
      have h3 : j ≠ i := fun e => (List.nodup_cons.1 hnd).1 (e ▸ hj)
      have h4 := hs j (by simp [hj])
      simp [h3, h4]) (fun j hj => hm j (by simp [hj])) (fun j hj => hb j (by simp [hj]))]
    simp
theorem Grid.place {H : Heap} {o b n : Nat} {d : MatI} (g : Grid H o b n d) (hn : n < 1000) {m : Nat} (hm : m ≤ o) : place m H 1000 [some o] [] = idsG o b n := by
  rw [show (1000 : Nat) = 999 + 1 from rfl, Go.Ev.place, if_neg (by omega)]
  simp only [List.contains_nil, Bool.false_eq_true, if_false, g.out, List.nil_append, Blk.leavesM, leavesL_outC]
  have e : (List.range n).map (fun i => some (b + i)) = ((List.range n).map (b + ·)).map some := by simp
  rw [e, place_rows _ 999 [o] (by simp; omega) (List.nodup_cons.1 (idsG_nodup g.ob)).2 (fun j hj => by
    have := fun e : j = o => (List.nodup_cons.1 (idsG_nodup (n := n) g.ob)).1 (e ▸ hj)
    simpa using this) (fun j hj => by obtain ⟨i, _, rfl⟩ := List.mem_map.1 hj; have := g.ob; omega) (fun j hj => by
    obtain ⟨i, hi, rfl⟩ := List.mem_map.1 hj
    exact ⟨_, g.row i (List.mem_range.1 hi), by simp [Blk.leavesM]⟩)]
  rfl
theorem indexIn_range (b : Nat) : ∀ (n s i : Nat), i < n → indexIn (b + (s + i)) ((List.range' s n).map (b + ·)) = some i
  | n + 1, s, 0, _ => by simp [List.range'_succ, indexIn]
  | n + 1, s, i + 1, h => by
    rw [List.range'_succ, List.map_cons, indexIn, if_neg (by omega)]
    have := indexIn_range b n (s + 1) i (by omega)
    rw [show b + (s + (i + 1)) = b + (s + 1 + i) by omega, this]; rfl
theorem indexIn_o (o b n : Nat) : indexIn o (idsG o b n) = some 0 := by simp [idsG, indexIn]
theorem indexIn_row {o b n : Nat} (h : o < b) {i : Nat} (hi : i < n) : indexIn (b + i) (idsG o b n) = some (1 + i) := by
  rw [idsG, indexIn, if_neg (by omega)]
  have := indexIn_range b n 0 i hi
  rw [Nat.zero_add, ← List.range_eq_range'] at this
  rw [this]; simp [Nat.add_comm]
theorem getD_some {α : Type} {l : List α} {i : Nat} {x d : α} (h : l[i]? = some x) : l.getD i d = x := by rw [List.getD_eq_getElem?_getD, h]; rfl
theorem Grid.taken {H : Heap} {o b n : Nat} {d : MatI} (g : Grid H o b n d) {ρ : Nat → Option Nat} (h : ∀ i, i < n → ρ (b + i) = some (1 + i)) : (idsG o b n).map (fun id => (H.getD id none).map (Blk.ren ρ)) = gridH n d := by
  simp only [idsG, List.map_cons, List.map_map, gridH]
  congr 1
  · rw [getD_some g.out]; simp only [Option.map_some, Blk.ren]; rw [renL_outC h]
  · refine List.map_congr_left fun i hi => ?_
    simp only [Function.comp]
    rw [getD_some (g.row i (List.mem_range.1 hi))]
    simp [rowB, Blk.ren]
theorem Grid.keep {H : Heap} {o b n : Nat} {d : MatI} (g : Grid H o b n d) : keepHeap 0 (idsG o b n) H = gridH n d := by
  unfold keepHeap
  rw [List.take_zero, List.map_nil, List.nil_append]
  refine g.taken fun i hi => ?_
  unfold Go.Ev.keepOf
  rw [if_neg (Nat.not_lt_zero _), indexIn_row g.ob hi]
  simp
theorem place_below {m : Nat} {H : Heap} : ∀ (ids : List Nat) (F : Nat) (seen : List Nat), ids.length ≤ F → (∀ i ∈ ids, i < m) → place m H F (ids.map some) seen = seen ++ List.replicate ids.length H.length
  | [], 0, seen, _, _ => by simp [place]
  | [], F + 1, seen, _, _ => by simp [place]
  | i :: ids, F + 1, seen, hF, hm => by
    rw [List.map_cons, place, if_pos (hm i (by simp)), place_below ids F _ (by simpa using hF) fun j hj => hm j (by simp [hj])]
    simp [List.replicate_succ]
theorem renL_keep_below {m : Nat} {L : List Nat} {b n : Nat} (h : b + n ≤ m) : renL (keepOf m L) (outC b n) = outC b n := renL_outC fun i hi => by unfold Go.Ev.keepOf; rw [if_pos (by omega)]
theorem finish_grid {n : Nat} {d : MatI} (hn : n < 1000) (E : Heap) {r : V} (hr : r.leaves = []) (hr2 : ∀ ρ, r.ren ρ = r) : finish (n + 1) (gridH n d ++ E) r = (r, gridH n d ++ List.replicate n none) := by
  unfold finish
  have hroot : rootLeaves (n + 1) (gridH n d ++ E) = ((List.range n).map (1 + ·)).map some := by
    unfold rootLeaves
    rw [List.take_append_of_le_length (by simp), List.take_of_length_le (by simp)]
    simp only [gridH, List.flatMap_cons, blkLeavesM, Blk.leavesM, leavesL_outC]
    have : ((List.range n).map fun i => rowB n (d i)).flatMap (blkLeavesM (n + 1)) = [] := by
      rw [List.flatMap_eq_nil_iff]
      intro x hx
      obtain ⟨i, _, rfl⟩ := List.mem_map.1 hx
      simp [rowB, blkLeavesM, Blk.leavesM]
    rw [this]
    simp
  rw [hroot, hr, List.append_nil]
  have hp : place (n + 1) (gridH n d ++ E) fuelR (((List.range n).map (1 + ·)).map some) [] = List.replicate n (gridH n d ++ E).length := by
    rw [place_below _ _ _ (by simp [fuelR]; omega) (fun j hj => by obtain ⟨i, hi, rfl⟩ := List.mem_map.1 hj; have := List.mem_range.1 hi; omega)]
    simp
  simp only [hp, hr2]
  congr 1
  unfold keepHeap
  rw [List.take_append_of_le_length (by simp), List.take_of_length_le (by simp)]
  congr 1
  · simp only [gridH, List.map_cons, List.map_map]
    congr 1
    · simp only [Option.map_some, Blk.ren]; rw [renL_keep_below (by omega)]
    · refine List.map_congr_left fun i _ => ?_
      simp [rowB, Blk.ren]
  · rw [List.map_replicate]
    congr 1
    rw [List.getD_eq_getElem?_getD, List.getElem?_eq_none (Nat.le_refl _)]; rfl
theorem setMany_get : ∀ (L : List Nat) (G : Heap) (H : Heap) (j : Nat), L.length = G.length → L.Nodup → (∀ i ∈ L, i < H.length) →
    (setMany H L G).length = H.length ∧ (j ∉ L → (setMany H L G)[j]? = H[j]?) ∧ (∀ q : Nat, L[q]? = some j → (setMany H L G)[j]? = G[q]?)
  | [], [], H, j, _, _, _ => ⟨rfl, fun _ => rfl, fun q h => by simp at h⟩
  | i :: L, b :: G, H, j, hl, hnd, hlt => by
    rw [setMany]
    obtain ⟨h1, h2, h3⟩ := setMany_get L G (H.set i b) j (by simpa using hl) (List.nodup_cons.1 hnd).2 (fun x hx => by simpa using hlt x (by simp [hx]))
    refine ⟨by simpa using h1, fun hj => ?_, fun q hq => ?_⟩
    · rw [h2 (fun h => hj (by simp [h])), List.getElem?_set_ne (fun e => hj (by simp [e]))]
    · cases q with
      | zero =>
        simp at hq; subst hq
        rw [h2 (List.nodup_cons.1 hnd).1, List.getElem?_set_self (hlt i (by simp))]; rfl
      | succ q => rw [h3 q (by simpa using hq)]; rfl
theorem backOf_ids {m o b n : Nat} {i : Nat} (h : i < n) : backOf m (idsG o b n) (1 + i) = some (b + i) := by
  unfold backOf
  rw [if_pos (by simp [idsG]; omega), Nat.add_comm 1 i, idsG, List.getElem?_cons_succ]
  simp [h]
theorem callWide_grid {call : CallF} {H : Heap} {f o b n q : Nat} {d d' : MatI} {xs : List V} {r : V} (g : Grid H o b n d) (hn : n < 1000) (hx : refsL xs = []) (hx2 : ∀ ρ, xs.map (V.ren ρ) = xs) (hr2 : ∀ ρ, r.ren ρ = r)
    (hc : call f (.sl 0 0 n 1 :: xs) (gridH n d) = some (r, gridH n d' ++ List.replicate q none)) :
    ∃ H', callWide call H f (.sl o 0 n 1 :: xs) = some (r, H') ∧ Grid H' o b n d' ∧ H'.length = H.length + q ∧ (∀ j, j < H.length → j ≠ o → ¬ (b ≤ j ∧ j < b + n) → H'[j]? = H[j]?) := by
  have hreach : Go.Ev.reach 0 H fuelR (refsL (V.sl o 0 n 1 :: xs)) [] = idsG o b n := by
    rw [refsL, hx]; exact g.reach hn
  have hlen : (idsG o b n).length = n + 1 := by simp [idsG]
  have hG1 : (gridH n d' ++ List.replicate q (none : Option Blk)).take (idsG o b n).length = gridH n d' := by
    rw [hlen, List.take_append_of_le_length (by simp), List.take_of_length_le (by simp)]
  have hG2 : (gridH n d' ++ List.replicate q (none : Option Blk)).drop (idsG o b n).length = List.replicate q none := by
    rw [hlen, List.drop_append_of_le_length (by simp), List.drop_of_length_le (by simp)]; rfl
  have hback : (gridH n d').map (Option.map (Blk.ren (backOf H.length (idsG o b n)))) = some (.cells (outC b n) true) :: (List.range n).map fun i => rowB n (d' i) := by
    simp only [gridH, List.map_cons, List.map_map]
    congr 1
    · simp only [Option.map_some, Blk.ren]; rw [renL_outC fun i hi => backOf_ids hi]
    · refine List.map_congr_left fun i _ => ?_
      simp [rowB, Blk.ren]
  have hlt : ∀ i ∈ idsG o b n, i < H.length := fun i hi => by
    rcases List.mem_cons.1 hi with rfl | hi
    · exact g.lto
    · obtain ⟨j, hj, rfl⟩ := List.mem_map.1 hi
      exact g.lt (List.mem_range.1 hj)
  have hset := fun j => setMany_get (idsG o b n) (some (.cells (outC b n) true) :: (List.range n).map fun i => rowB n (d' i)) H j (by simp [idsG]) (idsG_nodup g.ob) hlt
  refine ⟨setMany H (idsG o b n) (some (.cells (outC b n) true) :: (List.range n).map fun i => rowB n (d' i)) ++ List.replicate q none, ?_, ?_, ?_, ?_⟩
  · unfold callWide
    simp only [hreach]
    have ha : (V.sl o 0 n 1 :: xs).map (V.ren fun id => indexIn id (idsG o b n)) = .sl 0 0 n 1 :: xs := by
      rw [List.map_cons, hx2]; simp [indexIn_o]
    rw [ha, g.taken fun i hi => indexIn_row g.ob hi, hc]
    simp only
    rw [if_pos (by rw [hlen]; simp), hG1, hG2, hback, hr2]
    simp
  · refine Grid.app ⟨g.ob, ?_, fun i hi => ?_⟩ _
    · rw [(hset o).2.2 0 rfl]; rfl
    · rw [(hset (b + i)).2.2 (1 + i) (by rw [Nat.add_comm, idsG, List.getElem?_cons_succ]; simp [hi]), Nat.add_comm 1 i, List.getElem?_cons_succ]
      simp [hi]
  · simp [(hset 0).1]
  · intro j hj h1 h2
    rw [List.getElem?_append_left (by rw [(hset j).1]; exact hj), (hset j).2.1]
    intro hm
    rcases List.mem_cons.1 hm with rfl | hm
    · exact h1 rfl
    · obtain ⟨i, hi, rfl⟩ := List.mem_map.1 hm
      exact h2 ⟨by omega, by have := List.mem_range.1 hi; omega⟩
def roG (n : Nat) (d : MatI) : List V := (List.range n).map fun i => .ros n (rowC n (d i))
@[simp] theorem roG_length (n : Nat) (d : MatI) : (roG n d).length = n := by simp [roG]
theorem roG_drop {n : Nat} (d : MatI) {i : Nat} (h : i < n) : (roG n d).drop i = .ros n (rowC n (d i)) :: (roG n d).drop (i + 1) := by
  rw [List.drop_eq_getElem_cons (by simpa using h)]; simp [roG]
theorem snap_ints (k : Nat) (H : Heap) (n : Nat) (f : Nat → Int) : (rowC n f).map (snap k H) = rowC n f := by
  unfold rowC
  rw [List.map_map]
  refine List.map_congr_left fun j _ => ?_
  cases k <;> rfl
theorem Grid.snap {H : Heap} {o b n : Nat} {d : MatI} (g : Grid H o b n d) : snap 4 H (.sl o 0 n 1) = .ros n (roG n d) := by
  simp only [Go.Ev.snap, V.sub, g.out, List.drop_zero, Nat.mul_one]
  rw [List.take_of_length_le (by simp)]
  congr 1
  simp only [outC, roG, List.map_map]
  refine List.map_congr_left fun i hi => ?_
  have hr := g.row i (List.mem_range.1 hi)
  simp only [Function.comp, Go.Ev.snap, V.sub, hr, rowB, List.drop_zero, Nat.mul_one]
  rw [List.take_of_length_le (by simp)]
  congr 1
  exact snap_ints 2 H n (d i)
end Go.Ev
