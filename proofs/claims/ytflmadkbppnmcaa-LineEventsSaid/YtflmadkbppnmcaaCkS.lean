import Derived.Test.YtflmadkbppnmcaaCkC2
import Derived.Test.YtflmadkbppnmcaaCkN
import Derived.Test.YtflmadkbppnmcaaEvJ
set_option linter.unusedSimpArgs false
set_option linter.unusedVariables false
set_option maxRecDepth 100000
set_option maxHeartbeats 4000000
namespace Go.Ev.Try
open Go Go.Ev Go.Proofs
theorem set_row_upd {n : Nat} (d : Mat) {i j : Nat} (v : Int) (a b : Nat) : (fun a => if a = i then (fun b => if b = j then v else d i b) else d a) a b = upd2 d i j v a b := by
  simp only [upd2]
  by_cases h1 : a = i
  · subst h1
    by_cases h2 : b = j <;> simp [h2]
  · simp [h1]
theorem grid_write {H : Heap} {o b n : Nat} {d : Mat} (g : Grid H o b n d) {i j : Nat} (hi : i < n) (hj : j < n) (v : Int) :
    Grid (H.set (b + i) (some (.cells ((rowC n (d i)).take j ++ V.int .i64 v :: (rowC n (d i)).drop (j + 1)) true))) o b n (upd2 d i j v) := by
  rw [rowC_set _ hj]
  exact (g.set_row hi _).congr fun a b ha hb => set_row_upd (n := n) d v a b
theorem gridH_set {n : Nat} (d : Mat) {i j : Nat} (hi : i < n) (hj : j < n) (v : Int) :
    (gridH n d).set (1 + i) (some (.cells ((rowC n (d i)).take j ++ V.int .i64 v :: (rowC n (d i)).drop (j + 1)) true)) = gridH n (upd2 d i j v) := by
  rw [rowC_set _ hj, Nat.add_comm, gridH, List.set_cons_succ, gridH]
  congr 1
  refine List.ext_getElem? fun q => ?_
  rw [List.getElem?_set]
  simp only [List.length_map, List.length_range, List.getElem?_map]
  by_cases hq : i = q
  · subst hq
    simp only [if_true, hi, List.getElem?_range hi, Option.map_some]
    congr 1
    simp only [rowB]
    rw [rowC_congr (f := fun a => if a = j then v else d i a) (g := upd2 d i j v i) (fun b hb => by simp [upd2])]
  · simp only [hq, if_false]
    cases hr : (List.range n)[q]? with
    | none => rfl
    | some w =>
      have : w = q := by
        obtain ⟨h1, h2⟩ := List.getElem?_eq_some_iff.1 hr
        simpa using h2.symm
      subst this
      simp only [Option.map_some]
      rw [show d w = upd2 d i j v w from funext fun b => by simp [upd2, show ¬ w = i by omega]]
theorem min_if (a b : Int) : (if b < a then b else a) = min a b := by
  split
  · rw [Int.min_eq_right (by omega)]
  · rw [Int.min_eq_left (by omega)]
theorem limit_ok {n : Nat} (hn : n < 1000) (d : Mat) {i j : Nat} (hi : i < n) (hj : j < n) (v : Int) {k : Nat} :
    evF Try.prog Γ (k + 1) 89 [.sl 0 0 n 1, .int .i64 i, .int .i64 j, .int .i64 v] (gridH n d) = some (V.undef, gridH n (upd2 d i j (min (d i j) v)) ++ List.replicate n none) := by
  have g := grid_gridH n d []
  rw [List.append_nil] at g
  have hO := g.out
  have hR := g.row i hi
  have hS := gridH_set d hi hj (min (d i j) v)
  have hf := finish_grid (d := upd2 d i j (min (d i j) v)) hn [] (r := V.tup []) rfl (fun _ => rfl)
  rw [List.append_nil] at hf
  have hl := gridH_length n d
  have o1 := outC_drop (b := 1) hi
  have o2 := rowC_drop (d i) hj
  have hi2 : (i : Int) < n := by omega
  have hj2 : (j : Int) < n := by omega
  unfold rowB at hR
  have hj3 : j + 1 ≤ n := hj
  have hi3 : 1 + i < n + 1 := by omega
  have hm := min_if (d i j) v
  rw [b89 (fun _ _ => rfl) _ _ (by simp)]
  generalize gridH n d = H at *
  simp -implicitDefEqProofs [hO, hR, hi, hj, hi2, hj2, hi3, hj3, hm, o1, o2, hl, -finish, -maskHeap, -mergeHeap, -getElem?_pos, List.getElem?_cons_zero]
  rw [hS, hf]
theorem Grid_canon {H : Heap} {n : Nat} {d : Mat} (g : Grid H 0 1 n d) : H = gridH n d ++ H.drop (n + 1) := by
  have hl : n + 1 ≤ H.length := by
    rcases Nat.eq_zero_or_pos n with rfl | hp
    · exact g.lto
    · have := g.lt (i := n - 1) (by omega); omega
  refine List.ext_getElem? fun q => ?_
  rcases Nat.lt_or_ge q (n + 1) with hq | hq
  · rw [List.getElem?_append_left (by simpa using hq)]
    cases q with
    | zero => exact g.out
    | succ q =>
      rw [Nat.add_comm q 1, g.row q (by omega)]
      rw [Nat.add_comm 1 q, gridH, List.getElem?_cons_succ, List.getElem?_map, List.getElem?_range (by omega)]
      rfl
  · rw [List.getElem?_append_right (by simpa using hq), gridH_length, List.getElem?_drop]
    congr 1; omega
theorem finish_at {H : Heap} {n : Nat} {d : Mat} (g : Grid H 0 1 n d) (hn : n < 1000) {r : V} (hr : r.leaves = []) (hr2 : ∀ ρ, r.ren ρ = r) : finish (n + 1) H r = (r, gridH n d ++ List.replicate n none) := by
  rw [Grid_canon g]; exact finish_grid hn _ hr hr2
theorem between_ok {n : Nat} (hn : n < 1000) (d : Mat) {i j : Nat} (hi : i < n) (hj : j < n) (lo up : Int) (hlo : -9223372036854775807 ≤ lo ∧ lo ≤ 9223372036854775807) {k : Nat} (hk : 0 < k) :
    evF Try.prog Γ (k + 1) 76 [.sl 0 0 n 1, .int .i64 i, .int .i64 j, .int .i64 lo, .int .i64 up] (gridH n d) = some (V.undef, gridH n (matOf d (pair i j lo up)) ++ List.replicate n none) := by
  obtain ⟨k, rfl⟩ : ∃ q, k = q + 1 := ⟨k - 1, by omega⟩
  have g := grid_gridH n d []
  rw [List.append_nil] at g
  have hl := gridH_length n d
  obtain ⟨H1, c1, g1, _, _⟩ := callWide_grid (call := evF Try.prog Γ (k + 1)) (xs := [.int .i64 i, .int .i64 j, .int .i64 up]) g hn rfl (fun _ => rfl) (fun _ => rfl) (limit_ok hn d hi hj up (k := k))
  obtain ⟨H2, c2, g2, _, _⟩ := callWide_grid (call := evF Try.prog Γ (k + 1)) (xs := [.int .i64 j, .int .i64 i, .int .i64 (-lo)]) g1 hn rfl (fun _ => rfl) (fun _ => rfl) (limit_ok hn _ hj hi (-lo) (k := k))
  have hf := finish_at g2 hn (r := V.tup []) rfl (fun _ => rfl)
  have hw : IntKind.i64.wrap (-lo) = -lo := wrap_i64 (by omega) (by omega)
  rw [b76 (fun _ _ => rfl) _ _ (by simp)]
  generalize gridH n d = H at *
  simp -implicitDefEqProofs [c1, c2, hl, hw, -finish, -callWide]
  rw [hf]
  rfl
def part (k : Nat) (d : Mat) (i j : Nat) : Mat := fun a b => if a < i ∨ (a = i ∧ b < j) then phase k d a b else d a b
theorem part_col {k : Nat} {d : Mat} (hk : 0 ≤ d k k) (i j a : Nat) : part k d i j a k = d a k := by
  simp only [part, phase]; split <;> omega
theorem part_row {k : Nat} {d : Mat} (hk : 0 ≤ d k k) (i j b : Nat) : part k d i j k b = d k b := by
  simp only [part, phase]; split <;> omega
theorem part_step {k : Nat} {d : Mat} (hk : 0 ≤ d k k) (i j : Nat) : upd2 (part k d i j) i j (min (part k d i j i j) (part k d i j i k + part k d i j k j)) = part k d i (j + 1) := by
  funext a b
  rw [part_col hk, part_row hk]
  have e : part k d i j i j = d i j := by simp only [part]; rw [if_neg (by omega)]
  rw [e]
  simp only [upd2, part]
  by_cases h : a = i ∧ b = j
  · obtain ⟨rfl, rfl⟩ := h
    simp [phase]
  · rw [if_neg h]
    by_cases h2 : a < i ∨ a = i ∧ b < j
    · rw [if_pos h2, if_pos (by omega)]
    · rw [if_neg h2, if_neg (by omega)]
theorem part_zero (k : Nat) (d : Mat) : part k d 0 0 = d := by funext a b; simp [part]
theorem Grid_next {H : Heap} {n k i : Nat} {d : Mat} (g : Grid H 0 1 n (part k d i n)) : Grid H 0 1 n (part k d (i + 1) 0) := g.congr fun a b ha hb => by
  simp only [part]
  by_cases h : a < i ∨ a = i ∧ b < n
  · rw [if_pos h, if_pos (by omega)]
  · rw [if_neg h, if_neg (by omega)]
theorem Grid_done {H : Heap} {n k : Nat} {d : Mat} (g : Grid H 0 1 n (part k d n 0)) : Grid H 0 1 n (phase k d) := g.congr fun a b ha hb => by
  simp only [part]; rw [if_pos (.inl ha)]
theorem fw_step {n : Nat} {D d : Mat} {k : Nat} (h : fw n D k = some d) (hall : ∀ i, i < n → 0 ≤ phase k d i i) : fw n D (k + 1) = some (phase k d) := by
  rw [fw, h]
  simp only
  rw [if_pos (List.all_eq_true.2 fun i hi => decide_eq_true (hall i (List.mem_range.1 hi)))]
theorem fw_fall {n : Nat} {D d : Mat} {k : Nat} (h : fw n D k = some d) {i : Nat} (hi : i < n) (hn : phase k d i i < 0) : fw n D (k + 1) = none := by
  rw [fw, h]
  simp only
  rw [if_neg fun hc => by
    have := of_decide_eq_true (List.all_eq_true.1 hc i (List.mem_range.2 hi))
    omega]
def ClosedNet (n : Nat) (D : Mat) (r : Option (V × Heap)) : Prop := ∃ d', r = some (.bool (fw n D n).isSome, gridH n d' ++ List.replicate n none) ∧ ∀ d, fw n D n = some d → d' = d
theorem close_ok {n : Nat} (hn : n < 1000) {D : Mat} (ht : Tame n D) {k : Nat} (hk : n < k) : ClosedNet n D (evF Try.prog Γ (k + 1) 54 [.sl 0 0 n 1] (gridH n D)) := by
  have g := grid_gridH n D []
  rw [List.append_nil] at g
  have hl := gridH_length n D
  rw [b54 (fun _ _ => rfl) _ _ (by simp)]
  generalize gridH n D = H at *
  simp -implicitDefEqProofs [hl]
  generalize hx : evLoopC _ _ _ _ _ _ _ _ _ _ = R
  apply loop_gen hx (fun (a : Nat × Mat × Heap) => (mkL 61 .junk [(0, .sl 0 0 n 1), (7, .int .i64 n), (8, .int .i64 a.1)], a.2.2))
    (fun a => a.1 ≤ n ∧ fw n D a.1 = some a.2.1 ∧ Grid a.2.2 0 1 n a.2.1) (fun a => n - a.1) (0, D, H)
  case hI => exact ⟨Nat.zero_le _, rfl, g⟩
  case hq => omega
  case ht => simp -implicitDefEqProofs [liveOf]
  case round =>
    rintro ⟨c, d, G⟩ ⟨hc, hd, gr⟩ _
    clear hx g hl
    simp only at hc hd gr
    have tm := fw_tame ht hc hd
    by_cases hlt : c < n
    · have hlt2 : (c : Int) < n := by omega
      have hkk := (fw_inv ht.diag c hc d hd).diag c hlt
      simp -implicitDefEqProofs [hlt, hlt2]
      generalize hy : evLoopC _ _ _ _ _ _ _ _ _ _ = R2
      apply loop_gen hy (fun (a : Nat × Heap) => (mkL 61 .junk [(0, .sl 0 0 n 1), (3, .int .i64 c), (7, .int .i64 n), (8, .int .i64 c), (12, .int .i64 n), (13, .int .i64 a.1)], a.2))
        (fun a => a.1 ≤ n ∧ (∀ i, i < a.1 → 0 ≤ phase c d i i) ∧ Grid a.2 0 1 n (part c d a.1 0)) (fun a => n - a.1) (0, G)
      case hI => exact ⟨Nat.zero_le _, fun i hi => by omega, by rw [part_zero]; exact gr⟩
      case hq => omega
      case ht => simp -implicitDefEqProofs [liveOf]
      case round =>
        rintro ⟨i, G⟩ ⟨hi, hall, gr⟩ _
        clear hy
        simp only at hi hall gr
        by_cases hil : i < n
        · have hil2 : (i : Int) < n := by omega
          simp -implicitDefEqProofs [hil, hil2]
          generalize hz : evLoopC _ _ _ _ _ _ _ _ _ _ = R3
          apply loop_gen hz (fun (a : Nat × Heap) => (mkL 61 .junk [(0, .sl 0 0 n 1), (3, .int .i64 c), (4, .int .i64 i), (7, .int .i64 n), (8, .int .i64 c), (12, .int .i64 n), (13, .int .i64 i), (17, .int .i64 n), (18, .int .i64 a.1)], a.2))
            (fun a => a.1 ≤ n ∧ Grid a.2 0 1 n (part c d i a.1)) (fun a => n - a.1) (0, G)
          case hI => exact ⟨Nat.zero_le _, gr⟩
          case hq => omega
          case ht => simp -implicitDefEqProofs [liveOf]
          case round =>
            rintro ⟨j, G⟩ ⟨hj, gr⟩ _
            clear hz
            simp only at hj gr
            by_cases hjl : j < n
            · have hjl2 : (j : Int) < n := by omega
              have hO := gr.out
              have hR := gr.row i hil
              have hK := gr.row c hlt
              simp only [rowB] at hR hK
              have o1 := outC_drop (b := 1) hil
              have o2 := outC_drop (b := 1) hlt
              have o3 := rowC_drop (part c d i j i) hjl
              have o4 := rowC_drop (part c d i j i) hlt
              have o5 := rowC_drop (part c d i j c) hjl
              have hGl : ∃ q, G.length = n + 1 + q := ⟨G.length - (n + 1), by
                have := gr.lt (i := n - 1) (by omega); omega⟩
              obtain ⟨q, hGl⟩ := hGl
              have e1 : addI .i64 (part c d i j i c) (part c d i j c j) = part c d i j i c + part c d i j c j := by
                rw [part_col hkk, part_row hkk]
                have := tm i c hil hlt
                have := tm c j hlt hjl
                exact addI_i64 (by omega) (by omega)
              have e2 : addI .i64 (j : Int) 1 = (j : Int) + 1 := addI_i64 (by omega) (by omega)
              have hm := min_if (part c d i j i j) (part c d i j i c + part c d i j c j)
              have hj3 : j + 1 ≤ n := hjl
              have hi3 : 1 + i < n + 1 + q := by omega
              have gw := grid_write gr hil hjl (min (part c d i j i j) (part c d i j i c + part c d i j c j))
              rw [part_step hkk] at gw
              simp -implicitDefEqProofs [hlt, hlt2, hil, hil2, hjl, hjl2, hO, hR, hK, o1, o2, o3, o4, o5, e1, e2, hm, hj3, hi3, hGl, -maskHeap, -mergeHeap, -getElem?_pos, List.getElem?_cons_zero]
              exact rnd_next (j + 1, _) ⟨hjl, gw⟩ (by simp only; omega) (by simp -implicitDefEqProofs [liveOf])
            · obtain rfl : j = n := by omega
              have hjl2 : ¬ (j : Int) < (j : Int) := by omega
              have hO := gr.out
              have hR := gr.row i hil
              simp only [rowB] at hR
              have o1 := outC_drop (b := 1) hil
              have o3 := rowC_drop (part c d i j i) hil
              have e2 : addI .i64 (i : Int) 1 = (i : Int) + 1 := addI_i64 (by omega) (by omega)
              have hpi : part c d i j i i = phase c d i i := by simp [part, hil]
              rw [hpi] at o3
              by_cases hneg : phase c d i i < 0
              · have hf := finish_at gr hn (r := V.bool false) rfl (fun _ => rfl)
                have hno := fw_none (fw_fall hd hil hneg) j hlt
                simp -implicitDefEqProofs [hil, hil2, hjl2, hO, hR, o1, o3, hneg, -finish, -getElem?_pos, List.getElem?_cons_zero]
                rw [hf]
                exact ⟨_, by rw [hno]; rfl, fun d h => by rw [hno] at h; cases h⟩
              · have gn := Grid_next gr
                simp -implicitDefEqProofs [hil, hil2, hjl2, hO, hR, o1, o3, hneg, e2, -getElem?_pos, List.getElem?_cons_zero]
                exact rnd_next (i + 1, G) ⟨hil, fun a ha => by
                  rcases Nat.lt_or_ge a i with h | h
                  · exact hall a h
                  · obtain rfl : a = i := by omega
                    omega, gn⟩ (by simp only; omega) (by simp -implicitDefEqProofs [liveOf])
        · obtain rfl : i = n := by omega
          have hil2 : ¬ (i : Int) < (i : Int) := by omega
          have e2 : addI .i64 (c : Int) 1 = (c : Int) + 1 := addI_i64 (by omega) (by omega)
          simp -implicitDefEqProofs [hil2, e2]
          exact rnd_next (c + 1, phase c d, G) ⟨hlt, fw_step hd hall, Grid_done gr⟩ (by simp only; omega) (by simp -implicitDefEqProofs [liveOf])
    · obtain rfl : c = n := by omega
      have hlt2 : ¬ (c : Int) < (c : Int) := by omega
      have hf := finish_at gr hn (r := V.bool true) rfl (fun _ => rfl)
      simp -implicitDefEqProofs [hlt2, -finish]
      rw [hf]
      exact ⟨_, by rw [hd]; rfl, fun x h => by rw [hd] at h; cases h; rfl⟩
end Go.Ev.Try
