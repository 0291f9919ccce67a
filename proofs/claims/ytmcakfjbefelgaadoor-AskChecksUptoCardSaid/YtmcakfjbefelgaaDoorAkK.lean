/-
  THE ASK SEAT: Check of a question (own work).
-/
import Derived.Test.YtmcakfjbefelgaaDoorAkJ
import Derived.Test.YtmcakfjbefelgaaDoorAkC1
set_option linter.unusedSimpArgs false
set_option linter.unusedVariables false
set_option maxRecDepth 100000
set_option maxHeartbeats 4000000
namespace Go.Ev.Tryd
open Go Go.Ev Go.Proofs

/-- The error of a link among n variables. -/
def linkF (n : Nat) (l : Link) : Int := if l.op < 0 ∨ 4 ≤ l.op then 1 else if l.a < 0 ∨ l.b < 0 ∨ (n : Int) ≤ l.a ∨ (n : Int) ≤ l.b then 8 else if l.a = l.b then 16 else 0
def linkFs (n : Nat) : List Link → Int
  | [] => 0
  | x :: l => if linkF n x = 0 then linkFs n l else linkF n x
/-- The error of a question. -/
def checkQ (vs : List Cond) (ls : List Link) (most : Int) : Int :=
  if 60 < sizeCs vs ∨ 3 < vs.length ∨ 6 < ls.length then 2 else if vs.length = 0 then 3 else if condFs vs ≠ 0 then condFs vs else if linkFs vs.length ls ≠ 0 then linkFs vs.length ls else if most < 1 ∨ 2000 < most then 4 else 0
theorem at_link (l : List Link) (i : Nat) (h : i < l.length) : List.take 3 (List.drop (i * 3) (flatE linkE l)) = [.int .i64 l[i].op, .int .i64 l[i].a, .int .i64 l[i].b] := at_flatE linkE rfl l i h
theorem wts_at {l : List Cond} {i : Nat} (h : i < l.length) : wt l[i] < wts l := wts_mem (List.getElem_mem h)

theorem check_ok (vs : List Cond) (ls : List Link) (zv zl : Bool) (most : Int) (hw : wts vs ≤ 1000000000000) (hls : ls.length ≤ 1000000000000) {k : Nat} (hk : wts vs + ls.length + 400 < k) :
    evF Tryd.prog Γ (k + 1) 10 [.agg [roV zv vs.length (flatE condE vs), roV zl ls.length (flatE linkE ls), .int .i64 most]] [] = some (.int .i64 (checkQ vs ls most), []) := by
  obtain ⟨k, rfl⟩ : ∃ j, k = j + 1 := ⟨k - 1, by omega⟩
  have hvl := wts_len vs
  have hsw := sizeCs_wts vs
  rw [b10 (fun _ _ => rfl) _ _ (by simp)]
  simp -implicitDefEqProofs
  generalize hx : evLoopC _ _ _ _ _ _ _ _ _ _ = R
  apply loop_gen hx (fun i : Nat => (mkL 100 .junk [(1, .ptr 0 0), (3, .int .i64 (sizeCs (vs.take i))), (12, roV zv vs.length (flatE condE vs)), (13, .int .i64 vs.length), (14, .int .i64 i)], [some (.cells [roV zv vs.length (flatE condE vs), roV zl ls.length (flatE linkE ls), .int .i64 most] true), none, none, none]))
    (fun i => i ≤ vs.length) (fun i => vs.length - i) 0
  case hI => exact Nat.zero_le _
  case hq => omega
  case ht => simp -implicitDefEqProofs [liveOf, sizeCs]
  case round =>
    rintro i hi _
    have hi : i ≤ vs.length := hi
    clear hx
    by_cases hlt : i < vs.length
    · have hlt2 : (i : Int) < vs.length := by omega
      have e2 : addI .i64 (i : Int) 1 = (i : Int) + 1 := addI_i64 (by omega) (by omega)
      have hat := at_cond' vs i hlt
      have hs : sizeCs (vs.take (i + 1)) = sizeCs (vs.take i) + sizeC vs[i] := by rw [List.take_succ_eq_append_getElem hlt, sizeCs_snoc]
      have hle := sizeCs_take_le vs (i + 1)
      have h5 : 5 ≤ vs.length * 5 - i * 5 := by omega
      have hwi := wts_at hlt
      have c1 := size_ok (wt vs[i]) vs[i] (Nat.le_refl _) (by omega) (k := k) (by omega)
      have e3 : addI .i64 (sizeCs (vs.take i) : Int) (sizeC vs[i] : Int) = (sizeCs (vs.take (i + 1)) : Int) := by rw [addI_i64 (by omega) (by omega)]; omega
      generalize hS1 : sizeCs (vs.take (i + 1)) = S1 at *
      generalize sizeCs (vs.take i) = S0 at *
      rw [condE_f] at hat c1
      generalize sizeC vs[i] = sz at *
      generalize vs[i] = x at *
      simp -implicitDefEqProofs [hlt, hlt2, e2, hat, h5, c1, e3]
      exact rnd_next (i + 1) hlt (by omega) (by simp -implicitDefEqProofs [liveOf, hS1])
    · obtain rfl : i = vs.length := by omega
      rw [List.take_length]
      generalize hQ : checkQ vs ls most = Q
      unfold checkQ at hQ
      by_cases a1 : 60 < sizeCs vs
      · have a1' : (60 : Int) < sizeCs vs := by omega
        rw [if_pos (.inl a1)] at hQ
        simp -implicitDefEqProofs [a1', ← hQ]
      have a1' : ¬ (60 : Int) < sizeCs vs := by omega
      by_cases a2 : 3 < vs.length
      · have a2' : (3 : Int) < vs.length := by omega
        rw [if_pos (.inr (.inl a2))] at hQ
        simp -implicitDefEqProofs [a1', a2', ← hQ]
      have a2' : ¬ (3 : Int) < vs.length := by omega
      by_cases a3 : 6 < ls.length
      · have a3' : (6 : Int) < ls.length := by omega
        rw [if_pos (.inr (.inr a3))] at hQ
        simp -implicitDefEqProofs [a1', a2', a3', ← hQ]
      have a3' : ¬ (6 : Int) < ls.length := by omega
      rw [if_neg (by omega)] at hQ
      by_cases a4 : vs.length = 0
      · rw [if_pos a4] at hQ
        obtain rfl : vs = [] := List.length_eq_zero_iff.1 a4
        simp -implicitDefEqProofs [a1', a2', a3', ← hQ]
      rw [if_neg a4] at hQ
      have a4' : ¬ (vs.length : Int) = 0 := by omega
      simp -implicitDefEqProofs [a1', a2', a3', a4, a4']
      clear a1' a2' a3'
      generalize hy : evLoopC _ _ _ _ _ _ _ _ _ _ = R2
      apply loop_gen hy (fun i : Nat => (mkL 100 .junk [(1, .ptr 0 0), (42, roV zv vs.length (flatE condE vs)), (43, .int .i64 vs.length), (44, .int .i64 i)], [some (.cells [roV zv vs.length (flatE condE vs), roV zl ls.length (flatE linkE ls), .int .i64 most] true), none, none, none]))
        (fun i => i ≤ vs.length ∧ condFs (vs.drop i) = condFs vs) (fun i => vs.length - i) 0
      case hI => exact ⟨Nat.zero_le _, rfl⟩
      case hq => omega
      case ht => simp -implicitDefEqProofs [liveOf]
      case round =>
        rintro i ⟨hi, hF⟩ _
        clear hy
        by_cases hlt : i < vs.length
        · have hlt2 : (i : Int) < vs.length := by omega
          have e2 : addI .i64 (i : Int) 1 = (i : Int) + 1 := addI_i64 (by omega) (by omega)
          have hat := at_cond' vs i hlt
          rw [List.drop_eq_getElem_cons hlt, condFs] at hF
          have h5 : 5 ≤ vs.length * 5 - i * 5 := by omega
          have hwi := wts_at hlt
          have c2 := cond_ok (wt vs[i]) vs[i] (Nat.le_refl _) (by omega) (k := k) (by omega)
          rw [condE_f] at hat c2
          generalize vs[i] = x at *
          generalize condF x = fx at *
          by_cases hx0 : fx = 0
          · rw [if_pos hx0] at hF
            simp -implicitDefEqProofs [hlt, hlt2, e2, hat, h5, c2, hx0]
            exact rnd_next (i + 1) ⟨hlt, hF⟩ (by omega) (by simp -implicitDefEqProofs [liveOf])
          · rw [if_neg hx0] at hF
            rw [← hF, if_pos hx0] at hQ
            simp -implicitDefEqProofs [hlt, hlt2, e2, hat, h5, c2, hx0, ← hQ]
        · obtain rfl : i = vs.length := by omega
          rw [List.drop_length] at hF
          have hF0 : condFs vs = 0 := hF.symm
          rw [if_neg (by rw [hF0]; simp)] at hQ
          simp -implicitDefEqProofs
          generalize hy : evLoopC _ _ _ _ _ _ _ _ _ _ = R3
          apply loop_gen hy (fun i : Nat => (mkL 100 .junk [(1, .ptr 0 0), (55, roV zl ls.length (flatE linkE ls)), (56, .int .i64 ls.length), (57, .int .i64 i)], [some (.cells [roV zv vs.length (flatE condE vs), roV zl ls.length (flatE linkE ls), .int .i64 most] true), none, none, none]))
            (fun i => i ≤ ls.length ∧ linkFs vs.length (ls.drop i) = linkFs vs.length ls) (fun i => ls.length - i) 0
          case hI => exact ⟨Nat.zero_le _, rfl⟩
          case hq => omega
          case ht => simp -implicitDefEqProofs [liveOf]
          case round =>
            rintro i ⟨hi, hF⟩ _
            clear hy
            by_cases hlt : i < ls.length
            · have hlt2 : (i : Int) < ls.length := by omega
              have e2 : addI .i64 (i : Int) 1 = (i : Int) + 1 := addI_i64 (by omega) (by omega)
              have hat := at_link ls i hlt
              rw [List.drop_eq_getElem_cons hlt, linkFs] at hF
              have h5 : 3 ≤ ls.length * 3 - i * 3 := by omega
              generalize ls[i] = x at *
              have hlf : linkF vs.length x = linkF vs.length x := rfl
              conv at hlf => rhs; unfold linkF
              obtain ⟨o, a, b⟩ := x
              simp only at hlf hat
              generalize hvn : vs.length = n at *
              by_cases b1 : o < 0
              · rw [if_pos (.inl b1)] at hlf
                rw [hlf, if_neg (by simp)] at hF
                rw [← hF, if_pos (by simp)] at hQ
                simp -implicitDefEqProofs [hlt, hlt2, e2, hat, h5, b1, ← hQ]
              by_cases b2 : 4 ≤ o
              · rw [if_pos (.inr b2)] at hlf
                rw [hlf, if_neg (by simp)] at hF
                rw [← hF, if_pos (by simp)] at hQ
                simp -implicitDefEqProofs [hlt, hlt2, e2, hat, h5, b1, b2, ← hQ]
              rw [if_neg (by omega)] at hlf
              have hmin : (if b < a then b else a) = min a b := by split <;> omega
              have hmax : (if a < b then b else a) = max a b := by split <;> omega
              by_cases b3 : min a b < 0
              · rw [if_pos (by omega)] at hlf
                rw [hlf, if_neg (by simp)] at hF
                rw [← hF, if_pos (by simp)] at hQ
                simp -implicitDefEqProofs [hlt, hlt2, e2, hat, h5, b1, b2, hmin, hmax, b3, ← hQ]
              by_cases b4 : (n : Int) ≤ max a b
              · rw [if_pos (by omega)] at hlf
                rw [hlf, if_neg (by simp)] at hF
                rw [← hF, if_pos (by simp)] at hQ
                simp -implicitDefEqProofs [hlt, hlt2, e2, hat, h5, b1, b2, hmin, hmax, b3, b4, ← hQ]
              rw [if_neg (by omega)] at hlf
              by_cases b5 : a = b
              · rw [if_pos b5] at hlf
                rw [hlf, if_neg (by simp)] at hF
                rw [← hF, if_pos (by simp)] at hQ
                have b3' : ¬ b < 0 := by omega
                have b4' : ¬ (n : Int) ≤ b := by omega
                simp -implicitDefEqProofs [hlt, hlt2, e2, hat, h5, b1, b2, b3', b4', b5, ← hQ]
              rw [if_neg b5] at hlf
              rw [hlf, if_pos rfl] at hF
              simp -implicitDefEqProofs [hlt, hlt2, e2, hat, h5, b1, b2, hmin, hmax, b3, b4, b5]
              exact rnd_next (i + 1) ⟨by omega, hF⟩ (by omega) (by simp -implicitDefEqProofs [liveOf])
            · obtain rfl : i = ls.length := by omega
              rw [List.drop_length] at hF
              have hF0 : linkFs vs.length ls = 0 := hF.symm
              rw [if_neg (by rw [hF0]; simp)] at hQ
              by_cases m1 : most < 1
              · rw [if_pos (.inl m1)] at hQ
                simp -implicitDefEqProofs [m1, ← hQ]
              by_cases m2 : 2000 < most
              · rw [if_pos (.inr m2)] at hQ
                simp -implicitDefEqProofs [m1, m2, ← hQ]
              rw [if_neg (by omega)] at hQ
              simp -implicitDefEqProofs [m1, m2, ← hQ]
end Go.Ev.Tryd
