/-
  CODE BY NAMES, printed by wip/tools/codes.py (own work).
-/
import Derived.Test.YtcpojjjdglhhcaaDoorSgG
set_option maxRecDepth 100000
set_option linter.unusedVariables false
namespace Go.Ev.Tryd
open Go Go.Ev Go.Proofs
section
variable {P : Program} {Γ : Env} {call : CallF} {n f m : Nat}

noncomputable def B40 : Code := bodyOf Tryd.f40
@[simp] theorem n40_1 (s : List V) (H : Heap) : evCode P Γ call n f m (cAt [] B40) s H = seqNext P Γ call n f m (cAt [1] B40) (evCode P Γ call n f m (cAt [0] B40) s H) := at_seq (by kernel_rfl) rfl rfl s H
noncomputable def r40_2 : {l : List Oper // opsOf (cAt [0] B40) = l} := by
  apply Subtype.mk
  dsimp only [opsOf, cAt, kids, B40, bodyOf, Tryd.f40, List.getD, List.getElem?_cons_zero, List.getElem?_cons_succ, Option.getD_some]
@[simp] theorem n40_2 (s : List V) (H : Heap) : evCode P Γ call n f m (cAt [0] B40) s H = regNext (evOpsGo P Γ call r40_2.1 r40_2.1 s H) := at_region (by kernel_rfl) r40_2.2 s H
attribute [simp] r40_2
@[simp] theorem n40_3 (s : List V) (H : Heap) : evCode P Γ call n f m (cAt [1] B40) s H = seqNext P Γ call n f m (cAt [1, 1] B40) (evCode P Γ call n f m (cAt [1, 0] B40) s H) := at_seq (by kernel_rfl) rfl rfl s H
noncomputable def r40_4 : {l : List Oper // opsOf (cAt [1, 0] B40) = l} := by
  apply Subtype.mk
  dsimp only [opsOf, cAt, kids, B40, bodyOf, Tryd.f40, List.getD, List.getElem?_cons_zero, List.getElem?_cons_succ, Option.getD_some]
@[simp] theorem n40_4 (s : List V) (H : Heap) : evCode P Γ call n f m (cAt [1, 0] B40) s H = regNext (evOpsGo P Γ call r40_4.1 r40_4.1 s H) := at_region (by kernel_rfl) r40_4.2 s H
attribute [simp] r40_4
@[simp] theorem n40_5 (s : List V) (H : Heap) : evCode P Γ call n f m (cAt [1, 1] B40) s H = seqNext P Γ call n f m (cAt [1, 1, 1] B40) (evCode P Γ call n f m (cAt [1, 1, 0] B40) s H) := at_seq (by kernel_rfl) rfl rfl s H
noncomputable def r40_6 : {l : List Oper // opsOf (cAt [1, 1, 0] B40) = l} := by
  apply Subtype.mk
  dsimp only [opsOf, cAt, kids, B40, bodyOf, Tryd.f40, List.getD, List.getElem?_cons_zero, List.getElem?_cons_succ, Option.getD_some]
@[simp] theorem n40_6 (s : List V) (H : Heap) : evCode P Γ call n f m (cAt [1, 1, 0] B40) s H = regNext (evOpsGo P Γ call r40_6.1 r40_6.1 s H) := at_region (by kernel_rfl) r40_6.2 s H
attribute [simp] r40_6
@[simp] theorem n40_7 (s : List V) (H : Heap) : evCode P Γ call n f m (cAt [1, 1, 1] B40) s H = some (.ret, s, H) := at_ret (by kernel_rfl) s H
theorem b40 {k : Nat} (ho : ∀ args H, Γ.orc 40 args H = none) (args : List V) (H : Heap) (ha : args.length ≤ 15) : evF Tryd.prog Γ (k + 1) 40 args H = bodyEnd Tryd.prog [.tmp 2] H.length (evCode Tryd.prog Γ (evF Tryd.prog Γ k) k 40 H.length (cAt [] B40) (mkL 15 V.undef (enumV 0 args)) H) := body_at Tryd.func40 (by decide) rfl ho rfl rfl args H ha
noncomputable def B41 : Code := bodyOf Tryd.f41
@[simp] theorem n41_1 (s : List V) (H : Heap) : evCode P Γ call n f m (cAt [] B41) s H = seqNext P Γ call n f m (cAt [1] B41) (evCode P Γ call n f m (cAt [0] B41) s H) := at_seq (by kernel_rfl) rfl rfl s H
noncomputable def r41_2 : {l : List Oper // opsOf (cAt [0] B41) = l} := by
  apply Subtype.mk
  dsimp only [opsOf, cAt, kids, B41, bodyOf, Tryd.f41, List.getD, List.getElem?_cons_zero, List.getElem?_cons_succ, Option.getD_some]
@[simp] theorem n41_2 (s : List V) (H : Heap) : evCode P Γ call n f m (cAt [0] B41) s H = regNext (evOpsGo P Γ call r41_2.1 r41_2.1 s H) := at_region (by kernel_rfl) r41_2.2 s H
attribute [simp] r41_2
@[simp] theorem n41_3 (s : List V) (H : Heap) : evCode P Γ call n f m (cAt [1] B41) s H = seqNext P Γ call n f m (cAt [1, 1] B41) (evCode P Γ call n f m (cAt [1, 0] B41) s H) := at_seq (by kernel_rfl) rfl rfl s H
@[simp] theorem n41_4 (s : List V) (H : Heap) : evCode P Γ call n f m (cAt [1, 0] B41) s H = blockNext 0 (evCode P Γ call n f m (cAt [1, 0, 0] B41) s H) := at_block (by kernel_rfl) rfl s H
@[simp] theorem n41_5 (s : List V) (H : Heap) : evCode P Γ call n f m (cAt [1, 0, 0] B41) s H = evLoopC P Γ call n f m (cAt [1, 0, 0, 0] B41) n s H := at_loop (by kernel_rfl) rfl s H
noncomputable abbrev L41_1 : Code := cAt [1, 0, 0, 0] B41
@[simp] theorem n41_5f : firstRegion (cAt [1, 0, 0, 0] B41) = 1 := by kernel_rfl
@[simp] theorem n41_6 (s : List V) (H : Heap) : evCode P Γ call n f m (cAt [1, 0, 0, 0] B41) s H = seqNext P Γ call n f m (cAt [1, 0, 0, 0, 1] B41) (evCode P Γ call n f m (cAt [1, 0, 0, 0, 0] B41) s H) := at_seq (by kernel_rfl) rfl rfl s H
@[simp] theorem n41_7 (s : List V) (H : Heap) : evCode P Γ call n f m (cAt [1, 0, 0, 0, 0] B41) s H = seqNext P Γ call n f m (cAt [1, 0, 0, 0, 0, 1] B41) (evCode P Γ call n f m (cAt [1, 0, 0, 0, 0, 0] B41) s H) := at_seq (by kernel_rfl) rfl rfl s H
noncomputable def r41_8 : {l : List Oper // opsOf (cAt [1, 0, 0, 0, 0, 0] B41) = l} := by
  apply Subtype.mk
  dsimp only [opsOf, cAt, kids, B41, bodyOf, Tryd.f41, List.getD, List.getElem?_cons_zero, List.getElem?_cons_succ, Option.getD_some]
@[simp] theorem n41_8 (s : List V) (H : Heap) : evCode P Γ call n f m (cAt [1, 0, 0, 0, 0, 0] B41) s H = regNext (evOpsGo P Γ call r41_8.1 r41_8.1 s H) := at_region (by kernel_rfl) r41_8.2 s H
attribute [simp] r41_8
@[simp] theorem n41_9 (s : List V) (H : Heap) : evCode P Γ call n f m (cAt [1, 0, 0, 0, 0, 1] B41) s H = condW P Γ call n f m (cAt [1, 0, 0, 0, 0, 1, 0] B41) (cAt [1, 0, 0, 0, 0, 1, 1] B41) s H (evOperand Γ s (.tmp 20)) := at_cond (by kernel_rfl) (by kernel_rfl) rfl rfl s H
@[simp] theorem n41_10 (s : List V) (H : Heap) : evCode P Γ call n f m (cAt [1, 0, 0, 0, 0, 1, 0] B41) s H = some (.normal, s, H) := at_skip (by kernel_rfl) s H
@[simp] theorem n41_11 (s : List V) (H : Heap) : evCode P Γ call n f m (cAt [1, 0, 0, 0, 0, 1, 1] B41) s H = some (.exit 0, s, H) := at_exit (by kernel_rfl) s H
@[simp] theorem n41_12 (s : List V) (H : Heap) : evCode P Γ call n f m (cAt [1, 0, 0, 0, 1] B41) s H = blockNext 1 (evCode P Γ call n f m (cAt [1, 0, 0, 0, 1, 0] B41) s H) := at_block (by kernel_rfl) rfl s H
@[simp] theorem n41_13 (s : List V) (H : Heap) : evCode P Γ call n f m (cAt [1, 0, 0, 0, 1, 0] B41) s H = seqNext P Γ call n f m (cAt [1, 0, 0, 0, 1, 0, 1] B41) (evCode P Γ call n f m (cAt [1, 0, 0, 0, 1, 0, 0] B41) s H) := at_seq (by kernel_rfl) rfl rfl s H
noncomputable def r41_14 : {l : List Oper // opsOf (cAt [1, 0, 0, 0, 1, 0, 0] B41) = l} := by
  apply Subtype.mk
  dsimp only [opsOf, cAt, kids, B41, bodyOf, Tryd.f41, List.getD, List.getElem?_cons_zero, List.getElem?_cons_succ, Option.getD_some]
@[simp] theorem n41_14 (s : List V) (H : Heap) : evCode P Γ call n f m (cAt [1, 0, 0, 0, 1, 0, 0] B41) s H = regNext (evOpsGo P Γ call r41_14.1 r41_14.1 s H) := at_region (by kernel_rfl) r41_14.2 s H
attribute [simp] r41_14
@[simp] theorem n41_15 (s : List V) (H : Heap) : evCode P Γ call n f m (cAt [1, 0, 0, 0, 1, 0, 1] B41) s H = seqNext P Γ call n f m (cAt [1, 0, 0, 0, 1, 0, 1, 1] B41) (evCode P Γ call n f m (cAt [1, 0, 0, 0, 1, 0, 1, 0] B41) s H) := at_seq (by kernel_rfl) rfl rfl s H
noncomputable def r41_16 : {l : List Oper // opsOf (cAt [1, 0, 0, 0, 1, 0, 1, 0] B41) = l} := by
  apply Subtype.mk
  dsimp only [opsOf, cAt, kids, B41, bodyOf, Tryd.f41, List.getD, List.getElem?_cons_zero, List.getElem?_cons_succ, Option.getD_some]
@[simp] theorem n41_16 (s : List V) (H : Heap) : evCode P Γ call n f m (cAt [1, 0, 0, 0, 1, 0, 1, 0] B41) s H = regNext (evOpsGo P Γ call r41_16.1 r41_16.1 s H) := at_region (by kernel_rfl) r41_16.2 s H
attribute [simp] r41_16
@[simp] theorem n41_17 (s : List V) (H : Heap) : evCode P Γ call n f m (cAt [1, 0, 0, 0, 1, 0, 1, 1] B41) s H = seqNext P Γ call n f m (cAt [1, 0, 0, 0, 1, 0, 1, 1, 1] B41) (evCode P Γ call n f m (cAt [1, 0, 0, 0, 1, 0, 1, 1, 0] B41) s H) := at_seq (by kernel_rfl) rfl rfl s H
noncomputable def r41_18 : {l : List Oper // opsOf (cAt [1, 0, 0, 0, 1, 0, 1, 1, 0] B41) = l} := by
  apply Subtype.mk
  dsimp only [opsOf, cAt, kids, B41, bodyOf, Tryd.f41, List.getD, List.getElem?_cons_zero, List.getElem?_cons_succ, Option.getD_some]
@[simp] theorem n41_18 (s : List V) (H : Heap) : evCode P Γ call n f m (cAt [1, 0, 0, 0, 1, 0, 1, 1, 0] B41) s H = regNext (evOpsGo P Γ call r41_18.1 r41_18.1 s H) := at_region (by kernel_rfl) r41_18.2 s H
attribute [simp] r41_18
@[simp] theorem n41_19 (s : List V) (H : Heap) : evCode P Γ call n f m (cAt [1, 0, 0, 0, 1, 0, 1, 1, 1] B41) s H = seqNext P Γ call n f m (cAt [1, 0, 0, 0, 1, 0, 1, 1, 1, 1] B41) (evCode P Γ call n f m (cAt [1, 0, 0, 0, 1, 0, 1, 1, 1, 0] B41) s H) := at_seq (by kernel_rfl) rfl rfl s H
noncomputable def r41_20 : {l : List Oper // opsOf (cAt [1, 0, 0, 0, 1, 0, 1, 1, 1, 0] B41) = l} := by
  apply Subtype.mk
  dsimp only [opsOf, cAt, kids, B41, bodyOf, Tryd.f41, List.getD, List.getElem?_cons_zero, List.getElem?_cons_succ, Option.getD_some]
@[simp] theorem n41_20 (s : List V) (H : Heap) : evCode P Γ call n f m (cAt [1, 0, 0, 0, 1, 0, 1, 1, 1, 0] B41) s H = regNext (evOpsGo P Γ call r41_20.1 r41_20.1 s H) := at_region (by kernel_rfl) r41_20.2 s H
attribute [simp] r41_20
@[simp] theorem n41_21 (s : List V) (H : Heap) : evCode P Γ call n f m (cAt [1, 0, 0, 0, 1, 0, 1, 1, 1, 1] B41) s H = seqNext P Γ call n f m (cAt [1, 0, 0, 0, 1, 0, 1, 1, 1, 1, 1] B41) (evCode P Γ call n f m (cAt [1, 0, 0, 0, 1, 0, 1, 1, 1, 1, 0] B41) s H) := at_seq (by kernel_rfl) rfl rfl s H
noncomputable def r41_22 : {l : List Oper // opsOf (cAt [1, 0, 0, 0, 1, 0, 1, 1, 1, 1, 0] B41) = l} := by
  apply Subtype.mk
  dsimp only [opsOf, cAt, kids, B41, bodyOf, Tryd.f41, List.getD, List.getElem?_cons_zero, List.getElem?_cons_succ, Option.getD_some]
@[simp] theorem n41_22 (s : List V) (H : Heap) : evCode P Γ call n f m (cAt [1, 0, 0, 0, 1, 0, 1, 1, 1, 1, 0] B41) s H = regNext (evOpsGo P Γ call r41_22.1 r41_22.1 s H) := at_region (by kernel_rfl) r41_22.2 s H
attribute [simp] r41_22
@[simp] theorem n41_23 (s : List V) (H : Heap) : evCode P Γ call n f m (cAt [1, 0, 0, 0, 1, 0, 1, 1, 1, 1, 1] B41) s H = seqNext P Γ call n f m (cAt [1, 0, 0, 0, 1, 0, 1, 1, 1, 1, 1, 1] B41) (evCode P Γ call n f m (cAt [1, 0, 0, 0, 1, 0, 1, 1, 1, 1, 1, 0] B41) s H) := at_seq (by kernel_rfl) rfl rfl s H
noncomputable def r41_24 : {l : List Oper // opsOf (cAt [1, 0, 0, 0, 1, 0, 1, 1, 1, 1, 1, 0] B41) = l} := by
  apply Subtype.mk
  dsimp only [opsOf, cAt, kids, B41, bodyOf, Tryd.f41, List.getD, List.getElem?_cons_zero, List.getElem?_cons_succ, Option.getD_some]
@[simp] theorem n41_24 (s : List V) (H : Heap) : evCode P Γ call n f m (cAt [1, 0, 0, 0, 1, 0, 1, 1, 1, 1, 1, 0] B41) s H = regNext (drawR P Γ call r41_24.1 [([1, 2, 3, 4, 5, 6, 7, 8, 9, 10], [43, 44, 45, 46, 47, 48, 49, 50, 51, 52]), ([0, 3, 4, 5, 6, 7, 8, 9, 10], [42, 45, 46, 47, 48, 49, 50, 51, 52]), ([0, 3, 4, 5, 6, 7, 8, 9, 10], [42, 45, 46, 47, 48, 49, 50, 51, 52]), ([0, 1, 2, 4, 5, 6, 7, 8, 9, 10, 11, 12], [42, 43, 44, 46, 47, 48, 49, 50, 51, 52, 53]), ([0, 1, 2, 3, 6, 7, 8, 9, 10, 11, 12], [42, 43, 44, 45, 48, 49, 50, 51, 52, 53]), ([0, 1, 2, 3, 6, 7, 8, 9, 10, 11, 12], [42, 43, 44, 45, 48, 49, 50, 51, 52, 53]), ([0, 1, 2, 3, 4, 5, 9, 10], [42, 43, 44, 45, 46, 47, 51, 52]), ([0, 1, 2, 3, 4, 5, 9, 10], [42, 43, 44, 45, 46, 47, 51, 52]), ([0, 1, 2, 3, 4, 5, 9, 10], [42, 43, 44, 45, 46, 47, 51, 52]), ([0, 1, 2, 3, 4, 5, 6, 7, 8, 11, 12], [42, 43, 44, 45, 46, 47, 48, 49, 50, 53]), ([0, 1, 2, 3, 4, 5, 6, 7, 8, 11, 12], [42, 43, 44, 45, 46, 47, 48, 49, 50, 53]), ([3, 4, 5, 9, 10], [45, 46, 47, 51, 52]), ([3, 4, 5, 9, 10], [45, 46, 47, 51, 52]), ([], []), ([], [])] s H) := at_drawT (by kernel_rfl) r41_24.2 (by kernel_rfl) s H
attribute [simp] r41_24
@[simp] theorem n41_25 (s : List V) (H : Heap) : evCode P Γ call n f m (cAt [1, 0, 0, 0, 1, 0, 1, 1, 1, 1, 1, 1] B41) s H = seqNext P Γ call n f m (cAt [1, 0, 0, 0, 1, 0, 1, 1, 1, 1, 1, 1, 1] B41) (evCode P Γ call n f m (cAt [1, 0, 0, 0, 1, 0, 1, 1, 1, 1, 1, 1, 0] B41) s H) := at_seq (by kernel_rfl) rfl rfl s H
noncomputable def r41_26 : {l : List Oper // opsOf (cAt [1, 0, 0, 0, 1, 0, 1, 1, 1, 1, 1, 1, 0] B41) = l} := by
  apply Subtype.mk
  dsimp only [opsOf, cAt, kids, B41, bodyOf, Tryd.f41, List.getD, List.getElem?_cons_zero, List.getElem?_cons_succ, Option.getD_some]
@[simp] theorem n41_26 (s : List V) (H : Heap) : evCode P Γ call n f m (cAt [1, 0, 0, 0, 1, 0, 1, 1, 1, 1, 1, 1, 0] B41) s H = regNext (drawR P Γ call r41_26.1 [([1, 2, 3, 4, 5, 6, 7, 8, 9, 10], [56, 57, 58, 59, 60, 61, 62, 63, 64, 65]), ([0, 3, 4, 5, 6, 7, 8, 9, 10], [55, 58, 59, 60, 61, 62, 63, 64, 65]), ([0, 3, 4, 5, 6, 7, 8, 9, 10], [55, 58, 59, 60, 61, 62, 63, 64, 65]), ([0, 1, 2, 4, 5, 6, 7, 8, 9, 10, 11, 12], [55, 56, 57, 59, 60, 61, 62, 63, 64, 65, 66]), ([0, 1, 2, 3, 6, 7, 8, 9, 10, 11, 12], [55, 56, 57, 58, 61, 62, 63, 64, 65, 66]), ([0, 1, 2, 3, 6, 7, 8, 9, 10, 11, 12], [55, 56, 57, 58, 61, 62, 63, 64, 65, 66]), ([0, 1, 2, 3, 4, 5, 9, 10], [55, 56, 57, 58, 59, 60, 64, 65]), ([0, 1, 2, 3, 4, 5, 9, 10], [55, 56, 57, 58, 59, 60, 64, 65]), ([0, 1, 2, 3, 4, 5, 9, 10], [55, 56, 57, 58, 59, 60, 64, 65]), ([0, 1, 2, 3, 4, 5, 6, 7, 8, 11, 12], [55, 56, 57, 58, 59, 60, 61, 62, 63, 66]), ([0, 1, 2, 3, 4, 5, 6, 7, 8, 11, 12], [55, 56, 57, 58, 59, 60, 61, 62, 63, 66]), ([3, 4, 5, 9, 10], [58, 59, 60, 64, 65]), ([3, 4, 5, 9, 10], [58, 59, 60, 64, 65]), ([], []), ([], [])] s H) := at_drawT (by kernel_rfl) r41_26.2 (by kernel_rfl) s H
attribute [simp] r41_26
@[simp] theorem n41_27 (s : List V) (H : Heap) : evCode P Γ call n f m (cAt [1, 0, 0, 0, 1, 0, 1, 1, 1, 1, 1, 1, 1] B41) s H = seqNext P Γ call n f m (cAt [1, 0, 0, 0, 1, 0, 1, 1, 1, 1, 1, 1, 1, 1] B41) (evCode P Γ call n f m (cAt [1, 0, 0, 0, 1, 0, 1, 1, 1, 1, 1, 1, 1, 0] B41) s H) := at_seq (by kernel_rfl) rfl rfl s H
noncomputable def r41_28 : {l : List Oper // opsOf (cAt [1, 0, 0, 0, 1, 0, 1, 1, 1, 1, 1, 1, 1, 0] B41) = l} := by
  apply Subtype.mk
  dsimp only [opsOf, cAt, kids, B41, bodyOf, Tryd.f41, List.getD, List.getElem?_cons_zero, List.getElem?_cons_succ, Option.getD_some]
@[simp] theorem n41_28 (s : List V) (H : Heap) : evCode P Γ call n f m (cAt [1, 0, 0, 0, 1, 0, 1, 1, 1, 1, 1, 1, 1, 0] B41) s H = regNext (drawR P Γ call r41_28.1 [([1, 2, 3, 4, 5, 6, 7, 8, 9, 10], [69, 70, 71, 72, 73, 74, 75, 76, 77, 78]), ([0, 3, 4, 5, 6, 7, 8, 9, 10], [68, 71, 72, 73, 74, 75, 76, 77, 78]), ([0, 3, 4, 5, 6, 7, 8, 9, 10], [68, 71, 72, 73, 74, 75, 76, 77, 78]), ([0, 1, 2, 4, 5, 6, 7, 8, 9, 10, 11, 12], [68, 69, 70, 72, 73, 74, 75, 76, 77, 78, 79]), ([0, 1, 2, 3, 6, 7, 8, 9, 10, 11, 12], [68, 69, 70, 71, 74, 75, 76, 77, 78, 79]), ([0, 1, 2, 3, 6, 7, 8, 9, 10, 11, 12], [68, 69, 70, 71, 74, 75, 76, 77, 78, 79]), ([0, 1, 2, 3, 4, 5, 9, 10], [68, 69, 70, 71, 72, 73, 77, 78]), ([0, 1, 2, 3, 4, 5, 9, 10], [68, 69, 70, 71, 72, 73, 77, 78]), ([0, 1, 2, 3, 4, 5, 9, 10], [68, 69, 70, 71, 72, 73, 77, 78]), ([0, 1, 2, 3, 4, 5, 6, 7, 8, 11, 12], [68, 69, 70, 71, 72, 73, 74, 75, 76, 79]), ([0, 1, 2, 3, 4, 5, 6, 7, 8, 11, 12], [68, 69, 70, 71, 72, 73, 74, 75, 76, 79]), ([3, 4, 5, 9, 10], [71, 72, 73, 77, 78]), ([3, 4, 5, 9, 10], [71, 72, 73, 77, 78]), ([], []), ([], [])] s H) := at_drawT (by kernel_rfl) r41_28.2 (by kernel_rfl) s H
attribute [simp] r41_28
@[simp] theorem n41_29 (s : List V) (H : Heap) : evCode P Γ call n f m (cAt [1, 0, 0, 0, 1, 0, 1, 1, 1, 1, 1, 1, 1, 1] B41) s H = seqNext P Γ call n f m (cAt [1, 0, 0, 0, 1, 0, 1, 1, 1, 1, 1, 1, 1, 1, 1] B41) (evCode P Γ call n f m (cAt [1, 0, 0, 0, 1, 0, 1, 1, 1, 1, 1, 1, 1, 1, 0] B41) s H) := at_seq (by kernel_rfl) rfl rfl s H
noncomputable def r41_30 : {l : List Oper // opsOf (cAt [1, 0, 0, 0, 1, 0, 1, 1, 1, 1, 1, 1, 1, 1, 0] B41) = l} := by
  apply Subtype.mk
  dsimp only [opsOf, cAt, kids, B41, bodyOf, Tryd.f41, List.getD, List.getElem?_cons_zero, List.getElem?_cons_succ, Option.getD_some]
@[simp] theorem n41_30 (s : List V) (H : Heap) : evCode P Γ call n f m (cAt [1, 0, 0, 0, 1, 0, 1, 1, 1, 1, 1, 1, 1, 1, 0] B41) s H = regNext (drawR P Γ call r41_30.1 [([1, 2, 3, 4, 5, 6, 7, 8, 9, 10], [82, 83, 84, 85, 86, 87, 88, 89, 90, 91]), ([0, 3, 4, 5, 6, 7, 8, 9, 10], [81, 84, 85, 86, 87, 88, 89, 90, 91]), ([0, 3, 4, 5, 6, 7, 8, 9, 10], [81, 84, 85, 86, 87, 88, 89, 90, 91]), ([0, 1, 2, 4, 5, 6, 7, 8, 9, 10, 11, 12], [81, 82, 83, 85, 86, 87, 88, 89, 90, 91, 92]), ([0, 1, 2, 3, 6, 7, 8, 9, 10, 11, 12], [81, 82, 83, 84, 87, 88, 89, 90, 91, 92]), ([0, 1, 2, 3, 6, 7, 8, 9, 10, 11, 12], [81, 82, 83, 84, 87, 88, 89, 90, 91, 92]), ([0, 1, 2, 3, 4, 5, 9, 10], [81, 82, 83, 84, 85, 86, 90, 91]), ([0, 1, 2, 3, 4, 5, 9, 10], [81, 82, 83, 84, 85, 86, 90, 91]), ([0, 1, 2, 3, 4, 5, 9, 10], [81, 82, 83, 84, 85, 86, 90, 91]), ([0, 1, 2, 3, 4, 5, 6, 7, 8, 11, 12], [81, 82, 83, 84, 85, 86, 87, 88, 89, 92]), ([0, 1, 2, 3, 4, 5, 6, 7, 8, 11, 12], [81, 82, 83, 84, 85, 86, 87, 88, 89, 92]), ([3, 4, 5, 9, 10], [84, 85, 86, 90, 91]), ([3, 4, 5, 9, 10], [84, 85, 86, 90, 91]), ([], []), ([], [])] s H) := at_drawT (by kernel_rfl) r41_30.2 (by kernel_rfl) s H
attribute [simp] r41_30
noncomputable def r41_31 : {l : List Oper // opsOf (cAt [1, 0, 0, 0, 1, 0, 1, 1, 1, 1, 1, 1, 1, 1, 1] B41) = l} := by
  apply Subtype.mk
  dsimp only [opsOf, cAt, kids, B41, bodyOf, Tryd.f41, List.getD, List.getElem?_cons_zero, List.getElem?_cons_succ, Option.getD_some]
@[simp] theorem n41_31 (s : List V) (H : Heap) : evCode P Γ call n f m (cAt [1, 0, 0, 0, 1, 0, 1, 1, 1, 1, 1, 1, 1, 1, 1] B41) s H = regNext (evOpsGo P Γ call r41_31.1 r41_31.1 s H) := at_region (by kernel_rfl) r41_31.2 s H
attribute [simp] r41_31
@[simp] theorem n41_32 (s : List V) (H : Heap) : evCode P Γ call n f m (cAt [1, 1] B41) s H = seqNext P Γ call n f m (cAt [1, 1, 1] B41) (evCode P Γ call n f m (cAt [1, 1, 0] B41) s H) := at_seq (by kernel_rfl) rfl rfl s H
noncomputable def r41_33 : {l : List Oper // opsOf (cAt [1, 1, 0] B41) = l} := by
  apply Subtype.mk
  dsimp only [opsOf, cAt, kids, B41, bodyOf, Tryd.f41, List.getD, List.getElem?_cons_zero, List.getElem?_cons_succ, Option.getD_some]
@[simp] theorem n41_33 (s : List V) (H : Heap) : evCode P Γ call n f m (cAt [1, 1, 0] B41) s H = regNext (evOpsGo P Γ call r41_33.1 r41_33.1 s H) := at_region (by kernel_rfl) r41_33.2 s H
attribute [simp] r41_33
@[simp] theorem n41_34 (s : List V) (H : Heap) : evCode P Γ call n f m (cAt [1, 1, 1] B41) s H = seqNext P Γ call n f m (cAt [1, 1, 1, 1] B41) (evCode P Γ call n f m (cAt [1, 1, 1, 0] B41) s H) := at_seq (by kernel_rfl) rfl rfl s H
@[simp] theorem n41_35 (s : List V) (H : Heap) : evCode P Γ call n f m (cAt [1, 1, 1, 0] B41) s H = seqNext P Γ call n f m (cAt [1, 1, 1, 0, 1] B41) (evCode P Γ call n f m (cAt [1, 1, 1, 0, 0] B41) s H) := at_seq (by kernel_rfl) rfl rfl s H
noncomputable def r41_36 : {l : List Oper // opsOf (cAt [1, 1, 1, 0, 0] B41) = l} := by
  apply Subtype.mk
  dsimp only [opsOf, cAt, kids, B41, bodyOf, Tryd.f41, List.getD, List.getElem?_cons_zero, List.getElem?_cons_succ, Option.getD_some]
@[simp] theorem n41_36 (s : List V) (H : Heap) : evCode P Γ call n f m (cAt [1, 1, 1, 0, 0] B41) s H = regNext (evOpsGo P Γ call r41_36.1 r41_36.1 s H) := at_region (by kernel_rfl) r41_36.2 s H
attribute [simp] r41_36
@[simp] theorem n41_37 (s : List V) (H : Heap) : evCode P Γ call n f m (cAt [1, 1, 1, 0, 1] B41) s H = condW P Γ call n f m (cAt [1, 1, 1, 0, 1, 0] B41) (cAt [1, 1, 1, 0, 1, 1] B41) s H (evOperand Γ s (.tmp 99)) := at_cond (by kernel_rfl) (by kernel_rfl) rfl rfl s H
@[simp] theorem n41_38 (s : List V) (H : Heap) : evCode P Γ call n f m (cAt [1, 1, 1, 0, 1, 0] B41) s H = seqNext P Γ call n f m (cAt [1, 1, 1, 0, 1, 0, 1] B41) (evCode P Γ call n f m (cAt [1, 1, 1, 0, 1, 0, 0] B41) s H) := at_seq (by kernel_rfl) rfl rfl s H
noncomputable def r41_39 : {l : List Oper // opsOf (cAt [1, 1, 1, 0, 1, 0, 0] B41) = l} := by
  apply Subtype.mk
  dsimp only [opsOf, cAt, kids, B41, bodyOf, Tryd.f41, List.getD, List.getElem?_cons_zero, List.getElem?_cons_succ, Option.getD_some]
@[simp] theorem n41_39 (s : List V) (H : Heap) : evCode P Γ call n f m (cAt [1, 1, 1, 0, 1, 0, 0] B41) s H = regNext (evOpsGo P Γ call r41_39.1 r41_39.1 s H) := at_region (by kernel_rfl) r41_39.2 s H
attribute [simp] r41_39
@[simp] theorem n41_40 (s : List V) (H : Heap) : evCode P Γ call n f m (cAt [1, 1, 1, 0, 1, 0, 1] B41) s H = seqNext P Γ call n f m (cAt [1, 1, 1, 0, 1, 0, 1, 1] B41) (evCode P Γ call n f m (cAt [1, 1, 1, 0, 1, 0, 1, 0] B41) s H) := at_seq (by kernel_rfl) rfl rfl s H
noncomputable def r41_41 : {l : List Oper // opsOf (cAt [1, 1, 1, 0, 1, 0, 1, 0] B41) = l} := by
  apply Subtype.mk
  dsimp only [opsOf, cAt, kids, B41, bodyOf, Tryd.f41, List.getD, List.getElem?_cons_zero, List.getElem?_cons_succ, Option.getD_some]
@[simp] theorem n41_41 (s : List V) (H : Heap) : evCode P Γ call n f m (cAt [1, 1, 1, 0, 1, 0, 1, 0] B41) s H = regNext (evOpsGo P Γ call r41_41.1 r41_41.1 s H) := at_region (by kernel_rfl) r41_41.2 s H
attribute [simp] r41_41
@[simp] theorem n41_42 (s : List V) (H : Heap) : evCode P Γ call n f m (cAt [1, 1, 1, 0, 1, 0, 1, 1] B41) s H = seqNext P Γ call n f m (cAt [1, 1, 1, 0, 1, 0, 1, 1, 1] B41) (evCode P Γ call n f m (cAt [1, 1, 1, 0, 1, 0, 1, 1, 0] B41) s H) := at_seq (by kernel_rfl) rfl rfl s H
noncomputable def r41_43 : {l : List Oper // opsOf (cAt [1, 1, 1, 0, 1, 0, 1, 1, 0] B41) = l} := by
  apply Subtype.mk
  dsimp only [opsOf, cAt, kids, B41, bodyOf, Tryd.f41, List.getD, List.getElem?_cons_zero, List.getElem?_cons_succ, Option.getD_some]
@[simp] theorem n41_43 (s : List V) (H : Heap) : evCode P Γ call n f m (cAt [1, 1, 1, 0, 1, 0, 1, 1, 0] B41) s H = regNext (evOpsGo P Γ call r41_43.1 r41_43.1 s H) := at_region (by kernel_rfl) r41_43.2 s H
attribute [simp] r41_43
@[simp] theorem n41_44 (s : List V) (H : Heap) : evCode P Γ call n f m (cAt [1, 1, 1, 0, 1, 0, 1, 1, 1] B41) s H = seqNext P Γ call n f m (cAt [1, 1, 1, 0, 1, 0, 1, 1, 1, 1] B41) (evCode P Γ call n f m (cAt [1, 1, 1, 0, 1, 0, 1, 1, 1, 0] B41) s H) := at_seq (by kernel_rfl) rfl rfl s H
noncomputable def r41_45 : {l : List Oper // opsOf (cAt [1, 1, 1, 0, 1, 0, 1, 1, 1, 0] B41) = l} := by
  apply Subtype.mk
  dsimp only [opsOf, cAt, kids, B41, bodyOf, Tryd.f41, List.getD, List.getElem?_cons_zero, List.getElem?_cons_succ, Option.getD_some]
@[simp] theorem n41_45 (s : List V) (H : Heap) : evCode P Γ call n f m (cAt [1, 1, 1, 0, 1, 0, 1, 1, 1, 0] B41) s H = regNext (drawR P Γ call r41_45.1 [([1, 2, 3, 4, 5, 6, 7, 8, 9, 10], [111, 112, 113, 114, 115, 116, 117, 118, 119, 120]), ([0, 3, 4, 5, 6, 7, 8, 9, 10], [110, 113, 114, 115, 116, 117, 118, 119, 120]), ([0, 3, 4, 5, 6, 7, 8, 9, 10], [110, 113, 114, 115, 116, 117, 118, 119, 120]), ([0, 1, 2, 4, 5, 6, 7, 8, 9, 10, 11, 12], [110, 111, 112, 114, 115, 116, 117, 118, 119, 120, 121]), ([0, 1, 2, 3, 6, 7, 8, 9, 10, 11, 12], [110, 111, 112, 113, 116, 117, 118, 119, 120, 121]), ([0, 1, 2, 3, 6, 7, 8, 9, 10, 11, 12], [110, 111, 112, 113, 116, 117, 118, 119, 120, 121]), ([0, 1, 2, 3, 4, 5, 9, 10], [110, 111, 112, 113, 114, 115, 119, 120]), ([0, 1, 2, 3, 4, 5, 9, 10], [110, 111, 112, 113, 114, 115, 119, 120]), ([0, 1, 2, 3, 4, 5, 9, 10], [110, 111, 112, 113, 114, 115, 119, 120]), ([0, 1, 2, 3, 4, 5, 6, 7, 8, 11, 12], [110, 111, 112, 113, 114, 115, 116, 117, 118, 121]), ([0, 1, 2, 3, 4, 5, 6, 7, 8, 11, 12], [110, 111, 112, 113, 114, 115, 116, 117, 118, 121]), ([3, 4, 5, 9, 10], [113, 114, 115, 119, 120]), ([3, 4, 5, 9, 10], [113, 114, 115, 119, 120]), ([], []), ([], [])] s H) := at_drawT (by kernel_rfl) r41_45.2 (by kernel_rfl) s H
attribute [simp] r41_45
@[simp] theorem n41_46 (s : List V) (H : Heap) : evCode P Γ call n f m (cAt [1, 1, 1, 0, 1, 0, 1, 1, 1, 1] B41) s H = seqNext P Γ call n f m (cAt [1, 1, 1, 0, 1, 0, 1, 1, 1, 1, 1] B41) (evCode P Γ call n f m (cAt [1, 1, 1, 0, 1, 0, 1, 1, 1, 1, 0] B41) s H) := at_seq (by kernel_rfl) rfl rfl s H
noncomputable def r41_47 : {l : List Oper // opsOf (cAt [1, 1, 1, 0, 1, 0, 1, 1, 1, 1, 0] B41) = l} := by
  apply Subtype.mk
  dsimp only [opsOf, cAt, kids, B41, bodyOf, Tryd.f41, List.getD, List.getElem?_cons_zero, List.getElem?_cons_succ, Option.getD_some]
@[simp] theorem n41_47 (s : List V) (H : Heap) : evCode P Γ call n f m (cAt [1, 1, 1, 0, 1, 0, 1, 1, 1, 1, 0] B41) s H = regNext (drawR P Γ call r41_47.1 [([1, 2, 3, 4, 5, 6, 7, 8, 9, 10], [124, 125, 126, 127, 128, 129, 130, 131, 132, 133]), ([0, 3, 4, 5, 6, 7, 8, 9, 10], [123, 126, 127, 128, 129, 130, 131, 132, 133]), ([0, 3, 4, 5, 6, 7, 8, 9, 10], [123, 126, 127, 128, 129, 130, 131, 132, 133]), ([0, 1, 2, 4, 5, 6, 7, 8, 9, 10, 11, 12], [123, 124, 125, 127, 128, 129, 130, 131, 132, 133, 134]), ([0, 1, 2, 3, 6, 7, 8, 9, 10, 11, 12], [123, 124, 125, 126, 129, 130, 131, 132, 133, 134]), ([0, 1, 2, 3, 6, 7, 8, 9, 10, 11, 12], [123, 124, 125, 126, 129, 130, 131, 132, 133, 134]), ([0, 1, 2, 3, 4, 5, 9, 10], [123, 124, 125, 126, 127, 128, 132, 133]), ([0, 1, 2, 3, 4, 5, 9, 10], [123, 124, 125, 126, 127, 128, 132, 133]), ([0, 1, 2, 3, 4, 5, 9, 10], [123, 124, 125, 126, 127, 128, 132, 133]), ([0, 1, 2, 3, 4, 5, 6, 7, 8, 11, 12], [123, 124, 125, 126, 127, 128, 129, 130, 131, 134]), ([0, 1, 2, 3, 4, 5, 6, 7, 8, 11, 12], [123, 124, 125, 126, 127, 128, 129, 130, 131, 134]), ([3, 4, 5, 9, 10], [126, 127, 128, 132, 133]), ([3, 4, 5, 9, 10], [126, 127, 128, 132, 133]), ([], []), ([], [])] s H) := at_drawT (by kernel_rfl) r41_47.2 (by kernel_rfl) s H
attribute [simp] r41_47
noncomputable def r41_48 : {l : List Oper // opsOf (cAt [1, 1, 1, 0, 1, 0, 1, 1, 1, 1, 1] B41) = l} := by
  apply Subtype.mk
  dsimp only [opsOf, cAt, kids, B41, bodyOf, Tryd.f41, List.getD, List.getElem?_cons_zero, List.getElem?_cons_succ, Option.getD_some]
@[simp] theorem n41_48 (s : List V) (H : Heap) : evCode P Γ call n f m (cAt [1, 1, 1, 0, 1, 0, 1, 1, 1, 1, 1] B41) s H = regNext (evOpsGo P Γ call r41_48.1 r41_48.1 s H) := at_region (by kernel_rfl) r41_48.2 s H
attribute [simp] r41_48
@[simp] theorem n41_49 (s : List V) (H : Heap) : evCode P Γ call n f m (cAt [1, 1, 1, 0, 1, 1] B41) s H = some (.normal, s, H) := at_skip (by kernel_rfl) s H
@[simp] theorem n41_50 (s : List V) (H : Heap) : evCode P Γ call n f m (cAt [1, 1, 1, 1] B41) s H = seqNext P Γ call n f m (cAt [1, 1, 1, 1, 1] B41) (evCode P Γ call n f m (cAt [1, 1, 1, 1, 0] B41) s H) := at_seq (by kernel_rfl) rfl rfl s H
@[simp] theorem n41_51 (s : List V) (H : Heap) : evCode P Γ call n f m (cAt [1, 1, 1, 1, 0] B41) s H = seqNext P Γ call n f m (cAt [1, 1, 1, 1, 0, 1] B41) (evCode P Γ call n f m (cAt [1, 1, 1, 1, 0, 0] B41) s H) := at_seq (by kernel_rfl) rfl rfl s H
noncomputable def r41_52 : {l : List Oper // opsOf (cAt [1, 1, 1, 1, 0, 0] B41) = l} := by
  apply Subtype.mk
  dsimp only [opsOf, cAt, kids, B41, bodyOf, Tryd.f41, List.getD, List.getElem?_cons_zero, List.getElem?_cons_succ, Option.getD_some]
@[simp] theorem n41_52 (s : List V) (H : Heap) : evCode P Γ call n f m (cAt [1, 1, 1, 1, 0, 0] B41) s H = regNext (evOpsGo P Γ call r41_52.1 r41_52.1 s H) := at_region (by kernel_rfl) r41_52.2 s H
attribute [simp] r41_52
@[simp] theorem n41_53 (s : List V) (H : Heap) : evCode P Γ call n f m (cAt [1, 1, 1, 1, 0, 1] B41) s H = condW P Γ call n f m (cAt [1, 1, 1, 1, 0, 1, 0] B41) (cAt [1, 1, 1, 1, 0, 1, 1] B41) s H (evOperand Γ s (.tmp 139)) := at_cond (by kernel_rfl) (by kernel_rfl) rfl rfl s H
@[simp] theorem n41_54 (s : List V) (H : Heap) : evCode P Γ call n f m (cAt [1, 1, 1, 1, 0, 1, 0] B41) s H = seqNext P Γ call n f m (cAt [1, 1, 1, 1, 0, 1, 0, 1] B41) (evCode P Γ call n f m (cAt [1, 1, 1, 1, 0, 1, 0, 0] B41) s H) := at_seq (by kernel_rfl) rfl rfl s H
noncomputable def r41_55 : {l : List Oper // opsOf (cAt [1, 1, 1, 1, 0, 1, 0, 0] B41) = l} := by
  apply Subtype.mk
  dsimp only [opsOf, cAt, kids, B41, bodyOf, Tryd.f41, List.getD, List.getElem?_cons_zero, List.getElem?_cons_succ, Option.getD_some]
@[simp] theorem n41_55 (s : List V) (H : Heap) : evCode P Γ call n f m (cAt [1, 1, 1, 1, 0, 1, 0, 0] B41) s H = regNext (evOpsGo P Γ call r41_55.1 r41_55.1 s H) := at_region (by kernel_rfl) r41_55.2 s H
attribute [simp] r41_55
@[simp] theorem n41_56 (s : List V) (H : Heap) : evCode P Γ call n f m (cAt [1, 1, 1, 1, 0, 1, 0, 1] B41) s H = seqNext P Γ call n f m (cAt [1, 1, 1, 1, 0, 1, 0, 1, 1] B41) (evCode P Γ call n f m (cAt [1, 1, 1, 1, 0, 1, 0, 1, 0] B41) s H) := at_seq (by kernel_rfl) rfl rfl s H
noncomputable def r41_57 : {l : List Oper // opsOf (cAt [1, 1, 1, 1, 0, 1, 0, 1, 0] B41) = l} := by
  apply Subtype.mk
  dsimp only [opsOf, cAt, kids, B41, bodyOf, Tryd.f41, List.getD, List.getElem?_cons_zero, List.getElem?_cons_succ, Option.getD_some]
@[simp] theorem n41_57 (s : List V) (H : Heap) : evCode P Γ call n f m (cAt [1, 1, 1, 1, 0, 1, 0, 1, 0] B41) s H = regNext (evOpsGo P Γ call r41_57.1 r41_57.1 s H) := at_region (by kernel_rfl) r41_57.2 s H
attribute [simp] r41_57
@[simp] theorem n41_58 (s : List V) (H : Heap) : evCode P Γ call n f m (cAt [1, 1, 1, 1, 0, 1, 0, 1, 1] B41) s H = seqNext P Γ call n f m (cAt [1, 1, 1, 1, 0, 1, 0, 1, 1, 1] B41) (evCode P Γ call n f m (cAt [1, 1, 1, 1, 0, 1, 0, 1, 1, 0] B41) s H) := at_seq (by kernel_rfl) rfl rfl s H
noncomputable def r41_59 : {l : List Oper // opsOf (cAt [1, 1, 1, 1, 0, 1, 0, 1, 1, 0] B41) = l} := by
  apply Subtype.mk
  dsimp only [opsOf, cAt, kids, B41, bodyOf, Tryd.f41, List.getD, List.getElem?_cons_zero, List.getElem?_cons_succ, Option.getD_some]
@[simp] theorem n41_59 (s : List V) (H : Heap) : evCode P Γ call n f m (cAt [1, 1, 1, 1, 0, 1, 0, 1, 1, 0] B41) s H = regNext (drawR P Γ call r41_59.1 [([1, 2, 3, 4, 5, 6, 7, 8, 9, 10], [146, 147, 148, 149, 150, 151, 152, 153, 154, 155]), ([0, 3, 4, 5, 6, 7, 8, 9, 10], [145, 148, 149, 150, 151, 152, 153, 154, 155]), ([0, 3, 4, 5, 6, 7, 8, 9, 10], [145, 148, 149, 150, 151, 152, 153, 154, 155]), ([0, 1, 2, 4, 5, 6, 7, 8, 9, 10, 11, 12], [145, 146, 147, 149, 150, 151, 152, 153, 154, 155, 156]), ([0, 1, 2, 3, 6, 7, 8, 9, 10, 11, 12], [145, 146, 147, 148, 151, 152, 153, 154, 155, 156]), ([0, 1, 2, 3, 6, 7, 8, 9, 10, 11, 12], [145, 146, 147, 148, 151, 152, 153, 154, 155, 156]), ([0, 1, 2, 3, 4, 5, 9, 10], [145, 146, 147, 148, 149, 150, 154, 155]), ([0, 1, 2, 3, 4, 5, 9, 10], [145, 146, 147, 148, 149, 150, 154, 155]), ([0, 1, 2, 3, 4, 5, 9, 10], [145, 146, 147, 148, 149, 150, 154, 155]), ([0, 1, 2, 3, 4, 5, 6, 7, 8, 11, 12], [145, 146, 147, 148, 149, 150, 151, 152, 153, 156]), ([0, 1, 2, 3, 4, 5, 6, 7, 8, 11, 12], [145, 146, 147, 148, 149, 150, 151, 152, 153, 156]), ([3, 4, 5, 9, 10], [148, 149, 150, 154, 155]), ([3, 4, 5, 9, 10], [148, 149, 150, 154, 155]), ([], []), ([], [])] s H) := at_drawT (by kernel_rfl) r41_59.2 (by kernel_rfl) s H
attribute [simp] r41_59
noncomputable def r41_60 : {l : List Oper // opsOf (cAt [1, 1, 1, 1, 0, 1, 0, 1, 1, 1] B41) = l} := by
  apply Subtype.mk
  dsimp only [opsOf, cAt, kids, B41, bodyOf, Tryd.f41, List.getD, List.getElem?_cons_zero, List.getElem?_cons_succ, Option.getD_some]
@[simp] theorem n41_60 (s : List V) (H : Heap) : evCode P Γ call n f m (cAt [1, 1, 1, 1, 0, 1, 0, 1, 1, 1] B41) s H = regNext (evOpsGo P Γ call r41_60.1 r41_60.1 s H) := at_region (by kernel_rfl) r41_60.2 s H
attribute [simp] r41_60
@[simp] theorem n41_61 (s : List V) (H : Heap) : evCode P Γ call n f m (cAt [1, 1, 1, 1, 0, 1, 1] B41) s H = some (.normal, s, H) := at_skip (by kernel_rfl) s H
@[simp] theorem n41_62 (s : List V) (H : Heap) : evCode P Γ call n f m (cAt [1, 1, 1, 1, 1] B41) s H = seqNext P Γ call n f m (cAt [1, 1, 1, 1, 1, 1] B41) (evCode P Γ call n f m (cAt [1, 1, 1, 1, 1, 0] B41) s H) := at_seq (by kernel_rfl) rfl rfl s H
noncomputable def r41_63 : {l : List Oper // opsOf (cAt [1, 1, 1, 1, 1, 0] B41) = l} := by
  apply Subtype.mk
  dsimp only [opsOf, cAt, kids, B41, bodyOf, Tryd.f41, List.getD, List.getElem?_cons_zero, List.getElem?_cons_succ, Option.getD_some]
@[simp] theorem n41_63 (s : List V) (H : Heap) : evCode P Γ call n f m (cAt [1, 1, 1, 1, 1, 0] B41) s H = regNext (evOpsGo P Γ call r41_63.1 r41_63.1 s H) := at_region (by kernel_rfl) r41_63.2 s H
attribute [simp] r41_63
@[simp] theorem n41_64 (s : List V) (H : Heap) : evCode P Γ call n f m (cAt [1, 1, 1, 1, 1, 1] B41) s H = condW P Γ call n f m (cAt [1, 1, 1, 1, 1, 1, 0] B41) (cAt [1, 1, 1, 1, 1, 1, 1] B41) s H (evOperand Γ s (.tmp 161)) := at_cond (by kernel_rfl) (by kernel_rfl) rfl rfl s H
noncomputable def r41_65 : {l : List Oper // opsOf (cAt [1, 1, 1, 1, 1, 1, 0] B41) = l} := by
  apply Subtype.mk
  dsimp only [opsOf, cAt, kids, B41, bodyOf, Tryd.f41, List.getD, List.getElem?_cons_zero, List.getElem?_cons_succ, Option.getD_some]
@[simp] theorem n41_65 (s : List V) (H : Heap) : evCode P Γ call n f m (cAt [1, 1, 1, 1, 1, 1, 0] B41) s H = regNext (evOpsGo P Γ call r41_65.1 r41_65.1 s H) := at_region (by kernel_rfl) r41_65.2 s H
attribute [simp] r41_65
@[simp] theorem n41_66 (s : List V) (H : Heap) : evCode P Γ call n f m (cAt [1, 1, 1, 1, 1, 1, 1] B41) s H = some (.normal, s, H) := at_skip (by kernel_rfl) s H
theorem b41 {k : Nat} (ho : ∀ args H, Γ.orc 41 args H = none) (args : List V) (H : Heap) (ha : args.length ≤ 167) : evF Tryd.prog Γ (k + 1) 41 args H = bodyEnd Tryd.prog [] H.length (evCode Tryd.prog Γ (evF Tryd.prog Γ k) k 41 H.length (cAt [] B41) (mkL 167 V.undef (enumV 0 args)) H) := body_at Tryd.func41 (by decide) rfl ho rfl rfl args H ha
noncomputable def B42 : Code := bodyOf Tryd.f42
@[simp] theorem n42_1 (s : List V) (H : Heap) : evCode P Γ call n f m (cAt [] B42) s H = seqNext P Γ call n f m (cAt [1] B42) (evCode P Γ call n f m (cAt [0] B42) s H) := at_seq (by kernel_rfl) rfl rfl s H
noncomputable def r42_2 : {l : List Oper // opsOf (cAt [0] B42) = l} := by
  apply Subtype.mk
  dsimp only [opsOf, cAt, kids, B42, bodyOf, Tryd.f42, List.getD, List.getElem?_cons_zero, List.getElem?_cons_succ, Option.getD_some]
@[simp] theorem n42_2 (s : List V) (H : Heap) : evCode P Γ call n f m (cAt [0] B42) s H = regNext (evOpsGo P Γ call r42_2.1 r42_2.1 s H) := at_region (by kernel_rfl) r42_2.2 s H
attribute [simp] r42_2
@[simp] theorem n42_3 (s : List V) (H : Heap) : evCode P Γ call n f m (cAt [1] B42) s H = seqNext P Γ call n f m (cAt [1, 1] B42) (evCode P Γ call n f m (cAt [1, 0] B42) s H) := at_seq (by kernel_rfl) rfl rfl s H
@[simp] theorem n42_4 (s : List V) (H : Heap) : evCode P Γ call n f m (cAt [1, 0] B42) s H = seqNext P Γ call n f m (cAt [1, 0, 1] B42) (evCode P Γ call n f m (cAt [1, 0, 0] B42) s H) := at_seq (by kernel_rfl) rfl rfl s H
noncomputable def r42_5 : {l : List Oper // opsOf (cAt [1, 0, 0] B42) = l} := by
  apply Subtype.mk
  dsimp only [opsOf, cAt, kids, B42, bodyOf, Tryd.f42, List.getD, List.getElem?_cons_zero, List.getElem?_cons_succ, Option.getD_some]
@[simp] theorem n42_5 (s : List V) (H : Heap) : evCode P Γ call n f m (cAt [1, 0, 0] B42) s H = regNext (evOpsGo P Γ call r42_5.1 r42_5.1 s H) := at_region (by kernel_rfl) r42_5.2 s H
attribute [simp] r42_5
@[simp] theorem n42_6 (s : List V) (H : Heap) : evCode P Γ call n f m (cAt [1, 0, 1] B42) s H = condW P Γ call n f m (cAt [1, 0, 1, 0] B42) (cAt [1, 0, 1, 1] B42) s H (evOperand Γ s (.tmp 28)) := at_cond (by kernel_rfl) (by kernel_rfl) rfl rfl s H
noncomputable def r42_7 : {l : List Oper // opsOf (cAt [1, 0, 1, 0] B42) = l} := by
  apply Subtype.mk
  dsimp only [opsOf, cAt, kids, B42, bodyOf, Tryd.f42, List.getD, List.getElem?_cons_zero, List.getElem?_cons_succ, Option.getD_some]
@[simp] theorem n42_7 (s : List V) (H : Heap) : evCode P Γ call n f m (cAt [1, 0, 1, 0] B42) s H = regNext (evOpsGo P Γ call r42_7.1 r42_7.1 s H) := at_region (by kernel_rfl) r42_7.2 s H
attribute [simp] r42_7
@[simp] theorem n42_8 (s : List V) (H : Heap) : evCode P Γ call n f m (cAt [1, 0, 1, 1] B42) s H = some (.normal, s, H) := at_skip (by kernel_rfl) s H
@[simp] theorem n42_9 (s : List V) (H : Heap) : evCode P Γ call n f m (cAt [1, 1] B42) s H = seqNext P Γ call n f m (cAt [1, 1, 1] B42) (evCode P Γ call n f m (cAt [1, 1, 0] B42) s H) := at_seq (by kernel_rfl) rfl rfl s H
noncomputable def r42_10 : {l : List Oper // opsOf (cAt [1, 1, 0] B42) = l} := by
  apply Subtype.mk
  dsimp only [opsOf, cAt, kids, B42, bodyOf, Tryd.f42, List.getD, List.getElem?_cons_zero, List.getElem?_cons_succ, Option.getD_some]
@[simp] theorem n42_10 (s : List V) (H : Heap) : evCode P Γ call n f m (cAt [1, 1, 0] B42) s H = regNext (evOpsGo P Γ call r42_10.1 r42_10.1 s H) := at_region (by kernel_rfl) r42_10.2 s H
attribute [simp] r42_10
@[simp] theorem n42_11 (s : List V) (H : Heap) : evCode P Γ call n f m (cAt [1, 1, 1] B42) s H = seqNext P Γ call n f m (cAt [1, 1, 1, 1] B42) (evCode P Γ call n f m (cAt [1, 1, 1, 0] B42) s H) := at_seq (by kernel_rfl) rfl rfl s H
noncomputable def r42_12 : {l : List Oper // opsOf (cAt [1, 1, 1, 0] B42) = l} := by
  apply Subtype.mk
  dsimp only [opsOf, cAt, kids, B42, bodyOf, Tryd.f42, List.getD, List.getElem?_cons_zero, List.getElem?_cons_succ, Option.getD_some]
@[simp] theorem n42_12 (s : List V) (H : Heap) : evCode P Γ call n f m (cAt [1, 1, 1, 0] B42) s H = regNext (evOpsGo P Γ call r42_12.1 r42_12.1 s H) := at_region (by kernel_rfl) r42_12.2 s H
attribute [simp] r42_12
@[simp] theorem n42_13 (s : List V) (H : Heap) : evCode P Γ call n f m (cAt [1, 1, 1, 1] B42) s H = seqNext P Γ call n f m (cAt [1, 1, 1, 1, 1] B42) (evCode P Γ call n f m (cAt [1, 1, 1, 1, 0] B42) s H) := at_seq (by kernel_rfl) rfl rfl s H
@[simp] theorem n42_14 (s : List V) (H : Heap) : evCode P Γ call n f m (cAt [1, 1, 1, 1, 0] B42) s H = seqNext P Γ call n f m (cAt [1, 1, 1, 1, 0, 1] B42) (evCode P Γ call n f m (cAt [1, 1, 1, 1, 0, 0] B42) s H) := at_seq (by kernel_rfl) rfl rfl s H
noncomputable def r42_15 : {l : List Oper // opsOf (cAt [1, 1, 1, 1, 0, 0] B42) = l} := by
  apply Subtype.mk
  dsimp only [opsOf, cAt, kids, B42, bodyOf, Tryd.f42, List.getD, List.getElem?_cons_zero, List.getElem?_cons_succ, Option.getD_some]
@[simp] theorem n42_15 (s : List V) (H : Heap) : evCode P Γ call n f m (cAt [1, 1, 1, 1, 0, 0] B42) s H = regNext (evOpsGo P Γ call r42_15.1 r42_15.1 s H) := at_region (by kernel_rfl) r42_15.2 s H
attribute [simp] r42_15
@[simp] theorem n42_16 (s : List V) (H : Heap) : evCode P Γ call n f m (cAt [1, 1, 1, 1, 0, 1] B42) s H = condW P Γ call n f m (cAt [1, 1, 1, 1, 0, 1, 0] B42) (cAt [1, 1, 1, 1, 0, 1, 1] B42) s H (evOperand Γ s (.tmp 30)) := at_cond (by kernel_rfl) (by kernel_rfl) rfl rfl s H
noncomputable def r42_17 : {l : List Oper // opsOf (cAt [1, 1, 1, 1, 0, 1, 0] B42) = l} := by
  apply Subtype.mk
  dsimp only [opsOf, cAt, kids, B42, bodyOf, Tryd.f42, List.getD, List.getElem?_cons_zero, List.getElem?_cons_succ, Option.getD_some]
@[simp] theorem n42_17 (s : List V) (H : Heap) : evCode P Γ call n f m (cAt [1, 1, 1, 1, 0, 1, 0] B42) s H = regNext (evOpsGo P Γ call r42_17.1 r42_17.1 s H) := at_region (by kernel_rfl) r42_17.2 s H
attribute [simp] r42_17
@[simp] theorem n42_18 (s : List V) (H : Heap) : evCode P Γ call n f m (cAt [1, 1, 1, 1, 0, 1, 1] B42) s H = some (.normal, s, H) := at_skip (by kernel_rfl) s H
@[simp] theorem n42_19 (s : List V) (H : Heap) : evCode P Γ call n f m (cAt [1, 1, 1, 1, 1] B42) s H = seqNext P Γ call n f m (cAt [1, 1, 1, 1, 1, 1] B42) (evCode P Γ call n f m (cAt [1, 1, 1, 1, 1, 0] B42) s H) := at_seq (by kernel_rfl) rfl rfl s H
@[simp] theorem n42_20 (s : List V) (H : Heap) : evCode P Γ call n f m (cAt [1, 1, 1, 1, 1, 0] B42) s H = seqNext P Γ call n f m (cAt [1, 1, 1, 1, 1, 0, 1] B42) (evCode P Γ call n f m (cAt [1, 1, 1, 1, 1, 0, 0] B42) s H) := at_seq (by kernel_rfl) rfl rfl s H
noncomputable def r42_21 : {l : List Oper // opsOf (cAt [1, 1, 1, 1, 1, 0, 0] B42) = l} := by
  apply Subtype.mk
  dsimp only [opsOf, cAt, kids, B42, bodyOf, Tryd.f42, List.getD, List.getElem?_cons_zero, List.getElem?_cons_succ, Option.getD_some]
@[simp] theorem n42_21 (s : List V) (H : Heap) : evCode P Γ call n f m (cAt [1, 1, 1, 1, 1, 0, 0] B42) s H = regNext (evOpsGo P Γ call r42_21.1 r42_21.1 s H) := at_region (by kernel_rfl) r42_21.2 s H
attribute [simp] r42_21
@[simp] theorem n42_22 (s : List V) (H : Heap) : evCode P Γ call n f m (cAt [1, 1, 1, 1, 1, 0, 1] B42) s H = condW P Γ call n f m (cAt [1, 1, 1, 1, 1, 0, 1, 0] B42) (cAt [1, 1, 1, 1, 1, 0, 1, 1] B42) s H (evOperand Γ s (.tmp 34)) := at_cond (by kernel_rfl) (by kernel_rfl) rfl rfl s H
@[simp] theorem n42_23 (s : List V) (H : Heap) : evCode P Γ call n f m (cAt [1, 1, 1, 1, 1, 0, 1, 0] B42) s H = seqNext P Γ call n f m (cAt [1, 1, 1, 1, 1, 0, 1, 0, 1] B42) (evCode P Γ call n f m (cAt [1, 1, 1, 1, 1, 0, 1, 0, 0] B42) s H) := at_seq (by kernel_rfl) rfl rfl s H
noncomputable def r42_24 : {l : List Oper // opsOf (cAt [1, 1, 1, 1, 1, 0, 1, 0, 0] B42) = l} := by
  apply Subtype.mk
  dsimp only [opsOf, cAt, kids, B42, bodyOf, Tryd.f42, List.getD, List.getElem?_cons_zero, List.getElem?_cons_succ, Option.getD_some]
@[simp] theorem n42_24 (s : List V) (H : Heap) : evCode P Γ call n f m (cAt [1, 1, 1, 1, 1, 0, 1, 0, 0] B42) s H = regNext (evOpsGo P Γ call r42_24.1 r42_24.1 s H) := at_region (by kernel_rfl) r42_24.2 s H
attribute [simp] r42_24
@[simp] theorem n42_25 (s : List V) (H : Heap) : evCode P Γ call n f m (cAt [1, 1, 1, 1, 1, 0, 1, 0, 1] B42) s H = seqNext P Γ call n f m (cAt [1, 1, 1, 1, 1, 0, 1, 0, 1, 1] B42) (evCode P Γ call n f m (cAt [1, 1, 1, 1, 1, 0, 1, 0, 1, 0] B42) s H) := at_seq (by kernel_rfl) rfl rfl s H
noncomputable def r42_26 : {l : List Oper // opsOf (cAt [1, 1, 1, 1, 1, 0, 1, 0, 1, 0] B42) = l} := by
  apply Subtype.mk
  dsimp only [opsOf, cAt, kids, B42, bodyOf, Tryd.f42, List.getD, List.getElem?_cons_zero, List.getElem?_cons_succ, Option.getD_some]
@[simp] theorem n42_26 (s : List V) (H : Heap) : evCode P Γ call n f m (cAt [1, 1, 1, 1, 1, 0, 1, 0, 1, 0] B42) s H = regNext (evOpsGo P Γ call r42_26.1 r42_26.1 s H) := at_region (by kernel_rfl) r42_26.2 s H
attribute [simp] r42_26
@[simp] theorem n42_27 (s : List V) (H : Heap) : evCode P Γ call n f m (cAt [1, 1, 1, 1, 1, 0, 1, 0, 1, 1] B42) s H = seqNext P Γ call n f m (cAt [1, 1, 1, 1, 1, 0, 1, 0, 1, 1, 1] B42) (evCode P Γ call n f m (cAt [1, 1, 1, 1, 1, 0, 1, 0, 1, 1, 0] B42) s H) := at_seq (by kernel_rfl) rfl rfl s H
noncomputable def r42_28 : {l : List Oper // opsOf (cAt [1, 1, 1, 1, 1, 0, 1, 0, 1, 1, 0] B42) = l} := by
  apply Subtype.mk
  dsimp only [opsOf, cAt, kids, B42, bodyOf, Tryd.f42, List.getD, List.getElem?_cons_zero, List.getElem?_cons_succ, Option.getD_some]
@[simp] theorem n42_28 (s : List V) (H : Heap) : evCode P Γ call n f m (cAt [1, 1, 1, 1, 1, 0, 1, 0, 1, 1, 0] B42) s H = regNext (evOpsGo P Γ call r42_28.1 r42_28.1 s H) := at_region (by kernel_rfl) r42_28.2 s H
attribute [simp] r42_28
@[simp] theorem n42_29 (s : List V) (H : Heap) : evCode P Γ call n f m (cAt [1, 1, 1, 1, 1, 0, 1, 0, 1, 1, 1] B42) s H = seqNext P Γ call n f m (cAt [1, 1, 1, 1, 1, 0, 1, 0, 1, 1, 1, 1] B42) (evCode P Γ call n f m (cAt [1, 1, 1, 1, 1, 0, 1, 0, 1, 1, 1, 0] B42) s H) := at_seq (by kernel_rfl) rfl rfl s H
@[simp] theorem n42_30 (s : List V) (H : Heap) : evCode P Γ call n f m (cAt [1, 1, 1, 1, 1, 0, 1, 0, 1, 1, 1, 0] B42) s H = blockNext 0 (evCode P Γ call n f m (cAt [1, 1, 1, 1, 1, 0, 1, 0, 1, 1, 1, 0, 0] B42) s H) := at_block (by kernel_rfl) rfl s H
@[simp] theorem n42_31 (s : List V) (H : Heap) : evCode P Γ call n f m (cAt [1, 1, 1, 1, 1, 0, 1, 0, 1, 1, 1, 0, 0] B42) s H = evLoopC P Γ call n f m (cAt [1, 1, 1, 1, 1, 0, 1, 0, 1, 1, 1, 0, 0, 0] B42) n s H := at_loop (by kernel_rfl) rfl s H
noncomputable abbrev L42_11 : Code := cAt [1, 1, 1, 1, 1, 0, 1, 0, 1, 1, 1, 0, 0, 0] B42
@[simp] theorem n42_31f : firstRegion (cAt [1, 1, 1, 1, 1, 0, 1, 0, 1, 1, 1, 0, 0, 0] B42) = 11 := by kernel_rfl
@[simp] theorem n42_32 (s : List V) (H : Heap) : evCode P Γ call n f m (cAt [1, 1, 1, 1, 1, 0, 1, 0, 1, 1, 1, 0, 0, 0] B42) s H = seqNext P Γ call n f m (cAt [1, 1, 1, 1, 1, 0, 1, 0, 1, 1, 1, 0, 0, 0, 1] B42) (evCode P Γ call n f m (cAt [1, 1, 1, 1, 1, 0, 1, 0, 1, 1, 1, 0, 0, 0, 0] B42) s H) := at_seq (by kernel_rfl) rfl rfl s H
@[simp] theorem n42_33 (s : List V) (H : Heap) : evCode P Γ call n f m (cAt [1, 1, 1, 1, 1, 0, 1, 0, 1, 1, 1, 0, 0, 0, 0] B42) s H = seqNext P Γ call n f m (cAt [1, 1, 1, 1, 1, 0, 1, 0, 1, 1, 1, 0, 0, 0, 0, 1] B42) (evCode P Γ call n f m (cAt [1, 1, 1, 1, 1, 0, 1, 0, 1, 1, 1, 0, 0, 0, 0, 0] B42) s H) := at_seq (by kernel_rfl) rfl rfl s H
noncomputable def r42_34 : {l : List Oper // opsOf (cAt [1, 1, 1, 1, 1, 0, 1, 0, 1, 1, 1, 0, 0, 0, 0, 0] B42) = l} := by
  apply Subtype.mk
  dsimp only [opsOf, cAt, kids, B42, bodyOf, Tryd.f42, List.getD, List.getElem?_cons_zero, List.getElem?_cons_succ, Option.getD_some]
@[simp] theorem n42_34 (s : List V) (H : Heap) : evCode P Γ call n f m (cAt [1, 1, 1, 1, 1, 0, 1, 0, 1, 1, 1, 0, 0, 0, 0, 0] B42) s H = regNext (evOpsGo P Γ call r42_34.1 r42_34.1 s H) := at_region (by kernel_rfl) r42_34.2 s H
attribute [simp] r42_34
@[simp] theorem n42_35 (s : List V) (H : Heap) : evCode P Γ call n f m (cAt [1, 1, 1, 1, 1, 0, 1, 0, 1, 1, 1, 0, 0, 0, 0, 1] B42) s H = condW P Γ call n f m (cAt [1, 1, 1, 1, 1, 0, 1, 0, 1, 1, 1, 0, 0, 0, 0, 1, 0] B42) (cAt [1, 1, 1, 1, 1, 0, 1, 0, 1, 1, 1, 0, 0, 0, 0, 1, 1] B42) s H (evOperand Γ s (.tmp 46)) := at_cond (by kernel_rfl) (by kernel_rfl) rfl rfl s H
@[simp] theorem n42_36 (s : List V) (H : Heap) : evCode P Γ call n f m (cAt [1, 1, 1, 1, 1, 0, 1, 0, 1, 1, 1, 0, 0, 0, 0, 1, 0] B42) s H = some (.normal, s, H) := at_skip (by kernel_rfl) s H
@[simp] theorem n42_37 (s : List V) (H : Heap) : evCode P Γ call n f m (cAt [1, 1, 1, 1, 1, 0, 1, 0, 1, 1, 1, 0, 0, 0, 0, 1, 1] B42) s H = some (.exit 0, s, H) := at_exit (by kernel_rfl) s H
@[simp] theorem n42_38 (s : List V) (H : Heap) : evCode P Γ call n f m (cAt [1, 1, 1, 1, 1, 0, 1, 0, 1, 1, 1, 0, 0, 0, 1] B42) s H = blockNext 1 (evCode P Γ call n f m (cAt [1, 1, 1, 1, 1, 0, 1, 0, 1, 1, 1, 0, 0, 0, 1, 0] B42) s H) := at_block (by kernel_rfl) rfl s H
@[simp] theorem n42_39 (s : List V) (H : Heap) : evCode P Γ call n f m (cAt [1, 1, 1, 1, 1, 0, 1, 0, 1, 1, 1, 0, 0, 0, 1, 0] B42) s H = seqNext P Γ call n f m (cAt [1, 1, 1, 1, 1, 0, 1, 0, 1, 1, 1, 0, 0, 0, 1, 0, 1] B42) (evCode P Γ call n f m (cAt [1, 1, 1, 1, 1, 0, 1, 0, 1, 1, 1, 0, 0, 0, 1, 0, 0] B42) s H) := at_seq (by kernel_rfl) rfl rfl s H
noncomputable def r42_40 : {l : List Oper // opsOf (cAt [1, 1, 1, 1, 1, 0, 1, 0, 1, 1, 1, 0, 0, 0, 1, 0, 0] B42) = l} := by
  apply Subtype.mk
  dsimp only [opsOf, cAt, kids, B42, bodyOf, Tryd.f42, List.getD, List.getElem?_cons_zero, List.getElem?_cons_succ, Option.getD_some]
@[simp] theorem n42_40 (s : List V) (H : Heap) : evCode P Γ call n f m (cAt [1, 1, 1, 1, 1, 0, 1, 0, 1, 1, 1, 0, 0, 0, 1, 0, 0] B42) s H = regNext (evOpsGo P Γ call r42_40.1 r42_40.1 s H) := at_region (by kernel_rfl) r42_40.2 s H
attribute [simp] r42_40
@[simp] theorem n42_41 (s : List V) (H : Heap) : evCode P Γ call n f m (cAt [1, 1, 1, 1, 1, 0, 1, 0, 1, 1, 1, 0, 0, 0, 1, 0, 1] B42) s H = seqNext P Γ call n f m (cAt [1, 1, 1, 1, 1, 0, 1, 0, 1, 1, 1, 0, 0, 0, 1, 0, 1, 1] B42) (evCode P Γ call n f m (cAt [1, 1, 1, 1, 1, 0, 1, 0, 1, 1, 1, 0, 0, 0, 1, 0, 1, 0] B42) s H) := at_seq (by kernel_rfl) rfl rfl s H
noncomputable def r42_42 : {l : List Oper // opsOf (cAt [1, 1, 1, 1, 1, 0, 1, 0, 1, 1, 1, 0, 0, 0, 1, 0, 1, 0] B42) = l} := by
  apply Subtype.mk
  dsimp only [opsOf, cAt, kids, B42, bodyOf, Tryd.f42, List.getD, List.getElem?_cons_zero, List.getElem?_cons_succ, Option.getD_some]
@[simp] theorem n42_42 (s : List V) (H : Heap) : evCode P Γ call n f m (cAt [1, 1, 1, 1, 1, 0, 1, 0, 1, 1, 1, 0, 0, 0, 1, 0, 1, 0] B42) s H = regNext (evOpsGo P Γ call r42_42.1 r42_42.1 s H) := at_region (by kernel_rfl) r42_42.2 s H
attribute [simp] r42_42
noncomputable def r42_43 : {l : List Oper // opsOf (cAt [1, 1, 1, 1, 1, 0, 1, 0, 1, 1, 1, 0, 0, 0, 1, 0, 1, 1] B42) = l} := by
  apply Subtype.mk
  dsimp only [opsOf, cAt, kids, B42, bodyOf, Tryd.f42, List.getD, List.getElem?_cons_zero, List.getElem?_cons_succ, Option.getD_some]
@[simp] theorem n42_43 (s : List V) (H : Heap) : evCode P Γ call n f m (cAt [1, 1, 1, 1, 1, 0, 1, 0, 1, 1, 1, 0, 0, 0, 1, 0, 1, 1] B42) s H = regNext (evOpsGo P Γ call r42_43.1 r42_43.1 s H) := at_region (by kernel_rfl) r42_43.2 s H
attribute [simp] r42_43
@[simp] theorem n42_44 (s : List V) (H : Heap) : evCode P Γ call n f m (cAt [1, 1, 1, 1, 1, 0, 1, 0, 1, 1, 1, 1] B42) s H = seqNext P Γ call n f m (cAt [1, 1, 1, 1, 1, 0, 1, 0, 1, 1, 1, 1, 1] B42) (evCode P Γ call n f m (cAt [1, 1, 1, 1, 1, 0, 1, 0, 1, 1, 1, 1, 0] B42) s H) := at_seq (by kernel_rfl) rfl rfl s H
noncomputable def r42_45 : {l : List Oper // opsOf (cAt [1, 1, 1, 1, 1, 0, 1, 0, 1, 1, 1, 1, 0] B42) = l} := by
  apply Subtype.mk
  dsimp only [opsOf, cAt, kids, B42, bodyOf, Tryd.f42, List.getD, List.getElem?_cons_zero, List.getElem?_cons_succ, Option.getD_some]
@[simp] theorem n42_45 (s : List V) (H : Heap) : evCode P Γ call n f m (cAt [1, 1, 1, 1, 1, 0, 1, 0, 1, 1, 1, 1, 0] B42) s H = regNext (evOpsGo P Γ call r42_45.1 r42_45.1 s H) := at_region (by kernel_rfl) r42_45.2 s H
attribute [simp] r42_45
noncomputable def r42_46 : {l : List Oper // opsOf (cAt [1, 1, 1, 1, 1, 0, 1, 0, 1, 1, 1, 1, 1] B42) = l} := by
  apply Subtype.mk
  dsimp only [opsOf, cAt, kids, B42, bodyOf, Tryd.f42, List.getD, List.getElem?_cons_zero, List.getElem?_cons_succ, Option.getD_some]
@[simp] theorem n42_46 (s : List V) (H : Heap) : evCode P Γ call n f m (cAt [1, 1, 1, 1, 1, 0, 1, 0, 1, 1, 1, 1, 1] B42) s H = regNext (evOpsGo P Γ call r42_46.1 r42_46.1 s H) := at_region (by kernel_rfl) r42_46.2 s H
attribute [simp] r42_46
@[simp] theorem n42_47 (s : List V) (H : Heap) : evCode P Γ call n f m (cAt [1, 1, 1, 1, 1, 0, 1, 1] B42) s H = seqNext P Γ call n f m (cAt [1, 1, 1, 1, 1, 0, 1, 1, 1] B42) (evCode P Γ call n f m (cAt [1, 1, 1, 1, 1, 0, 1, 1, 0] B42) s H) := at_seq (by kernel_rfl) rfl rfl s H
noncomputable def r42_48 : {l : List Oper // opsOf (cAt [1, 1, 1, 1, 1, 0, 1, 1, 0] B42) = l} := by
  apply Subtype.mk
  dsimp only [opsOf, cAt, kids, B42, bodyOf, Tryd.f42, List.getD, List.getElem?_cons_zero, List.getElem?_cons_succ, Option.getD_some]
@[simp] theorem n42_48 (s : List V) (H : Heap) : evCode P Γ call n f m (cAt [1, 1, 1, 1, 1, 0, 1, 1, 0] B42) s H = regNext (evOpsGo P Γ call r42_48.1 r42_48.1 s H) := at_region (by kernel_rfl) r42_48.2 s H
attribute [simp] r42_48
@[simp] theorem n42_49 (s : List V) (H : Heap) : evCode P Γ call n f m (cAt [1, 1, 1, 1, 1, 0, 1, 1, 1] B42) s H = seqNext P Γ call n f m (cAt [1, 1, 1, 1, 1, 0, 1, 1, 1, 1] B42) (evCode P Γ call n f m (cAt [1, 1, 1, 1, 1, 0, 1, 1, 1, 0] B42) s H) := at_seq (by kernel_rfl) rfl rfl s H
@[simp] theorem n42_50 (s : List V) (H : Heap) : evCode P Γ call n f m (cAt [1, 1, 1, 1, 1, 0, 1, 1, 1, 0] B42) s H = blockNext 2 (evCode P Γ call n f m (cAt [1, 1, 1, 1, 1, 0, 1, 1, 1, 0, 0] B42) s H) := at_block (by kernel_rfl) rfl s H
@[simp] theorem n42_51 (s : List V) (H : Heap) : evCode P Γ call n f m (cAt [1, 1, 1, 1, 1, 0, 1, 1, 1, 0, 0] B42) s H = evLoopC P Γ call n f m (cAt [1, 1, 1, 1, 1, 0, 1, 1, 1, 0, 0, 0] B42) n s H := at_loop (by kernel_rfl) rfl s H
noncomputable abbrev L42_18 : Code := cAt [1, 1, 1, 1, 1, 0, 1, 1, 1, 0, 0, 0] B42
@[simp] theorem n42_51f : firstRegion (cAt [1, 1, 1, 1, 1, 0, 1, 1, 1, 0, 0, 0] B42) = 18 := by kernel_rfl
@[simp] theorem n42_52 (s : List V) (H : Heap) : evCode P Γ call n f m (cAt [1, 1, 1, 1, 1, 0, 1, 1, 1, 0, 0, 0] B42) s H = seqNext P Γ call n f m (cAt [1, 1, 1, 1, 1, 0, 1, 1, 1, 0, 0, 0, 1] B42) (evCode P Γ call n f m (cAt [1, 1, 1, 1, 1, 0, 1, 1, 1, 0, 0, 0, 0] B42) s H) := at_seq (by kernel_rfl) rfl rfl s H
@[simp] theorem n42_53 (s : List V) (H : Heap) : evCode P Γ call n f m (cAt [1, 1, 1, 1, 1, 0, 1, 1, 1, 0, 0, 0, 0] B42) s H = seqNext P Γ call n f m (cAt [1, 1, 1, 1, 1, 0, 1, 1, 1, 0, 0, 0, 0, 1] B42) (evCode P Γ call n f m (cAt [1, 1, 1, 1, 1, 0, 1, 1, 1, 0, 0, 0, 0, 0] B42) s H) := at_seq (by kernel_rfl) rfl rfl s H
noncomputable def r42_54 : {l : List Oper // opsOf (cAt [1, 1, 1, 1, 1, 0, 1, 1, 1, 0, 0, 0, 0, 0] B42) = l} := by
  apply Subtype.mk
  dsimp only [opsOf, cAt, kids, B42, bodyOf, Tryd.f42, List.getD, List.getElem?_cons_zero, List.getElem?_cons_succ, Option.getD_some]
@[simp] theorem n42_54 (s : List V) (H : Heap) : evCode P Γ call n f m (cAt [1, 1, 1, 1, 1, 0, 1, 1, 1, 0, 0, 0, 0, 0] B42) s H = regNext (evOpsGo P Γ call r42_54.1 r42_54.1 s H) := at_region (by kernel_rfl) r42_54.2 s H
attribute [simp] r42_54
@[simp] theorem n42_55 (s : List V) (H : Heap) : evCode P Γ call n f m (cAt [1, 1, 1, 1, 1, 0, 1, 1, 1, 0, 0, 0, 0, 1] B42) s H = condW P Γ call n f m (cAt [1, 1, 1, 1, 1, 0, 1, 1, 1, 0, 0, 0, 0, 1, 0] B42) (cAt [1, 1, 1, 1, 1, 0, 1, 1, 1, 0, 0, 0, 0, 1, 1] B42) s H (evOperand Γ s (.tmp 68)) := at_cond (by kernel_rfl) (by kernel_rfl) rfl rfl s H
@[simp] theorem n42_56 (s : List V) (H : Heap) : evCode P Γ call n f m (cAt [1, 1, 1, 1, 1, 0, 1, 1, 1, 0, 0, 0, 0, 1, 0] B42) s H = some (.normal, s, H) := at_skip (by kernel_rfl) s H
@[simp] theorem n42_57 (s : List V) (H : Heap) : evCode P Γ call n f m (cAt [1, 1, 1, 1, 1, 0, 1, 1, 1, 0, 0, 0, 0, 1, 1] B42) s H = some (.exit 2, s, H) := at_exit (by kernel_rfl) s H
@[simp] theorem n42_58 (s : List V) (H : Heap) : evCode P Γ call n f m (cAt [1, 1, 1, 1, 1, 0, 1, 1, 1, 0, 0, 0, 1] B42) s H = blockNext 3 (evCode P Γ call n f m (cAt [1, 1, 1, 1, 1, 0, 1, 1, 1, 0, 0, 0, 1, 0] B42) s H) := at_block (by kernel_rfl) rfl s H
@[simp] theorem n42_59 (s : List V) (H : Heap) : evCode P Γ call n f m (cAt [1, 1, 1, 1, 1, 0, 1, 1, 1, 0, 0, 0, 1, 0] B42) s H = seqNext P Γ call n f m (cAt [1, 1, 1, 1, 1, 0, 1, 1, 1, 0, 0, 0, 1, 0, 1] B42) (evCode P Γ call n f m (cAt [1, 1, 1, 1, 1, 0, 1, 1, 1, 0, 0, 0, 1, 0, 0] B42) s H) := at_seq (by kernel_rfl) rfl rfl s H
noncomputable def r42_60 : {l : List Oper // opsOf (cAt [1, 1, 1, 1, 1, 0, 1, 1, 1, 0, 0, 0, 1, 0, 0] B42) = l} := by
  apply Subtype.mk
  dsimp only [opsOf, cAt, kids, B42, bodyOf, Tryd.f42, List.getD, List.getElem?_cons_zero, List.getElem?_cons_succ, Option.getD_some]
@[simp] theorem n42_60 (s : List V) (H : Heap) : evCode P Γ call n f m (cAt [1, 1, 1, 1, 1, 0, 1, 1, 1, 0, 0, 0, 1, 0, 0] B42) s H = regNext (evOpsGo P Γ call r42_60.1 r42_60.1 s H) := at_region (by kernel_rfl) r42_60.2 s H
attribute [simp] r42_60
@[simp] theorem n42_61 (s : List V) (H : Heap) : evCode P Γ call n f m (cAt [1, 1, 1, 1, 1, 0, 1, 1, 1, 0, 0, 0, 1, 0, 1] B42) s H = seqNext P Γ call n f m (cAt [1, 1, 1, 1, 1, 0, 1, 1, 1, 0, 0, 0, 1, 0, 1, 1] B42) (evCode P Γ call n f m (cAt [1, 1, 1, 1, 1, 0, 1, 1, 1, 0, 0, 0, 1, 0, 1, 0] B42) s H) := at_seq (by kernel_rfl) rfl rfl s H
noncomputable def r42_62 : {l : List Oper // opsOf (cAt [1, 1, 1, 1, 1, 0, 1, 1, 1, 0, 0, 0, 1, 0, 1, 0] B42) = l} := by
  apply Subtype.mk
  dsimp only [opsOf, cAt, kids, B42, bodyOf, Tryd.f42, List.getD, List.getElem?_cons_zero, List.getElem?_cons_succ, Option.getD_some]
@[simp] theorem n42_62 (s : List V) (H : Heap) : evCode P Γ call n f m (cAt [1, 1, 1, 1, 1, 0, 1, 1, 1, 0, 0, 0, 1, 0, 1, 0] B42) s H = regNext (evOpsGo P Γ call r42_62.1 r42_62.1 s H) := at_region (by kernel_rfl) r42_62.2 s H
attribute [simp] r42_62
@[simp] theorem n42_63 (s : List V) (H : Heap) : evCode P Γ call n f m (cAt [1, 1, 1, 1, 1, 0, 1, 1, 1, 0, 0, 0, 1, 0, 1, 1] B42) s H = seqNext P Γ call n f m (cAt [1, 1, 1, 1, 1, 0, 1, 1, 1, 0, 0, 0, 1, 0, 1, 1, 1] B42) (evCode P Γ call n f m (cAt [1, 1, 1, 1, 1, 0, 1, 1, 1, 0, 0, 0, 1, 0, 1, 1, 0] B42) s H) := at_seq (by kernel_rfl) rfl rfl s H
noncomputable def r42_64 : {l : List Oper // opsOf (cAt [1, 1, 1, 1, 1, 0, 1, 1, 1, 0, 0, 0, 1, 0, 1, 1, 0] B42) = l} := by
  apply Subtype.mk
  dsimp only [opsOf, cAt, kids, B42, bodyOf, Tryd.f42, List.getD, List.getElem?_cons_zero, List.getElem?_cons_succ, Option.getD_some]
@[simp] theorem n42_64 (s : List V) (H : Heap) : evCode P Γ call n f m (cAt [1, 1, 1, 1, 1, 0, 1, 1, 1, 0, 0, 0, 1, 0, 1, 1, 0] B42) s H = regNext (evOpsGo P Γ call r42_64.1 r42_64.1 s H) := at_region (by kernel_rfl) r42_64.2 s H
attribute [simp] r42_64
noncomputable def r42_65 : {l : List Oper // opsOf (cAt [1, 1, 1, 1, 1, 0, 1, 1, 1, 0, 0, 0, 1, 0, 1, 1, 1] B42) = l} := by
  apply Subtype.mk
  dsimp only [opsOf, cAt, kids, B42, bodyOf, Tryd.f42, List.getD, List.getElem?_cons_zero, List.getElem?_cons_succ, Option.getD_some]
@[simp] theorem n42_65 (s : List V) (H : Heap) : evCode P Γ call n f m (cAt [1, 1, 1, 1, 1, 0, 1, 1, 1, 0, 0, 0, 1, 0, 1, 1, 1] B42) s H = regNext (evOpsGo P Γ call r42_65.1 r42_65.1 s H) := at_region (by kernel_rfl) r42_65.2 s H
attribute [simp] r42_65
@[simp] theorem n42_66 (s : List V) (H : Heap) : evCode P Γ call n f m (cAt [1, 1, 1, 1, 1, 0, 1, 1, 1, 1] B42) s H = seqNext P Γ call n f m (cAt [1, 1, 1, 1, 1, 0, 1, 1, 1, 1, 1] B42) (evCode P Γ call n f m (cAt [1, 1, 1, 1, 1, 0, 1, 1, 1, 1, 0] B42) s H) := at_seq (by kernel_rfl) rfl rfl s H
noncomputable def r42_67 : {l : List Oper // opsOf (cAt [1, 1, 1, 1, 1, 0, 1, 1, 1, 1, 0] B42) = l} := by
  apply Subtype.mk
  dsimp only [opsOf, cAt, kids, B42, bodyOf, Tryd.f42, List.getD, List.getElem?_cons_zero, List.getElem?_cons_succ, Option.getD_some]
@[simp] theorem n42_67 (s : List V) (H : Heap) : evCode P Γ call n f m (cAt [1, 1, 1, 1, 1, 0, 1, 1, 1, 1, 0] B42) s H = regNext (evOpsGo P Γ call r42_67.1 r42_67.1 s H) := at_region (by kernel_rfl) r42_67.2 s H
attribute [simp] r42_67
noncomputable def r42_68 : {l : List Oper // opsOf (cAt [1, 1, 1, 1, 1, 0, 1, 1, 1, 1, 1] B42) = l} := by
  apply Subtype.mk
  dsimp only [opsOf, cAt, kids, B42, bodyOf, Tryd.f42, List.getD, List.getElem?_cons_zero, List.getElem?_cons_succ, Option.getD_some]
@[simp] theorem n42_68 (s : List V) (H : Heap) : evCode P Γ call n f m (cAt [1, 1, 1, 1, 1, 0, 1, 1, 1, 1, 1] B42) s H = regNext (evOpsGo P Γ call r42_68.1 r42_68.1 s H) := at_region (by kernel_rfl) r42_68.2 s H
attribute [simp] r42_68
@[simp] theorem n42_69 (s : List V) (H : Heap) : evCode P Γ call n f m (cAt [1, 1, 1, 1, 1, 1] B42) s H = seqNext P Γ call n f m (cAt [1, 1, 1, 1, 1, 1, 1] B42) (evCode P Γ call n f m (cAt [1, 1, 1, 1, 1, 1, 0] B42) s H) := at_seq (by kernel_rfl) rfl rfl s H
@[simp] theorem n42_70 (s : List V) (H : Heap) : evCode P Γ call n f m (cAt [1, 1, 1, 1, 1, 1, 0] B42) s H = seqNext P Γ call n f m (cAt [1, 1, 1, 1, 1, 1, 0, 1] B42) (evCode P Γ call n f m (cAt [1, 1, 1, 1, 1, 1, 0, 0] B42) s H) := at_seq (by kernel_rfl) rfl rfl s H
noncomputable def r42_71 : {l : List Oper // opsOf (cAt [1, 1, 1, 1, 1, 1, 0, 0] B42) = l} := by
  apply Subtype.mk
  dsimp only [opsOf, cAt, kids, B42, bodyOf, Tryd.f42, List.getD, List.getElem?_cons_zero, List.getElem?_cons_succ, Option.getD_some]
@[simp] theorem n42_71 (s : List V) (H : Heap) : evCode P Γ call n f m (cAt [1, 1, 1, 1, 1, 1, 0, 0] B42) s H = regNext (evOpsGo P Γ call r42_71.1 r42_71.1 s H) := at_region (by kernel_rfl) r42_71.2 s H
attribute [simp] r42_71
@[simp] theorem n42_72 (s : List V) (H : Heap) : evCode P Γ call n f m (cAt [1, 1, 1, 1, 1, 1, 0, 1] B42) s H = condW P Γ call n f m (cAt [1, 1, 1, 1, 1, 1, 0, 1, 0] B42) (cAt [1, 1, 1, 1, 1, 1, 0, 1, 1] B42) s H (evOperand Γ s (.tmp 89)) := at_cond (by kernel_rfl) (by kernel_rfl) rfl rfl s H
@[simp] theorem n42_73 (s : List V) (H : Heap) : evCode P Γ call n f m (cAt [1, 1, 1, 1, 1, 1, 0, 1, 0] B42) s H = seqNext P Γ call n f m (cAt [1, 1, 1, 1, 1, 1, 0, 1, 0, 1] B42) (evCode P Γ call n f m (cAt [1, 1, 1, 1, 1, 1, 0, 1, 0, 0] B42) s H) := at_seq (by kernel_rfl) rfl rfl s H
noncomputable def r42_74 : {l : List Oper // opsOf (cAt [1, 1, 1, 1, 1, 1, 0, 1, 0, 0] B42) = l} := by
  apply Subtype.mk
  dsimp only [opsOf, cAt, kids, B42, bodyOf, Tryd.f42, List.getD, List.getElem?_cons_zero, List.getElem?_cons_succ, Option.getD_some]
@[simp] theorem n42_74 (s : List V) (H : Heap) : evCode P Γ call n f m (cAt [1, 1, 1, 1, 1, 1, 0, 1, 0, 0] B42) s H = regNext (evOpsGo P Γ call r42_74.1 r42_74.1 s H) := at_region (by kernel_rfl) r42_74.2 s H
attribute [simp] r42_74
noncomputable def r42_75 : {l : List Oper // opsOf (cAt [1, 1, 1, 1, 1, 1, 0, 1, 0, 1] B42) = l} := by
  apply Subtype.mk
  dsimp only [opsOf, cAt, kids, B42, bodyOf, Tryd.f42, List.getD, List.getElem?_cons_zero, List.getElem?_cons_succ, Option.getD_some]
@[simp] theorem n42_75 (s : List V) (H : Heap) : evCode P Γ call n f m (cAt [1, 1, 1, 1, 1, 1, 0, 1, 0, 1] B42) s H = regNext (evOpsGo P Γ call r42_75.1 r42_75.1 s H) := at_region (by kernel_rfl) r42_75.2 s H
attribute [simp] r42_75
@[simp] theorem n42_76 (s : List V) (H : Heap) : evCode P Γ call n f m (cAt [1, 1, 1, 1, 1, 1, 0, 1, 1] B42) s H = some (.normal, s, H) := at_skip (by kernel_rfl) s H
@[simp] theorem n42_77 (s : List V) (H : Heap) : evCode P Γ call n f m (cAt [1, 1, 1, 1, 1, 1, 1] B42) s H = seqNext P Γ call n f m (cAt [1, 1, 1, 1, 1, 1, 1, 1] B42) (evCode P Γ call n f m (cAt [1, 1, 1, 1, 1, 1, 1, 0] B42) s H) := at_seq (by kernel_rfl) rfl rfl s H
@[simp] theorem n42_78 (s : List V) (H : Heap) : evCode P Γ call n f m (cAt [1, 1, 1, 1, 1, 1, 1, 0] B42) s H = seqNext P Γ call n f m (cAt [1, 1, 1, 1, 1, 1, 1, 0, 1] B42) (evCode P Γ call n f m (cAt [1, 1, 1, 1, 1, 1, 1, 0, 0] B42) s H) := at_seq (by kernel_rfl) rfl rfl s H
noncomputable def r42_79 : {l : List Oper // opsOf (cAt [1, 1, 1, 1, 1, 1, 1, 0, 0] B42) = l} := by
  apply Subtype.mk
  dsimp only [opsOf, cAt, kids, B42, bodyOf, Tryd.f42, List.getD, List.getElem?_cons_zero, List.getElem?_cons_succ, Option.getD_some]
@[simp] theorem n42_79 (s : List V) (H : Heap) : evCode P Γ call n f m (cAt [1, 1, 1, 1, 1, 1, 1, 0, 0] B42) s H = regNext (evOpsGo P Γ call r42_79.1 r42_79.1 s H) := at_region (by kernel_rfl) r42_79.2 s H
attribute [simp] r42_79
@[simp] theorem n42_80 (s : List V) (H : Heap) : evCode P Γ call n f m (cAt [1, 1, 1, 1, 1, 1, 1, 0, 1] B42) s H = condW P Γ call n f m (cAt [1, 1, 1, 1, 1, 1, 1, 0, 1, 0] B42) (cAt [1, 1, 1, 1, 1, 1, 1, 0, 1, 1] B42) s H (evOperand Γ s (.tmp 94)) := at_cond (by kernel_rfl) (by kernel_rfl) rfl rfl s H
@[simp] theorem n42_81 (s : List V) (H : Heap) : evCode P Γ call n f m (cAt [1, 1, 1, 1, 1, 1, 1, 0, 1, 0] B42) s H = seqNext P Γ call n f m (cAt [1, 1, 1, 1, 1, 1, 1, 0, 1, 0, 1] B42) (evCode P Γ call n f m (cAt [1, 1, 1, 1, 1, 1, 1, 0, 1, 0, 0] B42) s H) := at_seq (by kernel_rfl) rfl rfl s H
noncomputable def r42_82 : {l : List Oper // opsOf (cAt [1, 1, 1, 1, 1, 1, 1, 0, 1, 0, 0] B42) = l} := by
  apply Subtype.mk
  dsimp only [opsOf, cAt, kids, B42, bodyOf, Tryd.f42, List.getD, List.getElem?_cons_zero, List.getElem?_cons_succ, Option.getD_some]
@[simp] theorem n42_82 (s : List V) (H : Heap) : evCode P Γ call n f m (cAt [1, 1, 1, 1, 1, 1, 1, 0, 1, 0, 0] B42) s H = regNext (evOpsGo P Γ call r42_82.1 r42_82.1 s H) := at_region (by kernel_rfl) r42_82.2 s H
attribute [simp] r42_82
@[simp] theorem n42_83 (s : List V) (H : Heap) : evCode P Γ call n f m (cAt [1, 1, 1, 1, 1, 1, 1, 0, 1, 0, 1] B42) s H = some (.ret, s, H) := at_ret (by kernel_rfl) s H
@[simp] theorem n42_84 (s : List V) (H : Heap) : evCode P Γ call n f m (cAt [1, 1, 1, 1, 1, 1, 1, 0, 1, 1] B42) s H = some (.normal, s, H) := at_skip (by kernel_rfl) s H
@[simp] theorem n42_85 (s : List V) (H : Heap) : evCode P Γ call n f m (cAt [1, 1, 1, 1, 1, 1, 1, 1] B42) s H = seqNext P Γ call n f m (cAt [1, 1, 1, 1, 1, 1, 1, 1, 1] B42) (evCode P Γ call n f m (cAt [1, 1, 1, 1, 1, 1, 1, 1, 0] B42) s H) := at_seq (by kernel_rfl) rfl rfl s H
noncomputable def r42_86 : {l : List Oper // opsOf (cAt [1, 1, 1, 1, 1, 1, 1, 1, 0] B42) = l} := by
  apply Subtype.mk
  dsimp only [opsOf, cAt, kids, B42, bodyOf, Tryd.f42, List.getD, List.getElem?_cons_zero, List.getElem?_cons_succ, Option.getD_some]
@[simp] theorem n42_86 (s : List V) (H : Heap) : evCode P Γ call n f m (cAt [1, 1, 1, 1, 1, 1, 1, 1, 0] B42) s H = regNext (evOpsGo P Γ call r42_86.1 r42_86.1 s H) := at_region (by kernel_rfl) r42_86.2 s H
attribute [simp] r42_86
@[simp] theorem n42_87 (s : List V) (H : Heap) : evCode P Γ call n f m (cAt [1, 1, 1, 1, 1, 1, 1, 1, 1] B42) s H = some (.ret, s, H) := at_ret (by kernel_rfl) s H
theorem b42 {k : Nat} (ho : ∀ args H, Γ.orc 42 args H = none) (args : List V) (H : Heap) (ha : args.length ≤ 102) : evF Tryd.prog Γ (k + 1) 42 args H = bodyEnd Tryd.prog [.tmp 10, .tmp 11] H.length (evCode Tryd.prog Γ (evF Tryd.prog Γ k) k 42 H.length (cAt [] B42) (mkL 102 V.undef (enumV 0 args)) H) := body_at Tryd.func42 (by decide) rfl ho rfl rfl args H ha
noncomputable def B43 : Code := bodyOf Tryd.f43
@[simp] theorem n43_1 (s : List V) (H : Heap) : evCode P Γ call n f m (cAt [] B43) s H = seqNext P Γ call n f m (cAt [1] B43) (evCode P Γ call n f m (cAt [0] B43) s H) := at_seq (by kernel_rfl) rfl rfl s H
noncomputable def r43_2 : {l : List Oper // opsOf (cAt [0] B43) = l} := by
  apply Subtype.mk
  dsimp only [opsOf, cAt, kids, B43, bodyOf, Tryd.f43, List.getD, List.getElem?_cons_zero, List.getElem?_cons_succ, Option.getD_some]
@[simp] theorem n43_2 (s : List V) (H : Heap) : evCode P Γ call n f m (cAt [0] B43) s H = regNext (evOpsGo P Γ call r43_2.1 r43_2.1 s H) := at_region (by kernel_rfl) r43_2.2 s H
attribute [simp] r43_2
@[simp] theorem n43_3 (s : List V) (H : Heap) : evCode P Γ call n f m (cAt [1] B43) s H = seqNext P Γ call n f m (cAt [1, 1] B43) (evCode P Γ call n f m (cAt [1, 0] B43) s H) := at_seq (by kernel_rfl) rfl rfl s H
@[simp] theorem n43_4 (s : List V) (H : Heap) : evCode P Γ call n f m (cAt [1, 0] B43) s H = seqNext P Γ call n f m (cAt [1, 0, 1] B43) (evCode P Γ call n f m (cAt [1, 0, 0] B43) s H) := at_seq (by kernel_rfl) rfl rfl s H
noncomputable def r43_5 : {l : List Oper // opsOf (cAt [1, 0, 0] B43) = l} := by
  apply Subtype.mk
  dsimp only [opsOf, cAt, kids, B43, bodyOf, Tryd.f43, List.getD, List.getElem?_cons_zero, List.getElem?_cons_succ, Option.getD_some]
@[simp] theorem n43_5 (s : List V) (H : Heap) : evCode P Γ call n f m (cAt [1, 0, 0] B43) s H = regNext (evOpsGo P Γ call r43_5.1 r43_5.1 s H) := at_region (by kernel_rfl) r43_5.2 s H
attribute [simp] r43_5
@[simp] theorem n43_6 (s : List V) (H : Heap) : evCode P Γ call n f m (cAt [1, 0, 1] B43) s H = condW P Γ call n f m (cAt [1, 0, 1, 0] B43) (cAt [1, 0, 1, 1] B43) s H (evOperand Γ s (.tmp 11)) := at_cond (by kernel_rfl) (by kernel_rfl) rfl rfl s H
@[simp] theorem n43_7 (s : List V) (H : Heap) : evCode P Γ call n f m (cAt [1, 0, 1, 0] B43) s H = seqNext P Γ call n f m (cAt [1, 0, 1, 0, 1] B43) (evCode P Γ call n f m (cAt [1, 0, 1, 0, 0] B43) s H) := at_seq (by kernel_rfl) rfl rfl s H
@[simp] theorem n43_8 (s : List V) (H : Heap) : evCode P Γ call n f m (cAt [1, 0, 1, 0, 0] B43) s H = seqNext P Γ call n f m (cAt [1, 0, 1, 0, 0, 1] B43) (evCode P Γ call n f m (cAt [1, 0, 1, 0, 0, 0] B43) s H) := at_seq (by kernel_rfl) rfl rfl s H
noncomputable def r43_9 : {l : List Oper // opsOf (cAt [1, 0, 1, 0, 0, 0] B43) = l} := by
  apply Subtype.mk
  dsimp only [opsOf, cAt, kids, B43, bodyOf, Tryd.f43, List.getD, List.getElem?_cons_zero, List.getElem?_cons_succ, Option.getD_some]
@[simp] theorem n43_9 (s : List V) (H : Heap) : evCode P Γ call n f m (cAt [1, 0, 1, 0, 0, 0] B43) s H = regNext (evOpsGo P Γ call r43_9.1 r43_9.1 s H) := at_region (by kernel_rfl) r43_9.2 s H
attribute [simp] r43_9
@[simp] theorem n43_10 (s : List V) (H : Heap) : evCode P Γ call n f m (cAt [1, 0, 1, 0, 0, 1] B43) s H = condW P Γ call n f m (cAt [1, 0, 1, 0, 0, 1, 0] B43) (cAt [1, 0, 1, 0, 0, 1, 1] B43) s H (evOperand Γ s (.tmp 17)) := at_cond (by kernel_rfl) (by kernel_rfl) rfl rfl s H
@[simp] theorem n43_11 (s : List V) (H : Heap) : evCode P Γ call n f m (cAt [1, 0, 1, 0, 0, 1, 0] B43) s H = seqNext P Γ call n f m (cAt [1, 0, 1, 0, 0, 1, 0, 1] B43) (evCode P Γ call n f m (cAt [1, 0, 1, 0, 0, 1, 0, 0] B43) s H) := at_seq (by kernel_rfl) rfl rfl s H
noncomputable def r43_12 : {l : List Oper // opsOf (cAt [1, 0, 1, 0, 0, 1, 0, 0] B43) = l} := by
  apply Subtype.mk
  dsimp only [opsOf, cAt, kids, B43, bodyOf, Tryd.f43, List.getD, List.getElem?_cons_zero, List.getElem?_cons_succ, Option.getD_some]
@[simp] theorem n43_12 (s : List V) (H : Heap) : evCode P Γ call n f m (cAt [1, 0, 1, 0, 0, 1, 0, 0] B43) s H = regNext (evOpsGo P Γ call r43_12.1 r43_12.1 s H) := at_region (by kernel_rfl) r43_12.2 s H
attribute [simp] r43_12
@[simp] theorem n43_13 (s : List V) (H : Heap) : evCode P Γ call n f m (cAt [1, 0, 1, 0, 0, 1, 0, 1] B43) s H = some (.ret, s, H) := at_ret (by kernel_rfl) s H
@[simp] theorem n43_14 (s : List V) (H : Heap) : evCode P Γ call n f m (cAt [1, 0, 1, 0, 0, 1, 1] B43) s H = some (.normal, s, H) := at_skip (by kernel_rfl) s H
@[simp] theorem n43_15 (s : List V) (H : Heap) : evCode P Γ call n f m (cAt [1, 0, 1, 0, 1] B43) s H = seqNext P Γ call n f m (cAt [1, 0, 1, 0, 1, 1] B43) (evCode P Γ call n f m (cAt [1, 0, 1, 0, 1, 0] B43) s H) := at_seq (by kernel_rfl) rfl rfl s H
noncomputable def r43_16 : {l : List Oper // opsOf (cAt [1, 0, 1, 0, 1, 0] B43) = l} := by
  apply Subtype.mk
  dsimp only [opsOf, cAt, kids, B43, bodyOf, Tryd.f43, List.getD, List.getElem?_cons_zero, List.getElem?_cons_succ, Option.getD_some]
@[simp] theorem n43_16 (s : List V) (H : Heap) : evCode P Γ call n f m (cAt [1, 0, 1, 0, 1, 0] B43) s H = regNext (evOpsGo P Γ call r43_16.1 r43_16.1 s H) := at_region (by kernel_rfl) r43_16.2 s H
attribute [simp] r43_16
@[simp] theorem n43_17 (s : List V) (H : Heap) : evCode P Γ call n f m (cAt [1, 0, 1, 0, 1, 1] B43) s H = seqNext P Γ call n f m (cAt [1, 0, 1, 0, 1, 1, 1] B43) (evCode P Γ call n f m (cAt [1, 0, 1, 0, 1, 1, 0] B43) s H) := at_seq (by kernel_rfl) rfl rfl s H
noncomputable def r43_18 : {l : List Oper // opsOf (cAt [1, 0, 1, 0, 1, 1, 0] B43) = l} := by
  apply Subtype.mk
  dsimp only [opsOf, cAt, kids, B43, bodyOf, Tryd.f43, List.getD, List.getElem?_cons_zero, List.getElem?_cons_succ, Option.getD_some]
@[simp] theorem n43_18 (s : List V) (H : Heap) : evCode P Γ call n f m (cAt [1, 0, 1, 0, 1, 1, 0] B43) s H = regNext (evOpsGo P Γ call r43_18.1 r43_18.1 s H) := at_region (by kernel_rfl) r43_18.2 s H
attribute [simp] r43_18
@[simp] theorem n43_19 (s : List V) (H : Heap) : evCode P Γ call n f m (cAt [1, 0, 1, 0, 1, 1, 1] B43) s H = seqNext P Γ call n f m (cAt [1, 0, 1, 0, 1, 1, 1, 1] B43) (evCode P Γ call n f m (cAt [1, 0, 1, 0, 1, 1, 1, 0] B43) s H) := at_seq (by kernel_rfl) rfl rfl s H
@[simp] theorem n43_20 (s : List V) (H : Heap) : evCode P Γ call n f m (cAt [1, 0, 1, 0, 1, 1, 1, 0] B43) s H = seqNext P Γ call n f m (cAt [1, 0, 1, 0, 1, 1, 1, 0, 1] B43) (evCode P Γ call n f m (cAt [1, 0, 1, 0, 1, 1, 1, 0, 0] B43) s H) := at_seq (by kernel_rfl) rfl rfl s H
noncomputable def r43_21 : {l : List Oper // opsOf (cAt [1, 0, 1, 0, 1, 1, 1, 0, 0] B43) = l} := by
  apply Subtype.mk
  dsimp only [opsOf, cAt, kids, B43, bodyOf, Tryd.f43, List.getD, List.getElem?_cons_zero, List.getElem?_cons_succ, Option.getD_some]
@[simp] theorem n43_21 (s : List V) (H : Heap) : evCode P Γ call n f m (cAt [1, 0, 1, 0, 1, 1, 1, 0, 0] B43) s H = regNext (evOpsGo P Γ call r43_21.1 r43_21.1 s H) := at_region (by kernel_rfl) r43_21.2 s H
attribute [simp] r43_21
@[simp] theorem n43_22 (s : List V) (H : Heap) : evCode P Γ call n f m (cAt [1, 0, 1, 0, 1, 1, 1, 0, 1] B43) s H = condW P Γ call n f m (cAt [1, 0, 1, 0, 1, 1, 1, 0, 1, 0] B43) (cAt [1, 0, 1, 0, 1, 1, 1, 0, 1, 1] B43) s H (evOperand Γ s (.tmp 23)) := at_cond (by kernel_rfl) (by kernel_rfl) rfl rfl s H
noncomputable def r43_23 : {l : List Oper // opsOf (cAt [1, 0, 1, 0, 1, 1, 1, 0, 1, 0] B43) = l} := by
  apply Subtype.mk
  dsimp only [opsOf, cAt, kids, B43, bodyOf, Tryd.f43, List.getD, List.getElem?_cons_zero, List.getElem?_cons_succ, Option.getD_some]
@[simp] theorem n43_23 (s : List V) (H : Heap) : evCode P Γ call n f m (cAt [1, 0, 1, 0, 1, 1, 1, 0, 1, 0] B43) s H = regNext (evOpsGo P Γ call r43_23.1 r43_23.1 s H) := at_region (by kernel_rfl) r43_23.2 s H
attribute [simp] r43_23
@[simp] theorem n43_24 (s : List V) (H : Heap) : evCode P Γ call n f m (cAt [1, 0, 1, 0, 1, 1, 1, 0, 1, 1] B43) s H = some (.normal, s, H) := at_skip (by kernel_rfl) s H
@[simp] theorem n43_25 (s : List V) (H : Heap) : evCode P Γ call n f m (cAt [1, 0, 1, 0, 1, 1, 1, 1] B43) s H = seqNext P Γ call n f m (cAt [1, 0, 1, 0, 1, 1, 1, 1, 1] B43) (evCode P Γ call n f m (cAt [1, 0, 1, 0, 1, 1, 1, 1, 0] B43) s H) := at_seq (by kernel_rfl) rfl rfl s H
noncomputable def r43_26 : {l : List Oper // opsOf (cAt [1, 0, 1, 0, 1, 1, 1, 1, 0] B43) = l} := by
  apply Subtype.mk
  dsimp only [opsOf, cAt, kids, B43, bodyOf, Tryd.f43, List.getD, List.getElem?_cons_zero, List.getElem?_cons_succ, Option.getD_some]
@[simp] theorem n43_26 (s : List V) (H : Heap) : evCode P Γ call n f m (cAt [1, 0, 1, 0, 1, 1, 1, 1, 0] B43) s H = regNext (evOpsGo P Γ call r43_26.1 r43_26.1 s H) := at_region (by kernel_rfl) r43_26.2 s H
attribute [simp] r43_26
@[simp] theorem n43_27 (s : List V) (H : Heap) : evCode P Γ call n f m (cAt [1, 0, 1, 0, 1, 1, 1, 1, 1] B43) s H = seqNext P Γ call n f m (cAt [1, 0, 1, 0, 1, 1, 1, 1, 1, 1] B43) (evCode P Γ call n f m (cAt [1, 0, 1, 0, 1, 1, 1, 1, 1, 0] B43) s H) := at_seq (by kernel_rfl) rfl rfl s H
noncomputable def r43_28 : {l : List Oper // opsOf (cAt [1, 0, 1, 0, 1, 1, 1, 1, 1, 0] B43) = l} := by
  apply Subtype.mk
  dsimp only [opsOf, cAt, kids, B43, bodyOf, Tryd.f43, List.getD, List.getElem?_cons_zero, List.getElem?_cons_succ, Option.getD_some]
@[simp] theorem n43_28 (s : List V) (H : Heap) : evCode P Γ call n f m (cAt [1, 0, 1, 0, 1, 1, 1, 1, 1, 0] B43) s H = regNext (evOpsGo P Γ call r43_28.1 r43_28.1 s H) := at_region (by kernel_rfl) r43_28.2 s H
attribute [simp] r43_28
@[simp] theorem n43_29 (s : List V) (H : Heap) : evCode P Γ call n f m (cAt [1, 0, 1, 0, 1, 1, 1, 1, 1, 1] B43) s H = seqNext P Γ call n f m (cAt [1, 0, 1, 0, 1, 1, 1, 1, 1, 1, 1] B43) (evCode P Γ call n f m (cAt [1, 0, 1, 0, 1, 1, 1, 1, 1, 1, 0] B43) s H) := at_seq (by kernel_rfl) rfl rfl s H
@[simp] theorem n43_30 (s : List V) (H : Heap) : evCode P Γ call n f m (cAt [1, 0, 1, 0, 1, 1, 1, 1, 1, 1, 0] B43) s H = seqNext P Γ call n f m (cAt [1, 0, 1, 0, 1, 1, 1, 1, 1, 1, 0, 1] B43) (evCode P Γ call n f m (cAt [1, 0, 1, 0, 1, 1, 1, 1, 1, 1, 0, 0] B43) s H) := at_seq (by kernel_rfl) rfl rfl s H
noncomputable def r43_31 : {l : List Oper // opsOf (cAt [1, 0, 1, 0, 1, 1, 1, 1, 1, 1, 0, 0] B43) = l} := by
  apply Subtype.mk
  dsimp only [opsOf, cAt, kids, B43, bodyOf, Tryd.f43, List.getD, List.getElem?_cons_zero, List.getElem?_cons_succ, Option.getD_some]
@[simp] theorem n43_31 (s : List V) (H : Heap) : evCode P Γ call n f m (cAt [1, 0, 1, 0, 1, 1, 1, 1, 1, 1, 0, 0] B43) s H = regNext (evOpsGo P Γ call r43_31.1 r43_31.1 s H) := at_region (by kernel_rfl) r43_31.2 s H
attribute [simp] r43_31
@[simp] theorem n43_32 (s : List V) (H : Heap) : evCode P Γ call n f m (cAt [1, 0, 1, 0, 1, 1, 1, 1, 1, 1, 0, 1] B43) s H = condW P Γ call n f m (cAt [1, 0, 1, 0, 1, 1, 1, 1, 1, 1, 0, 1, 0] B43) (cAt [1, 0, 1, 0, 1, 1, 1, 1, 1, 1, 0, 1, 1] B43) s H (evOperand Γ s (.tmp 34)) := at_cond (by kernel_rfl) (by kernel_rfl) rfl rfl s H
@[simp] theorem n43_33 (s : List V) (H : Heap) : evCode P Γ call n f m (cAt [1, 0, 1, 0, 1, 1, 1, 1, 1, 1, 0, 1, 0] B43) s H = seqNext P Γ call n f m (cAt [1, 0, 1, 0, 1, 1, 1, 1, 1, 1, 0, 1, 0, 1] B43) (evCode P Γ call n f m (cAt [1, 0, 1, 0, 1, 1, 1, 1, 1, 1, 0, 1, 0, 0] B43) s H) := at_seq (by kernel_rfl) rfl rfl s H
noncomputable def r43_34 : {l : List Oper // opsOf (cAt [1, 0, 1, 0, 1, 1, 1, 1, 1, 1, 0, 1, 0, 0] B43) = l} := by
  apply Subtype.mk
  dsimp only [opsOf, cAt, kids, B43, bodyOf, Tryd.f43, List.getD, List.getElem?_cons_zero, List.getElem?_cons_succ, Option.getD_some]
@[simp] theorem n43_34 (s : List V) (H : Heap) : evCode P Γ call n f m (cAt [1, 0, 1, 0, 1, 1, 1, 1, 1, 1, 0, 1, 0, 0] B43) s H = regNext (evOpsGo P Γ call r43_34.1 r43_34.1 s H) := at_region (by kernel_rfl) r43_34.2 s H
attribute [simp] r43_34
@[simp] theorem n43_35 (s : List V) (H : Heap) : evCode P Γ call n f m (cAt [1, 0, 1, 0, 1, 1, 1, 1, 1, 1, 0, 1, 0, 1] B43) s H = seqNext P Γ call n f m (cAt [1, 0, 1, 0, 1, 1, 1, 1, 1, 1, 0, 1, 0, 1, 1] B43) (evCode P Γ call n f m (cAt [1, 0, 1, 0, 1, 1, 1, 1, 1, 1, 0, 1, 0, 1, 0] B43) s H) := at_seq (by kernel_rfl) rfl rfl s H
noncomputable def r43_36 : {l : List Oper // opsOf (cAt [1, 0, 1, 0, 1, 1, 1, 1, 1, 1, 0, 1, 0, 1, 0] B43) = l} := by
  apply Subtype.mk
  dsimp only [opsOf, cAt, kids, B43, bodyOf, Tryd.f43, List.getD, List.getElem?_cons_zero, List.getElem?_cons_succ, Option.getD_some]
@[simp] theorem n43_36 (s : List V) (H : Heap) : evCode P Γ call n f m (cAt [1, 0, 1, 0, 1, 1, 1, 1, 1, 1, 0, 1, 0, 1, 0] B43) s H = regNext (evOpsGo P Γ call r43_36.1 r43_36.1 s H) := at_region (by kernel_rfl) r43_36.2 s H
attribute [simp] r43_36
@[simp] theorem n43_37 (s : List V) (H : Heap) : evCode P Γ call n f m (cAt [1, 0, 1, 0, 1, 1, 1, 1, 1, 1, 0, 1, 0, 1, 1] B43) s H = some (.ret, s, H) := at_ret (by kernel_rfl) s H
@[simp] theorem n43_38 (s : List V) (H : Heap) : evCode P Γ call n f m (cAt [1, 0, 1, 0, 1, 1, 1, 1, 1, 1, 0, 1, 1] B43) s H = some (.normal, s, H) := at_skip (by kernel_rfl) s H
@[simp] theorem n43_39 (s : List V) (H : Heap) : evCode P Γ call n f m (cAt [1, 0, 1, 0, 1, 1, 1, 1, 1, 1, 1] B43) s H = seqNext P Γ call n f m (cAt [1, 0, 1, 0, 1, 1, 1, 1, 1, 1, 1, 1] B43) (evCode P Γ call n f m (cAt [1, 0, 1, 0, 1, 1, 1, 1, 1, 1, 1, 0] B43) s H) := at_seq (by kernel_rfl) rfl rfl s H
noncomputable def r43_40 : {l : List Oper // opsOf (cAt [1, 0, 1, 0, 1, 1, 1, 1, 1, 1, 1, 0] B43) = l} := by
  apply Subtype.mk
  dsimp only [opsOf, cAt, kids, B43, bodyOf, Tryd.f43, List.getD, List.getElem?_cons_zero, List.getElem?_cons_succ, Option.getD_some]
@[simp] theorem n43_40 (s : List V) (H : Heap) : evCode P Γ call n f m (cAt [1, 0, 1, 0, 1, 1, 1, 1, 1, 1, 1, 0] B43) s H = regNext (evOpsGo P Γ call r43_40.1 r43_40.1 s H) := at_region (by kernel_rfl) r43_40.2 s H
attribute [simp] r43_40
@[simp] theorem n43_41 (s : List V) (H : Heap) : evCode P Γ call n f m (cAt [1, 0, 1, 0, 1, 1, 1, 1, 1, 1, 1, 1] B43) s H = some (.ret, s, H) := at_ret (by kernel_rfl) s H
@[simp] theorem n43_42 (s : List V) (H : Heap) : evCode P Γ call n f m (cAt [1, 0, 1, 1] B43) s H = some (.normal, s, H) := at_skip (by kernel_rfl) s H
@[simp] theorem n43_43 (s : List V) (H : Heap) : evCode P Γ call n f m (cAt [1, 1] B43) s H = seqNext P Γ call n f m (cAt [1, 1, 1] B43) (evCode P Γ call n f m (cAt [1, 1, 0] B43) s H) := at_seq (by kernel_rfl) rfl rfl s H
noncomputable def r43_44 : {l : List Oper // opsOf (cAt [1, 1, 0] B43) = l} := by
  apply Subtype.mk
  dsimp only [opsOf, cAt, kids, B43, bodyOf, Tryd.f43, List.getD, List.getElem?_cons_zero, List.getElem?_cons_succ, Option.getD_some]
@[simp] theorem n43_44 (s : List V) (H : Heap) : evCode P Γ call n f m (cAt [1, 1, 0] B43) s H = regNext (evOpsGo P Γ call r43_44.1 r43_44.1 s H) := at_region (by kernel_rfl) r43_44.2 s H
attribute [simp] r43_44
@[simp] theorem n43_45 (s : List V) (H : Heap) : evCode P Γ call n f m (cAt [1, 1, 1] B43) s H = seqNext P Γ call n f m (cAt [1, 1, 1, 1] B43) (evCode P Γ call n f m (cAt [1, 1, 1, 0] B43) s H) := at_seq (by kernel_rfl) rfl rfl s H
noncomputable def r43_46 : {l : List Oper // opsOf (cAt [1, 1, 1, 0] B43) = l} := by
  apply Subtype.mk
  dsimp only [opsOf, cAt, kids, B43, bodyOf, Tryd.f43, List.getD, List.getElem?_cons_zero, List.getElem?_cons_succ, Option.getD_some]
@[simp] theorem n43_46 (s : List V) (H : Heap) : evCode P Γ call n f m (cAt [1, 1, 1, 0] B43) s H = regNext (evOpsGo P Γ call r43_46.1 r43_46.1 s H) := at_region (by kernel_rfl) r43_46.2 s H
attribute [simp] r43_46
@[simp] theorem n43_47 (s : List V) (H : Heap) : evCode P Γ call n f m (cAt [1, 1, 1, 1] B43) s H = some (.ret, s, H) := at_ret (by kernel_rfl) s H
theorem b43 {k : Nat} (ho : ∀ args H, Γ.orc 43 args H = none) (args : List V) (H : Heap) (ha : args.length ≤ 54) : evF Tryd.prog Γ (k + 1) 43 args H = bodyEnd Tryd.prog [.tmp 4] H.length (evCode Tryd.prog Γ (evF Tryd.prog Γ k) k 43 H.length (cAt [] B43) (mkL 54 V.undef (enumV 0 args)) H) := body_at Tryd.func43 (by decide) rfl ho rfl rfl args H ha
noncomputable def B46 : Code := bodyOf Tryd.f46
@[simp] theorem n46_1 (s : List V) (H : Heap) : evCode P Γ call n f m (cAt [] B46) s H = seqNext P Γ call n f m (cAt [1] B46) (evCode P Γ call n f m (cAt [0] B46) s H) := at_seq (by kernel_rfl) rfl rfl s H
noncomputable def r46_2 : {l : List Oper // opsOf (cAt [0] B46) = l} := by
  apply Subtype.mk
  dsimp only [opsOf, cAt, kids, B46, bodyOf, Tryd.f46, List.getD, List.getElem?_cons_zero, List.getElem?_cons_succ, Option.getD_some]
@[simp] theorem n46_2 (s : List V) (H : Heap) : evCode P Γ call n f m (cAt [0] B46) s H = regNext (evOpsGo P Γ call r46_2.1 r46_2.1 s H) := at_region (by kernel_rfl) r46_2.2 s H
attribute [simp] r46_2
@[simp] theorem n46_3 (s : List V) (H : Heap) : evCode P Γ call n f m (cAt [1] B46) s H = seqNext P Γ call n f m (cAt [1, 1] B46) (evCode P Γ call n f m (cAt [1, 0] B46) s H) := at_seq (by kernel_rfl) rfl rfl s H
noncomputable def r46_4 : {l : List Oper // opsOf (cAt [1, 0] B46) = l} := by
  apply Subtype.mk
  dsimp only [opsOf, cAt, kids, B46, bodyOf, Tryd.f46, List.getD, List.getElem?_cons_zero, List.getElem?_cons_succ, Option.getD_some]
@[simp] theorem n46_4 (s : List V) (H : Heap) : evCode P Γ call n f m (cAt [1, 0] B46) s H = regNext (evOpsGo P Γ call r46_4.1 r46_4.1 s H) := at_region (by kernel_rfl) r46_4.2 s H
attribute [simp] r46_4
@[simp] theorem n46_5 (s : List V) (H : Heap) : evCode P Γ call n f m (cAt [1, 1] B46) s H = some (.ret, s, H) := at_ret (by kernel_rfl) s H
theorem b46 {k : Nat} (ho : ∀ args H, Γ.orc 46 args H = none) (args : List V) (H : Heap) (ha : args.length ≤ 6) : evF Tryd.prog Γ (k + 1) 46 args H = bodyEnd Tryd.prog [.tmp 2] H.length (evCode Tryd.prog Γ (evF Tryd.prog Γ k) k 46 H.length (cAt [] B46) (mkL 6 V.undef (enumV 0 args)) H) := body_at Tryd.func46 (by decide) rfl ho rfl rfl args H ha
noncomputable def B47 : Code := bodyOf Tryd.f47
@[simp] theorem n47_1 (s : List V) (H : Heap) : evCode P Γ call n f m (cAt [] B47) s H = seqNext P Γ call n f m (cAt [1] B47) (evCode P Γ call n f m (cAt [0] B47) s H) := at_seq (by kernel_rfl) rfl rfl s H
noncomputable def r47_2 : {l : List Oper // opsOf (cAt [0] B47) = l} := by
  apply Subtype.mk
  dsimp only [opsOf, cAt, kids, B47, bodyOf, Tryd.f47, List.getD, List.getElem?_cons_zero, List.getElem?_cons_succ, Option.getD_some]
@[simp] theorem n47_2 (s : List V) (H : Heap) : evCode P Γ call n f m (cAt [0] B47) s H = regNext (evOpsGo P Γ call r47_2.1 r47_2.1 s H) := at_region (by kernel_rfl) r47_2.2 s H
attribute [simp] r47_2
@[simp] theorem n47_3 (s : List V) (H : Heap) : evCode P Γ call n f m (cAt [1] B47) s H = seqNext P Γ call n f m (cAt [1, 1] B47) (evCode P Γ call n f m (cAt [1, 0] B47) s H) := at_seq (by kernel_rfl) rfl rfl s H
@[simp] theorem n47_4 (s : List V) (H : Heap) : evCode P Γ call n f m (cAt [1, 0] B47) s H = seqNext P Γ call n f m (cAt [1, 0, 1] B47) (evCode P Γ call n f m (cAt [1, 0, 0] B47) s H) := at_seq (by kernel_rfl) rfl rfl s H
noncomputable def r47_5 : {l : List Oper // opsOf (cAt [1, 0, 0] B47) = l} := by
  apply Subtype.mk
  dsimp only [opsOf, cAt, kids, B47, bodyOf, Tryd.f47, List.getD, List.getElem?_cons_zero, List.getElem?_cons_succ, Option.getD_some]
@[simp] theorem n47_5 (s : List V) (H : Heap) : evCode P Γ call n f m (cAt [1, 0, 0] B47) s H = regNext (evOpsGo P Γ call r47_5.1 r47_5.1 s H) := at_region (by kernel_rfl) r47_5.2 s H
attribute [simp] r47_5
@[simp] theorem n47_6 (s : List V) (H : Heap) : evCode P Γ call n f m (cAt [1, 0, 1] B47) s H = condW P Γ call n f m (cAt [1, 0, 1, 0] B47) (cAt [1, 0, 1, 1] B47) s H (evOperand Γ s (.tmp 4)) := at_cond (by kernel_rfl) (by kernel_rfl) rfl rfl s H
@[simp] theorem n47_7 (s : List V) (H : Heap) : evCode P Γ call n f m (cAt [1, 0, 1, 0] B47) s H = seqNext P Γ call n f m (cAt [1, 0, 1, 0, 1] B47) (evCode P Γ call n f m (cAt [1, 0, 1, 0, 0] B47) s H) := at_seq (by kernel_rfl) rfl rfl s H
noncomputable def r47_8 : {l : List Oper // opsOf (cAt [1, 0, 1, 0, 0] B47) = l} := by
  apply Subtype.mk
  dsimp only [opsOf, cAt, kids, B47, bodyOf, Tryd.f47, List.getD, List.getElem?_cons_zero, List.getElem?_cons_succ, Option.getD_some]
@[simp] theorem n47_8 (s : List V) (H : Heap) : evCode P Γ call n f m (cAt [1, 0, 1, 0, 0] B47) s H = regNext (evOpsGo P Γ call r47_8.1 r47_8.1 s H) := at_region (by kernel_rfl) r47_8.2 s H
attribute [simp] r47_8
noncomputable def r47_9 : {l : List Oper // opsOf (cAt [1, 0, 1, 0, 1] B47) = l} := by
  apply Subtype.mk
  dsimp only [opsOf, cAt, kids, B47, bodyOf, Tryd.f47, List.getD, List.getElem?_cons_zero, List.getElem?_cons_succ, Option.getD_some]
@[simp] theorem n47_9 (s : List V) (H : Heap) : evCode P Γ call n f m (cAt [1, 0, 1, 0, 1] B47) s H = regNext (evOpsGo P Γ call r47_9.1 r47_9.1 s H) := at_region (by kernel_rfl) r47_9.2 s H
attribute [simp] r47_9
@[simp] theorem n47_10 (s : List V) (H : Heap) : evCode P Γ call n f m (cAt [1, 0, 1, 1] B47) s H = some (.normal, s, H) := at_skip (by kernel_rfl) s H
@[simp] theorem n47_11 (s : List V) (H : Heap) : evCode P Γ call n f m (cAt [1, 1] B47) s H = seqNext P Γ call n f m (cAt [1, 1, 1] B47) (evCode P Γ call n f m (cAt [1, 1, 0] B47) s H) := at_seq (by kernel_rfl) rfl rfl s H
@[simp] theorem n47_12 (s : List V) (H : Heap) : evCode P Γ call n f m (cAt [1, 1, 0] B47) s H = seqNext P Γ call n f m (cAt [1, 1, 0, 1] B47) (evCode P Γ call n f m (cAt [1, 1, 0, 0] B47) s H) := at_seq (by kernel_rfl) rfl rfl s H
noncomputable def r47_13 : {l : List Oper // opsOf (cAt [1, 1, 0, 0] B47) = l} := by
  apply Subtype.mk
  dsimp only [opsOf, cAt, kids, B47, bodyOf, Tryd.f47, List.getD, List.getElem?_cons_zero, List.getElem?_cons_succ, Option.getD_some]
@[simp] theorem n47_13 (s : List V) (H : Heap) : evCode P Γ call n f m (cAt [1, 1, 0, 0] B47) s H = regNext (evOpsGo P Γ call r47_13.1 r47_13.1 s H) := at_region (by kernel_rfl) r47_13.2 s H
attribute [simp] r47_13
@[simp] theorem n47_14 (s : List V) (H : Heap) : evCode P Γ call n f m (cAt [1, 1, 0, 1] B47) s H = condW P Γ call n f m (cAt [1, 1, 0, 1, 0] B47) (cAt [1, 1, 0, 1, 1] B47) s H (evOperand Γ s (.tmp 8)) := at_cond (by kernel_rfl) (by kernel_rfl) rfl rfl s H
@[simp] theorem n47_15 (s : List V) (H : Heap) : evCode P Γ call n f m (cAt [1, 1, 0, 1, 0] B47) s H = seqNext P Γ call n f m (cAt [1, 1, 0, 1, 0, 1] B47) (evCode P Γ call n f m (cAt [1, 1, 0, 1, 0, 0] B47) s H) := at_seq (by kernel_rfl) rfl rfl s H
noncomputable def r47_16 : {l : List Oper // opsOf (cAt [1, 1, 0, 1, 0, 0] B47) = l} := by
  apply Subtype.mk
  dsimp only [opsOf, cAt, kids, B47, bodyOf, Tryd.f47, List.getD, List.getElem?_cons_zero, List.getElem?_cons_succ, Option.getD_some]
@[simp] theorem n47_16 (s : List V) (H : Heap) : evCode P Γ call n f m (cAt [1, 1, 0, 1, 0, 0] B47) s H = regNext (evOpsGo P Γ call r47_16.1 r47_16.1 s H) := at_region (by kernel_rfl) r47_16.2 s H
attribute [simp] r47_16
noncomputable def r47_17 : {l : List Oper // opsOf (cAt [1, 1, 0, 1, 0, 1] B47) = l} := by
  apply Subtype.mk
  dsimp only [opsOf, cAt, kids, B47, bodyOf, Tryd.f47, List.getD, List.getElem?_cons_zero, List.getElem?_cons_succ, Option.getD_some]
@[simp] theorem n47_17 (s : List V) (H : Heap) : evCode P Γ call n f m (cAt [1, 1, 0, 1, 0, 1] B47) s H = regNext (evOpsGo P Γ call r47_17.1 r47_17.1 s H) := at_region (by kernel_rfl) r47_17.2 s H
attribute [simp] r47_17
@[simp] theorem n47_18 (s : List V) (H : Heap) : evCode P Γ call n f m (cAt [1, 1, 0, 1, 1] B47) s H = some (.normal, s, H) := at_skip (by kernel_rfl) s H
@[simp] theorem n47_19 (s : List V) (H : Heap) : evCode P Γ call n f m (cAt [1, 1, 1] B47) s H = seqNext P Γ call n f m (cAt [1, 1, 1, 1] B47) (evCode P Γ call n f m (cAt [1, 1, 1, 0] B47) s H) := at_seq (by kernel_rfl) rfl rfl s H
@[simp] theorem n47_20 (s : List V) (H : Heap) : evCode P Γ call n f m (cAt [1, 1, 1, 0] B47) s H = seqNext P Γ call n f m (cAt [1, 1, 1, 0, 1] B47) (evCode P Γ call n f m (cAt [1, 1, 1, 0, 0] B47) s H) := at_seq (by kernel_rfl) rfl rfl s H
noncomputable def r47_21 : {l : List Oper // opsOf (cAt [1, 1, 1, 0, 0] B47) = l} := by
  apply Subtype.mk
  dsimp only [opsOf, cAt, kids, B47, bodyOf, Tryd.f47, List.getD, List.getElem?_cons_zero, List.getElem?_cons_succ, Option.getD_some]
@[simp] theorem n47_21 (s : List V) (H : Heap) : evCode P Γ call n f m (cAt [1, 1, 1, 0, 0] B47) s H = regNext (evOpsGo P Γ call r47_21.1 r47_21.1 s H) := at_region (by kernel_rfl) r47_21.2 s H
attribute [simp] r47_21
@[simp] theorem n47_22 (s : List V) (H : Heap) : evCode P Γ call n f m (cAt [1, 1, 1, 0, 1] B47) s H = condW P Γ call n f m (cAt [1, 1, 1, 0, 1, 0] B47) (cAt [1, 1, 1, 0, 1, 1] B47) s H (evOperand Γ s (.tmp 14)) := at_cond (by kernel_rfl) (by kernel_rfl) rfl rfl s H
@[simp] theorem n47_23 (s : List V) (H : Heap) : evCode P Γ call n f m (cAt [1, 1, 1, 0, 1, 0] B47) s H = seqNext P Γ call n f m (cAt [1, 1, 1, 0, 1, 0, 1] B47) (evCode P Γ call n f m (cAt [1, 1, 1, 0, 1, 0, 0] B47) s H) := at_seq (by kernel_rfl) rfl rfl s H
noncomputable def r47_24 : {l : List Oper // opsOf (cAt [1, 1, 1, 0, 1, 0, 0] B47) = l} := by
  apply Subtype.mk
  dsimp only [opsOf, cAt, kids, B47, bodyOf, Tryd.f47, List.getD, List.getElem?_cons_zero, List.getElem?_cons_succ, Option.getD_some]
@[simp] theorem n47_24 (s : List V) (H : Heap) : evCode P Γ call n f m (cAt [1, 1, 1, 0, 1, 0, 0] B47) s H = regNext (evOpsGo P Γ call r47_24.1 r47_24.1 s H) := at_region (by kernel_rfl) r47_24.2 s H
attribute [simp] r47_24
noncomputable def r47_25 : {l : List Oper // opsOf (cAt [1, 1, 1, 0, 1, 0, 1] B47) = l} := by
  apply Subtype.mk
  dsimp only [opsOf, cAt, kids, B47, bodyOf, Tryd.f47, List.getD, List.getElem?_cons_zero, List.getElem?_cons_succ, Option.getD_some]
@[simp] theorem n47_25 (s : List V) (H : Heap) : evCode P Γ call n f m (cAt [1, 1, 1, 0, 1, 0, 1] B47) s H = regNext (evOpsGo P Γ call r47_25.1 r47_25.1 s H) := at_region (by kernel_rfl) r47_25.2 s H
attribute [simp] r47_25
@[simp] theorem n47_26 (s : List V) (H : Heap) : evCode P Γ call n f m (cAt [1, 1, 1, 0, 1, 1] B47) s H = some (.normal, s, H) := at_skip (by kernel_rfl) s H
@[simp] theorem n47_27 (s : List V) (H : Heap) : evCode P Γ call n f m (cAt [1, 1, 1, 1] B47) s H = seqNext P Γ call n f m (cAt [1, 1, 1, 1, 1] B47) (evCode P Γ call n f m (cAt [1, 1, 1, 1, 0] B47) s H) := at_seq (by kernel_rfl) rfl rfl s H
noncomputable def r47_28 : {l : List Oper // opsOf (cAt [1, 1, 1, 1, 0] B47) = l} := by
  apply Subtype.mk
  dsimp only [opsOf, cAt, kids, B47, bodyOf, Tryd.f47, List.getD, List.getElem?_cons_zero, List.getElem?_cons_succ, Option.getD_some]
@[simp] theorem n47_28 (s : List V) (H : Heap) : evCode P Γ call n f m (cAt [1, 1, 1, 1, 0] B47) s H = regNext (evOpsGo P Γ call r47_28.1 r47_28.1 s H) := at_region (by kernel_rfl) r47_28.2 s H
attribute [simp] r47_28
@[simp] theorem n47_29 (s : List V) (H : Heap) : evCode P Γ call n f m (cAt [1, 1, 1, 1, 1] B47) s H = some (.ret, s, H) := at_ret (by kernel_rfl) s H
theorem b47 {k : Nat} (ho : ∀ args H, Γ.orc 47 args H = none) (args : List V) (H : Heap) (ha : args.length ≤ 25) : evF Tryd.prog Γ (k + 1) 47 args H = bodyEnd Tryd.prog [.tmp 2] H.length (evCode Tryd.prog Γ (evF Tryd.prog Γ k) k 47 H.length (cAt [] B47) (mkL 25 V.undef (enumV 0 args)) H) := body_at Tryd.func47 (by decide) rfl ho rfl rfl args H ha
noncomputable def B48 : Code := bodyOf Tryd.f48
@[simp] theorem n48_1 (s : List V) (H : Heap) : evCode P Γ call n f m (cAt [] B48) s H = seqNext P Γ call n f m (cAt [1] B48) (evCode P Γ call n f m (cAt [0] B48) s H) := at_seq (by kernel_rfl) rfl rfl s H
noncomputable def r48_2 : {l : List Oper // opsOf (cAt [0] B48) = l} := by
  apply Subtype.mk
  dsimp only [opsOf, cAt, kids, B48, bodyOf, Tryd.f48, List.getD, List.getElem?_cons_zero, List.getElem?_cons_succ, Option.getD_some]
@[simp] theorem n48_2 (s : List V) (H : Heap) : evCode P Γ call n f m (cAt [0] B48) s H = regNext (evOpsGo P Γ call r48_2.1 r48_2.1 s H) := at_region (by kernel_rfl) r48_2.2 s H
attribute [simp] r48_2
@[simp] theorem n48_3 (s : List V) (H : Heap) : evCode P Γ call n f m (cAt [1] B48) s H = seqNext P Γ call n f m (cAt [1, 1] B48) (evCode P Γ call n f m (cAt [1, 0] B48) s H) := at_seq (by kernel_rfl) rfl rfl s H
@[simp] theorem n48_4 (s : List V) (H : Heap) : evCode P Γ call n f m (cAt [1, 0] B48) s H = seqNext P Γ call n f m (cAt [1, 0, 1] B48) (evCode P Γ call n f m (cAt [1, 0, 0] B48) s H) := at_seq (by kernel_rfl) rfl rfl s H
noncomputable def r48_5 : {l : List Oper // opsOf (cAt [1, 0, 0] B48) = l} := by
  apply Subtype.mk
  dsimp only [opsOf, cAt, kids, B48, bodyOf, Tryd.f48, List.getD, List.getElem?_cons_zero, List.getElem?_cons_succ, Option.getD_some]
@[simp] theorem n48_5 (s : List V) (H : Heap) : evCode P Γ call n f m (cAt [1, 0, 0] B48) s H = regNext (evOpsGo P Γ call r48_5.1 r48_5.1 s H) := at_region (by kernel_rfl) r48_5.2 s H
attribute [simp] r48_5
@[simp] theorem n48_6 (s : List V) (H : Heap) : evCode P Γ call n f m (cAt [1, 0, 1] B48) s H = condW P Γ call n f m (cAt [1, 0, 1, 0] B48) (cAt [1, 0, 1, 1] B48) s H (evOperand Γ s (.tmp 3)) := at_cond (by kernel_rfl) (by kernel_rfl) rfl rfl s H
@[simp] theorem n48_7 (s : List V) (H : Heap) : evCode P Γ call n f m (cAt [1, 0, 1, 0] B48) s H = seqNext P Γ call n f m (cAt [1, 0, 1, 0, 1] B48) (evCode P Γ call n f m (cAt [1, 0, 1, 0, 0] B48) s H) := at_seq (by kernel_rfl) rfl rfl s H
noncomputable def r48_8 : {l : List Oper // opsOf (cAt [1, 0, 1, 0, 0] B48) = l} := by
  apply Subtype.mk
  dsimp only [opsOf, cAt, kids, B48, bodyOf, Tryd.f48, List.getD, List.getElem?_cons_zero, List.getElem?_cons_succ, Option.getD_some]
@[simp] theorem n48_8 (s : List V) (H : Heap) : evCode P Γ call n f m (cAt [1, 0, 1, 0, 0] B48) s H = regNext (evOpsGo P Γ call r48_8.1 r48_8.1 s H) := at_region (by kernel_rfl) r48_8.2 s H
attribute [simp] r48_8
@[simp] theorem n48_9 (s : List V) (H : Heap) : evCode P Γ call n f m (cAt [1, 0, 1, 0, 1] B48) s H = some (.ret, s, H) := at_ret (by kernel_rfl) s H
@[simp] theorem n48_10 (s : List V) (H : Heap) : evCode P Γ call n f m (cAt [1, 0, 1, 1] B48) s H = some (.normal, s, H) := at_skip (by kernel_rfl) s H
@[simp] theorem n48_11 (s : List V) (H : Heap) : evCode P Γ call n f m (cAt [1, 1] B48) s H = seqNext P Γ call n f m (cAt [1, 1, 1] B48) (evCode P Γ call n f m (cAt [1, 1, 0] B48) s H) := at_seq (by kernel_rfl) rfl rfl s H
noncomputable def r48_12 : {l : List Oper // opsOf (cAt [1, 1, 0] B48) = l} := by
  apply Subtype.mk
  dsimp only [opsOf, cAt, kids, B48, bodyOf, Tryd.f48, List.getD, List.getElem?_cons_zero, List.getElem?_cons_succ, Option.getD_some]
@[simp] theorem n48_12 (s : List V) (H : Heap) : evCode P Γ call n f m (cAt [1, 1, 0] B48) s H = regNext (evOpsGo P Γ call r48_12.1 r48_12.1 s H) := at_region (by kernel_rfl) r48_12.2 s H
attribute [simp] r48_12
@[simp] theorem n48_13 (s : List V) (H : Heap) : evCode P Γ call n f m (cAt [1, 1, 1] B48) s H = some (.ret, s, H) := at_ret (by kernel_rfl) s H
theorem b48 {k : Nat} (ho : ∀ args H, Γ.orc 48 args H = none) (args : List V) (H : Heap) (ha : args.length ≤ 4) : evF Tryd.prog Γ (k + 1) 48 args H = bodyEnd Tryd.prog [.tmp 2] H.length (evCode Tryd.prog Γ (evF Tryd.prog Γ k) k 48 H.length (cAt [] B48) (mkL 4 V.undef (enumV 0 args)) H) := body_at Tryd.func48 (by decide) rfl ho rfl rfl args H ha
noncomputable def B49 : Code := bodyOf Tryd.f49
@[simp] theorem n49_1 (s : List V) (H : Heap) : evCode P Γ call n f m (cAt [] B49) s H = seqNext P Γ call n f m (cAt [1] B49) (evCode P Γ call n f m (cAt [0] B49) s H) := at_seq (by kernel_rfl) rfl rfl s H
noncomputable def r49_2 : {l : List Oper // opsOf (cAt [0] B49) = l} := by
  apply Subtype.mk
  dsimp only [opsOf, cAt, kids, B49, bodyOf, Tryd.f49, List.getD, List.getElem?_cons_zero, List.getElem?_cons_succ, Option.getD_some]
@[simp] theorem n49_2 (s : List V) (H : Heap) : evCode P Γ call n f m (cAt [0] B49) s H = regNext (evOpsGo P Γ call r49_2.1 r49_2.1 s H) := at_region (by kernel_rfl) r49_2.2 s H
attribute [simp] r49_2
@[simp] theorem n49_3 (s : List V) (H : Heap) : evCode P Γ call n f m (cAt [1] B49) s H = seqNext P Γ call n f m (cAt [1, 1] B49) (evCode P Γ call n f m (cAt [1, 0] B49) s H) := at_seq (by kernel_rfl) rfl rfl s H
noncomputable def r49_4 : {l : List Oper // opsOf (cAt [1, 0] B49) = l} := by
  apply Subtype.mk
  dsimp only [opsOf, cAt, kids, B49, bodyOf, Tryd.f49, List.getD, List.getElem?_cons_zero, List.getElem?_cons_succ, Option.getD_some]
@[simp] theorem n49_4 (s : List V) (H : Heap) : evCode P Γ call n f m (cAt [1, 0] B49) s H = regNext (evOpsGo P Γ call r49_4.1 r49_4.1 s H) := at_region (by kernel_rfl) r49_4.2 s H
attribute [simp] r49_4
@[simp] theorem n49_5 (s : List V) (H : Heap) : evCode P Γ call n f m (cAt [1, 1] B49) s H = some (.ret, s, H) := at_ret (by kernel_rfl) s H
theorem b49 {k : Nat} (ho : ∀ args H, Γ.orc 49 args H = none) (args : List V) (H : Heap) (ha : args.length ≤ 8) : evF Tryd.prog Γ (k + 1) 49 args H = bodyEnd Tryd.prog [.tmp 2] H.length (evCode Tryd.prog Γ (evF Tryd.prog Γ k) k 49 H.length (cAt [] B49) (mkL 8 V.undef (enumV 0 args)) H) := body_at Tryd.func49 (by decide) rfl ho rfl rfl args H ha
noncomputable def B50 : Code := bodyOf Tryd.f50
@[simp] theorem n50_1 (s : List V) (H : Heap) : evCode P Γ call n f m (cAt [] B50) s H = seqNext P Γ call n f m (cAt [1] B50) (evCode P Γ call n f m (cAt [0] B50) s H) := at_seq (by kernel_rfl) rfl rfl s H
noncomputable def r50_2 : {l : List Oper // opsOf (cAt [0] B50) = l} := by
  apply Subtype.mk
  dsimp only [opsOf, cAt, kids, B50, bodyOf, Tryd.f50, List.getD, List.getElem?_cons_zero, List.getElem?_cons_succ, Option.getD_some]
@[simp] theorem n50_2 (s : List V) (H : Heap) : evCode P Γ call n f m (cAt [0] B50) s H = regNext (evOpsGo P Γ call r50_2.1 r50_2.1 s H) := at_region (by kernel_rfl) r50_2.2 s H
attribute [simp] r50_2
@[simp] theorem n50_3 (s : List V) (H : Heap) : evCode P Γ call n f m (cAt [1] B50) s H = seqNext P Γ call n f m (cAt [1, 1] B50) (evCode P Γ call n f m (cAt [1, 0] B50) s H) := at_seq (by kernel_rfl) rfl rfl s H
@[simp] theorem n50_4 (s : List V) (H : Heap) : evCode P Γ call n f m (cAt [1, 0] B50) s H = condW P Γ call n f m (cAt [1, 0, 0] B50) (cAt [1, 0, 1] B50) s H (evOperand Γ s (.const (.bool false))) := at_cond (by kernel_rfl) (by kernel_rfl) rfl rfl s H
@[simp] theorem n50_5 (s : List V) (H : Heap) : evCode P Γ call n f m (cAt [1, 0, 0] B50) s H = seqNext P Γ call n f m (cAt [1, 0, 0, 1] B50) (evCode P Γ call n f m (cAt [1, 0, 0, 0] B50) s H) := at_seq (by kernel_rfl) rfl rfl s H
noncomputable def r50_6 : {l : List Oper // opsOf (cAt [1, 0, 0, 0] B50) = l} := by
  apply Subtype.mk
  dsimp only [opsOf, cAt, kids, B50, bodyOf, Tryd.f50, List.getD, List.getElem?_cons_zero, List.getElem?_cons_succ, Option.getD_some]
@[simp] theorem n50_6 (s : List V) (H : Heap) : evCode P Γ call n f m (cAt [1, 0, 0, 0] B50) s H = regNext (evOpsGo P Γ call r50_6.1 r50_6.1 s H) := at_region (by kernel_rfl) r50_6.2 s H
attribute [simp] r50_6
@[simp] theorem n50_7 (s : List V) (H : Heap) : evCode P Γ call n f m (cAt [1, 0, 0, 1] B50) s H = some (.ret, s, H) := at_ret (by kernel_rfl) s H
@[simp] theorem n50_8 (s : List V) (H : Heap) : evCode P Γ call n f m (cAt [1, 0, 1] B50) s H = some (.normal, s, H) := at_skip (by kernel_rfl) s H
@[simp] theorem n50_9 (s : List V) (H : Heap) : evCode P Γ call n f m (cAt [1, 1] B50) s H = seqNext P Γ call n f m (cAt [1, 1, 1] B50) (evCode P Γ call n f m (cAt [1, 1, 0] B50) s H) := at_seq (by kernel_rfl) rfl rfl s H
noncomputable def r50_10 : {l : List Oper // opsOf (cAt [1, 1, 0] B50) = l} := by
  apply Subtype.mk
  dsimp only [opsOf, cAt, kids, B50, bodyOf, Tryd.f50, List.getD, List.getElem?_cons_zero, List.getElem?_cons_succ, Option.getD_some]
@[simp] theorem n50_10 (s : List V) (H : Heap) : evCode P Γ call n f m (cAt [1, 1, 0] B50) s H = regNext (evOpsGo P Γ call r50_10.1 r50_10.1 s H) := at_region (by kernel_rfl) r50_10.2 s H
attribute [simp] r50_10
@[simp] theorem n50_11 (s : List V) (H : Heap) : evCode P Γ call n f m (cAt [1, 1, 1] B50) s H = some (.ret, s, H) := at_ret (by kernel_rfl) s H
theorem b50 {k : Nat} (ho : ∀ args H, Γ.orc 50 args H = none) (args : List V) (H : Heap) (ha : args.length ≤ 8) : evF Tryd.prog Γ (k + 1) 50 args H = bodyEnd Tryd.prog [.tmp 2] H.length (evCode Tryd.prog Γ (evF Tryd.prog Γ k) k 50 H.length (cAt [] B50) (mkL 8 V.undef (enumV 0 args)) H) := body_at Tryd.func50 (by decide) rfl ho rfl rfl args H ha
noncomputable def B53 : Code := bodyOf Tryd.f53
@[simp] theorem n53_1 (s : List V) (H : Heap) : evCode P Γ call n f m (cAt [] B53) s H = seqNext P Γ call n f m (cAt [1] B53) (evCode P Γ call n f m (cAt [0] B53) s H) := at_seq (by kernel_rfl) rfl rfl s H
noncomputable def r53_2 : {l : List Oper // opsOf (cAt [0] B53) = l} := by
  apply Subtype.mk
  dsimp only [opsOf, cAt, kids, B53, bodyOf, Tryd.f53, List.getD, List.getElem?_cons_zero, List.getElem?_cons_succ, Option.getD_some]
@[simp] theorem n53_2 (s : List V) (H : Heap) : evCode P Γ call n f m (cAt [0] B53) s H = regNext (evOpsGo P Γ call r53_2.1 r53_2.1 s H) := at_region (by kernel_rfl) r53_2.2 s H
attribute [simp] r53_2
@[simp] theorem n53_3 (s : List V) (H : Heap) : evCode P Γ call n f m (cAt [1] B53) s H = seqNext P Γ call n f m (cAt [1, 1] B53) (evCode P Γ call n f m (cAt [1, 0] B53) s H) := at_seq (by kernel_rfl) rfl rfl s H
@[simp] theorem n53_4 (s : List V) (H : Heap) : evCode P Γ call n f m (cAt [1, 0] B53) s H = seqNext P Γ call n f m (cAt [1, 0, 1] B53) (evCode P Γ call n f m (cAt [1, 0, 0] B53) s H) := at_seq (by kernel_rfl) rfl rfl s H
noncomputable def r53_5 : {l : List Oper // opsOf (cAt [1, 0, 0] B53) = l} := by
  apply Subtype.mk
  dsimp only [opsOf, cAt, kids, B53, bodyOf, Tryd.f53, List.getD, List.getElem?_cons_zero, List.getElem?_cons_succ, Option.getD_some]
@[simp] theorem n53_5 (s : List V) (H : Heap) : evCode P Γ call n f m (cAt [1, 0, 0] B53) s H = regNext (evOpsGo P Γ call r53_5.1 r53_5.1 s H) := at_region (by kernel_rfl) r53_5.2 s H
attribute [simp] r53_5
@[simp] theorem n53_6 (s : List V) (H : Heap) : evCode P Γ call n f m (cAt [1, 0, 1] B53) s H = condW P Γ call n f m (cAt [1, 0, 1, 0] B53) (cAt [1, 0, 1, 1] B53) s H (evOperand Γ s (.tmp 4)) := at_cond (by kernel_rfl) (by kernel_rfl) rfl rfl s H
@[simp] theorem n53_7 (s : List V) (H : Heap) : evCode P Γ call n f m (cAt [1, 0, 1, 0] B53) s H = seqNext P Γ call n f m (cAt [1, 0, 1, 0, 1] B53) (evCode P Γ call n f m (cAt [1, 0, 1, 0, 0] B53) s H) := at_seq (by kernel_rfl) rfl rfl s H
noncomputable def r53_8 : {l : List Oper // opsOf (cAt [1, 0, 1, 0, 0] B53) = l} := by
  apply Subtype.mk
  dsimp only [opsOf, cAt, kids, B53, bodyOf, Tryd.f53, List.getD, List.getElem?_cons_zero, List.getElem?_cons_succ, Option.getD_some]
@[simp] theorem n53_8 (s : List V) (H : Heap) : evCode P Γ call n f m (cAt [1, 0, 1, 0, 0] B53) s H = regNext (evOpsGo P Γ call r53_8.1 r53_8.1 s H) := at_region (by kernel_rfl) r53_8.2 s H
attribute [simp] r53_8
@[simp] theorem n53_9 (s : List V) (H : Heap) : evCode P Γ call n f m (cAt [1, 0, 1, 0, 1] B53) s H = some (.ret, s, H) := at_ret (by kernel_rfl) s H
@[simp] theorem n53_10 (s : List V) (H : Heap) : evCode P Γ call n f m (cAt [1, 0, 1, 1] B53) s H = some (.normal, s, H) := at_skip (by kernel_rfl) s H
@[simp] theorem n53_11 (s : List V) (H : Heap) : evCode P Γ call n f m (cAt [1, 1] B53) s H = seqNext P Γ call n f m (cAt [1, 1, 1] B53) (evCode P Γ call n f m (cAt [1, 1, 0] B53) s H) := at_seq (by kernel_rfl) rfl rfl s H
noncomputable def r53_12 : {l : List Oper // opsOf (cAt [1, 1, 0] B53) = l} := by
  apply Subtype.mk
  dsimp only [opsOf, cAt, kids, B53, bodyOf, Tryd.f53, List.getD, List.getElem?_cons_zero, List.getElem?_cons_succ, Option.getD_some]
@[simp] theorem n53_12 (s : List V) (H : Heap) : evCode P Γ call n f m (cAt [1, 1, 0] B53) s H = regNext (evOpsGo P Γ call r53_12.1 r53_12.1 s H) := at_region (by kernel_rfl) r53_12.2 s H
attribute [simp] r53_12
@[simp] theorem n53_13 (s : List V) (H : Heap) : evCode P Γ call n f m (cAt [1, 1, 1] B53) s H = some (.ret, s, H) := at_ret (by kernel_rfl) s H
theorem b53 {k : Nat} (ho : ∀ args H, Γ.orc 53 args H = none) (args : List V) (H : Heap) (ha : args.length ≤ 14) : evF Tryd.prog Γ (k + 1) 53 args H = bodyEnd Tryd.prog [.tmp 2] H.length (evCode Tryd.prog Γ (evF Tryd.prog Γ k) k 53 H.length (cAt [] B53) (mkL 14 V.undef (enumV 0 args)) H) := body_at Tryd.func53 (by decide) rfl ho rfl rfl args H ha
noncomputable def B54 : Code := bodyOf Tryd.f54
@[simp] theorem n54_1 (s : List V) (H : Heap) : evCode P Γ call n f m (cAt [] B54) s H = seqNext P Γ call n f m (cAt [1] B54) (evCode P Γ call n f m (cAt [0] B54) s H) := at_seq (by kernel_rfl) rfl rfl s H
noncomputable def r54_2 : {l : List Oper // opsOf (cAt [0] B54) = l} := by
  apply Subtype.mk
  dsimp only [opsOf, cAt, kids, B54, bodyOf, Tryd.f54, List.getD, List.getElem?_cons_zero, List.getElem?_cons_succ, Option.getD_some]
@[simp] theorem n54_2 (s : List V) (H : Heap) : evCode P Γ call n f m (cAt [0] B54) s H = regNext (evOpsGo P Γ call r54_2.1 r54_2.1 s H) := at_region (by kernel_rfl) r54_2.2 s H
attribute [simp] r54_2
@[simp] theorem n54_3 (s : List V) (H : Heap) : evCode P Γ call n f m (cAt [1] B54) s H = seqNext P Γ call n f m (cAt [1, 1] B54) (evCode P Γ call n f m (cAt [1, 0] B54) s H) := at_seq (by kernel_rfl) rfl rfl s H
@[simp] theorem n54_4 (s : List V) (H : Heap) : evCode P Γ call n f m (cAt [1, 0] B54) s H = seqNext P Γ call n f m (cAt [1, 0, 1] B54) (evCode P Γ call n f m (cAt [1, 0, 0] B54) s H) := at_seq (by kernel_rfl) rfl rfl s H
noncomputable def r54_5 : {l : List Oper // opsOf (cAt [1, 0, 0] B54) = l} := by
  apply Subtype.mk
  dsimp only [opsOf, cAt, kids, B54, bodyOf, Tryd.f54, List.getD, List.getElem?_cons_zero, List.getElem?_cons_succ, Option.getD_some]
@[simp] theorem n54_5 (s : List V) (H : Heap) : evCode P Γ call n f m (cAt [1, 0, 0] B54) s H = regNext (evOpsGo P Γ call r54_5.1 r54_5.1 s H) := at_region (by kernel_rfl) r54_5.2 s H
attribute [simp] r54_5
@[simp] theorem n54_6 (s : List V) (H : Heap) : evCode P Γ call n f m (cAt [1, 0, 1] B54) s H = condW P Γ call n f m (cAt [1, 0, 1, 0] B54) (cAt [1, 0, 1, 1] B54) s H (evOperand Γ s (.tmp 4)) := at_cond (by kernel_rfl) (by kernel_rfl) rfl rfl s H
@[simp] theorem n54_7 (s : List V) (H : Heap) : evCode P Γ call n f m (cAt [1, 0, 1, 0] B54) s H = seqNext P Γ call n f m (cAt [1, 0, 1, 0, 1] B54) (evCode P Γ call n f m (cAt [1, 0, 1, 0, 0] B54) s H) := at_seq (by kernel_rfl) rfl rfl s H
noncomputable def r54_8 : {l : List Oper // opsOf (cAt [1, 0, 1, 0, 0] B54) = l} := by
  apply Subtype.mk
  dsimp only [opsOf, cAt, kids, B54, bodyOf, Tryd.f54, List.getD, List.getElem?_cons_zero, List.getElem?_cons_succ, Option.getD_some]
@[simp] theorem n54_8 (s : List V) (H : Heap) : evCode P Γ call n f m (cAt [1, 0, 1, 0, 0] B54) s H = regNext (evOpsGo P Γ call r54_8.1 r54_8.1 s H) := at_region (by kernel_rfl) r54_8.2 s H
attribute [simp] r54_8
@[simp] theorem n54_9 (s : List V) (H : Heap) : evCode P Γ call n f m (cAt [1, 0, 1, 0, 1] B54) s H = some (.ret, s, H) := at_ret (by kernel_rfl) s H
@[simp] theorem n54_10 (s : List V) (H : Heap) : evCode P Γ call n f m (cAt [1, 0, 1, 1] B54) s H = some (.normal, s, H) := at_skip (by kernel_rfl) s H
@[simp] theorem n54_11 (s : List V) (H : Heap) : evCode P Γ call n f m (cAt [1, 1] B54) s H = seqNext P Γ call n f m (cAt [1, 1, 1] B54) (evCode P Γ call n f m (cAt [1, 1, 0] B54) s H) := at_seq (by kernel_rfl) rfl rfl s H
noncomputable def r54_12 : {l : List Oper // opsOf (cAt [1, 1, 0] B54) = l} := by
  apply Subtype.mk
  dsimp only [opsOf, cAt, kids, B54, bodyOf, Tryd.f54, List.getD, List.getElem?_cons_zero, List.getElem?_cons_succ, Option.getD_some]
@[simp] theorem n54_12 (s : List V) (H : Heap) : evCode P Γ call n f m (cAt [1, 1, 0] B54) s H = regNext (evOpsGo P Γ call r54_12.1 r54_12.1 s H) := at_region (by kernel_rfl) r54_12.2 s H
attribute [simp] r54_12
@[simp] theorem n54_13 (s : List V) (H : Heap) : evCode P Γ call n f m (cAt [1, 1, 1] B54) s H = some (.ret, s, H) := at_ret (by kernel_rfl) s H
theorem b54 {k : Nat} (ho : ∀ args H, Γ.orc 54 args H = none) (args : List V) (H : Heap) (ha : args.length ≤ 14) : evF Tryd.prog Γ (k + 1) 54 args H = bodyEnd Tryd.prog [.tmp 2] H.length (evCode Tryd.prog Γ (evF Tryd.prog Γ k) k 54 H.length (cAt [] B54) (mkL 14 V.undef (enumV 0 args)) H) := body_at Tryd.func54 (by decide) rfl ho rfl rfl args H ha
end
end Go.Ev.Tryd
