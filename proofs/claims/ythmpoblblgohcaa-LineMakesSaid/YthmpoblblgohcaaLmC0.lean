/-
  CODE BY NAMES, printed by wip/tools/codes.py (own work).
-/
import Derived.Test.YthmpoblblgohcaaLineG
set_option maxRecDepth 100000
set_option linter.unusedVariables false
namespace Go.Ev.Try
open Go Go.Ev Go.Proofs
section
variable {P : Program} {Γ : Env} {call : CallF} {n f m : Nat}

noncomputable def B5 : Code := bodyOf Try.f5
@[simp] theorem n5_1 (s : List V) (H : Heap) : evCode P Γ call n f m (cAt [] B5) s H = seqNext P Γ call n f m (cAt [1] B5) (evCode P Γ call n f m (cAt [0] B5) s H) := at_seq (by kernel_rfl) rfl rfl s H
noncomputable def r5_2 : {l : List Oper // opsOf (cAt [0] B5) = l} := by
  apply Subtype.mk
  dsimp only [opsOf, cAt, kids, B5, bodyOf, Try.f5, List.getD, List.getElem?_cons_zero, List.getElem?_cons_succ, Option.getD_some]
@[simp] theorem n5_2 (s : List V) (H : Heap) : evCode P Γ call n f m (cAt [0] B5) s H = regNext (evOpsGo P Γ call r5_2.1 r5_2.1 s H) := at_region (by kernel_rfl) r5_2.2 s H
attribute [simp] r5_2
@[simp] theorem n5_3 (s : List V) (H : Heap) : evCode P Γ call n f m (cAt [1] B5) s H = seqNext P Γ call n f m (cAt [1, 1] B5) (evCode P Γ call n f m (cAt [1, 0] B5) s H) := at_seq (by kernel_rfl) rfl rfl s H
noncomputable def r5_4 : {l : List Oper // opsOf (cAt [1, 0] B5) = l} := by
  apply Subtype.mk
  dsimp only [opsOf, cAt, kids, B5, bodyOf, Try.f5, List.getD, List.getElem?_cons_zero, List.getElem?_cons_succ, Option.getD_some]
@[simp] theorem n5_4 (s : List V) (H : Heap) : evCode P Γ call n f m (cAt [1, 0] B5) s H = regNext (evOpsGo P Γ call r5_4.1 r5_4.1 s H) := at_region (by kernel_rfl) r5_4.2 s H
attribute [simp] r5_4
@[simp] theorem n5_5 (s : List V) (H : Heap) : evCode P Γ call n f m (cAt [1, 1] B5) s H = seqNext P Γ call n f m (cAt [1, 1, 1] B5) (evCode P Γ call n f m (cAt [1, 1, 0] B5) s H) := at_seq (by kernel_rfl) rfl rfl s H
noncomputable def r5_6 : {l : List Oper // opsOf (cAt [1, 1, 0] B5) = l} := by
  apply Subtype.mk
  dsimp only [opsOf, cAt, kids, B5, bodyOf, Try.f5, List.getD, List.getElem?_cons_zero, List.getElem?_cons_succ, Option.getD_some]
@[simp] theorem n5_6 (s : List V) (H : Heap) : evCode P Γ call n f m (cAt [1, 1, 0] B5) s H = regNext (evOpsGo P Γ call r5_6.1 r5_6.1 s H) := at_region (by kernel_rfl) r5_6.2 s H
attribute [simp] r5_6
@[simp] theorem n5_7 (s : List V) (H : Heap) : evCode P Γ call n f m (cAt [1, 1, 1] B5) s H = seqNext P Γ call n f m (cAt [1, 1, 1, 1] B5) (evCode P Γ call n f m (cAt [1, 1, 1, 0] B5) s H) := at_seq (by kernel_rfl) rfl rfl s H
@[simp] theorem n5_8 (s : List V) (H : Heap) : evCode P Γ call n f m (cAt [1, 1, 1, 0] B5) s H = seqNext P Γ call n f m (cAt [1, 1, 1, 0, 1] B5) (evCode P Γ call n f m (cAt [1, 1, 1, 0, 0] B5) s H) := at_seq (by kernel_rfl) rfl rfl s H
noncomputable def r5_9 : {l : List Oper // opsOf (cAt [1, 1, 1, 0, 0] B5) = l} := by
  apply Subtype.mk
  dsimp only [opsOf, cAt, kids, B5, bodyOf, Try.f5, List.getD, List.getElem?_cons_zero, List.getElem?_cons_succ, Option.getD_some]
@[simp] theorem n5_9 (s : List V) (H : Heap) : evCode P Γ call n f m (cAt [1, 1, 1, 0, 0] B5) s H = regNext (evOpsGo P Γ call r5_9.1 r5_9.1 s H) := at_region (by kernel_rfl) r5_9.2 s H
attribute [simp] r5_9
@[simp] theorem n5_10 (s : List V) (H : Heap) : evCode P Γ call n f m (cAt [1, 1, 1, 0, 1] B5) s H = condW P Γ call n f m (cAt [1, 1, 1, 0, 1, 0] B5) (cAt [1, 1, 1, 0, 1, 1] B5) s H (evOperand Γ s (.tmp 47)) := at_cond (by kernel_rfl) (by kernel_rfl) rfl rfl s H
@[simp] theorem n5_11 (s : List V) (H : Heap) : evCode P Γ call n f m (cAt [1, 1, 1, 0, 1, 0] B5) s H = seqNext P Γ call n f m (cAt [1, 1, 1, 0, 1, 0, 1] B5) (evCode P Γ call n f m (cAt [1, 1, 1, 0, 1, 0, 0] B5) s H) := at_seq (by kernel_rfl) rfl rfl s H
noncomputable def r5_12 : {l : List Oper // opsOf (cAt [1, 1, 1, 0, 1, 0, 0] B5) = l} := by
  apply Subtype.mk
  dsimp only [opsOf, cAt, kids, B5, bodyOf, Try.f5, List.getD, List.getElem?_cons_zero, List.getElem?_cons_succ, Option.getD_some]
@[simp] theorem n5_12 (s : List V) (H : Heap) : evCode P Γ call n f m (cAt [1, 1, 1, 0, 1, 0, 0] B5) s H = regNext (evOpsGo P Γ call r5_12.1 r5_12.1 s H) := at_region (by kernel_rfl) r5_12.2 s H
attribute [simp] r5_12
@[simp] theorem n5_13 (s : List V) (H : Heap) : evCode P Γ call n f m (cAt [1, 1, 1, 0, 1, 0, 1] B5) s H = some (.ret, s, H) := at_ret (by kernel_rfl) s H
@[simp] theorem n5_14 (s : List V) (H : Heap) : evCode P Γ call n f m (cAt [1, 1, 1, 0, 1, 1] B5) s H = some (.normal, s, H) := at_skip (by kernel_rfl) s H
@[simp] theorem n5_15 (s : List V) (H : Heap) : evCode P Γ call n f m (cAt [1, 1, 1, 1] B5) s H = seqNext P Γ call n f m (cAt [1, 1, 1, 1, 1] B5) (evCode P Γ call n f m (cAt [1, 1, 1, 1, 0] B5) s H) := at_seq (by kernel_rfl) rfl rfl s H
@[simp] theorem n5_16 (s : List V) (H : Heap) : evCode P Γ call n f m (cAt [1, 1, 1, 1, 0] B5) s H = seqNext P Γ call n f m (cAt [1, 1, 1, 1, 0, 1] B5) (evCode P Γ call n f m (cAt [1, 1, 1, 1, 0, 0] B5) s H) := at_seq (by kernel_rfl) rfl rfl s H
noncomputable def r5_17 : {l : List Oper // opsOf (cAt [1, 1, 1, 1, 0, 0] B5) = l} := by
  apply Subtype.mk
  dsimp only [opsOf, cAt, kids, B5, bodyOf, Try.f5, List.getD, List.getElem?_cons_zero, List.getElem?_cons_succ, Option.getD_some]
@[simp] theorem n5_17 (s : List V) (H : Heap) : evCode P Γ call n f m (cAt [1, 1, 1, 1, 0, 0] B5) s H = regNext (evOpsGo P Γ call r5_17.1 r5_17.1 s H) := at_region (by kernel_rfl) r5_17.2 s H
attribute [simp] r5_17
@[simp] theorem n5_18 (s : List V) (H : Heap) : evCode P Γ call n f m (cAt [1, 1, 1, 1, 0, 1] B5) s H = condW P Γ call n f m (cAt [1, 1, 1, 1, 0, 1, 0] B5) (cAt [1, 1, 1, 1, 0, 1, 1] B5) s H (evOperand Γ s (.tmp 55)) := at_cond (by kernel_rfl) (by kernel_rfl) rfl rfl s H
@[simp] theorem n5_19 (s : List V) (H : Heap) : evCode P Γ call n f m (cAt [1, 1, 1, 1, 0, 1, 0] B5) s H = seqNext P Γ call n f m (cAt [1, 1, 1, 1, 0, 1, 0, 1] B5) (evCode P Γ call n f m (cAt [1, 1, 1, 1, 0, 1, 0, 0] B5) s H) := at_seq (by kernel_rfl) rfl rfl s H
noncomputable def r5_20 : {l : List Oper // opsOf (cAt [1, 1, 1, 1, 0, 1, 0, 0] B5) = l} := by
  apply Subtype.mk
  dsimp only [opsOf, cAt, kids, B5, bodyOf, Try.f5, List.getD, List.getElem?_cons_zero, List.getElem?_cons_succ, Option.getD_some]
@[simp] theorem n5_20 (s : List V) (H : Heap) : evCode P Γ call n f m (cAt [1, 1, 1, 1, 0, 1, 0, 0] B5) s H = regNext (drawR P Γ call r5_20.1 [([3, 4, 5, 6, 7], [59, 60, 61, 9, 10]), ([3, 4, 5, 6, 7], [59, 60, 61, 9, 10]), ([3, 4, 5, 6, 7], [59, 60, 61, 9, 10]), ([0, 1, 2, 6, 7, 8], [56, 57, 58, 9, 10]), ([0, 1, 2, 6, 7, 8], [56, 57, 58, 9, 10]), ([0, 1, 2, 6, 7, 8], [56, 57, 58, 9, 10]), ([0, 1, 2, 3, 4, 5, 7], [56, 57, 58, 59, 60, 61, 10]), ([0, 1, 2, 3, 4, 5, 6], [56, 57, 58, 59, 60, 61, 9]), ([3, 4, 5], [59, 60, 61]), ([], [])] s H) := at_drawT (by kernel_rfl) r5_20.2 (by kernel_rfl) s H
attribute [simp] r5_20
@[simp] theorem n5_21 (s : List V) (H : Heap) : evCode P Γ call n f m (cAt [1, 1, 1, 1, 0, 1, 0, 1] B5) s H = seqNext P Γ call n f m (cAt [1, 1, 1, 1, 0, 1, 0, 1, 1] B5) (evCode P Γ call n f m (cAt [1, 1, 1, 1, 0, 1, 0, 1, 0] B5) s H) := at_seq (by kernel_rfl) rfl rfl s H
noncomputable def r5_22 : {l : List Oper // opsOf (cAt [1, 1, 1, 1, 0, 1, 0, 1, 0] B5) = l} := by
  apply Subtype.mk
  dsimp only [opsOf, cAt, kids, B5, bodyOf, Try.f5, List.getD, List.getElem?_cons_zero, List.getElem?_cons_succ, Option.getD_some]
@[simp] theorem n5_22 (s : List V) (H : Heap) : evCode P Γ call n f m (cAt [1, 1, 1, 1, 0, 1, 0, 1, 0] B5) s H = regNext (evOpsGo P Γ call r5_22.1 r5_22.1 s H) := at_region (by kernel_rfl) r5_22.2 s H
attribute [simp] r5_22
@[simp] theorem n5_23 (s : List V) (H : Heap) : evCode P Γ call n f m (cAt [1, 1, 1, 1, 0, 1, 0, 1, 1] B5) s H = seqNext P Γ call n f m (cAt [1, 1, 1, 1, 0, 1, 0, 1, 1, 1] B5) (evCode P Γ call n f m (cAt [1, 1, 1, 1, 0, 1, 0, 1, 1, 0] B5) s H) := at_seq (by kernel_rfl) rfl rfl s H
noncomputable def r5_24 : {l : List Oper // opsOf (cAt [1, 1, 1, 1, 0, 1, 0, 1, 1, 0] B5) = l} := by
  apply Subtype.mk
  dsimp only [opsOf, cAt, kids, B5, bodyOf, Try.f5, List.getD, List.getElem?_cons_zero, List.getElem?_cons_succ, Option.getD_some]
@[simp] theorem n5_24 (s : List V) (H : Heap) : evCode P Γ call n f m (cAt [1, 1, 1, 1, 0, 1, 0, 1, 1, 0] B5) s H = regNext (evOpsGo P Γ call r5_24.1 r5_24.1 s H) := at_region (by kernel_rfl) r5_24.2 s H
attribute [simp] r5_24
@[simp] theorem n5_25 (s : List V) (H : Heap) : evCode P Γ call n f m (cAt [1, 1, 1, 1, 0, 1, 0, 1, 1, 1] B5) s H = seqNext P Γ call n f m (cAt [1, 1, 1, 1, 0, 1, 0, 1, 1, 1, 1] B5) (evCode P Γ call n f m (cAt [1, 1, 1, 1, 0, 1, 0, 1, 1, 1, 0] B5) s H) := at_seq (by kernel_rfl) rfl rfl s H
noncomputable def r5_26 : {l : List Oper // opsOf (cAt [1, 1, 1, 1, 0, 1, 0, 1, 1, 1, 0] B5) = l} := by
  apply Subtype.mk
  dsimp only [opsOf, cAt, kids, B5, bodyOf, Try.f5, List.getD, List.getElem?_cons_zero, List.getElem?_cons_succ, Option.getD_some]
@[simp] theorem n5_26 (s : List V) (H : Heap) : evCode P Γ call n f m (cAt [1, 1, 1, 1, 0, 1, 0, 1, 1, 1, 0] B5) s H = regNext (drawR P Γ call r5_26.1 [([1, 2, 3, 4], [73, 74, 75, 76]), ([0, 2], [72, 74]), ([0, 1], [72, 73]), ([0], [72]), ([0], [72]), ([], []), ([], []), ([9, 10, 11], [81, 82, 83]), ([9, 10, 11], [81, 82, 83]), ([7, 8, 10], [79, 80, 82]), ([7, 8, 9], [79, 80, 81]), ([7, 8], [79, 80]), ([], []), ([], []), ([], []), ([], []), ([], []), ([], []), ([], []), ([], []), ([], []), ([], []), ([], []), ([], []), ([], []), ([], []), ([], []), ([29, 30, 31, 32, 33], [101, 102, 103, 104, 105]), ([29, 30, 31, 32, 33], [101, 102, 103, 104, 105]), ([27, 28, 32], [99, 100, 104]), ([27, 28, 32], [99, 100, 104]), ([27, 28, 32], [99, 100, 104]), ([27, 28, 29, 30, 31], [99, 100, 101, 102, 103]), ([27, 28], [99, 100]), ([], []), ([], []), ([], [])] s H) := at_drawT (by kernel_rfl) r5_26.2 (by kernel_rfl) s H
attribute [simp] r5_26
@[simp] theorem n5_27 (s : List V) (H : Heap) : evCode P Γ call n f m (cAt [1, 1, 1, 1, 0, 1, 0, 1, 1, 1, 1] B5) s H = condW P Γ call n f m (cAt [1, 1, 1, 1, 0, 1, 0, 1, 1, 1, 1, 0] B5) (cAt [1, 1, 1, 1, 0, 1, 0, 1, 1, 1, 1, 1] B5) s H (evOperand Γ s (.tmp 108)) := at_cond (by kernel_rfl) (by kernel_rfl) rfl rfl s H
@[simp] theorem n5_28 (s : List V) (H : Heap) : evCode P Γ call n f m (cAt [1, 1, 1, 1, 0, 1, 0, 1, 1, 1, 1, 0] B5) s H = seqNext P Γ call n f m (cAt [1, 1, 1, 1, 0, 1, 0, 1, 1, 1, 1, 0, 1] B5) (evCode P Γ call n f m (cAt [1, 1, 1, 1, 0, 1, 0, 1, 1, 1, 1, 0, 0] B5) s H) := at_seq (by kernel_rfl) rfl rfl s H
noncomputable def r5_29 : {l : List Oper // opsOf (cAt [1, 1, 1, 1, 0, 1, 0, 1, 1, 1, 1, 0, 0] B5) = l} := by
  apply Subtype.mk
  dsimp only [opsOf, cAt, kids, B5, bodyOf, Try.f5, List.getD, List.getElem?_cons_zero, List.getElem?_cons_succ, Option.getD_some]
@[simp] theorem n5_29 (s : List V) (H : Heap) : evCode P Γ call n f m (cAt [1, 1, 1, 1, 0, 1, 0, 1, 1, 1, 1, 0, 0] B5) s H = regNext (evOpsGo P Γ call r5_29.1 r5_29.1 s H) := at_region (by kernel_rfl) r5_29.2 s H
attribute [simp] r5_29
@[simp] theorem n5_30 (s : List V) (H : Heap) : evCode P Γ call n f m (cAt [1, 1, 1, 1, 0, 1, 0, 1, 1, 1, 1, 0, 1] B5) s H = some (.ret, s, H) := at_ret (by kernel_rfl) s H
@[simp] theorem n5_31 (s : List V) (H : Heap) : evCode P Γ call n f m (cAt [1, 1, 1, 1, 0, 1, 0, 1, 1, 1, 1, 1] B5) s H = some (.normal, s, H) := at_skip (by kernel_rfl) s H
@[simp] theorem n5_32 (s : List V) (H : Heap) : evCode P Γ call n f m (cAt [1, 1, 1, 1, 0, 1, 1] B5) s H = some (.normal, s, H) := at_skip (by kernel_rfl) s H
@[simp] theorem n5_33 (s : List V) (H : Heap) : evCode P Γ call n f m (cAt [1, 1, 1, 1, 1] B5) s H = seqNext P Γ call n f m (cAt [1, 1, 1, 1, 1, 1] B5) (evCode P Γ call n f m (cAt [1, 1, 1, 1, 1, 0] B5) s H) := at_seq (by kernel_rfl) rfl rfl s H
noncomputable def r5_34 : {l : List Oper // opsOf (cAt [1, 1, 1, 1, 1, 0] B5) = l} := by
  apply Subtype.mk
  dsimp only [opsOf, cAt, kids, B5, bodyOf, Try.f5, List.getD, List.getElem?_cons_zero, List.getElem?_cons_succ, Option.getD_some]
@[simp] theorem n5_34 (s : List V) (H : Heap) : evCode P Γ call n f m (cAt [1, 1, 1, 1, 1, 0] B5) s H = regNext (evOpsGo P Γ call r5_34.1 r5_34.1 s H) := at_region (by kernel_rfl) r5_34.2 s H
attribute [simp] r5_34
@[simp] theorem n5_35 (s : List V) (H : Heap) : evCode P Γ call n f m (cAt [1, 1, 1, 1, 1, 1] B5) s H = seqNext P Γ call n f m (cAt [1, 1, 1, 1, 1, 1, 1] B5) (evCode P Γ call n f m (cAt [1, 1, 1, 1, 1, 1, 0] B5) s H) := at_seq (by kernel_rfl) rfl rfl s H
noncomputable def r5_36 : {l : List Oper // opsOf (cAt [1, 1, 1, 1, 1, 1, 0] B5) = l} := by
  apply Subtype.mk
  dsimp only [opsOf, cAt, kids, B5, bodyOf, Try.f5, List.getD, List.getElem?_cons_zero, List.getElem?_cons_succ, Option.getD_some]
@[simp] theorem n5_36 (s : List V) (H : Heap) : evCode P Γ call n f m (cAt [1, 1, 1, 1, 1, 1, 0] B5) s H = regNext (evOpsGo P Γ call r5_36.1 r5_36.1 s H) := at_region (by kernel_rfl) r5_36.2 s H
attribute [simp] r5_36
@[simp] theorem n5_37 (s : List V) (H : Heap) : evCode P Γ call n f m (cAt [1, 1, 1, 1, 1, 1, 1] B5) s H = seqNext P Γ call n f m (cAt [1, 1, 1, 1, 1, 1, 1, 1] B5) (evCode P Γ call n f m (cAt [1, 1, 1, 1, 1, 1, 1, 0] B5) s H) := at_seq (by kernel_rfl) rfl rfl s H
@[simp] theorem n5_38 (s : List V) (H : Heap) : evCode P Γ call n f m (cAt [1, 1, 1, 1, 1, 1, 1, 0] B5) s H = seqNext P Γ call n f m (cAt [1, 1, 1, 1, 1, 1, 1, 0, 1] B5) (evCode P Γ call n f m (cAt [1, 1, 1, 1, 1, 1, 1, 0, 0] B5) s H) := at_seq (by kernel_rfl) rfl rfl s H
noncomputable def r5_39 : {l : List Oper // opsOf (cAt [1, 1, 1, 1, 1, 1, 1, 0, 0] B5) = l} := by
  apply Subtype.mk
  dsimp only [opsOf, cAt, kids, B5, bodyOf, Try.f5, List.getD, List.getElem?_cons_zero, List.getElem?_cons_succ, Option.getD_some]
@[simp] theorem n5_39 (s : List V) (H : Heap) : evCode P Γ call n f m (cAt [1, 1, 1, 1, 1, 1, 1, 0, 0] B5) s H = regNext (evOpsGo P Γ call r5_39.1 r5_39.1 s H) := at_region (by kernel_rfl) r5_39.2 s H
attribute [simp] r5_39
@[simp] theorem n5_40 (s : List V) (H : Heap) : evCode P Γ call n f m (cAt [1, 1, 1, 1, 1, 1, 1, 0, 1] B5) s H = condW P Γ call n f m (cAt [1, 1, 1, 1, 1, 1, 1, 0, 1, 0] B5) (cAt [1, 1, 1, 1, 1, 1, 1, 0, 1, 1] B5) s H (evOperand Γ s (.tmp 119)) := at_cond (by kernel_rfl) (by kernel_rfl) rfl rfl s H
noncomputable def r5_41 : {l : List Oper // opsOf (cAt [1, 1, 1, 1, 1, 1, 1, 0, 1, 0] B5) = l} := by
  apply Subtype.mk
  dsimp only [opsOf, cAt, kids, B5, bodyOf, Try.f5, List.getD, List.getElem?_cons_zero, List.getElem?_cons_succ, Option.getD_some]
@[simp] theorem n5_41 (s : List V) (H : Heap) : evCode P Γ call n f m (cAt [1, 1, 1, 1, 1, 1, 1, 0, 1, 0] B5) s H = regNext (evOpsGo P Γ call r5_41.1 r5_41.1 s H) := at_region (by kernel_rfl) r5_41.2 s H
attribute [simp] r5_41
@[simp] theorem n5_42 (s : List V) (H : Heap) : evCode P Γ call n f m (cAt [1, 1, 1, 1, 1, 1, 1, 0, 1, 1] B5) s H = some (.normal, s, H) := at_skip (by kernel_rfl) s H
@[simp] theorem n5_43 (s : List V) (H : Heap) : evCode P Γ call n f m (cAt [1, 1, 1, 1, 1, 1, 1, 1] B5) s H = seqNext P Γ call n f m (cAt [1, 1, 1, 1, 1, 1, 1, 1, 1] B5) (evCode P Γ call n f m (cAt [1, 1, 1, 1, 1, 1, 1, 1, 0] B5) s H) := at_seq (by kernel_rfl) rfl rfl s H
noncomputable def r5_44 : {l : List Oper // opsOf (cAt [1, 1, 1, 1, 1, 1, 1, 1, 0] B5) = l} := by
  apply Subtype.mk
  dsimp only [opsOf, cAt, kids, B5, bodyOf, Try.f5, List.getD, List.getElem?_cons_zero, List.getElem?_cons_succ, Option.getD_some]
@[simp] theorem n5_44 (s : List V) (H : Heap) : evCode P Γ call n f m (cAt [1, 1, 1, 1, 1, 1, 1, 1, 0] B5) s H = regNext (evOpsGo P Γ call r5_44.1 r5_44.1 s H) := at_region (by kernel_rfl) r5_44.2 s H
attribute [simp] r5_44
@[simp] theorem n5_45 (s : List V) (H : Heap) : evCode P Γ call n f m (cAt [1, 1, 1, 1, 1, 1, 1, 1, 1] B5) s H = seqNext P Γ call n f m (cAt [1, 1, 1, 1, 1, 1, 1, 1, 1, 1] B5) (evCode P Γ call n f m (cAt [1, 1, 1, 1, 1, 1, 1, 1, 1, 0] B5) s H) := at_seq (by kernel_rfl) rfl rfl s H
@[simp] theorem n5_46 (s : List V) (H : Heap) : evCode P Γ call n f m (cAt [1, 1, 1, 1, 1, 1, 1, 1, 1, 0] B5) s H = seqNext P Γ call n f m (cAt [1, 1, 1, 1, 1, 1, 1, 1, 1, 0, 1] B5) (evCode P Γ call n f m (cAt [1, 1, 1, 1, 1, 1, 1, 1, 1, 0, 0] B5) s H) := at_seq (by kernel_rfl) rfl rfl s H
noncomputable def r5_47 : {l : List Oper // opsOf (cAt [1, 1, 1, 1, 1, 1, 1, 1, 1, 0, 0] B5) = l} := by
  apply Subtype.mk
  dsimp only [opsOf, cAt, kids, B5, bodyOf, Try.f5, List.getD, List.getElem?_cons_zero, List.getElem?_cons_succ, Option.getD_some]
@[simp] theorem n5_47 (s : List V) (H : Heap) : evCode P Γ call n f m (cAt [1, 1, 1, 1, 1, 1, 1, 1, 1, 0, 0] B5) s H = regNext (evOpsGo P Γ call r5_47.1 r5_47.1 s H) := at_region (by kernel_rfl) r5_47.2 s H
attribute [simp] r5_47
@[simp] theorem n5_48 (s : List V) (H : Heap) : evCode P Γ call n f m (cAt [1, 1, 1, 1, 1, 1, 1, 1, 1, 0, 1] B5) s H = condW P Γ call n f m (cAt [1, 1, 1, 1, 1, 1, 1, 1, 1, 0, 1, 0] B5) (cAt [1, 1, 1, 1, 1, 1, 1, 1, 1, 0, 1, 1] B5) s H (evOperand Γ s (.tmp 123)) := at_cond (by kernel_rfl) (by kernel_rfl) rfl rfl s H
noncomputable def r5_49 : {l : List Oper // opsOf (cAt [1, 1, 1, 1, 1, 1, 1, 1, 1, 0, 1, 0] B5) = l} := by
  apply Subtype.mk
  dsimp only [opsOf, cAt, kids, B5, bodyOf, Try.f5, List.getD, List.getElem?_cons_zero, List.getElem?_cons_succ, Option.getD_some]
@[simp] theorem n5_49 (s : List V) (H : Heap) : evCode P Γ call n f m (cAt [1, 1, 1, 1, 1, 1, 1, 1, 1, 0, 1, 0] B5) s H = regNext (evOpsGo P Γ call r5_49.1 r5_49.1 s H) := at_region (by kernel_rfl) r5_49.2 s H
attribute [simp] r5_49
@[simp] theorem n5_50 (s : List V) (H : Heap) : evCode P Γ call n f m (cAt [1, 1, 1, 1, 1, 1, 1, 1, 1, 0, 1, 1] B5) s H = some (.normal, s, H) := at_skip (by kernel_rfl) s H
@[simp] theorem n5_51 (s : List V) (H : Heap) : evCode P Γ call n f m (cAt [1, 1, 1, 1, 1, 1, 1, 1, 1, 1] B5) s H = seqNext P Γ call n f m (cAt [1, 1, 1, 1, 1, 1, 1, 1, 1, 1, 1] B5) (evCode P Γ call n f m (cAt [1, 1, 1, 1, 1, 1, 1, 1, 1, 1, 0] B5) s H) := at_seq (by kernel_rfl) rfl rfl s H
noncomputable def r5_52 : {l : List Oper // opsOf (cAt [1, 1, 1, 1, 1, 1, 1, 1, 1, 1, 0] B5) = l} := by
  apply Subtype.mk
  dsimp only [opsOf, cAt, kids, B5, bodyOf, Try.f5, List.getD, List.getElem?_cons_zero, List.getElem?_cons_succ, Option.getD_some]
@[simp] theorem n5_52 (s : List V) (H : Heap) : evCode P Γ call n f m (cAt [1, 1, 1, 1, 1, 1, 1, 1, 1, 1, 0] B5) s H = regNext (evOpsGo P Γ call r5_52.1 r5_52.1 s H) := at_region (by kernel_rfl) r5_52.2 s H
attribute [simp] r5_52
@[simp] theorem n5_53 (s : List V) (H : Heap) : evCode P Γ call n f m (cAt [1, 1, 1, 1, 1, 1, 1, 1, 1, 1, 1] B5) s H = some (.ret, s, H) := at_ret (by kernel_rfl) s H
theorem b5 {k : Nat} (ho : ∀ args H, Γ.orc 5 args H = none) (args : List V) (H : Heap) (ha : args.length ≤ 140) : evF Try.prog Γ (k + 1) 5 args H = bodyEnd Try.prog [.tmp 4] H.length (evCode Try.prog Γ (evF Try.prog Γ k) k 5 H.length (cAt [] B5) (mkL 140 V.undef (enumV 0 args)) H) := body_at Try.func5 (by decide) rfl ho rfl rfl args H ha
noncomputable def B21 : Code := bodyOf Try.f21
@[simp] theorem n21_1 (s : List V) (H : Heap) : evCode P Γ call n f m (cAt [] B21) s H = seqNext P Γ call n f m (cAt [1] B21) (evCode P Γ call n f m (cAt [0] B21) s H) := at_seq (by kernel_rfl) rfl rfl s H
noncomputable def r21_2 : {l : List Oper // opsOf (cAt [0] B21) = l} := by
  apply Subtype.mk
  dsimp only [opsOf, cAt, kids, B21, bodyOf, Try.f21, List.getD, List.getElem?_cons_zero, List.getElem?_cons_succ, Option.getD_some]
@[simp] theorem n21_2 (s : List V) (H : Heap) : evCode P Γ call n f m (cAt [0] B21) s H = regNext (evOpsGo P Γ call r21_2.1 r21_2.1 s H) := at_region (by kernel_rfl) r21_2.2 s H
attribute [simp] r21_2
@[simp] theorem n21_3 (s : List V) (H : Heap) : evCode P Γ call n f m (cAt [1] B21) s H = seqNext P Γ call n f m (cAt [1, 1] B21) (evCode P Γ call n f m (cAt [1, 0] B21) s H) := at_seq (by kernel_rfl) rfl rfl s H
noncomputable def r21_4 : {l : List Oper // opsOf (cAt [1, 0] B21) = l} := by
  apply Subtype.mk
  dsimp only [opsOf, cAt, kids, B21, bodyOf, Try.f21, List.getD, List.getElem?_cons_zero, List.getElem?_cons_succ, Option.getD_some]
@[simp] theorem n21_4 (s : List V) (H : Heap) : evCode P Γ call n f m (cAt [1, 0] B21) s H = regNext (evOpsGo P Γ call r21_4.1 r21_4.1 s H) := at_region (by kernel_rfl) r21_4.2 s H
attribute [simp] r21_4
@[simp] theorem n21_5 (s : List V) (H : Heap) : evCode P Γ call n f m (cAt [1, 1] B21) s H = seqNext P Γ call n f m (cAt [1, 1, 1] B21) (evCode P Γ call n f m (cAt [1, 1, 0] B21) s H) := at_seq (by kernel_rfl) rfl rfl s H
@[simp] theorem n21_6 (s : List V) (H : Heap) : evCode P Γ call n f m (cAt [1, 1, 0] B21) s H = seqNext P Γ call n f m (cAt [1, 1, 0, 1] B21) (evCode P Γ call n f m (cAt [1, 1, 0, 0] B21) s H) := at_seq (by kernel_rfl) rfl rfl s H
noncomputable def r21_7 : {l : List Oper // opsOf (cAt [1, 1, 0, 0] B21) = l} := by
  apply Subtype.mk
  dsimp only [opsOf, cAt, kids, B21, bodyOf, Try.f21, List.getD, List.getElem?_cons_zero, List.getElem?_cons_succ, Option.getD_some]
@[simp] theorem n21_7 (s : List V) (H : Heap) : evCode P Γ call n f m (cAt [1, 1, 0, 0] B21) s H = regNext (evOpsGo P Γ call r21_7.1 r21_7.1 s H) := at_region (by kernel_rfl) r21_7.2 s H
attribute [simp] r21_7
@[simp] theorem n21_8 (s : List V) (H : Heap) : evCode P Γ call n f m (cAt [1, 1, 0, 1] B21) s H = blockNext 0 (evCode P Γ call n f m (cAt [1, 1, 0, 1, 0] B21) s H) := at_block (by kernel_rfl) rfl s H
@[simp] theorem n21_9 (s : List V) (H : Heap) : evCode P Γ call n f m (cAt [1, 1, 0, 1, 0] B21) s H = evLoopC P Γ call n f m (cAt [1, 1, 0, 1, 0, 0] B21) n s H := at_loop (by kernel_rfl) rfl s H
noncomputable abbrev L21_3 : Code := cAt [1, 1, 0, 1, 0, 0] B21
@[simp] theorem n21_9f : firstRegion (cAt [1, 1, 0, 1, 0, 0] B21) = 3 := by kernel_rfl
@[simp] theorem n21_10 (s : List V) (H : Heap) : evCode P Γ call n f m (cAt [1, 1, 0, 1, 0, 0] B21) s H = seqNext P Γ call n f m (cAt [1, 1, 0, 1, 0, 0, 1] B21) (evCode P Γ call n f m (cAt [1, 1, 0, 1, 0, 0, 0] B21) s H) := at_seq (by kernel_rfl) rfl rfl s H
noncomputable def r21_11 : {l : List Oper // opsOf (cAt [1, 1, 0, 1, 0, 0, 0] B21) = l} := by
  apply Subtype.mk
  dsimp only [opsOf, cAt, kids, B21, bodyOf, Try.f21, List.getD, List.getElem?_cons_zero, List.getElem?_cons_succ, Option.getD_some]
@[simp] theorem n21_11 (s : List V) (H : Heap) : evCode P Γ call n f m (cAt [1, 1, 0, 1, 0, 0, 0] B21) s H = regNext (evOpsGo P Γ call r21_11.1 r21_11.1 s H) := at_region (by kernel_rfl) r21_11.2 s H
attribute [simp] r21_11
@[simp] theorem n21_12 (s : List V) (H : Heap) : evCode P Γ call n f m (cAt [1, 1, 0, 1, 0, 0, 1] B21) s H = seqNext P Γ call n f m (cAt [1, 1, 0, 1, 0, 0, 1, 1] B21) (evCode P Γ call n f m (cAt [1, 1, 0, 1, 0, 0, 1, 0] B21) s H) := at_seq (by kernel_rfl) rfl rfl s H
@[simp] theorem n21_13 (s : List V) (H : Heap) : evCode P Γ call n f m (cAt [1, 1, 0, 1, 0, 0, 1, 0] B21) s H = condW P Γ call n f m (cAt [1, 1, 0, 1, 0, 0, 1, 0, 0] B21) (cAt [1, 1, 0, 1, 0, 0, 1, 0, 1] B21) s H (evOperand Γ s (.tmp 12)) := at_cond (by kernel_rfl) (by kernel_rfl) rfl rfl s H
@[simp] theorem n21_14 (s : List V) (H : Heap) : evCode P Γ call n f m (cAt [1, 1, 0, 1, 0, 0, 1, 0, 0] B21) s H = some (.normal, s, H) := at_skip (by kernel_rfl) s H
@[simp] theorem n21_15 (s : List V) (H : Heap) : evCode P Γ call n f m (cAt [1, 1, 0, 1, 0, 0, 1, 0, 1] B21) s H = some (.exit 0, s, H) := at_exit (by kernel_rfl) s H
@[simp] theorem n21_16 (s : List V) (H : Heap) : evCode P Γ call n f m (cAt [1, 1, 0, 1, 0, 0, 1, 1] B21) s H = seqNext P Γ call n f m (cAt [1, 1, 0, 1, 0, 0, 1, 1, 1] B21) (evCode P Γ call n f m (cAt [1, 1, 0, 1, 0, 0, 1, 1, 0] B21) s H) := at_seq (by kernel_rfl) rfl rfl s H
@[simp] theorem n21_17 (s : List V) (H : Heap) : evCode P Γ call n f m (cAt [1, 1, 0, 1, 0, 0, 1, 1, 0] B21) s H = blockNext 1 (evCode P Γ call n f m (cAt [1, 1, 0, 1, 0, 0, 1, 1, 0, 0] B21) s H) := at_block (by kernel_rfl) rfl s H
@[simp] theorem n21_18 (s : List V) (H : Heap) : evCode P Γ call n f m (cAt [1, 1, 0, 1, 0, 0, 1, 1, 0, 0] B21) s H = seqNext P Γ call n f m (cAt [1, 1, 0, 1, 0, 0, 1, 1, 0, 0, 1] B21) (evCode P Γ call n f m (cAt [1, 1, 0, 1, 0, 0, 1, 1, 0, 0, 0] B21) s H) := at_seq (by kernel_rfl) rfl rfl s H
noncomputable def r21_19 : {l : List Oper // opsOf (cAt [1, 1, 0, 1, 0, 0, 1, 1, 0, 0, 0] B21) = l} := by
  apply Subtype.mk
  dsimp only [opsOf, cAt, kids, B21, bodyOf, Try.f21, List.getD, List.getElem?_cons_zero, List.getElem?_cons_succ, Option.getD_some]
@[simp] theorem n21_19 (s : List V) (H : Heap) : evCode P Γ call n f m (cAt [1, 1, 0, 1, 0, 0, 1, 1, 0, 0, 0] B21) s H = regNext (evOpsGo P Γ call r21_19.1 r21_19.1 s H) := at_region (by kernel_rfl) r21_19.2 s H
attribute [simp] r21_19
@[simp] theorem n21_20 (s : List V) (H : Heap) : evCode P Γ call n f m (cAt [1, 1, 0, 1, 0, 0, 1, 1, 0, 0, 1] B21) s H = seqNext P Γ call n f m (cAt [1, 1, 0, 1, 0, 0, 1, 1, 0, 0, 1, 1] B21) (evCode P Γ call n f m (cAt [1, 1, 0, 1, 0, 0, 1, 1, 0, 0, 1, 0] B21) s H) := at_seq (by kernel_rfl) rfl rfl s H
noncomputable def r21_21 : {l : List Oper // opsOf (cAt [1, 1, 0, 1, 0, 0, 1, 1, 0, 0, 1, 0] B21) = l} := by
  apply Subtype.mk
  dsimp only [opsOf, cAt, kids, B21, bodyOf, Try.f21, List.getD, List.getElem?_cons_zero, List.getElem?_cons_succ, Option.getD_some]
@[simp] theorem n21_21 (s : List V) (H : Heap) : evCode P Γ call n f m (cAt [1, 1, 0, 1, 0, 0, 1, 1, 0, 0, 1, 0] B21) s H = regNext (evOpsGo P Γ call r21_21.1 r21_21.1 s H) := at_region (by kernel_rfl) r21_21.2 s H
attribute [simp] r21_21
@[simp] theorem n21_22 (s : List V) (H : Heap) : evCode P Γ call n f m (cAt [1, 1, 0, 1, 0, 0, 1, 1, 0, 0, 1, 1] B21) s H = seqNext P Γ call n f m (cAt [1, 1, 0, 1, 0, 0, 1, 1, 0, 0, 1, 1, 1] B21) (evCode P Γ call n f m (cAt [1, 1, 0, 1, 0, 0, 1, 1, 0, 0, 1, 1, 0] B21) s H) := at_seq (by kernel_rfl) rfl rfl s H
@[simp] theorem n21_23 (s : List V) (H : Heap) : evCode P Γ call n f m (cAt [1, 1, 0, 1, 0, 0, 1, 1, 0, 0, 1, 1, 0] B21) s H = blockNext 2 (evCode P Γ call n f m (cAt [1, 1, 0, 1, 0, 0, 1, 1, 0, 0, 1, 1, 0, 0] B21) s H) := at_block (by kernel_rfl) rfl s H
@[simp] theorem n21_24 (s : List V) (H : Heap) : evCode P Γ call n f m (cAt [1, 1, 0, 1, 0, 0, 1, 1, 0, 0, 1, 1, 0, 0] B21) s H = evLoopC P Γ call n f m (cAt [1, 1, 0, 1, 0, 0, 1, 1, 0, 0, 1, 1, 0, 0, 0] B21) n s H := at_loop (by kernel_rfl) rfl s H
noncomputable abbrev L21_6 : Code := cAt [1, 1, 0, 1, 0, 0, 1, 1, 0, 0, 1, 1, 0, 0, 0] B21
@[simp] theorem n21_24f : firstRegion (cAt [1, 1, 0, 1, 0, 0, 1, 1, 0, 0, 1, 1, 0, 0, 0] B21) = 6 := by kernel_rfl
@[simp] theorem n21_25 (s : List V) (H : Heap) : evCode P Γ call n f m (cAt [1, 1, 0, 1, 0, 0, 1, 1, 0, 0, 1, 1, 0, 0, 0] B21) s H = seqNext P Γ call n f m (cAt [1, 1, 0, 1, 0, 0, 1, 1, 0, 0, 1, 1, 0, 0, 0, 1] B21) (evCode P Γ call n f m (cAt [1, 1, 0, 1, 0, 0, 1, 1, 0, 0, 1, 1, 0, 0, 0, 0] B21) s H) := at_seq (by kernel_rfl) rfl rfl s H
@[simp] theorem n21_26 (s : List V) (H : Heap) : evCode P Γ call n f m (cAt [1, 1, 0, 1, 0, 0, 1, 1, 0, 0, 1, 1, 0, 0, 0, 0] B21) s H = seqNext P Γ call n f m (cAt [1, 1, 0, 1, 0, 0, 1, 1, 0, 0, 1, 1, 0, 0, 0, 0, 1] B21) (evCode P Γ call n f m (cAt [1, 1, 0, 1, 0, 0, 1, 1, 0, 0, 1, 1, 0, 0, 0, 0, 0] B21) s H) := at_seq (by kernel_rfl) rfl rfl s H
noncomputable def r21_27 : {l : List Oper // opsOf (cAt [1, 1, 0, 1, 0, 0, 1, 1, 0, 0, 1, 1, 0, 0, 0, 0, 0] B21) = l} := by
  apply Subtype.mk
  dsimp only [opsOf, cAt, kids, B21, bodyOf, Try.f21, List.getD, List.getElem?_cons_zero, List.getElem?_cons_succ, Option.getD_some]
@[simp] theorem n21_27 (s : List V) (H : Heap) : evCode P Γ call n f m (cAt [1, 1, 0, 1, 0, 0, 1, 1, 0, 0, 1, 1, 0, 0, 0, 0, 0] B21) s H = regNext (drawR P Γ call r21_27.1 [([1, 2], [16, 17]), ([0], [15]), ([0], [15]), ([], []), ([], []), ([6, 9], [21, 24]), ([5, 9], [20, 24]), ([9], [24]), ([9], [24]), ([5, 6, 7, 8], [20, 21, 22, 23]), ([], []), ([], []), ([], [])] s H) := at_drawT (by kernel_rfl) r21_27.2 (by kernel_rfl) s H
attribute [simp] r21_27
@[simp] theorem n21_28 (s : List V) (H : Heap) : evCode P Γ call n f m (cAt [1, 1, 0, 1, 0, 0, 1, 1, 0, 0, 1, 1, 0, 0, 0, 0, 1] B21) s H = condW P Γ call n f m (cAt [1, 1, 0, 1, 0, 0, 1, 1, 0, 0, 1, 1, 0, 0, 0, 0, 1, 0] B21) (cAt [1, 1, 0, 1, 0, 0, 1, 1, 0, 0, 1, 1, 0, 0, 0, 0, 1, 1] B21) s H (evOperand Γ s (.tmp 27)) := at_cond (by kernel_rfl) (by kernel_rfl) rfl rfl s H
@[simp] theorem n21_29 (s : List V) (H : Heap) : evCode P Γ call n f m (cAt [1, 1, 0, 1, 0, 0, 1, 1, 0, 0, 1, 1, 0, 0, 0, 0, 1, 0] B21) s H = some (.normal, s, H) := at_skip (by kernel_rfl) s H
@[simp] theorem n21_30 (s : List V) (H : Heap) : evCode P Γ call n f m (cAt [1, 1, 0, 1, 0, 0, 1, 1, 0, 0, 1, 1, 0, 0, 0, 0, 1, 1] B21) s H = some (.exit 2, s, H) := at_exit (by kernel_rfl) s H
@[simp] theorem n21_31 (s : List V) (H : Heap) : evCode P Γ call n f m (cAt [1, 1, 0, 1, 0, 0, 1, 1, 0, 0, 1, 1, 0, 0, 0, 1] B21) s H = blockNext 3 (evCode P Γ call n f m (cAt [1, 1, 0, 1, 0, 0, 1, 1, 0, 0, 1, 1, 0, 0, 0, 1, 0] B21) s H) := at_block (by kernel_rfl) rfl s H
noncomputable def r21_32 : {l : List Oper // opsOf (cAt [1, 1, 0, 1, 0, 0, 1, 1, 0, 0, 1, 1, 0, 0, 0, 1, 0] B21) = l} := by
  apply Subtype.mk
  dsimp only [opsOf, cAt, kids, B21, bodyOf, Try.f21, List.getD, List.getElem?_cons_zero, List.getElem?_cons_succ, Option.getD_some]
@[simp] theorem n21_32 (s : List V) (H : Heap) : evCode P Γ call n f m (cAt [1, 1, 0, 1, 0, 0, 1, 1, 0, 0, 1, 1, 0, 0, 0, 1, 0] B21) s H = regNext (evOpsGo P Γ call r21_32.1 r21_32.1 s H) := at_region (by kernel_rfl) r21_32.2 s H
attribute [simp] r21_32
@[simp] theorem n21_33 (s : List V) (H : Heap) : evCode P Γ call n f m (cAt [1, 1, 0, 1, 0, 0, 1, 1, 0, 0, 1, 1, 1] B21) s H = seqNext P Γ call n f m (cAt [1, 1, 0, 1, 0, 0, 1, 1, 0, 0, 1, 1, 1, 1] B21) (evCode P Γ call n f m (cAt [1, 1, 0, 1, 0, 0, 1, 1, 0, 0, 1, 1, 1, 0] B21) s H) := at_seq (by kernel_rfl) rfl rfl s H
noncomputable def r21_34 : {l : List Oper // opsOf (cAt [1, 1, 0, 1, 0, 0, 1, 1, 0, 0, 1, 1, 1, 0] B21) = l} := by
  apply Subtype.mk
  dsimp only [opsOf, cAt, kids, B21, bodyOf, Try.f21, List.getD, List.getElem?_cons_zero, List.getElem?_cons_succ, Option.getD_some]
@[simp] theorem n21_34 (s : List V) (H : Heap) : evCode P Γ call n f m (cAt [1, 1, 0, 1, 0, 0, 1, 1, 0, 0, 1, 1, 1, 0] B21) s H = regNext (drawR P Γ call r21_34.1 [([1, 2], [31, 32]), ([0], [30]), ([0], [30]), ([], []), ([], []), ([6, 9], [36, 39]), ([5, 9], [35, 39]), ([9], [39]), ([9], [39]), ([5, 6, 7, 8], [35, 36, 37, 38]), ([], []), ([], [])] s H) := at_drawT (by kernel_rfl) r21_34.2 (by kernel_rfl) s H
attribute [simp] r21_34
@[simp] theorem n21_35 (s : List V) (H : Heap) : evCode P Γ call n f m (cAt [1, 1, 0, 1, 0, 0, 1, 1, 0, 0, 1, 1, 1, 1] B21) s H = condW P Γ call n f m (cAt [1, 1, 0, 1, 0, 0, 1, 1, 0, 0, 1, 1, 1, 1, 0] B21) (cAt [1, 1, 0, 1, 0, 0, 1, 1, 0, 0, 1, 1, 1, 1, 1] B21) s H (evOperand Γ s (.tmp 41)) := at_cond (by kernel_rfl) (by kernel_rfl) rfl rfl s H
noncomputable def r21_36 : {l : List Oper // opsOf (cAt [1, 1, 0, 1, 0, 0, 1, 1, 0, 0, 1, 1, 1, 1, 0] B21) = l} := by
  apply Subtype.mk
  dsimp only [opsOf, cAt, kids, B21, bodyOf, Try.f21, List.getD, List.getElem?_cons_zero, List.getElem?_cons_succ, Option.getD_some]
@[simp] theorem n21_36 (s : List V) (H : Heap) : evCode P Γ call n f m (cAt [1, 1, 0, 1, 0, 0, 1, 1, 0, 0, 1, 1, 1, 1, 0] B21) s H = regNext (evOpsGo P Γ call r21_36.1 r21_36.1 s H) := at_region (by kernel_rfl) r21_36.2 s H
attribute [simp] r21_36
@[simp] theorem n21_37 (s : List V) (H : Heap) : evCode P Γ call n f m (cAt [1, 1, 0, 1, 0, 0, 1, 1, 0, 0, 1, 1, 1, 1, 1] B21) s H = some (.normal, s, H) := at_skip (by kernel_rfl) s H
noncomputable def r21_38 : {l : List Oper // opsOf (cAt [1, 1, 0, 1, 0, 0, 1, 1, 1] B21) = l} := by
  apply Subtype.mk
  dsimp only [opsOf, cAt, kids, B21, bodyOf, Try.f21, List.getD, List.getElem?_cons_zero, List.getElem?_cons_succ, Option.getD_some]
@[simp] theorem n21_38 (s : List V) (H : Heap) : evCode P Γ call n f m (cAt [1, 1, 0, 1, 0, 0, 1, 1, 1] B21) s H = regNext (evOpsGo P Γ call r21_38.1 r21_38.1 s H) := at_region (by kernel_rfl) r21_38.2 s H
attribute [simp] r21_38
@[simp] theorem n21_39 (s : List V) (H : Heap) : evCode P Γ call n f m (cAt [1, 1, 1] B21) s H = seqNext P Γ call n f m (cAt [1, 1, 1, 1] B21) (evCode P Γ call n f m (cAt [1, 1, 1, 0] B21) s H) := at_seq (by kernel_rfl) rfl rfl s H
@[simp] theorem n21_40 (s : List V) (H : Heap) : evCode P Γ call n f m (cAt [1, 1, 1, 0] B21) s H = seqNext P Γ call n f m (cAt [1, 1, 1, 0, 1] B21) (evCode P Γ call n f m (cAt [1, 1, 1, 0, 0] B21) s H) := at_seq (by kernel_rfl) rfl rfl s H
noncomputable def r21_41 : {l : List Oper // opsOf (cAt [1, 1, 1, 0, 0] B21) = l} := by
  apply Subtype.mk
  dsimp only [opsOf, cAt, kids, B21, bodyOf, Try.f21, List.getD, List.getElem?_cons_zero, List.getElem?_cons_succ, Option.getD_some]
@[simp] theorem n21_41 (s : List V) (H : Heap) : evCode P Γ call n f m (cAt [1, 1, 1, 0, 0] B21) s H = regNext (evOpsGo P Γ call r21_41.1 r21_41.1 s H) := at_region (by kernel_rfl) r21_41.2 s H
attribute [simp] r21_41
@[simp] theorem n21_42 (s : List V) (H : Heap) : evCode P Γ call n f m (cAt [1, 1, 1, 0, 1] B21) s H = seqNext P Γ call n f m (cAt [1, 1, 1, 0, 1, 1] B21) (evCode P Γ call n f m (cAt [1, 1, 1, 0, 1, 0] B21) s H) := at_seq (by kernel_rfl) rfl rfl s H
noncomputable def r21_43 : {l : List Oper // opsOf (cAt [1, 1, 1, 0, 1, 0] B21) = l} := by
  apply Subtype.mk
  dsimp only [opsOf, cAt, kids, B21, bodyOf, Try.f21, List.getD, List.getElem?_cons_zero, List.getElem?_cons_succ, Option.getD_some]
@[simp] theorem n21_43 (s : List V) (H : Heap) : evCode P Γ call n f m (cAt [1, 1, 1, 0, 1, 0] B21) s H = regNext (evOpsGo P Γ call r21_43.1 r21_43.1 s H) := at_region (by kernel_rfl) r21_43.2 s H
attribute [simp] r21_43
@[simp] theorem n21_44 (s : List V) (H : Heap) : evCode P Γ call n f m (cAt [1, 1, 1, 0, 1, 1] B21) s H = condW P Γ call n f m (cAt [1, 1, 1, 0, 1, 1, 0] B21) (cAt [1, 1, 1, 0, 1, 1, 1] B21) s H (evOperand Γ s (.tmp 51)) := at_cond (by kernel_rfl) (by kernel_rfl) rfl rfl s H
@[simp] theorem n21_45 (s : List V) (H : Heap) : evCode P Γ call n f m (cAt [1, 1, 1, 0, 1, 1, 0] B21) s H = seqNext P Γ call n f m (cAt [1, 1, 1, 0, 1, 1, 0, 1] B21) (evCode P Γ call n f m (cAt [1, 1, 1, 0, 1, 1, 0, 0] B21) s H) := at_seq (by kernel_rfl) rfl rfl s H
noncomputable def r21_46 : {l : List Oper // opsOf (cAt [1, 1, 1, 0, 1, 1, 0, 0] B21) = l} := by
  apply Subtype.mk
  dsimp only [opsOf, cAt, kids, B21, bodyOf, Try.f21, List.getD, List.getElem?_cons_zero, List.getElem?_cons_succ, Option.getD_some]
@[simp] theorem n21_46 (s : List V) (H : Heap) : evCode P Γ call n f m (cAt [1, 1, 1, 0, 1, 1, 0, 0] B21) s H = regNext (evOpsGo P Γ call r21_46.1 r21_46.1 s H) := at_region (by kernel_rfl) r21_46.2 s H
attribute [simp] r21_46
@[simp] theorem n21_47 (s : List V) (H : Heap) : evCode P Γ call n f m (cAt [1, 1, 1, 0, 1, 1, 0, 1] B21) s H = some (.ret, s, H) := at_ret (by kernel_rfl) s H
@[simp] theorem n21_48 (s : List V) (H : Heap) : evCode P Γ call n f m (cAt [1, 1, 1, 0, 1, 1, 1] B21) s H = some (.normal, s, H) := at_skip (by kernel_rfl) s H
@[simp] theorem n21_49 (s : List V) (H : Heap) : evCode P Γ call n f m (cAt [1, 1, 1, 1] B21) s H = seqNext P Γ call n f m (cAt [1, 1, 1, 1, 1] B21) (evCode P Γ call n f m (cAt [1, 1, 1, 1, 0] B21) s H) := at_seq (by kernel_rfl) rfl rfl s H
noncomputable def r21_50 : {l : List Oper // opsOf (cAt [1, 1, 1, 1, 0] B21) = l} := by
  apply Subtype.mk
  dsimp only [opsOf, cAt, kids, B21, bodyOf, Try.f21, List.getD, List.getElem?_cons_zero, List.getElem?_cons_succ, Option.getD_some]
@[simp] theorem n21_50 (s : List V) (H : Heap) : evCode P Γ call n f m (cAt [1, 1, 1, 1, 0] B21) s H = regNext (evOpsGo P Γ call r21_50.1 r21_50.1 s H) := at_region (by kernel_rfl) r21_50.2 s H
attribute [simp] r21_50
@[simp] theorem n21_51 (s : List V) (H : Heap) : evCode P Γ call n f m (cAt [1, 1, 1, 1, 1] B21) s H = some (.ret, s, H) := at_ret (by kernel_rfl) s H
theorem b21 {k : Nat} (ho : ∀ args H, Γ.orc 21 args H = none) (args : List V) (H : Heap) (ha : args.length ≤ 54) : evF Try.prog Γ (k + 1) 21 args H = bodyEnd Try.prog [.tmp 2, .tmp 3] H.length (evCode Try.prog Γ (evF Try.prog Γ k) k 21 H.length (cAt [] B21) (mkL 54 V.undef (enumV 0 args)) H) := body_at Try.func21 (by decide) rfl ho rfl rfl args H ha
noncomputable def B22 : Code := bodyOf Try.f22
@[simp] theorem n22_1 (s : List V) (H : Heap) : evCode P Γ call n f m (cAt [] B22) s H = seqNext P Γ call n f m (cAt [1] B22) (evCode P Γ call n f m (cAt [0] B22) s H) := at_seq (by kernel_rfl) rfl rfl s H
noncomputable def r22_2 : {l : List Oper // opsOf (cAt [0] B22) = l} := by
  apply Subtype.mk
  dsimp only [opsOf, cAt, kids, B22, bodyOf, Try.f22, List.getD, List.getElem?_cons_zero, List.getElem?_cons_succ, Option.getD_some]
@[simp] theorem n22_2 (s : List V) (H : Heap) : evCode P Γ call n f m (cAt [0] B22) s H = regNext (evOpsGo P Γ call r22_2.1 r22_2.1 s H) := at_region (by kernel_rfl) r22_2.2 s H
attribute [simp] r22_2
@[simp] theorem n22_3 (s : List V) (H : Heap) : evCode P Γ call n f m (cAt [1] B22) s H = seqNext P Γ call n f m (cAt [1, 1] B22) (evCode P Γ call n f m (cAt [1, 0] B22) s H) := at_seq (by kernel_rfl) rfl rfl s H
noncomputable def r22_4 : {l : List Oper // opsOf (cAt [1, 0] B22) = l} := by
  apply Subtype.mk
  dsimp only [opsOf, cAt, kids, B22, bodyOf, Try.f22, List.getD, List.getElem?_cons_zero, List.getElem?_cons_succ, Option.getD_some]
@[simp] theorem n22_4 (s : List V) (H : Heap) : evCode P Γ call n f m (cAt [1, 0] B22) s H = regNext (evOpsGo P Γ call r22_4.1 r22_4.1 s H) := at_region (by kernel_rfl) r22_4.2 s H
attribute [simp] r22_4
@[simp] theorem n22_5 (s : List V) (H : Heap) : evCode P Γ call n f m (cAt [1, 1] B22) s H = seqNext P Γ call n f m (cAt [1, 1, 1] B22) (evCode P Γ call n f m (cAt [1, 1, 0] B22) s H) := at_seq (by kernel_rfl) rfl rfl s H
noncomputable def r22_6 : {l : List Oper // opsOf (cAt [1, 1, 0] B22) = l} := by
  apply Subtype.mk
  dsimp only [opsOf, cAt, kids, B22, bodyOf, Try.f22, List.getD, List.getElem?_cons_zero, List.getElem?_cons_succ, Option.getD_some]
@[simp] theorem n22_6 (s : List V) (H : Heap) : evCode P Γ call n f m (cAt [1, 1, 0] B22) s H = regNext (evOpsGo P Γ call r22_6.1 r22_6.1 s H) := at_region (by kernel_rfl) r22_6.2 s H
attribute [simp] r22_6
@[simp] theorem n22_7 (s : List V) (H : Heap) : evCode P Γ call n f m (cAt [1, 1, 1] B22) s H = some (.ret, s, H) := at_ret (by kernel_rfl) s H
theorem b22 {k : Nat} (ho : ∀ args H, Γ.orc 22 args H = none) (args : List V) (H : Heap) (ha : args.length ≤ 24) : evF Try.prog Γ (k + 1) 22 args H = bodyEnd Try.prog [.tmp 0] H.length (evCode Try.prog Γ (evF Try.prog Γ k) k 22 H.length (cAt [] B22) (mkL 24 V.undef (enumV 0 args)) H) := body_at Try.func22 (by decide) rfl ho rfl rfl args H ha
noncomputable def B24 : Code := bodyOf Try.f24
@[simp] theorem n24_1 (s : List V) (H : Heap) : evCode P Γ call n f m (cAt [] B24) s H = seqNext P Γ call n f m (cAt [1] B24) (evCode P Γ call n f m (cAt [0] B24) s H) := at_seq (by kernel_rfl) rfl rfl s H
noncomputable def r24_2 : {l : List Oper // opsOf (cAt [0] B24) = l} := by
  apply Subtype.mk
  dsimp only [opsOf, cAt, kids, B24, bodyOf, Try.f24, List.getD, List.getElem?_cons_zero, List.getElem?_cons_succ, Option.getD_some]
@[simp] theorem n24_2 (s : List V) (H : Heap) : evCode P Γ call n f m (cAt [0] B24) s H = regNext (evOpsGo P Γ call r24_2.1 r24_2.1 s H) := at_region (by kernel_rfl) r24_2.2 s H
attribute [simp] r24_2
@[simp] theorem n24_3 (s : List V) (H : Heap) : evCode P Γ call n f m (cAt [1] B24) s H = seqNext P Γ call n f m (cAt [1, 1] B24) (evCode P Γ call n f m (cAt [1, 0] B24) s H) := at_seq (by kernel_rfl) rfl rfl s H
@[simp] theorem n24_4 (s : List V) (H : Heap) : evCode P Γ call n f m (cAt [1, 0] B24) s H = seqNext P Γ call n f m (cAt [1, 0, 1] B24) (evCode P Γ call n f m (cAt [1, 0, 0] B24) s H) := at_seq (by kernel_rfl) rfl rfl s H
noncomputable def r24_5 : {l : List Oper // opsOf (cAt [1, 0, 0] B24) = l} := by
  apply Subtype.mk
  dsimp only [opsOf, cAt, kids, B24, bodyOf, Try.f24, List.getD, List.getElem?_cons_zero, List.getElem?_cons_succ, Option.getD_some]
@[simp] theorem n24_5 (s : List V) (H : Heap) : evCode P Γ call n f m (cAt [1, 0, 0] B24) s H = regNext (evOpsGo P Γ call r24_5.1 r24_5.1 s H) := at_region (by kernel_rfl) r24_5.2 s H
attribute [simp] r24_5
@[simp] theorem n24_6 (s : List V) (H : Heap) : evCode P Γ call n f m (cAt [1, 0, 1] B24) s H = condW P Γ call n f m (cAt [1, 0, 1, 0] B24) (cAt [1, 0, 1, 1] B24) s H (evOperand Γ s (.tmp 7)) := at_cond (by kernel_rfl) (by kernel_rfl) rfl rfl s H
@[simp] theorem n24_7 (s : List V) (H : Heap) : evCode P Γ call n f m (cAt [1, 0, 1, 0] B24) s H = seqNext P Γ call n f m (cAt [1, 0, 1, 0, 1] B24) (evCode P Γ call n f m (cAt [1, 0, 1, 0, 0] B24) s H) := at_seq (by kernel_rfl) rfl rfl s H
noncomputable def r24_8 : {l : List Oper // opsOf (cAt [1, 0, 1, 0, 0] B24) = l} := by
  apply Subtype.mk
  dsimp only [opsOf, cAt, kids, B24, bodyOf, Try.f24, List.getD, List.getElem?_cons_zero, List.getElem?_cons_succ, Option.getD_some]
@[simp] theorem n24_8 (s : List V) (H : Heap) : evCode P Γ call n f m (cAt [1, 0, 1, 0, 0] B24) s H = regNext (evOpsGo P Γ call r24_8.1 r24_8.1 s H) := at_region (by kernel_rfl) r24_8.2 s H
attribute [simp] r24_8
@[simp] theorem n24_9 (s : List V) (H : Heap) : evCode P Γ call n f m (cAt [1, 0, 1, 0, 1] B24) s H = some (.ret, s, H) := at_ret (by kernel_rfl) s H
@[simp] theorem n24_10 (s : List V) (H : Heap) : evCode P Γ call n f m (cAt [1, 0, 1, 1] B24) s H = some (.normal, s, H) := at_skip (by kernel_rfl) s H
@[simp] theorem n24_11 (s : List V) (H : Heap) : evCode P Γ call n f m (cAt [1, 1] B24) s H = seqNext P Γ call n f m (cAt [1, 1, 1] B24) (evCode P Γ call n f m (cAt [1, 1, 0] B24) s H) := at_seq (by kernel_rfl) rfl rfl s H
@[simp] theorem n24_12 (s : List V) (H : Heap) : evCode P Γ call n f m (cAt [1, 1, 0] B24) s H = seqNext P Γ call n f m (cAt [1, 1, 0, 1] B24) (evCode P Γ call n f m (cAt [1, 1, 0, 0] B24) s H) := at_seq (by kernel_rfl) rfl rfl s H
noncomputable def r24_13 : {l : List Oper // opsOf (cAt [1, 1, 0, 0] B24) = l} := by
  apply Subtype.mk
  dsimp only [opsOf, cAt, kids, B24, bodyOf, Try.f24, List.getD, List.getElem?_cons_zero, List.getElem?_cons_succ, Option.getD_some]
@[simp] theorem n24_13 (s : List V) (H : Heap) : evCode P Γ call n f m (cAt [1, 1, 0, 0] B24) s H = regNext (evOpsGo P Γ call r24_13.1 r24_13.1 s H) := at_region (by kernel_rfl) r24_13.2 s H
attribute [simp] r24_13
@[simp] theorem n24_14 (s : List V) (H : Heap) : evCode P Γ call n f m (cAt [1, 1, 0, 1] B24) s H = blockNext 0 (evCode P Γ call n f m (cAt [1, 1, 0, 1, 0] B24) s H) := at_block (by kernel_rfl) rfl s H
@[simp] theorem n24_15 (s : List V) (H : Heap) : evCode P Γ call n f m (cAt [1, 1, 0, 1, 0] B24) s H = evLoopC P Γ call n f m (cAt [1, 1, 0, 1, 0, 0] B24) n s H := at_loop (by kernel_rfl) rfl s H
noncomputable abbrev L24_4 : Code := cAt [1, 1, 0, 1, 0, 0] B24
@[simp] theorem n24_15f : firstRegion (cAt [1, 1, 0, 1, 0, 0] B24) = 4 := by kernel_rfl
@[simp] theorem n24_16 (s : List V) (H : Heap) : evCode P Γ call n f m (cAt [1, 1, 0, 1, 0, 0] B24) s H = seqNext P Γ call n f m (cAt [1, 1, 0, 1, 0, 0, 1] B24) (evCode P Γ call n f m (cAt [1, 1, 0, 1, 0, 0, 0] B24) s H) := at_seq (by kernel_rfl) rfl rfl s H
noncomputable def r24_17 : {l : List Oper // opsOf (cAt [1, 1, 0, 1, 0, 0, 0] B24) = l} := by
  apply Subtype.mk
  dsimp only [opsOf, cAt, kids, B24, bodyOf, Try.f24, List.getD, List.getElem?_cons_zero, List.getElem?_cons_succ, Option.getD_some]
@[simp] theorem n24_17 (s : List V) (H : Heap) : evCode P Γ call n f m (cAt [1, 1, 0, 1, 0, 0, 0] B24) s H = regNext (evOpsGo P Γ call r24_17.1 r24_17.1 s H) := at_region (by kernel_rfl) r24_17.2 s H
attribute [simp] r24_17
@[simp] theorem n24_18 (s : List V) (H : Heap) : evCode P Γ call n f m (cAt [1, 1, 0, 1, 0, 0, 1] B24) s H = seqNext P Γ call n f m (cAt [1, 1, 0, 1, 0, 0, 1, 1] B24) (evCode P Γ call n f m (cAt [1, 1, 0, 1, 0, 0, 1, 0] B24) s H) := at_seq (by kernel_rfl) rfl rfl s H
@[simp] theorem n24_19 (s : List V) (H : Heap) : evCode P Γ call n f m (cAt [1, 1, 0, 1, 0, 0, 1, 0] B24) s H = condW P Γ call n f m (cAt [1, 1, 0, 1, 0, 0, 1, 0, 0] B24) (cAt [1, 1, 0, 1, 0, 0, 1, 0, 1] B24) s H (evOperand Γ s (.tmp 11)) := at_cond (by kernel_rfl) (by kernel_rfl) rfl rfl s H
@[simp] theorem n24_20 (s : List V) (H : Heap) : evCode P Γ call n f m (cAt [1, 1, 0, 1, 0, 0, 1, 0, 0] B24) s H = some (.normal, s, H) := at_skip (by kernel_rfl) s H
@[simp] theorem n24_21 (s : List V) (H : Heap) : evCode P Γ call n f m (cAt [1, 1, 0, 1, 0, 0, 1, 0, 1] B24) s H = some (.exit 0, s, H) := at_exit (by kernel_rfl) s H
@[simp] theorem n24_22 (s : List V) (H : Heap) : evCode P Γ call n f m (cAt [1, 1, 0, 1, 0, 0, 1, 1] B24) s H = seqNext P Γ call n f m (cAt [1, 1, 0, 1, 0, 0, 1, 1, 1] B24) (evCode P Γ call n f m (cAt [1, 1, 0, 1, 0, 0, 1, 1, 0] B24) s H) := at_seq (by kernel_rfl) rfl rfl s H
@[simp] theorem n24_23 (s : List V) (H : Heap) : evCode P Γ call n f m (cAt [1, 1, 0, 1, 0, 0, 1, 1, 0] B24) s H = blockNext 1 (evCode P Γ call n f m (cAt [1, 1, 0, 1, 0, 0, 1, 1, 0, 0] B24) s H) := at_block (by kernel_rfl) rfl s H
@[simp] theorem n24_24 (s : List V) (H : Heap) : evCode P Γ call n f m (cAt [1, 1, 0, 1, 0, 0, 1, 1, 0, 0] B24) s H = seqNext P Γ call n f m (cAt [1, 1, 0, 1, 0, 0, 1, 1, 0, 0, 1] B24) (evCode P Γ call n f m (cAt [1, 1, 0, 1, 0, 0, 1, 1, 0, 0, 0] B24) s H) := at_seq (by kernel_rfl) rfl rfl s H
noncomputable def r24_25 : {l : List Oper // opsOf (cAt [1, 1, 0, 1, 0, 0, 1, 1, 0, 0, 0] B24) = l} := by
  apply Subtype.mk
  dsimp only [opsOf, cAt, kids, B24, bodyOf, Try.f24, List.getD, List.getElem?_cons_zero, List.getElem?_cons_succ, Option.getD_some]
@[simp] theorem n24_25 (s : List V) (H : Heap) : evCode P Γ call n f m (cAt [1, 1, 0, 1, 0, 0, 1, 1, 0, 0, 0] B24) s H = regNext (evOpsGo P Γ call r24_25.1 r24_25.1 s H) := at_region (by kernel_rfl) r24_25.2 s H
attribute [simp] r24_25
@[simp] theorem n24_26 (s : List V) (H : Heap) : evCode P Γ call n f m (cAt [1, 1, 0, 1, 0, 0, 1, 1, 0, 0, 1] B24) s H = seqNext P Γ call n f m (cAt [1, 1, 0, 1, 0, 0, 1, 1, 0, 0, 1, 1] B24) (evCode P Γ call n f m (cAt [1, 1, 0, 1, 0, 0, 1, 1, 0, 0, 1, 0] B24) s H) := at_seq (by kernel_rfl) rfl rfl s H
@[simp] theorem n24_27 (s : List V) (H : Heap) : evCode P Γ call n f m (cAt [1, 1, 0, 1, 0, 0, 1, 1, 0, 0, 1, 0] B24) s H = seqNext P Γ call n f m (cAt [1, 1, 0, 1, 0, 0, 1, 1, 0, 0, 1, 0, 1] B24) (evCode P Γ call n f m (cAt [1, 1, 0, 1, 0, 0, 1, 1, 0, 0, 1, 0, 0] B24) s H) := at_seq (by kernel_rfl) rfl rfl s H
noncomputable def r24_28 : {l : List Oper // opsOf (cAt [1, 1, 0, 1, 0, 0, 1, 1, 0, 0, 1, 0, 0] B24) = l} := by
  apply Subtype.mk
  dsimp only [opsOf, cAt, kids, B24, bodyOf, Try.f24, List.getD, List.getElem?_cons_zero, List.getElem?_cons_succ, Option.getD_some]
@[simp] theorem n24_28 (s : List V) (H : Heap) : evCode P Γ call n f m (cAt [1, 1, 0, 1, 0, 0, 1, 1, 0, 0, 1, 0, 0] B24) s H = regNext (evOpsGo P Γ call r24_28.1 r24_28.1 s H) := at_region (by kernel_rfl) r24_28.2 s H
attribute [simp] r24_28
@[simp] theorem n24_29 (s : List V) (H : Heap) : evCode P Γ call n f m (cAt [1, 1, 0, 1, 0, 0, 1, 1, 0, 0, 1, 0, 1] B24) s H = condW P Γ call n f m (cAt [1, 1, 0, 1, 0, 0, 1, 1, 0, 0, 1, 0, 1, 0] B24) (cAt [1, 1, 0, 1, 0, 0, 1, 1, 0, 0, 1, 0, 1, 1] B24) s H (evOperand Γ s (.tmp 29)) := at_cond (by kernel_rfl) (by kernel_rfl) rfl rfl s H
@[simp] theorem n24_30 (s : List V) (H : Heap) : evCode P Γ call n f m (cAt [1, 1, 0, 1, 0, 0, 1, 1, 0, 0, 1, 0, 1, 0] B24) s H = seqNext P Γ call n f m (cAt [1, 1, 0, 1, 0, 0, 1, 1, 0, 0, 1, 0, 1, 0, 1] B24) (evCode P Γ call n f m (cAt [1, 1, 0, 1, 0, 0, 1, 1, 0, 0, 1, 0, 1, 0, 0] B24) s H) := at_seq (by kernel_rfl) rfl rfl s H
noncomputable def r24_31 : {l : List Oper // opsOf (cAt [1, 1, 0, 1, 0, 0, 1, 1, 0, 0, 1, 0, 1, 0, 0] B24) = l} := by
  apply Subtype.mk
  dsimp only [opsOf, cAt, kids, B24, bodyOf, Try.f24, List.getD, List.getElem?_cons_zero, List.getElem?_cons_succ, Option.getD_some]
@[simp] theorem n24_31 (s : List V) (H : Heap) : evCode P Γ call n f m (cAt [1, 1, 0, 1, 0, 0, 1, 1, 0, 0, 1, 0, 1, 0, 0] B24) s H = regNext (evOpsGo P Γ call r24_31.1 r24_31.1 s H) := at_region (by kernel_rfl) r24_31.2 s H
attribute [simp] r24_31
@[simp] theorem n24_32 (s : List V) (H : Heap) : evCode P Γ call n f m (cAt [1, 1, 0, 1, 0, 0, 1, 1, 0, 0, 1, 0, 1, 0, 1] B24) s H = some (.ret, s, H) := at_ret (by kernel_rfl) s H
@[simp] theorem n24_33 (s : List V) (H : Heap) : evCode P Γ call n f m (cAt [1, 1, 0, 1, 0, 0, 1, 1, 0, 0, 1, 0, 1, 1] B24) s H = some (.normal, s, H) := at_skip (by kernel_rfl) s H
@[simp] theorem n24_34 (s : List V) (H : Heap) : evCode P Γ call n f m (cAt [1, 1, 0, 1, 0, 0, 1, 1, 0, 0, 1, 1] B24) s H = seqNext P Γ call n f m (cAt [1, 1, 0, 1, 0, 0, 1, 1, 0, 0, 1, 1, 1] B24) (evCode P Γ call n f m (cAt [1, 1, 0, 1, 0, 0, 1, 1, 0, 0, 1, 1, 0] B24) s H) := at_seq (by kernel_rfl) rfl rfl s H
noncomputable def r24_35 : {l : List Oper // opsOf (cAt [1, 1, 0, 1, 0, 0, 1, 1, 0, 0, 1, 1, 0] B24) = l} := by
  apply Subtype.mk
  dsimp only [opsOf, cAt, kids, B24, bodyOf, Try.f24, List.getD, List.getElem?_cons_zero, List.getElem?_cons_succ, Option.getD_some]
@[simp] theorem n24_35 (s : List V) (H : Heap) : evCode P Γ call n f m (cAt [1, 1, 0, 1, 0, 0, 1, 1, 0, 0, 1, 1, 0] B24) s H = regNext (drawR P Γ call r24_35.1 [([], []), ([], []), ([], []), ([4, 5, 8], [34, 35, 38]), ([3, 8], [33, 38]), ([3, 8], [33, 38]), ([8], [38]), ([8], [38]), ([3, 4, 5, 6, 7], [33, 34, 35, 36, 37]), ([], []), ([], []), ([], [])] s H) := at_drawT (by kernel_rfl) r24_35.2 (by kernel_rfl) s H
attribute [simp] r24_35
@[simp] theorem n24_36 (s : List V) (H : Heap) : evCode P Γ call n f m (cAt [1, 1, 0, 1, 0, 0, 1, 1, 0, 0, 1, 1, 1] B24) s H = condW P Γ call n f m (cAt [1, 1, 0, 1, 0, 0, 1, 1, 0, 0, 1, 1, 1, 0] B24) (cAt [1, 1, 0, 1, 0, 0, 1, 1, 0, 0, 1, 1, 1, 1] B24) s H (evOperand Γ s (.tmp 41)) := at_cond (by kernel_rfl) (by kernel_rfl) rfl rfl s H
@[simp] theorem n24_37 (s : List V) (H : Heap) : evCode P Γ call n f m (cAt [1, 1, 0, 1, 0, 0, 1, 1, 0, 0, 1, 1, 1, 0] B24) s H = seqNext P Γ call n f m (cAt [1, 1, 0, 1, 0, 0, 1, 1, 0, 0, 1, 1, 1, 0, 1] B24) (evCode P Γ call n f m (cAt [1, 1, 0, 1, 0, 0, 1, 1, 0, 0, 1, 1, 1, 0, 0] B24) s H) := at_seq (by kernel_rfl) rfl rfl s H
noncomputable def r24_38 : {l : List Oper // opsOf (cAt [1, 1, 0, 1, 0, 0, 1, 1, 0, 0, 1, 1, 1, 0, 0] B24) = l} := by
  apply Subtype.mk
  dsimp only [opsOf, cAt, kids, B24, bodyOf, Try.f24, List.getD, List.getElem?_cons_zero, List.getElem?_cons_succ, Option.getD_some]
@[simp] theorem n24_38 (s : List V) (H : Heap) : evCode P Γ call n f m (cAt [1, 1, 0, 1, 0, 0, 1, 1, 0, 0, 1, 1, 1, 0, 0] B24) s H = regNext (evOpsGo P Γ call r24_38.1 r24_38.1 s H) := at_region (by kernel_rfl) r24_38.2 s H
attribute [simp] r24_38
@[simp] theorem n24_39 (s : List V) (H : Heap) : evCode P Γ call n f m (cAt [1, 1, 0, 1, 0, 0, 1, 1, 0, 0, 1, 1, 1, 0, 1] B24) s H = some (.ret, s, H) := at_ret (by kernel_rfl) s H
@[simp] theorem n24_40 (s : List V) (H : Heap) : evCode P Γ call n f m (cAt [1, 1, 0, 1, 0, 0, 1, 1, 0, 0, 1, 1, 1, 1] B24) s H = some (.normal, s, H) := at_skip (by kernel_rfl) s H
noncomputable def r24_41 : {l : List Oper // opsOf (cAt [1, 1, 0, 1, 0, 0, 1, 1, 1] B24) = l} := by
  apply Subtype.mk
  dsimp only [opsOf, cAt, kids, B24, bodyOf, Try.f24, List.getD, List.getElem?_cons_zero, List.getElem?_cons_succ, Option.getD_some]
@[simp] theorem n24_41 (s : List V) (H : Heap) : evCode P Γ call n f m (cAt [1, 1, 0, 1, 0, 0, 1, 1, 1] B24) s H = regNext (evOpsGo P Γ call r24_41.1 r24_41.1 s H) := at_region (by kernel_rfl) r24_41.2 s H
attribute [simp] r24_41
@[simp] theorem n24_42 (s : List V) (H : Heap) : evCode P Γ call n f m (cAt [1, 1, 1] B24) s H = seqNext P Γ call n f m (cAt [1, 1, 1, 1] B24) (evCode P Γ call n f m (cAt [1, 1, 1, 0] B24) s H) := at_seq (by kernel_rfl) rfl rfl s H
noncomputable def r24_43 : {l : List Oper // opsOf (cAt [1, 1, 1, 0] B24) = l} := by
  apply Subtype.mk
  dsimp only [opsOf, cAt, kids, B24, bodyOf, Try.f24, List.getD, List.getElem?_cons_zero, List.getElem?_cons_succ, Option.getD_some]
@[simp] theorem n24_43 (s : List V) (H : Heap) : evCode P Γ call n f m (cAt [1, 1, 1, 0] B24) s H = regNext (evOpsGo P Γ call r24_43.1 r24_43.1 s H) := at_region (by kernel_rfl) r24_43.2 s H
attribute [simp] r24_43
@[simp] theorem n24_44 (s : List V) (H : Heap) : evCode P Γ call n f m (cAt [1, 1, 1, 1] B24) s H = some (.ret, s, H) := at_ret (by kernel_rfl) s H
theorem b24 {k : Nat} (ho : ∀ args H, Γ.orc 24 args H = none) (args : List V) (H : Heap) (ha : args.length ≤ 43) : evF Try.prog Γ (k + 1) 24 args H = bodyEnd Try.prog [.tmp 2] H.length (evCode Try.prog Γ (evF Try.prog Γ k) k 24 H.length (cAt [] B24) (mkL 43 V.undef (enumV 0 args)) H) := body_at Try.func24 (by decide) rfl ho rfl rfl args H ha
noncomputable def B42 : Code := bodyOf Try.f42
@[simp] theorem n42_1 (s : List V) (H : Heap) : evCode P Γ call n f m (cAt [] B42) s H = seqNext P Γ call n f m (cAt [1] B42) (evCode P Γ call n f m (cAt [0] B42) s H) := at_seq (by kernel_rfl) rfl rfl s H
noncomputable def r42_2 : {l : List Oper // opsOf (cAt [0] B42) = l} := by
  apply Subtype.mk
  dsimp only [opsOf, cAt, kids, B42, bodyOf, Try.f42, List.getD, List.getElem?_cons_zero, List.getElem?_cons_succ, Option.getD_some]
@[simp] theorem n42_2 (s : List V) (H : Heap) : evCode P Γ call n f m (cAt [0] B42) s H = regNext (evOpsGo P Γ call r42_2.1 r42_2.1 s H) := at_region (by kernel_rfl) r42_2.2 s H
attribute [simp] r42_2
@[simp] theorem n42_3 (s : List V) (H : Heap) : evCode P Γ call n f m (cAt [1] B42) s H = seqNext P Γ call n f m (cAt [1, 1] B42) (evCode P Γ call n f m (cAt [1, 0] B42) s H) := at_seq (by kernel_rfl) rfl rfl s H
@[simp] theorem n42_4 (s : List V) (H : Heap) : evCode P Γ call n f m (cAt [1, 0] B42) s H = seqNext P Γ call n f m (cAt [1, 0, 1] B42) (evCode P Γ call n f m (cAt [1, 0, 0] B42) s H) := at_seq (by kernel_rfl) rfl rfl s H
noncomputable def r42_5 : {l : List Oper // opsOf (cAt [1, 0, 0] B42) = l} := by
  apply Subtype.mk
  dsimp only [opsOf, cAt, kids, B42, bodyOf, Try.f42, List.getD, List.getElem?_cons_zero, List.getElem?_cons_succ, Option.getD_some]
@[simp] theorem n42_5 (s : List V) (H : Heap) : evCode P Γ call n f m (cAt [1, 0, 0] B42) s H = regNext (evOpsGo P Γ call r42_5.1 r42_5.1 s H) := at_region (by kernel_rfl) r42_5.2 s H
attribute [simp] r42_5
@[simp] theorem n42_6 (s : List V) (H : Heap) : evCode P Γ call n f m (cAt [1, 0, 1] B42) s H = blockNext 0 (evCode P Γ call n f m (cAt [1, 0, 1, 0] B42) s H) := at_block (by kernel_rfl) rfl s H
@[simp] theorem n42_7 (s : List V) (H : Heap) : evCode P Γ call n f m (cAt [1, 0, 1, 0] B42) s H = evLoopC P Γ call n f m (cAt [1, 0, 1, 0, 0] B42) n s H := at_loop (by kernel_rfl) rfl s H
noncomputable abbrev L42_2 : Code := cAt [1, 0, 1, 0, 0] B42
@[simp] theorem n42_7f : firstRegion (cAt [1, 0, 1, 0, 0] B42) = 2 := by kernel_rfl
@[simp] theorem n42_8 (s : List V) (H : Heap) : evCode P Γ call n f m (cAt [1, 0, 1, 0, 0] B42) s H = seqNext P Γ call n f m (cAt [1, 0, 1, 0, 0, 1] B42) (evCode P Γ call n f m (cAt [1, 0, 1, 0, 0, 0] B42) s H) := at_seq (by kernel_rfl) rfl rfl s H
noncomputable def r42_9 : {l : List Oper // opsOf (cAt [1, 0, 1, 0, 0, 0] B42) = l} := by
  apply Subtype.mk
  dsimp only [opsOf, cAt, kids, B42, bodyOf, Try.f42, List.getD, List.getElem?_cons_zero, List.getElem?_cons_succ, Option.getD_some]
@[simp] theorem n42_9 (s : List V) (H : Heap) : evCode P Γ call n f m (cAt [1, 0, 1, 0, 0, 0] B42) s H = regNext (evOpsGo P Γ call r42_9.1 r42_9.1 s H) := at_region (by kernel_rfl) r42_9.2 s H
attribute [simp] r42_9
@[simp] theorem n42_10 (s : List V) (H : Heap) : evCode P Γ call n f m (cAt [1, 0, 1, 0, 0, 1] B42) s H = seqNext P Γ call n f m (cAt [1, 0, 1, 0, 0, 1, 1] B42) (evCode P Γ call n f m (cAt [1, 0, 1, 0, 0, 1, 0] B42) s H) := at_seq (by kernel_rfl) rfl rfl s H
@[simp] theorem n42_11 (s : List V) (H : Heap) : evCode P Γ call n f m (cAt [1, 0, 1, 0, 0, 1, 0] B42) s H = condW P Γ call n f m (cAt [1, 0, 1, 0, 0, 1, 0, 0] B42) (cAt [1, 0, 1, 0, 0, 1, 0, 1] B42) s H (evOperand Γ s (.tmp 25)) := at_cond (by kernel_rfl) (by kernel_rfl) rfl rfl s H
@[simp] theorem n42_12 (s : List V) (H : Heap) : evCode P Γ call n f m (cAt [1, 0, 1, 0, 0, 1, 0, 0] B42) s H = some (.normal, s, H) := at_skip (by kernel_rfl) s H
@[simp] theorem n42_13 (s : List V) (H : Heap) : evCode P Γ call n f m (cAt [1, 0, 1, 0, 0, 1, 0, 1] B42) s H = some (.exit 0, s, H) := at_exit (by kernel_rfl) s H
@[simp] theorem n42_14 (s : List V) (H : Heap) : evCode P Γ call n f m (cAt [1, 0, 1, 0, 0, 1, 1] B42) s H = seqNext P Γ call n f m (cAt [1, 0, 1, 0, 0, 1, 1, 1] B42) (evCode P Γ call n f m (cAt [1, 0, 1, 0, 0, 1, 1, 0] B42) s H) := at_seq (by kernel_rfl) rfl rfl s H
@[simp] theorem n42_15 (s : List V) (H : Heap) : evCode P Γ call n f m (cAt [1, 0, 1, 0, 0, 1, 1, 0] B42) s H = blockNext 1 (evCode P Γ call n f m (cAt [1, 0, 1, 0, 0, 1, 1, 0, 0] B42) s H) := at_block (by kernel_rfl) rfl s H
@[simp] theorem n42_16 (s : List V) (H : Heap) : evCode P Γ call n f m (cAt [1, 0, 1, 0, 0, 1, 1, 0, 0] B42) s H = seqNext P Γ call n f m (cAt [1, 0, 1, 0, 0, 1, 1, 0, 0, 1] B42) (evCode P Γ call n f m (cAt [1, 0, 1, 0, 0, 1, 1, 0, 0, 0] B42) s H) := at_seq (by kernel_rfl) rfl rfl s H
noncomputable def r42_17 : {l : List Oper // opsOf (cAt [1, 0, 1, 0, 0, 1, 1, 0, 0, 0] B42) = l} := by
  apply Subtype.mk
  dsimp only [opsOf, cAt, kids, B42, bodyOf, Try.f42, List.getD, List.getElem?_cons_zero, List.getElem?_cons_succ, Option.getD_some]
@[simp] theorem n42_17 (s : List V) (H : Heap) : evCode P Γ call n f m (cAt [1, 0, 1, 0, 0, 1, 1, 0, 0, 0] B42) s H = regNext (evOpsGo P Γ call r42_17.1 r42_17.1 s H) := at_region (by kernel_rfl) r42_17.2 s H
attribute [simp] r42_17
@[simp] theorem n42_18 (s : List V) (H : Heap) : evCode P Γ call n f m (cAt [1, 0, 1, 0, 0, 1, 1, 0, 0, 1] B42) s H = seqNext P Γ call n f m (cAt [1, 0, 1, 0, 0, 1, 1, 0, 0, 1, 1] B42) (evCode P Γ call n f m (cAt [1, 0, 1, 0, 0, 1, 1, 0, 0, 1, 0] B42) s H) := at_seq (by kernel_rfl) rfl rfl s H
noncomputable def r42_19 : {l : List Oper // opsOf (cAt [1, 0, 1, 0, 0, 1, 1, 0, 0, 1, 0] B42) = l} := by
  apply Subtype.mk
  dsimp only [opsOf, cAt, kids, B42, bodyOf, Try.f42, List.getD, List.getElem?_cons_zero, List.getElem?_cons_succ, Option.getD_some]
@[simp] theorem n42_19 (s : List V) (H : Heap) : evCode P Γ call n f m (cAt [1, 0, 1, 0, 0, 1, 1, 0, 0, 1, 0] B42) s H = regNext (evOpsGo P Γ call r42_19.1 r42_19.1 s H) := at_region (by kernel_rfl) r42_19.2 s H
attribute [simp] r42_19
@[simp] theorem n42_20 (s : List V) (H : Heap) : evCode P Γ call n f m (cAt [1, 0, 1, 0, 0, 1, 1, 0, 0, 1, 1] B42) s H = condW P Γ call n f m (cAt [1, 0, 1, 0, 0, 1, 1, 0, 0, 1, 1, 0] B42) (cAt [1, 0, 1, 0, 0, 1, 1, 0, 0, 1, 1, 1] B42) s H (evOperand Γ s (.tmp 32)) := at_cond (by kernel_rfl) (by kernel_rfl) rfl rfl s H
@[simp] theorem n42_21 (s : List V) (H : Heap) : evCode P Γ call n f m (cAt [1, 0, 1, 0, 0, 1, 1, 0, 0, 1, 1, 0] B42) s H = seqNext P Γ call n f m (cAt [1, 0, 1, 0, 0, 1, 1, 0, 0, 1, 1, 0, 1] B42) (evCode P Γ call n f m (cAt [1, 0, 1, 0, 0, 1, 1, 0, 0, 1, 1, 0, 0] B42) s H) := at_seq (by kernel_rfl) rfl rfl s H
noncomputable def r42_22 : {l : List Oper // opsOf (cAt [1, 0, 1, 0, 0, 1, 1, 0, 0, 1, 1, 0, 0] B42) = l} := by
  apply Subtype.mk
  dsimp only [opsOf, cAt, kids, B42, bodyOf, Try.f42, List.getD, List.getElem?_cons_zero, List.getElem?_cons_succ, Option.getD_some]
@[simp] theorem n42_22 (s : List V) (H : Heap) : evCode P Γ call n f m (cAt [1, 0, 1, 0, 0, 1, 1, 0, 0, 1, 1, 0, 0] B42) s H = regNext (evOpsGo P Γ call r42_22.1 r42_22.1 s H) := at_region (by kernel_rfl) r42_22.2 s H
attribute [simp] r42_22
@[simp] theorem n42_23 (s : List V) (H : Heap) : evCode P Γ call n f m (cAt [1, 0, 1, 0, 0, 1, 1, 0, 0, 1, 1, 0, 1] B42) s H = some (.ret, s, H) := at_ret (by kernel_rfl) s H
@[simp] theorem n42_24 (s : List V) (H : Heap) : evCode P Γ call n f m (cAt [1, 0, 1, 0, 0, 1, 1, 0, 0, 1, 1, 1] B42) s H = some (.normal, s, H) := at_skip (by kernel_rfl) s H
noncomputable def r42_25 : {l : List Oper // opsOf (cAt [1, 0, 1, 0, 0, 1, 1, 1] B42) = l} := by
  apply Subtype.mk
  dsimp only [opsOf, cAt, kids, B42, bodyOf, Try.f42, List.getD, List.getElem?_cons_zero, List.getElem?_cons_succ, Option.getD_some]
@[simp] theorem n42_25 (s : List V) (H : Heap) : evCode P Γ call n f m (cAt [1, 0, 1, 0, 0, 1, 1, 1] B42) s H = regNext (evOpsGo P Γ call r42_25.1 r42_25.1 s H) := at_region (by kernel_rfl) r42_25.2 s H
attribute [simp] r42_25
@[simp] theorem n42_26 (s : List V) (H : Heap) : evCode P Γ call n f m (cAt [1, 1] B42) s H = seqNext P Γ call n f m (cAt [1, 1, 1] B42) (evCode P Γ call n f m (cAt [1, 1, 0] B42) s H) := at_seq (by kernel_rfl) rfl rfl s H
noncomputable def r42_27 : {l : List Oper // opsOf (cAt [1, 1, 0] B42) = l} := by
  apply Subtype.mk
  dsimp only [opsOf, cAt, kids, B42, bodyOf, Try.f42, List.getD, List.getElem?_cons_zero, List.getElem?_cons_succ, Option.getD_some]
@[simp] theorem n42_27 (s : List V) (H : Heap) : evCode P Γ call n f m (cAt [1, 1, 0] B42) s H = regNext (evOpsGo P Γ call r42_27.1 r42_27.1 s H) := at_region (by kernel_rfl) r42_27.2 s H
attribute [simp] r42_27
@[simp] theorem n42_28 (s : List V) (H : Heap) : evCode P Γ call n f m (cAt [1, 1, 1] B42) s H = some (.ret, s, H) := at_ret (by kernel_rfl) s H
theorem b42 {k : Nat} (ho : ∀ args H, Γ.orc 42 args H = none) (args : List V) (H : Heap) (ha : args.length ≤ 39) : evF Try.prog Γ (k + 1) 42 args H = bodyEnd Try.prog [.tmp 4] H.length (evCode Try.prog Γ (evF Try.prog Γ k) k 42 H.length (cAt [] B42) (mkL 39 V.undef (enumV 0 args)) H) := body_at Try.func42 (by decide) rfl ho rfl rfl args H ha
noncomputable def B43 : Code := bodyOf Try.f43
@[simp] theorem n43_1 (s : List V) (H : Heap) : evCode P Γ call n f m (cAt [] B43) s H = seqNext P Γ call n f m (cAt [1] B43) (evCode P Γ call n f m (cAt [0] B43) s H) := at_seq (by kernel_rfl) rfl rfl s H
noncomputable def r43_2 : {l : List Oper // opsOf (cAt [0] B43) = l} := by
  apply Subtype.mk
  dsimp only [opsOf, cAt, kids, B43, bodyOf, Try.f43, List.getD, List.getElem?_cons_zero, List.getElem?_cons_succ, Option.getD_some]
@[simp] theorem n43_2 (s : List V) (H : Heap) : evCode P Γ call n f m (cAt [0] B43) s H = regNext (evOpsGo P Γ call r43_2.1 r43_2.1 s H) := at_region (by kernel_rfl) r43_2.2 s H
attribute [simp] r43_2
@[simp] theorem n43_3 (s : List V) (H : Heap) : evCode P Γ call n f m (cAt [1] B43) s H = seqNext P Γ call n f m (cAt [1, 1] B43) (evCode P Γ call n f m (cAt [1, 0] B43) s H) := at_seq (by kernel_rfl) rfl rfl s H
noncomputable def r43_4 : {l : List Oper // opsOf (cAt [1, 0] B43) = l} := by
  apply Subtype.mk
  dsimp only [opsOf, cAt, kids, B43, bodyOf, Try.f43, List.getD, List.getElem?_cons_zero, List.getElem?_cons_succ, Option.getD_some]
@[simp] theorem n43_4 (s : List V) (H : Heap) : evCode P Γ call n f m (cAt [1, 0] B43) s H = regNext (evOpsGo P Γ call r43_4.1 r43_4.1 s H) := at_region (by kernel_rfl) r43_4.2 s H
attribute [simp] r43_4
@[simp] theorem n43_5 (s : List V) (H : Heap) : evCode P Γ call n f m (cAt [1, 1] B43) s H = seqNext P Γ call n f m (cAt [1, 1, 1] B43) (evCode P Γ call n f m (cAt [1, 1, 0] B43) s H) := at_seq (by kernel_rfl) rfl rfl s H
noncomputable def r43_6 : {l : List Oper // opsOf (cAt [1, 1, 0] B43) = l} := by
  apply Subtype.mk
  dsimp only [opsOf, cAt, kids, B43, bodyOf, Try.f43, List.getD, List.getElem?_cons_zero, List.getElem?_cons_succ, Option.getD_some]
@[simp] theorem n43_6 (s : List V) (H : Heap) : evCode P Γ call n f m (cAt [1, 1, 0] B43) s H = regNext (evOpsGo P Γ call r43_6.1 r43_6.1 s H) := at_region (by kernel_rfl) r43_6.2 s H
attribute [simp] r43_6
@[simp] theorem n43_7 (s : List V) (H : Heap) : evCode P Γ call n f m (cAt [1, 1, 1] B43) s H = seqNext P Γ call n f m (cAt [1, 1, 1, 1] B43) (evCode P Γ call n f m (cAt [1, 1, 1, 0] B43) s H) := at_seq (by kernel_rfl) rfl rfl s H
@[simp] theorem n43_8 (s : List V) (H : Heap) : evCode P Γ call n f m (cAt [1, 1, 1, 0] B43) s H = seqNext P Γ call n f m (cAt [1, 1, 1, 0, 1] B43) (evCode P Γ call n f m (cAt [1, 1, 1, 0, 0] B43) s H) := at_seq (by kernel_rfl) rfl rfl s H
noncomputable def r43_9 : {l : List Oper // opsOf (cAt [1, 1, 1, 0, 0] B43) = l} := by
  apply Subtype.mk
  dsimp only [opsOf, cAt, kids, B43, bodyOf, Try.f43, List.getD, List.getElem?_cons_zero, List.getElem?_cons_succ, Option.getD_some]
@[simp] theorem n43_9 (s : List V) (H : Heap) : evCode P Γ call n f m (cAt [1, 1, 1, 0, 0] B43) s H = regNext (evOpsGo P Γ call r43_9.1 r43_9.1 s H) := at_region (by kernel_rfl) r43_9.2 s H
attribute [simp] r43_9
@[simp] theorem n43_10 (s : List V) (H : Heap) : evCode P Γ call n f m (cAt [1, 1, 1, 0, 1] B43) s H = condW P Γ call n f m (cAt [1, 1, 1, 0, 1, 0] B43) (cAt [1, 1, 1, 0, 1, 1] B43) s H (evOperand Γ s (.tmp 16)) := at_cond (by kernel_rfl) (by kernel_rfl) rfl rfl s H
@[simp] theorem n43_11 (s : List V) (H : Heap) : evCode P Γ call n f m (cAt [1, 1, 1, 0, 1, 0] B43) s H = seqNext P Γ call n f m (cAt [1, 1, 1, 0, 1, 0, 1] B43) (evCode P Γ call n f m (cAt [1, 1, 1, 0, 1, 0, 0] B43) s H) := at_seq (by kernel_rfl) rfl rfl s H
noncomputable def r43_12 : {l : List Oper // opsOf (cAt [1, 1, 1, 0, 1, 0, 0] B43) = l} := by
  apply Subtype.mk
  dsimp only [opsOf, cAt, kids, B43, bodyOf, Try.f43, List.getD, List.getElem?_cons_zero, List.getElem?_cons_succ, Option.getD_some]
@[simp] theorem n43_12 (s : List V) (H : Heap) : evCode P Γ call n f m (cAt [1, 1, 1, 0, 1, 0, 0] B43) s H = regNext (evOpsGo P Γ call r43_12.1 r43_12.1 s H) := at_region (by kernel_rfl) r43_12.2 s H
attribute [simp] r43_12
@[simp] theorem n43_13 (s : List V) (H : Heap) : evCode P Γ call n f m (cAt [1, 1, 1, 0, 1, 0, 1] B43) s H = some (.ret, s, H) := at_ret (by kernel_rfl) s H
@[simp] theorem n43_14 (s : List V) (H : Heap) : evCode P Γ call n f m (cAt [1, 1, 1, 0, 1, 1] B43) s H = some (.normal, s, H) := at_skip (by kernel_rfl) s H
@[simp] theorem n43_15 (s : List V) (H : Heap) : evCode P Γ call n f m (cAt [1, 1, 1, 1] B43) s H = seqNext P Γ call n f m (cAt [1, 1, 1, 1, 1] B43) (evCode P Γ call n f m (cAt [1, 1, 1, 1, 0] B43) s H) := at_seq (by kernel_rfl) rfl rfl s H
noncomputable def r43_16 : {l : List Oper // opsOf (cAt [1, 1, 1, 1, 0] B43) = l} := by
  apply Subtype.mk
  dsimp only [opsOf, cAt, kids, B43, bodyOf, Try.f43, List.getD, List.getElem?_cons_zero, List.getElem?_cons_succ, Option.getD_some]
@[simp] theorem n43_16 (s : List V) (H : Heap) : evCode P Γ call n f m (cAt [1, 1, 1, 1, 0] B43) s H = regNext (evOpsGo P Γ call r43_16.1 r43_16.1 s H) := at_region (by kernel_rfl) r43_16.2 s H
attribute [simp] r43_16
@[simp] theorem n43_17 (s : List V) (H : Heap) : evCode P Γ call n f m (cAt [1, 1, 1, 1, 1] B43) s H = seqNext P Γ call n f m (cAt [1, 1, 1, 1, 1, 1] B43) (evCode P Γ call n f m (cAt [1, 1, 1, 1, 1, 0] B43) s H) := at_seq (by kernel_rfl) rfl rfl s H
@[simp] theorem n43_18 (s : List V) (H : Heap) : evCode P Γ call n f m (cAt [1, 1, 1, 1, 1, 0] B43) s H = seqNext P Γ call n f m (cAt [1, 1, 1, 1, 1, 0, 1] B43) (evCode P Γ call n f m (cAt [1, 1, 1, 1, 1, 0, 0] B43) s H) := at_seq (by kernel_rfl) rfl rfl s H
noncomputable def r43_19 : {l : List Oper // opsOf (cAt [1, 1, 1, 1, 1, 0, 0] B43) = l} := by
  apply Subtype.mk
  dsimp only [opsOf, cAt, kids, B43, bodyOf, Try.f43, List.getD, List.getElem?_cons_zero, List.getElem?_cons_succ, Option.getD_some]
@[simp] theorem n43_19 (s : List V) (H : Heap) : evCode P Γ call n f m (cAt [1, 1, 1, 1, 1, 0, 0] B43) s H = regNext (evOpsGo P Γ call r43_19.1 r43_19.1 s H) := at_region (by kernel_rfl) r43_19.2 s H
attribute [simp] r43_19
@[simp] theorem n43_20 (s : List V) (H : Heap) : evCode P Γ call n f m (cAt [1, 1, 1, 1, 1, 0, 1] B43) s H = condW P Γ call n f m (cAt [1, 1, 1, 1, 1, 0, 1, 0] B43) (cAt [1, 1, 1, 1, 1, 0, 1, 1] B43) s H (evOperand Γ s (.tmp 22)) := at_cond (by kernel_rfl) (by kernel_rfl) rfl rfl s H
@[simp] theorem n43_21 (s : List V) (H : Heap) : evCode P Γ call n f m (cAt [1, 1, 1, 1, 1, 0, 1, 0] B43) s H = seqNext P Γ call n f m (cAt [1, 1, 1, 1, 1, 0, 1, 0, 1] B43) (evCode P Γ call n f m (cAt [1, 1, 1, 1, 1, 0, 1, 0, 0] B43) s H) := at_seq (by kernel_rfl) rfl rfl s H
noncomputable def r43_22 : {l : List Oper // opsOf (cAt [1, 1, 1, 1, 1, 0, 1, 0, 0] B43) = l} := by
  apply Subtype.mk
  dsimp only [opsOf, cAt, kids, B43, bodyOf, Try.f43, List.getD, List.getElem?_cons_zero, List.getElem?_cons_succ, Option.getD_some]
@[simp] theorem n43_22 (s : List V) (H : Heap) : evCode P Γ call n f m (cAt [1, 1, 1, 1, 1, 0, 1, 0, 0] B43) s H = regNext (evOpsGo P Γ call r43_22.1 r43_22.1 s H) := at_region (by kernel_rfl) r43_22.2 s H
attribute [simp] r43_22
@[simp] theorem n43_23 (s : List V) (H : Heap) : evCode P Γ call n f m (cAt [1, 1, 1, 1, 1, 0, 1, 0, 1] B43) s H = some (.ret, s, H) := at_ret (by kernel_rfl) s H
@[simp] theorem n43_24 (s : List V) (H : Heap) : evCode P Γ call n f m (cAt [1, 1, 1, 1, 1, 0, 1, 1] B43) s H = some (.normal, s, H) := at_skip (by kernel_rfl) s H
@[simp] theorem n43_25 (s : List V) (H : Heap) : evCode P Γ call n f m (cAt [1, 1, 1, 1, 1, 1] B43) s H = seqNext P Γ call n f m (cAt [1, 1, 1, 1, 1, 1, 1] B43) (evCode P Γ call n f m (cAt [1, 1, 1, 1, 1, 1, 0] B43) s H) := at_seq (by kernel_rfl) rfl rfl s H
@[simp] theorem n43_26 (s : List V) (H : Heap) : evCode P Γ call n f m (cAt [1, 1, 1, 1, 1, 1, 0] B43) s H = seqNext P Γ call n f m (cAt [1, 1, 1, 1, 1, 1, 0, 1] B43) (evCode P Γ call n f m (cAt [1, 1, 1, 1, 1, 1, 0, 0] B43) s H) := at_seq (by kernel_rfl) rfl rfl s H
noncomputable def r43_27 : {l : List Oper // opsOf (cAt [1, 1, 1, 1, 1, 1, 0, 0] B43) = l} := by
  apply Subtype.mk
  dsimp only [opsOf, cAt, kids, B43, bodyOf, Try.f43, List.getD, List.getElem?_cons_zero, List.getElem?_cons_succ, Option.getD_some]
@[simp] theorem n43_27 (s : List V) (H : Heap) : evCode P Γ call n f m (cAt [1, 1, 1, 1, 1, 1, 0, 0] B43) s H = regNext (evOpsGo P Γ call r43_27.1 r43_27.1 s H) := at_region (by kernel_rfl) r43_27.2 s H
attribute [simp] r43_27
@[simp] theorem n43_28 (s : List V) (H : Heap) : evCode P Γ call n f m (cAt [1, 1, 1, 1, 1, 1, 0, 1] B43) s H = condW P Γ call n f m (cAt [1, 1, 1, 1, 1, 1, 0, 1, 0] B43) (cAt [1, 1, 1, 1, 1, 1, 0, 1, 1] B43) s H (evOperand Γ s (.tmp 31)) := at_cond (by kernel_rfl) (by kernel_rfl) rfl rfl s H
@[simp] theorem n43_29 (s : List V) (H : Heap) : evCode P Γ call n f m (cAt [1, 1, 1, 1, 1, 1, 0, 1, 0] B43) s H = seqNext P Γ call n f m (cAt [1, 1, 1, 1, 1, 1, 0, 1, 0, 1] B43) (evCode P Γ call n f m (cAt [1, 1, 1, 1, 1, 1, 0, 1, 0, 0] B43) s H) := at_seq (by kernel_rfl) rfl rfl s H
noncomputable def r43_30 : {l : List Oper // opsOf (cAt [1, 1, 1, 1, 1, 1, 0, 1, 0, 0] B43) = l} := by
  apply Subtype.mk
  dsimp only [opsOf, cAt, kids, B43, bodyOf, Try.f43, List.getD, List.getElem?_cons_zero, List.getElem?_cons_succ, Option.getD_some]
@[simp] theorem n43_30 (s : List V) (H : Heap) : evCode P Γ call n f m (cAt [1, 1, 1, 1, 1, 1, 0, 1, 0, 0] B43) s H = regNext (evOpsGo P Γ call r43_30.1 r43_30.1 s H) := at_region (by kernel_rfl) r43_30.2 s H
attribute [simp] r43_30
@[simp] theorem n43_31 (s : List V) (H : Heap) : evCode P Γ call n f m (cAt [1, 1, 1, 1, 1, 1, 0, 1, 0, 1] B43) s H = seqNext P Γ call n f m (cAt [1, 1, 1, 1, 1, 1, 0, 1, 0, 1, 1] B43) (evCode P Γ call n f m (cAt [1, 1, 1, 1, 1, 1, 0, 1, 0, 1, 0] B43) s H) := at_seq (by kernel_rfl) rfl rfl s H
noncomputable def r43_32 : {l : List Oper // opsOf (cAt [1, 1, 1, 1, 1, 1, 0, 1, 0, 1, 0] B43) = l} := by
  apply Subtype.mk
  dsimp only [opsOf, cAt, kids, B43, bodyOf, Try.f43, List.getD, List.getElem?_cons_zero, List.getElem?_cons_succ, Option.getD_some]
@[simp] theorem n43_32 (s : List V) (H : Heap) : evCode P Γ call n f m (cAt [1, 1, 1, 1, 1, 1, 0, 1, 0, 1, 0] B43) s H = regNext (evOpsGo P Γ call r43_32.1 r43_32.1 s H) := at_region (by kernel_rfl) r43_32.2 s H
attribute [simp] r43_32
@[simp] theorem n43_33 (s : List V) (H : Heap) : evCode P Γ call n f m (cAt [1, 1, 1, 1, 1, 1, 0, 1, 0, 1, 1] B43) s H = seqNext P Γ call n f m (cAt [1, 1, 1, 1, 1, 1, 0, 1, 0, 1, 1, 1] B43) (evCode P Γ call n f m (cAt [1, 1, 1, 1, 1, 1, 0, 1, 0, 1, 1, 0] B43) s H) := at_seq (by kernel_rfl) rfl rfl s H
noncomputable def r43_34 : {l : List Oper // opsOf (cAt [1, 1, 1, 1, 1, 1, 0, 1, 0, 1, 1, 0] B43) = l} := by
  apply Subtype.mk
  dsimp only [opsOf, cAt, kids, B43, bodyOf, Try.f43, List.getD, List.getElem?_cons_zero, List.getElem?_cons_succ, Option.getD_some]
@[simp] theorem n43_34 (s : List V) (H : Heap) : evCode P Γ call n f m (cAt [1, 1, 1, 1, 1, 1, 0, 1, 0, 1, 1, 0] B43) s H = regNext (drawR P Γ call r43_34.1 [([1, 2, 3, 5, 6, 7], [47, 48, 49, 51, 52, 53]), ([0, 2, 5, 6, 7], [46, 48, 51, 52, 53]), ([0, 1, 5, 6, 7], [46, 47, 51, 52, 53]), ([0, 5, 6, 7], [46, 51, 52, 53]), ([5, 6, 7], [51, 52, 53]), ([0, 1, 2, 3, 4, 6], [46, 47, 48, 49, 50, 52]), ([0, 1, 2, 3, 4, 5], [46, 47, 48, 49, 50, 51]), ([0, 1, 2, 3, 4], [46, 47, 48, 49, 50]), ([], [])] s H) := at_drawT (by kernel_rfl) r43_34.2 (by kernel_rfl) s H
attribute [simp] r43_34
@[simp] theorem n43_35 (s : List V) (H : Heap) : evCode P Γ call n f m (cAt [1, 1, 1, 1, 1, 1, 0, 1, 0, 1, 1, 1] B43) s H = seqNext P Γ call n f m (cAt [1, 1, 1, 1, 1, 1, 0, 1, 0, 1, 1, 1, 1] B43) (evCode P Γ call n f m (cAt [1, 1, 1, 1, 1, 1, 0, 1, 0, 1, 1, 1, 0] B43) s H) := at_seq (by kernel_rfl) rfl rfl s H
noncomputable def r43_36 : {l : List Oper // opsOf (cAt [1, 1, 1, 1, 1, 1, 0, 1, 0, 1, 1, 1, 0] B43) = l} := by
  apply Subtype.mk
  dsimp only [opsOf, cAt, kids, B43, bodyOf, Try.f43, List.getD, List.getElem?_cons_zero, List.getElem?_cons_succ, Option.getD_some]
@[simp] theorem n43_36 (s : List V) (H : Heap) : evCode P Γ call n f m (cAt [1, 1, 1, 1, 1, 1, 0, 1, 0, 1, 1, 1, 0] B43) s H = regNext (evOpsGo P Γ call r43_36.1 r43_36.1 s H) := at_region (by kernel_rfl) r43_36.2 s H
attribute [simp] r43_36
@[simp] theorem n43_37 (s : List V) (H : Heap) : evCode P Γ call n f m (cAt [1, 1, 1, 1, 1, 1, 0, 1, 0, 1, 1, 1, 1] B43) s H = some (.ret, s, H) := at_ret (by kernel_rfl) s H
@[simp] theorem n43_38 (s : List V) (H : Heap) : evCode P Γ call n f m (cAt [1, 1, 1, 1, 1, 1, 0, 1, 1] B43) s H = some (.normal, s, H) := at_skip (by kernel_rfl) s H
@[simp] theorem n43_39 (s : List V) (H : Heap) : evCode P Γ call n f m (cAt [1, 1, 1, 1, 1, 1, 1] B43) s H = seqNext P Γ call n f m (cAt [1, 1, 1, 1, 1, 1, 1, 1] B43) (evCode P Γ call n f m (cAt [1, 1, 1, 1, 1, 1, 1, 0] B43) s H) := at_seq (by kernel_rfl) rfl rfl s H
noncomputable def r43_40 : {l : List Oper // opsOf (cAt [1, 1, 1, 1, 1, 1, 1, 0] B43) = l} := by
  apply Subtype.mk
  dsimp only [opsOf, cAt, kids, B43, bodyOf, Try.f43, List.getD, List.getElem?_cons_zero, List.getElem?_cons_succ, Option.getD_some]
@[simp] theorem n43_40 (s : List V) (H : Heap) : evCode P Γ call n f m (cAt [1, 1, 1, 1, 1, 1, 1, 0] B43) s H = regNext (evOpsGo P Γ call r43_40.1 r43_40.1 s H) := at_region (by kernel_rfl) r43_40.2 s H
attribute [simp] r43_40
@[simp] theorem n43_41 (s : List V) (H : Heap) : evCode P Γ call n f m (cAt [1, 1, 1, 1, 1, 1, 1, 1] B43) s H = seqNext P Γ call n f m (cAt [1, 1, 1, 1, 1, 1, 1, 1, 1] B43) (evCode P Γ call n f m (cAt [1, 1, 1, 1, 1, 1, 1, 1, 0] B43) s H) := at_seq (by kernel_rfl) rfl rfl s H
@[simp] theorem n43_42 (s : List V) (H : Heap) : evCode P Γ call n f m (cAt [1, 1, 1, 1, 1, 1, 1, 1, 0] B43) s H = seqNext P Γ call n f m (cAt [1, 1, 1, 1, 1, 1, 1, 1, 0, 1] B43) (evCode P Γ call n f m (cAt [1, 1, 1, 1, 1, 1, 1, 1, 0, 0] B43) s H) := at_seq (by kernel_rfl) rfl rfl s H
noncomputable def r43_43 : {l : List Oper // opsOf (cAt [1, 1, 1, 1, 1, 1, 1, 1, 0, 0] B43) = l} := by
  apply Subtype.mk
  dsimp only [opsOf, cAt, kids, B43, bodyOf, Try.f43, List.getD, List.getElem?_cons_zero, List.getElem?_cons_succ, Option.getD_some]
@[simp] theorem n43_43 (s : List V) (H : Heap) : evCode P Γ call n f m (cAt [1, 1, 1, 1, 1, 1, 1, 1, 0, 0] B43) s H = regNext (evOpsGo P Γ call r43_43.1 r43_43.1 s H) := at_region (by kernel_rfl) r43_43.2 s H
attribute [simp] r43_43
@[simp] theorem n43_44 (s : List V) (H : Heap) : evCode P Γ call n f m (cAt [1, 1, 1, 1, 1, 1, 1, 1, 0, 1] B43) s H = condW P Γ call n f m (cAt [1, 1, 1, 1, 1, 1, 1, 1, 0, 1, 0] B43) (cAt [1, 1, 1, 1, 1, 1, 1, 1, 0, 1, 1] B43) s H (evOperand Γ s (.tmp 68)) := at_cond (by kernel_rfl) (by kernel_rfl) rfl rfl s H
@[simp] theorem n43_45 (s : List V) (H : Heap) : evCode P Γ call n f m (cAt [1, 1, 1, 1, 1, 1, 1, 1, 0, 1, 0] B43) s H = seqNext P Γ call n f m (cAt [1, 1, 1, 1, 1, 1, 1, 1, 0, 1, 0, 1] B43) (evCode P Γ call n f m (cAt [1, 1, 1, 1, 1, 1, 1, 1, 0, 1, 0, 0] B43) s H) := at_seq (by kernel_rfl) rfl rfl s H
noncomputable def r43_46 : {l : List Oper // opsOf (cAt [1, 1, 1, 1, 1, 1, 1, 1, 0, 1, 0, 0] B43) = l} := by
  apply Subtype.mk
  dsimp only [opsOf, cAt, kids, B43, bodyOf, Try.f43, List.getD, List.getElem?_cons_zero, List.getElem?_cons_succ, Option.getD_some]
@[simp] theorem n43_46 (s : List V) (H : Heap) : evCode P Γ call n f m (cAt [1, 1, 1, 1, 1, 1, 1, 1, 0, 1, 0, 0] B43) s H = regNext (drawR P Γ call r43_46.1 [([1, 2, 3, 5, 6, 7], [70, 71, 72, 74, 75, 76]), ([0, 2, 5, 6, 7], [69, 71, 74, 75, 76]), ([0, 1, 5, 6, 7], [69, 70, 74, 75, 76]), ([0, 5, 6, 7], [69, 74, 75, 76]), ([5, 6, 7], [74, 75, 76]), ([0, 1, 2, 3, 4, 6], [69, 70, 71, 72, 73, 75]), ([0, 1, 2, 3, 4, 5], [69, 70, 71, 72, 73, 74]), ([0, 1, 2, 3, 4], [69, 70, 71, 72, 73]), ([], [])] s H) := at_drawT (by kernel_rfl) r43_46.2 (by kernel_rfl) s H
attribute [simp] r43_46
@[simp] theorem n43_47 (s : List V) (H : Heap) : evCode P Γ call n f m (cAt [1, 1, 1, 1, 1, 1, 1, 1, 0, 1, 0, 1] B43) s H = seqNext P Γ call n f m (cAt [1, 1, 1, 1, 1, 1, 1, 1, 0, 1, 0, 1, 1] B43) (evCode P Γ call n f m (cAt [1, 1, 1, 1, 1, 1, 1, 1, 0, 1, 0, 1, 0] B43) s H) := at_seq (by kernel_rfl) rfl rfl s H
noncomputable def r43_48 : {l : List Oper // opsOf (cAt [1, 1, 1, 1, 1, 1, 1, 1, 0, 1, 0, 1, 0] B43) = l} := by
  apply Subtype.mk
  dsimp only [opsOf, cAt, kids, B43, bodyOf, Try.f43, List.getD, List.getElem?_cons_zero, List.getElem?_cons_succ, Option.getD_some]
@[simp] theorem n43_48 (s : List V) (H : Heap) : evCode P Γ call n f m (cAt [1, 1, 1, 1, 1, 1, 1, 1, 0, 1, 0, 1, 0] B43) s H = regNext (evOpsGo P Γ call r43_48.1 r43_48.1 s H) := at_region (by kernel_rfl) r43_48.2 s H
attribute [simp] r43_48
@[simp] theorem n43_49 (s : List V) (H : Heap) : evCode P Γ call n f m (cAt [1, 1, 1, 1, 1, 1, 1, 1, 0, 1, 0, 1, 1] B43) s H = seqNext P Γ call n f m (cAt [1, 1, 1, 1, 1, 1, 1, 1, 0, 1, 0, 1, 1, 1] B43) (evCode P Γ call n f m (cAt [1, 1, 1, 1, 1, 1, 1, 1, 0, 1, 0, 1, 1, 0] B43) s H) := at_seq (by kernel_rfl) rfl rfl s H
noncomputable def r43_50 : {l : List Oper // opsOf (cAt [1, 1, 1, 1, 1, 1, 1, 1, 0, 1, 0, 1, 1, 0] B43) = l} := by
  apply Subtype.mk
  dsimp only [opsOf, cAt, kids, B43, bodyOf, Try.f43, List.getD, List.getElem?_cons_zero, List.getElem?_cons_succ, Option.getD_some]
@[simp] theorem n43_50 (s : List V) (H : Heap) : evCode P Γ call n f m (cAt [1, 1, 1, 1, 1, 1, 1, 1, 0, 1, 0, 1, 1, 0] B43) s H = regNext (evOpsGo P Γ call r43_50.1 r43_50.1 s H) := at_region (by kernel_rfl) r43_50.2 s H
attribute [simp] r43_50
@[simp] theorem n43_51 (s : List V) (H : Heap) : evCode P Γ call n f m (cAt [1, 1, 1, 1, 1, 1, 1, 1, 0, 1, 0, 1, 1, 1] B43) s H = some (.ret, s, H) := at_ret (by kernel_rfl) s H
@[simp] theorem n43_52 (s : List V) (H : Heap) : evCode P Γ call n f m (cAt [1, 1, 1, 1, 1, 1, 1, 1, 0, 1, 1] B43) s H = some (.normal, s, H) := at_skip (by kernel_rfl) s H
@[simp] theorem n43_53 (s : List V) (H : Heap) : evCode P Γ call n f m (cAt [1, 1, 1, 1, 1, 1, 1, 1, 1] B43) s H = seqNext P Γ call n f m (cAt [1, 1, 1, 1, 1, 1, 1, 1, 1, 1] B43) (evCode P Γ call n f m (cAt [1, 1, 1, 1, 1, 1, 1, 1, 1, 0] B43) s H) := at_seq (by kernel_rfl) rfl rfl s H
noncomputable def r43_54 : {l : List Oper // opsOf (cAt [1, 1, 1, 1, 1, 1, 1, 1, 1, 0] B43) = l} := by
  apply Subtype.mk
  dsimp only [opsOf, cAt, kids, B43, bodyOf, Try.f43, List.getD, List.getElem?_cons_zero, List.getElem?_cons_succ, Option.getD_some]
@[simp] theorem n43_54 (s : List V) (H : Heap) : evCode P Γ call n f m (cAt [1, 1, 1, 1, 1, 1, 1, 1, 1, 0] B43) s H = regNext (evOpsGo P Γ call r43_54.1 r43_54.1 s H) := at_region (by kernel_rfl) r43_54.2 s H
attribute [simp] r43_54
@[simp] theorem n43_55 (s : List V) (H : Heap) : evCode P Γ call n f m (cAt [1, 1, 1, 1, 1, 1, 1, 1, 1, 1] B43) s H = seqNext P Γ call n f m (cAt [1, 1, 1, 1, 1, 1, 1, 1, 1, 1, 1] B43) (evCode P Γ call n f m (cAt [1, 1, 1, 1, 1, 1, 1, 1, 1, 1, 0] B43) s H) := at_seq (by kernel_rfl) rfl rfl s H
noncomputable def r43_56 : {l : List Oper // opsOf (cAt [1, 1, 1, 1, 1, 1, 1, 1, 1, 1, 0] B43) = l} := by
  apply Subtype.mk
  dsimp only [opsOf, cAt, kids, B43, bodyOf, Try.f43, List.getD, List.getElem?_cons_zero, List.getElem?_cons_succ, Option.getD_some]
@[simp] theorem n43_56 (s : List V) (H : Heap) : evCode P Γ call n f m (cAt [1, 1, 1, 1, 1, 1, 1, 1, 1, 1, 0] B43) s H = regNext (evOpsGo P Γ call r43_56.1 r43_56.1 s H) := at_region (by kernel_rfl) r43_56.2 s H
attribute [simp] r43_56
@[simp] theorem n43_57 (s : List V) (H : Heap) : evCode P Γ call n f m (cAt [1, 1, 1, 1, 1, 1, 1, 1, 1, 1, 1] B43) s H = seqNext P Γ call n f m (cAt [1, 1, 1, 1, 1, 1, 1, 1, 1, 1, 1, 1] B43) (evCode P Γ call n f m (cAt [1, 1, 1, 1, 1, 1, 1, 1, 1, 1, 1, 0] B43) s H) := at_seq (by kernel_rfl) rfl rfl s H
noncomputable def r43_58 : {l : List Oper // opsOf (cAt [1, 1, 1, 1, 1, 1, 1, 1, 1, 1, 1, 0] B43) = l} := by
  apply Subtype.mk
  dsimp only [opsOf, cAt, kids, B43, bodyOf, Try.f43, List.getD, List.getElem?_cons_zero, List.getElem?_cons_succ, Option.getD_some]
@[simp] theorem n43_58 (s : List V) (H : Heap) : evCode P Γ call n f m (cAt [1, 1, 1, 1, 1, 1, 1, 1, 1, 1, 1, 0] B43) s H = regNext (evOpsGo P Γ call r43_58.1 r43_58.1 s H) := at_region (by kernel_rfl) r43_58.2 s H
attribute [simp] r43_58
@[simp] theorem n43_59 (s : List V) (H : Heap) : evCode P Γ call n f m (cAt [1, 1, 1, 1, 1, 1, 1, 1, 1, 1, 1, 1] B43) s H = some (.ret, s, H) := at_ret (by kernel_rfl) s H
theorem b43 {k : Nat} (ho : ∀ args H, Γ.orc 43 args H = none) (args : List V) (H : Heap) (ha : args.length ≤ 95) : evF Try.prog Γ (k + 1) 43 args H = bodyEnd Try.prog [.tmp 6] H.length (evCode Try.prog Γ (evF Try.prog Γ k) k 43 H.length (cAt [] B43) (mkL 95 V.undef (enumV 0 args)) H) := body_at Try.func43 (by decide) rfl ho rfl rfl args H ha
end
end Go.Ev.Try
