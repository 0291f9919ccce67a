/-
  CODE BY NAMES, printed by wip/tools/codes.py (own work).
-/
import Derived.Test.YtflmadkbppnmcaaCkG
set_option maxRecDepth 100000
set_option linter.unusedVariables false
namespace Go.Ev.Try
open Go Go.Ev Go.Proofs
section
variable {P : Program} {Γ : Env} {call : CallF} {n f m : Nat}

noncomputable def B5 : Code := bodyOf Try.f5
@[simp] theorem n5_1 (s : List V) (H : Heap) : evCode P Γ call n f m (cAt [] B5) s H = seqNext P Γ call n f m (cAt [1] B5) (evCode P Γ call n f m (cAt [0] B5) s H) := at_seq (by kernel_rfl) rfl rfl s H
noncomputable def r5_2 : {l : List Oper // opsOf (cAt [0] B5) = l} := by
  apply Subtype.mk
  dsimp only [opsOf, cAt, kids, B5, bodyOf, Try.f5, List.getD, List.getElem?_cons_zero, List.getElem?_cons_succ, Option.getD_some]
@[simp] theorem n5_2 (s : List V) (H : Heap) : evCode P Γ call n f m (cAt [0] B5) s H = regNext (evOpsGo P Γ call r5_2.1 r5_2.1 s H) := at_region (by kernel_rfl) r5_2.2 s H
attribute [simp] r5_2
@[simp] theorem n5_3 (s : List V) (H : Heap) : evCode P Γ call n f m (cAt [1] B5) s H = seqNext P Γ call n f m (cAt [1, 1] B5) (evCode P Γ call n f m (cAt [1, 0] B5) s H) := at_seq (by kernel_rfl) rfl rfl s H
noncomputable def r5_4 : {l : List Oper // opsOf (cAt [1, 0] B5) = l} := by
  apply Subtype.mk
  dsimp only [opsOf, cAt, kids, B5, bodyOf, Try.f5, List.getD, List.getElem?_cons_zero, List.getElem?_cons_succ, Option.getD_some]
@[simp] theorem n5_4 (s : List V) (H : Heap) : evCode P Γ call n f m (cAt [1, 0] B5) s H = regNext (evOpsGo P Γ call r5_4.1 r5_4.1 s H) := at_region (by kernel_rfl) r5_4.2 s H
attribute [simp] r5_4
@[simp] theorem n5_5 (s : List V) (H : Heap) : evCode P Γ call n f m (cAt [1, 1] B5) s H = seqNext P Γ call n f m (cAt [1, 1, 1] B5) (evCode P Γ call n f m (cAt [1, 1, 0] B5) s H) := at_seq (by kernel_rfl) rfl rfl s H
noncomputable def r5_6 : {l : List Oper // opsOf (cAt [1, 1, 0] B5) = l} := by
  apply Subtype.mk
  dsimp only [opsOf, cAt, kids, B5, bodyOf, Try.f5, List.getD, List.getElem?_cons_zero, List.getElem?_cons_succ, Option.getD_some]
@[simp] theorem n5_6 (s : List V) (H : Heap) : evCode P Γ call n f m (cAt [1, 1, 0] B5) s H = regNext (evOpsGo P Γ call r5_6.1 r5_6.1 s H) := at_region (by kernel_rfl) r5_6.2 s H
attribute [simp] r5_6
@[simp] theorem n5_7 (s : List V) (H : Heap) : evCode P Γ call n f m (cAt [1, 1, 1] B5) s H = seqNext P Γ call n f m (cAt [1, 1, 1, 1] B5) (evCode P Γ call n f m (cAt [1, 1, 1, 0] B5) s H) := at_seq (by kernel_rfl) rfl rfl s H
noncomputable def r5_8 : {l : List Oper // opsOf (cAt [1, 1, 1, 0] B5) = l} := by
  apply Subtype.mk
  dsimp only [opsOf, cAt, kids, B5, bodyOf, Try.f5, List.getD, List.getElem?_cons_zero, List.getElem?_cons_succ, Option.getD_some]
@[simp] theorem n5_8 (s : List V) (H : Heap) : evCode P Γ call n f m (cAt [1, 1, 1, 0] B5) s H = regNext (evOpsGo P Γ call r5_8.1 r5_8.1 s H) := at_region (by kernel_rfl) r5_8.2 s H
attribute [simp] r5_8
@[simp] theorem n5_9 (s : List V) (H : Heap) : evCode P Γ call n f m (cAt [1, 1, 1, 1] B5) s H = seqNext P Γ call n f m (cAt [1, 1, 1, 1, 1] B5) (evCode P Γ call n f m (cAt [1, 1, 1, 1, 0] B5) s H) := at_seq (by kernel_rfl) rfl rfl s H
noncomputable def r5_10 : {l : List Oper // opsOf (cAt [1, 1, 1, 1, 0] B5) = l} := by
  apply Subtype.mk
  dsimp only [opsOf, cAt, kids, B5, bodyOf, Try.f5, List.getD, List.getElem?_cons_zero, List.getElem?_cons_succ, Option.getD_some]
@[simp] theorem n5_10 (s : List V) (H : Heap) : evCode P Γ call n f m (cAt [1, 1, 1, 1, 0] B5) s H = regNext (evOpsGo P Γ call r5_10.1 r5_10.1 s H) := at_region (by kernel_rfl) r5_10.2 s H
attribute [simp] r5_10
@[simp] theorem n5_11 (s : List V) (H : Heap) : evCode P Γ call n f m (cAt [1, 1, 1, 1, 1] B5) s H = seqNext P Γ call n f m (cAt [1, 1, 1, 1, 1, 1] B5) (evCode P Γ call n f m (cAt [1, 1, 1, 1, 1, 0] B5) s H) := at_seq (by kernel_rfl) rfl rfl s H
noncomputable def r5_12 : {l : List Oper // opsOf (cAt [1, 1, 1, 1, 1, 0] B5) = l} := by
  apply Subtype.mk
  dsimp only [opsOf, cAt, kids, B5, bodyOf, Try.f5, List.getD, List.getElem?_cons_zero, List.getElem?_cons_succ, Option.getD_some]
@[simp] theorem n5_12 (s : List V) (H : Heap) : evCode P Γ call n f m (cAt [1, 1, 1, 1, 1, 0] B5) s H = regNext (evOpsGo P Γ call r5_12.1 r5_12.1 s H) := at_region (by kernel_rfl) r5_12.2 s H
attribute [simp] r5_12
@[simp] theorem n5_13 (s : List V) (H : Heap) : evCode P Γ call n f m (cAt [1, 1, 1, 1, 1, 1] B5) s H = seqNext P Γ call n f m (cAt [1, 1, 1, 1, 1, 1, 1] B5) (evCode P Γ call n f m (cAt [1, 1, 1, 1, 1, 1, 0] B5) s H) := at_seq (by kernel_rfl) rfl rfl s H
@[simp] theorem n5_14 (s : List V) (H : Heap) : evCode P Γ call n f m (cAt [1, 1, 1, 1, 1, 1, 0] B5) s H = seqNext P Γ call n f m (cAt [1, 1, 1, 1, 1, 1, 0, 1] B5) (evCode P Γ call n f m (cAt [1, 1, 1, 1, 1, 1, 0, 0] B5) s H) := at_seq (by kernel_rfl) rfl rfl s H
noncomputable def r5_15 : {l : List Oper // opsOf (cAt [1, 1, 1, 1, 1, 1, 0, 0] B5) = l} := by
  apply Subtype.mk
  dsimp only [opsOf, cAt, kids, B5, bodyOf, Try.f5, List.getD, List.getElem?_cons_zero, List.getElem?_cons_succ, Option.getD_some]
@[simp] theorem n5_15 (s : List V) (H : Heap) : evCode P Γ call n f m (cAt [1, 1, 1, 1, 1, 1, 0, 0] B5) s H = regNext (evOpsGo P Γ call r5_15.1 r5_15.1 s H) := at_region (by kernel_rfl) r5_15.2 s H
attribute [simp] r5_15
@[simp] theorem n5_16 (s : List V) (H : Heap) : evCode P Γ call n f m (cAt [1, 1, 1, 1, 1, 1, 0, 1] B5) s H = condW P Γ call n f m (cAt [1, 1, 1, 1, 1, 1, 0, 1, 0] B5) (cAt [1, 1, 1, 1, 1, 1, 0, 1, 1] B5) s H (evOperand Γ s (.tmp 41)) := at_cond (by kernel_rfl) (by kernel_rfl) rfl rfl s H
@[simp] theorem n5_17 (s : List V) (H : Heap) : evCode P Γ call n f m (cAt [1, 1, 1, 1, 1, 1, 0, 1, 0] B5) s H = seqNext P Γ call n f m (cAt [1, 1, 1, 1, 1, 1, 0, 1, 0, 1] B5) (evCode P Γ call n f m (cAt [1, 1, 1, 1, 1, 1, 0, 1, 0, 0] B5) s H) := at_seq (by kernel_rfl) rfl rfl s H
noncomputable def r5_18 : {l : List Oper // opsOf (cAt [1, 1, 1, 1, 1, 1, 0, 1, 0, 0] B5) = l} := by
  apply Subtype.mk
  dsimp only [opsOf, cAt, kids, B5, bodyOf, Try.f5, List.getD, List.getElem?_cons_zero, List.getElem?_cons_succ, Option.getD_some]
@[simp] theorem n5_18 (s : List V) (H : Heap) : evCode P Γ call n f m (cAt [1, 1, 1, 1, 1, 1, 0, 1, 0, 0] B5) s H = regNext (evOpsGo P Γ call r5_18.1 r5_18.1 s H) := at_region (by kernel_rfl) r5_18.2 s H
attribute [simp] r5_18
@[simp] theorem n5_19 (s : List V) (H : Heap) : evCode P Γ call n f m (cAt [1, 1, 1, 1, 1, 1, 0, 1, 0, 1] B5) s H = seqNext P Γ call n f m (cAt [1, 1, 1, 1, 1, 1, 0, 1, 0, 1, 1] B5) (evCode P Γ call n f m (cAt [1, 1, 1, 1, 1, 1, 0, 1, 0, 1, 0] B5) s H) := at_seq (by kernel_rfl) rfl rfl s H
noncomputable def r5_20 : {l : List Oper // opsOf (cAt [1, 1, 1, 1, 1, 1, 0, 1, 0, 1, 0] B5) = l} := by
  apply Subtype.mk
  dsimp only [opsOf, cAt, kids, B5, bodyOf, Try.f5, List.getD, List.getElem?_cons_zero, List.getElem?_cons_succ, Option.getD_some]
@[simp] theorem n5_20 (s : List V) (H : Heap) : evCode P Γ call n f m (cAt [1, 1, 1, 1, 1, 1, 0, 1, 0, 1, 0] B5) s H = regNext (evOpsGo P Γ call r5_20.1 r5_20.1 s H) := at_region (by kernel_rfl) r5_20.2 s H
attribute [simp] r5_20
@[simp] theorem n5_21 (s : List V) (H : Heap) : evCode P Γ call n f m (cAt [1, 1, 1, 1, 1, 1, 0, 1, 0, 1, 1] B5) s H = seqNext P Γ call n f m (cAt [1, 1, 1, 1, 1, 1, 0, 1, 0, 1, 1, 1] B5) (evCode P Γ call n f m (cAt [1, 1, 1, 1, 1, 1, 0, 1, 0, 1, 1, 0] B5) s H) := at_seq (by kernel_rfl) rfl rfl s H
noncomputable def r5_22 : {l : List Oper // opsOf (cAt [1, 1, 1, 1, 1, 1, 0, 1, 0, 1, 1, 0] B5) = l} := by
  apply Subtype.mk
  dsimp only [opsOf, cAt, kids, B5, bodyOf, Try.f5, List.getD, List.getElem?_cons_zero, List.getElem?_cons_succ, Option.getD_some]
@[simp] theorem n5_22 (s : List V) (H : Heap) : evCode P Γ call n f m (cAt [1, 1, 1, 1, 1, 1, 0, 1, 0, 1, 1, 0] B5) s H = regNext (evOpsGo P Γ call r5_22.1 r5_22.1 s H) := at_region (by kernel_rfl) r5_22.2 s H
attribute [simp] r5_22
@[simp] theorem n5_23 (s : List V) (H : Heap) : evCode P Γ call n f m (cAt [1, 1, 1, 1, 1, 1, 0, 1, 0, 1, 1, 1] B5) s H = condW P Γ call n f m (cAt [1, 1, 1, 1, 1, 1, 0, 1, 0, 1, 1, 1, 0] B5) (cAt [1, 1, 1, 1, 1, 1, 0, 1, 0, 1, 1, 1, 1] B5) s H (evOperand Γ s (.tmp 49)) := at_cond (by kernel_rfl) (by kernel_rfl) rfl rfl s H
noncomputable def r5_24 : {l : List Oper // opsOf (cAt [1, 1, 1, 1, 1, 1, 0, 1, 0, 1, 1, 1, 0] B5) = l} := by
  apply Subtype.mk
  dsimp only [opsOf, cAt, kids, B5, bodyOf, Try.f5, List.getD, List.getElem?_cons_zero, List.getElem?_cons_succ, Option.getD_some]
@[simp] theorem n5_24 (s : List V) (H : Heap) : evCode P Γ call n f m (cAt [1, 1, 1, 1, 1, 1, 0, 1, 0, 1, 1, 1, 0] B5) s H = regNext (evOpsGo P Γ call r5_24.1 r5_24.1 s H) := at_region (by kernel_rfl) r5_24.2 s H
attribute [simp] r5_24
@[simp] theorem n5_25 (s : List V) (H : Heap) : evCode P Γ call n f m (cAt [1, 1, 1, 1, 1, 1, 0, 1, 0, 1, 1, 1, 1] B5) s H = some (.normal, s, H) := at_skip (by kernel_rfl) s H
@[simp] theorem n5_26 (s : List V) (H : Heap) : evCode P Γ call n f m (cAt [1, 1, 1, 1, 1, 1, 0, 1, 1] B5) s H = some (.normal, s, H) := at_skip (by kernel_rfl) s H
@[simp] theorem n5_27 (s : List V) (H : Heap) : evCode P Γ call n f m (cAt [1, 1, 1, 1, 1, 1, 1] B5) s H = seqNext P Γ call n f m (cAt [1, 1, 1, 1, 1, 1, 1, 1] B5) (evCode P Γ call n f m (cAt [1, 1, 1, 1, 1, 1, 1, 0] B5) s H) := at_seq (by kernel_rfl) rfl rfl s H
@[simp] theorem n5_28 (s : List V) (H : Heap) : evCode P Γ call n f m (cAt [1, 1, 1, 1, 1, 1, 1, 0] B5) s H = seqNext P Γ call n f m (cAt [1, 1, 1, 1, 1, 1, 1, 0, 1] B5) (evCode P Γ call n f m (cAt [1, 1, 1, 1, 1, 1, 1, 0, 0] B5) s H) := at_seq (by kernel_rfl) rfl rfl s H
noncomputable def r5_29 : {l : List Oper // opsOf (cAt [1, 1, 1, 1, 1, 1, 1, 0, 0] B5) = l} := by
  apply Subtype.mk
  dsimp only [opsOf, cAt, kids, B5, bodyOf, Try.f5, List.getD, List.getElem?_cons_zero, List.getElem?_cons_succ, Option.getD_some]
@[simp] theorem n5_29 (s : List V) (H : Heap) : evCode P Γ call n f m (cAt [1, 1, 1, 1, 1, 1, 1, 0, 0] B5) s H = regNext (evOpsGo P Γ call r5_29.1 r5_29.1 s H) := at_region (by kernel_rfl) r5_29.2 s H
attribute [simp] r5_29
@[simp] theorem n5_30 (s : List V) (H : Heap) : evCode P Γ call n f m (cAt [1, 1, 1, 1, 1, 1, 1, 0, 1] B5) s H = condW P Γ call n f m (cAt [1, 1, 1, 1, 1, 1, 1, 0, 1, 0] B5) (cAt [1, 1, 1, 1, 1, 1, 1, 0, 1, 1] B5) s H (evOperand Γ s (.tmp 66)) := at_cond (by kernel_rfl) (by kernel_rfl) rfl rfl s H
@[simp] theorem n5_31 (s : List V) (H : Heap) : evCode P Γ call n f m (cAt [1, 1, 1, 1, 1, 1, 1, 0, 1, 0] B5) s H = seqNext P Γ call n f m (cAt [1, 1, 1, 1, 1, 1, 1, 0, 1, 0, 1] B5) (evCode P Γ call n f m (cAt [1, 1, 1, 1, 1, 1, 1, 0, 1, 0, 0] B5) s H) := at_seq (by kernel_rfl) rfl rfl s H
noncomputable def r5_32 : {l : List Oper // opsOf (cAt [1, 1, 1, 1, 1, 1, 1, 0, 1, 0, 0] B5) = l} := by
  apply Subtype.mk
  dsimp only [opsOf, cAt, kids, B5, bodyOf, Try.f5, List.getD, List.getElem?_cons_zero, List.getElem?_cons_succ, Option.getD_some]
@[simp] theorem n5_32 (s : List V) (H : Heap) : evCode P Γ call n f m (cAt [1, 1, 1, 1, 1, 1, 1, 0, 1, 0, 0] B5) s H = regNext (evOpsGo P Γ call r5_32.1 r5_32.1 s H) := at_region (by kernel_rfl) r5_32.2 s H
attribute [simp] r5_32
@[simp] theorem n5_33 (s : List V) (H : Heap) : evCode P Γ call n f m (cAt [1, 1, 1, 1, 1, 1, 1, 0, 1, 0, 1] B5) s H = some (.ret, s, H) := at_ret (by kernel_rfl) s H
@[simp] theorem n5_34 (s : List V) (H : Heap) : evCode P Γ call n f m (cAt [1, 1, 1, 1, 1, 1, 1, 0, 1, 1] B5) s H = some (.normal, s, H) := at_skip (by kernel_rfl) s H
@[simp] theorem n5_35 (s : List V) (H : Heap) : evCode P Γ call n f m (cAt [1, 1, 1, 1, 1, 1, 1, 1] B5) s H = seqNext P Γ call n f m (cAt [1, 1, 1, 1, 1, 1, 1, 1, 1] B5) (evCode P Γ call n f m (cAt [1, 1, 1, 1, 1, 1, 1, 1, 0] B5) s H) := at_seq (by kernel_rfl) rfl rfl s H
@[simp] theorem n5_36 (s : List V) (H : Heap) : evCode P Γ call n f m (cAt [1, 1, 1, 1, 1, 1, 1, 1, 0] B5) s H = seqNext P Γ call n f m (cAt [1, 1, 1, 1, 1, 1, 1, 1, 0, 1] B5) (evCode P Γ call n f m (cAt [1, 1, 1, 1, 1, 1, 1, 1, 0, 0] B5) s H) := at_seq (by kernel_rfl) rfl rfl s H
noncomputable def r5_37 : {l : List Oper // opsOf (cAt [1, 1, 1, 1, 1, 1, 1, 1, 0, 0] B5) = l} := by
  apply Subtype.mk
  dsimp only [opsOf, cAt, kids, B5, bodyOf, Try.f5, List.getD, List.getElem?_cons_zero, List.getElem?_cons_succ, Option.getD_some]
@[simp] theorem n5_37 (s : List V) (H : Heap) : evCode P Γ call n f m (cAt [1, 1, 1, 1, 1, 1, 1, 1, 0, 0] B5) s H = regNext (evOpsGo P Γ call r5_37.1 r5_37.1 s H) := at_region (by kernel_rfl) r5_37.2 s H
attribute [simp] r5_37
@[simp] theorem n5_38 (s : List V) (H : Heap) : evCode P Γ call n f m (cAt [1, 1, 1, 1, 1, 1, 1, 1, 0, 1] B5) s H = condW P Γ call n f m (cAt [1, 1, 1, 1, 1, 1, 1, 1, 0, 1, 0] B5) (cAt [1, 1, 1, 1, 1, 1, 1, 1, 0, 1, 1] B5) s H (evOperand Γ s (.tmp 68)) := at_cond (by kernel_rfl) (by kernel_rfl) rfl rfl s H
@[simp] theorem n5_39 (s : List V) (H : Heap) : evCode P Γ call n f m (cAt [1, 1, 1, 1, 1, 1, 1, 1, 0, 1, 0] B5) s H = seqNext P Γ call n f m (cAt [1, 1, 1, 1, 1, 1, 1, 1, 0, 1, 0, 1] B5) (evCode P Γ call n f m (cAt [1, 1, 1, 1, 1, 1, 1, 1, 0, 1, 0, 0] B5) s H) := at_seq (by kernel_rfl) rfl rfl s H
noncomputable def r5_40 : {l : List Oper // opsOf (cAt [1, 1, 1, 1, 1, 1, 1, 1, 0, 1, 0, 0] B5) = l} := by
  apply Subtype.mk
  dsimp only [opsOf, cAt, kids, B5, bodyOf, Try.f5, List.getD, List.getElem?_cons_zero, List.getElem?_cons_succ, Option.getD_some]
@[simp] theorem n5_40 (s : List V) (H : Heap) : evCode P Γ call n f m (cAt [1, 1, 1, 1, 1, 1, 1, 1, 0, 1, 0, 0] B5) s H = regNext (evOpsGo P Γ call r5_40.1 r5_40.1 s H) := at_region (by kernel_rfl) r5_40.2 s H
attribute [simp] r5_40
@[simp] theorem n5_41 (s : List V) (H : Heap) : evCode P Γ call n f m (cAt [1, 1, 1, 1, 1, 1, 1, 1, 0, 1, 0, 1] B5) s H = some (.ret, s, H) := at_ret (by kernel_rfl) s H
@[simp] theorem n5_42 (s : List V) (H : Heap) : evCode P Γ call n f m (cAt [1, 1, 1, 1, 1, 1, 1, 1, 0, 1, 1] B5) s H = some (.normal, s, H) := at_skip (by kernel_rfl) s H
@[simp] theorem n5_43 (s : List V) (H : Heap) : evCode P Γ call n f m (cAt [1, 1, 1, 1, 1, 1, 1, 1, 1] B5) s H = seqNext P Γ call n f m (cAt [1, 1, 1, 1, 1, 1, 1, 1, 1, 1] B5) (evCode P Γ call n f m (cAt [1, 1, 1, 1, 1, 1, 1, 1, 1, 0] B5) s H) := at_seq (by kernel_rfl) rfl rfl s H
noncomputable def r5_44 : {l : List Oper // opsOf (cAt [1, 1, 1, 1, 1, 1, 1, 1, 1, 0] B5) = l} := by
  apply Subtype.mk
  dsimp only [opsOf, cAt, kids, B5, bodyOf, Try.f5, List.getD, List.getElem?_cons_zero, List.getElem?_cons_succ, Option.getD_some]
@[simp] theorem n5_44 (s : List V) (H : Heap) : evCode P Γ call n f m (cAt [1, 1, 1, 1, 1, 1, 1, 1, 1, 0] B5) s H = regNext (evOpsGo P Γ call r5_44.1 r5_44.1 s H) := at_region (by kernel_rfl) r5_44.2 s H
attribute [simp] r5_44
@[simp] theorem n5_45 (s : List V) (H : Heap) : evCode P Γ call n f m (cAt [1, 1, 1, 1, 1, 1, 1, 1, 1, 1] B5) s H = seqNext P Γ call n f m (cAt [1, 1, 1, 1, 1, 1, 1, 1, 1, 1, 1] B5) (evCode P Γ call n f m (cAt [1, 1, 1, 1, 1, 1, 1, 1, 1, 1, 0] B5) s H) := at_seq (by kernel_rfl) rfl rfl s H
@[simp] theorem n5_46 (s : List V) (H : Heap) : evCode P Γ call n f m (cAt [1, 1, 1, 1, 1, 1, 1, 1, 1, 1, 0] B5) s H = seqNext P Γ call n f m (cAt [1, 1, 1, 1, 1, 1, 1, 1, 1, 1, 0, 1] B5) (evCode P Γ call n f m (cAt [1, 1, 1, 1, 1, 1, 1, 1, 1, 1, 0, 0] B5) s H) := at_seq (by kernel_rfl) rfl rfl s H
noncomputable def r5_47 : {l : List Oper // opsOf (cAt [1, 1, 1, 1, 1, 1, 1, 1, 1, 1, 0, 0] B5) = l} := by
  apply Subtype.mk
  dsimp only [opsOf, cAt, kids, B5, bodyOf, Try.f5, List.getD, List.getElem?_cons_zero, List.getElem?_cons_succ, Option.getD_some]
@[simp] theorem n5_47 (s : List V) (H : Heap) : evCode P Γ call n f m (cAt [1, 1, 1, 1, 1, 1, 1, 1, 1, 1, 0, 0] B5) s H = regNext (evOpsGo P Γ call r5_47.1 r5_47.1 s H) := at_region (by kernel_rfl) r5_47.2 s H
attribute [simp] r5_47
@[simp] theorem n5_48 (s : List V) (H : Heap) : evCode P Γ call n f m (cAt [1, 1, 1, 1, 1, 1, 1, 1, 1, 1, 0, 1] B5) s H = condW P Γ call n f m (cAt [1, 1, 1, 1, 1, 1, 1, 1, 1, 1, 0, 1, 0] B5) (cAt [1, 1, 1, 1, 1, 1, 1, 1, 1, 1, 0, 1, 1] B5) s H (evOperand Γ s (.tmp 110)) := at_cond (by kernel_rfl) (by kernel_rfl) rfl rfl s H
@[simp] theorem n5_49 (s : List V) (H : Heap) : evCode P Γ call n f m (cAt [1, 1, 1, 1, 1, 1, 1, 1, 1, 1, 0, 1, 0] B5) s H = seqNext P Γ call n f m (cAt [1, 1, 1, 1, 1, 1, 1, 1, 1, 1, 0, 1, 0, 1] B5) (evCode P Γ call n f m (cAt [1, 1, 1, 1, 1, 1, 1, 1, 1, 1, 0, 1, 0, 0] B5) s H) := at_seq (by kernel_rfl) rfl rfl s H
noncomputable def r5_50 : {l : List Oper // opsOf (cAt [1, 1, 1, 1, 1, 1, 1, 1, 1, 1, 0, 1, 0, 0] B5) = l} := by
  apply Subtype.mk
  dsimp only [opsOf, cAt, kids, B5, bodyOf, Try.f5, List.getD, List.getElem?_cons_zero, List.getElem?_cons_succ, Option.getD_some]
@[simp] theorem n5_50 (s : List V) (H : Heap) : evCode P Γ call n f m (cAt [1, 1, 1, 1, 1, 1, 1, 1, 1, 1, 0, 1, 0, 0] B5) s H = regNext (evOpsGo P Γ call r5_50.1 r5_50.1 s H) := at_region (by kernel_rfl) r5_50.2 s H
attribute [simp] r5_50
@[simp] theorem n5_51 (s : List V) (H : Heap) : evCode P Γ call n f m (cAt [1, 1, 1, 1, 1, 1, 1, 1, 1, 1, 0, 1, 0, 1] B5) s H = some (.ret, s, H) := at_ret (by kernel_rfl) s H
@[simp] theorem n5_52 (s : List V) (H : Heap) : evCode P Γ call n f m (cAt [1, 1, 1, 1, 1, 1, 1, 1, 1, 1, 0, 1, 1] B5) s H = some (.normal, s, H) := at_skip (by kernel_rfl) s H
@[simp] theorem n5_53 (s : List V) (H : Heap) : evCode P Γ call n f m (cAt [1, 1, 1, 1, 1, 1, 1, 1, 1, 1, 1] B5) s H = seqNext P Γ call n f m (cAt [1, 1, 1, 1, 1, 1, 1, 1, 1, 1, 1, 1] B5) (evCode P Γ call n f m (cAt [1, 1, 1, 1, 1, 1, 1, 1, 1, 1, 1, 0] B5) s H) := at_seq (by kernel_rfl) rfl rfl s H
@[simp] theorem n5_54 (s : List V) (H : Heap) : evCode P Γ call n f m (cAt [1, 1, 1, 1, 1, 1, 1, 1, 1, 1, 1, 0] B5) s H = seqNext P Γ call n f m (cAt [1, 1, 1, 1, 1, 1, 1, 1, 1, 1, 1, 0, 1] B5) (evCode P Γ call n f m (cAt [1, 1, 1, 1, 1, 1, 1, 1, 1, 1, 1, 0, 0] B5) s H) := at_seq (by kernel_rfl) rfl rfl s H
noncomputable def r5_55 : {l : List Oper // opsOf (cAt [1, 1, 1, 1, 1, 1, 1, 1, 1, 1, 1, 0, 0] B5) = l} := by
  apply Subtype.mk
  dsimp only [opsOf, cAt, kids, B5, bodyOf, Try.f5, List.getD, List.getElem?_cons_zero, List.getElem?_cons_succ, Option.getD_some]
@[simp] theorem n5_55 (s : List V) (H : Heap) : evCode P Γ call n f m (cAt [1, 1, 1, 1, 1, 1, 1, 1, 1, 1, 1, 0, 0] B5) s H = regNext (evOpsGo P Γ call r5_55.1 r5_55.1 s H) := at_region (by kernel_rfl) r5_55.2 s H
attribute [simp] r5_55
@[simp] theorem n5_56 (s : List V) (H : Heap) : evCode P Γ call n f m (cAt [1, 1, 1, 1, 1, 1, 1, 1, 1, 1, 1, 0, 1] B5) s H = blockNext 0 (evCode P Γ call n f m (cAt [1, 1, 1, 1, 1, 1, 1, 1, 1, 1, 1, 0, 1, 0] B5) s H) := at_block (by kernel_rfl) rfl s H
@[simp] theorem n5_57 (s : List V) (H : Heap) : evCode P Γ call n f m (cAt [1, 1, 1, 1, 1, 1, 1, 1, 1, 1, 1, 0, 1, 0] B5) s H = evLoopC P Γ call n f m (cAt [1, 1, 1, 1, 1, 1, 1, 1, 1, 1, 1, 0, 1, 0, 0] B5) n s H := at_loop (by kernel_rfl) rfl s H
noncomputable abbrev L5_19 : Code := cAt [1, 1, 1, 1, 1, 1, 1, 1, 1, 1, 1, 0, 1, 0, 0] B5
@[simp] theorem n5_57f : firstRegion (cAt [1, 1, 1, 1, 1, 1, 1, 1, 1, 1, 1, 0, 1, 0, 0] B5) = 19 := by kernel_rfl
@[simp] theorem n5_58 (s : List V) (H : Heap) : evCode P Γ call n f m (cAt [1, 1, 1, 1, 1, 1, 1, 1, 1, 1, 1, 0, 1, 0, 0] B5) s H = seqNext P Γ call n f m (cAt [1, 1, 1, 1, 1, 1, 1, 1, 1, 1, 1, 0, 1, 0, 0, 1] B5) (evCode P Γ call n f m (cAt [1, 1, 1, 1, 1, 1, 1, 1, 1, 1, 1, 0, 1, 0, 0, 0] B5) s H) := at_seq (by kernel_rfl) rfl rfl s H
noncomputable def r5_59 : {l : List Oper // opsOf (cAt [1, 1, 1, 1, 1, 1, 1, 1, 1, 1, 1, 0, 1, 0, 0, 0] B5) = l} := by
  apply Subtype.mk
  dsimp only [opsOf, cAt, kids, B5, bodyOf, Try.f5, List.getD, List.getElem?_cons_zero, List.getElem?_cons_succ, Option.getD_some]
@[simp] theorem n5_59 (s : List V) (H : Heap) : evCode P Γ call n f m (cAt [1, 1, 1, 1, 1, 1, 1, 1, 1, 1, 1, 0, 1, 0, 0, 0] B5) s H = regNext (evOpsGo P Γ call r5_59.1 r5_59.1 s H) := at_region (by kernel_rfl) r5_59.2 s H
attribute [simp] r5_59
@[simp] theorem n5_60 (s : List V) (H : Heap) : evCode P Γ call n f m (cAt [1, 1, 1, 1, 1, 1, 1, 1, 1, 1, 1, 0, 1, 0, 0, 1] B5) s H = seqNext P Γ call n f m (cAt [1, 1, 1, 1, 1, 1, 1, 1, 1, 1, 1, 0, 1, 0, 0, 1, 1] B5) (evCode P Γ call n f m (cAt [1, 1, 1, 1, 1, 1, 1, 1, 1, 1, 1, 0, 1, 0, 0, 1, 0] B5) s H) := at_seq (by kernel_rfl) rfl rfl s H
@[simp] theorem n5_61 (s : List V) (H : Heap) : evCode P Γ call n f m (cAt [1, 1, 1, 1, 1, 1, 1, 1, 1, 1, 1, 0, 1, 0, 0, 1, 0] B5) s H = condW P Γ call n f m (cAt [1, 1, 1, 1, 1, 1, 1, 1, 1, 1, 1, 0, 1, 0, 0, 1, 0, 0] B5) (cAt [1, 1, 1, 1, 1, 1, 1, 1, 1, 1, 1, 0, 1, 0, 0, 1, 0, 1] B5) s H (evOperand Γ s (.tmp 117)) := at_cond (by kernel_rfl) (by kernel_rfl) rfl rfl s H
@[simp] theorem n5_62 (s : List V) (H : Heap) : evCode P Γ call n f m (cAt [1, 1, 1, 1, 1, 1, 1, 1, 1, 1, 1, 0, 1, 0, 0, 1, 0, 0] B5) s H = some (.normal, s, H) := at_skip (by kernel_rfl) s H
@[simp] theorem n5_63 (s : List V) (H : Heap) : evCode P Γ call n f m (cAt [1, 1, 1, 1, 1, 1, 1, 1, 1, 1, 1, 0, 1, 0, 0, 1, 0, 1] B5) s H = some (.exit 0, s, H) := at_exit (by kernel_rfl) s H
@[simp] theorem n5_64 (s : List V) (H : Heap) : evCode P Γ call n f m (cAt [1, 1, 1, 1, 1, 1, 1, 1, 1, 1, 1, 0, 1, 0, 0, 1, 1] B5) s H = seqNext P Γ call n f m (cAt [1, 1, 1, 1, 1, 1, 1, 1, 1, 1, 1, 0, 1, 0, 0, 1, 1, 1] B5) (evCode P Γ call n f m (cAt [1, 1, 1, 1, 1, 1, 1, 1, 1, 1, 1, 0, 1, 0, 0, 1, 1, 0] B5) s H) := at_seq (by kernel_rfl) rfl rfl s H
@[simp] theorem n5_65 (s : List V) (H : Heap) : evCode P Γ call n f m (cAt [1, 1, 1, 1, 1, 1, 1, 1, 1, 1, 1, 0, 1, 0, 0, 1, 1, 0] B5) s H = blockNext 1 (evCode P Γ call n f m (cAt [1, 1, 1, 1, 1, 1, 1, 1, 1, 1, 1, 0, 1, 0, 0, 1, 1, 0, 0] B5) s H) := at_block (by kernel_rfl) rfl s H
@[simp] theorem n5_66 (s : List V) (H : Heap) : evCode P Γ call n f m (cAt [1, 1, 1, 1, 1, 1, 1, 1, 1, 1, 1, 0, 1, 0, 0, 1, 1, 0, 0] B5) s H = seqNext P Γ call n f m (cAt [1, 1, 1, 1, 1, 1, 1, 1, 1, 1, 1, 0, 1, 0, 0, 1, 1, 0, 0, 1] B5) (evCode P Γ call n f m (cAt [1, 1, 1, 1, 1, 1, 1, 1, 1, 1, 1, 0, 1, 0, 0, 1, 1, 0, 0, 0] B5) s H) := at_seq (by kernel_rfl) rfl rfl s H
noncomputable def r5_67 : {l : List Oper // opsOf (cAt [1, 1, 1, 1, 1, 1, 1, 1, 1, 1, 1, 0, 1, 0, 0, 1, 1, 0, 0, 0] B5) = l} := by
  apply Subtype.mk
  dsimp only [opsOf, cAt, kids, B5, bodyOf, Try.f5, List.getD, List.getElem?_cons_zero, List.getElem?_cons_succ, Option.getD_some]
@[simp] theorem n5_67 (s : List V) (H : Heap) : evCode P Γ call n f m (cAt [1, 1, 1, 1, 1, 1, 1, 1, 1, 1, 1, 0, 1, 0, 0, 1, 1, 0, 0, 0] B5) s H = regNext (evOpsGo P Γ call r5_67.1 r5_67.1 s H) := at_region (by kernel_rfl) r5_67.2 s H
attribute [simp] r5_67
@[simp] theorem n5_68 (s : List V) (H : Heap) : evCode P Γ call n f m (cAt [1, 1, 1, 1, 1, 1, 1, 1, 1, 1, 1, 0, 1, 0, 0, 1, 1, 0, 0, 1] B5) s H = seqNext P Γ call n f m (cAt [1, 1, 1, 1, 1, 1, 1, 1, 1, 1, 1, 0, 1, 0, 0, 1, 1, 0, 0, 1, 1] B5) (evCode P Γ call n f m (cAt [1, 1, 1, 1, 1, 1, 1, 1, 1, 1, 1, 0, 1, 0, 0, 1, 1, 0, 0, 1, 0] B5) s H) := at_seq (by kernel_rfl) rfl rfl s H
noncomputable def r5_69 : {l : List Oper // opsOf (cAt [1, 1, 1, 1, 1, 1, 1, 1, 1, 1, 1, 0, 1, 0, 0, 1, 1, 0, 0, 1, 0] B5) = l} := by
  apply Subtype.mk
  dsimp only [opsOf, cAt, kids, B5, bodyOf, Try.f5, List.getD, List.getElem?_cons_zero, List.getElem?_cons_succ, Option.getD_some]
@[simp] theorem n5_69 (s : List V) (H : Heap) : evCode P Γ call n f m (cAt [1, 1, 1, 1, 1, 1, 1, 1, 1, 1, 1, 0, 1, 0, 0, 1, 1, 0, 0, 1, 0] B5) s H = regNext (evOpsGo P Γ call r5_69.1 r5_69.1 s H) := at_region (by kernel_rfl) r5_69.2 s H
attribute [simp] r5_69
@[simp] theorem n5_70 (s : List V) (H : Heap) : evCode P Γ call n f m (cAt [1, 1, 1, 1, 1, 1, 1, 1, 1, 1, 1, 0, 1, 0, 0, 1, 1, 0, 0, 1, 1] B5) s H = condW P Γ call n f m (cAt [1, 1, 1, 1, 1, 1, 1, 1, 1, 1, 1, 0, 1, 0, 0, 1, 1, 0, 0, 1, 1, 0] B5) (cAt [1, 1, 1, 1, 1, 1, 1, 1, 1, 1, 1, 0, 1, 0, 0, 1, 1, 0, 0, 1, 1, 1] B5) s H (evOperand Γ s (.tmp 127)) := at_cond (by kernel_rfl) (by kernel_rfl) rfl rfl s H
@[simp] theorem n5_71 (s : List V) (H : Heap) : evCode P Γ call n f m (cAt [1, 1, 1, 1, 1, 1, 1, 1, 1, 1, 1, 0, 1, 0, 0, 1, 1, 0, 0, 1, 1, 0] B5) s H = seqNext P Γ call n f m (cAt [1, 1, 1, 1, 1, 1, 1, 1, 1, 1, 1, 0, 1, 0, 0, 1, 1, 0, 0, 1, 1, 0, 1] B5) (evCode P Γ call n f m (cAt [1, 1, 1, 1, 1, 1, 1, 1, 1, 1, 1, 0, 1, 0, 0, 1, 1, 0, 0, 1, 1, 0, 0] B5) s H) := at_seq (by kernel_rfl) rfl rfl s H
noncomputable def r5_72 : {l : List Oper // opsOf (cAt [1, 1, 1, 1, 1, 1, 1, 1, 1, 1, 1, 0, 1, 0, 0, 1, 1, 0, 0, 1, 1, 0, 0] B5) = l} := by
  apply Subtype.mk
  dsimp only [opsOf, cAt, kids, B5, bodyOf, Try.f5, List.getD, List.getElem?_cons_zero, List.getElem?_cons_succ, Option.getD_some]
@[simp] theorem n5_72 (s : List V) (H : Heap) : evCode P Γ call n f m (cAt [1, 1, 1, 1, 1, 1, 1, 1, 1, 1, 1, 0, 1, 0, 0, 1, 1, 0, 0, 1, 1, 0, 0] B5) s H = regNext (evOpsGo P Γ call r5_72.1 r5_72.1 s H) := at_region (by kernel_rfl) r5_72.2 s H
attribute [simp] r5_72
@[simp] theorem n5_73 (s : List V) (H : Heap) : evCode P Γ call n f m (cAt [1, 1, 1, 1, 1, 1, 1, 1, 1, 1, 1, 0, 1, 0, 0, 1, 1, 0, 0, 1, 1, 0, 1] B5) s H = some (.ret, s, H) := at_ret (by kernel_rfl) s H
@[simp] theorem n5_74 (s : List V) (H : Heap) : evCode P Γ call n f m (cAt [1, 1, 1, 1, 1, 1, 1, 1, 1, 1, 1, 0, 1, 0, 0, 1, 1, 0, 0, 1, 1, 1] B5) s H = some (.normal, s, H) := at_skip (by kernel_rfl) s H
noncomputable def r5_75 : {l : List Oper // opsOf (cAt [1, 1, 1, 1, 1, 1, 1, 1, 1, 1, 1, 0, 1, 0, 0, 1, 1, 1] B5) = l} := by
  apply Subtype.mk
  dsimp only [opsOf, cAt, kids, B5, bodyOf, Try.f5, List.getD, List.getElem?_cons_zero, List.getElem?_cons_succ, Option.getD_some]
@[simp] theorem n5_75 (s : List V) (H : Heap) : evCode P Γ call n f m (cAt [1, 1, 1, 1, 1, 1, 1, 1, 1, 1, 1, 0, 1, 0, 0, 1, 1, 1] B5) s H = regNext (evOpsGo P Γ call r5_75.1 r5_75.1 s H) := at_region (by kernel_rfl) r5_75.2 s H
attribute [simp] r5_75
@[simp] theorem n5_76 (s : List V) (H : Heap) : evCode P Γ call n f m (cAt [1, 1, 1, 1, 1, 1, 1, 1, 1, 1, 1, 1] B5) s H = seqNext P Γ call n f m (cAt [1, 1, 1, 1, 1, 1, 1, 1, 1, 1, 1, 1, 1] B5) (evCode P Γ call n f m (cAt [1, 1, 1, 1, 1, 1, 1, 1, 1, 1, 1, 1, 0] B5) s H) := at_seq (by kernel_rfl) rfl rfl s H
noncomputable def r5_77 : {l : List Oper // opsOf (cAt [1, 1, 1, 1, 1, 1, 1, 1, 1, 1, 1, 1, 0] B5) = l} := by
  apply Subtype.mk
  dsimp only [opsOf, cAt, kids, B5, bodyOf, Try.f5, List.getD, List.getElem?_cons_zero, List.getElem?_cons_succ, Option.getD_some]
@[simp] theorem n5_77 (s : List V) (H : Heap) : evCode P Γ call n f m (cAt [1, 1, 1, 1, 1, 1, 1, 1, 1, 1, 1, 1, 0] B5) s H = regNext (evOpsGo P Γ call r5_77.1 r5_77.1 s H) := at_region (by kernel_rfl) r5_77.2 s H
attribute [simp] r5_77
@[simp] theorem n5_78 (s : List V) (H : Heap) : evCode P Γ call n f m (cAt [1, 1, 1, 1, 1, 1, 1, 1, 1, 1, 1, 1, 1] B5) s H = some (.ret, s, H) := at_ret (by kernel_rfl) s H
theorem b5 {k : Nat} (ho : ∀ args H, Γ.orc 5 args H = none) (args : List V) (H : Heap) (ha : args.length ≤ 129) : evF Try.prog Γ (k + 1) 5 args H = bodyEnd Try.prog [.tmp 4] H.length (evCode Try.prog Γ (evF Try.prog Γ k) k 5 H.length (cAt [] B5) (mkL 129 V.undef (enumV 0 args)) H) := body_at Try.func5 (by decide) rfl ho rfl rfl args H ha
noncomputable def B6 : Code := bodyOf Try.f6
@[simp] theorem n6_1 (s : List V) (H : Heap) : evCode P Γ call n f m (cAt [] B6) s H = seqNext P Γ call n f m (cAt [1] B6) (evCode P Γ call n f m (cAt [0] B6) s H) := at_seq (by kernel_rfl) rfl rfl s H
noncomputable def r6_2 : {l : List Oper // opsOf (cAt [0] B6) = l} := by
  apply Subtype.mk
  dsimp only [opsOf, cAt, kids, B6, bodyOf, Try.f6, List.getD, List.getElem?_cons_zero, List.getElem?_cons_succ, Option.getD_some]
@[simp] theorem n6_2 (s : List V) (H : Heap) : evCode P Γ call n f m (cAt [0] B6) s H = regNext (evOpsGo P Γ call r6_2.1 r6_2.1 s H) := at_region (by kernel_rfl) r6_2.2 s H
attribute [simp] r6_2
@[simp] theorem n6_3 (s : List V) (H : Heap) : evCode P Γ call n f m (cAt [1] B6) s H = seqNext P Γ call n f m (cAt [1, 1] B6) (evCode P Γ call n f m (cAt [1, 0] B6) s H) := at_seq (by kernel_rfl) rfl rfl s H
noncomputable def r6_4 : {l : List Oper // opsOf (cAt [1, 0] B6) = l} := by
  apply Subtype.mk
  dsimp only [opsOf, cAt, kids, B6, bodyOf, Try.f6, List.getD, List.getElem?_cons_zero, List.getElem?_cons_succ, Option.getD_some]
@[simp] theorem n6_4 (s : List V) (H : Heap) : evCode P Γ call n f m (cAt [1, 0] B6) s H = regNext (evOpsGo P Γ call r6_4.1 r6_4.1 s H) := at_region (by kernel_rfl) r6_4.2 s H
attribute [simp] r6_4
@[simp] theorem n6_5 (s : List V) (H : Heap) : evCode P Γ call n f m (cAt [1, 1] B6) s H = seqNext P Γ call n f m (cAt [1, 1, 1] B6) (evCode P Γ call n f m (cAt [1, 1, 0] B6) s H) := at_seq (by kernel_rfl) rfl rfl s H
noncomputable def r6_6 : {l : List Oper // opsOf (cAt [1, 1, 0] B6) = l} := by
  apply Subtype.mk
  dsimp only [opsOf, cAt, kids, B6, bodyOf, Try.f6, List.getD, List.getElem?_cons_zero, List.getElem?_cons_succ, Option.getD_some]
@[simp] theorem n6_6 (s : List V) (H : Heap) : evCode P Γ call n f m (cAt [1, 1, 0] B6) s H = regNext (evOpsGo P Γ call r6_6.1 r6_6.1 s H) := at_region (by kernel_rfl) r6_6.2 s H
attribute [simp] r6_6
@[simp] theorem n6_7 (s : List V) (H : Heap) : evCode P Γ call n f m (cAt [1, 1, 1] B6) s H = seqNext P Γ call n f m (cAt [1, 1, 1, 1] B6) (evCode P Γ call n f m (cAt [1, 1, 1, 0] B6) s H) := at_seq (by kernel_rfl) rfl rfl s H
noncomputable def r6_8 : {l : List Oper // opsOf (cAt [1, 1, 1, 0] B6) = l} := by
  apply Subtype.mk
  dsimp only [opsOf, cAt, kids, B6, bodyOf, Try.f6, List.getD, List.getElem?_cons_zero, List.getElem?_cons_succ, Option.getD_some]
@[simp] theorem n6_8 (s : List V) (H : Heap) : evCode P Γ call n f m (cAt [1, 1, 1, 0] B6) s H = regNext (evOpsGo P Γ call r6_8.1 r6_8.1 s H) := at_region (by kernel_rfl) r6_8.2 s H
attribute [simp] r6_8
@[simp] theorem n6_9 (s : List V) (H : Heap) : evCode P Γ call n f m (cAt [1, 1, 1, 1] B6) s H = seqNext P Γ call n f m (cAt [1, 1, 1, 1, 1] B6) (evCode P Γ call n f m (cAt [1, 1, 1, 1, 0] B6) s H) := at_seq (by kernel_rfl) rfl rfl s H
@[simp] theorem n6_10 (s : List V) (H : Heap) : evCode P Γ call n f m (cAt [1, 1, 1, 1, 0] B6) s H = seqNext P Γ call n f m (cAt [1, 1, 1, 1, 0, 1] B6) (evCode P Γ call n f m (cAt [1, 1, 1, 1, 0, 0] B6) s H) := at_seq (by kernel_rfl) rfl rfl s H
noncomputable def r6_11 : {l : List Oper // opsOf (cAt [1, 1, 1, 1, 0, 0] B6) = l} := by
  apply Subtype.mk
  dsimp only [opsOf, cAt, kids, B6, bodyOf, Try.f6, List.getD, List.getElem?_cons_zero, List.getElem?_cons_succ, Option.getD_some]
@[simp] theorem n6_11 (s : List V) (H : Heap) : evCode P Γ call n f m (cAt [1, 1, 1, 1, 0, 0] B6) s H = regNext (evOpsGo P Γ call r6_11.1 r6_11.1 s H) := at_region (by kernel_rfl) r6_11.2 s H
attribute [simp] r6_11
@[simp] theorem n6_12 (s : List V) (H : Heap) : evCode P Γ call n f m (cAt [1, 1, 1, 1, 0, 1] B6) s H = condW P Γ call n f m (cAt [1, 1, 1, 1, 0, 1, 0] B6) (cAt [1, 1, 1, 1, 0, 1, 1] B6) s H (evOperand Γ s (.tmp 54)) := at_cond (by kernel_rfl) (by kernel_rfl) rfl rfl s H
@[simp] theorem n6_13 (s : List V) (H : Heap) : evCode P Γ call n f m (cAt [1, 1, 1, 1, 0, 1, 0] B6) s H = seqNext P Γ call n f m (cAt [1, 1, 1, 1, 0, 1, 0, 1] B6) (evCode P Γ call n f m (cAt [1, 1, 1, 1, 0, 1, 0, 0] B6) s H) := at_seq (by kernel_rfl) rfl rfl s H
noncomputable def r6_14 : {l : List Oper // opsOf (cAt [1, 1, 1, 1, 0, 1, 0, 0] B6) = l} := by
  apply Subtype.mk
  dsimp only [opsOf, cAt, kids, B6, bodyOf, Try.f6, List.getD, List.getElem?_cons_zero, List.getElem?_cons_succ, Option.getD_some]
@[simp] theorem n6_14 (s : List V) (H : Heap) : evCode P Γ call n f m (cAt [1, 1, 1, 1, 0, 1, 0, 0] B6) s H = regNext (evOpsGo P Γ call r6_14.1 r6_14.1 s H) := at_region (by kernel_rfl) r6_14.2 s H
attribute [simp] r6_14
@[simp] theorem n6_15 (s : List V) (H : Heap) : evCode P Γ call n f m (cAt [1, 1, 1, 1, 0, 1, 0, 1] B6) s H = some (.ret, s, H) := at_ret (by kernel_rfl) s H
@[simp] theorem n6_16 (s : List V) (H : Heap) : evCode P Γ call n f m (cAt [1, 1, 1, 1, 0, 1, 1] B6) s H = some (.normal, s, H) := at_skip (by kernel_rfl) s H
@[simp] theorem n6_17 (s : List V) (H : Heap) : evCode P Γ call n f m (cAt [1, 1, 1, 1, 1] B6) s H = seqNext P Γ call n f m (cAt [1, 1, 1, 1, 1, 1] B6) (evCode P Γ call n f m (cAt [1, 1, 1, 1, 1, 0] B6) s H) := at_seq (by kernel_rfl) rfl rfl s H
noncomputable def r6_18 : {l : List Oper // opsOf (cAt [1, 1, 1, 1, 1, 0] B6) = l} := by
  apply Subtype.mk
  dsimp only [opsOf, cAt, kids, B6, bodyOf, Try.f6, List.getD, List.getElem?_cons_zero, List.getElem?_cons_succ, Option.getD_some]
@[simp] theorem n6_18 (s : List V) (H : Heap) : evCode P Γ call n f m (cAt [1, 1, 1, 1, 1, 0] B6) s H = regNext (evOpsGo P Γ call r6_18.1 r6_18.1 s H) := at_region (by kernel_rfl) r6_18.2 s H
attribute [simp] r6_18
@[simp] theorem n6_19 (s : List V) (H : Heap) : evCode P Γ call n f m (cAt [1, 1, 1, 1, 1, 1] B6) s H = seqNext P Γ call n f m (cAt [1, 1, 1, 1, 1, 1, 1] B6) (evCode P Γ call n f m (cAt [1, 1, 1, 1, 1, 1, 0] B6) s H) := at_seq (by kernel_rfl) rfl rfl s H
noncomputable def r6_20 : {l : List Oper // opsOf (cAt [1, 1, 1, 1, 1, 1, 0] B6) = l} := by
  apply Subtype.mk
  dsimp only [opsOf, cAt, kids, B6, bodyOf, Try.f6, List.getD, List.getElem?_cons_zero, List.getElem?_cons_succ, Option.getD_some]
@[simp] theorem n6_20 (s : List V) (H : Heap) : evCode P Γ call n f m (cAt [1, 1, 1, 1, 1, 1, 0] B6) s H = regNext (evOpsGo P Γ call r6_20.1 r6_20.1 s H) := at_region (by kernel_rfl) r6_20.2 s H
attribute [simp] r6_20
@[simp] theorem n6_21 (s : List V) (H : Heap) : evCode P Γ call n f m (cAt [1, 1, 1, 1, 1, 1, 1] B6) s H = seqNext P Γ call n f m (cAt [1, 1, 1, 1, 1, 1, 1, 1] B6) (evCode P Γ call n f m (cAt [1, 1, 1, 1, 1, 1, 1, 0] B6) s H) := at_seq (by kernel_rfl) rfl rfl s H
@[simp] theorem n6_22 (s : List V) (H : Heap) : evCode P Γ call n f m (cAt [1, 1, 1, 1, 1, 1, 1, 0] B6) s H = seqNext P Γ call n f m (cAt [1, 1, 1, 1, 1, 1, 1, 0, 1] B6) (evCode P Γ call n f m (cAt [1, 1, 1, 1, 1, 1, 1, 0, 0] B6) s H) := at_seq (by kernel_rfl) rfl rfl s H
noncomputable def r6_23 : {l : List Oper // opsOf (cAt [1, 1, 1, 1, 1, 1, 1, 0, 0] B6) = l} := by
  apply Subtype.mk
  dsimp only [opsOf, cAt, kids, B6, bodyOf, Try.f6, List.getD, List.getElem?_cons_zero, List.getElem?_cons_succ, Option.getD_some]
@[simp] theorem n6_23 (s : List V) (H : Heap) : evCode P Γ call n f m (cAt [1, 1, 1, 1, 1, 1, 1, 0, 0] B6) s H = regNext (evOpsGo P Γ call r6_23.1 r6_23.1 s H) := at_region (by kernel_rfl) r6_23.2 s H
attribute [simp] r6_23
@[simp] theorem n6_24 (s : List V) (H : Heap) : evCode P Γ call n f m (cAt [1, 1, 1, 1, 1, 1, 1, 0, 1] B6) s H = condW P Γ call n f m (cAt [1, 1, 1, 1, 1, 1, 1, 0, 1, 0] B6) (cAt [1, 1, 1, 1, 1, 1, 1, 0, 1, 1] B6) s H (evOperand Γ s (.tmp 87)) := at_cond (by kernel_rfl) (by kernel_rfl) rfl rfl s H
@[simp] theorem n6_25 (s : List V) (H : Heap) : evCode P Γ call n f m (cAt [1, 1, 1, 1, 1, 1, 1, 0, 1, 0] B6) s H = seqNext P Γ call n f m (cAt [1, 1, 1, 1, 1, 1, 1, 0, 1, 0, 1] B6) (evCode P Γ call n f m (cAt [1, 1, 1, 1, 1, 1, 1, 0, 1, 0, 0] B6) s H) := at_seq (by kernel_rfl) rfl rfl s H
noncomputable def r6_26 : {l : List Oper // opsOf (cAt [1, 1, 1, 1, 1, 1, 1, 0, 1, 0, 0] B6) = l} := by
  apply Subtype.mk
  dsimp only [opsOf, cAt, kids, B6, bodyOf, Try.f6, List.getD, List.getElem?_cons_zero, List.getElem?_cons_succ, Option.getD_some]
@[simp] theorem n6_26 (s : List V) (H : Heap) : evCode P Γ call n f m (cAt [1, 1, 1, 1, 1, 1, 1, 0, 1, 0, 0] B6) s H = regNext (evOpsGo P Γ call r6_26.1 r6_26.1 s H) := at_region (by kernel_rfl) r6_26.2 s H
attribute [simp] r6_26
@[simp] theorem n6_27 (s : List V) (H : Heap) : evCode P Γ call n f m (cAt [1, 1, 1, 1, 1, 1, 1, 0, 1, 0, 1] B6) s H = seqNext P Γ call n f m (cAt [1, 1, 1, 1, 1, 1, 1, 0, 1, 0, 1, 1] B6) (evCode P Γ call n f m (cAt [1, 1, 1, 1, 1, 1, 1, 0, 1, 0, 1, 0] B6) s H) := at_seq (by kernel_rfl) rfl rfl s H
noncomputable def r6_28 : {l : List Oper // opsOf (cAt [1, 1, 1, 1, 1, 1, 1, 0, 1, 0, 1, 0] B6) = l} := by
  apply Subtype.mk
  dsimp only [opsOf, cAt, kids, B6, bodyOf, Try.f6, List.getD, List.getElem?_cons_zero, List.getElem?_cons_succ, Option.getD_some]
@[simp] theorem n6_28 (s : List V) (H : Heap) : evCode P Γ call n f m (cAt [1, 1, 1, 1, 1, 1, 1, 0, 1, 0, 1, 0] B6) s H = regNext (evOpsGo P Γ call r6_28.1 r6_28.1 s H) := at_region (by kernel_rfl) r6_28.2 s H
attribute [simp] r6_28
@[simp] theorem n6_29 (s : List V) (H : Heap) : evCode P Γ call n f m (cAt [1, 1, 1, 1, 1, 1, 1, 0, 1, 0, 1, 1] B6) s H = seqNext P Γ call n f m (cAt [1, 1, 1, 1, 1, 1, 1, 0, 1, 0, 1, 1, 1] B6) (evCode P Γ call n f m (cAt [1, 1, 1, 1, 1, 1, 1, 0, 1, 0, 1, 1, 0] B6) s H) := at_seq (by kernel_rfl) rfl rfl s H
@[simp] theorem n6_30 (s : List V) (H : Heap) : evCode P Γ call n f m (cAt [1, 1, 1, 1, 1, 1, 1, 0, 1, 0, 1, 1, 0] B6) s H = seqNext P Γ call n f m (cAt [1, 1, 1, 1, 1, 1, 1, 0, 1, 0, 1, 1, 0, 1] B6) (evCode P Γ call n f m (cAt [1, 1, 1, 1, 1, 1, 1, 0, 1, 0, 1, 1, 0, 0] B6) s H) := at_seq (by kernel_rfl) rfl rfl s H
noncomputable def r6_31 : {l : List Oper // opsOf (cAt [1, 1, 1, 1, 1, 1, 1, 0, 1, 0, 1, 1, 0, 0] B6) = l} := by
  apply Subtype.mk
  dsimp only [opsOf, cAt, kids, B6, bodyOf, Try.f6, List.getD, List.getElem?_cons_zero, List.getElem?_cons_succ, Option.getD_some]
@[simp] theorem n6_31 (s : List V) (H : Heap) : evCode P Γ call n f m (cAt [1, 1, 1, 1, 1, 1, 1, 0, 1, 0, 1, 1, 0, 0] B6) s H = regNext (evOpsGo P Γ call r6_31.1 r6_31.1 s H) := at_region (by kernel_rfl) r6_31.2 s H
attribute [simp] r6_31
@[simp] theorem n6_32 (s : List V) (H : Heap) : evCode P Γ call n f m (cAt [1, 1, 1, 1, 1, 1, 1, 0, 1, 0, 1, 1, 0, 1] B6) s H = blockNext 0 (evCode P Γ call n f m (cAt [1, 1, 1, 1, 1, 1, 1, 0, 1, 0, 1, 1, 0, 1, 0] B6) s H) := at_block (by kernel_rfl) rfl s H
@[simp] theorem n6_33 (s : List V) (H : Heap) : evCode P Γ call n f m (cAt [1, 1, 1, 1, 1, 1, 1, 0, 1, 0, 1, 1, 0, 1, 0] B6) s H = evLoopC P Γ call n f m (cAt [1, 1, 1, 1, 1, 1, 1, 0, 1, 0, 1, 1, 0, 1, 0, 0] B6) n s H := at_loop (by kernel_rfl) rfl s H
noncomputable abbrev L6_12 : Code := cAt [1, 1, 1, 1, 1, 1, 1, 0, 1, 0, 1, 1, 0, 1, 0, 0] B6
@[simp] theorem n6_33f : firstRegion (cAt [1, 1, 1, 1, 1, 1, 1, 0, 1, 0, 1, 1, 0, 1, 0, 0] B6) = 12 := by kernel_rfl
@[simp] theorem n6_34 (s : List V) (H : Heap) : evCode P Γ call n f m (cAt [1, 1, 1, 1, 1, 1, 1, 0, 1, 0, 1, 1, 0, 1, 0, 0] B6) s H = seqNext P Γ call n f m (cAt [1, 1, 1, 1, 1, 1, 1, 0, 1, 0, 1, 1, 0, 1, 0, 0, 1] B6) (evCode P Γ call n f m (cAt [1, 1, 1, 1, 1, 1, 1, 0, 1, 0, 1, 1, 0, 1, 0, 0, 0] B6) s H) := at_seq (by kernel_rfl) rfl rfl s H
noncomputable def r6_35 : {l : List Oper // opsOf (cAt [1, 1, 1, 1, 1, 1, 1, 0, 1, 0, 1, 1, 0, 1, 0, 0, 0] B6) = l} := by
  apply Subtype.mk
  dsimp only [opsOf, cAt, kids, B6, bodyOf, Try.f6, List.getD, List.getElem?_cons_zero, List.getElem?_cons_succ, Option.getD_some]
@[simp] theorem n6_35 (s : List V) (H : Heap) : evCode P Γ call n f m (cAt [1, 1, 1, 1, 1, 1, 1, 0, 1, 0, 1, 1, 0, 1, 0, 0, 0] B6) s H = regNext (evOpsGo P Γ call r6_35.1 r6_35.1 s H) := at_region (by kernel_rfl) r6_35.2 s H
attribute [simp] r6_35
@[simp] theorem n6_36 (s : List V) (H : Heap) : evCode P Γ call n f m (cAt [1, 1, 1, 1, 1, 1, 1, 0, 1, 0, 1, 1, 0, 1, 0, 0, 1] B6) s H = seqNext P Γ call n f m (cAt [1, 1, 1, 1, 1, 1, 1, 0, 1, 0, 1, 1, 0, 1, 0, 0, 1, 1] B6) (evCode P Γ call n f m (cAt [1, 1, 1, 1, 1, 1, 1, 0, 1, 0, 1, 1, 0, 1, 0, 0, 1, 0] B6) s H) := at_seq (by kernel_rfl) rfl rfl s H
@[simp] theorem n6_37 (s : List V) (H : Heap) : evCode P Γ call n f m (cAt [1, 1, 1, 1, 1, 1, 1, 0, 1, 0, 1, 1, 0, 1, 0, 0, 1, 0] B6) s H = condW P Γ call n f m (cAt [1, 1, 1, 1, 1, 1, 1, 0, 1, 0, 1, 1, 0, 1, 0, 0, 1, 0, 0] B6) (cAt [1, 1, 1, 1, 1, 1, 1, 0, 1, 0, 1, 1, 0, 1, 0, 0, 1, 0, 1] B6) s H (evOperand Γ s (.tmp 96)) := at_cond (by kernel_rfl) (by kernel_rfl) rfl rfl s H
@[simp] theorem n6_38 (s : List V) (H : Heap) : evCode P Γ call n f m (cAt [1, 1, 1, 1, 1, 1, 1, 0, 1, 0, 1, 1, 0, 1, 0, 0, 1, 0, 0] B6) s H = some (.normal, s, H) := at_skip (by kernel_rfl) s H
@[simp] theorem n6_39 (s : List V) (H : Heap) : evCode P Γ call n f m (cAt [1, 1, 1, 1, 1, 1, 1, 0, 1, 0, 1, 1, 0, 1, 0, 0, 1, 0, 1] B6) s H = some (.exit 0, s, H) := at_exit (by kernel_rfl) s H
@[simp] theorem n6_40 (s : List V) (H : Heap) : evCode P Γ call n f m (cAt [1, 1, 1, 1, 1, 1, 1, 0, 1, 0, 1, 1, 0, 1, 0, 0, 1, 1] B6) s H = seqNext P Γ call n f m (cAt [1, 1, 1, 1, 1, 1, 1, 0, 1, 0, 1, 1, 0, 1, 0, 0, 1, 1, 1] B6) (evCode P Γ call n f m (cAt [1, 1, 1, 1, 1, 1, 1, 0, 1, 0, 1, 1, 0, 1, 0, 0, 1, 1, 0] B6) s H) := at_seq (by kernel_rfl) rfl rfl s H
@[simp] theorem n6_41 (s : List V) (H : Heap) : evCode P Γ call n f m (cAt [1, 1, 1, 1, 1, 1, 1, 0, 1, 0, 1, 1, 0, 1, 0, 0, 1, 1, 0] B6) s H = blockNext 1 (evCode P Γ call n f m (cAt [1, 1, 1, 1, 1, 1, 1, 0, 1, 0, 1, 1, 0, 1, 0, 0, 1, 1, 0, 0] B6) s H) := at_block (by kernel_rfl) rfl s H
@[simp] theorem n6_42 (s : List V) (H : Heap) : evCode P Γ call n f m (cAt [1, 1, 1, 1, 1, 1, 1, 0, 1, 0, 1, 1, 0, 1, 0, 0, 1, 1, 0, 0] B6) s H = seqNext P Γ call n f m (cAt [1, 1, 1, 1, 1, 1, 1, 0, 1, 0, 1, 1, 0, 1, 0, 0, 1, 1, 0, 0, 1] B6) (evCode P Γ call n f m (cAt [1, 1, 1, 1, 1, 1, 1, 0, 1, 0, 1, 1, 0, 1, 0, 0, 1, 1, 0, 0, 0] B6) s H) := at_seq (by kernel_rfl) rfl rfl s H
noncomputable def r6_43 : {l : List Oper // opsOf (cAt [1, 1, 1, 1, 1, 1, 1, 0, 1, 0, 1, 1, 0, 1, 0, 0, 1, 1, 0, 0, 0] B6) = l} := by
  apply Subtype.mk
  dsimp only [opsOf, cAt, kids, B6, bodyOf, Try.f6, List.getD, List.getElem?_cons_zero, List.getElem?_cons_succ, Option.getD_some]
@[simp] theorem n6_43 (s : List V) (H : Heap) : evCode P Γ call n f m (cAt [1, 1, 1, 1, 1, 1, 1, 0, 1, 0, 1, 1, 0, 1, 0, 0, 1, 1, 0, 0, 0] B6) s H = regNext (evOpsGo P Γ call r6_43.1 r6_43.1 s H) := at_region (by kernel_rfl) r6_43.2 s H
attribute [simp] r6_43
noncomputable def r6_44 : {l : List Oper // opsOf (cAt [1, 1, 1, 1, 1, 1, 1, 0, 1, 0, 1, 1, 0, 1, 0, 0, 1, 1, 0, 0, 1] B6) = l} := by
  apply Subtype.mk
  dsimp only [opsOf, cAt, kids, B6, bodyOf, Try.f6, List.getD, List.getElem?_cons_zero, List.getElem?_cons_succ, Option.getD_some]
@[simp] theorem n6_44 (s : List V) (H : Heap) : evCode P Γ call n f m (cAt [1, 1, 1, 1, 1, 1, 1, 0, 1, 0, 1, 1, 0, 1, 0, 0, 1, 1, 0, 0, 1] B6) s H = regNext (evOpsGo P Γ call r6_44.1 r6_44.1 s H) := at_region (by kernel_rfl) r6_44.2 s H
attribute [simp] r6_44
noncomputable def r6_45 : {l : List Oper // opsOf (cAt [1, 1, 1, 1, 1, 1, 1, 0, 1, 0, 1, 1, 0, 1, 0, 0, 1, 1, 1] B6) = l} := by
  apply Subtype.mk
  dsimp only [opsOf, cAt, kids, B6, bodyOf, Try.f6, List.getD, List.getElem?_cons_zero, List.getElem?_cons_succ, Option.getD_some]
@[simp] theorem n6_45 (s : List V) (H : Heap) : evCode P Γ call n f m (cAt [1, 1, 1, 1, 1, 1, 1, 0, 1, 0, 1, 1, 0, 1, 0, 0, 1, 1, 1] B6) s H = regNext (evOpsGo P Γ call r6_45.1 r6_45.1 s H) := at_region (by kernel_rfl) r6_45.2 s H
attribute [simp] r6_45
@[simp] theorem n6_46 (s : List V) (H : Heap) : evCode P Γ call n f m (cAt [1, 1, 1, 1, 1, 1, 1, 0, 1, 0, 1, 1, 1] B6) s H = seqNext P Γ call n f m (cAt [1, 1, 1, 1, 1, 1, 1, 0, 1, 0, 1, 1, 1, 1] B6) (evCode P Γ call n f m (cAt [1, 1, 1, 1, 1, 1, 1, 0, 1, 0, 1, 1, 1, 0] B6) s H) := at_seq (by kernel_rfl) rfl rfl s H
noncomputable def r6_47 : {l : List Oper // opsOf (cAt [1, 1, 1, 1, 1, 1, 1, 0, 1, 0, 1, 1, 1, 0] B6) = l} := by
  apply Subtype.mk
  dsimp only [opsOf, cAt, kids, B6, bodyOf, Try.f6, List.getD, List.getElem?_cons_zero, List.getElem?_cons_succ, Option.getD_some]
@[simp] theorem n6_47 (s : List V) (H : Heap) : evCode P Γ call n f m (cAt [1, 1, 1, 1, 1, 1, 1, 0, 1, 0, 1, 1, 1, 0] B6) s H = regNext (evOpsGo P Γ call r6_47.1 r6_47.1 s H) := at_region (by kernel_rfl) r6_47.2 s H
attribute [simp] r6_47
@[simp] theorem n6_48 (s : List V) (H : Heap) : evCode P Γ call n f m (cAt [1, 1, 1, 1, 1, 1, 1, 0, 1, 0, 1, 1, 1, 1] B6) s H = seqNext P Γ call n f m (cAt [1, 1, 1, 1, 1, 1, 1, 0, 1, 0, 1, 1, 1, 1, 1] B6) (evCode P Γ call n f m (cAt [1, 1, 1, 1, 1, 1, 1, 0, 1, 0, 1, 1, 1, 1, 0] B6) s H) := at_seq (by kernel_rfl) rfl rfl s H
noncomputable def r6_49 : {l : List Oper // opsOf (cAt [1, 1, 1, 1, 1, 1, 1, 0, 1, 0, 1, 1, 1, 1, 0] B6) = l} := by
  apply Subtype.mk
  dsimp only [opsOf, cAt, kids, B6, bodyOf, Try.f6, List.getD, List.getElem?_cons_zero, List.getElem?_cons_succ, Option.getD_some]
@[simp] theorem n6_49 (s : List V) (H : Heap) : evCode P Γ call n f m (cAt [1, 1, 1, 1, 1, 1, 1, 0, 1, 0, 1, 1, 1, 1, 0] B6) s H = regNext (evOpsGo P Γ call r6_49.1 r6_49.1 s H) := at_region (by kernel_rfl) r6_49.2 s H
attribute [simp] r6_49
@[simp] theorem n6_50 (s : List V) (H : Heap) : evCode P Γ call n f m (cAt [1, 1, 1, 1, 1, 1, 1, 0, 1, 0, 1, 1, 1, 1, 1] B6) s H = blockNext 2 (evCode P Γ call n f m (cAt [1, 1, 1, 1, 1, 1, 1, 0, 1, 0, 1, 1, 1, 1, 1, 0] B6) s H) := at_block (by kernel_rfl) rfl s H
@[simp] theorem n6_51 (s : List V) (H : Heap) : evCode P Γ call n f m (cAt [1, 1, 1, 1, 1, 1, 1, 0, 1, 0, 1, 1, 1, 1, 1, 0] B6) s H = evLoopC P Γ call n f m (cAt [1, 1, 1, 1, 1, 1, 1, 0, 1, 0, 1, 1, 1, 1, 1, 0, 0] B6) n s H := at_loop (by kernel_rfl) rfl s H
noncomputable abbrev L6_18 : Code := cAt [1, 1, 1, 1, 1, 1, 1, 0, 1, 0, 1, 1, 1, 1, 1, 0, 0] B6
@[simp] theorem n6_51f : firstRegion (cAt [1, 1, 1, 1, 1, 1, 1, 0, 1, 0, 1, 1, 1, 1, 1, 0, 0] B6) = 18 := by kernel_rfl
@[simp] theorem n6_52 (s : List V) (H : Heap) : evCode P Γ call n f m (cAt [1, 1, 1, 1, 1, 1, 1, 0, 1, 0, 1, 1, 1, 1, 1, 0, 0] B6) s H = seqNext P Γ call n f m (cAt [1, 1, 1, 1, 1, 1, 1, 0, 1, 0, 1, 1, 1, 1, 1, 0, 0, 1] B6) (evCode P Γ call n f m (cAt [1, 1, 1, 1, 1, 1, 1, 0, 1, 0, 1, 1, 1, 1, 1, 0, 0, 0] B6) s H) := at_seq (by kernel_rfl) rfl rfl s H
noncomputable def r6_53 : {l : List Oper // opsOf (cAt [1, 1, 1, 1, 1, 1, 1, 0, 1, 0, 1, 1, 1, 1, 1, 0, 0, 0] B6) = l} := by
  apply Subtype.mk
  dsimp only [opsOf, cAt, kids, B6, bodyOf, Try.f6, List.getD, List.getElem?_cons_zero, List.getElem?_cons_succ, Option.getD_some]
@[simp] theorem n6_53 (s : List V) (H : Heap) : evCode P Γ call n f m (cAt [1, 1, 1, 1, 1, 1, 1, 0, 1, 0, 1, 1, 1, 1, 1, 0, 0, 0] B6) s H = regNext (evOpsGo P Γ call r6_53.1 r6_53.1 s H) := at_region (by kernel_rfl) r6_53.2 s H
attribute [simp] r6_53
@[simp] theorem n6_54 (s : List V) (H : Heap) : evCode P Γ call n f m (cAt [1, 1, 1, 1, 1, 1, 1, 0, 1, 0, 1, 1, 1, 1, 1, 0, 0, 1] B6) s H = seqNext P Γ call n f m (cAt [1, 1, 1, 1, 1, 1, 1, 0, 1, 0, 1, 1, 1, 1, 1, 0, 0, 1, 1] B6) (evCode P Γ call n f m (cAt [1, 1, 1, 1, 1, 1, 1, 0, 1, 0, 1, 1, 1, 1, 1, 0, 0, 1, 0] B6) s H) := at_seq (by kernel_rfl) rfl rfl s H
@[simp] theorem n6_55 (s : List V) (H : Heap) : evCode P Γ call n f m (cAt [1, 1, 1, 1, 1, 1, 1, 0, 1, 0, 1, 1, 1, 1, 1, 0, 0, 1, 0] B6) s H = condW P Γ call n f m (cAt [1, 1, 1, 1, 1, 1, 1, 0, 1, 0, 1, 1, 1, 1, 1, 0, 0, 1, 0, 0] B6) (cAt [1, 1, 1, 1, 1, 1, 1, 0, 1, 0, 1, 1, 1, 1, 1, 0, 0, 1, 0, 1] B6) s H (evOperand Γ s (.tmp 118)) := at_cond (by kernel_rfl) (by kernel_rfl) rfl rfl s H
@[simp] theorem n6_56 (s : List V) (H : Heap) : evCode P Γ call n f m (cAt [1, 1, 1, 1, 1, 1, 1, 0, 1, 0, 1, 1, 1, 1, 1, 0, 0, 1, 0, 0] B6) s H = some (.normal, s, H) := at_skip (by kernel_rfl) s H
@[simp] theorem n6_57 (s : List V) (H : Heap) : evCode P Γ call n f m (cAt [1, 1, 1, 1, 1, 1, 1, 0, 1, 0, 1, 1, 1, 1, 1, 0, 0, 1, 0, 1] B6) s H = some (.exit 2, s, H) := at_exit (by kernel_rfl) s H
@[simp] theorem n6_58 (s : List V) (H : Heap) : evCode P Γ call n f m (cAt [1, 1, 1, 1, 1, 1, 1, 0, 1, 0, 1, 1, 1, 1, 1, 0, 0, 1, 1] B6) s H = seqNext P Γ call n f m (cAt [1, 1, 1, 1, 1, 1, 1, 0, 1, 0, 1, 1, 1, 1, 1, 0, 0, 1, 1, 1] B6) (evCode P Γ call n f m (cAt [1, 1, 1, 1, 1, 1, 1, 0, 1, 0, 1, 1, 1, 1, 1, 0, 0, 1, 1, 0] B6) s H) := at_seq (by kernel_rfl) rfl rfl s H
@[simp] theorem n6_59 (s : List V) (H : Heap) : evCode P Γ call n f m (cAt [1, 1, 1, 1, 1, 1, 1, 0, 1, 0, 1, 1, 1, 1, 1, 0, 0, 1, 1, 0] B6) s H = blockNext 3 (evCode P Γ call n f m (cAt [1, 1, 1, 1, 1, 1, 1, 0, 1, 0, 1, 1, 1, 1, 1, 0, 0, 1, 1, 0, 0] B6) s H) := at_block (by kernel_rfl) rfl s H
@[simp] theorem n6_60 (s : List V) (H : Heap) : evCode P Γ call n f m (cAt [1, 1, 1, 1, 1, 1, 1, 0, 1, 0, 1, 1, 1, 1, 1, 0, 0, 1, 1, 0, 0] B6) s H = seqNext P Γ call n f m (cAt [1, 1, 1, 1, 1, 1, 1, 0, 1, 0, 1, 1, 1, 1, 1, 0, 0, 1, 1, 0, 0, 1] B6) (evCode P Γ call n f m (cAt [1, 1, 1, 1, 1, 1, 1, 0, 1, 0, 1, 1, 1, 1, 1, 0, 0, 1, 1, 0, 0, 0] B6) s H) := at_seq (by kernel_rfl) rfl rfl s H
noncomputable def r6_61 : {l : List Oper // opsOf (cAt [1, 1, 1, 1, 1, 1, 1, 0, 1, 0, 1, 1, 1, 1, 1, 0, 0, 1, 1, 0, 0, 0] B6) = l} := by
  apply Subtype.mk
  dsimp only [opsOf, cAt, kids, B6, bodyOf, Try.f6, List.getD, List.getElem?_cons_zero, List.getElem?_cons_succ, Option.getD_some]
@[simp] theorem n6_61 (s : List V) (H : Heap) : evCode P Γ call n f m (cAt [1, 1, 1, 1, 1, 1, 1, 0, 1, 0, 1, 1, 1, 1, 1, 0, 0, 1, 1, 0, 0, 0] B6) s H = regNext (evOpsGo P Γ call r6_61.1 r6_61.1 s H) := at_region (by kernel_rfl) r6_61.2 s H
attribute [simp] r6_61
noncomputable def r6_62 : {l : List Oper // opsOf (cAt [1, 1, 1, 1, 1, 1, 1, 0, 1, 0, 1, 1, 1, 1, 1, 0, 0, 1, 1, 0, 0, 1] B6) = l} := by
  apply Subtype.mk
  dsimp only [opsOf, cAt, kids, B6, bodyOf, Try.f6, List.getD, List.getElem?_cons_zero, List.getElem?_cons_succ, Option.getD_some]
@[simp] theorem n6_62 (s : List V) (H : Heap) : evCode P Γ call n f m (cAt [1, 1, 1, 1, 1, 1, 1, 0, 1, 0, 1, 1, 1, 1, 1, 0, 0, 1, 1, 0, 0, 1] B6) s H = regNext (drawR P Γ call r6_62.1 [([], []), ([], []), ([3, 4, 7, 8, 9, 10, 11, 13, 14], [124, 125, 128, 129, 130, 131, 132, 134, 135]), ([2, 7, 8, 9, 10, 11, 13, 14], [123, 128, 129, 130, 131, 132, 134, 135]), ([2, 7, 8, 9, 10, 11, 13, 14], [123, 128, 129, 130, 131, 132, 134, 135]), ([7, 8, 9, 10, 11, 13, 14], [128, 129, 130, 131, 132, 134, 135]), ([7, 8, 9, 10, 11, 13, 14], [128, 129, 130, 131, 132, 134, 135]), ([2, 3, 4, 5, 6, 8, 9, 13, 14], [123, 124, 125, 126, 127, 129, 130, 134, 135]), ([2, 3, 4, 5, 6, 7, 13, 14], [123, 124, 125, 126, 127, 128, 134, 135]), ([2, 3, 4, 5, 6, 7, 13, 14], [123, 124, 125, 126, 127, 128, 134, 135]), ([2, 3, 4, 5, 6, 13, 14], [123, 124, 125, 126, 127, 134, 135]), ([2, 3, 4, 5, 6, 13, 14], [123, 124, 125, 126, 127, 134, 135]), ([13, 14], [134, 135]), ([2, 3, 4, 5, 6, 7, 8, 9, 10, 11, 12], [123, 124, 125, 126, 127, 128, 129, 130, 131, 132, 133]), ([2, 3, 4, 5, 6, 7, 8, 9, 10, 11, 12], [123, 124, 125, 126, 127, 128, 129, 130, 131, 132, 133]), ([], []), ([], []), ([], [])] s H) := at_drawT (by kernel_rfl) r6_62.2 (by kernel_rfl) s H
attribute [simp] r6_62
noncomputable def r6_63 : {l : List Oper // opsOf (cAt [1, 1, 1, 1, 1, 1, 1, 0, 1, 0, 1, 1, 1, 1, 1, 0, 0, 1, 1, 1] B6) = l} := by
  apply Subtype.mk
  dsimp only [opsOf, cAt, kids, B6, bodyOf, Try.f6, List.getD, List.getElem?_cons_zero, List.getElem?_cons_succ, Option.getD_some]
@[simp] theorem n6_63 (s : List V) (H : Heap) : evCode P Γ call n f m (cAt [1, 1, 1, 1, 1, 1, 1, 0, 1, 0, 1, 1, 1, 1, 1, 0, 0, 1, 1, 1] B6) s H = regNext (evOpsGo P Γ call r6_63.1 r6_63.1 s H) := at_region (by kernel_rfl) r6_63.2 s H
attribute [simp] r6_63
@[simp] theorem n6_64 (s : List V) (H : Heap) : evCode P Γ call n f m (cAt [1, 1, 1, 1, 1, 1, 1, 0, 1, 1] B6) s H = some (.normal, s, H) := at_skip (by kernel_rfl) s H
@[simp] theorem n6_65 (s : List V) (H : Heap) : evCode P Γ call n f m (cAt [1, 1, 1, 1, 1, 1, 1, 1] B6) s H = seqNext P Γ call n f m (cAt [1, 1, 1, 1, 1, 1, 1, 1, 1] B6) (evCode P Γ call n f m (cAt [1, 1, 1, 1, 1, 1, 1, 1, 0] B6) s H) := at_seq (by kernel_rfl) rfl rfl s H
@[simp] theorem n6_66 (s : List V) (H : Heap) : evCode P Γ call n f m (cAt [1, 1, 1, 1, 1, 1, 1, 1, 0] B6) s H = seqNext P Γ call n f m (cAt [1, 1, 1, 1, 1, 1, 1, 1, 0, 1] B6) (evCode P Γ call n f m (cAt [1, 1, 1, 1, 1, 1, 1, 1, 0, 0] B6) s H) := at_seq (by kernel_rfl) rfl rfl s H
noncomputable def r6_67 : {l : List Oper // opsOf (cAt [1, 1, 1, 1, 1, 1, 1, 1, 0, 0] B6) = l} := by
  apply Subtype.mk
  dsimp only [opsOf, cAt, kids, B6, bodyOf, Try.f6, List.getD, List.getElem?_cons_zero, List.getElem?_cons_succ, Option.getD_some]
@[simp] theorem n6_67 (s : List V) (H : Heap) : evCode P Γ call n f m (cAt [1, 1, 1, 1, 1, 1, 1, 1, 0, 0] B6) s H = regNext (evOpsGo P Γ call r6_67.1 r6_67.1 s H) := at_region (by kernel_rfl) r6_67.2 s H
attribute [simp] r6_67
@[simp] theorem n6_68 (s : List V) (H : Heap) : evCode P Γ call n f m (cAt [1, 1, 1, 1, 1, 1, 1, 1, 0, 1] B6) s H = condW P Γ call n f m (cAt [1, 1, 1, 1, 1, 1, 1, 1, 0, 1, 0] B6) (cAt [1, 1, 1, 1, 1, 1, 1, 1, 0, 1, 1] B6) s H (evOperand Γ s (.tmp 146)) := at_cond (by kernel_rfl) (by kernel_rfl) rfl rfl s H
@[simp] theorem n6_69 (s : List V) (H : Heap) : evCode P Γ call n f m (cAt [1, 1, 1, 1, 1, 1, 1, 1, 0, 1, 0] B6) s H = seqNext P Γ call n f m (cAt [1, 1, 1, 1, 1, 1, 1, 1, 0, 1, 0, 1] B6) (evCode P Γ call n f m (cAt [1, 1, 1, 1, 1, 1, 1, 1, 0, 1, 0, 0] B6) s H) := at_seq (by kernel_rfl) rfl rfl s H
noncomputable def r6_70 : {l : List Oper // opsOf (cAt [1, 1, 1, 1, 1, 1, 1, 1, 0, 1, 0, 0] B6) = l} := by
  apply Subtype.mk
  dsimp only [opsOf, cAt, kids, B6, bodyOf, Try.f6, List.getD, List.getElem?_cons_zero, List.getElem?_cons_succ, Option.getD_some]
@[simp] theorem n6_70 (s : List V) (H : Heap) : evCode P Γ call n f m (cAt [1, 1, 1, 1, 1, 1, 1, 1, 0, 1, 0, 0] B6) s H = regNext (evOpsGo P Γ call r6_70.1 r6_70.1 s H) := at_region (by kernel_rfl) r6_70.2 s H
attribute [simp] r6_70
@[simp] theorem n6_71 (s : List V) (H : Heap) : evCode P Γ call n f m (cAt [1, 1, 1, 1, 1, 1, 1, 1, 0, 1, 0, 1] B6) s H = some (.ret, s, H) := at_ret (by kernel_rfl) s H
@[simp] theorem n6_72 (s : List V) (H : Heap) : evCode P Γ call n f m (cAt [1, 1, 1, 1, 1, 1, 1, 1, 0, 1, 1] B6) s H = some (.normal, s, H) := at_skip (by kernel_rfl) s H
@[simp] theorem n6_73 (s : List V) (H : Heap) : evCode P Γ call n f m (cAt [1, 1, 1, 1, 1, 1, 1, 1, 1] B6) s H = seqNext P Γ call n f m (cAt [1, 1, 1, 1, 1, 1, 1, 1, 1, 1] B6) (evCode P Γ call n f m (cAt [1, 1, 1, 1, 1, 1, 1, 1, 1, 0] B6) s H) := at_seq (by kernel_rfl) rfl rfl s H
noncomputable def r6_74 : {l : List Oper // opsOf (cAt [1, 1, 1, 1, 1, 1, 1, 1, 1, 0] B6) = l} := by
  apply Subtype.mk
  dsimp only [opsOf, cAt, kids, B6, bodyOf, Try.f6, List.getD, List.getElem?_cons_zero, List.getElem?_cons_succ, Option.getD_some]
@[simp] theorem n6_74 (s : List V) (H : Heap) : evCode P Γ call n f m (cAt [1, 1, 1, 1, 1, 1, 1, 1, 1, 0] B6) s H = regNext (evOpsGo P Γ call r6_74.1 r6_74.1 s H) := at_region (by kernel_rfl) r6_74.2 s H
attribute [simp] r6_74
@[simp] theorem n6_75 (s : List V) (H : Heap) : evCode P Γ call n f m (cAt [1, 1, 1, 1, 1, 1, 1, 1, 1, 1] B6) s H = seqNext P Γ call n f m (cAt [1, 1, 1, 1, 1, 1, 1, 1, 1, 1, 1] B6) (evCode P Γ call n f m (cAt [1, 1, 1, 1, 1, 1, 1, 1, 1, 1, 0] B6) s H) := at_seq (by kernel_rfl) rfl rfl s H
@[simp] theorem n6_76 (s : List V) (H : Heap) : evCode P Γ call n f m (cAt [1, 1, 1, 1, 1, 1, 1, 1, 1, 1, 0] B6) s H = blockNext 4 (evCode P Γ call n f m (cAt [1, 1, 1, 1, 1, 1, 1, 1, 1, 1, 0, 0] B6) s H) := at_block (by kernel_rfl) rfl s H
@[simp] theorem n6_77 (s : List V) (H : Heap) : evCode P Γ call n f m (cAt [1, 1, 1, 1, 1, 1, 1, 1, 1, 1, 0, 0] B6) s H = seqNext P Γ call n f m (cAt [1, 1, 1, 1, 1, 1, 1, 1, 1, 1, 0, 0, 1] B6) (evCode P Γ call n f m (cAt [1, 1, 1, 1, 1, 1, 1, 1, 1, 1, 0, 0, 0] B6) s H) := at_seq (by kernel_rfl) rfl rfl s H
noncomputable def r6_78 : {l : List Oper // opsOf (cAt [1, 1, 1, 1, 1, 1, 1, 1, 1, 1, 0, 0, 0] B6) = l} := by
  apply Subtype.mk
  dsimp only [opsOf, cAt, kids, B6, bodyOf, Try.f6, List.getD, List.getElem?_cons_zero, List.getElem?_cons_succ, Option.getD_some]
@[simp] theorem n6_78 (s : List V) (H : Heap) : evCode P Γ call n f m (cAt [1, 1, 1, 1, 1, 1, 1, 1, 1, 1, 0, 0, 0] B6) s H = regNext (evOpsGo P Γ call r6_78.1 r6_78.1 s H) := at_region (by kernel_rfl) r6_78.2 s H
attribute [simp] r6_78
@[simp] theorem n6_79 (s : List V) (H : Heap) : evCode P Γ call n f m (cAt [1, 1, 1, 1, 1, 1, 1, 1, 1, 1, 0, 0, 1] B6) s H = condW P Γ call n f m (cAt [1, 1, 1, 1, 1, 1, 1, 1, 1, 1, 0, 0, 1, 0] B6) (cAt [1, 1, 1, 1, 1, 1, 1, 1, 1, 1, 0, 0, 1, 1] B6) s H (evOperand Γ s (.tmp 153)) := at_cond (by kernel_rfl) (by kernel_rfl) rfl rfl s H
@[simp] theorem n6_80 (s : List V) (H : Heap) : evCode P Γ call n f m (cAt [1, 1, 1, 1, 1, 1, 1, 1, 1, 1, 0, 0, 1, 0] B6) s H = seqNext P Γ call n f m (cAt [1, 1, 1, 1, 1, 1, 1, 1, 1, 1, 0, 0, 1, 0, 1] B6) (evCode P Γ call n f m (cAt [1, 1, 1, 1, 1, 1, 1, 1, 1, 1, 0, 0, 1, 0, 0] B6) s H) := at_seq (by kernel_rfl) rfl rfl s H
noncomputable def r6_81 : {l : List Oper // opsOf (cAt [1, 1, 1, 1, 1, 1, 1, 1, 1, 1, 0, 0, 1, 0, 0] B6) = l} := by
  apply Subtype.mk
  dsimp only [opsOf, cAt, kids, B6, bodyOf, Try.f6, List.getD, List.getElem?_cons_zero, List.getElem?_cons_succ, Option.getD_some]
@[simp] theorem n6_81 (s : List V) (H : Heap) : evCode P Γ call n f m (cAt [1, 1, 1, 1, 1, 1, 1, 1, 1, 1, 0, 0, 1, 0, 0] B6) s H = regNext (evOpsGo P Γ call r6_81.1 r6_81.1 s H) := at_region (by kernel_rfl) r6_81.2 s H
attribute [simp] r6_81
@[simp] theorem n6_82 (s : List V) (H : Heap) : evCode P Γ call n f m (cAt [1, 1, 1, 1, 1, 1, 1, 1, 1, 1, 0, 0, 1, 0, 1] B6) s H = some (.ret, s, H) := at_ret (by kernel_rfl) s H
@[simp] theorem n6_83 (s : List V) (H : Heap) : evCode P Γ call n f m (cAt [1, 1, 1, 1, 1, 1, 1, 1, 1, 1, 0, 0, 1, 1] B6) s H = seqNext P Γ call n f m (cAt [1, 1, 1, 1, 1, 1, 1, 1, 1, 1, 0, 0, 1, 1, 1] B6) (evCode P Γ call n f m (cAt [1, 1, 1, 1, 1, 1, 1, 1, 1, 1, 0, 0, 1, 1, 0] B6) s H) := at_seq (by kernel_rfl) rfl rfl s H
noncomputable def r6_84 : {l : List Oper // opsOf (cAt [1, 1, 1, 1, 1, 1, 1, 1, 1, 1, 0, 0, 1, 1, 0] B6) = l} := by
  apply Subtype.mk
  dsimp only [opsOf, cAt, kids, B6, bodyOf, Try.f6, List.getD, List.getElem?_cons_zero, List.getElem?_cons_succ, Option.getD_some]
@[simp] theorem n6_84 (s : List V) (H : Heap) : evCode P Γ call n f m (cAt [1, 1, 1, 1, 1, 1, 1, 1, 1, 1, 0, 0, 1, 1, 0] B6) s H = regNext (evOpsGo P Γ call r6_84.1 r6_84.1 s H) := at_region (by kernel_rfl) r6_84.2 s H
attribute [simp] r6_84
@[simp] theorem n6_85 (s : List V) (H : Heap) : evCode P Γ call n f m (cAt [1, 1, 1, 1, 1, 1, 1, 1, 1, 1, 0, 0, 1, 1, 1] B6) s H = condW P Γ call n f m (cAt [1, 1, 1, 1, 1, 1, 1, 1, 1, 1, 0, 0, 1, 1, 1, 0] B6) (cAt [1, 1, 1, 1, 1, 1, 1, 1, 1, 1, 0, 0, 1, 1, 1, 1] B6) s H (evOperand Γ s (.tmp 178)) := at_cond (by kernel_rfl) (by kernel_rfl) rfl rfl s H
@[simp] theorem n6_86 (s : List V) (H : Heap) : evCode P Γ call n f m (cAt [1, 1, 1, 1, 1, 1, 1, 1, 1, 1, 0, 0, 1, 1, 1, 0] B6) s H = seqNext P Γ call n f m (cAt [1, 1, 1, 1, 1, 1, 1, 1, 1, 1, 0, 0, 1, 1, 1, 0, 1] B6) (evCode P Γ call n f m (cAt [1, 1, 1, 1, 1, 1, 1, 1, 1, 1, 0, 0, 1, 1, 1, 0, 0] B6) s H) := at_seq (by kernel_rfl) rfl rfl s H
noncomputable def r6_87 : {l : List Oper // opsOf (cAt [1, 1, 1, 1, 1, 1, 1, 1, 1, 1, 0, 0, 1, 1, 1, 0, 0] B6) = l} := by
  apply Subtype.mk
  dsimp only [opsOf, cAt, kids, B6, bodyOf, Try.f6, List.getD, List.getElem?_cons_zero, List.getElem?_cons_succ, Option.getD_some]
@[simp] theorem n6_87 (s : List V) (H : Heap) : evCode P Γ call n f m (cAt [1, 1, 1, 1, 1, 1, 1, 1, 1, 1, 0, 0, 1, 1, 1, 0, 0] B6) s H = regNext (evOpsGo P Γ call r6_87.1 r6_87.1 s H) := at_region (by kernel_rfl) r6_87.2 s H
attribute [simp] r6_87
@[simp] theorem n6_88 (s : List V) (H : Heap) : evCode P Γ call n f m (cAt [1, 1, 1, 1, 1, 1, 1, 1, 1, 1, 0, 0, 1, 1, 1, 0, 1] B6) s H = some (.ret, s, H) := at_ret (by kernel_rfl) s H
@[simp] theorem n6_89 (s : List V) (H : Heap) : evCode P Γ call n f m (cAt [1, 1, 1, 1, 1, 1, 1, 1, 1, 1, 0, 0, 1, 1, 1, 1] B6) s H = some (.normal, s, H) := at_skip (by kernel_rfl) s H
@[simp] theorem n6_90 (s : List V) (H : Heap) : evCode P Γ call n f m (cAt [1, 1, 1, 1, 1, 1, 1, 1, 1, 1, 1] B6) s H = seqNext P Γ call n f m (cAt [1, 1, 1, 1, 1, 1, 1, 1, 1, 1, 1, 1] B6) (evCode P Γ call n f m (cAt [1, 1, 1, 1, 1, 1, 1, 1, 1, 1, 1, 0] B6) s H) := at_seq (by kernel_rfl) rfl rfl s H
noncomputable def r6_91 : {l : List Oper // opsOf (cAt [1, 1, 1, 1, 1, 1, 1, 1, 1, 1, 1, 0] B6) = l} := by
  apply Subtype.mk
  dsimp only [opsOf, cAt, kids, B6, bodyOf, Try.f6, List.getD, List.getElem?_cons_zero, List.getElem?_cons_succ, Option.getD_some]
@[simp] theorem n6_91 (s : List V) (H : Heap) : evCode P Γ call n f m (cAt [1, 1, 1, 1, 1, 1, 1, 1, 1, 1, 1, 0] B6) s H = regNext (evOpsGo P Γ call r6_91.1 r6_91.1 s H) := at_region (by kernel_rfl) r6_91.2 s H
attribute [simp] r6_91
@[simp] theorem n6_92 (s : List V) (H : Heap) : evCode P Γ call n f m (cAt [1, 1, 1, 1, 1, 1, 1, 1, 1, 1, 1, 1] B6) s H = some (.ret, s, H) := at_ret (by kernel_rfl) s H
theorem b6 {k : Nat} (ho : ∀ args H, Γ.orc 6 args H = none) (args : List V) (H : Heap) (ha : args.length ≤ 198) : evF Try.prog Γ (k + 1) 6 args H = bodyEnd Try.prog [.tmp 12] H.length (evCode Try.prog Γ (evF Try.prog Γ k) k 6 H.length (cAt [] B6) (mkL 198 V.undef (enumV 0 args)) H) := body_at Try.func6 (by decide) rfl ho rfl rfl args H ha
noncomputable def B22 : Code := bodyOf Try.f22
@[simp] theorem n22_1 (s : List V) (H : Heap) : evCode P Γ call n f m (cAt [] B22) s H = seqNext P Γ call n f m (cAt [1] B22) (evCode P Γ call n f m (cAt [0] B22) s H) := at_seq (by kernel_rfl) rfl rfl s H
noncomputable def r22_2 : {l : List Oper // opsOf (cAt [0] B22) = l} := by
  apply Subtype.mk
  dsimp only [opsOf, cAt, kids, B22, bodyOf, Try.f22, List.getD, List.getElem?_cons_zero, List.getElem?_cons_succ, Option.getD_some]
@[simp] theorem n22_2 (s : List V) (H : Heap) : evCode P Γ call n f m (cAt [0] B22) s H = regNext (evOpsGo P Γ call r22_2.1 r22_2.1 s H) := at_region (by kernel_rfl) r22_2.2 s H
attribute [simp] r22_2
@[simp] theorem n22_3 (s : List V) (H : Heap) : evCode P Γ call n f m (cAt [1] B22) s H = seqNext P Γ call n f m (cAt [1, 1] B22) (evCode P Γ call n f m (cAt [1, 0] B22) s H) := at_seq (by kernel_rfl) rfl rfl s H
noncomputable def r22_4 : {l : List Oper // opsOf (cAt [1, 0] B22) = l} := by
  apply Subtype.mk
  dsimp only [opsOf, cAt, kids, B22, bodyOf, Try.f22, List.getD, List.getElem?_cons_zero, List.getElem?_cons_succ, Option.getD_some]
@[simp] theorem n22_4 (s : List V) (H : Heap) : evCode P Γ call n f m (cAt [1, 0] B22) s H = regNext (evOpsGo P Γ call r22_4.1 r22_4.1 s H) := at_region (by kernel_rfl) r22_4.2 s H
attribute [simp] r22_4
@[simp] theorem n22_5 (s : List V) (H : Heap) : evCode P Γ call n f m (cAt [1, 1] B22) s H = seqNext P Γ call n f m (cAt [1, 1, 1] B22) (evCode P Γ call n f m (cAt [1, 1, 0] B22) s H) := at_seq (by kernel_rfl) rfl rfl s H
@[simp] theorem n22_6 (s : List V) (H : Heap) : evCode P Γ call n f m (cAt [1, 1, 0] B22) s H = seqNext P Γ call n f m (cAt [1, 1, 0, 1] B22) (evCode P Γ call n f m (cAt [1, 1, 0, 0] B22) s H) := at_seq (by kernel_rfl) rfl rfl s H
noncomputable def r22_7 : {l : List Oper // opsOf (cAt [1, 1, 0, 0] B22) = l} := by
  apply Subtype.mk
  dsimp only [opsOf, cAt, kids, B22, bodyOf, Try.f22, List.getD, List.getElem?_cons_zero, List.getElem?_cons_succ, Option.getD_some]
@[simp] theorem n22_7 (s : List V) (H : Heap) : evCode P Γ call n f m (cAt [1, 1, 0, 0] B22) s H = regNext (evOpsGo P Γ call r22_7.1 r22_7.1 s H) := at_region (by kernel_rfl) r22_7.2 s H
attribute [simp] r22_7
@[simp] theorem n22_8 (s : List V) (H : Heap) : evCode P Γ call n f m (cAt [1, 1, 0, 1] B22) s H = blockNext 0 (evCode P Γ call n f m (cAt [1, 1, 0, 1, 0] B22) s H) := at_block (by kernel_rfl) rfl s H
@[simp] theorem n22_9 (s : List V) (H : Heap) : evCode P Γ call n f m (cAt [1, 1, 0, 1, 0] B22) s H = evLoopC P Γ call n f m (cAt [1, 1, 0, 1, 0, 0] B22) n s H := at_loop (by kernel_rfl) rfl s H
noncomputable abbrev L22_3 : Code := cAt [1, 1, 0, 1, 0, 0] B22
@[simp] theorem n22_9f : firstRegion (cAt [1, 1, 0, 1, 0, 0] B22) = 3 := by kernel_rfl
@[simp] theorem n22_10 (s : List V) (H : Heap) : evCode P Γ call n f m (cAt [1, 1, 0, 1, 0, 0] B22) s H = seqNext P Γ call n f m (cAt [1, 1, 0, 1, 0, 0, 1] B22) (evCode P Γ call n f m (cAt [1, 1, 0, 1, 0, 0, 0] B22) s H) := at_seq (by kernel_rfl) rfl rfl s H
noncomputable def r22_11 : {l : List Oper // opsOf (cAt [1, 1, 0, 1, 0, 0, 0] B22) = l} := by
  apply Subtype.mk
  dsimp only [opsOf, cAt, kids, B22, bodyOf, Try.f22, List.getD, List.getElem?_cons_zero, List.getElem?_cons_succ, Option.getD_some]
@[simp] theorem n22_11 (s : List V) (H : Heap) : evCode P Γ call n f m (cAt [1, 1, 0, 1, 0, 0, 0] B22) s H = regNext (evOpsGo P Γ call r22_11.1 r22_11.1 s H) := at_region (by kernel_rfl) r22_11.2 s H
attribute [simp] r22_11
@[simp] theorem n22_12 (s : List V) (H : Heap) : evCode P Γ call n f m (cAt [1, 1, 0, 1, 0, 0, 1] B22) s H = seqNext P Γ call n f m (cAt [1, 1, 0, 1, 0, 0, 1, 1] B22) (evCode P Γ call n f m (cAt [1, 1, 0, 1, 0, 0, 1, 0] B22) s H) := at_seq (by kernel_rfl) rfl rfl s H
@[simp] theorem n22_13 (s : List V) (H : Heap) : evCode P Γ call n f m (cAt [1, 1, 0, 1, 0, 0, 1, 0] B22) s H = condW P Γ call n f m (cAt [1, 1, 0, 1, 0, 0, 1, 0, 0] B22) (cAt [1, 1, 0, 1, 0, 0, 1, 0, 1] B22) s H (evOperand Γ s (.tmp 12)) := at_cond (by kernel_rfl) (by kernel_rfl) rfl rfl s H
@[simp] theorem n22_14 (s : List V) (H : Heap) : evCode P Γ call n f m (cAt [1, 1, 0, 1, 0, 0, 1, 0, 0] B22) s H = some (.normal, s, H) := at_skip (by kernel_rfl) s H
@[simp] theorem n22_15 (s : List V) (H : Heap) : evCode P Γ call n f m (cAt [1, 1, 0, 1, 0, 0, 1, 0, 1] B22) s H = some (.exit 0, s, H) := at_exit (by kernel_rfl) s H
@[simp] theorem n22_16 (s : List V) (H : Heap) : evCode P Γ call n f m (cAt [1, 1, 0, 1, 0, 0, 1, 1] B22) s H = seqNext P Γ call n f m (cAt [1, 1, 0, 1, 0, 0, 1, 1, 1] B22) (evCode P Γ call n f m (cAt [1, 1, 0, 1, 0, 0, 1, 1, 0] B22) s H) := at_seq (by kernel_rfl) rfl rfl s H
@[simp] theorem n22_17 (s : List V) (H : Heap) : evCode P Γ call n f m (cAt [1, 1, 0, 1, 0, 0, 1, 1, 0] B22) s H = blockNext 1 (evCode P Γ call n f m (cAt [1, 1, 0, 1, 0, 0, 1, 1, 0, 0] B22) s H) := at_block (by kernel_rfl) rfl s H
@[simp] theorem n22_18 (s : List V) (H : Heap) : evCode P Γ call n f m (cAt [1, 1, 0, 1, 0, 0, 1, 1, 0, 0] B22) s H = seqNext P Γ call n f m (cAt [1, 1, 0, 1, 0, 0, 1, 1, 0, 0, 1] B22) (evCode P Γ call n f m (cAt [1, 1, 0, 1, 0, 0, 1, 1, 0, 0, 0] B22) s H) := at_seq (by kernel_rfl) rfl rfl s H
noncomputable def r22_19 : {l : List Oper // opsOf (cAt [1, 1, 0, 1, 0, 0, 1, 1, 0, 0, 0] B22) = l} := by
  apply Subtype.mk
  dsimp only [opsOf, cAt, kids, B22, bodyOf, Try.f22, List.getD, List.getElem?_cons_zero, List.getElem?_cons_succ, Option.getD_some]
@[simp] theorem n22_19 (s : List V) (H : Heap) : evCode P Γ call n f m (cAt [1, 1, 0, 1, 0, 0, 1, 1, 0, 0, 0] B22) s H = regNext (evOpsGo P Γ call r22_19.1 r22_19.1 s H) := at_region (by kernel_rfl) r22_19.2 s H
attribute [simp] r22_19
@[simp] theorem n22_20 (s : List V) (H : Heap) : evCode P Γ call n f m (cAt [1, 1, 0, 1, 0, 0, 1, 1, 0, 0, 1] B22) s H = seqNext P Γ call n f m (cAt [1, 1, 0, 1, 0, 0, 1, 1, 0, 0, 1, 1] B22) (evCode P Γ call n f m (cAt [1, 1, 0, 1, 0, 0, 1, 1, 0, 0, 1, 0] B22) s H) := at_seq (by kernel_rfl) rfl rfl s H
noncomputable def r22_21 : {l : List Oper // opsOf (cAt [1, 1, 0, 1, 0, 0, 1, 1, 0, 0, 1, 0] B22) = l} := by
  apply Subtype.mk
  dsimp only [opsOf, cAt, kids, B22, bodyOf, Try.f22, List.getD, List.getElem?_cons_zero, List.getElem?_cons_succ, Option.getD_some]
@[simp] theorem n22_21 (s : List V) (H : Heap) : evCode P Γ call n f m (cAt [1, 1, 0, 1, 0, 0, 1, 1, 0, 0, 1, 0] B22) s H = regNext (evOpsGo P Γ call r22_21.1 r22_21.1 s H) := at_region (by kernel_rfl) r22_21.2 s H
attribute [simp] r22_21
@[simp] theorem n22_22 (s : List V) (H : Heap) : evCode P Γ call n f m (cAt [1, 1, 0, 1, 0, 0, 1, 1, 0, 0, 1, 1] B22) s H = seqNext P Γ call n f m (cAt [1, 1, 0, 1, 0, 0, 1, 1, 0, 0, 1, 1, 1] B22) (evCode P Γ call n f m (cAt [1, 1, 0, 1, 0, 0, 1, 1, 0, 0, 1, 1, 0] B22) s H) := at_seq (by kernel_rfl) rfl rfl s H
noncomputable def r22_23 : {l : List Oper // opsOf (cAt [1, 1, 0, 1, 0, 0, 1, 1, 0, 0, 1, 1, 0] B22) = l} := by
  apply Subtype.mk
  dsimp only [opsOf, cAt, kids, B22, bodyOf, Try.f22, List.getD, List.getElem?_cons_zero, List.getElem?_cons_succ, Option.getD_some]
@[simp] theorem n22_23 (s : List V) (H : Heap) : evCode P Γ call n f m (cAt [1, 1, 0, 1, 0, 0, 1, 1, 0, 0, 1, 1, 0] B22) s H = regNext (evOpsGo P Γ call r22_23.1 r22_23.1 s H) := at_region (by kernel_rfl) r22_23.2 s H
attribute [simp] r22_23
@[simp] theorem n22_24 (s : List V) (H : Heap) : evCode P Γ call n f m (cAt [1, 1, 0, 1, 0, 0, 1, 1, 0, 0, 1, 1, 1] B22) s H = condW P Γ call n f m (cAt [1, 1, 0, 1, 0, 0, 1, 1, 0, 0, 1, 1, 1, 0] B22) (cAt [1, 1, 0, 1, 0, 0, 1, 1, 0, 0, 1, 1, 1, 1] B22) s H (evOperand Γ s (.tmp 20)) := at_cond (by kernel_rfl) (by kernel_rfl) rfl rfl s H
noncomputable def r22_25 : {l : List Oper // opsOf (cAt [1, 1, 0, 1, 0, 0, 1, 1, 0, 0, 1, 1, 1, 0] B22) = l} := by
  apply Subtype.mk
  dsimp only [opsOf, cAt, kids, B22, bodyOf, Try.f22, List.getD, List.getElem?_cons_zero, List.getElem?_cons_succ, Option.getD_some]
@[simp] theorem n22_25 (s : List V) (H : Heap) : evCode P Γ call n f m (cAt [1, 1, 0, 1, 0, 0, 1, 1, 0, 0, 1, 1, 1, 0] B22) s H = regNext (evOpsGo P Γ call r22_25.1 r22_25.1 s H) := at_region (by kernel_rfl) r22_25.2 s H
attribute [simp] r22_25
@[simp] theorem n22_26 (s : List V) (H : Heap) : evCode P Γ call n f m (cAt [1, 1, 0, 1, 0, 0, 1, 1, 0, 0, 1, 1, 1, 1] B22) s H = some (.normal, s, H) := at_skip (by kernel_rfl) s H
noncomputable def r22_27 : {l : List Oper // opsOf (cAt [1, 1, 0, 1, 0, 0, 1, 1, 1] B22) = l} := by
  apply Subtype.mk
  dsimp only [opsOf, cAt, kids, B22, bodyOf, Try.f22, List.getD, List.getElem?_cons_zero, List.getElem?_cons_succ, Option.getD_some]
@[simp] theorem n22_27 (s : List V) (H : Heap) : evCode P Γ call n f m (cAt [1, 1, 0, 1, 0, 0, 1, 1, 1] B22) s H = regNext (evOpsGo P Γ call r22_27.1 r22_27.1 s H) := at_region (by kernel_rfl) r22_27.2 s H
attribute [simp] r22_27
@[simp] theorem n22_28 (s : List V) (H : Heap) : evCode P Γ call n f m (cAt [1, 1, 1] B22) s H = seqNext P Γ call n f m (cAt [1, 1, 1, 1] B22) (evCode P Γ call n f m (cAt [1, 1, 1, 0] B22) s H) := at_seq (by kernel_rfl) rfl rfl s H
noncomputable def r22_29 : {l : List Oper // opsOf (cAt [1, 1, 1, 0] B22) = l} := by
  apply Subtype.mk
  dsimp only [opsOf, cAt, kids, B22, bodyOf, Try.f22, List.getD, List.getElem?_cons_zero, List.getElem?_cons_succ, Option.getD_some]
@[simp] theorem n22_29 (s : List V) (H : Heap) : evCode P Γ call n f m (cAt [1, 1, 1, 0] B22) s H = regNext (evOpsGo P Γ call r22_29.1 r22_29.1 s H) := at_region (by kernel_rfl) r22_29.2 s H
attribute [simp] r22_29
@[simp] theorem n22_30 (s : List V) (H : Heap) : evCode P Γ call n f m (cAt [1, 1, 1, 1] B22) s H = seqNext P Γ call n f m (cAt [1, 1, 1, 1, 1] B22) (evCode P Γ call n f m (cAt [1, 1, 1, 1, 0] B22) s H) := at_seq (by kernel_rfl) rfl rfl s H
@[simp] theorem n22_31 (s : List V) (H : Heap) : evCode P Γ call n f m (cAt [1, 1, 1, 1, 0] B22) s H = seqNext P Γ call n f m (cAt [1, 1, 1, 1, 0, 1] B22) (evCode P Γ call n f m (cAt [1, 1, 1, 1, 0, 0] B22) s H) := at_seq (by kernel_rfl) rfl rfl s H
noncomputable def r22_32 : {l : List Oper // opsOf (cAt [1, 1, 1, 1, 0, 0] B22) = l} := by
  apply Subtype.mk
  dsimp only [opsOf, cAt, kids, B22, bodyOf, Try.f22, List.getD, List.getElem?_cons_zero, List.getElem?_cons_succ, Option.getD_some]
@[simp] theorem n22_32 (s : List V) (H : Heap) : evCode P Γ call n f m (cAt [1, 1, 1, 1, 0, 0] B22) s H = regNext (evOpsGo P Γ call r22_32.1 r22_32.1 s H) := at_region (by kernel_rfl) r22_32.2 s H
attribute [simp] r22_32
@[simp] theorem n22_33 (s : List V) (H : Heap) : evCode P Γ call n f m (cAt [1, 1, 1, 1, 0, 1] B22) s H = blockNext 2 (evCode P Γ call n f m (cAt [1, 1, 1, 1, 0, 1, 0] B22) s H) := at_block (by kernel_rfl) rfl s H
@[simp] theorem n22_34 (s : List V) (H : Heap) : evCode P Γ call n f m (cAt [1, 1, 1, 1, 0, 1, 0] B22) s H = evLoopC P Γ call n f m (cAt [1, 1, 1, 1, 0, 1, 0, 0] B22) n s H := at_loop (by kernel_rfl) rfl s H
noncomputable abbrev L22_11 : Code := cAt [1, 1, 1, 1, 0, 1, 0, 0] B22
@[simp] theorem n22_34f : firstRegion (cAt [1, 1, 1, 1, 0, 1, 0, 0] B22) = 11 := by kernel_rfl
@[simp] theorem n22_35 (s : List V) (H : Heap) : evCode P Γ call n f m (cAt [1, 1, 1, 1, 0, 1, 0, 0] B22) s H = seqNext P Γ call n f m (cAt [1, 1, 1, 1, 0, 1, 0, 0, 1] B22) (evCode P Γ call n f m (cAt [1, 1, 1, 1, 0, 1, 0, 0, 0] B22) s H) := at_seq (by kernel_rfl) rfl rfl s H
noncomputable def r22_36 : {l : List Oper // opsOf (cAt [1, 1, 1, 1, 0, 1, 0, 0, 0] B22) = l} := by
  apply Subtype.mk
  dsimp only [opsOf, cAt, kids, B22, bodyOf, Try.f22, List.getD, List.getElem?_cons_zero, List.getElem?_cons_succ, Option.getD_some]
@[simp] theorem n22_36 (s : List V) (H : Heap) : evCode P Γ call n f m (cAt [1, 1, 1, 1, 0, 1, 0, 0, 0] B22) s H = regNext (evOpsGo P Γ call r22_36.1 r22_36.1 s H) := at_region (by kernel_rfl) r22_36.2 s H
attribute [simp] r22_36
@[simp] theorem n22_37 (s : List V) (H : Heap) : evCode P Γ call n f m (cAt [1, 1, 1, 1, 0, 1, 0, 0, 1] B22) s H = seqNext P Γ call n f m (cAt [1, 1, 1, 1, 0, 1, 0, 0, 1, 1] B22) (evCode P Γ call n f m (cAt [1, 1, 1, 1, 0, 1, 0, 0, 1, 0] B22) s H) := at_seq (by kernel_rfl) rfl rfl s H
@[simp] theorem n22_38 (s : List V) (H : Heap) : evCode P Γ call n f m (cAt [1, 1, 1, 1, 0, 1, 0, 0, 1, 0] B22) s H = condW P Γ call n f m (cAt [1, 1, 1, 1, 0, 1, 0, 0, 1, 0, 0] B22) (cAt [1, 1, 1, 1, 0, 1, 0, 0, 1, 0, 1] B22) s H (evOperand Γ s (.tmp 28)) := at_cond (by kernel_rfl) (by kernel_rfl) rfl rfl s H
@[simp] theorem n22_39 (s : List V) (H : Heap) : evCode P Γ call n f m (cAt [1, 1, 1, 1, 0, 1, 0, 0, 1, 0, 0] B22) s H = some (.normal, s, H) := at_skip (by kernel_rfl) s H
@[simp] theorem n22_40 (s : List V) (H : Heap) : evCode P Γ call n f m (cAt [1, 1, 1, 1, 0, 1, 0, 0, 1, 0, 1] B22) s H = some (.exit 2, s, H) := at_exit (by kernel_rfl) s H
@[simp] theorem n22_41 (s : List V) (H : Heap) : evCode P Γ call n f m (cAt [1, 1, 1, 1, 0, 1, 0, 0, 1, 1] B22) s H = seqNext P Γ call n f m (cAt [1, 1, 1, 1, 0, 1, 0, 0, 1, 1, 1] B22) (evCode P Γ call n f m (cAt [1, 1, 1, 1, 0, 1, 0, 0, 1, 1, 0] B22) s H) := at_seq (by kernel_rfl) rfl rfl s H
@[simp] theorem n22_42 (s : List V) (H : Heap) : evCode P Γ call n f m (cAt [1, 1, 1, 1, 0, 1, 0, 0, 1, 1, 0] B22) s H = blockNext 3 (evCode P Γ call n f m (cAt [1, 1, 1, 1, 0, 1, 0, 0, 1, 1, 0, 0] B22) s H) := at_block (by kernel_rfl) rfl s H
@[simp] theorem n22_43 (s : List V) (H : Heap) : evCode P Γ call n f m (cAt [1, 1, 1, 1, 0, 1, 0, 0, 1, 1, 0, 0] B22) s H = seqNext P Γ call n f m (cAt [1, 1, 1, 1, 0, 1, 0, 0, 1, 1, 0, 0, 1] B22) (evCode P Γ call n f m (cAt [1, 1, 1, 1, 0, 1, 0, 0, 1, 1, 0, 0, 0] B22) s H) := at_seq (by kernel_rfl) rfl rfl s H
noncomputable def r22_44 : {l : List Oper // opsOf (cAt [1, 1, 1, 1, 0, 1, 0, 0, 1, 1, 0, 0, 0] B22) = l} := by
  apply Subtype.mk
  dsimp only [opsOf, cAt, kids, B22, bodyOf, Try.f22, List.getD, List.getElem?_cons_zero, List.getElem?_cons_succ, Option.getD_some]
@[simp] theorem n22_44 (s : List V) (H : Heap) : evCode P Γ call n f m (cAt [1, 1, 1, 1, 0, 1, 0, 0, 1, 1, 0, 0, 0] B22) s H = regNext (evOpsGo P Γ call r22_44.1 r22_44.1 s H) := at_region (by kernel_rfl) r22_44.2 s H
attribute [simp] r22_44
noncomputable def r22_45 : {l : List Oper // opsOf (cAt [1, 1, 1, 1, 0, 1, 0, 0, 1, 1, 0, 0, 1] B22) = l} := by
  apply Subtype.mk
  dsimp only [opsOf, cAt, kids, B22, bodyOf, Try.f22, List.getD, List.getElem?_cons_zero, List.getElem?_cons_succ, Option.getD_some]
@[simp] theorem n22_45 (s : List V) (H : Heap) : evCode P Γ call n f m (cAt [1, 1, 1, 1, 0, 1, 0, 0, 1, 1, 0, 0, 1] B22) s H = regNext (evOpsGo P Γ call r22_45.1 r22_45.1 s H) := at_region (by kernel_rfl) r22_45.2 s H
attribute [simp] r22_45
noncomputable def r22_46 : {l : List Oper // opsOf (cAt [1, 1, 1, 1, 0, 1, 0, 0, 1, 1, 1] B22) = l} := by
  apply Subtype.mk
  dsimp only [opsOf, cAt, kids, B22, bodyOf, Try.f22, List.getD, List.getElem?_cons_zero, List.getElem?_cons_succ, Option.getD_some]
@[simp] theorem n22_46 (s : List V) (H : Heap) : evCode P Γ call n f m (cAt [1, 1, 1, 1, 0, 1, 0, 0, 1, 1, 1] B22) s H = regNext (evOpsGo P Γ call r22_46.1 r22_46.1 s H) := at_region (by kernel_rfl) r22_46.2 s H
attribute [simp] r22_46
@[simp] theorem n22_47 (s : List V) (H : Heap) : evCode P Γ call n f m (cAt [1, 1, 1, 1, 1] B22) s H = seqNext P Γ call n f m (cAt [1, 1, 1, 1, 1, 1] B22) (evCode P Γ call n f m (cAt [1, 1, 1, 1, 1, 0] B22) s H) := at_seq (by kernel_rfl) rfl rfl s H
noncomputable def r22_48 : {l : List Oper // opsOf (cAt [1, 1, 1, 1, 1, 0] B22) = l} := by
  apply Subtype.mk
  dsimp only [opsOf, cAt, kids, B22, bodyOf, Try.f22, List.getD, List.getElem?_cons_zero, List.getElem?_cons_succ, Option.getD_some]
@[simp] theorem n22_48 (s : List V) (H : Heap) : evCode P Γ call n f m (cAt [1, 1, 1, 1, 1, 0] B22) s H = regNext (evOpsGo P Γ call r22_48.1 r22_48.1 s H) := at_region (by kernel_rfl) r22_48.2 s H
attribute [simp] r22_48
@[simp] theorem n22_49 (s : List V) (H : Heap) : evCode P Γ call n f m (cAt [1, 1, 1, 1, 1, 1] B22) s H = some (.ret, s, H) := at_ret (by kernel_rfl) s H
theorem b22 {k : Nat} (ho : ∀ args H, Γ.orc 22 args H = none) (args : List V) (H : Heap) (ha : args.length ≤ 36) : evF Try.prog Γ (k + 1) 22 args H = bodyEnd Try.prog [.tmp 2] H.length (evCode Try.prog Γ (evF Try.prog Γ k) k 22 H.length (cAt [] B22) (mkL 36 V.undef (enumV 0 args)) H) := body_at Try.func22 (by decide) rfl ho rfl rfl args H ha
noncomputable def B23 : Code := bodyOf Try.f23
@[simp] theorem n23_1 (s : List V) (H : Heap) : evCode P Γ call n f m (cAt [] B23) s H = seqNext P Γ call n f m (cAt [1] B23) (evCode P Γ call n f m (cAt [0] B23) s H) := at_seq (by kernel_rfl) rfl rfl s H
noncomputable def r23_2 : {l : List Oper // opsOf (cAt [0] B23) = l} := by
  apply Subtype.mk
  dsimp only [opsOf, cAt, kids, B23, bodyOf, Try.f23, List.getD, List.getElem?_cons_zero, List.getElem?_cons_succ, Option.getD_some]
@[simp] theorem n23_2 (s : List V) (H : Heap) : evCode P Γ call n f m (cAt [0] B23) s H = regNext (evOpsGo P Γ call r23_2.1 r23_2.1 s H) := at_region (by kernel_rfl) r23_2.2 s H
attribute [simp] r23_2
@[simp] theorem n23_3 (s : List V) (H : Heap) : evCode P Γ call n f m (cAt [1] B23) s H = seqNext P Γ call n f m (cAt [1, 1] B23) (evCode P Γ call n f m (cAt [1, 0] B23) s H) := at_seq (by kernel_rfl) rfl rfl s H
@[simp] theorem n23_4 (s : List V) (H : Heap) : evCode P Γ call n f m (cAt [1, 0] B23) s H = seqNext P Γ call n f m (cAt [1, 0, 1] B23) (evCode P Γ call n f m (cAt [1, 0, 0] B23) s H) := at_seq (by kernel_rfl) rfl rfl s H
noncomputable def r23_5 : {l : List Oper // opsOf (cAt [1, 0, 0] B23) = l} := by
  apply Subtype.mk
  dsimp only [opsOf, cAt, kids, B23, bodyOf, Try.f23, List.getD, List.getElem?_cons_zero, List.getElem?_cons_succ, Option.getD_some]
@[simp] theorem n23_5 (s : List V) (H : Heap) : evCode P Γ call n f m (cAt [1, 0, 0] B23) s H = regNext (evOpsGo P Γ call r23_5.1 r23_5.1 s H) := at_region (by kernel_rfl) r23_5.2 s H
attribute [simp] r23_5
@[simp] theorem n23_6 (s : List V) (H : Heap) : evCode P Γ call n f m (cAt [1, 0, 1] B23) s H = seqNext P Γ call n f m (cAt [1, 0, 1, 1] B23) (evCode P Γ call n f m (cAt [1, 0, 1, 0] B23) s H) := at_seq (by kernel_rfl) rfl rfl s H
noncomputable def r23_7 : {l : List Oper // opsOf (cAt [1, 0, 1, 0] B23) = l} := by
  apply Subtype.mk
  dsimp only [opsOf, cAt, kids, B23, bodyOf, Try.f23, List.getD, List.getElem?_cons_zero, List.getElem?_cons_succ, Option.getD_some]
@[simp] theorem n23_7 (s : List V) (H : Heap) : evCode P Γ call n f m (cAt [1, 0, 1, 0] B23) s H = regNext (evOpsGo P Γ call r23_7.1 r23_7.1 s H) := at_region (by kernel_rfl) r23_7.2 s H
attribute [simp] r23_7
@[simp] theorem n23_8 (s : List V) (H : Heap) : evCode P Γ call n f m (cAt [1, 0, 1, 1] B23) s H = condW P Γ call n f m (cAt [1, 0, 1, 1, 0] B23) (cAt [1, 0, 1, 1, 1] B23) s H (evOperand Γ s (.tmp 26)) := at_cond (by kernel_rfl) (by kernel_rfl) rfl rfl s H
@[simp] theorem n23_9 (s : List V) (H : Heap) : evCode P Γ call n f m (cAt [1, 0, 1, 1, 0] B23) s H = seqNext P Γ call n f m (cAt [1, 0, 1, 1, 0, 1] B23) (evCode P Γ call n f m (cAt [1, 0, 1, 1, 0, 0] B23) s H) := at_seq (by kernel_rfl) rfl rfl s H
noncomputable def r23_10 : {l : List Oper // opsOf (cAt [1, 0, 1, 1, 0, 0] B23) = l} := by
  apply Subtype.mk
  dsimp only [opsOf, cAt, kids, B23, bodyOf, Try.f23, List.getD, List.getElem?_cons_zero, List.getElem?_cons_succ, Option.getD_some]
@[simp] theorem n23_10 (s : List V) (H : Heap) : evCode P Γ call n f m (cAt [1, 0, 1, 1, 0, 0] B23) s H = regNext (evOpsGo P Γ call r23_10.1 r23_10.1 s H) := at_region (by kernel_rfl) r23_10.2 s H
attribute [simp] r23_10
@[simp] theorem n23_11 (s : List V) (H : Heap) : evCode P Γ call n f m (cAt [1, 0, 1, 1, 0, 1] B23) s H = some (.ret, s, H) := at_ret (by kernel_rfl) s H
@[simp] theorem n23_12 (s : List V) (H : Heap) : evCode P Γ call n f m (cAt [1, 0, 1, 1, 1] B23) s H = some (.normal, s, H) := at_skip (by kernel_rfl) s H
@[simp] theorem n23_13 (s : List V) (H : Heap) : evCode P Γ call n f m (cAt [1, 1] B23) s H = seqNext P Γ call n f m (cAt [1, 1, 1] B23) (evCode P Γ call n f m (cAt [1, 1, 0] B23) s H) := at_seq (by kernel_rfl) rfl rfl s H
noncomputable def r23_14 : {l : List Oper // opsOf (cAt [1, 1, 0] B23) = l} := by
  apply Subtype.mk
  dsimp only [opsOf, cAt, kids, B23, bodyOf, Try.f23, List.getD, List.getElem?_cons_zero, List.getElem?_cons_succ, Option.getD_some]
@[simp] theorem n23_14 (s : List V) (H : Heap) : evCode P Γ call n f m (cAt [1, 1, 0] B23) s H = regNext (evOpsGo P Γ call r23_14.1 r23_14.1 s H) := at_region (by kernel_rfl) r23_14.2 s H
attribute [simp] r23_14
@[simp] theorem n23_15 (s : List V) (H : Heap) : evCode P Γ call n f m (cAt [1, 1, 1] B23) s H = seqNext P Γ call n f m (cAt [1, 1, 1, 1] B23) (evCode P Γ call n f m (cAt [1, 1, 1, 0] B23) s H) := at_seq (by kernel_rfl) rfl rfl s H
@[simp] theorem n23_16 (s : List V) (H : Heap) : evCode P Γ call n f m (cAt [1, 1, 1, 0] B23) s H = seqNext P Γ call n f m (cAt [1, 1, 1, 0, 1] B23) (evCode P Γ call n f m (cAt [1, 1, 1, 0, 0] B23) s H) := at_seq (by kernel_rfl) rfl rfl s H
noncomputable def r23_17 : {l : List Oper // opsOf (cAt [1, 1, 1, 0, 0] B23) = l} := by
  apply Subtype.mk
  dsimp only [opsOf, cAt, kids, B23, bodyOf, Try.f23, List.getD, List.getElem?_cons_zero, List.getElem?_cons_succ, Option.getD_some]
@[simp] theorem n23_17 (s : List V) (H : Heap) : evCode P Γ call n f m (cAt [1, 1, 1, 0, 0] B23) s H = regNext (evOpsGo P Γ call r23_17.1 r23_17.1 s H) := at_region (by kernel_rfl) r23_17.2 s H
attribute [simp] r23_17
@[simp] theorem n23_18 (s : List V) (H : Heap) : evCode P Γ call n f m (cAt [1, 1, 1, 0, 1] B23) s H = condW P Γ call n f m (cAt [1, 1, 1, 0, 1, 0] B23) (cAt [1, 1, 1, 0, 1, 1] B23) s H (evOperand Γ s (.tmp 41)) := at_cond (by kernel_rfl) (by kernel_rfl) rfl rfl s H
@[simp] theorem n23_19 (s : List V) (H : Heap) : evCode P Γ call n f m (cAt [1, 1, 1, 0, 1, 0] B23) s H = seqNext P Γ call n f m (cAt [1, 1, 1, 0, 1, 0, 1] B23) (evCode P Γ call n f m (cAt [1, 1, 1, 0, 1, 0, 0] B23) s H) := at_seq (by kernel_rfl) rfl rfl s H
noncomputable def r23_20 : {l : List Oper // opsOf (cAt [1, 1, 1, 0, 1, 0, 0] B23) = l} := by
  apply Subtype.mk
  dsimp only [opsOf, cAt, kids, B23, bodyOf, Try.f23, List.getD, List.getElem?_cons_zero, List.getElem?_cons_succ, Option.getD_some]
@[simp] theorem n23_20 (s : List V) (H : Heap) : evCode P Γ call n f m (cAt [1, 1, 1, 0, 1, 0, 0] B23) s H = regNext (evOpsGo P Γ call r23_20.1 r23_20.1 s H) := at_region (by kernel_rfl) r23_20.2 s H
attribute [simp] r23_20
@[simp] theorem n23_21 (s : List V) (H : Heap) : evCode P Γ call n f m (cAt [1, 1, 1, 0, 1, 0, 1] B23) s H = some (.ret, s, H) := at_ret (by kernel_rfl) s H
@[simp] theorem n23_22 (s : List V) (H : Heap) : evCode P Γ call n f m (cAt [1, 1, 1, 0, 1, 1] B23) s H = some (.normal, s, H) := at_skip (by kernel_rfl) s H
@[simp] theorem n23_23 (s : List V) (H : Heap) : evCode P Γ call n f m (cAt [1, 1, 1, 1] B23) s H = seqNext P Γ call n f m (cAt [1, 1, 1, 1, 1] B23) (evCode P Γ call n f m (cAt [1, 1, 1, 1, 0] B23) s H) := at_seq (by kernel_rfl) rfl rfl s H
@[simp] theorem n23_24 (s : List V) (H : Heap) : evCode P Γ call n f m (cAt [1, 1, 1, 1, 0] B23) s H = seqNext P Γ call n f m (cAt [1, 1, 1, 1, 0, 1] B23) (evCode P Γ call n f m (cAt [1, 1, 1, 1, 0, 0] B23) s H) := at_seq (by kernel_rfl) rfl rfl s H
noncomputable def r23_25 : {l : List Oper // opsOf (cAt [1, 1, 1, 1, 0, 0] B23) = l} := by
  apply Subtype.mk
  dsimp only [opsOf, cAt, kids, B23, bodyOf, Try.f23, List.getD, List.getElem?_cons_zero, List.getElem?_cons_succ, Option.getD_some]
@[simp] theorem n23_25 (s : List V) (H : Heap) : evCode P Γ call n f m (cAt [1, 1, 1, 1, 0, 0] B23) s H = regNext (evOpsGo P Γ call r23_25.1 r23_25.1 s H) := at_region (by kernel_rfl) r23_25.2 s H
attribute [simp] r23_25
@[simp] theorem n23_26 (s : List V) (H : Heap) : evCode P Γ call n f m (cAt [1, 1, 1, 1, 0, 1] B23) s H = blockNext 0 (evCode P Γ call n f m (cAt [1, 1, 1, 1, 0, 1, 0] B23) s H) := at_block (by kernel_rfl) rfl s H
@[simp] theorem n23_27 (s : List V) (H : Heap) : evCode P Γ call n f m (cAt [1, 1, 1, 1, 0, 1, 0] B23) s H = evLoopC P Γ call n f m (cAt [1, 1, 1, 1, 0, 1, 0, 0] B23) n s H := at_loop (by kernel_rfl) rfl s H
noncomputable abbrev L23_8 : Code := cAt [1, 1, 1, 1, 0, 1, 0, 0] B23
@[simp] theorem n23_27f : firstRegion (cAt [1, 1, 1, 1, 0, 1, 0, 0] B23) = 8 := by kernel_rfl
@[simp] theorem n23_28 (s : List V) (H : Heap) : evCode P Γ call n f m (cAt [1, 1, 1, 1, 0, 1, 0, 0] B23) s H = seqNext P Γ call n f m (cAt [1, 1, 1, 1, 0, 1, 0, 0, 1] B23) (evCode P Γ call n f m (cAt [1, 1, 1, 1, 0, 1, 0, 0, 0] B23) s H) := at_seq (by kernel_rfl) rfl rfl s H
noncomputable def r23_29 : {l : List Oper // opsOf (cAt [1, 1, 1, 1, 0, 1, 0, 0, 0] B23) = l} := by
  apply Subtype.mk
  dsimp only [opsOf, cAt, kids, B23, bodyOf, Try.f23, List.getD, List.getElem?_cons_zero, List.getElem?_cons_succ, Option.getD_some]
@[simp] theorem n23_29 (s : List V) (H : Heap) : evCode P Γ call n f m (cAt [1, 1, 1, 1, 0, 1, 0, 0, 0] B23) s H = regNext (evOpsGo P Γ call r23_29.1 r23_29.1 s H) := at_region (by kernel_rfl) r23_29.2 s H
attribute [simp] r23_29
@[simp] theorem n23_30 (s : List V) (H : Heap) : evCode P Γ call n f m (cAt [1, 1, 1, 1, 0, 1, 0, 0, 1] B23) s H = seqNext P Γ call n f m (cAt [1, 1, 1, 1, 0, 1, 0, 0, 1, 1] B23) (evCode P Γ call n f m (cAt [1, 1, 1, 1, 0, 1, 0, 0, 1, 0] B23) s H) := at_seq (by kernel_rfl) rfl rfl s H
@[simp] theorem n23_31 (s : List V) (H : Heap) : evCode P Γ call n f m (cAt [1, 1, 1, 1, 0, 1, 0, 0, 1, 0] B23) s H = condW P Γ call n f m (cAt [1, 1, 1, 1, 0, 1, 0, 0, 1, 0, 0] B23) (cAt [1, 1, 1, 1, 0, 1, 0, 0, 1, 0, 1] B23) s H (evOperand Γ s (.tmp 48)) := at_cond (by kernel_rfl) (by kernel_rfl) rfl rfl s H
@[simp] theorem n23_32 (s : List V) (H : Heap) : evCode P Γ call n f m (cAt [1, 1, 1, 1, 0, 1, 0, 0, 1, 0, 0] B23) s H = some (.normal, s, H) := at_skip (by kernel_rfl) s H
@[simp] theorem n23_33 (s : List V) (H : Heap) : evCode P Γ call n f m (cAt [1, 1, 1, 1, 0, 1, 0, 0, 1, 0, 1] B23) s H = some (.exit 0, s, H) := at_exit (by kernel_rfl) s H
@[simp] theorem n23_34 (s : List V) (H : Heap) : evCode P Γ call n f m (cAt [1, 1, 1, 1, 0, 1, 0, 0, 1, 1] B23) s H = seqNext P Γ call n f m (cAt [1, 1, 1, 1, 0, 1, 0, 0, 1, 1, 1] B23) (evCode P Γ call n f m (cAt [1, 1, 1, 1, 0, 1, 0, 0, 1, 1, 0] B23) s H) := at_seq (by kernel_rfl) rfl rfl s H
@[simp] theorem n23_35 (s : List V) (H : Heap) : evCode P Γ call n f m (cAt [1, 1, 1, 1, 0, 1, 0, 0, 1, 1, 0] B23) s H = blockNext 1 (evCode P Γ call n f m (cAt [1, 1, 1, 1, 0, 1, 0, 0, 1, 1, 0, 0] B23) s H) := at_block (by kernel_rfl) rfl s H
@[simp] theorem n23_36 (s : List V) (H : Heap) : evCode P Γ call n f m (cAt [1, 1, 1, 1, 0, 1, 0, 0, 1, 1, 0, 0] B23) s H = seqNext P Γ call n f m (cAt [1, 1, 1, 1, 0, 1, 0, 0, 1, 1, 0, 0, 1] B23) (evCode P Γ call n f m (cAt [1, 1, 1, 1, 0, 1, 0, 0, 1, 1, 0, 0, 0] B23) s H) := at_seq (by kernel_rfl) rfl rfl s H
noncomputable def r23_37 : {l : List Oper // opsOf (cAt [1, 1, 1, 1, 0, 1, 0, 0, 1, 1, 0, 0, 0] B23) = l} := by
  apply Subtype.mk
  dsimp only [opsOf, cAt, kids, B23, bodyOf, Try.f23, List.getD, List.getElem?_cons_zero, List.getElem?_cons_succ, Option.getD_some]
@[simp] theorem n23_37 (s : List V) (H : Heap) : evCode P Γ call n f m (cAt [1, 1, 1, 1, 0, 1, 0, 0, 1, 1, 0, 0, 0] B23) s H = regNext (evOpsGo P Γ call r23_37.1 r23_37.1 s H) := at_region (by kernel_rfl) r23_37.2 s H
attribute [simp] r23_37
@[simp] theorem n23_38 (s : List V) (H : Heap) : evCode P Γ call n f m (cAt [1, 1, 1, 1, 0, 1, 0, 0, 1, 1, 0, 0, 1] B23) s H = seqNext P Γ call n f m (cAt [1, 1, 1, 1, 0, 1, 0, 0, 1, 1, 0, 0, 1, 1] B23) (evCode P Γ call n f m (cAt [1, 1, 1, 1, 0, 1, 0, 0, 1, 1, 0, 0, 1, 0] B23) s H) := at_seq (by kernel_rfl) rfl rfl s H
noncomputable def r23_39 : {l : List Oper // opsOf (cAt [1, 1, 1, 1, 0, 1, 0, 0, 1, 1, 0, 0, 1, 0] B23) = l} := by
  apply Subtype.mk
  dsimp only [opsOf, cAt, kids, B23, bodyOf, Try.f23, List.getD, List.getElem?_cons_zero, List.getElem?_cons_succ, Option.getD_some]
@[simp] theorem n23_39 (s : List V) (H : Heap) : evCode P Γ call n f m (cAt [1, 1, 1, 1, 0, 1, 0, 0, 1, 1, 0, 0, 1, 0] B23) s H = regNext (evOpsGo P Γ call r23_39.1 r23_39.1 s H) := at_region (by kernel_rfl) r23_39.2 s H
attribute [simp] r23_39
@[simp] theorem n23_40 (s : List V) (H : Heap) : evCode P Γ call n f m (cAt [1, 1, 1, 1, 0, 1, 0, 0, 1, 1, 0, 0, 1, 1] B23) s H = condW P Γ call n f m (cAt [1, 1, 1, 1, 0, 1, 0, 0, 1, 1, 0, 0, 1, 1, 0] B23) (cAt [1, 1, 1, 1, 0, 1, 0, 0, 1, 1, 0, 0, 1, 1, 1] B23) s H (evOperand Γ s (.tmp 56)) := at_cond (by kernel_rfl) (by kernel_rfl) rfl rfl s H
@[simp] theorem n23_41 (s : List V) (H : Heap) : evCode P Γ call n f m (cAt [1, 1, 1, 1, 0, 1, 0, 0, 1, 1, 0, 0, 1, 1, 0] B23) s H = seqNext P Γ call n f m (cAt [1, 1, 1, 1, 0, 1, 0, 0, 1, 1, 0, 0, 1, 1, 0, 1] B23) (evCode P Γ call n f m (cAt [1, 1, 1, 1, 0, 1, 0, 0, 1, 1, 0, 0, 1, 1, 0, 0] B23) s H) := at_seq (by kernel_rfl) rfl rfl s H
noncomputable def r23_42 : {l : List Oper // opsOf (cAt [1, 1, 1, 1, 0, 1, 0, 0, 1, 1, 0, 0, 1, 1, 0, 0] B23) = l} := by
  apply Subtype.mk
  dsimp only [opsOf, cAt, kids, B23, bodyOf, Try.f23, List.getD, List.getElem?_cons_zero, List.getElem?_cons_succ, Option.getD_some]
@[simp] theorem n23_42 (s : List V) (H : Heap) : evCode P Γ call n f m (cAt [1, 1, 1, 1, 0, 1, 0, 0, 1, 1, 0, 0, 1, 1, 0, 0] B23) s H = regNext (evOpsGo P Γ call r23_42.1 r23_42.1 s H) := at_region (by kernel_rfl) r23_42.2 s H
attribute [simp] r23_42
@[simp] theorem n23_43 (s : List V) (H : Heap) : evCode P Γ call n f m (cAt [1, 1, 1, 1, 0, 1, 0, 0, 1, 1, 0, 0, 1, 1, 0, 1] B23) s H = some (.ret, s, H) := at_ret (by kernel_rfl) s H
@[simp] theorem n23_44 (s : List V) (H : Heap) : evCode P Γ call n f m (cAt [1, 1, 1, 1, 0, 1, 0, 0, 1, 1, 0, 0, 1, 1, 1] B23) s H = some (.normal, s, H) := at_skip (by kernel_rfl) s H
noncomputable def r23_45 : {l : List Oper // opsOf (cAt [1, 1, 1, 1, 0, 1, 0, 0, 1, 1, 1] B23) = l} := by
  apply Subtype.mk
  dsimp only [opsOf, cAt, kids, B23, bodyOf, Try.f23, List.getD, List.getElem?_cons_zero, List.getElem?_cons_succ, Option.getD_some]
@[simp] theorem n23_45 (s : List V) (H : Heap) : evCode P Γ call n f m (cAt [1, 1, 1, 1, 0, 1, 0, 0, 1, 1, 1] B23) s H = regNext (evOpsGo P Γ call r23_45.1 r23_45.1 s H) := at_region (by kernel_rfl) r23_45.2 s H
attribute [simp] r23_45
@[simp] theorem n23_46 (s : List V) (H : Heap) : evCode P Γ call n f m (cAt [1, 1, 1, 1, 1] B23) s H = seqNext P Γ call n f m (cAt [1, 1, 1, 1, 1, 1] B23) (evCode P Γ call n f m (cAt [1, 1, 1, 1, 1, 0] B23) s H) := at_seq (by kernel_rfl) rfl rfl s H
@[simp] theorem n23_47 (s : List V) (H : Heap) : evCode P Γ call n f m (cAt [1, 1, 1, 1, 1, 0] B23) s H = seqNext P Γ call n f m (cAt [1, 1, 1, 1, 1, 0, 1] B23) (evCode P Γ call n f m (cAt [1, 1, 1, 1, 1, 0, 0] B23) s H) := at_seq (by kernel_rfl) rfl rfl s H
noncomputable def r23_48 : {l : List Oper // opsOf (cAt [1, 1, 1, 1, 1, 0, 0] B23) = l} := by
  apply Subtype.mk
  dsimp only [opsOf, cAt, kids, B23, bodyOf, Try.f23, List.getD, List.getElem?_cons_zero, List.getElem?_cons_succ, Option.getD_some]
@[simp] theorem n23_48 (s : List V) (H : Heap) : evCode P Γ call n f m (cAt [1, 1, 1, 1, 1, 0, 0] B23) s H = regNext (evOpsGo P Γ call r23_48.1 r23_48.1 s H) := at_region (by kernel_rfl) r23_48.2 s H
attribute [simp] r23_48
@[simp] theorem n23_49 (s : List V) (H : Heap) : evCode P Γ call n f m (cAt [1, 1, 1, 1, 1, 0, 1] B23) s H = blockNext 2 (evCode P Γ call n f m (cAt [1, 1, 1, 1, 1, 0, 1, 0] B23) s H) := at_block (by kernel_rfl) rfl s H
@[simp] theorem n23_50 (s : List V) (H : Heap) : evCode P Γ call n f m (cAt [1, 1, 1, 1, 1, 0, 1, 0] B23) s H = evLoopC P Γ call n f m (cAt [1, 1, 1, 1, 1, 0, 1, 0, 0] B23) n s H := at_loop (by kernel_rfl) rfl s H
noncomputable abbrev L23_14 : Code := cAt [1, 1, 1, 1, 1, 0, 1, 0, 0] B23
@[simp] theorem n23_50f : firstRegion (cAt [1, 1, 1, 1, 1, 0, 1, 0, 0] B23) = 14 := by kernel_rfl
@[simp] theorem n23_51 (s : List V) (H : Heap) : evCode P Γ call n f m (cAt [1, 1, 1, 1, 1, 0, 1, 0, 0] B23) s H = seqNext P Γ call n f m (cAt [1, 1, 1, 1, 1, 0, 1, 0, 0, 1] B23) (evCode P Γ call n f m (cAt [1, 1, 1, 1, 1, 0, 1, 0, 0, 0] B23) s H) := at_seq (by kernel_rfl) rfl rfl s H
noncomputable def r23_52 : {l : List Oper // opsOf (cAt [1, 1, 1, 1, 1, 0, 1, 0, 0, 0] B23) = l} := by
  apply Subtype.mk
  dsimp only [opsOf, cAt, kids, B23, bodyOf, Try.f23, List.getD, List.getElem?_cons_zero, List.getElem?_cons_succ, Option.getD_some]
@[simp] theorem n23_52 (s : List V) (H : Heap) : evCode P Γ call n f m (cAt [1, 1, 1, 1, 1, 0, 1, 0, 0, 0] B23) s H = regNext (evOpsGo P Γ call r23_52.1 r23_52.1 s H) := at_region (by kernel_rfl) r23_52.2 s H
attribute [simp] r23_52
@[simp] theorem n23_53 (s : List V) (H : Heap) : evCode P Γ call n f m (cAt [1, 1, 1, 1, 1, 0, 1, 0, 0, 1] B23) s H = seqNext P Γ call n f m (cAt [1, 1, 1, 1, 1, 0, 1, 0, 0, 1, 1] B23) (evCode P Γ call n f m (cAt [1, 1, 1, 1, 1, 0, 1, 0, 0, 1, 0] B23) s H) := at_seq (by kernel_rfl) rfl rfl s H
@[simp] theorem n23_54 (s : List V) (H : Heap) : evCode P Γ call n f m (cAt [1, 1, 1, 1, 1, 0, 1, 0, 0, 1, 0] B23) s H = condW P Γ call n f m (cAt [1, 1, 1, 1, 1, 0, 1, 0, 0, 1, 0, 0] B23) (cAt [1, 1, 1, 1, 1, 0, 1, 0, 0, 1, 0, 1] B23) s H (evOperand Γ s (.tmp 61)) := at_cond (by kernel_rfl) (by kernel_rfl) rfl rfl s H
@[simp] theorem n23_55 (s : List V) (H : Heap) : evCode P Γ call n f m (cAt [1, 1, 1, 1, 1, 0, 1, 0, 0, 1, 0, 0] B23) s H = some (.normal, s, H) := at_skip (by kernel_rfl) s H
@[simp] theorem n23_56 (s : List V) (H : Heap) : evCode P Γ call n f m (cAt [1, 1, 1, 1, 1, 0, 1, 0, 0, 1, 0, 1] B23) s H = some (.exit 2, s, H) := at_exit (by kernel_rfl) s H
@[simp] theorem n23_57 (s : List V) (H : Heap) : evCode P Γ call n f m (cAt [1, 1, 1, 1, 1, 0, 1, 0, 0, 1, 1] B23) s H = seqNext P Γ call n f m (cAt [1, 1, 1, 1, 1, 0, 1, 0, 0, 1, 1, 1] B23) (evCode P Γ call n f m (cAt [1, 1, 1, 1, 1, 0, 1, 0, 0, 1, 1, 0] B23) s H) := at_seq (by kernel_rfl) rfl rfl s H
@[simp] theorem n23_58 (s : List V) (H : Heap) : evCode P Γ call n f m (cAt [1, 1, 1, 1, 1, 0, 1, 0, 0, 1, 1, 0] B23) s H = blockNext 3 (evCode P Γ call n f m (cAt [1, 1, 1, 1, 1, 0, 1, 0, 0, 1, 1, 0, 0] B23) s H) := at_block (by kernel_rfl) rfl s H
@[simp] theorem n23_59 (s : List V) (H : Heap) : evCode P Γ call n f m (cAt [1, 1, 1, 1, 1, 0, 1, 0, 0, 1, 1, 0, 0] B23) s H = seqNext P Γ call n f m (cAt [1, 1, 1, 1, 1, 0, 1, 0, 0, 1, 1, 0, 0, 1] B23) (evCode P Γ call n f m (cAt [1, 1, 1, 1, 1, 0, 1, 0, 0, 1, 1, 0, 0, 0] B23) s H) := at_seq (by kernel_rfl) rfl rfl s H
noncomputable def r23_60 : {l : List Oper // opsOf (cAt [1, 1, 1, 1, 1, 0, 1, 0, 0, 1, 1, 0, 0, 0] B23) = l} := by
  apply Subtype.mk
  dsimp only [opsOf, cAt, kids, B23, bodyOf, Try.f23, List.getD, List.getElem?_cons_zero, List.getElem?_cons_succ, Option.getD_some]
@[simp] theorem n23_60 (s : List V) (H : Heap) : evCode P Γ call n f m (cAt [1, 1, 1, 1, 1, 0, 1, 0, 0, 1, 1, 0, 0, 0] B23) s H = regNext (evOpsGo P Γ call r23_60.1 r23_60.1 s H) := at_region (by kernel_rfl) r23_60.2 s H
attribute [simp] r23_60
@[simp] theorem n23_61 (s : List V) (H : Heap) : evCode P Γ call n f m (cAt [1, 1, 1, 1, 1, 0, 1, 0, 0, 1, 1, 0, 0, 1] B23) s H = seqNext P Γ call n f m (cAt [1, 1, 1, 1, 1, 0, 1, 0, 0, 1, 1, 0, 0, 1, 1] B23) (evCode P Γ call n f m (cAt [1, 1, 1, 1, 1, 0, 1, 0, 0, 1, 1, 0, 0, 1, 0] B23) s H) := at_seq (by kernel_rfl) rfl rfl s H
noncomputable def r23_62 : {l : List Oper // opsOf (cAt [1, 1, 1, 1, 1, 0, 1, 0, 0, 1, 1, 0, 0, 1, 0] B23) = l} := by
  apply Subtype.mk
  dsimp only [opsOf, cAt, kids, B23, bodyOf, Try.f23, List.getD, List.getElem?_cons_zero, List.getElem?_cons_succ, Option.getD_some]
@[simp] theorem n23_62 (s : List V) (H : Heap) : evCode P Γ call n f m (cAt [1, 1, 1, 1, 1, 0, 1, 0, 0, 1, 1, 0, 0, 1, 0] B23) s H = regNext (evOpsGo P Γ call r23_62.1 r23_62.1 s H) := at_region (by kernel_rfl) r23_62.2 s H
attribute [simp] r23_62
@[simp] theorem n23_63 (s : List V) (H : Heap) : evCode P Γ call n f m (cAt [1, 1, 1, 1, 1, 0, 1, 0, 0, 1, 1, 0, 0, 1, 1] B23) s H = seqNext P Γ call n f m (cAt [1, 1, 1, 1, 1, 0, 1, 0, 0, 1, 1, 0, 0, 1, 1, 1] B23) (evCode P Γ call n f m (cAt [1, 1, 1, 1, 1, 0, 1, 0, 0, 1, 1, 0, 0, 1, 1, 0] B23) s H) := at_seq (by kernel_rfl) rfl rfl s H
noncomputable def r23_64 : {l : List Oper // opsOf (cAt [1, 1, 1, 1, 1, 0, 1, 0, 0, 1, 1, 0, 0, 1, 1, 0] B23) = l} := by
  apply Subtype.mk
  dsimp only [opsOf, cAt, kids, B23, bodyOf, Try.f23, List.getD, List.getElem?_cons_zero, List.getElem?_cons_succ, Option.getD_some]
@[simp] theorem n23_64 (s : List V) (H : Heap) : evCode P Γ call n f m (cAt [1, 1, 1, 1, 1, 0, 1, 0, 0, 1, 1, 0, 0, 1, 1, 0] B23) s H = regNext (drawR P Γ call r23_64.1 [([1, 4, 5, 6, 7], [73, 76, 77, 78, 79]), ([0, 4, 5, 6, 7], [72, 76, 77, 78, 79]), ([4, 5, 6, 7], [76, 77, 78, 79]), ([4, 5, 6, 7], [76, 77, 78, 79]), ([0, 1, 2, 3, 5], [72, 73, 74, 75, 77]), ([0, 1, 2, 3, 4], [72, 73, 74, 75, 76]), ([0, 1, 2, 3], [72, 73, 74, 75]), ([0, 1, 2, 3], [72, 73, 74, 75]), ([], []), ([], [])] s H) := at_drawT (by kernel_rfl) r23_64.2 (by kernel_rfl) s H
attribute [simp] r23_64
@[simp] theorem n23_65 (s : List V) (H : Heap) : evCode P Γ call n f m (cAt [1, 1, 1, 1, 1, 0, 1, 0, 0, 1, 1, 0, 0, 1, 1, 1] B23) s H = seqNext P Γ call n f m (cAt [1, 1, 1, 1, 1, 0, 1, 0, 0, 1, 1, 0, 0, 1, 1, 1, 1] B23) (evCode P Γ call n f m (cAt [1, 1, 1, 1, 1, 0, 1, 0, 0, 1, 1, 0, 0, 1, 1, 1, 0] B23) s H) := at_seq (by kernel_rfl) rfl rfl s H
noncomputable def r23_66 : {l : List Oper // opsOf (cAt [1, 1, 1, 1, 1, 0, 1, 0, 0, 1, 1, 0, 0, 1, 1, 1, 0] B23) = l} := by
  apply Subtype.mk
  dsimp only [opsOf, cAt, kids, B23, bodyOf, Try.f23, List.getD, List.getElem?_cons_zero, List.getElem?_cons_succ, Option.getD_some]
@[simp] theorem n23_66 (s : List V) (H : Heap) : evCode P Γ call n f m (cAt [1, 1, 1, 1, 1, 0, 1, 0, 0, 1, 1, 0, 0, 1, 1, 1, 0] B23) s H = regNext (evOpsGo P Γ call r23_66.1 r23_66.1 s H) := at_region (by kernel_rfl) r23_66.2 s H
attribute [simp] r23_66
@[simp] theorem n23_67 (s : List V) (H : Heap) : evCode P Γ call n f m (cAt [1, 1, 1, 1, 1, 0, 1, 0, 0, 1, 1, 0, 0, 1, 1, 1, 1] B23) s H = condW P Γ call n f m (cAt [1, 1, 1, 1, 1, 0, 1, 0, 0, 1, 1, 0, 0, 1, 1, 1, 1, 0] B23) (cAt [1, 1, 1, 1, 1, 0, 1, 0, 0, 1, 1, 0, 0, 1, 1, 1, 1, 1] B23) s H (evOperand Γ s (.tmp 96)) := at_cond (by kernel_rfl) (by kernel_rfl) rfl rfl s H
@[simp] theorem n23_68 (s : List V) (H : Heap) : evCode P Γ call n f m (cAt [1, 1, 1, 1, 1, 0, 1, 0, 0, 1, 1, 0, 0, 1, 1, 1, 1, 0] B23) s H = seqNext P Γ call n f m (cAt [1, 1, 1, 1, 1, 0, 1, 0, 0, 1, 1, 0, 0, 1, 1, 1, 1, 0, 1] B23) (evCode P Γ call n f m (cAt [1, 1, 1, 1, 1, 0, 1, 0, 0, 1, 1, 0, 0, 1, 1, 1, 1, 0, 0] B23) s H) := at_seq (by kernel_rfl) rfl rfl s H
noncomputable def r23_69 : {l : List Oper // opsOf (cAt [1, 1, 1, 1, 1, 0, 1, 0, 0, 1, 1, 0, 0, 1, 1, 1, 1, 0, 0] B23) = l} := by
  apply Subtype.mk
  dsimp only [opsOf, cAt, kids, B23, bodyOf, Try.f23, List.getD, List.getElem?_cons_zero, List.getElem?_cons_succ, Option.getD_some]
@[simp] theorem n23_69 (s : List V) (H : Heap) : evCode P Γ call n f m (cAt [1, 1, 1, 1, 1, 0, 1, 0, 0, 1, 1, 0, 0, 1, 1, 1, 1, 0, 0] B23) s H = regNext (evOpsGo P Γ call r23_69.1 r23_69.1 s H) := at_region (by kernel_rfl) r23_69.2 s H
attribute [simp] r23_69
@[simp] theorem n23_70 (s : List V) (H : Heap) : evCode P Γ call n f m (cAt [1, 1, 1, 1, 1, 0, 1, 0, 0, 1, 1, 0, 0, 1, 1, 1, 1, 0, 1] B23) s H = some (.ret, s, H) := at_ret (by kernel_rfl) s H
@[simp] theorem n23_71 (s : List V) (H : Heap) : evCode P Γ call n f m (cAt [1, 1, 1, 1, 1, 0, 1, 0, 0, 1, 1, 0, 0, 1, 1, 1, 1, 1] B23) s H = some (.normal, s, H) := at_skip (by kernel_rfl) s H
noncomputable def r23_72 : {l : List Oper // opsOf (cAt [1, 1, 1, 1, 1, 0, 1, 0, 0, 1, 1, 1] B23) = l} := by
  apply Subtype.mk
  dsimp only [opsOf, cAt, kids, B23, bodyOf, Try.f23, List.getD, List.getElem?_cons_zero, List.getElem?_cons_succ, Option.getD_some]
@[simp] theorem n23_72 (s : List V) (H : Heap) : evCode P Γ call n f m (cAt [1, 1, 1, 1, 1, 0, 1, 0, 0, 1, 1, 1] B23) s H = regNext (evOpsGo P Γ call r23_72.1 r23_72.1 s H) := at_region (by kernel_rfl) r23_72.2 s H
attribute [simp] r23_72
@[simp] theorem n23_73 (s : List V) (H : Heap) : evCode P Γ call n f m (cAt [1, 1, 1, 1, 1, 1] B23) s H = seqNext P Γ call n f m (cAt [1, 1, 1, 1, 1, 1, 1] B23) (evCode P Γ call n f m (cAt [1, 1, 1, 1, 1, 1, 0] B23) s H) := at_seq (by kernel_rfl) rfl rfl s H
@[simp] theorem n23_74 (s : List V) (H : Heap) : evCode P Γ call n f m (cAt [1, 1, 1, 1, 1, 1, 0] B23) s H = seqNext P Γ call n f m (cAt [1, 1, 1, 1, 1, 1, 0, 1] B23) (evCode P Γ call n f m (cAt [1, 1, 1, 1, 1, 1, 0, 0] B23) s H) := at_seq (by kernel_rfl) rfl rfl s H
noncomputable def r23_75 : {l : List Oper // opsOf (cAt [1, 1, 1, 1, 1, 1, 0, 0] B23) = l} := by
  apply Subtype.mk
  dsimp only [opsOf, cAt, kids, B23, bodyOf, Try.f23, List.getD, List.getElem?_cons_zero, List.getElem?_cons_succ, Option.getD_some]
@[simp] theorem n23_75 (s : List V) (H : Heap) : evCode P Γ call n f m (cAt [1, 1, 1, 1, 1, 1, 0, 0] B23) s H = regNext (evOpsGo P Γ call r23_75.1 r23_75.1 s H) := at_region (by kernel_rfl) r23_75.2 s H
attribute [simp] r23_75
@[simp] theorem n23_76 (s : List V) (H : Heap) : evCode P Γ call n f m (cAt [1, 1, 1, 1, 1, 1, 0, 1] B23) s H = blockNext 4 (evCode P Γ call n f m (cAt [1, 1, 1, 1, 1, 1, 0, 1, 0] B23) s H) := at_block (by kernel_rfl) rfl s H
@[simp] theorem n23_77 (s : List V) (H : Heap) : evCode P Γ call n f m (cAt [1, 1, 1, 1, 1, 1, 0, 1, 0] B23) s H = evLoopC P Γ call n f m (cAt [1, 1, 1, 1, 1, 1, 0, 1, 0, 0] B23) n s H := at_loop (by kernel_rfl) rfl s H
noncomputable abbrev L23_22 : Code := cAt [1, 1, 1, 1, 1, 1, 0, 1, 0, 0] B23
@[simp] theorem n23_77f : firstRegion (cAt [1, 1, 1, 1, 1, 1, 0, 1, 0, 0] B23) = 22 := by kernel_rfl
@[simp] theorem n23_78 (s : List V) (H : Heap) : evCode P Γ call n f m (cAt [1, 1, 1, 1, 1, 1, 0, 1, 0, 0] B23) s H = seqNext P Γ call n f m (cAt [1, 1, 1, 1, 1, 1, 0, 1, 0, 0, 1] B23) (evCode P Γ call n f m (cAt [1, 1, 1, 1, 1, 1, 0, 1, 0, 0, 0] B23) s H) := at_seq (by kernel_rfl) rfl rfl s H
noncomputable def r23_79 : {l : List Oper // opsOf (cAt [1, 1, 1, 1, 1, 1, 0, 1, 0, 0, 0] B23) = l} := by
  apply Subtype.mk
  dsimp only [opsOf, cAt, kids, B23, bodyOf, Try.f23, List.getD, List.getElem?_cons_zero, List.getElem?_cons_succ, Option.getD_some]
@[simp] theorem n23_79 (s : List V) (H : Heap) : evCode P Γ call n f m (cAt [1, 1, 1, 1, 1, 1, 0, 1, 0, 0, 0] B23) s H = regNext (evOpsGo P Γ call r23_79.1 r23_79.1 s H) := at_region (by kernel_rfl) r23_79.2 s H
attribute [simp] r23_79
@[simp] theorem n23_80 (s : List V) (H : Heap) : evCode P Γ call n f m (cAt [1, 1, 1, 1, 1, 1, 0, 1, 0, 0, 1] B23) s H = seqNext P Γ call n f m (cAt [1, 1, 1, 1, 1, 1, 0, 1, 0, 0, 1, 1] B23) (evCode P Γ call n f m (cAt [1, 1, 1, 1, 1, 1, 0, 1, 0, 0, 1, 0] B23) s H) := at_seq (by kernel_rfl) rfl rfl s H
@[simp] theorem n23_81 (s : List V) (H : Heap) : evCode P Γ call n f m (cAt [1, 1, 1, 1, 1, 1, 0, 1, 0, 0, 1, 0] B23) s H = condW P Γ call n f m (cAt [1, 1, 1, 1, 1, 1, 0, 1, 0, 0, 1, 0, 0] B23) (cAt [1, 1, 1, 1, 1, 1, 0, 1, 0, 0, 1, 0, 1] B23) s H (evOperand Γ s (.tmp 101)) := at_cond (by kernel_rfl) (by kernel_rfl) rfl rfl s H
@[simp] theorem n23_82 (s : List V) (H : Heap) : evCode P Γ call n f m (cAt [1, 1, 1, 1, 1, 1, 0, 1, 0, 0, 1, 0, 0] B23) s H = some (.normal, s, H) := at_skip (by kernel_rfl) s H
@[simp] theorem n23_83 (s : List V) (H : Heap) : evCode P Γ call n f m (cAt [1, 1, 1, 1, 1, 1, 0, 1, 0, 0, 1, 0, 1] B23) s H = some (.exit 4, s, H) := at_exit (by kernel_rfl) s H
@[simp] theorem n23_84 (s : List V) (H : Heap) : evCode P Γ call n f m (cAt [1, 1, 1, 1, 1, 1, 0, 1, 0, 0, 1, 1] B23) s H = seqNext P Γ call n f m (cAt [1, 1, 1, 1, 1, 1, 0, 1, 0, 0, 1, 1, 1] B23) (evCode P Γ call n f m (cAt [1, 1, 1, 1, 1, 1, 0, 1, 0, 0, 1, 1, 0] B23) s H) := at_seq (by kernel_rfl) rfl rfl s H
@[simp] theorem n23_85 (s : List V) (H : Heap) : evCode P Γ call n f m (cAt [1, 1, 1, 1, 1, 1, 0, 1, 0, 0, 1, 1, 0] B23) s H = blockNext 5 (evCode P Γ call n f m (cAt [1, 1, 1, 1, 1, 1, 0, 1, 0, 0, 1, 1, 0, 0] B23) s H) := at_block (by kernel_rfl) rfl s H
@[simp] theorem n23_86 (s : List V) (H : Heap) : evCode P Γ call n f m (cAt [1, 1, 1, 1, 1, 1, 0, 1, 0, 0, 1, 1, 0, 0] B23) s H = seqNext P Γ call n f m (cAt [1, 1, 1, 1, 1, 1, 0, 1, 0, 0, 1, 1, 0, 0, 1] B23) (evCode P Γ call n f m (cAt [1, 1, 1, 1, 1, 1, 0, 1, 0, 0, 1, 1, 0, 0, 0] B23) s H) := at_seq (by kernel_rfl) rfl rfl s H
noncomputable def r23_87 : {l : List Oper // opsOf (cAt [1, 1, 1, 1, 1, 1, 0, 1, 0, 0, 1, 1, 0, 0, 0] B23) = l} := by
  apply Subtype.mk
  dsimp only [opsOf, cAt, kids, B23, bodyOf, Try.f23, List.getD, List.getElem?_cons_zero, List.getElem?_cons_succ, Option.getD_some]
@[simp] theorem n23_87 (s : List V) (H : Heap) : evCode P Γ call n f m (cAt [1, 1, 1, 1, 1, 1, 0, 1, 0, 0, 1, 1, 0, 0, 0] B23) s H = regNext (evOpsGo P Γ call r23_87.1 r23_87.1 s H) := at_region (by kernel_rfl) r23_87.2 s H
attribute [simp] r23_87
@[simp] theorem n23_88 (s : List V) (H : Heap) : evCode P Γ call n f m (cAt [1, 1, 1, 1, 1, 1, 0, 1, 0, 0, 1, 1, 0, 0, 1] B23) s H = seqNext P Γ call n f m (cAt [1, 1, 1, 1, 1, 1, 0, 1, 0, 0, 1, 1, 0, 0, 1, 1] B23) (evCode P Γ call n f m (cAt [1, 1, 1, 1, 1, 1, 0, 1, 0, 0, 1, 1, 0, 0, 1, 0] B23) s H) := at_seq (by kernel_rfl) rfl rfl s H
noncomputable def r23_89 : {l : List Oper // opsOf (cAt [1, 1, 1, 1, 1, 1, 0, 1, 0, 0, 1, 1, 0, 0, 1, 0] B23) = l} := by
  apply Subtype.mk
  dsimp only [opsOf, cAt, kids, B23, bodyOf, Try.f23, List.getD, List.getElem?_cons_zero, List.getElem?_cons_succ, Option.getD_some]
@[simp] theorem n23_89 (s : List V) (H : Heap) : evCode P Γ call n f m (cAt [1, 1, 1, 1, 1, 1, 0, 1, 0, 0, 1, 1, 0, 0, 1, 0] B23) s H = regNext (evOpsGo P Γ call r23_89.1 r23_89.1 s H) := at_region (by kernel_rfl) r23_89.2 s H
attribute [simp] r23_89
@[simp] theorem n23_90 (s : List V) (H : Heap) : evCode P Γ call n f m (cAt [1, 1, 1, 1, 1, 1, 0, 1, 0, 0, 1, 1, 0, 0, 1, 1] B23) s H = seqNext P Γ call n f m (cAt [1, 1, 1, 1, 1, 1, 0, 1, 0, 0, 1, 1, 0, 0, 1, 1, 1] B23) (evCode P Γ call n f m (cAt [1, 1, 1, 1, 1, 1, 0, 1, 0, 0, 1, 1, 0, 0, 1, 1, 0] B23) s H) := at_seq (by kernel_rfl) rfl rfl s H
@[simp] theorem n23_91 (s : List V) (H : Heap) : evCode P Γ call n f m (cAt [1, 1, 1, 1, 1, 1, 0, 1, 0, 0, 1, 1, 0, 0, 1, 1, 0] B23) s H = seqNext P Γ call n f m (cAt [1, 1, 1, 1, 1, 1, 0, 1, 0, 0, 1, 1, 0, 0, 1, 1, 0, 1] B23) (evCode P Γ call n f m (cAt [1, 1, 1, 1, 1, 1, 0, 1, 0, 0, 1, 1, 0, 0, 1, 1, 0, 0] B23) s H) := at_seq (by kernel_rfl) rfl rfl s H
noncomputable def r23_92 : {l : List Oper // opsOf (cAt [1, 1, 1, 1, 1, 1, 0, 1, 0, 0, 1, 1, 0, 0, 1, 1, 0, 0] B23) = l} := by
  apply Subtype.mk
  dsimp only [opsOf, cAt, kids, B23, bodyOf, Try.f23, List.getD, List.getElem?_cons_zero, List.getElem?_cons_succ, Option.getD_some]
@[simp] theorem n23_92 (s : List V) (H : Heap) : evCode P Γ call n f m (cAt [1, 1, 1, 1, 1, 1, 0, 1, 0, 0, 1, 1, 0, 0, 1, 1, 0, 0] B23) s H = regNext (evOpsGo P Γ call r23_92.1 r23_92.1 s H) := at_region (by kernel_rfl) r23_92.2 s H
attribute [simp] r23_92
@[simp] theorem n23_93 (s : List V) (H : Heap) : evCode P Γ call n f m (cAt [1, 1, 1, 1, 1, 1, 0, 1, 0, 0, 1, 1, 0, 0, 1, 1, 0, 1] B23) s H = condW P Γ call n f m (cAt [1, 1, 1, 1, 1, 1, 0, 1, 0, 0, 1, 1, 0, 0, 1, 1, 0, 1, 0] B23) (cAt [1, 1, 1, 1, 1, 1, 0, 1, 0, 0, 1, 1, 0, 0, 1, 1, 0, 1, 1] B23) s H (evOperand Γ s (.tmp 111)) := at_cond (by kernel_rfl) (by kernel_rfl) rfl rfl s H
noncomputable def r23_94 : {l : List Oper // opsOf (cAt [1, 1, 1, 1, 1, 1, 0, 1, 0, 0, 1, 1, 0, 0, 1, 1, 0, 1, 0] B23) = l} := by
  apply Subtype.mk
  dsimp only [opsOf, cAt, kids, B23, bodyOf, Try.f23, List.getD, List.getElem?_cons_zero, List.getElem?_cons_succ, Option.getD_some]
@[simp] theorem n23_94 (s : List V) (H : Heap) : evCode P Γ call n f m (cAt [1, 1, 1, 1, 1, 1, 0, 1, 0, 0, 1, 1, 0, 0, 1, 1, 0, 1, 0] B23) s H = regNext (evOpsGo P Γ call r23_94.1 r23_94.1 s H) := at_region (by kernel_rfl) r23_94.2 s H
attribute [simp] r23_94
@[simp] theorem n23_95 (s : List V) (H : Heap) : evCode P Γ call n f m (cAt [1, 1, 1, 1, 1, 1, 0, 1, 0, 0, 1, 1, 0, 0, 1, 1, 0, 1, 1] B23) s H = some (.normal, s, H) := at_skip (by kernel_rfl) s H
@[simp] theorem n23_96 (s : List V) (H : Heap) : evCode P Γ call n f m (cAt [1, 1, 1, 1, 1, 1, 0, 1, 0, 0, 1, 1, 0, 0, 1, 1, 1] B23) s H = seqNext P Γ call n f m (cAt [1, 1, 1, 1, 1, 1, 0, 1, 0, 0, 1, 1, 0, 0, 1, 1, 1, 1] B23) (evCode P Γ call n f m (cAt [1, 1, 1, 1, 1, 1, 0, 1, 0, 0, 1, 1, 0, 0, 1, 1, 1, 0] B23) s H) := at_seq (by kernel_rfl) rfl rfl s H
noncomputable def r23_97 : {l : List Oper // opsOf (cAt [1, 1, 1, 1, 1, 1, 0, 1, 0, 0, 1, 1, 0, 0, 1, 1, 1, 0] B23) = l} := by
  apply Subtype.mk
  dsimp only [opsOf, cAt, kids, B23, bodyOf, Try.f23, List.getD, List.getElem?_cons_zero, List.getElem?_cons_succ, Option.getD_some]
@[simp] theorem n23_97 (s : List V) (H : Heap) : evCode P Γ call n f m (cAt [1, 1, 1, 1, 1, 1, 0, 1, 0, 0, 1, 1, 0, 0, 1, 1, 1, 0] B23) s H = regNext (evOpsGo P Γ call r23_97.1 r23_97.1 s H) := at_region (by kernel_rfl) r23_97.2 s H
attribute [simp] r23_97
@[simp] theorem n23_98 (s : List V) (H : Heap) : evCode P Γ call n f m (cAt [1, 1, 1, 1, 1, 1, 0, 1, 0, 0, 1, 1, 0, 0, 1, 1, 1, 1] B23) s H = condW P Γ call n f m (cAt [1, 1, 1, 1, 1, 1, 0, 1, 0, 0, 1, 1, 0, 0, 1, 1, 1, 1, 0] B23) (cAt [1, 1, 1, 1, 1, 1, 0, 1, 0, 0, 1, 1, 0, 0, 1, 1, 1, 1, 1] B23) s H (evOperand Γ s (.tmp 128)) := at_cond (by kernel_rfl) (by kernel_rfl) rfl rfl s H
@[simp] theorem n23_99 (s : List V) (H : Heap) : evCode P Γ call n f m (cAt [1, 1, 1, 1, 1, 1, 0, 1, 0, 0, 1, 1, 0, 0, 1, 1, 1, 1, 0] B23) s H = seqNext P Γ call n f m (cAt [1, 1, 1, 1, 1, 1, 0, 1, 0, 0, 1, 1, 0, 0, 1, 1, 1, 1, 0, 1] B23) (evCode P Γ call n f m (cAt [1, 1, 1, 1, 1, 1, 0, 1, 0, 0, 1, 1, 0, 0, 1, 1, 1, 1, 0, 0] B23) s H) := at_seq (by kernel_rfl) rfl rfl s H
noncomputable def r23_100 : {l : List Oper // opsOf (cAt [1, 1, 1, 1, 1, 1, 0, 1, 0, 0, 1, 1, 0, 0, 1, 1, 1, 1, 0, 0] B23) = l} := by
  apply Subtype.mk
  dsimp only [opsOf, cAt, kids, B23, bodyOf, Try.f23, List.getD, List.getElem?_cons_zero, List.getElem?_cons_succ, Option.getD_some]
@[simp] theorem n23_100 (s : List V) (H : Heap) : evCode P Γ call n f m (cAt [1, 1, 1, 1, 1, 1, 0, 1, 0, 0, 1, 1, 0, 0, 1, 1, 1, 1, 0, 0] B23) s H = regNext (evOpsGo P Γ call r23_100.1 r23_100.1 s H) := at_region (by kernel_rfl) r23_100.2 s H
attribute [simp] r23_100
@[simp] theorem n23_101 (s : List V) (H : Heap) : evCode P Γ call n f m (cAt [1, 1, 1, 1, 1, 1, 0, 1, 0, 0, 1, 1, 0, 0, 1, 1, 1, 1, 0, 1] B23) s H = some (.ret, s, H) := at_ret (by kernel_rfl) s H
@[simp] theorem n23_102 (s : List V) (H : Heap) : evCode P Γ call n f m (cAt [1, 1, 1, 1, 1, 1, 0, 1, 0, 0, 1, 1, 0, 0, 1, 1, 1, 1, 1] B23) s H = some (.normal, s, H) := at_skip (by kernel_rfl) s H
noncomputable def r23_103 : {l : List Oper // opsOf (cAt [1, 1, 1, 1, 1, 1, 0, 1, 0, 0, 1, 1, 1] B23) = l} := by
  apply Subtype.mk
  dsimp only [opsOf, cAt, kids, B23, bodyOf, Try.f23, List.getD, List.getElem?_cons_zero, List.getElem?_cons_succ, Option.getD_some]
@[simp] theorem n23_103 (s : List V) (H : Heap) : evCode P Γ call n f m (cAt [1, 1, 1, 1, 1, 1, 0, 1, 0, 0, 1, 1, 1] B23) s H = regNext (evOpsGo P Γ call r23_103.1 r23_103.1 s H) := at_region (by kernel_rfl) r23_103.2 s H
attribute [simp] r23_103
@[simp] theorem n23_104 (s : List V) (H : Heap) : evCode P Γ call n f m (cAt [1, 1, 1, 1, 1, 1, 1] B23) s H = seqNext P Γ call n f m (cAt [1, 1, 1, 1, 1, 1, 1, 1] B23) (evCode P Γ call n f m (cAt [1, 1, 1, 1, 1, 1, 1, 0] B23) s H) := at_seq (by kernel_rfl) rfl rfl s H
noncomputable def r23_105 : {l : List Oper // opsOf (cAt [1, 1, 1, 1, 1, 1, 1, 0] B23) = l} := by
  apply Subtype.mk
  dsimp only [opsOf, cAt, kids, B23, bodyOf, Try.f23, List.getD, List.getElem?_cons_zero, List.getElem?_cons_succ, Option.getD_some]
@[simp] theorem n23_105 (s : List V) (H : Heap) : evCode P Γ call n f m (cAt [1, 1, 1, 1, 1, 1, 1, 0] B23) s H = regNext (evOpsGo P Γ call r23_105.1 r23_105.1 s H) := at_region (by kernel_rfl) r23_105.2 s H
attribute [simp] r23_105
@[simp] theorem n23_106 (s : List V) (H : Heap) : evCode P Γ call n f m (cAt [1, 1, 1, 1, 1, 1, 1, 1] B23) s H = some (.ret, s, H) := at_ret (by kernel_rfl) s H
theorem b23 {k : Nat} (ho : ∀ args H, Γ.orc 23 args H = none) (args : List V) (H : Heap) (ha : args.length ≤ 130) : evF Try.prog Γ (k + 1) 23 args H = bodyEnd Try.prog [.tmp 8, .tmp 9] H.length (evCode Try.prog Γ (evF Try.prog Γ k) k 23 H.length (cAt [] B23) (mkL 130 V.undef (enumV 0 args)) H) := body_at Try.func23 (by decide) rfl ho rfl rfl args H ha
noncomputable def B24 : Code := bodyOf Try.f24
@[simp] theorem n24_1 (s : List V) (H : Heap) : evCode P Γ call n f m (cAt [] B24) s H = seqNext P Γ call n f m (cAt [1] B24) (evCode P Γ call n f m (cAt [0] B24) s H) := at_seq (by kernel_rfl) rfl rfl s H
noncomputable def r24_2 : {l : List Oper // opsOf (cAt [0] B24) = l} := by
  apply Subtype.mk
  dsimp only [opsOf, cAt, kids, B24, bodyOf, Try.f24, List.getD, List.getElem?_cons_zero, List.getElem?_cons_succ, Option.getD_some]
@[simp] theorem n24_2 (s : List V) (H : Heap) : evCode P Γ call n f m (cAt [0] B24) s H = regNext (evOpsGo P Γ call r24_2.1 r24_2.1 s H) := at_region (by kernel_rfl) r24_2.2 s H
attribute [simp] r24_2
@[simp] theorem n24_3 (s : List V) (H : Heap) : evCode P Γ call n f m (cAt [1] B24) s H = seqNext P Γ call n f m (cAt [1, 1] B24) (evCode P Γ call n f m (cAt [1, 0] B24) s H) := at_seq (by kernel_rfl) rfl rfl s H
@[simp] theorem n24_4 (s : List V) (H : Heap) : evCode P Γ call n f m (cAt [1, 0] B24) s H = seqNext P Γ call n f m (cAt [1, 0, 1] B24) (evCode P Γ call n f m (cAt [1, 0, 0] B24) s H) := at_seq (by kernel_rfl) rfl rfl s H
noncomputable def r24_5 : {l : List Oper // opsOf (cAt [1, 0, 0] B24) = l} := by
  apply Subtype.mk
  dsimp only [opsOf, cAt, kids, B24, bodyOf, Try.f24, List.getD, List.getElem?_cons_zero, List.getElem?_cons_succ, Option.getD_some]
@[simp] theorem n24_5 (s : List V) (H : Heap) : evCode P Γ call n f m (cAt [1, 0, 0] B24) s H = regNext (evOpsGo P Γ call r24_5.1 r24_5.1 s H) := at_region (by kernel_rfl) r24_5.2 s H
attribute [simp] r24_5
@[simp] theorem n24_6 (s : List V) (H : Heap) : evCode P Γ call n f m (cAt [1, 0, 1] B24) s H = seqNext P Γ call n f m (cAt [1, 0, 1, 1] B24) (evCode P Γ call n f m (cAt [1, 0, 1, 0] B24) s H) := at_seq (by kernel_rfl) rfl rfl s H
noncomputable def r24_7 : {l : List Oper // opsOf (cAt [1, 0, 1, 0] B24) = l} := by
  apply Subtype.mk
  dsimp only [opsOf, cAt, kids, B24, bodyOf, Try.f24, List.getD, List.getElem?_cons_zero, List.getElem?_cons_succ, Option.getD_some]
@[simp] theorem n24_7 (s : List V) (H : Heap) : evCode P Γ call n f m (cAt [1, 0, 1, 0] B24) s H = regNext (evOpsGo P Γ call r24_7.1 r24_7.1 s H) := at_region (by kernel_rfl) r24_7.2 s H
attribute [simp] r24_7
@[simp] theorem n24_8 (s : List V) (H : Heap) : evCode P Γ call n f m (cAt [1, 0, 1, 1] B24) s H = condW P Γ call n f m (cAt [1, 0, 1, 1, 0] B24) (cAt [1, 0, 1, 1, 1] B24) s H (evOperand Γ s (.tmp 18)) := at_cond (by kernel_rfl) (by kernel_rfl) rfl rfl s H
@[simp] theorem n24_9 (s : List V) (H : Heap) : evCode P Γ call n f m (cAt [1, 0, 1, 1, 0] B24) s H = seqNext P Γ call n f m (cAt [1, 0, 1, 1, 0, 1] B24) (evCode P Γ call n f m (cAt [1, 0, 1, 1, 0, 0] B24) s H) := at_seq (by kernel_rfl) rfl rfl s H
noncomputable def r24_10 : {l : List Oper // opsOf (cAt [1, 0, 1, 1, 0, 0] B24) = l} := by
  apply Subtype.mk
  dsimp only [opsOf, cAt, kids, B24, bodyOf, Try.f24, List.getD, List.getElem?_cons_zero, List.getElem?_cons_succ, Option.getD_some]
@[simp] theorem n24_10 (s : List V) (H : Heap) : evCode P Γ call n f m (cAt [1, 0, 1, 1, 0, 0] B24) s H = regNext (evOpsGo P Γ call r24_10.1 r24_10.1 s H) := at_region (by kernel_rfl) r24_10.2 s H
attribute [simp] r24_10
@[simp] theorem n24_11 (s : List V) (H : Heap) : evCode P Γ call n f m (cAt [1, 0, 1, 1, 0, 1] B24) s H = some (.ret, s, H) := at_ret (by kernel_rfl) s H
@[simp] theorem n24_12 (s : List V) (H : Heap) : evCode P Γ call n f m (cAt [1, 0, 1, 1, 1] B24) s H = some (.normal, s, H) := at_skip (by kernel_rfl) s H
@[simp] theorem n24_13 (s : List V) (H : Heap) : evCode P Γ call n f m (cAt [1, 1] B24) s H = seqNext P Γ call n f m (cAt [1, 1, 1] B24) (evCode P Γ call n f m (cAt [1, 1, 0] B24) s H) := at_seq (by kernel_rfl) rfl rfl s H
@[simp] theorem n24_14 (s : List V) (H : Heap) : evCode P Γ call n f m (cAt [1, 1, 0] B24) s H = seqNext P Γ call n f m (cAt [1, 1, 0, 1] B24) (evCode P Γ call n f m (cAt [1, 1, 0, 0] B24) s H) := at_seq (by kernel_rfl) rfl rfl s H
noncomputable def r24_15 : {l : List Oper // opsOf (cAt [1, 1, 0, 0] B24) = l} := by
  apply Subtype.mk
  dsimp only [opsOf, cAt, kids, B24, bodyOf, Try.f24, List.getD, List.getElem?_cons_zero, List.getElem?_cons_succ, Option.getD_some]
@[simp] theorem n24_15 (s : List V) (H : Heap) : evCode P Γ call n f m (cAt [1, 1, 0, 0] B24) s H = regNext (evOpsGo P Γ call r24_15.1 r24_15.1 s H) := at_region (by kernel_rfl) r24_15.2 s H
attribute [simp] r24_15
@[simp] theorem n24_16 (s : List V) (H : Heap) : evCode P Γ call n f m (cAt [1, 1, 0, 1] B24) s H = condW P Γ call n f m (cAt [1, 1, 0, 1, 0] B24) (cAt [1, 1, 0, 1, 1] B24) s H (evOperand Γ s (.tmp 31)) := at_cond (by kernel_rfl) (by kernel_rfl) rfl rfl s H
@[simp] theorem n24_17 (s : List V) (H : Heap) : evCode P Γ call n f m (cAt [1, 1, 0, 1, 0] B24) s H = seqNext P Γ call n f m (cAt [1, 1, 0, 1, 0, 1] B24) (evCode P Γ call n f m (cAt [1, 1, 0, 1, 0, 0] B24) s H) := at_seq (by kernel_rfl) rfl rfl s H
noncomputable def r24_18 : {l : List Oper // opsOf (cAt [1, 1, 0, 1, 0, 0] B24) = l} := by
  apply Subtype.mk
  dsimp only [opsOf, cAt, kids, B24, bodyOf, Try.f24, List.getD, List.getElem?_cons_zero, List.getElem?_cons_succ, Option.getD_some]
@[simp] theorem n24_18 (s : List V) (H : Heap) : evCode P Γ call n f m (cAt [1, 1, 0, 1, 0, 0] B24) s H = regNext (evOpsGo P Γ call r24_18.1 r24_18.1 s H) := at_region (by kernel_rfl) r24_18.2 s H
attribute [simp] r24_18
@[simp] theorem n24_19 (s : List V) (H : Heap) : evCode P Γ call n f m (cAt [1, 1, 0, 1, 0, 1] B24) s H = some (.ret, s, H) := at_ret (by kernel_rfl) s H
@[simp] theorem n24_20 (s : List V) (H : Heap) : evCode P Γ call n f m (cAt [1, 1, 0, 1, 1] B24) s H = some (.normal, s, H) := at_skip (by kernel_rfl) s H
@[simp] theorem n24_21 (s : List V) (H : Heap) : evCode P Γ call n f m (cAt [1, 1, 1] B24) s H = seqNext P Γ call n f m (cAt [1, 1, 1, 1] B24) (evCode P Γ call n f m (cAt [1, 1, 1, 0] B24) s H) := at_seq (by kernel_rfl) rfl rfl s H
noncomputable def r24_22 : {l : List Oper // opsOf (cAt [1, 1, 1, 0] B24) = l} := by
  apply Subtype.mk
  dsimp only [opsOf, cAt, kids, B24, bodyOf, Try.f24, List.getD, List.getElem?_cons_zero, List.getElem?_cons_succ, Option.getD_some]
@[simp] theorem n24_22 (s : List V) (H : Heap) : evCode P Γ call n f m (cAt [1, 1, 1, 0] B24) s H = regNext (evOpsGo P Γ call r24_22.1 r24_22.1 s H) := at_region (by kernel_rfl) r24_22.2 s H
attribute [simp] r24_22
@[simp] theorem n24_23 (s : List V) (H : Heap) : evCode P Γ call n f m (cAt [1, 1, 1, 1] B24) s H = seqNext P Γ call n f m (cAt [1, 1, 1, 1, 1] B24) (evCode P Γ call n f m (cAt [1, 1, 1, 1, 0] B24) s H) := at_seq (by kernel_rfl) rfl rfl s H
@[simp] theorem n24_24 (s : List V) (H : Heap) : evCode P Γ call n f m (cAt [1, 1, 1, 1, 0] B24) s H = seqNext P Γ call n f m (cAt [1, 1, 1, 1, 0, 1] B24) (evCode P Γ call n f m (cAt [1, 1, 1, 1, 0, 0] B24) s H) := at_seq (by kernel_rfl) rfl rfl s H
noncomputable def r24_25 : {l : List Oper // opsOf (cAt [1, 1, 1, 1, 0, 0] B24) = l} := by
  apply Subtype.mk
  dsimp only [opsOf, cAt, kids, B24, bodyOf, Try.f24, List.getD, List.getElem?_cons_zero, List.getElem?_cons_succ, Option.getD_some]
@[simp] theorem n24_25 (s : List V) (H : Heap) : evCode P Γ call n f m (cAt [1, 1, 1, 1, 0, 0] B24) s H = regNext (evOpsGo P Γ call r24_25.1 r24_25.1 s H) := at_region (by kernel_rfl) r24_25.2 s H
attribute [simp] r24_25
@[simp] theorem n24_26 (s : List V) (H : Heap) : evCode P Γ call n f m (cAt [1, 1, 1, 1, 0, 1] B24) s H = condW P Γ call n f m (cAt [1, 1, 1, 1, 0, 1, 0] B24) (cAt [1, 1, 1, 1, 0, 1, 1] B24) s H (evOperand Γ s (.tmp 39)) := at_cond (by kernel_rfl) (by kernel_rfl) rfl rfl s H
@[simp] theorem n24_27 (s : List V) (H : Heap) : evCode P Γ call n f m (cAt [1, 1, 1, 1, 0, 1, 0] B24) s H = seqNext P Γ call n f m (cAt [1, 1, 1, 1, 0, 1, 0, 1] B24) (evCode P Γ call n f m (cAt [1, 1, 1, 1, 0, 1, 0, 0] B24) s H) := at_seq (by kernel_rfl) rfl rfl s H
noncomputable def r24_28 : {l : List Oper // opsOf (cAt [1, 1, 1, 1, 0, 1, 0, 0] B24) = l} := by
  apply Subtype.mk
  dsimp only [opsOf, cAt, kids, B24, bodyOf, Try.f24, List.getD, List.getElem?_cons_zero, List.getElem?_cons_succ, Option.getD_some]
@[simp] theorem n24_28 (s : List V) (H : Heap) : evCode P Γ call n f m (cAt [1, 1, 1, 1, 0, 1, 0, 0] B24) s H = regNext (evOpsGo P Γ call r24_28.1 r24_28.1 s H) := at_region (by kernel_rfl) r24_28.2 s H
attribute [simp] r24_28
@[simp] theorem n24_29 (s : List V) (H : Heap) : evCode P Γ call n f m (cAt [1, 1, 1, 1, 0, 1, 0, 1] B24) s H = some (.ret, s, H) := at_ret (by kernel_rfl) s H
@[simp] theorem n24_30 (s : List V) (H : Heap) : evCode P Γ call n f m (cAt [1, 1, 1, 1, 0, 1, 1] B24) s H = some (.normal, s, H) := at_skip (by kernel_rfl) s H
@[simp] theorem n24_31 (s : List V) (H : Heap) : evCode P Γ call n f m (cAt [1, 1, 1, 1, 1] B24) s H = seqNext P Γ call n f m (cAt [1, 1, 1, 1, 1, 1] B24) (evCode P Γ call n f m (cAt [1, 1, 1, 1, 1, 0] B24) s H) := at_seq (by kernel_rfl) rfl rfl s H
noncomputable def r24_32 : {l : List Oper // opsOf (cAt [1, 1, 1, 1, 1, 0] B24) = l} := by
  apply Subtype.mk
  dsimp only [opsOf, cAt, kids, B24, bodyOf, Try.f24, List.getD, List.getElem?_cons_zero, List.getElem?_cons_succ, Option.getD_some]
@[simp] theorem n24_32 (s : List V) (H : Heap) : evCode P Γ call n f m (cAt [1, 1, 1, 1, 1, 0] B24) s H = regNext (evOpsGo P Γ call r24_32.1 r24_32.1 s H) := at_region (by kernel_rfl) r24_32.2 s H
attribute [simp] r24_32
@[simp] theorem n24_33 (s : List V) (H : Heap) : evCode P Γ call n f m (cAt [1, 1, 1, 1, 1, 1] B24) s H = seqNext P Γ call n f m (cAt [1, 1, 1, 1, 1, 1, 1] B24) (evCode P Γ call n f m (cAt [1, 1, 1, 1, 1, 1, 0] B24) s H) := at_seq (by kernel_rfl) rfl rfl s H
noncomputable def r24_34 : {l : List Oper // opsOf (cAt [1, 1, 1, 1, 1, 1, 0] B24) = l} := by
  apply Subtype.mk
  dsimp only [opsOf, cAt, kids, B24, bodyOf, Try.f24, List.getD, List.getElem?_cons_zero, List.getElem?_cons_succ, Option.getD_some]
@[simp] theorem n24_34 (s : List V) (H : Heap) : evCode P Γ call n f m (cAt [1, 1, 1, 1, 1, 1, 0] B24) s H = regNext (evOpsGo P Γ call r24_34.1 r24_34.1 s H) := at_region (by kernel_rfl) r24_34.2 s H
attribute [simp] r24_34
@[simp] theorem n24_35 (s : List V) (H : Heap) : evCode P Γ call n f m (cAt [1, 1, 1, 1, 1, 1, 1] B24) s H = some (.ret, s, H) := at_ret (by kernel_rfl) s H
theorem b24 {k : Nat} (ho : ∀ args H, Γ.orc 24 args H = none) (args : List V) (H : Heap) (ha : args.length ≤ 56) : evF Try.prog Γ (k + 1) 24 args H = bodyEnd Try.prog [.tmp 8, .tmp 9] H.length (evCode Try.prog Γ (evF Try.prog Γ k) k 24 H.length (cAt [] B24) (mkL 56 V.undef (enumV 0 args)) H) := body_at Try.func24 (by decide) rfl ho rfl rfl args H ha
noncomputable def B26 : Code := bodyOf Try.f26
@[simp] theorem n26_1 (s : List V) (H : Heap) : evCode P Γ call n f m (cAt [] B26) s H = seqNext P Γ call n f m (cAt [1] B26) (evCode P Γ call n f m (cAt [0] B26) s H) := at_seq (by kernel_rfl) rfl rfl s H
noncomputable def r26_2 : {l : List Oper // opsOf (cAt [0] B26) = l} := by
  apply Subtype.mk
  dsimp only [opsOf, cAt, kids, B26, bodyOf, Try.f26, List.getD, List.getElem?_cons_zero, List.getElem?_cons_succ, Option.getD_some]
@[simp] theorem n26_2 (s : List V) (H : Heap) : evCode P Γ call n f m (cAt [0] B26) s H = regNext (evOpsGo P Γ call r26_2.1 r26_2.1 s H) := at_region (by kernel_rfl) r26_2.2 s H
attribute [simp] r26_2
@[simp] theorem n26_3 (s : List V) (H : Heap) : evCode P Γ call n f m (cAt [1] B26) s H = seqNext P Γ call n f m (cAt [1, 1] B26) (evCode P Γ call n f m (cAt [1, 0] B26) s H) := at_seq (by kernel_rfl) rfl rfl s H
noncomputable def r26_4 : {l : List Oper // opsOf (cAt [1, 0] B26) = l} := by
  apply Subtype.mk
  dsimp only [opsOf, cAt, kids, B26, bodyOf, Try.f26, List.getD, List.getElem?_cons_zero, List.getElem?_cons_succ, Option.getD_some]
@[simp] theorem n26_4 (s : List V) (H : Heap) : evCode P Γ call n f m (cAt [1, 0] B26) s H = regNext (evOpsGo P Γ call r26_4.1 r26_4.1 s H) := at_region (by kernel_rfl) r26_4.2 s H
attribute [simp] r26_4
@[simp] theorem n26_5 (s : List V) (H : Heap) : evCode P Γ call n f m (cAt [1, 1] B26) s H = seqNext P Γ call n f m (cAt [1, 1, 1] B26) (evCode P Γ call n f m (cAt [1, 1, 0] B26) s H) := at_seq (by kernel_rfl) rfl rfl s H
noncomputable def r26_6 : {l : List Oper // opsOf (cAt [1, 1, 0] B26) = l} := by
  apply Subtype.mk
  dsimp only [opsOf, cAt, kids, B26, bodyOf, Try.f26, List.getD, List.getElem?_cons_zero, List.getElem?_cons_succ, Option.getD_some]
@[simp] theorem n26_6 (s : List V) (H : Heap) : evCode P Γ call n f m (cAt [1, 1, 0] B26) s H = regNext (evOpsGo P Γ call r26_6.1 r26_6.1 s H) := at_region (by kernel_rfl) r26_6.2 s H
attribute [simp] r26_6
@[simp] theorem n26_7 (s : List V) (H : Heap) : evCode P Γ call n f m (cAt [1, 1, 1] B26) s H = seqNext P Γ call n f m (cAt [1, 1, 1, 1] B26) (evCode P Γ call n f m (cAt [1, 1, 1, 0] B26) s H) := at_seq (by kernel_rfl) rfl rfl s H
noncomputable def r26_8 : {l : List Oper // opsOf (cAt [1, 1, 1, 0] B26) = l} := by
  apply Subtype.mk
  dsimp only [opsOf, cAt, kids, B26, bodyOf, Try.f26, List.getD, List.getElem?_cons_zero, List.getElem?_cons_succ, Option.getD_some]
@[simp] theorem n26_8 (s : List V) (H : Heap) : evCode P Γ call n f m (cAt [1, 1, 1, 0] B26) s H = regNext (evOpsGo P Γ call r26_8.1 r26_8.1 s H) := at_region (by kernel_rfl) r26_8.2 s H
attribute [simp] r26_8
@[simp] theorem n26_9 (s : List V) (H : Heap) : evCode P Γ call n f m (cAt [1, 1, 1, 1] B26) s H = seqNext P Γ call n f m (cAt [1, 1, 1, 1, 1] B26) (evCode P Γ call n f m (cAt [1, 1, 1, 1, 0] B26) s H) := at_seq (by kernel_rfl) rfl rfl s H
noncomputable def r26_10 : {l : List Oper // opsOf (cAt [1, 1, 1, 1, 0] B26) = l} := by
  apply Subtype.mk
  dsimp only [opsOf, cAt, kids, B26, bodyOf, Try.f26, List.getD, List.getElem?_cons_zero, List.getElem?_cons_succ, Option.getD_some]
@[simp] theorem n26_10 (s : List V) (H : Heap) : evCode P Γ call n f m (cAt [1, 1, 1, 1, 0] B26) s H = regNext (evOpsGo P Γ call r26_10.1 r26_10.1 s H) := at_region (by kernel_rfl) r26_10.2 s H
attribute [simp] r26_10
@[simp] theorem n26_11 (s : List V) (H : Heap) : evCode P Γ call n f m (cAt [1, 1, 1, 1, 1] B26) s H = seqNext P Γ call n f m (cAt [1, 1, 1, 1, 1, 1] B26) (evCode P Γ call n f m (cAt [1, 1, 1, 1, 1, 0] B26) s H) := at_seq (by kernel_rfl) rfl rfl s H
noncomputable def r26_12 : {l : List Oper // opsOf (cAt [1, 1, 1, 1, 1, 0] B26) = l} := by
  apply Subtype.mk
  dsimp only [opsOf, cAt, kids, B26, bodyOf, Try.f26, List.getD, List.getElem?_cons_zero, List.getElem?_cons_succ, Option.getD_some]
@[simp] theorem n26_12 (s : List V) (H : Heap) : evCode P Γ call n f m (cAt [1, 1, 1, 1, 1, 0] B26) s H = regNext (evOpsGo P Γ call r26_12.1 r26_12.1 s H) := at_region (by kernel_rfl) r26_12.2 s H
attribute [simp] r26_12
@[simp] theorem n26_13 (s : List V) (H : Heap) : evCode P Γ call n f m (cAt [1, 1, 1, 1, 1, 1] B26) s H = some (.ret, s, H) := at_ret (by kernel_rfl) s H
theorem b26 {k : Nat} (ho : ∀ args H, Γ.orc 26 args H = none) (args : List V) (H : Heap) (ha : args.length ≤ 42) : evF Try.prog Γ (k + 1) 26 args H = bodyEnd Try.prog [.tmp 8] H.length (evCode Try.prog Γ (evF Try.prog Γ k) k 26 H.length (cAt [] B26) (mkL 42 V.undef (enumV 0 args)) H) := body_at Try.func26 (by decide) rfl ho rfl rfl args H ha
end
end Go.Ev.Try
