/-
  CODE BY NAMES, printed by wip/tools/codes.py (own work).
-/
import Derived.Test.YtflmadkbppnmcaaCkG
set_option maxRecDepth 100000
set_option linter.unusedVariables false
namespace Go.Ev.Try
open Go Go.Ev Go.Proofs
section
variable {P : Program} {Γ : Env} {call : CallF} {n f m : Nat}

noncomputable def B5 : Code := bodyOf Try.f5
@[simp] theorem n5_1 (s : List V) (H : Heap) : evCode P Γ call n f m (cAt [] B5) s H = seqNext P Γ call n f m (cAt [1] B5) (evCode P Γ call n f m (cAt [0] B5) s H) := at_seq (by kernel_rfl) rfl rfl s H
noncomputable def r5_2 : {l : List Oper // opsOf (cAt [0] B5) = l} := by
  apply Subtype.mk
  dsimp only [opsOf, cAt, kids, B5, bodyOf, Try.f5, List.getD, List.getElem?_cons_zero, List.getElem?_cons_succ, Option.getD_some]
@[simp] theorem n5_2 (s : List V) (H : Heap) : evCode P Γ call n f m (cAt [0] B5) s H = regNext (evOpsGo P Γ call r5_2.1 r5_2.1 s H) := at_region (by kernel_rfl) r5_2.2 s H
attribute [simp] r5_2
@[simp] theorem n5_3 (s : List V) (H : Heap) : evCode P Γ call n f m (cAt [1] B5) s H = seqNext P Γ call n f m (cAt [1, 1] B5) (evCode P Γ call n f m (cAt [1, 0] B5) s H) := at_seq (by kernel_rfl) rfl rfl s H
noncomputable def r5_4 : {l : List Oper // opsOf (cAt [1, 0] B5) = l} := by
  apply Subtype.mk
  dsimp only [opsOf, cAt, kids, B5, bodyOf, Try.f5, List.getD, List.getElem?_cons_zero, List.getElem?_cons_succ, Option.getD_some]
@[simp] theorem n5_4 (s : List V) (H : Heap) : evCode P Γ call n f m (cAt [1, 0] B5) s H = regNext (evOpsGo P Γ call r5_4.1 r5_4.1 s H) := at_region (by kernel_rfl) r5_4.2 s H
attribute [simp] r5_4
@[simp] theorem n5_5 (s : List V) (H : Heap) : evCode P Γ call n f m (cAt [1, 1] B5) s H = seqNext P Γ call n f m (cAt [1, 1, 1] B5) (evCode P Γ call n f m (cAt [1, 1, 0] B5) s H) := at_seq (by kernel_rfl) rfl rfl s H
noncomputable def r5_6 : {l : List Oper // opsOf (cAt [1, 1, 0] B5) = l} := by
  apply Subtype.mk
  dsimp only [opsOf, cAt, kids, B5, bodyOf, Try.f5, List.getD, List.getElem?_cons_zero, List.getElem?_cons_succ, Option.getD_some]
@[simp] theorem n5_6 (s : List V) (H : Heap) : evCode P Γ call n f m (cAt [1, 1, 0] B5) s H = regNext (evOpsGo P Γ call r5_6.1 r5_6.1 s H) := at_region (by kernel_rfl) r5_6.2 s H
attribute [simp] r5_6
@[simp] theorem n5_7 (s : List V) (H : Heap) : evCode P Γ call n f m (cAt [1, 1, 1] B5) s H = seqNext P Γ call n f m (cAt [1, 1, 1, 1] B5) (evCode P Γ call n f m (cAt [1, 1, 1, 0] B5) s H) := at_seq (by kernel_rfl) rfl rfl s H
noncomputable def r5_8 : {l : List Oper // opsOf (cAt [1, 1, 1, 0] B5) = l} := by
  apply Subtype.mk
  dsimp only [opsOf, cAt, kids, B5, bodyOf, Try.f5, List.getD, List.getElem?_cons_zero, List.getElem?_cons_succ, Option.getD_some]
@[simp] theorem n5_8 (s : List V) (H : Heap) : evCode P Γ call n f m (cAt [1, 1, 1, 0] B5) s H = regNext (evOpsGo P Γ call r5_8.1 r5_8.1 s H) := at_region (by kernel_rfl) r5_8.2 s H
attribute [simp] r5_8
@[simp] theorem n5_9 (s : List V) (H : Heap) : evCode P Γ call n f m (cAt [1, 1, 1, 1] B5) s H = seqNext P Γ call n f m (cAt [1, 1, 1, 1, 1] B5) (evCode P Γ call n f m (cAt [1, 1, 1, 1, 0] B5) s H) := at_seq (by kernel_rfl) rfl rfl s H
noncomputable def r5_10 : {l : List Oper // opsOf (cAt [1, 1, 1, 1, 0] B5) = l} := by
  apply Subtype.mk
  dsimp only [opsOf, cAt, kids, B5, bodyOf, Try.f5, List.getD, List.getElem?_cons_zero, List.getElem?_cons_succ, Option.getD_some]
@[simp] theorem n5_10 (s : List V) (H : Heap) : evCode P Γ call n f m (cAt [1, 1, 1, 1, 0] B5) s H = regNext (evOpsGo P Γ call r5_10.1 r5_10.1 s H) := at_region (by kernel_rfl) r5_10.2 s H
attribute [simp] r5_10
@[simp] theorem n5_11 (s : List V) (H : Heap) : evCode P Γ call n f m (cAt [1, 1, 1, 1, 1] B5) s H = seqNext P Γ call n f m (cAt [1, 1, 1, 1, 1, 1] B5) (evCode P Γ call n f m (cAt [1, 1, 1, 1, 1, 0] B5) s H) := at_seq (by kernel_rfl) rfl rfl s H
noncomputable def r5_12 : {l : List Oper // opsOf (cAt [1, 1, 1, 1, 1, 0] B5) = l} := by
  apply Subtype.mk
  dsimp only [opsOf, cAt, kids, B5, bodyOf, Try.f5, List.getD, List.getElem?_cons_zero, List.getElem?_cons_succ, Option.getD_some]
@[simp] theorem n5_12 (s : List V) (H : Heap) : evCode P Γ call n f m (cAt [1, 1, 1, 1, 1, 0] B5) s H = regNext (evOpsGo P Γ call r5_12.1 r5_12.1 s H) := at_region (by kernel_rfl) r5_12.2 s H
attribute [simp] r5_12
@[simp] theorem n5_13 (s : List V) (H : Heap) : evCode P Γ call n f m (cAt [1, 1, 1, 1, 1, 1] B5) s H = seqNext P Γ call n f m (cAt [1, 1, 1, 1, 1, 1, 1] B5) (evCode P Γ call n f m (cAt [1, 1, 1, 1, 1, 1, 0] B5) s H) := at_seq (by kernel_rfl) rfl rfl s H
@[simp] theorem n5_14 (s : List V) (H : Heap) : evCode P Γ call n f m (cAt [1, 1, 1, 1, 1, 1, 0] B5) s H = seqNext P Γ call n f m (cAt [1, 1, 1, 1, 1, 1, 0, 1] B5) (evCode P Γ call n f m (cAt [1, 1, 1, 1, 1, 1, 0, 0] B5) s H) := at_seq (by kernel_rfl) rfl rfl s H
noncomputable def r5_15 : {l : List Oper // opsOf (cAt [1, 1, 1, 1, 1, 1, 0, 0] B5) = l} := by
  apply Subtype.mk
  dsimp only [opsOf, cAt, kids, B5, bodyOf, Try.f5, List.getD, List.getElem?_cons_zero, List.getElem?_cons_succ, Option.getD_some]
@[simp] theorem n5_15 (s : List V) (H : Heap) : evCode P Γ call n f m (cAt [1, 1, 1, 1, 1, 1, 0, 0] B5) s H = regNext (evOpsGo P Γ call r5_15.1 r5_15.1 s H) := at_region (by kernel_rfl) r5_15.2 s H
attribute [simp] r5_15
@[simp] theorem n5_16 (s : List V) (H : Heap) : evCode P Γ call n f m (cAt [1, 1, 1, 1, 1, 1, 0, 1] B5) s H = condW P Γ call n f m (cAt [1, 1, 1, 1, 1, 1, 0, 1, 0] B5) (cAt [1, 1, 1, 1, 1, 1, 0, 1, 1] B5) s H (evOperand Γ s (.tmp 41)) := at_cond (by kernel_rfl) (by kernel_rfl) rfl rfl s H
@[simp] theorem n5_17 (s : List V) (H : Heap) : evCode P Γ call n f m (cAt [1, 1, 1, 1, 1, 1, 0, 1, 0] B5) s H = seqNext P Γ call n f m (cAt [1, 1, 1, 1, 1, 1, 0, 1, 0, 1] B5) (evCode P Γ call n f m (cAt [1, 1, 1, 1, 1, 1, 0, 1, 0, 0] B5) s H) := at_seq (by kernel_rfl) rfl rfl s H
noncomputable def r5_18 : {l : List Oper // opsOf (cAt [1, 1, 1, 1, 1, 1, 0, 1, 0, 0] B5) = l} := by
  apply Subtype.mk
  dsimp only [opsOf, cAt, kids, B5, bodyOf, Try.f5, List.getD, List.getElem?_cons_zero, List.getElem?_cons_succ, Option.getD_some]
@[simp] theorem n5_18 (s : List V) (H : Heap) : evCode P Γ call n f m (cAt [1, 1, 1, 1, 1, 1, 0, 1, 0, 0] B5) s H = regNext (evOpsGo P Γ call r5_18.1 r5_18.1 s H) := at_region (by kernel_rfl) r5_18.2 s H
attribute [simp] r5_18
@[simp] theorem n5_19 (s : List V) (H : Heap) : evCode P Γ call n f m (cAt [1, 1, 1, 1, 1, 1, 0, 1, 0, 1] B5) s H = seqNext P Γ call n f m (cAt [1, 1, 1, 1, 1, 1, 0, 1, 0, 1, 1] B5) (evCode P Γ call n f m (cAt [1, 1, 1, 1, 1, 1, 0, 1, 0, 1, 0] B5) s H) := at_seq (by kernel_rfl) rfl rfl s H
noncomputable def r5_20 : {l : List Oper // opsOf (cAt [1, 1, 1, 1, 1, 1, 0, 1, 0, 1, 0] B5) = l} := by
  apply Subtype.mk
  dsimp only [opsOf, cAt, kids, B5, bodyOf, Try.f5, List.getD, List.getElem?_cons_zero, List.getElem?_cons_succ, Option.getD_some]
@[simp] theorem n5_20 (s : List V) (H : Heap) : evCode P Γ call n f m (cAt [1, 1, 1, 1, 1, 1, 0, 1, 0, 1, 0] B5) s H = regNext (evOpsGo P Γ call r5_20.1 r5_20.1 s H) := at_region (by kernel_rfl) r5_20.2 s H
attribute [simp] r5_20
@[simp] theorem n5_21 (s : List V) (H : Heap) : evCode P Γ call n f m (cAt [1, 1, 1, 1, 1, 1, 0, 1, 0, 1, 1] B5) s H = seqNext P Γ call n f m (cAt [1, 1, 1, 1, 1, 1, 0, 1, 0, 1, 1, 1] B5) (evCode P Γ call n f m (cAt [1, 1, 1, 1, 1, 1, 0, 1, 0, 1, 1, 0] B5) s H) := at_seq (by kernel_rfl) rfl rfl s H
noncomputable def r5_22 : {l : List Oper // opsOf (cAt [1, 1, 1, 1, 1, 1, 0, 1, 0, 1, 1, 0] B5) = l} := by
  apply Subtype.mk
  dsimp only [opsOf, cAt, kids, B5, bodyOf, Try.f5, List.getD, List.getElem?_cons_zero, List.getElem?_cons_succ, Option.getD_some]
@[simp] theorem n5_22 (s : List V) (H : Heap) : evCode P Γ call n f m (cAt [1, 1, 1, 1, 1, 1, 0, 1, 0, 1, 1, 0] B5) s H = regNext (evOpsGo P Γ call r5_22.1 r5_22.1 s H) := at_region (by kernel_rfl) r5_22.2 s H
attribute [simp] r5_22
@[simp] theorem n5_23 (s : List V) (H : Heap) : evCode P Γ call n f m (cAt [1, 1, 1, 1, 1, 1, 0, 1, 0, 1, 1, 1] B5) s H = condW P Γ call n f m (cAt [1, 1, 1, 1, 1, 1, 0, 1, 0, 1, 1, 1, 0] B5) (cAt [1, 1, 1, 1, 1, 1, 0, 1, 0, 1, 1, 1, 1] B5) s H (evOperand Γ s (.tmp 49)) := at_cond (by kernel_rfl) (by kernel_rfl) rfl rfl s H
noncomputable def r5_24 : {l : List Oper // opsOf (cAt [1, 1, 1, 1, 1, 1, 0, 1, 0, 1, 1, 1, 0] B5) = l} := by
  apply Subtype.mk
  dsimp only [opsOf, cAt, kids, B5, bodyOf, Try.f5, List.getD, List.getElem?_cons_zero, List.getElem?_cons_succ, Option.getD_some]
@[simp] theorem n5_24 (s : List V) (H : Heap) : evCode P Γ call n f m (cAt [1, 1, 1, 1, 1, 1, 0, 1, 0, 1, 1, 1, 0] B5) s H = regNext (evOpsGo P Γ call r5_24.1 r5_24.1 s H) := at_region (by kernel_rfl) r5_24.2 s H
attribute [simp] r5_24
@[simp] theorem n5_25 (s : List V) (H : Heap) : evCode P Γ call n f m (cAt [1, 1, 1, 1, 1, 1, 0, 1, 0, 1, 1, 1, 1] B5) s H = some (.normal, s, H) := at_skip (by kernel_rfl) s H
@[simp] theorem n5_26 (s : List V) (H : Heap) : evCode P Γ call n f m (cAt [1, 1, 1, 1, 1, 1, 0, 1, 1] B5) s H = some (.normal, s, H) := at_skip (by kernel_rfl) s H
@[simp] theorem n5_27 (s : List V) (H : Heap) : evCode P Γ call n f m (cAt [1, 1, 1, 1, 1, 1, 1] B5) s H = seqNext P Γ call n f m (cAt [1, 1, 1, 1, 1, 1, 1, 1] B5) (evCode P Γ call n f m (cAt [1, 1, 1, 1, 1, 1, 1, 0] B5) s H) := at_seq (by kernel_rfl) rfl rfl s H
@[simp] theorem n5_28 (s : List V) (H : Heap) : evCode P Γ call n f m (cAt [1, 1, 1, 1, 1, 1, 1, 0] B5) s H = seqNext P Γ call n f m (cAt [1, 1, 1, 1, 1, 1, 1, 0, 1] B5) (evCode P Γ call n f m (cAt [1, 1, 1, 1, 1, 1, 1, 0, 0] B5) s H) := at_seq (by kernel_rfl) rfl rfl s H
noncomputable def r5_29 : {l : List Oper // opsOf (cAt [1, 1, 1, 1, 1, 1, 1, 0, 0] B5) = l} := by
  apply Subtype.mk
  dsimp only [opsOf, cAt, kids, B5, bodyOf, Try.f5, List.getD, List.getElem?_cons_zero, List.getElem?_cons_succ, Option.getD_some]
@[simp] theorem n5_29 (s : List V) (H : Heap) : evCode P Γ call n f m (cAt [1, 1, 1, 1, 1, 1, 1, 0, 0] B5) s H = regNext (evOpsGo P Γ call r5_29.1 r5_29.1 s H) := at_region (by kernel_rfl) r5_29.2 s H
attribute [simp] r5_29
@[simp] theorem n5_30 (s : List V) (H : Heap) : evCode P Γ call n f m (cAt [1, 1, 1, 1, 1, 1, 1, 0, 1] B5) s H = condW P Γ call n f m (cAt [1, 1, 1, 1, 1, 1, 1, 0, 1, 0] B5) (cAt [1, 1, 1, 1, 1, 1, 1, 0, 1, 1] B5) s H (evOperand Γ s (.tmp 66)) := at_cond (by kernel_rfl) (by kernel_rfl) rfl rfl s H
@[simp] theorem n5_31 (s : List V) (H : Heap) : evCode P Γ call n f m (cAt [1, 1, 1, 1, 1, 1, 1, 0, 1, 0] B5) s H = seqNext P Γ call n f m (cAt [1, 1, 1, 1, 1, 1, 1, 0, 1, 0, 1] B5) (evCode P Γ call n f m (cAt [1, 1, 1, 1, 1, 1, 1, 0, 1, 0, 0] B5) s H) := at_seq (by kernel_rfl) rfl rfl s H
noncomputable def r5_32 : {l : List Oper // opsOf (cAt [1, 1, 1, 1, 1, 1, 1, 0, 1, 0, 0] B5) = l} := by
  apply Subtype.mk
  dsimp only [opsOf, cAt, kids, B5, bodyOf, Try.f5, List.getD, List.getElem?_cons_zero, List.getElem?_cons_succ, Option.getD_some]
@[simp] theorem n5_32 (s : List V) (H : Heap) : evCode P Γ call n f m (cAt [1, 1, 1, 1, 1, 1, 1, 0, 1, 0, 0] B5) s H = regNext (evOpsGo P Γ call r5_32.1 r5_32.1 s H) := at_region (by kernel_rfl) r5_32.2 s H
attribute [simp] r5_32
@[simp] theorem n5_33 (s : List V) (H : Heap) : evCode P Γ call n f m (cAt [1, 1, 1, 1, 1, 1, 1, 0, 1, 0, 1] B5) s H = some (.ret, s, H) := at_ret (by kernel_rfl) s H
@[simp] theorem n5_34 (s : List V) (H : Heap) : evCode P Γ call n f m (cAt [1, 1, 1, 1, 1, 1, 1, 0, 1, 1] B5) s H = some (.normal, s, H) := at_skip (by kernel_rfl) s H
@[simp] theorem n5_35 (s : List V) (H : Heap) : evCode P Γ call n f m (cAt [1, 1, 1, 1, 1, 1, 1, 1] B5) s H = seqNext P Γ call n f m (cAt [1, 1, 1, 1, 1, 1, 1, 1, 1] B5) (evCode P Γ call n f m (cAt [1, 1, 1, 1, 1, 1, 1, 1, 0] B5) s H) := at_seq (by kernel_rfl) rfl rfl s H
@[simp] theorem n5_36 (s : List V) (H : Heap) : evCode P Γ call n f m (cAt [1, 1, 1, 1, 1, 1, 1, 1, 0] B5) s H = seqNext P Γ call n f m (cAt [1, 1, 1, 1, 1, 1, 1, 1, 0, 1] B5) (evCode P Γ call n f m (cAt [1, 1, 1, 1, 1, 1, 1, 1, 0, 0] B5) s H) := at_seq (by kernel_rfl) rfl rfl s H
noncomputable def r5_37 : {l : List Oper // opsOf (cAt [1, 1, 1, 1, 1, 1, 1, 1, 0, 0] B5) = l} := by
  apply Subtype.mk
  dsimp only [opsOf, cAt, kids, B5, bodyOf, Try.f5, List.getD, List.getElem?_cons_zero, List.getElem?_cons_succ, Option.getD_some]
@[simp] theorem n5_37 (s : List V) (H : Heap) : evCode P Γ call n f m (cAt [1, 1, 1, 1, 1, 1, 1, 1, 0, 0] B5) s H = regNext (evOpsGo P Γ call r5_37.1 r5_37.1 s H) := at_region (by kernel_rfl) r5_37.2 s H
attribute [simp] r5_37
@[simp] theorem n5_38 (s : List V) (H : Heap) : evCode P Γ call n f m (cAt [1, 1, 1, 1, 1, 1, 1, 1, 0, 1] B5) s H = condW P Γ call n f m (cAt [1, 1, 1, 1, 1, 1, 1, 1, 0, 1, 0] B5) (cAt [1, 1, 1, 1, 1, 1, 1, 1, 0, 1, 1] B5) s H (evOperand Γ s (.tmp 68)) := at_cond (by kernel_rfl) (by kernel_rfl) rfl rfl s H
@[simp] theorem n5_39 (s : List V) (H : Heap) : evCode P Γ call n f m (cAt [1, 1, 1, 1, 1, 1, 1, 1, 0, 1, 0] B5) s H = seqNext P Γ call n f m (cAt [1, 1, 1, 1, 1, 1, 1, 1, 0, 1, 0, 1] B5) (evCode P Γ call n f m (cAt [1, 1, 1, 1, 1, 1, 1, 1, 0, 1, 0, 0] B5) s H) := at_seq (by kernel_rfl) rfl rfl s H
noncomputable def r5_40 : {l : List Oper // opsOf (cAt [1, 1, 1, 1, 1, 1, 1, 1, 0, 1, 0, 0] B5) = l} := by
  apply Subtype.mk
  dsimp only [opsOf, cAt, kids, B5, bodyOf, Try.f5, List.getD, List.getElem?_cons_zero, List.getElem?_cons_succ, Option.getD_some]
@[simp] theorem n5_40 (s : List V) (H : Heap) : evCode P Γ call n f m (cAt [1, 1, 1, 1, 1, 1, 1, 1, 0, 1, 0, 0] B5) s H = regNext (evOpsGo P Γ call r5_40.1 r5_40.1 s H) := at_region (by kernel_rfl) r5_40.2 s H
attribute [simp] r5_40
@[simp] theorem n5_41 (s : List V) (H : Heap) : evCode P Γ call n f m (cAt [1, 1, 1, 1, 1, 1, 1, 1, 0, 1, 0, 1] B5) s H = some (.ret, s, H) := at_ret (by kernel_rfl) s H
@[simp] theorem n5_42 (s : List V) (H : Heap) : evCode P Γ call n f m (cAt [1, 1, 1, 1, 1, 1, 1, 1, 0, 1, 1] B5) s H = some (.normal, s, H) := at_skip (by kernel_rfl) s H
@[simp] theorem n5_43 (s : List V) (H : Heap) : evCode P Γ call n f m (cAt [1, 1, 1, 1, 1, 1, 1, 1, 1] B5) s H = seqNext P Γ call n f m (cAt [1, 1, 1, 1, 1, 1, 1, 1, 1, 1] B5) (evCode P Γ call n f m (cAt [1, 1, 1, 1, 1, 1, 1, 1, 1, 0] B5) s H) := at_seq (by kernel_rfl) rfl rfl s H
noncomputable def r5_44 : {l : List Oper // opsOf (cAt [1, 1, 1, 1, 1, 1, 1, 1, 1, 0] B5) = l} := by
  apply Subtype.mk
  dsimp only [opsOf, cAt, kids, B5, bodyOf, Try.f5, List.getD, List.getElem?_cons_zero, List.getElem?_cons_succ, Option.getD_some]
@[simp] theorem n5_44 (s : List V) (H : Heap) : evCode P Γ call n f m (cAt [1, 1, 1, 1, 1, 1, 1, 1, 1, 0] B5) s H = regNext (evOpsGo P Γ call r5_44.1 r5_44.1 s H) := at_region (by kernel_rfl) r5_44.2 s H
attribute [simp] r5_44
@[simp] theorem n5_45 (s : List V) (H : Heap) : evCode P Γ call n f m (cAt [1, 1, 1, 1, 1, 1, 1, 1, 1, 1] B5) s H = seqNext P Γ call n f m (cAt [1, 1, 1, 1, 1, 1, 1, 1, 1, 1, 1] B5) (evCode P Γ call n f m (cAt [1, 1, 1, 1, 1, 1, 1, 1, 1, 1, 0] B5) s H) := at_seq (by kernel_rfl) rfl rfl s H
@[simp] theorem n5_46 (s : List V) (H : Heap) : evCode P Γ call n f m (cAt [1, 1, 1, 1, 1, 1, 1, 1, 1, 1, 0] B5) s H = seqNext P Γ call n f m (cAt [1, 1, 1, 1, 1, 1, 1, 1, 1, 1, 0, 1] B5) (evCode P Γ call n f m (cAt [1, 1, 1, 1, 1, 1, 1, 1, 1, 1, 0, 0] B5) s H) := at_seq (by kernel_rfl) rfl rfl s H
noncomputable def r5_47 : {l : List Oper // opsOf (cAt [1, 1, 1, 1, 1, 1, 1, 1, 1, 1, 0, 0] B5) = l} := by
  apply Subtype.mk
  dsimp only [opsOf, cAt, kids, B5, bodyOf, Try.f5, List.getD, List.getElem?_cons_zero, List.getElem?_cons_succ, Option.getD_some]
@[simp] theorem n5_47 (s : List V) (H : Heap) : evCode P Γ call n f m (cAt [1, 1, 1, 1, 1, 1, 1, 1, 1, 1, 0, 0] B5) s H = regNext (evOpsGo P Γ call r5_47.1 r5_47.1 s H) := at_region (by kernel_rfl) r5_47.2 s H
attribute [simp] r5_47
@[simp] theorem n5_48 (s : List V) (H : Heap) : evCode P Γ call n f m (cAt [1, 1, 1, 1, 1, 1, 1, 1, 1, 1, 0, 1] B5) s H = condW P Γ call n f m (cAt [1, 1, 1, 1, 1, 1, 1, 1, 1, 1, 0, 1, 0] B5) (cAt [1, 1, 1, 1, 1, 1, 1, 1, 1, 1, 0, 1, 1] B5) s H (evOperand Γ s (.tmp 110)) := at_cond (by kernel_rfl) (by kernel_rfl) rfl rfl s H
@[simp] theorem n5_49 (s : List V) (H : Heap) : evCode P Γ call n f m (cAt [1, 1, 1, 1, 1, 1, 1, 1, 1, 1, 0, 1, 0] B5) s H = seqNext P Γ call n f m (cAt [1, 1, 1, 1, 1, 1, 1, 1, 1, 1, 0, 1, 0, 1] B5) (evCode P Γ call n f m (cAt [1, 1, 1, 1, 1, 1, 1, 1, 1, 1, 0, 1, 0, 0] B5) s H) := at_seq (by kernel_rfl) rfl rfl s H
noncomputable def r5_50 : {l : List Oper // opsOf (cAt [1, 1, 1, 1, 1, 1, 1, 1, 1, 1, 0, 1, 0, 0] B5) = l} := by
  apply Subtype.mk
  dsimp only [opsOf, cAt, kids, B5, bodyOf, Try.f5, List.getD, List.getElem?_cons_zero, List.getElem?_cons_succ, Option.getD_some]
@[simp] theorem n5_50 (s : List V) (H : Heap) : evCode P Γ call n f m (cAt [1, 1, 1, 1, 1, 1, 1, 1, 1, 1, 0, 1, 0, 0] B5) s H = regNext (evOpsGo P Γ call r5_50.1 r5_50.1 s H) := at_region (by kernel_rfl) r5_50.2 s H
attribute [simp] r5_50
@[simp] theorem n5_51 (s : List V) (H : Heap) : evCode P Γ call n f m (cAt [1, 1, 1, 1, 1, 1, 1, 1, 1, 1, 0, 1, 0, 1] B5) s H = some (.ret, s, H) := at_ret (by kernel_rfl) s H
@[simp] theorem n5_52 (s : List V) (H : Heap) : evCode P Γ call n f m (cAt [1, 1, 1, 1, 1, 1, 1, 1, 1, 1, 0, 1, 1] B5) s H = some (.normal, s, H) := at_skip (by kernel_rfl) s H
@[simp] theorem n5_53 (s : List V) (H : Heap) : evCode P Γ call n f m (cAt [1, 1, 1, 1, 1, 1, 1, 1, 1, 1, 1] B5) s H = seqNext P Γ call n f m (cAt [1, 1, 1, 1, 1, 1, 1, 1, 1, 1, 1, 1] B5) (evCode P Γ call n f m (cAt [1, 1, 1, 1, 1, 1, 1, 1, 1, 1, 1, 0] B5) s H) := at_seq (by kernel_rfl) rfl rfl s H
@[simp] theorem n5_54 (s : List V) (H : Heap) : evCode P Γ call n f m (cAt [1, 1, 1, 1, 1, 1, 1, 1, 1, 1, 1, 0] B5) s H = seqNext P Γ call n f m (cAt [1, 1, 1, 1, 1, 1, 1, 1, 1, 1, 1, 0, 1] B5) (evCode P Γ call n f m (cAt [1, 1, 1, 1, 1, 1, 1, 1, 1, 1, 1, 0, 0] B5) s H) := at_seq (by kernel_rfl) rfl rfl s H
noncomputable def r5_55 : {l : List Oper // opsOf (cAt [1, 1, 1, 1, 1, 1, 1, 1, 1, 1, 1, 0, 0] B5) = l} := by
  apply Subtype.mk
  dsimp only [opsOf, cAt, kids, B5, bodyOf, Try.f5, List.getD, List.getElem?_cons_zero, List.getElem?_cons_succ, Option.getD_some]
@[simp] theorem n5_55 (s : List V) (H : Heap) : evCode P Γ call n f m (cAt [1, 1, 1, 1, 1, 1, 1, 1, 1, 1, 1, 0, 0] B5) s H = regNext (evOpsGo P Γ call r5_55.1 r5_55.1 s H) := at_region (by kernel_rfl) r5_55.2 s H
attribute [simp] r5_55
@[simp] theorem n5_56 (s : List V) (H : Heap) : evCode P Γ call n f m (cAt [1, 1, 1, 1, 1, 1, 1, 1, 1, 1, 1, 0, 1] B5) s H = blockNext 0 (evCode P Γ call n f m (cAt [1, 1, 1, 1, 1, 1, 1, 1, 1, 1, 1, 0, 1, 0] B5) s H) := at_block (by kernel_rfl) rfl s H
@[simp] theorem n5_57 (s : List V) (H : Heap) : evCode P Γ call n f m (cAt [1, 1, 1, 1, 1, 1, 1, 1, 1, 1, 1, 0, 1, 0] B5) s H = evLoopC P Γ call n f m (cAt [1, 1, 1, 1, 1, 1, 1, 1, 1, 1, 1, 0, 1, 0, 0] B5) n s H := at_loop (by kernel_rfl) rfl s H
noncomputable abbrev L5_19 : Code := cAt [1, 1, 1, 1, 1, 1, 1, 1, 1, 1, 1, 0, 1, 0, 0] B5
@[simp] theorem n5_57f : firstRegion (cAt [1, 1, 1, 1, 1, 1, 1, 1, 1, 1, 1, 0, 1, 0, 0] B5) = 19 := by kernel_rfl
@[simp] theorem n5_58 (s : List V) (H : Heap) : evCode P Γ call n f m (cAt [1, 1, 1, 1, 1, 1, 1, 1, 1, 1, 1, 0, 1, 0, 0] B5) s H = seqNext P Γ call n f m (cAt [1, 1, 1, 1, 1, 1, 1, 1, 1, 1, 1, 0, 1, 0, 0, 1] B5) (evCode P Γ call n f m (cAt [1, 1, 1, 1, 1, 1, 1, 1, 1, 1, 1, 0, 1, 0, 0, 0] B5) s H) := at_seq (by kernel_rfl) rfl rfl s H
noncomputable def r5_59 : {l : List Oper // opsOf (cAt [1, 1, 1, 1, 1, 1, 1, 1, 1, 1, 1, 0, 1, 0, 0, 0] B5) = l} := by
  apply Subtype.mk
  dsimp only [opsOf, cAt, kids, B5, bodyOf, Try.f5, List.getD, List.getElem?_cons_zero, List.getElem?_cons_succ, Option.getD_some]
@[simp] theorem n5_59 (s : List V) (H : Heap) : evCode P Γ call n f m (cAt [1, 1, 1, 1, 1, 1, 1, 1, 1, 1, 1, 0, 1, 0, 0, 0] B5) s H = regNext (evOpsGo P Γ call r5_59.1 r5_59.1 s H) := at_region (by kernel_rfl) r5_59.2 s H
attribute [simp] r5_59
@[simp] theorem n5_60 (s : List V) (H : Heap) : evCode P Γ call n f m (cAt [1, 1, 1, 1, 1, 1, 1, 1, 1, 1, 1, 0, 1, 0, 0, 1] B5) s H = seqNext P Γ call n f m (cAt [1, 1, 1, 1, 1, 1, 1, 1, 1, 1, 1, 0, 1, 0, 0, 1, 1] B5) (evCode P Γ call n f m (cAt [1, 1, 1, 1, 1, 1, 1, 1, 1, 1, 1, 0, 1, 0, 0, 1, 0] B5) s H) := at_seq (by kernel_rfl) rfl rfl s H
@[simp] theorem n5_61 (s : List V) (H : Heap) : evCode P Γ call n f m (cAt [1, 1, 1, 1, 1, 1, 1, 1, 1, 1, 1, 0, 1, 0, 0, 1, 0] B5) s H = condW P Γ call n f m (cAt [1, 1, 1, 1, 1, 1, 1, 1, 1, 1, 1, 0, 1, 0, 0, 1, 0, 0] B5) (cAt [1, 1, 1, 1, 1, 1, 1, 1, 1, 1, 1, 0, 1, 0, 0, 1, 0, 1] B5) s H (evOperand Γ s (.tmp 117)) := at_cond (by kernel_rfl) (by kernel_rfl) rfl rfl s H
@[simp] theorem n5_62 (s : List V) (H : Heap) : evCode P Γ call n f m (cAt [1, 1, 1, 1, 1, 1, 1, 1, 1, 1, 1, 0, 1, 0, 0, 1, 0, 0] B5) s H = some (.normal, s, H) := at_skip (by kernel_rfl) s H
@[simp] theorem n5_63 (s : List V) (H : Heap) : evCode P Γ call n f m (cAt [1, 1, 1, 1, 1, 1, 1, 1, 1, 1, 1, 0, 1, 0, 0, 1, 0, 1] B5) s H = some (.exit 0, s, H) := at_exit (by kernel_rfl) s H
@[simp] theorem n5_64 (s : List V) (H : Heap) : evCode P Γ call n f m (cAt [1, 1, 1, 1, 1, 1, 1, 1, 1, 1, 1, 0, 1, 0, 0, 1, 1] B5) s H = seqNext P Γ call n f m (cAt [1, 1, 1, 1, 1, 1, 1, 1, 1, 1, 1, 0, 1, 0, 0, 1, 1, 1] B5) (evCode P Γ call n f m (cAt [1, 1, 1, 1, 1, 1, 1, 1, 1, 1, 1, 0, 1, 0, 0, 1, 1, 0] B5) s H) := at_seq (by kernel_rfl) rfl rfl s H
@[simp] theorem n5_65 (s : List V) (H : Heap) : evCode P Γ call n f m (cAt [1, 1, 1, 1, 1, 1, 1, 1, 1, 1, 1, 0, 1, 0, 0, 1, 1, 0] B5) s H = blockNext 1 (evCode P Γ call n f m (cAt [1, 1, 1, 1, 1, 1, 1, 1, 1, 1, 1, 0, 1, 0, 0, 1, 1, 0, 0] B5) s H) := at_block (by kernel_rfl) rfl s H
@[simp] theorem n5_66 (s : List V) (H : Heap) : evCode P Γ call n f m (cAt [1, 1, 1, 1, 1, 1, 1, 1, 1, 1, 1, 0, 1, 0, 0, 1, 1, 0, 0] B5) s H = seqNext P Γ call n f m (cAt [1, 1, 1, 1, 1, 1, 1, 1, 1, 1, 1, 0, 1, 0, 0, 1, 1, 0, 0, 1] B5) (evCode P Γ call n f m (cAt [1, 1, 1, 1, 1, 1, 1, 1, 1, 1, 1, 0, 1, 0, 0, 1, 1, 0, 0, 0] B5) s H) := at_seq (by kernel_rfl) rfl rfl s H
noncomputable def r5_67 : {l : List Oper // opsOf (cAt [1, 1, 1, 1, 1, 1, 1, 1, 1, 1, 1, 0, 1, 0, 0, 1, 1, 0, 0, 0] B5) = l} := by
  apply Subtype.mk
  dsimp only [opsOf, cAt, kids, B5, bodyOf, Try.f5, List.getD, List.getElem?_cons_zero, List.getElem?_cons_succ, Option.getD_some]
@[simp] theorem n5_67 (s : List V) (H : Heap) : evCode P Γ call n f m (cAt [1, 1, 1, 1, 1, 1, 1, 1, 1, 1, 1, 0, 1, 0, 0, 1, 1, 0, 0, 0] B5) s H = regNext (evOpsGo P Γ call r5_67.1 r5_67.1 s H) := at_region (by kernel_rfl) r5_67.2 s H
attribute [simp] r5_67
@[simp] theorem n5_68 (s : List V) (H : Heap) : evCode P Γ call n f m (cAt [1, 1, 1, 1, 1, 1, 1, 1, 1, 1, 1, 0, 1, 0, 0, 1, 1, 0, 0, 1] B5) s H = seqNext P Γ call n f m (cAt [1, 1, 1, 1, 1, 1, 1, 1, 1, 1, 1, 0, 1, 0, 0, 1, 1, 0, 0, 1, 1] B5) (evCode P Γ call n f m (cAt [1, 1, 1, 1, 1, 1, 1, 1, 1, 1, 1, 0, 1, 0, 0, 1, 1, 0, 0, 1, 0] B5) s H) := at_seq (by kernel_rfl) rfl rfl s H
noncomputable def r5_69 : {l : List Oper // opsOf (cAt [1, 1, 1, 1, 1, 1, 1, 1, 1, 1, 1, 0, 1, 0, 0, 1, 1, 0, 0, 1, 0] B5) = l} := by
  apply Subtype.mk
  dsimp only [opsOf, cAt, kids, B5, bodyOf, Try.f5, List.getD, List.getElem?_cons_zero, List.getElem?_cons_succ, Option.getD_some]
@[simp] theorem n5_69 (s : List V) (H : Heap) : evCode P Γ call n f m (cAt [1, 1, 1, 1, 1, 1, 1, 1, 1, 1, 1, 0, 1, 0, 0, 1, 1, 0, 0, 1, 0] B5) s H = regNext (evOpsGo P Γ call r5_69.1 r5_69.1 s H) := at_region (by kernel_rfl) r5_69.2 s H
attribute [simp] r5_69
@[simp] theorem n5_70 (s : List V) (H : Heap) : evCode P Γ call n f m (cAt [1, 1, 1, 1, 1, 1, 1, 1, 1, 1, 1, 0, 1, 0, 0, 1, 1, 0, 0, 1, 1] B5) s H = condW P Γ call n f m (cAt [1, 1, 1, 1, 1, 1, 1, 1, 1, 1, 1, 0, 1, 0, 0, 1, 1, 0, 0, 1, 1, 0] B5) (cAt [1, 1, 1, 1, 1, 1, 1, 1, 1, 1, 1, 0, 1, 0, 0, 1, 1, 0, 0, 1, 1, 1] B5) s H (evOperand Γ s (.tmp 127)) := at_cond (by kernel_rfl) (by kernel_rfl) rfl rfl s H
@[simp] theorem n5_71 (s : List V) (H : Heap) : evCode P Γ call n f m (cAt [1, 1, 1, 1, 1, 1, 1, 1, 1, 1, 1, 0, 1, 0, 0, 1, 1, 0, 0, 1, 1, 0] B5) s H = seqNext P Γ call n f m (cAt [1, 1, 1, 1, 1, 1, 1, 1, 1, 1, 1, 0, 1, 0, 0, 1, 1, 0, 0, 1, 1, 0, 1] B5) (evCode P Γ call n f m (cAt [1, 1, 1, 1, 1, 1, 1, 1, 1, 1, 1, 0, 1, 0, 0, 1, 1, 0, 0, 1, 1, 0, 0] B5) s H) := at_seq (by kernel_rfl) rfl rfl s H
noncomputable def r5_72 : {l : List Oper // opsOf (cAt [1, 1, 1, 1, 1, 1, 1, 1, 1, 1, 1, 0, 1, 0, 0, 1, 1, 0, 0, 1, 1, 0, 0] B5) = l} := by
  apply Subtype.mk
  dsimp only [opsOf, cAt, kids, B5, bodyOf, Try.f5, List.getD, List.getElem?_cons_zero, List.getElem?_cons_succ, Option.getD_some]
@[simp] theorem n5_72 (s : List V) (H : Heap) : evCode P Γ call n f m (cAt [1, 1, 1, 1, 1, 1, 1, 1, 1, 1, 1, 0, 1, 0, 0, 1, 1, 0, 0, 1, 1, 0, 0] B5) s H = regNext (evOpsGo P Γ call r5_72.1 r5_72.1 s H) := at_region (by kernel_rfl) r5_72.2 s H
attribute [simp] r5_72
@[simp] theorem n5_73 (s : List V) (H : Heap) : evCode P Γ call n f m (cAt [1, 1, 1, 1, 1, 1, 1, 1, 1, 1, 1, 0, 1, 0, 0, 1, 1, 0, 0, 1, 1, 0, 1] B5) s H = some (.ret, s, H) := at_ret (by kernel_rfl) s H
@[simp] theorem n5_74 (s : List V) (H : Heap) : evCode P Γ call n f m (cAt [1, 1, 1, 1, 1, 1, 1, 1, 1, 1, 1, 0, 1, 0, 0, 1, 1, 0, 0, 1, 1, 1] B5) s H = some (.normal, s, H) := at_skip (by kernel_rfl) s H
noncomputable def r5_75 : {l : List Oper // opsOf (cAt [1, 1, 1, 1, 1, 1, 1, 1, 1, 1, 1, 0, 1, 0, 0, 1, 1, 1] B5) = l} := by
  apply Subtype.mk
  dsimp only [opsOf, cAt, kids, B5, bodyOf, Try.f5, List.getD, List.getElem?_cons_zero, List.getElem?_cons_succ, Option.getD_some]
@[simp] theorem n5_75 (s : List V) (H : Heap) : evCode P Γ call n f m (cAt [1, 1, 1, 1, 1, 1, 1, 1, 1, 1, 1, 0, 1, 0, 0, 1, 1, 1] B5) s H = regNext (evOpsGo P Γ call r5_75.1 r5_75.1 s H) := at_region (by kernel_rfl) r5_75.2 s H
attribute [simp] r5_75
@[simp] theorem n5_76 (s : List V) (H : Heap) : evCode P Γ call n f m (cAt [1, 1, 1, 1, 1, 1, 1, 1, 1, 1, 1, 1] B5) s H = seqNext P Γ call n f m (cAt [1, 1, 1, 1, 1, 1, 1, 1, 1, 1, 1, 1, 1] B5) (evCode P Γ call n f m (cAt [1, 1, 1, 1, 1, 1, 1, 1, 1, 1, 1, 1, 0] B5) s H) := at_seq (by kernel_rfl) rfl rfl s H
noncomputable def r5_77 : {l : List Oper // opsOf (cAt [1, 1, 1, 1, 1, 1, 1, 1, 1, 1, 1, 1, 0] B5) = l} := by
  apply Subtype.mk
  dsimp only [opsOf, cAt, kids, B5, bodyOf, Try.f5, List.getD, List.getElem?_cons_zero, List.getElem?_cons_succ, Option.getD_some]
@[simp] theorem n5_77 (s : List V) (H : Heap) : evCode P Γ call n f m (cAt [1, 1, 1, 1, 1, 1, 1, 1, 1, 1, 1, 1, 0] B5) s H = regNext (evOpsGo P Γ call r5_77.1 r5_77.1 s H) := at_region (by kernel_rfl) r5_77.2 s H
attribute [simp] r5_77
@[simp] theorem n5_78 (s : List V) (H : Heap) : evCode P Γ call n f m (cAt [1, 1, 1, 1, 1, 1, 1, 1, 1, 1, 1, 1, 1] B5) s H = some (.ret, s, H) := at_ret (by kernel_rfl) s H
theorem b5 {k : Nat} (ho : ∀ args H, Γ.orc 5 args H = none) (args : List V) (H : Heap) (ha : args.length ≤ 129) : evF Try.prog Γ (k + 1) 5 args H = bodyEnd Try.prog [.tmp 4] H.length (evCode Try.prog Γ (evF Try.prog Γ k) k 5 H.length (cAt [] B5) (mkL 129 V.undef (enumV 0 args)) H) := body_at Try.func5 (by decide) rfl ho rfl rfl args H ha
noncomputable def B6 : Code := bodyOf Try.f6
@[simp] theorem n6_1 (s : List V) (H : Heap) : evCode P Γ call n f m (cAt [] B6) s H = seqNext P Γ call n f m (cAt [1] B6) (evCode P Γ call n f m (cAt [0] B6) s H) := at_seq (by kernel_rfl) rfl rfl s H
noncomputable def r6_2 : {l : List Oper // opsOf (cAt [0] B6) = l} := by
  apply Subtype.mk
  dsimp only [opsOf, cAt, kids, B6, bodyOf, Try.f6, List.getD, List.getElem?_cons_zero, List.getElem?_cons_succ, Option.getD_some]
@[simp] theorem n6_2 (s : List V) (H : Heap) : evCode P Γ call n f m (cAt [0] B6) s H = regNext (evOpsGo P Γ call r6_2.1 r6_2.1 s H) := at_region (by kernel_rfl) r6_2.2 s H
attribute [simp] r6_2
@[simp] theorem n6_3 (s : List V) (H : Heap) : evCode P Γ call n f m (cAt [1] B6) s H = seqNext P Γ call n f m (cAt [1, 1] B6) (evCode P Γ call n f m (cAt [1, 0] B6) s H) := at_seq (by kernel_rfl) rfl rfl s H
noncomputable def r6_4 : {l : List Oper // opsOf (cAt [1, 0] B6) = l} := by
  apply Subtype.mk
  dsimp only [opsOf, cAt, kids, B6, bodyOf, Try.f6, List.getD, List.getElem?_cons_zero, List.getElem?_cons_succ, Option.getD_some]
@[simp] theorem n6_4 (s : List V) (H : Heap) : evCode P Γ call n f m (cAt [1, 0] B6) s H = regNext (evOpsGo P Γ call r6_4.1 r6_4.1 s H) := at_region (by kernel_rfl) r6_4.2 s H
attribute [simp] r6_4
@[simp] theorem n6_5 (s : List V) (H : Heap) : evCode P Γ call n f m (cAt [1, 1] B6) s H = seqNext P Γ call n f m (cAt [1, 1, 1] B6) (evCode P Γ call n f m (cAt [1, 1, 0] B6) s H) := at_seq (by kernel_rfl) rfl rfl s H
noncomputable def r6_6 : {l : List Oper // opsOf (cAt [1, 1, 0] B6) = l} := by
  apply Subtype.mk
  dsimp only [opsOf, cAt, kids, B6, bodyOf, Try.f6, List.getD, List.getElem?_cons_zero, List.getElem?_cons_succ, Option.getD_some]
@[simp] theorem n6_6 (s : List V) (H : Heap) : evCode P Γ call n f m (cAt [1, 1, 0] B6) s H = regNext (evOpsGo P Γ call r6_6.1 r6_6.1 s H) := at_region (by kernel_rfl) r6_6.2 s H
attribute [simp] r6_6
@[simp] theorem n6_7 (s : List V) (H : Heap) : evCode P Γ call n f m (cAt [1, 1, 1] B6) s H = seqNext P Γ call n f m (cAt [1, 1, 1, 1] B6) (evCode P Γ call n f m (cAt [1, 1, 1, 0] B6) s H) := at_seq (by kernel_rfl) rfl rfl s H
noncomputable def r6_8 : {l : List Oper // opsOf (cAt [1, 1, 1, 0] B6) = l} := by
  apply Subtype.mk
  dsimp only [opsOf, cAt, kids, B6, bodyOf, Try.f6, List.getD, List.getElem?_cons_zero, List.getElem?_cons_succ, Option.getD_some]
@[simp] theorem n6_8 (s : List V) (H : Heap) : evCode P Γ call n f m (cAt [1, 1, 1, 0] B6) s H = regNext (evOpsGo P Γ call r6_8.1 r6_8.1 s H) := at_region (by kernel_rfl) r6_8.2 s H
attribute [simp] r6_8
@[simp] theorem n6_9 (s : List V) (H : Heap) : evCode P Γ call n f m (cAt [1, 1, 1, 1] B6) s H = seqNext P Γ call n f m (cAt [1, 1, 1, 1, 1] B6) (evCode P Γ call n f m (cAt [1, 1, 1, 1, 0] B6) s H) := at_seq (by kernel_rfl) rfl rfl s H
@[simp] theorem n6_10 (s : List V) (H : Heap) : evCode P Γ call n f m (cAt [1, 1, 1, 1, 0] B6) s H = seqNext P Γ call n f m (cAt [1, 1, 1, 1, 0, 1] B6) (evCode P Γ call n f m (cAt [1, 1, 1, 1, 0, 0] B6) s H) := at_seq (by kernel_rfl) rfl rfl s H
noncomputable def r6_11 : {l : List Oper // opsOf (cAt [1, 1, 1, 1, 0, 0] B6) = l} := by
  apply Subtype.mk
  dsimp only [opsOf, cAt, kids, B6, bodyOf, Try.f6, List.getD, List.getElem?_cons_zero, List.getElem?_cons_succ, Option.getD_some]
@[simp] theorem n6_11 (s : List V) (H : Heap) : evCode P Γ call n f m (cAt [1, 1, 1, 1, 0, 0] B6) s H = regNext (evOpsGo P Γ call r6_11.1 r6_11.1 s H) := at_region (by kernel_rfl) r6_11.2 s H
attribute [simp] r6_11
@[simp] theorem n6_12 (s : List V) (H : Heap) : evCode P Γ call n f m (cAt [1, 1, 1, 1, 0, 1] B6) s H = condW P Γ call n f m (cAt [1, 1, 1, 1, 0, 1, 0] B6) (cAt [1, 1, 1, 1, 0, 1, 1] B6) s H (evOperand Γ s (.tmp 54)) := at_cond (by kernel_rfl) (by kernel_rfl) rfl rfl s H
@[simp] theorem n6_13 (s : List V) (H : Heap) : evCode P Γ call n f m (cAt [1, 1, 1, 1, 0, 1, 0] B6) s H = seqNext P Γ call n f m (cAt [1, 1, 1, 1, 0, 1, 0, 1] B6) (evCode P Γ call n f m (cAt [1, 1, 1, 1, 0, 1, 0, 0] B6) s H) := at_seq (by kernel_rfl) rfl rfl s H
noncomputable def r6_14 : {l : List Oper // opsOf (cAt [1, 1, 1, 1, 0, 1, 0, 0] B6) = l} := by
  apply Subtype.mk
  dsimp only [opsOf, cAt, kids, B6, bodyOf, Try.f6, List.getD, List.getElem?_cons_zero, List.getElem?_cons_succ, Option.getD_some]
@[simp] theorem n6_14 (s : List V) (H : Heap) : evCode P Γ call n f m (cAt [1, 1, 1, 1, 0, 1, 0, 0] B6) s H = regNext (evOpsGo P Γ call r6_14.1 r6_14.1 s H) := at_region (by kernel_rfl) r6_14.2 s H
attribute [simp] r6_14
@[simp] theorem n6_15 (s : List V) (H : Heap) : evCode P Γ call n f m (cAt [1, 1, 1, 1, 0, 1, 0, 1] B6) s H = some (.ret, s, H) := at_ret (by kernel_rfl) s H
@[simp] theorem n6_16 (s : List V) (H : Heap) : evCode P Γ call n f m (cAt [1, 1, 1, 1, 0, 1, 1] B6) s H = some (.normal, s, H) := at_skip (by kernel_rfl) s H
@[simp] theorem n6_17 (s : List V) (H : Heap) : evCode P Γ call n f m (cAt [1, 1, 1, 1, 1] B6) s H = seqNext P Γ call n f m (cAt [1, 1, 1, 1, 1, 1] B6) (evCode P Γ call n f m (cAt [1, 1, 1, 1, 1, 0] B6) s H) := at_seq (by kernel_rfl) rfl rfl s H
noncomputable def r6_18 : {l : List Oper // opsOf (cAt [1, 1, 1, 1, 1, 0] B6) = l} := by
  apply Subtype.mk
  dsimp only [opsOf, cAt, kids, B6, bodyOf, Try.f6, List.getD, List.getElem?_cons_zero, List.getElem?_cons_succ, Option.getD_some]
@[simp] theorem n6_18 (s : List V) (H : Heap) : evCode P Γ call n f m (cAt [1, 1, 1, 1, 1, 0] B6) s H = regNext (evOpsGo P Γ call r6_18.1 r6_18.1 s H) := at_region (by kernel_rfl) r6_18.2 s H
attribute [simp] r6_18
@[simp] theorem n6_19 (s : List V) (H : Heap) : evCode P Γ call n f m (cAt [1, 1, 1, 1, 1, 1] B6) s H = seqNext P Γ call n f m (cAt [1, 1, 1, 1, 1, 1, 1] B6) (evCode P Γ call n f m (cAt [1, 1, 1, 1, 1, 1, 0] B6) s H) := at_seq (by kernel_rfl) rfl rfl s H
noncomputable def r6_20 : {l : List Oper // opsOf (cAt [1, 1, 1, 1, 1, 1, 0] B6) = l} := by
  apply Subtype.mk
  dsimp only [opsOf, cAt, kids, B6, bodyOf, Try.f6, List.getD, List.getElem?_cons_zero, List.getElem?_cons_succ, Option.getD_some]
@[simp] theorem n6_20 (s : List V) (H : Heap) : evCode P Γ call n f m (cAt [1, 1, 1, 1, 1, 1, 0] B6) s H = regNext (evOpsGo P Γ call r6_20.1 r6_20.1 s H) := at_region (by kernel_rfl) r6_20.2 s H
attribute [simp] r6_20
@[simp] theorem n6_21 (s : List V) (H : Heap) : evCode P Γ call n f m (cAt [1, 1, 1, 1, 1, 1, 1] B6) s H = seqNext P Γ call n f m (cAt [1, 1, 1, 1, 1, 1, 1, 1] B6) (evCode P Γ call n f m (cAt [1, 1, 1, 1, 1, 1, 1, 0] B6) s H) := at_seq (by kernel_rfl) rfl rfl s H
@[simp] theorem n6_22 (s : List V) (H : Heap) : evCode P Γ call n f m (cAt [1, 1, 1, 1, 1, 1, 1, 0] B6) s H = seqNext P Γ call n f m (cAt [1, 1, 1, 1, 1, 1, 1, 0, 1] B6) (evCode P Γ call n f m (cAt [1, 1, 1, 1, 1, 1, 1, 0, 0] B6) s H) := at_seq (by kernel_rfl) rfl rfl s H
noncomputable def r6_23 : {l : List Oper // opsOf (cAt [1, 1, 1, 1, 1, 1, 1, 0, 0] B6) = l} := by
  apply Subtype.mk
  dsimp only [opsOf, cAt, kids, B6, bodyOf, Try.f6, List.getD, List.getElem?_cons_zero, List.getElem?_cons_succ, Option.getD_some]
@[simp] theorem n6_23 (s : List V) (H : Heap) : evCode P Γ call n f m (cAt [1, 1, 1, 1, 1, 1, 1, 0, 0] B6) s H = regNext (evOpsGo P Γ call r6_23.1 r6_23.1 s H) := at_region (by kernel_rfl) r6_23.2 s H
attribute [simp] r6_23
@[simp] theorem n6_24 (s : List V) (H : Heap) : evCode P Γ call n f m (cAt [1, 1, 1, 1, 1, 1, 1, 0, 1] B6) s H = condW P Γ call n f m (cAt [1, 1, 1, 1, 1, 1, 1, 0, 1, 0] B6) (cAt [1, 1, 1, 1, 1, 1, 1, 0, 1, 1] B6) s H (evOperand Γ s (.tmp 87)) := at_cond (by kernel_rfl) (by kernel_rfl) rfl rfl s H
@[simp] theorem n6_25 (s : List V) (H : Heap) : evCode P Γ call n f m (cAt [1, 1, 1, 1, 1, 1, 1, 0, 1, 0] B6) s H = seqNext P Γ call n f m (cAt [1, 1, 1, 1, 1, 1, 1, 0, 1, 0, 1] B6) (evCode P Γ call n f m (cAt [1, 1, 1, 1, 1, 1, 1, 0, 1, 0, 0] B6) s H) := at_seq (by kernel_rfl) rfl rfl s H
noncomputable def r6_26 : {l : List Oper // opsOf (cAt [1, 1, 1, 1, 1, 1, 1, 0, 1, 0, 0] B6) = l} := by
  apply Subtype.mk
  dsimp only [opsOf, cAt, kids, B6, bodyOf, Try.f6, List.getD, List.getElem?_cons_zero, List.getElem?_cons_succ, Option.getD_some]
@[simp] theorem n6_26 (s : List V) (H : Heap) : evCode P Γ call n f m (cAt [1, 1, 1, 1, 1, 1, 1, 0, 1, 0, 0] B6) s H = regNext (evOpsGo P Γ call r6_26.1 r6_26.1 s H) := at_region (by kernel_rfl) r6_26.2 s H
attribute [simp] r6_26
@[simp] theorem n6_27 (s : List V) (H : Heap) : evCode P Γ call n f m (cAt [1, 1, 1, 1, 1, 1, 1, 0, 1, 0, 1] B6) s H = seqNext P Γ call n f m (cAt [1, 1, 1, 1, 1, 1, 1, 0, 1, 0, 1, 1] B6) (evCode P Γ call n f m (cAt [1, 1, 1, 1, 1, 1, 1, 0, 1, 0, 1, 0] B6) s H) := at_seq (by kernel_rfl) rfl rfl s H
noncomputable def r6_28 : {l : List Oper // opsOf (cAt [1, 1, 1, 1, 1, 1, 1, 0, 1, 0, 1, 0] B6) = l} := by
  apply Subtype.mk
  dsimp only [opsOf, cAt, kids, B6, bodyOf, Try.f6, List.getD, List.getElem?_cons_zero, List.getElem?_cons_succ, Option.getD_some]
@[simp] theorem n6_28 (s : List V) (H : Heap) : evCode P Γ call n f m (cAt [1, 1, 1, 1, 1, 1, 1, 0, 1, 0, 1, 0] B6) s H = regNext (evOpsGo P Γ call r6_28.1 r6_28.1 s H) := at_region (by kernel_rfl) r6_28.2 s H
attribute [simp] r6_28
@[simp] theorem n6_29 (s : List V) (H : Heap) : evCode P Γ call n f m (cAt [1, 1, 1, 1, 1, 1, 1, 0, 1, 0, 1, 1] B6) s H = seqNext P Γ call n f m (cAt [1, 1, 1, 1, 1, 1, 1, 0, 1, 0, 1, 1, 1] B6) (evCode P Γ call n f m (cAt [1, 1, 1, 1, 1, 1, 1, 0, 1, 0, 1, 1, 0] B6) s H) := at_seq (by kernel_rfl) rfl rfl s H
@[simp] theorem n6_30 (s : List V) (H : Heap) : evCode P Γ call n f m (cAt [1, 1, 1, 1, 1, 1, 1, 0, 1, 0, 1, 1, 0] B6) s H = seqNext P Γ call n f m (cAt [1, 1, 1, 1, 1, 1, 1, 0, 1, 0, 1, 1, 0, 1] B6) (evCode P Γ call n f m (cAt [1, 1, 1, 1, 1, 1, 1, 0, 1, 0, 1, 1, 0, 0] B6) s H) := at_seq (by kernel_rfl) rfl rfl s H
noncomputable def r6_31 : {l : List Oper // opsOf (cAt [1, 1, 1, 1, 1, 1, 1, 0, 1, 0, 1, 1, 0, 0] B6) = l} := by
  apply Subtype.mk
  dsimp only [opsOf, cAt, kids, B6, bodyOf, Try.f6, List.getD, List.getElem?_cons_zero, List.getElem?_cons_succ, Option.getD_some]
@[simp] theorem n6_31 (s : List V) (H : Heap) : evCode P Γ call n f m (cAt [1, 1, 1, 1, 1, 1, 1, 0, 1, 0, 1, 1, 0, 0] B6) s H = regNext (evOpsGo P Γ call r6_31.1 r6_31.1 s H) := at_region (by kernel_rfl) r6_31.2 s H
attribute [simp] r6_31
@[simp] theorem n6_32 (s : List V) (H : Heap) : evCode P Γ call n f m (cAt [1, 1, 1, 1, 1, 1, 1, 0, 1, 0, 1, 1, 0, 1] B6) s H = blockNext 0 (evCode P Γ call n f m (cAt [1, 1, 1, 1, 1, 1, 1, 0, 1, 0, 1, 1, 0, 1, 0] B6) s H) := at_block (by kernel_rfl) rfl s H
@[simp] theorem n6_33 (s : List V) (H : Heap) : evCode P Γ call n f m (cAt [1, 1, 1, 1, 1, 1, 1, 0, 1, 0, 1, 1, 0, 1, 0] B6) s H = evLoopC P Γ call n f m (cAt [1, 1, 1, 1, 1, 1, 1, 0, 1, 0, 1, 1, 0, 1, 0, 0] B6) n s H := at_loop (by kernel_rfl) rfl s H
noncomputable abbrev L6_12 : Code := cAt [1, 1, 1, 1, 1, 1, 1, 0, 1, 0, 1, 1, 0, 1, 0, 0] B6
@[simp] theorem n6_33f : firstRegion (cAt [1, 1, 1, 1, 1, 1, 1, 0, 1, 0, 1, 1, 0, 1, 0, 0] B6) = 12 := by kernel_rfl
@[simp] theorem n6_34 (s : List V) (H : Heap) : evCode P Γ call n f m (cAt [1, 1, 1, 1, 1, 1, 1, 0, 1, 0, 1, 1, 0, 1, 0, 0] B6) s H = seqNext P Γ call n f m (cAt [1, 1, 1, 1, 1, 1, 1, 0, 1, 0, 1, 1, 0, 1, 0, 0, 1] B6) (evCode P Γ call n f m (cAt [1, 1, 1, 1, 1, 1, 1, 0, 1, 0, 1, 1, 0, 1, 0, 0, 0] B6) s H) := at_seq (by kernel_rfl) rfl rfl s H
noncomputable def r6_35 : {l : List Oper // opsOf (cAt [1, 1, 1, 1, 1, 1, 1, 0, 1, 0, 1, 1, 0, 1, 0, 0, 0] B6) = l} := by
  apply Subtype.mk
  dsimp only [opsOf, cAt, kids, B6, bodyOf, Try.f6, List.getD, List.getElem?_cons_zero, List.getElem?_cons_succ, Option.getD_some]
@[simp] theorem n6_35 (s : List V) (H : Heap) : evCode P Γ call n f m (cAt [1, 1, 1, 1, 1, 1, 1, 0, 1, 0, 1, 1, 0, 1, 0, 0, 0] B6) s H = regNext (evOpsGo P Γ call r6_35.1 r6_35.1 s H) := at_region (by kernel_rfl) r6_35.2 s H
attribute [simp] r6_35
@[simp] theorem n6_36 (s : List V) (H : Heap) : evCode P Γ call n f m (cAt [1, 1, 1, 1, 1, 1, 1, 0, 1, 0, 1, 1, 0, 1, 0, 0, 1] B6) s H = seqNext P Γ call n f m (cAt [1, 1, 1, 1, 1, 1, 1, 0, 1, 0, 1, 1, 0, 1, 0, 0, 1, 1] B6) (evCode P Γ call n f m (cAt [1, 1, 1, 1, 1, 1, 1, 0, 1, 0, 1, 1, 0, 1, 0, 0, 1, 0] B6) s H) := at_seq (by kernel_rfl) rfl rfl s H
@[simp] theorem n6_37 (s : List V) (H : Heap) : evCode P Γ call n f m (cAt [1, 1, 1, 1, 1, 1, 1, 0, 1, 0, 1, 1, 0, 1, 0, 0, 1, 0] B6) s H = condW P Γ call n f m (cAt [1, 1, 1, 1, 1, 1, 1, 0, 1, 0, 1, 1, 0, 1, 0, 0, 1, 0, 0] B6) (cAt [1, 1, 1, 1, 1, 1, 1, 0, 1, 0, 1, 1, 0, 1, 0, 0, 1, 0, 1] B6) s H (evOperand Γ s (.tmp 96)) := at_cond (by kernel_rfl) (by kernel_rfl) rfl rfl s H
@[simp] theorem n6_38 (s : List V) (H : Heap) : evCode P Γ call n f m (cAt [1, 1, 1, 1, 1, 1, 1, 0, 1, 0, 1, 1, 0, 1, 0, 0, 1, 0, 0] B6) s H = some (.normal, s, H) := at_skip (by kernel_rfl) s H
@[simp] theorem n6_39 (s : List V) (H : Heap) : evCode P Γ call n f m (cAt [1, 1, 1, 1, 1, 1, 1, 0, 1, 0, 1, 1, 0, 1, 0, 0, 1, 0, 1] B6) s H = some (.exit 0, s, H) := at_exit (by kernel_rfl) s H
@[simp] theorem n6_40 (s : List V) (H : Heap) : evCode P Γ call n f m (cAt [1, 1, 1, 1, 1, 1, 1, 0, 1, 0, 1, 1, 0, 1, 0, 0, 1, 1] B6) s H = seqNext P Γ call n f m (cAt [1, 1, 1, 1, 1, 1, 1, 0, 1, 0, 1, 1, 0, 1, 0, 0, 1, 1, 1] B6) (evCode P Γ call n f m (cAt [1, 1, 1, 1, 1, 1, 1, 0, 1, 0, 1, 1, 0, 1, 0, 0, 1, 1, 0] B6) s H) := at_seq (by kernel_rfl) rfl rfl s H
@[simp] theorem n6_41 (s : List V) (H : Heap) : evCode P Γ call n f m (cAt [1, 1, 1, 1, 1, 1, 1, 0, 1, 0, 1, 1, 0, 1, 0, 0, 1, 1, 0] B6) s H = blockNext 1 (evCode P Γ call n f m (cAt [1, 1, 1, 1, 1, 1, 1, 0, 1, 0, 1, 1, 0, 1, 0, 0, 1, 1, 0, 0] B6) s H) := at_block (by kernel_rfl) rfl s H
@[simp] theorem n6_42 (s : List V) (H : Heap) : evCode P Γ call n f m (cAt [1, 1, 1, 1, 1, 1, 1, 0, 1, 0, 1, 1, 0, 1, 0, 0, 1, 1, 0, 0] B6) s H = seqNext P Γ call n f m (cAt [1, 1, 1, 1, 1, 1, 1, 0, 1, 0, 1, 1, 0, 1, 0, 0, 1, 1, 0, 0, 1] B6) (evCode P Γ call n f m (cAt [1, 1, 1, 1, 1, 1, 1, 0, 1, 0, 1, 1, 0, 1, 0, 0, 1, 1, 0, 0, 0] B6) s H) := at_seq (by kernel_rfl) rfl rfl s H
noncomputable def r6_43 : {l : List Oper // opsOf (cAt [1, 1, 1, 1, 1, 1, 1, 0, 1, 0, 1, 1, 0, 1, 0, 0, 1, 1, 0, 0, 0] B6) = l} := by
  apply Subtype.mk
  dsimp only [opsOf, cAt, kids, B6, bodyOf, Try.f6, List.getD, List.getElem?_cons_zero, List.getElem?_cons_succ, Option.getD_some]
@[simp] theorem n6_43 (s : List V) (H : Heap) : evCode P Γ call n f m (cAt [1, 1, 1, 1, 1, 1, 1, 0, 1, 0, 1, 1, 0, 1, 0, 0, 1, 1, 0, 0, 0] B6) s H = regNext (evOpsGo P Γ call r6_43.1 r6_43.1 s H) := at_region (by kernel_rfl) r6_43.2 s H
attribute [simp] r6_43
noncomputable def r6_44 : {l : List Oper // opsOf (cAt [1, 1, 1, 1, 1, 1, 1, 0, 1, 0, 1, 1, 0, 1, 0, 0, 1, 1, 0, 0, 1] B6) = l} := by
  apply Subtype.mk
  dsimp only [opsOf, cAt, kids, B6, bodyOf, Try.f6, List.getD, List.getElem?_cons_zero, List.getElem?_cons_succ, Option.getD_some]
@[simp] theorem n6_44 (s : List V) (H : Heap) : evCode P Γ call n f m (cAt [1, 1, 1, 1, 1, 1, 1, 0, 1, 0, 1, 1, 0, 1, 0, 0, 1, 1, 0, 0, 1] B6) s H = regNext (evOpsGo P Γ call r6_44.1 r6_44.1 s H) := at_region (by kernel_rfl) r6_44.2 s H
attribute [simp] r6_44
noncomputable def r6_45 : {l : List Oper // opsOf (cAt [1, 1, 1, 1, 1, 1, 1, 0, 1, 0, 1, 1, 0, 1, 0, 0, 1, 1, 1] B6) = l} := by
  apply Subtype.mk
  dsimp only [opsOf, cAt, kids, B6, bodyOf, Try.f6, List.getD, List.getElem?_cons_zero, List.getElem?_cons_succ, Option.getD_some]
@[simp] theorem n6_45 (s : List V) (H : Heap) : evCode P Γ call n f m (cAt [1, 1, 1, 1, 1, 1, 1, 0, 1, 0, 1, 1, 0, 1, 0, 0, 1, 1, 1] B6) s H = regNext (evOpsGo P Γ call r6_45.1 r6_45.1 s H) := at_region (by kernel_rfl) r6_45.2 s H
attribute [simp] r6_45
@[simp] theorem n6_46 (s : List V) (H : Heap) : evCode P Γ call n f m (cAt [1, 1, 1, 1, 1, 1, 1, 0, 1, 0, 1, 1, 1] B6) s H = seqNext P Γ call n f m (cAt [1, 1, 1, 1, 1, 1, 1, 0, 1, 0, 1, 1, 1, 1] B6) (evCode P Γ call n f m (cAt [1, 1, 1, 1, 1, 1, 1, 0, 1, 0, 1, 1, 1, 0] B6) s H) := at_seq (by kernel_rfl) rfl rfl s H
noncomputable def r6_47 : {l : List Oper // opsOf (cAt [1, 1, 1, 1, 1, 1, 1, 0, 1, 0, 1, 1, 1, 0] B6) = l} := by
  apply Subtype.mk
  dsimp only [opsOf, cAt, kids, B6, bodyOf, Try.f6, List.getD, List.getElem?_cons_zero, List.getElem?_cons_succ, Option.getD_some]
@[simp] theorem n6_47 (s : List V) (H : Heap) : evCode P Γ call n f m (cAt [1, 1, 1, 1, 1, 1, 1, 0, 1, 0, 1, 1, 1, 0] B6) s H = regNext (evOpsGo P Γ call r6_47.1 r6_47.1 s H) := at_region (by kernel_rfl) r6_47.2 s H
attribute [simp] r6_47
@[simp] theorem n6_48 (s : List V) (H : Heap) : evCode P Γ call n f m (cAt [1, 1, 1, 1, 1, 1, 1, 0, 1, 0, 1, 1, 1, 1] B6) s H = seqNext P Γ call n f m (cAt [1, 1, 1, 1, 1, 1, 1, 0, 1, 0, 1, 1, 1, 1, 1] B6) (evCode P Γ call n f m (cAt [1, 1, 1, 1, 1, 1, 1, 0, 1, 0, 1, 1, 1, 1, 0] B6) s H) := at_seq (by kernel_rfl) rfl rfl s H
noncomputable def r6_49 : {l : List Oper // opsOf (cAt [1, 1, 1, 1, 1, 1, 1, 0, 1, 0, 1, 1, 1, 1, 0] B6) = l} := by
  apply Subtype.mk
  dsimp only [opsOf, cAt, kids, B6, bodyOf, Try.f6, List.getD, List.getElem?_cons_zero, List.getElem?_cons_succ, Option.getD_some]
@[simp] theorem n6_49 (s : List V) (H : Heap) : evCode P Γ call n f m (cAt [1, 1, 1, 1, 1, 1, 1, 0, 1, 0, 1, 1, 1, 1, 0] B6) s H = regNext (evOpsGo P Γ call r6_49.1 r6_49.1 s H) := at_region (by kernel_rfl) r6_49.2 s H
attribute [simp] r6_49
@[simp] theorem n6_50 (s : List V) (H : Heap) : evCode P Γ call n f m (cAt [1, 1, 1, 1, 1, 1, 1, 0, 1, 0, 1, 1, 1, 1, 1] B6) s H = blockNext 2 (evCode P Γ call n f m (cAt [1, 1, 1, 1, 1, 1, 1, 0, 1, 0, 1, 1, 1, 1, 1, 0] B6) s H) := at_block (by kernel_rfl) rfl s H
@[simp] theorem n6_51 (s : List V) (H : Heap) : evCode P Γ call n f m (cAt [1, 1, 1, 1, 1, 1, 1, 0, 1, 0, 1, 1, 1, 1, 1, 0] B6) s H = evLoopC P Γ call n f m (cAt [1, 1, 1, 1, 1, 1, 1, 0, 1, 0, 1, 1, 1, 1, 1, 0, 0] B6) n s H := at_loop (by kernel_rfl) rfl s H
noncomputable abbrev L6_18 : Code := cAt [1, 1, 1, 1, 1, 1, 1, 0, 1, 0, 1, 1, 1, 1, 1, 0, 0] B6
@[simp] theorem n6_51f : firstRegion (cAt [1, 1, 1, 1, 1, 1, 1, 0, 1, 0, 1, 1, 1, 1, 1, 0, 0] B6) = 18 := by kernel_rfl
@[simp] theorem n6_52 (s : List V) (H : Heap) : evCode P Γ call n f m (cAt [1, 1, 1, 1, 1, 1, 1, 0, 1, 0, 1, 1, 1, 1, 1, 0, 0] B6) s H = seqNext P Γ call n f m (cAt [1, 1, 1, 1, 1, 1, 1, 0, 1, 0, 1, 1, 1, 1, 1, 0, 0, 1] B6) (evCode P Γ call n f m (cAt [1, 1, 1, 1, 1, 1, 1, 0, 1, 0, 1, 1, 1, 1, 1, 0, 0, 0] B6) s H) := at_seq (by kernel_rfl) rfl rfl s H
noncomputable def r6_53 : {l : List Oper // opsOf (cAt [1, 1, 1, 1, 1, 1, 1, 0, 1, 0, 1, 1, 1, 1, 1, 0, 0, 0] B6) = l} := by
  apply Subtype.mk
  dsimp only [opsOf, cAt, kids, B6, bodyOf, Try.f6, List.getD, List.getElem?_cons_zero, List.getElem?_cons_succ, Option.getD_some]
@[simp] theorem n6_53 (s : List V) (H : Heap) : evCode P Γ call n f m (cAt [1, 1, 1, 1, 1, 1, 1, 0, 1, 0, 1, 1, 1, 1, 1, 0, 0, 0] B6) s H = regNext (evOpsGo P Γ call r6_53.1 r6_53.1 s H) := at_region (by kernel_rfl) r6_53.2 s H
attribute [simp] r6_53
@[simp] theorem n6_54 (s : List V) (H : Heap) : evCode P Γ call n f m (cAt [1, 1, 1, 1, 1, 1, 1, 0, 1, 0, 1, 1, 1, 1, 1, 0, 0, 1] B6) s H = seqNext P Γ call n f m (cAt [1, 1, 1, 1, 1, 1, 1, 0, 1, 0, 1, 1, 1, 1, 1, 0, 0, 1, 1] B6) (evCode P Γ call n f m (cAt [1, 1, 1, 1, 1, 1, 1, 0, 1, 0, 1, 1, 1, 1, 1, 0, 0, 1, 0] B6) s H) := at_seq (by kernel_rfl) rfl rfl s H
@[simp] theorem n6_55 (s : List V) (H : Heap) : evCode P Γ call n f m (cAt [1, 1, 1, 1, 1, 1, 1, 0, 1, 0, 1, 1, 1, 1, 1, 0, 0, 1, 0] B6) s H = condW P Γ call n f m (cAt [1, 1, 1, 1, 1, 1, 1, 0, 1, 0, 1, 1, 1, 1, 1, 0, 0, 1, 0, 0] B6) (cAt [1, 1, 1, 1, 1, 1, 1, 0, 1, 0, 1, 1, 1, 1, 1, 0, 0, 1, 0, 1] B6) s H (evOperand Γ s (.tmp 118)) := at_cond (by kernel_rfl) (by kernel_rfl) rfl rfl s H
@[simp] theorem n6_56 (s : List V) (H : Heap) : evCode P Γ call n f m (cAt [1, 1, 1, 1, 1, 1, 1, 0, 1, 0, 1, 1, 1, 1, 1, 0, 0, 1, 0, 0] B6) s H = some (.normal, s, H) := at_skip (by kernel_rfl) s H
@[simp] theorem n6_57 (s : List V) (H : Heap) : evCode P Γ call n f m (cAt [1, 1, 1, 1, 1, 1, 1, 0, 1, 0, 1, 1, 1, 1, 1, 0, 0, 1, 0, 1] B6) s H = some (.exit 2, s, H) := at_exit (by kernel_rfl) s H
@[simp] theorem n6_58 (s : List V) (H : Heap) : evCode P Γ call n f m (cAt [1, 1, 1, 1, 1, 1, 1, 0, 1, 0, 1, 1, 1, 1, 1, 0, 0, 1, 1] B6) s H = seqNext P Γ call n f m (cAt [1, 1, 1, 1, 1, 1, 1, 0, 1, 0, 1, 1, 1, 1, 1, 0, 0, 1, 1, 1] B6) (evCode P Γ call n f m (cAt [1, 1, 1, 1, 1, 1, 1, 0, 1, 0, 1, 1, 1, 1, 1, 0, 0, 1, 1, 0] B6) s H) := at_seq (by kernel_rfl) rfl rfl s H
@[simp] theorem n6_59 (s : List V) (H : Heap) : evCode P Γ call n f m (cAt [1, 1, 1, 1, 1, 1, 1, 0, 1, 0, 1, 1, 1, 1, 1, 0, 0, 1, 1, 0] B6) s H = blockNext 3 (evCode P Γ call n f m (cAt [1, 1, 1, 1, 1, 1, 1, 0, 1, 0, 1, 1, 1, 1, 1, 0, 0, 1, 1, 0, 0] B6) s H) := at_block (by kernel_rfl) rfl s H
@[simp] theorem n6_60 (s : List V) (H : Heap) : evCode P Γ call n f m (cAt [1, 1, 1, 1, 1, 1, 1, 0, 1, 0, 1, 1, 1, 1, 1, 0, 0, 1, 1, 0, 0] B6) s H = seqNext P Γ call n f m (cAt [1, 1, 1, 1, 1, 1, 1, 0, 1, 0, 1, 1, 1, 1, 1, 0, 0, 1, 1, 0, 0, 1] B6) (evCode P Γ call n f m (cAt [1, 1, 1, 1, 1, 1, 1, 0, 1, 0, 1, 1, 1, 1, 1, 0, 0, 1, 1, 0, 0, 0] B6) s H) := at_seq (by kernel_rfl) rfl rfl s H
noncomputable def r6_61 : {l : List Oper // opsOf (cAt [1, 1, 1, 1, 1, 1, 1, 0, 1, 0, 1, 1, 1, 1, 1, 0, 0, 1, 1, 0, 0, 0] B6) = l} := by
  apply Subtype.mk
  dsimp only [opsOf, cAt, kids, B6, bodyOf, Try.f6, List.getD, List.getElem?_cons_zero, List.getElem?_cons_succ, Option.getD_some]
@[simp] theorem n6_61 (s : List V) (H : Heap) : evCode P Γ call n f m (cAt [1, 1, 1, 1, 1, 1, 1, 0, 1, 0, 1, 1, 1, 1, 1, 0, 0, 1, 1, 0, 0, 0] B6) s H = regNext (evOpsGo P Γ call r6_61.1 r6_61.1 s H) := at_region (by kernel_rfl) r6_61.2 s H
attribute [simp] r6_61
noncomputable def r6_62 : {l : List Oper // opsOf (cAt [1, 1, 1, 1, 1, 1, 1, 0, 1, 0, 1, 1, 1, 1, 1, 0, 0, 1, 1, 0, 0, 1] B6) = l} := by
  apply Subtype.mk
  dsimp only [opsOf, cAt, kids, B6, bodyOf, Try.f6, List.getD, List.getElem?_cons_zero, List.getElem?_cons_succ, Option.getD_some]
@[simp] theorem n6_62 (s : List V) (H : Heap) : evCode P Γ call n f m (cAt [1, 1, 1, 1, 1, 1, 1, 0, 1, 0, 1, 1, 1, 1, 1, 0, 0, 1, 1, 0, 0, 1] B6) s H = regNext (drawR P Γ call r6_62.1 [([], []), ([], []), ([3, 4, 7, 8, 9, 10, 11, 13, 14], [124, 125, 128, 129, 130, 131, 132, 134, 135]), ([2, 7, 8, 9, 10, 11, 13, 14], [123, 128, 129, 130, 131, 132, 134, 135]), ([2, 7, 8, 9, 10, 11, 13, 14], [123, 128, 129, 130, 131, 132, 134, 135]), ([7, 8, 9, 10, 11, 13, 14], [128, 129, 130, 131, 132, 134, 135]), ([7, 8, 9, 10, 11, 13, 14], [128, 129, 130, 131, 132, 134, 135]), ([2, 3, 4, 5, 6, 8, 9, 13, 14], [123, 124, 125, 126, 127, 129, 130, 134, 135]), ([2, 3, 4, 5, 6, 7, 13, 14], [123, 124, 125, 126, 127, 128, 134, 135]), ([2, 3, 4, 5, 6, 7, 13, 14], [123, 124, 125, 126, 127, 128, 134, 135]), ([2, 3, 4, 5, 6, 13, 14], [123, 124, 125, 126, 127, 134, 135]), ([2, 3, 4, 5, 6, 13, 14], [123, 124, 125, 126, 127, 134, 135]), ([13, 14], [134, 135]), ([2, 3, 4, 5, 6, 7, 8, 9, 10, 11, 12], [123, 124, 125, 126, 127, 128, 129, 130, 131, 132, 133]), ([2, 3, 4, 5, 6, 7, 8, 9, 10, 11, 12], [123, 124, 125, 126, 127, 128, 129, 130, 131, 132, 133]), ([], []), ([], []), ([], [])] s H) := at_drawT (by kernel_rfl) r6_62.2 (by kernel_rfl) s H
attribute [simp] r6_62
noncomputable def r6_63 : {l : List Oper // opsOf (cAt [1, 1, 1, 1, 1, 1, 1, 0, 1, 0, 1, 1, 1, 1, 1, 0, 0, 1, 1, 1] B6) = l} := by
  apply Subtype.mk
  dsimp only [opsOf, cAt, kids, B6, bodyOf, Try.f6, List.getD, List.getElem?_cons_zero, List.getElem?_cons_succ, Option.getD_some]
@[simp] theorem n6_63 (s : List V) (H : Heap) : evCode P Γ call n f m (cAt [1, 1, 1, 1, 1, 1, 1, 0, 1, 0, 1, 1, 1, 1, 1, 0, 0, 1, 1, 1] B6) s H = regNext (evOpsGo P Γ call r6_63.1 r6_63.1 s H) := at_region (by kernel_rfl) r6_63.2 s H
attribute [simp] r6_63
@[simp] theorem n6_64 (s : List V) (H : Heap) : evCode P Γ call n f m (cAt [1, 1, 1, 1, 1, 1, 1, 0, 1, 1] B6) s H = some (.normal, s, H) := at_skip (by kernel_rfl) s H
@[simp] theorem n6_65 (s : List V) (H : Heap) : evCode P Γ call n f m (cAt [1, 1, 1, 1, 1, 1, 1, 1] B6) s H = seqNext P Γ call n f m (cAt [1, 1, 1, 1, 1, 1, 1, 1, 1] B6) (evCode P Γ call n f m (cAt [1, 1, 1, 1, 1, 1, 1, 1, 0] B6) s H) := at_seq (by kernel_rfl) rfl rfl s H
@[simp] theorem n6_66 (s : List V) (H : Heap) : evCode P Γ call n f m (cAt [1, 1, 1, 1, 1, 1, 1, 1, 0] B6) s H = seqNext P Γ call n f m (cAt [1, 1, 1, 1, 1, 1, 1, 1, 0, 1] B6) (evCode P Γ call n f m (cAt [1, 1, 1, 1, 1, 1, 1, 1, 0, 0] B6) s H) := at_seq (by kernel_rfl) rfl rfl s H
noncomputable def r6_67 : {l : List Oper // opsOf (cAt [1, 1, 1, 1, 1, 1, 1, 1, 0, 0] B6) = l} := by
  apply Subtype.mk
  dsimp only [opsOf, cAt, kids, B6, bodyOf, Try.f6, List.getD, List.getElem?_cons_zero, List.getElem?_cons_succ, Option.getD_some]
@[simp] theorem n6_67 (s : List V) (H : Heap) : evCode P Γ call n f m (cAt [1, 1, 1, 1, 1, 1, 1, 1, 0, 0] B6) s H = regNext (evOpsGo P Γ call r6_67.1 r6_67.1 s H) := at_region (by kernel_rfl) r6_67.2 s H
attribute [simp] r6_67
@[simp] theorem n6_68 (s : List V) (H : Heap) : evCode P Γ call n f m (cAt [1, 1, 1, 1, 1, 1, 1, 1, 0, 1] B6) s H = condW P Γ call n f m (cAt [1, 1, 1, 1, 1, 1, 1, 1, 0, 1, 0] B6) (cAt [1, 1, 1, 1, 1, 1, 1, 1, 0, 1, 1] B6) s H (evOperand Γ s (.tmp 146)) := at_cond (by kernel_rfl) (by kernel_rfl) rfl rfl s H
@[simp] theorem n6_69 (s : List V) (H : Heap) : evCode P Γ call n f m (cAt [1, 1, 1, 1, 1, 1, 1, 1, 0, 1, 0] B6) s H = seqNext P Γ call n f m (cAt [1, 1, 1, 1, 1, 1, 1, 1, 0, 1, 0, 1] B6) (evCode P Γ call n f m (cAt [1, 1, 1, 1, 1, 1, 1, 1, 0, 1, 0, 0] B6) s H) := at_seq (by kernel_rfl) rfl rfl s H
noncomputable def r6_70 : {l : List Oper // opsOf (cAt [1, 1, 1, 1, 1, 1, 1, 1, 0, 1, 0, 0] B6) = l} := by
  apply Subtype.mk
  dsimp only [opsOf, cAt, kids, B6, bodyOf, Try.f6, List.getD, List.getElem?_cons_zero, List.getElem?_cons_succ, Option.getD_some]
@[simp] theorem n6_70 (s : List V) (H : Heap) : evCode P Γ call n f m (cAt [1, 1, 1, 1, 1, 1, 1, 1, 0, 1, 0, 0] B6) s H = regNext (evOpsGo P Γ call r6_70.1 r6_70.1 s H) := at_region (by kernel_rfl) r6_70.2 s H
attribute [simp] r6_70
@[simp] theorem n6_71 (s : List V) (H : Heap) : evCode P Γ call n f m (cAt [1, 1, 1, 1, 1, 1, 1, 1, 0, 1, 0, 1] B6) s H = some (.ret, s, H) := at_ret (by kernel_rfl) s H
@[simp] theorem n6_72 (s : List V) (H : Heap) : evCode P Γ call n f m (cAt [1, 1, 1, 1, 1, 1, 1, 1, 0, 1, 1] B6) s H = some (.normal, s, H) := at_skip (by kernel_rfl) s H
@[simp] theorem n6_73 (s : List V) (H : Heap) : evCode P Γ call n f m (cAt [1, 1, 1, 1, 1, 1, 1, 1, 1] B6) s H = seqNext P Γ call n f m (cAt [1, 1, 1, 1, 1, 1, 1, 1, 1, 1] B6) (evCode P Γ call n f m (cAt [1, 1, 1, 1, 1, 1, 1, 1, 1, 0] B6) s H) := at_seq (by kernel_rfl) rfl rfl s H
noncomputable def r6_74 : {l : List Oper // opsOf (cAt [1, 1, 1, 1, 1, 1, 1, 1, 1, 0] B6) = l} := by
  apply Subtype.mk
  dsimp only [opsOf, cAt, kids, B6, bodyOf, Try.f6, List.getD, List.getElem?_cons_zero, List.getElem?_cons_succ, Option.getD_some]
@[simp] theorem n6_74 (s : List V) (H : Heap) : evCode P Γ call n f m (cAt [1, 1, 1, 1, 1, 1, 1, 1, 1, 0] B6) s H = regNext (evOpsGo P Γ call r6_74.1 r6_74.1 s H) := at_region (by kernel_rfl) r6_74.2 s H
attribute [simp] r6_74
@[simp] theorem n6_75 (s : List V) (H : Heap) : evCode P Γ call n f m (cAt [1, 1, 1, 1, 1, 1, 1, 1, 1, 1] B6) s H = seqNext P Γ call n f m (cAt [1, 1, 1, 1, 1, 1, 1, 1, 1, 1, 1] B6) (evCode P Γ call n f m (cAt [1, 1, 1, 1, 1, 1, 1, 1, 1, 1, 0] B6) s H) := at_seq (by kernel_rfl) rfl rfl s H
@[simp] theorem n6_76 (s : List V) (H : Heap) : evCode P Γ call n f m (cAt [1, 1, 1, 1, 1, 1, 1, 1, 1, 1, 0] B6) s H = blockNext 4 (evCode P Γ call n f m (cAt [1, 1, 1, 1, 1, 1, 1, 1, 1, 1, 0, 0] B6) s H) := at_block (by kernel_rfl) rfl s H
@[simp] theorem n6_77 (s : List V) (H : Heap) : evCode P Γ call n f m (cAt [1, 1, 1, 1, 1, 1, 1, 1, 1, 1, 0, 0] B6) s H = seqNext P Γ call n f m (cAt [1, 1, 1, 1, 1, 1, 1, 1, 1, 1, 0, 0, 1] B6) (evCode P Γ call n f m (cAt [1, 1, 1, 1, 1, 1, 1, 1, 1, 1, 0, 0, 0] B6) s H) := at_seq (by kernel_rfl) rfl rfl s H
noncomputable def r6_78 : {l : List Oper // opsOf (cAt [1, 1, 1, 1, 1, 1, 1, 1, 1, 1, 0, 0, 0] B6) = l} := by
  apply Subtype.mk
  dsimp only [opsOf, cAt, kids, B6, bodyOf, Try.f6, List.getD, List.getElem?_cons_zero, List.getElem?_cons_succ, Option.getD_some]
@[simp] theorem n6_78 (s : List V) (H : Heap) : evCode P Γ call n f m (cAt [1, 1, 1, 1, 1, 1, 1, 1, 1, 1, 0, 0, 0] B6) s H = regNext (evOpsGo P Γ call r6_78.1 r6_78.1 s H) := at_region (by kernel_rfl) r6_78.2 s H
attribute [simp] r6_78
@[simp] theorem n6_79 (s : List V) (H : Heap) : evCode P Γ call n f m (cAt [1, 1, 1, 1, 1, 1, 1, 1, 1, 1, 0, 0, 1] B6) s H = condW P Γ call n f m (cAt [1, 1, 1, 1, 1, 1, 1, 1, 1, 1, 0, 0, 1, 0] B6) (cAt [1, 1, 1, 1, 1, 1, 1, 1, 1, 1, 0, 0, 1, 1] B6) s H (evOperand Γ s (.tmp 153)) := at_cond (by kernel_rfl) (by kernel_rfl) rfl rfl s H
@[simp] theorem n6_80 (s : List V) (H : Heap) : evCode P Γ call n f m (cAt [1, 1, 1, 1, 1, 1, 1, 1, 1, 1, 0, 0, 1, 0] B6) s H = seqNext P Γ call n f m (cAt [1, 1, 1, 1, 1, 1, 1, 1, 1, 1, 0, 0, 1, 0, 1] B6) (evCode P Γ call n f m (cAt [1, 1, 1, 1, 1, 1, 1, 1, 1, 1, 0, 0, 1, 0, 0] B6) s H) := at_seq (by kernel_rfl) rfl rfl s H
noncomputable def r6_81 : {l : List Oper // opsOf (cAt [1, 1, 1, 1, 1, 1, 1, 1, 1, 1, 0, 0, 1, 0, 0] B6) = l} := by
  apply Subtype.mk
  dsimp only [opsOf, cAt, kids, B6, bodyOf, Try.f6, List.getD, List.getElem?_cons_zero, List.getElem?_cons_succ, Option.getD_some]
@[simp] theorem n6_81 (s : List V) (H : Heap) : evCode P Γ call n f m (cAt [1, 1, 1, 1, 1, 1, 1, 1, 1, 1, 0, 0, 1, 0, 0] B6) s H = regNext (evOpsGo P Γ call r6_81.1 r6_81.1 s H) := at_region (by kernel_rfl) r6_81.2 s H
attribute [simp] r6_81
@[simp] theorem n6_82 (s : List V) (H : Heap) : evCode P Γ call n f m (cAt [1, 1, 1, 1, 1, 1, 1, 1, 1, 1, 0, 0, 1, 0, 1] B6) s H = some (.ret, s, H) := at_ret (by kernel_rfl) s H
@[simp] theorem n6_83 (s : List V) (H : Heap) : evCode P Γ call n f m (cAt [1, 1, 1, 1, 1, 1, 1, 1, 1, 1, 0, 0, 1, 1] B6) s H = seqNext P Γ call n f m (cAt [1, 1, 1, 1, 1, 1, 1, 1, 1, 1, 0, 0, 1, 1, 1] B6) (evCode P Γ call n f m (cAt [1, 1, 1, 1, 1, 1, 1, 1, 1, 1, 0, 0, 1, 1, 0] B6) s H) := at_seq (by kernel_rfl) rfl rfl s H
noncomputable def r6_84 : {l : List Oper // opsOf (cAt [1, 1, 1, 1, 1, 1, 1, 1, 1, 1, 0, 0, 1, 1, 0] B6) = l} := by
  apply Subtype.mk
  dsimp only [opsOf, cAt, kids, B6, bodyOf, Try.f6, List.getD, List.getElem?_cons_zero, List.getElem?_cons_succ, Option.getD_some]
@[simp] theorem n6_84 (s : List V) (H : Heap) : evCode P Γ call n f m (cAt [1, 1, 1, 1, 1, 1, 1, 1, 1, 1, 0, 0, 1, 1, 0] B6) s H = regNext (evOpsGo P Γ call r6_84.1 r6_84.1 s H) := at_region (by kernel_rfl) r6_84.2 s H
attribute [simp] r6_84
@[simp] theorem n6_85 (s : List V) (H : Heap) : evCode P Γ call n f m (cAt [1, 1, 1, 1, 1, 1, 1, 1, 1, 1, 0, 0, 1, 1, 1] B6) s H = condW P Γ call n f m (cAt [1, 1, 1, 1, 1, 1, 1, 1, 1, 1, 0, 0, 1, 1, 1, 0] B6) (cAt [1, 1, 1, 1, 1, 1, 1, 1, 1, 1, 0, 0, 1, 1, 1, 1] B6) s H (evOperand Γ s (.tmp 178)) := at_cond (by kernel_rfl) (by kernel_rfl) rfl rfl s H
@[simp] theorem n6_86 (s : List V) (H : Heap) : evCode P Γ call n f m (cAt [1, 1, 1, 1, 1, 1, 1, 1, 1, 1, 0, 0, 1, 1, 1, 0] B6) s H = seqNext P Γ call n f m (cAt [1, 1, 1, 1, 1, 1, 1, 1, 1, 1, 0, 0, 1, 1, 1, 0, 1] B6) (evCode P Γ call n f m (cAt [1, 1, 1, 1, 1, 1, 1, 1, 1, 1, 0, 0, 1, 1, 1, 0, 0] B6) s H) := at_seq (by kernel_rfl) rfl rfl s H
noncomputable def r6_87 : {l : List Oper // opsOf (cAt [1, 1, 1, 1, 1, 1, 1, 1, 1, 1, 0, 0, 1, 1, 1, 0, 0] B6) = l} := by
  apply Subtype.mk
  dsimp only [opsOf, cAt, kids, B6, bodyOf, Try.f6, List.getD, List.getElem?_cons_zero, List.getElem?_cons_succ, Option.getD_some]
@[simp] theorem n6_87 (s : List V) (H : Heap) : evCode P Γ call n f m (cAt [1, 1, 1, 1, 1, 1, 1, 1, 1, 1, 0, 0, 1, 1, 1, 0, 0] B6) s H = regNext (evOpsGo P Γ call r6_87.1 r6_87.1 s H) := at_region (by kernel_rfl) r6_87.2 s H
attribute [simp] r6_87
@[simp] theorem n6_88 (s : List V) (H : Heap) : evCode P Γ call n f m (cAt [1, 1, 1, 1, 1, 1, 1, 1, 1, 1, 0, 0, 1, 1, 1, 0, 1] B6) s H = some (.ret, s, H) := at_ret (by kernel_rfl) s H
@[simp] theorem n6_89 (s : List V) (H : Heap) : evCode P Γ call n f m (cAt [1, 1, 1, 1, 1, 1, 1, 1, 1, 1, 0, 0, 1, 1, 1, 1] B6) s H = some (.normal, s, H) := at_skip (by kernel_rfl) s H
@[simp] theorem n6_90 (s : List V) (H : Heap) : evCode P Γ call n f m (cAt [1, 1, 1, 1, 1, 1, 1, 1, 1, 1, 1] B6) s H = seqNext P Γ call n f m (cAt [1, 1, 1, 1, 1, 1, 1, 1, 1, 1, 1, 1] B6) (evCode P Γ call n f m (cAt [1, 1, 1, 1, 1, 1, 1, 1, 1, 1, 1, 0] B6) s H) := at_seq (by kernel_rfl) rfl rfl s H
noncomputable def r6_91 : {l : List Oper // opsOf (cAt [1, 1, 1, 1, 1, 1, 1, 1, 1, 1, 1, 0] B6) = l} := by
  apply Subtype.mk
  dsimp only [opsOf, cAt, kids, B6, bodyOf, Try.f6, List.getD, List.getElem?_cons_zero, List.getElem?_cons_succ, Option.getD_some]
@[simp] theorem n6_91 (s : List V) (H : Heap) : evCode P Γ call n f m (cAt [1, 1, 1, 1, 1, 1, 1, 1, 1, 1, 1, 0] B6) s H = regNext (evOpsGo P Γ call r6_91.1 r6_91.1 s H) := at_region (by kernel_rfl) r6_91.2 s H
attribute [simp] r6_91
@[simp] theorem n6_92 (s : List V) (H : Heap) : evCode P Γ call n f m (cAt [1, 1, 1, 1, 1, 1, 1, 1, 1, 1, 1, 1] B6) s H = some (.ret, s, H) := at_ret (by kernel_rfl) s H
theorem b6 {k : Nat} (ho : ∀ args H, Γ.orc 6 args H = none) (args : List V) (H : Heap) (ha : args.length ≤ 198) : evF Try.prog Γ (k + 1) 6 args H = bodyEnd Try.prog [.tmp 12] H.length (evCode Try.prog Γ (evF Try.prog Γ k) k 6 H.length (cAt [] B6) (mkL 198 V.undef (enumV 0 args)) H) := body_at Try.func6 (by decide) rfl ho rfl rfl args H ha
noncomputable def B19 : Code := bodyOf Try.f19
@[simp] theorem n19_1 (s : List V) (H : Heap) : evCode P Γ call n f m (cAt [] B19) s H = seqNext P Γ call n f m (cAt [1] B19) (evCode P Γ call n f m (cAt [0] B19) s H) := at_seq (by kernel_rfl) rfl rfl s H
noncomputable def r19_2 : {l : List Oper // opsOf (cAt [0] B19) = l} := by
  apply Subtype.mk
  dsimp only [opsOf, cAt, kids, B19, bodyOf, Try.f19, List.getD, List.getElem?_cons_zero, List.getElem?_cons_succ, Option.getD_some]
@[simp] theorem n19_2 (s : List V) (H : Heap) : evCode P Γ call n f m (cAt [0] B19) s H = regNext (evOpsGo P Γ call r19_2.1 r19_2.1 s H) := at_region (by kernel_rfl) r19_2.2 s H
attribute [simp] r19_2
@[simp] theorem n19_3 (s : List V) (H : Heap) : evCode P Γ call n f m (cAt [1] B19) s H = seqNext P Γ call n f m (cAt [1, 1] B19) (evCode P Γ call n f m (cAt [1, 0] B19) s H) := at_seq (by kernel_rfl) rfl rfl s H
@[simp] theorem n19_4 (s : List V) (H : Heap) : evCode P Γ call n f m (cAt [1, 0] B19) s H = seqNext P Γ call n f m (cAt [1, 0, 1] B19) (evCode P Γ call n f m (cAt [1, 0, 0] B19) s H) := at_seq (by kernel_rfl) rfl rfl s H
noncomputable def r19_5 : {l : List Oper // opsOf (cAt [1, 0, 0] B19) = l} := by
  apply Subtype.mk
  dsimp only [opsOf, cAt, kids, B19, bodyOf, Try.f19, List.getD, List.getElem?_cons_zero, List.getElem?_cons_succ, Option.getD_some]
@[simp] theorem n19_5 (s : List V) (H : Heap) : evCode P Γ call n f m (cAt [1, 0, 0] B19) s H = regNext (evOpsGo P Γ call r19_5.1 r19_5.1 s H) := at_region (by kernel_rfl) r19_5.2 s H
attribute [simp] r19_5
@[simp] theorem n19_6 (s : List V) (H : Heap) : evCode P Γ call n f m (cAt [1, 0, 1] B19) s H = seqNext P Γ call n f m (cAt [1, 0, 1, 1] B19) (evCode P Γ call n f m (cAt [1, 0, 1, 0] B19) s H) := at_seq (by kernel_rfl) rfl rfl s H
noncomputable def r19_7 : {l : List Oper // opsOf (cAt [1, 0, 1, 0] B19) = l} := by
  apply Subtype.mk
  dsimp only [opsOf, cAt, kids, B19, bodyOf, Try.f19, List.getD, List.getElem?_cons_zero, List.getElem?_cons_succ, Option.getD_some]
@[simp] theorem n19_7 (s : List V) (H : Heap) : evCode P Γ call n f m (cAt [1, 0, 1, 0] B19) s H = regNext (evOpsGo P Γ call r19_7.1 r19_7.1 s H) := at_region (by kernel_rfl) r19_7.2 s H
attribute [simp] r19_7
@[simp] theorem n19_8 (s : List V) (H : Heap) : evCode P Γ call n f m (cAt [1, 0, 1, 1] B19) s H = condW P Γ call n f m (cAt [1, 0, 1, 1, 0] B19) (cAt [1, 0, 1, 1, 1] B19) s H (evOperand Γ s (.tmp 13)) := at_cond (by kernel_rfl) (by kernel_rfl) rfl rfl s H
@[simp] theorem n19_9 (s : List V) (H : Heap) : evCode P Γ call n f m (cAt [1, 0, 1, 1, 0] B19) s H = seqNext P Γ call n f m (cAt [1, 0, 1, 1, 0, 1] B19) (evCode P Γ call n f m (cAt [1, 0, 1, 1, 0, 0] B19) s H) := at_seq (by kernel_rfl) rfl rfl s H
noncomputable def r19_10 : {l : List Oper // opsOf (cAt [1, 0, 1, 1, 0, 0] B19) = l} := by
  apply Subtype.mk
  dsimp only [opsOf, cAt, kids, B19, bodyOf, Try.f19, List.getD, List.getElem?_cons_zero, List.getElem?_cons_succ, Option.getD_some]
@[simp] theorem n19_10 (s : List V) (H : Heap) : evCode P Γ call n f m (cAt [1, 0, 1, 1, 0, 0] B19) s H = regNext (evOpsGo P Γ call r19_10.1 r19_10.1 s H) := at_region (by kernel_rfl) r19_10.2 s H
attribute [simp] r19_10
@[simp] theorem n19_11 (s : List V) (H : Heap) : evCode P Γ call n f m (cAt [1, 0, 1, 1, 0, 1] B19) s H = some (.ret, s, H) := at_ret (by kernel_rfl) s H
@[simp] theorem n19_12 (s : List V) (H : Heap) : evCode P Γ call n f m (cAt [1, 0, 1, 1, 1] B19) s H = some (.normal, s, H) := at_skip (by kernel_rfl) s H
@[simp] theorem n19_13 (s : List V) (H : Heap) : evCode P Γ call n f m (cAt [1, 1] B19) s H = seqNext P Γ call n f m (cAt [1, 1, 1] B19) (evCode P Γ call n f m (cAt [1, 1, 0] B19) s H) := at_seq (by kernel_rfl) rfl rfl s H
noncomputable def r19_14 : {l : List Oper // opsOf (cAt [1, 1, 0] B19) = l} := by
  apply Subtype.mk
  dsimp only [opsOf, cAt, kids, B19, bodyOf, Try.f19, List.getD, List.getElem?_cons_zero, List.getElem?_cons_succ, Option.getD_some]
@[simp] theorem n19_14 (s : List V) (H : Heap) : evCode P Γ call n f m (cAt [1, 1, 0] B19) s H = regNext (evOpsGo P Γ call r19_14.1 r19_14.1 s H) := at_region (by kernel_rfl) r19_14.2 s H
attribute [simp] r19_14
@[simp] theorem n19_15 (s : List V) (H : Heap) : evCode P Γ call n f m (cAt [1, 1, 1] B19) s H = seqNext P Γ call n f m (cAt [1, 1, 1, 1] B19) (evCode P Γ call n f m (cAt [1, 1, 1, 0] B19) s H) := at_seq (by kernel_rfl) rfl rfl s H
@[simp] theorem n19_16 (s : List V) (H : Heap) : evCode P Γ call n f m (cAt [1, 1, 1, 0] B19) s H = seqNext P Γ call n f m (cAt [1, 1, 1, 0, 1] B19) (evCode P Γ call n f m (cAt [1, 1, 1, 0, 0] B19) s H) := at_seq (by kernel_rfl) rfl rfl s H
noncomputable def r19_17 : {l : List Oper // opsOf (cAt [1, 1, 1, 0, 0] B19) = l} := by
  apply Subtype.mk
  dsimp only [opsOf, cAt, kids, B19, bodyOf, Try.f19, List.getD, List.getElem?_cons_zero, List.getElem?_cons_succ, Option.getD_some]
@[simp] theorem n19_17 (s : List V) (H : Heap) : evCode P Γ call n f m (cAt [1, 1, 1, 0, 0] B19) s H = regNext (evOpsGo P Γ call r19_17.1 r19_17.1 s H) := at_region (by kernel_rfl) r19_17.2 s H
attribute [simp] r19_17
@[simp] theorem n19_18 (s : List V) (H : Heap) : evCode P Γ call n f m (cAt [1, 1, 1, 0, 1] B19) s H = condW P Γ call n f m (cAt [1, 1, 1, 0, 1, 0] B19) (cAt [1, 1, 1, 0, 1, 1] B19) s H (evOperand Γ s (.tmp 22)) := at_cond (by kernel_rfl) (by kernel_rfl) rfl rfl s H
@[simp] theorem n19_19 (s : List V) (H : Heap) : evCode P Γ call n f m (cAt [1, 1, 1, 0, 1, 0] B19) s H = seqNext P Γ call n f m (cAt [1, 1, 1, 0, 1, 0, 1] B19) (evCode P Γ call n f m (cAt [1, 1, 1, 0, 1, 0, 0] B19) s H) := at_seq (by kernel_rfl) rfl rfl s H
noncomputable def r19_20 : {l : List Oper // opsOf (cAt [1, 1, 1, 0, 1, 0, 0] B19) = l} := by
  apply Subtype.mk
  dsimp only [opsOf, cAt, kids, B19, bodyOf, Try.f19, List.getD, List.getElem?_cons_zero, List.getElem?_cons_succ, Option.getD_some]
@[simp] theorem n19_20 (s : List V) (H : Heap) : evCode P Γ call n f m (cAt [1, 1, 1, 0, 1, 0, 0] B19) s H = regNext (evOpsGo P Γ call r19_20.1 r19_20.1 s H) := at_region (by kernel_rfl) r19_20.2 s H
attribute [simp] r19_20
@[simp] theorem n19_21 (s : List V) (H : Heap) : evCode P Γ call n f m (cAt [1, 1, 1, 0, 1, 0, 1] B19) s H = some (.ret, s, H) := at_ret (by kernel_rfl) s H
@[simp] theorem n19_22 (s : List V) (H : Heap) : evCode P Γ call n f m (cAt [1, 1, 1, 0, 1, 1] B19) s H = some (.normal, s, H) := at_skip (by kernel_rfl) s H
@[simp] theorem n19_23 (s : List V) (H : Heap) : evCode P Γ call n f m (cAt [1, 1, 1, 1] B19) s H = seqNext P Γ call n f m (cAt [1, 1, 1, 1, 1] B19) (evCode P Γ call n f m (cAt [1, 1, 1, 1, 0] B19) s H) := at_seq (by kernel_rfl) rfl rfl s H
noncomputable def r19_24 : {l : List Oper // opsOf (cAt [1, 1, 1, 1, 0] B19) = l} := by
  apply Subtype.mk
  dsimp only [opsOf, cAt, kids, B19, bodyOf, Try.f19, List.getD, List.getElem?_cons_zero, List.getElem?_cons_succ, Option.getD_some]
@[simp] theorem n19_24 (s : List V) (H : Heap) : evCode P Γ call n f m (cAt [1, 1, 1, 1, 0] B19) s H = regNext (evOpsGo P Γ call r19_24.1 r19_24.1 s H) := at_region (by kernel_rfl) r19_24.2 s H
attribute [simp] r19_24
@[simp] theorem n19_25 (s : List V) (H : Heap) : evCode P Γ call n f m (cAt [1, 1, 1, 1, 1] B19) s H = some (.ret, s, H) := at_ret (by kernel_rfl) s H
theorem b19 {k : Nat} (ho : ∀ args H, Γ.orc 19 args H = none) (args : List V) (H : Heap) (ha : args.length ≤ 28) : evF Try.prog Γ (k + 1) 19 args H = bodyEnd Try.prog [.tmp 4, .tmp 5] H.length (evCode Try.prog Γ (evF Try.prog Γ k) k 19 H.length (cAt [] B19) (mkL 28 V.undef (enumV 0 args)) H) := body_at Try.func19 (by decide) rfl ho rfl rfl args H ha
noncomputable def B20 : Code := bodyOf Try.f20
@[simp] theorem n20_1 (s : List V) (H : Heap) : evCode P Γ call n f m (cAt [] B20) s H = seqNext P Γ call n f m (cAt [1] B20) (evCode P Γ call n f m (cAt [0] B20) s H) := at_seq (by kernel_rfl) rfl rfl s H
noncomputable def r20_2 : {l : List Oper // opsOf (cAt [0] B20) = l} := by
  apply Subtype.mk
  dsimp only [opsOf, cAt, kids, B20, bodyOf, Try.f20, List.getD, List.getElem?_cons_zero, List.getElem?_cons_succ, Option.getD_some]
@[simp] theorem n20_2 (s : List V) (H : Heap) : evCode P Γ call n f m (cAt [0] B20) s H = regNext (evOpsGo P Γ call r20_2.1 r20_2.1 s H) := at_region (by kernel_rfl) r20_2.2 s H
attribute [simp] r20_2
@[simp] theorem n20_3 (s : List V) (H : Heap) : evCode P Γ call n f m (cAt [1] B20) s H = seqNext P Γ call n f m (cAt [1, 1] B20) (evCode P Γ call n f m (cAt [1, 0] B20) s H) := at_seq (by kernel_rfl) rfl rfl s H
noncomputable def r20_4 : {l : List Oper // opsOf (cAt [1, 0] B20) = l} := by
  apply Subtype.mk
  dsimp only [opsOf, cAt, kids, B20, bodyOf, Try.f20, List.getD, List.getElem?_cons_zero, List.getElem?_cons_succ, Option.getD_some]
@[simp] theorem n20_4 (s : List V) (H : Heap) : evCode P Γ call n f m (cAt [1, 0] B20) s H = regNext (evOpsGo P Γ call r20_4.1 r20_4.1 s H) := at_region (by kernel_rfl) r20_4.2 s H
attribute [simp] r20_4
@[simp] theorem n20_5 (s : List V) (H : Heap) : evCode P Γ call n f m (cAt [1, 1] B20) s H = seqNext P Γ call n f m (cAt [1, 1, 1] B20) (evCode P Γ call n f m (cAt [1, 1, 0] B20) s H) := at_seq (by kernel_rfl) rfl rfl s H
@[simp] theorem n20_6 (s : List V) (H : Heap) : evCode P Γ call n f m (cAt [1, 1, 0] B20) s H = seqNext P Γ call n f m (cAt [1, 1, 0, 1] B20) (evCode P Γ call n f m (cAt [1, 1, 0, 0] B20) s H) := at_seq (by kernel_rfl) rfl rfl s H
noncomputable def r20_7 : {l : List Oper // opsOf (cAt [1, 1, 0, 0] B20) = l} := by
  apply Subtype.mk
  dsimp only [opsOf, cAt, kids, B20, bodyOf, Try.f20, List.getD, List.getElem?_cons_zero, List.getElem?_cons_succ, Option.getD_some]
@[simp] theorem n20_7 (s : List V) (H : Heap) : evCode P Γ call n f m (cAt [1, 1, 0, 0] B20) s H = regNext (evOpsGo P Γ call r20_7.1 r20_7.1 s H) := at_region (by kernel_rfl) r20_7.2 s H
attribute [simp] r20_7
@[simp] theorem n20_8 (s : List V) (H : Heap) : evCode P Γ call n f m (cAt [1, 1, 0, 1] B20) s H = condW P Γ call n f m (cAt [1, 1, 0, 1, 0] B20) (cAt [1, 1, 0, 1, 1] B20) s H (evOperand Γ s (.tmp 23)) := at_cond (by kernel_rfl) (by kernel_rfl) rfl rfl s H
@[simp] theorem n20_9 (s : List V) (H : Heap) : evCode P Γ call n f m (cAt [1, 1, 0, 1, 0] B20) s H = seqNext P Γ call n f m (cAt [1, 1, 0, 1, 0, 1] B20) (evCode P Γ call n f m (cAt [1, 1, 0, 1, 0, 0] B20) s H) := at_seq (by kernel_rfl) rfl rfl s H
noncomputable def r20_10 : {l : List Oper // opsOf (cAt [1, 1, 0, 1, 0, 0] B20) = l} := by
  apply Subtype.mk
  dsimp only [opsOf, cAt, kids, B20, bodyOf, Try.f20, List.getD, List.getElem?_cons_zero, List.getElem?_cons_succ, Option.getD_some]
@[simp] theorem n20_10 (s : List V) (H : Heap) : evCode P Γ call n f m (cAt [1, 1, 0, 1, 0, 0] B20) s H = regNext (evOpsGo P Γ call r20_10.1 r20_10.1 s H) := at_region (by kernel_rfl) r20_10.2 s H
attribute [simp] r20_10
@[simp] theorem n20_11 (s : List V) (H : Heap) : evCode P Γ call n f m (cAt [1, 1, 0, 1, 0, 1] B20) s H = some (.ret, s, H) := at_ret (by kernel_rfl) s H
@[simp] theorem n20_12 (s : List V) (H : Heap) : evCode P Γ call n f m (cAt [1, 1, 0, 1, 1] B20) s H = some (.normal, s, H) := at_skip (by kernel_rfl) s H
@[simp] theorem n20_13 (s : List V) (H : Heap) : evCode P Γ call n f m (cAt [1, 1, 1] B20) s H = seqNext P Γ call n f m (cAt [1, 1, 1, 1] B20) (evCode P Γ call n f m (cAt [1, 1, 1, 0] B20) s H) := at_seq (by kernel_rfl) rfl rfl s H
noncomputable def r20_14 : {l : List Oper // opsOf (cAt [1, 1, 1, 0] B20) = l} := by
  apply Subtype.mk
  dsimp only [opsOf, cAt, kids, B20, bodyOf, Try.f20, List.getD, List.getElem?_cons_zero, List.getElem?_cons_succ, Option.getD_some]
@[simp] theorem n20_14 (s : List V) (H : Heap) : evCode P Γ call n f m (cAt [1, 1, 1, 0] B20) s H = regNext (evOpsGo P Γ call r20_14.1 r20_14.1 s H) := at_region (by kernel_rfl) r20_14.2 s H
attribute [simp] r20_14
@[simp] theorem n20_15 (s : List V) (H : Heap) : evCode P Γ call n f m (cAt [1, 1, 1, 1] B20) s H = seqNext P Γ call n f m (cAt [1, 1, 1, 1, 1] B20) (evCode P Γ call n f m (cAt [1, 1, 1, 1, 0] B20) s H) := at_seq (by kernel_rfl) rfl rfl s H
@[simp] theorem n20_16 (s : List V) (H : Heap) : evCode P Γ call n f m (cAt [1, 1, 1, 1, 0] B20) s H = seqNext P Γ call n f m (cAt [1, 1, 1, 1, 0, 1] B20) (evCode P Γ call n f m (cAt [1, 1, 1, 1, 0, 0] B20) s H) := at_seq (by kernel_rfl) rfl rfl s H
noncomputable def r20_17 : {l : List Oper // opsOf (cAt [1, 1, 1, 1, 0, 0] B20) = l} := by
  apply Subtype.mk
  dsimp only [opsOf, cAt, kids, B20, bodyOf, Try.f20, List.getD, List.getElem?_cons_zero, List.getElem?_cons_succ, Option.getD_some]
@[simp] theorem n20_17 (s : List V) (H : Heap) : evCode P Γ call n f m (cAt [1, 1, 1, 1, 0, 0] B20) s H = regNext (evOpsGo P Γ call r20_17.1 r20_17.1 s H) := at_region (by kernel_rfl) r20_17.2 s H
attribute [simp] r20_17
@[simp] theorem n20_18 (s : List V) (H : Heap) : evCode P Γ call n f m (cAt [1, 1, 1, 1, 0, 1] B20) s H = condW P Γ call n f m (cAt [1, 1, 1, 1, 0, 1, 0] B20) (cAt [1, 1, 1, 1, 0, 1, 1] B20) s H (evOperand Γ s (.tmp 32)) := at_cond (by kernel_rfl) (by kernel_rfl) rfl rfl s H
@[simp] theorem n20_19 (s : List V) (H : Heap) : evCode P Γ call n f m (cAt [1, 1, 1, 1, 0, 1, 0] B20) s H = seqNext P Γ call n f m (cAt [1, 1, 1, 1, 0, 1, 0, 1] B20) (evCode P Γ call n f m (cAt [1, 1, 1, 1, 0, 1, 0, 0] B20) s H) := at_seq (by kernel_rfl) rfl rfl s H
noncomputable def r20_20 : {l : List Oper // opsOf (cAt [1, 1, 1, 1, 0, 1, 0, 0] B20) = l} := by
  apply Subtype.mk
  dsimp only [opsOf, cAt, kids, B20, bodyOf, Try.f20, List.getD, List.getElem?_cons_zero, List.getElem?_cons_succ, Option.getD_some]
@[simp] theorem n20_20 (s : List V) (H : Heap) : evCode P Γ call n f m (cAt [1, 1, 1, 1, 0, 1, 0, 0] B20) s H = regNext (evOpsGo P Γ call r20_20.1 r20_20.1 s H) := at_region (by kernel_rfl) r20_20.2 s H
attribute [simp] r20_20
@[simp] theorem n20_21 (s : List V) (H : Heap) : evCode P Γ call n f m (cAt [1, 1, 1, 1, 0, 1, 0, 1] B20) s H = some (.ret, s, H) := at_ret (by kernel_rfl) s H
@[simp] theorem n20_22 (s : List V) (H : Heap) : evCode P Γ call n f m (cAt [1, 1, 1, 1, 0, 1, 1] B20) s H = some (.normal, s, H) := at_skip (by kernel_rfl) s H
@[simp] theorem n20_23 (s : List V) (H : Heap) : evCode P Γ call n f m (cAt [1, 1, 1, 1, 1] B20) s H = seqNext P Γ call n f m (cAt [1, 1, 1, 1, 1, 1] B20) (evCode P Γ call n f m (cAt [1, 1, 1, 1, 1, 0] B20) s H) := at_seq (by kernel_rfl) rfl rfl s H
noncomputable def r20_24 : {l : List Oper // opsOf (cAt [1, 1, 1, 1, 1, 0] B20) = l} := by
  apply Subtype.mk
  dsimp only [opsOf, cAt, kids, B20, bodyOf, Try.f20, List.getD, List.getElem?_cons_zero, List.getElem?_cons_succ, Option.getD_some]
@[simp] theorem n20_24 (s : List V) (H : Heap) : evCode P Γ call n f m (cAt [1, 1, 1, 1, 1, 0] B20) s H = regNext (evOpsGo P Γ call r20_24.1 r20_24.1 s H) := at_region (by kernel_rfl) r20_24.2 s H
attribute [simp] r20_24
@[simp] theorem n20_25 (s : List V) (H : Heap) : evCode P Γ call n f m (cAt [1, 1, 1, 1, 1, 1] B20) s H = seqNext P Γ call n f m (cAt [1, 1, 1, 1, 1, 1, 1] B20) (evCode P Γ call n f m (cAt [1, 1, 1, 1, 1, 1, 0] B20) s H) := at_seq (by kernel_rfl) rfl rfl s H
@[simp] theorem n20_26 (s : List V) (H : Heap) : evCode P Γ call n f m (cAt [1, 1, 1, 1, 1, 1, 0] B20) s H = seqNext P Γ call n f m (cAt [1, 1, 1, 1, 1, 1, 0, 1] B20) (evCode P Γ call n f m (cAt [1, 1, 1, 1, 1, 1, 0, 0] B20) s H) := at_seq (by kernel_rfl) rfl rfl s H
noncomputable def r20_27 : {l : List Oper // opsOf (cAt [1, 1, 1, 1, 1, 1, 0, 0] B20) = l} := by
  apply Subtype.mk
  dsimp only [opsOf, cAt, kids, B20, bodyOf, Try.f20, List.getD, List.getElem?_cons_zero, List.getElem?_cons_succ, Option.getD_some]
@[simp] theorem n20_27 (s : List V) (H : Heap) : evCode P Γ call n f m (cAt [1, 1, 1, 1, 1, 1, 0, 0] B20) s H = regNext (evOpsGo P Γ call r20_27.1 r20_27.1 s H) := at_region (by kernel_rfl) r20_27.2 s H
attribute [simp] r20_27
@[simp] theorem n20_28 (s : List V) (H : Heap) : evCode P Γ call n f m (cAt [1, 1, 1, 1, 1, 1, 0, 1] B20) s H = blockNext 0 (evCode P Γ call n f m (cAt [1, 1, 1, 1, 1, 1, 0, 1, 0] B20) s H) := at_block (by kernel_rfl) rfl s H
@[simp] theorem n20_29 (s : List V) (H : Heap) : evCode P Γ call n f m (cAt [1, 1, 1, 1, 1, 1, 0, 1, 0] B20) s H = evLoopC P Γ call n f m (cAt [1, 1, 1, 1, 1, 1, 0, 1, 0, 0] B20) n s H := at_loop (by kernel_rfl) rfl s H
noncomputable abbrev L20_9 : Code := cAt [1, 1, 1, 1, 1, 1, 0, 1, 0, 0] B20
@[simp] theorem n20_29f : firstRegion (cAt [1, 1, 1, 1, 1, 1, 0, 1, 0, 0] B20) = 9 := by kernel_rfl
@[simp] theorem n20_30 (s : List V) (H : Heap) : evCode P Γ call n f m (cAt [1, 1, 1, 1, 1, 1, 0, 1, 0, 0] B20) s H = seqNext P Γ call n f m (cAt [1, 1, 1, 1, 1, 1, 0, 1, 0, 0, 1] B20) (evCode P Γ call n f m (cAt [1, 1, 1, 1, 1, 1, 0, 1, 0, 0, 0] B20) s H) := at_seq (by kernel_rfl) rfl rfl s H
noncomputable def r20_31 : {l : List Oper // opsOf (cAt [1, 1, 1, 1, 1, 1, 0, 1, 0, 0, 0] B20) = l} := by
  apply Subtype.mk
  dsimp only [opsOf, cAt, kids, B20, bodyOf, Try.f20, List.getD, List.getElem?_cons_zero, List.getElem?_cons_succ, Option.getD_some]
@[simp] theorem n20_31 (s : List V) (H : Heap) : evCode P Γ call n f m (cAt [1, 1, 1, 1, 1, 1, 0, 1, 0, 0, 0] B20) s H = regNext (evOpsGo P Γ call r20_31.1 r20_31.1 s H) := at_region (by kernel_rfl) r20_31.2 s H
attribute [simp] r20_31
@[simp] theorem n20_32 (s : List V) (H : Heap) : evCode P Γ call n f m (cAt [1, 1, 1, 1, 1, 1, 0, 1, 0, 0, 1] B20) s H = seqNext P Γ call n f m (cAt [1, 1, 1, 1, 1, 1, 0, 1, 0, 0, 1, 1] B20) (evCode P Γ call n f m (cAt [1, 1, 1, 1, 1, 1, 0, 1, 0, 0, 1, 0] B20) s H) := at_seq (by kernel_rfl) rfl rfl s H
@[simp] theorem n20_33 (s : List V) (H : Heap) : evCode P Γ call n f m (cAt [1, 1, 1, 1, 1, 1, 0, 1, 0, 0, 1, 0] B20) s H = condW P Γ call n f m (cAt [1, 1, 1, 1, 1, 1, 0, 1, 0, 0, 1, 0, 0] B20) (cAt [1, 1, 1, 1, 1, 1, 0, 1, 0, 0, 1, 0, 1] B20) s H (evOperand Γ s (.tmp 37)) := at_cond (by kernel_rfl) (by kernel_rfl) rfl rfl s H
@[simp] theorem n20_34 (s : List V) (H : Heap) : evCode P Γ call n f m (cAt [1, 1, 1, 1, 1, 1, 0, 1, 0, 0, 1, 0, 0] B20) s H = some (.normal, s, H) := at_skip (by kernel_rfl) s H
@[simp] theorem n20_35 (s : List V) (H : Heap) : evCode P Γ call n f m (cAt [1, 1, 1, 1, 1, 1, 0, 1, 0, 0, 1, 0, 1] B20) s H = some (.exit 0, s, H) := at_exit (by kernel_rfl) s H
@[simp] theorem n20_36 (s : List V) (H : Heap) : evCode P Γ call n f m (cAt [1, 1, 1, 1, 1, 1, 0, 1, 0, 0, 1, 1] B20) s H = seqNext P Γ call n f m (cAt [1, 1, 1, 1, 1, 1, 0, 1, 0, 0, 1, 1, 1] B20) (evCode P Γ call n f m (cAt [1, 1, 1, 1, 1, 1, 0, 1, 0, 0, 1, 1, 0] B20) s H) := at_seq (by kernel_rfl) rfl rfl s H
@[simp] theorem n20_37 (s : List V) (H : Heap) : evCode P Γ call n f m (cAt [1, 1, 1, 1, 1, 1, 0, 1, 0, 0, 1, 1, 0] B20) s H = blockNext 1 (evCode P Γ call n f m (cAt [1, 1, 1, 1, 1, 1, 0, 1, 0, 0, 1, 1, 0, 0] B20) s H) := at_block (by kernel_rfl) rfl s H
@[simp] theorem n20_38 (s : List V) (H : Heap) : evCode P Γ call n f m (cAt [1, 1, 1, 1, 1, 1, 0, 1, 0, 0, 1, 1, 0, 0] B20) s H = seqNext P Γ call n f m (cAt [1, 1, 1, 1, 1, 1, 0, 1, 0, 0, 1, 1, 0, 0, 1] B20) (evCode P Γ call n f m (cAt [1, 1, 1, 1, 1, 1, 0, 1, 0, 0, 1, 1, 0, 0, 0] B20) s H) := at_seq (by kernel_rfl) rfl rfl s H
noncomputable def r20_39 : {l : List Oper // opsOf (cAt [1, 1, 1, 1, 1, 1, 0, 1, 0, 0, 1, 1, 0, 0, 0] B20) = l} := by
  apply Subtype.mk
  dsimp only [opsOf, cAt, kids, B20, bodyOf, Try.f20, List.getD, List.getElem?_cons_zero, List.getElem?_cons_succ, Option.getD_some]
@[simp] theorem n20_39 (s : List V) (H : Heap) : evCode P Γ call n f m (cAt [1, 1, 1, 1, 1, 1, 0, 1, 0, 0, 1, 1, 0, 0, 0] B20) s H = regNext (evOpsGo P Γ call r20_39.1 r20_39.1 s H) := at_region (by kernel_rfl) r20_39.2 s H
attribute [simp] r20_39
noncomputable def r20_40 : {l : List Oper // opsOf (cAt [1, 1, 1, 1, 1, 1, 0, 1, 0, 0, 1, 1, 0, 0, 1] B20) = l} := by
  apply Subtype.mk
  dsimp only [opsOf, cAt, kids, B20, bodyOf, Try.f20, List.getD, List.getElem?_cons_zero, List.getElem?_cons_succ, Option.getD_some]
@[simp] theorem n20_40 (s : List V) (H : Heap) : evCode P Γ call n f m (cAt [1, 1, 1, 1, 1, 1, 0, 1, 0, 0, 1, 1, 0, 0, 1] B20) s H = regNext (evOpsGo P Γ call r20_40.1 r20_40.1 s H) := at_region (by kernel_rfl) r20_40.2 s H
attribute [simp] r20_40
noncomputable def r20_41 : {l : List Oper // opsOf (cAt [1, 1, 1, 1, 1, 1, 0, 1, 0, 0, 1, 1, 1] B20) = l} := by
  apply Subtype.mk
  dsimp only [opsOf, cAt, kids, B20, bodyOf, Try.f20, List.getD, List.getElem?_cons_zero, List.getElem?_cons_succ, Option.getD_some]
@[simp] theorem n20_41 (s : List V) (H : Heap) : evCode P Γ call n f m (cAt [1, 1, 1, 1, 1, 1, 0, 1, 0, 0, 1, 1, 1] B20) s H = regNext (evOpsGo P Γ call r20_41.1 r20_41.1 s H) := at_region (by kernel_rfl) r20_41.2 s H
attribute [simp] r20_41
@[simp] theorem n20_42 (s : List V) (H : Heap) : evCode P Γ call n f m (cAt [1, 1, 1, 1, 1, 1, 1] B20) s H = seqNext P Γ call n f m (cAt [1, 1, 1, 1, 1, 1, 1, 1] B20) (evCode P Γ call n f m (cAt [1, 1, 1, 1, 1, 1, 1, 0] B20) s H) := at_seq (by kernel_rfl) rfl rfl s H
@[simp] theorem n20_43 (s : List V) (H : Heap) : evCode P Γ call n f m (cAt [1, 1, 1, 1, 1, 1, 1, 0] B20) s H = seqNext P Γ call n f m (cAt [1, 1, 1, 1, 1, 1, 1, 0, 1] B20) (evCode P Γ call n f m (cAt [1, 1, 1, 1, 1, 1, 1, 0, 0] B20) s H) := at_seq (by kernel_rfl) rfl rfl s H
noncomputable def r20_44 : {l : List Oper // opsOf (cAt [1, 1, 1, 1, 1, 1, 1, 0, 0] B20) = l} := by
  apply Subtype.mk
  dsimp only [opsOf, cAt, kids, B20, bodyOf, Try.f20, List.getD, List.getElem?_cons_zero, List.getElem?_cons_succ, Option.getD_some]
@[simp] theorem n20_44 (s : List V) (H : Heap) : evCode P Γ call n f m (cAt [1, 1, 1, 1, 1, 1, 1, 0, 0] B20) s H = regNext (evOpsGo P Γ call r20_44.1 r20_44.1 s H) := at_region (by kernel_rfl) r20_44.2 s H
attribute [simp] r20_44
@[simp] theorem n20_45 (s : List V) (H : Heap) : evCode P Γ call n f m (cAt [1, 1, 1, 1, 1, 1, 1, 0, 1] B20) s H = blockNext 2 (evCode P Γ call n f m (cAt [1, 1, 1, 1, 1, 1, 1, 0, 1, 0] B20) s H) := at_block (by kernel_rfl) rfl s H
@[simp] theorem n20_46 (s : List V) (H : Heap) : evCode P Γ call n f m (cAt [1, 1, 1, 1, 1, 1, 1, 0, 1, 0] B20) s H = evLoopC P Γ call n f m (cAt [1, 1, 1, 1, 1, 1, 1, 0, 1, 0, 0] B20) n s H := at_loop (by kernel_rfl) rfl s H
noncomputable abbrev L20_14 : Code := cAt [1, 1, 1, 1, 1, 1, 1, 0, 1, 0, 0] B20
@[simp] theorem n20_46f : firstRegion (cAt [1, 1, 1, 1, 1, 1, 1, 0, 1, 0, 0] B20) = 14 := by kernel_rfl
@[simp] theorem n20_47 (s : List V) (H : Heap) : evCode P Γ call n f m (cAt [1, 1, 1, 1, 1, 1, 1, 0, 1, 0, 0] B20) s H = seqNext P Γ call n f m (cAt [1, 1, 1, 1, 1, 1, 1, 0, 1, 0, 0, 1] B20) (evCode P Γ call n f m (cAt [1, 1, 1, 1, 1, 1, 1, 0, 1, 0, 0, 0] B20) s H) := at_seq (by kernel_rfl) rfl rfl s H
noncomputable def r20_48 : {l : List Oper // opsOf (cAt [1, 1, 1, 1, 1, 1, 1, 0, 1, 0, 0, 0] B20) = l} := by
  apply Subtype.mk
  dsimp only [opsOf, cAt, kids, B20, bodyOf, Try.f20, List.getD, List.getElem?_cons_zero, List.getElem?_cons_succ, Option.getD_some]
@[simp] theorem n20_48 (s : List V) (H : Heap) : evCode P Γ call n f m (cAt [1, 1, 1, 1, 1, 1, 1, 0, 1, 0, 0, 0] B20) s H = regNext (evOpsGo P Γ call r20_48.1 r20_48.1 s H) := at_region (by kernel_rfl) r20_48.2 s H
attribute [simp] r20_48
@[simp] theorem n20_49 (s : List V) (H : Heap) : evCode P Γ call n f m (cAt [1, 1, 1, 1, 1, 1, 1, 0, 1, 0, 0, 1] B20) s H = seqNext P Γ call n f m (cAt [1, 1, 1, 1, 1, 1, 1, 0, 1, 0, 0, 1, 1] B20) (evCode P Γ call n f m (cAt [1, 1, 1, 1, 1, 1, 1, 0, 1, 0, 0, 1, 0] B20) s H) := at_seq (by kernel_rfl) rfl rfl s H
@[simp] theorem n20_50 (s : List V) (H : Heap) : evCode P Γ call n f m (cAt [1, 1, 1, 1, 1, 1, 1, 0, 1, 0, 0, 1, 0] B20) s H = condW P Γ call n f m (cAt [1, 1, 1, 1, 1, 1, 1, 0, 1, 0, 0, 1, 0, 0] B20) (cAt [1, 1, 1, 1, 1, 1, 1, 0, 1, 0, 0, 1, 0, 1] B20) s H (evOperand Γ s (.tmp 49)) := at_cond (by kernel_rfl) (by kernel_rfl) rfl rfl s H
@[simp] theorem n20_51 (s : List V) (H : Heap) : evCode P Γ call n f m (cAt [1, 1, 1, 1, 1, 1, 1, 0, 1, 0, 0, 1, 0, 0] B20) s H = some (.normal, s, H) := at_skip (by kernel_rfl) s H
@[simp] theorem n20_52 (s : List V) (H : Heap) : evCode P Γ call n f m (cAt [1, 1, 1, 1, 1, 1, 1, 0, 1, 0, 0, 1, 0, 1] B20) s H = some (.exit 2, s, H) := at_exit (by kernel_rfl) s H
@[simp] theorem n20_53 (s : List V) (H : Heap) : evCode P Γ call n f m (cAt [1, 1, 1, 1, 1, 1, 1, 0, 1, 0, 0, 1, 1] B20) s H = seqNext P Γ call n f m (cAt [1, 1, 1, 1, 1, 1, 1, 0, 1, 0, 0, 1, 1, 1] B20) (evCode P Γ call n f m (cAt [1, 1, 1, 1, 1, 1, 1, 0, 1, 0, 0, 1, 1, 0] B20) s H) := at_seq (by kernel_rfl) rfl rfl s H
@[simp] theorem n20_54 (s : List V) (H : Heap) : evCode P Γ call n f m (cAt [1, 1, 1, 1, 1, 1, 1, 0, 1, 0, 0, 1, 1, 0] B20) s H = blockNext 3 (evCode P Γ call n f m (cAt [1, 1, 1, 1, 1, 1, 1, 0, 1, 0, 0, 1, 1, 0, 0] B20) s H) := at_block (by kernel_rfl) rfl s H
@[simp] theorem n20_55 (s : List V) (H : Heap) : evCode P Γ call n f m (cAt [1, 1, 1, 1, 1, 1, 1, 0, 1, 0, 0, 1, 1, 0, 0] B20) s H = seqNext P Γ call n f m (cAt [1, 1, 1, 1, 1, 1, 1, 0, 1, 0, 0, 1, 1, 0, 0, 1] B20) (evCode P Γ call n f m (cAt [1, 1, 1, 1, 1, 1, 1, 0, 1, 0, 0, 1, 1, 0, 0, 0] B20) s H) := at_seq (by kernel_rfl) rfl rfl s H
noncomputable def r20_56 : {l : List Oper // opsOf (cAt [1, 1, 1, 1, 1, 1, 1, 0, 1, 0, 0, 1, 1, 0, 0, 0] B20) = l} := by
  apply Subtype.mk
  dsimp only [opsOf, cAt, kids, B20, bodyOf, Try.f20, List.getD, List.getElem?_cons_zero, List.getElem?_cons_succ, Option.getD_some]
@[simp] theorem n20_56 (s : List V) (H : Heap) : evCode P Γ call n f m (cAt [1, 1, 1, 1, 1, 1, 1, 0, 1, 0, 0, 1, 1, 0, 0, 0] B20) s H = regNext (evOpsGo P Γ call r20_56.1 r20_56.1 s H) := at_region (by kernel_rfl) r20_56.2 s H
attribute [simp] r20_56
noncomputable def r20_57 : {l : List Oper // opsOf (cAt [1, 1, 1, 1, 1, 1, 1, 0, 1, 0, 0, 1, 1, 0, 0, 1] B20) = l} := by
  apply Subtype.mk
  dsimp only [opsOf, cAt, kids, B20, bodyOf, Try.f20, List.getD, List.getElem?_cons_zero, List.getElem?_cons_succ, Option.getD_some]
@[simp] theorem n20_57 (s : List V) (H : Heap) : evCode P Γ call n f m (cAt [1, 1, 1, 1, 1, 1, 1, 0, 1, 0, 0, 1, 1, 0, 0, 1] B20) s H = regNext (evOpsGo P Γ call r20_57.1 r20_57.1 s H) := at_region (by kernel_rfl) r20_57.2 s H
attribute [simp] r20_57
noncomputable def r20_58 : {l : List Oper // opsOf (cAt [1, 1, 1, 1, 1, 1, 1, 0, 1, 0, 0, 1, 1, 1] B20) = l} := by
  apply Subtype.mk
  dsimp only [opsOf, cAt, kids, B20, bodyOf, Try.f20, List.getD, List.getElem?_cons_zero, List.getElem?_cons_succ, Option.getD_some]
@[simp] theorem n20_58 (s : List V) (H : Heap) : evCode P Γ call n f m (cAt [1, 1, 1, 1, 1, 1, 1, 0, 1, 0, 0, 1, 1, 1] B20) s H = regNext (evOpsGo P Γ call r20_58.1 r20_58.1 s H) := at_region (by kernel_rfl) r20_58.2 s H
attribute [simp] r20_58
@[simp] theorem n20_59 (s : List V) (H : Heap) : evCode P Γ call n f m (cAt [1, 1, 1, 1, 1, 1, 1, 1] B20) s H = seqNext P Γ call n f m (cAt [1, 1, 1, 1, 1, 1, 1, 1, 1] B20) (evCode P Γ call n f m (cAt [1, 1, 1, 1, 1, 1, 1, 1, 0] B20) s H) := at_seq (by kernel_rfl) rfl rfl s H
noncomputable def r20_60 : {l : List Oper // opsOf (cAt [1, 1, 1, 1, 1, 1, 1, 1, 0] B20) = l} := by
  apply Subtype.mk
  dsimp only [opsOf, cAt, kids, B20, bodyOf, Try.f20, List.getD, List.getElem?_cons_zero, List.getElem?_cons_succ, Option.getD_some]
@[simp] theorem n20_60 (s : List V) (H : Heap) : evCode P Γ call n f m (cAt [1, 1, 1, 1, 1, 1, 1, 1, 0] B20) s H = regNext (evOpsGo P Γ call r20_60.1 r20_60.1 s H) := at_region (by kernel_rfl) r20_60.2 s H
attribute [simp] r20_60
@[simp] theorem n20_61 (s : List V) (H : Heap) : evCode P Γ call n f m (cAt [1, 1, 1, 1, 1, 1, 1, 1, 1] B20) s H = some (.ret, s, H) := at_ret (by kernel_rfl) s H
theorem b20 {k : Nat} (ho : ∀ args H, Γ.orc 20 args H = none) (args : List V) (H : Heap) (ha : args.length ≤ 60) : evF Try.prog Γ (k + 1) 20 args H = bodyEnd Try.prog [.tmp 4, .tmp 5, .tmp 6] H.length (evCode Try.prog Γ (evF Try.prog Γ k) k 20 H.length (cAt [] B20) (mkL 60 V.undef (enumV 0 args)) H) := body_at Try.func20 (by decide) rfl ho rfl rfl args H ha
noncomputable def B22 : Code := bodyOf Try.f22
@[simp] theorem n22_1 (s : List V) (H : Heap) : evCode P Γ call n f m (cAt [] B22) s H = seqNext P Γ call n f m (cAt [1] B22) (evCode P Γ call n f m (cAt [0] B22) s H) := at_seq (by kernel_rfl) rfl rfl s H
noncomputable def r22_2 : {l : List Oper // opsOf (cAt [0] B22) = l} := by
  apply Subtype.mk
  dsimp only [opsOf, cAt, kids, B22, bodyOf, Try.f22, List.getD, List.getElem?_cons_zero, List.getElem?_cons_succ, Option.getD_some]
@[simp] theorem n22_2 (s : List V) (H : Heap) : evCode P Γ call n f m (cAt [0] B22) s H = regNext (evOpsGo P Γ call r22_2.1 r22_2.1 s H) := at_region (by kernel_rfl) r22_2.2 s H
attribute [simp] r22_2
@[simp] theorem n22_3 (s : List V) (H : Heap) : evCode P Γ call n f m (cAt [1] B22) s H = seqNext P Γ call n f m (cAt [1, 1] B22) (evCode P Γ call n f m (cAt [1, 0] B22) s H) := at_seq (by kernel_rfl) rfl rfl s H
noncomputable def r22_4 : {l : List Oper // opsOf (cAt [1, 0] B22) = l} := by
  apply Subtype.mk
  dsimp only [opsOf, cAt, kids, B22, bodyOf, Try.f22, List.getD, List.getElem?_cons_zero, List.getElem?_cons_succ, Option.getD_some]
@[simp] theorem n22_4 (s : List V) (H : Heap) : evCode P Γ call n f m (cAt [1, 0] B22) s H = regNext (evOpsGo P Γ call r22_4.1 r22_4.1 s H) := at_region (by kernel_rfl) r22_4.2 s H
attribute [simp] r22_4
@[simp] theorem n22_5 (s : List V) (H : Heap) : evCode P Γ call n f m (cAt [1, 1] B22) s H = seqNext P Γ call n f m (cAt [1, 1, 1] B22) (evCode P Γ call n f m (cAt [1, 1, 0] B22) s H) := at_seq (by kernel_rfl) rfl rfl s H
@[simp] theorem n22_6 (s : List V) (H : Heap) : evCode P Γ call n f m (cAt [1, 1, 0] B22) s H = seqNext P Γ call n f m (cAt [1, 1, 0, 1] B22) (evCode P Γ call n f m (cAt [1, 1, 0, 0] B22) s H) := at_seq (by kernel_rfl) rfl rfl s H
noncomputable def r22_7 : {l : List Oper // opsOf (cAt [1, 1, 0, 0] B22) = l} := by
  apply Subtype.mk
  dsimp only [opsOf, cAt, kids, B22, bodyOf, Try.f22, List.getD, List.getElem?_cons_zero, List.getElem?_cons_succ, Option.getD_some]
@[simp] theorem n22_7 (s : List V) (H : Heap) : evCode P Γ call n f m (cAt [1, 1, 0, 0] B22) s H = regNext (evOpsGo P Γ call r22_7.1 r22_7.1 s H) := at_region (by kernel_rfl) r22_7.2 s H
attribute [simp] r22_7
@[simp] theorem n22_8 (s : List V) (H : Heap) : evCode P Γ call n f m (cAt [1, 1, 0, 1] B22) s H = blockNext 0 (evCode P Γ call n f m (cAt [1, 1, 0, 1, 0] B22) s H) := at_block (by kernel_rfl) rfl s H
@[simp] theorem n22_9 (s : List V) (H : Heap) : evCode P Γ call n f m (cAt [1, 1, 0, 1, 0] B22) s H = evLoopC P Γ call n f m (cAt [1, 1, 0, 1, 0, 0] B22) n s H := at_loop (by kernel_rfl) rfl s H
noncomputable abbrev L22_3 : Code := cAt [1, 1, 0, 1, 0, 0] B22
@[simp] theorem n22_9f : firstRegion (cAt [1, 1, 0, 1, 0, 0] B22) = 3 := by kernel_rfl
@[simp] theorem n22_10 (s : List V) (H : Heap) : evCode P Γ call n f m (cAt [1, 1, 0, 1, 0, 0] B22) s H = seqNext P Γ call n f m (cAt [1, 1, 0, 1, 0, 0, 1] B22) (evCode P Γ call n f m (cAt [1, 1, 0, 1, 0, 0, 0] B22) s H) := at_seq (by kernel_rfl) rfl rfl s H
noncomputable def r22_11 : {l : List Oper // opsOf (cAt [1, 1, 0, 1, 0, 0, 0] B22) = l} := by
  apply Subtype.mk
  dsimp only [opsOf, cAt, kids, B22, bodyOf, Try.f22, List.getD, List.getElem?_cons_zero, List.getElem?_cons_succ, Option.getD_some]
@[simp] theorem n22_11 (s : List V) (H : Heap) : evCode P Γ call n f m (cAt [1, 1, 0, 1, 0, 0, 0] B22) s H = regNext (evOpsGo P Γ call r22_11.1 r22_11.1 s H) := at_region (by kernel_rfl) r22_11.2 s H
attribute [simp] r22_11
@[simp] theorem n22_12 (s : List V) (H : Heap) : evCode P Γ call n f m (cAt [1, 1, 0, 1, 0, 0, 1] B22) s H = seqNext P Γ call n f m (cAt [1, 1, 0, 1, 0, 0, 1, 1] B22) (evCode P Γ call n f m (cAt [1, 1, 0, 1, 0, 0, 1, 0] B22) s H) := at_seq (by kernel_rfl) rfl rfl s H
@[simp] theorem n22_13 (s : List V) (H : Heap) : evCode P Γ call n f m (cAt [1, 1, 0, 1, 0, 0, 1, 0] B22) s H = condW P Γ call n f m (cAt [1, 1, 0, 1, 0, 0, 1, 0, 0] B22) (cAt [1, 1, 0, 1, 0, 0, 1, 0, 1] B22) s H (evOperand Γ s (.tmp 12)) := at_cond (by kernel_rfl) (by kernel_rfl) rfl rfl s H
@[simp] theorem n22_14 (s : List V) (H : Heap) : evCode P Γ call n f m (cAt [1, 1, 0, 1, 0, 0, 1, 0, 0] B22) s H = some (.normal, s, H) := at_skip (by kernel_rfl) s H
@[simp] theorem n22_15 (s : List V) (H : Heap) : evCode P Γ call n f m (cAt [1, 1, 0, 1, 0, 0, 1, 0, 1] B22) s H = some (.exit 0, s, H) := at_exit (by kernel_rfl) s H
@[simp] theorem n22_16 (s : List V) (H : Heap) : evCode P Γ call n f m (cAt [1, 1, 0, 1, 0, 0, 1, 1] B22) s H = seqNext P Γ call n f m (cAt [1, 1, 0, 1, 0, 0, 1, 1, 1] B22) (evCode P Γ call n f m (cAt [1, 1, 0, 1, 0, 0, 1, 1, 0] B22) s H) := at_seq (by kernel_rfl) rfl rfl s H
@[simp] theorem n22_17 (s : List V) (H : Heap) : evCode P Γ call n f m (cAt [1, 1, 0, 1, 0, 0, 1, 1, 0] B22) s H = blockNext 1 (evCode P Γ call n f m (cAt [1, 1, 0, 1, 0, 0, 1, 1, 0, 0] B22) s H) := at_block (by kernel_rfl) rfl s H
@[simp] theorem n22_18 (s : List V) (H : Heap) : evCode P Γ call n f m (cAt [1, 1, 0, 1, 0, 0, 1, 1, 0, 0] B22) s H = seqNext P Γ call n f m (cAt [1, 1, 0, 1, 0, 0, 1, 1, 0, 0, 1] B22) (evCode P Γ call n f m (cAt [1, 1, 0, 1, 0, 0, 1, 1, 0, 0, 0] B22) s H) := at_seq (by kernel_rfl) rfl rfl s H
noncomputable def r22_19 : {l : List Oper // opsOf (cAt [1, 1, 0, 1, 0, 0, 1, 1, 0, 0, 0] B22) = l} := by
  apply Subtype.mk
  dsimp only [opsOf, cAt, kids, B22, bodyOf, Try.f22, List.getD, List.getElem?_cons_zero, List.getElem?_cons_succ, Option.getD_some]
@[simp] theorem n22_19 (s : List V) (H : Heap) : evCode P Γ call n f m (cAt [1, 1, 0, 1, 0, 0, 1, 1, 0, 0, 0] B22) s H = regNext (evOpsGo P Γ call r22_19.1 r22_19.1 s H) := at_region (by kernel_rfl) r22_19.2 s H
attribute [simp] r22_19
@[simp] theorem n22_20 (s : List V) (H : Heap) : evCode P Γ call n f m (cAt [1, 1, 0, 1, 0, 0, 1, 1, 0, 0, 1] B22) s H = seqNext P Γ call n f m (cAt [1, 1, 0, 1, 0, 0, 1, 1, 0, 0, 1, 1] B22) (evCode P Γ call n f m (cAt [1, 1, 0, 1, 0, 0, 1, 1, 0, 0, 1, 0] B22) s H) := at_seq (by kernel_rfl) rfl rfl s H
noncomputable def r22_21 : {l : List Oper // opsOf (cAt [1, 1, 0, 1, 0, 0, 1, 1, 0, 0, 1, 0] B22) = l} := by
  apply Subtype.mk
  dsimp only [opsOf, cAt, kids, B22, bodyOf, Try.f22, List.getD, List.getElem?_cons_zero, List.getElem?_cons_succ, Option.getD_some]
@[simp] theorem n22_21 (s : List V) (H : Heap) : evCode P Γ call n f m (cAt [1, 1, 0, 1, 0, 0, 1, 1, 0, 0, 1, 0] B22) s H = regNext (evOpsGo P Γ call r22_21.1 r22_21.1 s H) := at_region (by kernel_rfl) r22_21.2 s H
attribute [simp] r22_21
@[simp] theorem n22_22 (s : List V) (H : Heap) : evCode P Γ call n f m (cAt [1, 1, 0, 1, 0, 0, 1, 1, 0, 0, 1, 1] B22) s H = seqNext P Γ call n f m (cAt [1, 1, 0, 1, 0, 0, 1, 1, 0, 0, 1, 1, 1] B22) (evCode P Γ call n f m (cAt [1, 1, 0, 1, 0, 0, 1, 1, 0, 0, 1, 1, 0] B22) s H) := at_seq (by kernel_rfl) rfl rfl s H
noncomputable def r22_23 : {l : List Oper // opsOf (cAt [1, 1, 0, 1, 0, 0, 1, 1, 0, 0, 1, 1, 0] B22) = l} := by
  apply Subtype.mk
  dsimp only [opsOf, cAt, kids, B22, bodyOf, Try.f22, List.getD, List.getElem?_cons_zero, List.getElem?_cons_succ, Option.getD_some]
@[simp] theorem n22_23 (s : List V) (H : Heap) : evCode P Γ call n f m (cAt [1, 1, 0, 1, 0, 0, 1, 1, 0, 0, 1, 1, 0] B22) s H = regNext (evOpsGo P Γ call r22_23.1 r22_23.1 s H) := at_region (by kernel_rfl) r22_23.2 s H
attribute [simp] r22_23
@[simp] theorem n22_24 (s : List V) (H : Heap) : evCode P Γ call n f m (cAt [1, 1, 0, 1, 0, 0, 1, 1, 0, 0, 1, 1, 1] B22) s H = condW P Γ call n f m (cAt [1, 1, 0, 1, 0, 0, 1, 1, 0, 0, 1, 1, 1, 0] B22) (cAt [1, 1, 0, 1, 0, 0, 1, 1, 0, 0, 1, 1, 1, 1] B22) s H (evOperand Γ s (.tmp 20)) := at_cond (by kernel_rfl) (by kernel_rfl) rfl rfl s H
noncomputable def r22_25 : {l : List Oper // opsOf (cAt [1, 1, 0, 1, 0, 0, 1, 1, 0, 0, 1, 1, 1, 0] B22) = l} := by
  apply Subtype.mk
  dsimp only [opsOf, cAt, kids, B22, bodyOf, Try.f22, List.getD, List.getElem?_cons_zero, List.getElem?_cons_succ, Option.getD_some]
@[simp] theorem n22_25 (s : List V) (H : Heap) : evCode P Γ call n f m (cAt [1, 1, 0, 1, 0, 0, 1, 1, 0, 0, 1, 1, 1, 0] B22) s H = regNext (evOpsGo P Γ call r22_25.1 r22_25.1 s H) := at_region (by kernel_rfl) r22_25.2 s H
attribute [simp] r22_25
@[simp] theorem n22_26 (s : List V) (H : Heap) : evCode P Γ call n f m (cAt [1, 1, 0, 1, 0, 0, 1, 1, 0, 0, 1, 1, 1, 1] B22) s H = some (.normal, s, H) := at_skip (by kernel_rfl) s H
noncomputable def r22_27 : {l : List Oper // opsOf (cAt [1, 1, 0, 1, 0, 0, 1, 1, 1] B22) = l} := by
  apply Subtype.mk
  dsimp only [opsOf, cAt, kids, B22, bodyOf, Try.f22, List.getD, List.getElem?_cons_zero, List.getElem?_cons_succ, Option.getD_some]
@[simp] theorem n22_27 (s : List V) (H : Heap) : evCode P Γ call n f m (cAt [1, 1, 0, 1, 0, 0, 1, 1, 1] B22) s H = regNext (evOpsGo P Γ call r22_27.1 r22_27.1 s H) := at_region (by kernel_rfl) r22_27.2 s H
attribute [simp] r22_27
@[simp] theorem n22_28 (s : List V) (H : Heap) : evCode P Γ call n f m (cAt [1, 1, 1] B22) s H = seqNext P Γ call n f m (cAt [1, 1, 1, 1] B22) (evCode P Γ call n f m (cAt [1, 1, 1, 0] B22) s H) := at_seq (by kernel_rfl) rfl rfl s H
noncomputable def r22_29 : {l : List Oper // opsOf (cAt [1, 1, 1, 0] B22) = l} := by
  apply Subtype.mk
  dsimp only [opsOf, cAt, kids, B22, bodyOf, Try.f22, List.getD, List.getElem?_cons_zero, List.getElem?_cons_succ, Option.getD_some]
@[simp] theorem n22_29 (s : List V) (H : Heap) : evCode P Γ call n f m (cAt [1, 1, 1, 0] B22) s H = regNext (evOpsGo P Γ call r22_29.1 r22_29.1 s H) := at_region (by kernel_rfl) r22_29.2 s H
attribute [simp] r22_29
@[simp] theorem n22_30 (s : List V) (H : Heap) : evCode P Γ call n f m (cAt [1, 1, 1, 1] B22) s H = seqNext P Γ call n f m (cAt [1, 1, 1, 1, 1] B22) (evCode P Γ call n f m (cAt [1, 1, 1, 1, 0] B22) s H) := at_seq (by kernel_rfl) rfl rfl s H
@[simp] theorem n22_31 (s : List V) (H : Heap) : evCode P Γ call n f m (cAt [1, 1, 1, 1, 0] B22) s H = seqNext P Γ call n f m (cAt [1, 1, 1, 1, 0, 1] B22) (evCode P Γ call n f m (cAt [1, 1, 1, 1, 0, 0] B22) s H) := at_seq (by kernel_rfl) rfl rfl s H
noncomputable def r22_32 : {l : List Oper // opsOf (cAt [1, 1, 1, 1, 0, 0] B22) = l} := by
  apply Subtype.mk
  dsimp only [opsOf, cAt, kids, B22, bodyOf, Try.f22, List.getD, List.getElem?_cons_zero, List.getElem?_cons_succ, Option.getD_some]
@[simp] theorem n22_32 (s : List V) (H : Heap) : evCode P Γ call n f m (cAt [1, 1, 1, 1, 0, 0] B22) s H = regNext (evOpsGo P Γ call r22_32.1 r22_32.1 s H) := at_region (by kernel_rfl) r22_32.2 s H
attribute [simp] r22_32
@[simp] theorem n22_33 (s : List V) (H : Heap) : evCode P Γ call n f m (cAt [1, 1, 1, 1, 0, 1] B22) s H = blockNext 2 (evCode P Γ call n f m (cAt [1, 1, 1, 1, 0, 1, 0] B22) s H) := at_block (by kernel_rfl) rfl s H
@[simp] theorem n22_34 (s : List V) (H : Heap) : evCode P Γ call n f m (cAt [1, 1, 1, 1, 0, 1, 0] B22) s H = evLoopC P Γ call n f m (cAt [1, 1, 1, 1, 0, 1, 0, 0] B22) n s H := at_loop (by kernel_rfl) rfl s H
noncomputable abbrev L22_11 : Code := cAt [1, 1, 1, 1, 0, 1, 0, 0] B22
@[simp] theorem n22_34f : firstRegion (cAt [1, 1, 1, 1, 0, 1, 0, 0] B22) = 11 := by kernel_rfl
@[simp] theorem n22_35 (s : List V) (H : Heap) : evCode P Γ call n f m (cAt [1, 1, 1, 1, 0, 1, 0, 0] B22) s H = seqNext P Γ call n f m (cAt [1, 1, 1, 1, 0, 1, 0, 0, 1] B22) (evCode P Γ call n f m (cAt [1, 1, 1, 1, 0, 1, 0, 0, 0] B22) s H) := at_seq (by kernel_rfl) rfl rfl s H
noncomputable def r22_36 : {l : List Oper // opsOf (cAt [1, 1, 1, 1, 0, 1, 0, 0, 0] B22) = l} := by
  apply Subtype.mk
  dsimp only [opsOf, cAt, kids, B22, bodyOf, Try.f22, List.getD, List.getElem?_cons_zero, List.getElem?_cons_succ, Option.getD_some]
@[simp] theorem n22_36 (s : List V) (H : Heap) : evCode P Γ call n f m (cAt [1, 1, 1, 1, 0, 1, 0, 0, 0] B22) s H = regNext (evOpsGo P Γ call r22_36.1 r22_36.1 s H) := at_region (by kernel_rfl) r22_36.2 s H
attribute [simp] r22_36
@[simp] theorem n22_37 (s : List V) (H : Heap) : evCode P Γ call n f m (cAt [1, 1, 1, 1, 0, 1, 0, 0, 1] B22) s H = seqNext P Γ call n f m (cAt [1, 1, 1, 1, 0, 1, 0, 0, 1, 1] B22) (evCode P Γ call n f m (cAt [1, 1, 1, 1, 0, 1, 0, 0, 1, 0] B22) s H) := at_seq (by kernel_rfl) rfl rfl s H
@[simp] theorem n22_38 (s : List V) (H : Heap) : evCode P Γ call n f m (cAt [1, 1, 1, 1, 0, 1, 0, 0, 1, 0] B22) s H = condW P Γ call n f m (cAt [1, 1, 1, 1, 0, 1, 0, 0, 1, 0, 0] B22) (cAt [1, 1, 1, 1, 0, 1, 0, 0, 1, 0, 1] B22) s H (evOperand Γ s (.tmp 28)) := at_cond (by kernel_rfl) (by kernel_rfl) rfl rfl s H
@[simp] theorem n22_39 (s : List V) (H : Heap) : evCode P Γ call n f m (cAt [1, 1, 1, 1, 0, 1, 0, 0, 1, 0, 0] B22) s H = some (.normal, s, H) := at_skip (by kernel_rfl) s H
@[simp] theorem n22_40 (s : List V) (H : Heap) : evCode P Γ call n f m (cAt [1, 1, 1, 1, 0, 1, 0, 0, 1, 0, 1] B22) s H = some (.exit 2, s, H) := at_exit (by kernel_rfl) s H
@[simp] theorem n22_41 (s : List V) (H : Heap) : evCode P Γ call n f m (cAt [1, 1, 1, 1, 0, 1, 0, 0, 1, 1] B22) s H = seqNext P Γ call n f m (cAt [1, 1, 1, 1, 0, 1, 0, 0, 1, 1, 1] B22) (evCode P Γ call n f m (cAt [1, 1, 1, 1, 0, 1, 0, 0, 1, 1, 0] B22) s H) := at_seq (by kernel_rfl) rfl rfl s H
@[simp] theorem n22_42 (s : List V) (H : Heap) : evCode P Γ call n f m (cAt [1, 1, 1, 1, 0, 1, 0, 0, 1, 1, 0] B22) s H = blockNext 3 (evCode P Γ call n f m (cAt [1, 1, 1, 1, 0, 1, 0, 0, 1, 1, 0, 0] B22) s H) := at_block (by kernel_rfl) rfl s H
@[simp] theorem n22_43 (s : List V) (H : Heap) : evCode P Γ call n f m (cAt [1, 1, 1, 1, 0, 1, 0, 0, 1, 1, 0, 0] B22) s H = seqNext P Γ call n f m (cAt [1, 1, 1, 1, 0, 1, 0, 0, 1, 1, 0, 0, 1] B22) (evCode P Γ call n f m (cAt [1, 1, 1, 1, 0, 1, 0, 0, 1, 1, 0, 0, 0] B22) s H) := at_seq (by kernel_rfl) rfl rfl s H
noncomputable def r22_44 : {l : List Oper // opsOf (cAt [1, 1, 1, 1, 0, 1, 0, 0, 1, 1, 0, 0, 0] B22) = l} := by
  apply Subtype.mk
  dsimp only [opsOf, cAt, kids, B22, bodyOf, Try.f22, List.getD, List.getElem?_cons_zero, List.getElem?_cons_succ, Option.getD_some]
@[simp] theorem n22_44 (s : List V) (H : Heap) : evCode P Γ call n f m (cAt [1, 1, 1, 1, 0, 1, 0, 0, 1, 1, 0, 0, 0] B22) s H = regNext (evOpsGo P Γ call r22_44.1 r22_44.1 s H) := at_region (by kernel_rfl) r22_44.2 s H
attribute [simp] r22_44
noncomputable def r22_45 : {l : List Oper // opsOf (cAt [1, 1, 1, 1, 0, 1, 0, 0, 1, 1, 0, 0, 1] B22) = l} := by
  apply Subtype.mk
  dsimp only [opsOf, cAt, kids, B22, bodyOf, Try.f22, List.getD, List.getElem?_cons_zero, List.getElem?_cons_succ, Option.getD_some]
@[simp] theorem n22_45 (s : List V) (H : Heap) : evCode P Γ call n f m (cAt [1, 1, 1, 1, 0, 1, 0, 0, 1, 1, 0, 0, 1] B22) s H = regNext (evOpsGo P Γ call r22_45.1 r22_45.1 s H) := at_region (by kernel_rfl) r22_45.2 s H
attribute [simp] r22_45
noncomputable def r22_46 : {l : List Oper // opsOf (cAt [1, 1, 1, 1, 0, 1, 0, 0, 1, 1, 1] B22) = l} := by
  apply Subtype.mk
  dsimp only [opsOf, cAt, kids, B22, bodyOf, Try.f22, List.getD, List.getElem?_cons_zero, List.getElem?_cons_succ, Option.getD_some]
@[simp] theorem n22_46 (s : List V) (H : Heap) : evCode P Γ call n f m (cAt [1, 1, 1, 1, 0, 1, 0, 0, 1, 1, 1] B22) s H = regNext (evOpsGo P Γ call r22_46.1 r22_46.1 s H) := at_region (by kernel_rfl) r22_46.2 s H
attribute [simp] r22_46
@[simp] theorem n22_47 (s : List V) (H : Heap) : evCode P Γ call n f m (cAt [1, 1, 1, 1, 1] B22) s H = seqNext P Γ call n f m (cAt [1, 1, 1, 1, 1, 1] B22) (evCode P Γ call n f m (cAt [1, 1, 1, 1, 1, 0] B22) s H) := at_seq (by kernel_rfl) rfl rfl s H
noncomputable def r22_48 : {l : List Oper // opsOf (cAt [1, 1, 1, 1, 1, 0] B22) = l} := by
  apply Subtype.mk
  dsimp only [opsOf, cAt, kids, B22, bodyOf, Try.f22, List.getD, List.getElem?_cons_zero, List.getElem?_cons_succ, Option.getD_some]
@[simp] theorem n22_48 (s : List V) (H : Heap) : evCode P Γ call n f m (cAt [1, 1, 1, 1, 1, 0] B22) s H = regNext (evOpsGo P Γ call r22_48.1 r22_48.1 s H) := at_region (by kernel_rfl) r22_48.2 s H
attribute [simp] r22_48
@[simp] theorem n22_49 (s : List V) (H : Heap) : evCode P Γ call n f m (cAt [1, 1, 1, 1, 1, 1] B22) s H = some (.ret, s, H) := at_ret (by kernel_rfl) s H
theorem b22 {k : Nat} (ho : ∀ args H, Γ.orc 22 args H = none) (args : List V) (H : Heap) (ha : args.length ≤ 36) : evF Try.prog Γ (k + 1) 22 args H = bodyEnd Try.prog [.tmp 2] H.length (evCode Try.prog Γ (evF Try.prog Γ k) k 22 H.length (cAt [] B22) (mkL 36 V.undef (enumV 0 args)) H) := body_at Try.func22 (by decide) rfl ho rfl rfl args H ha
end
end Go.Ev.Try
