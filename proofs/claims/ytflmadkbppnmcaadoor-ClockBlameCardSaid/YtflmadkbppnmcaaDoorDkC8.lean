/-
  CODE BY NAMES, printed by wip/tools/codes.py (own work).
-/
import Derived.Test.YtflmadkbppnmcaaDoorDkG
set_option maxRecDepth 100000
set_option linter.unusedVariables false
namespace Go.Ev.Tryd
open Go Go.Ev Go.Proofs
section
variable {P : Program} {Γ : Env} {call : CallF} {n f m : Nat}

noncomputable def B5 : Code := bodyOf Tryd.f5
@[simp] theorem n5_1 (s : List V) (H : Heap) : evCode P Γ call n f m (cAt [] B5) s H = seqNext P Γ call n f m (cAt [1] B5) (evCode P Γ call n f m (cAt [0] B5) s H) := at_seq (by kernel_rfl) rfl rfl s H
noncomputable def r5_2 : {l : List Oper // opsOf (cAt [0] B5) = l} := by
  apply Subtype.mk
  dsimp only [opsOf, cAt, kids, B5, bodyOf, Tryd.f5, List.getD, List.getElem?_cons_zero, List.getElem?_cons_succ, Option.getD_some]
@[simp] theorem n5_2 (s : List V) (H : Heap) : evCode P Γ call n f m (cAt [0] B5) s H = regNext (evOpsGo P Γ call r5_2.1 r5_2.1 s H) := at_region (by kernel_rfl) r5_2.2 s H
attribute [simp] r5_2
@[simp] theorem n5_3 (s : List V) (H : Heap) : evCode P Γ call n f m (cAt [1] B5) s H = seqNext P Γ call n f m (cAt [1, 1] B5) (evCode P Γ call n f m (cAt [1, 0] B5) s H) := at_seq (by kernel_rfl) rfl rfl s H
noncomputable def r5_4 : {l : List Oper // opsOf (cAt [1, 0] B5) = l} := by
  apply Subtype.mk
  dsimp only [opsOf, cAt, kids, B5, bodyOf, Tryd.f5, List.getD, List.getElem?_cons_zero, List.getElem?_cons_succ, Option.getD_some]
@[simp] theorem n5_4 (s : List V) (H : Heap) : evCode P Γ call n f m (cAt [1, 0] B5) s H = regNext (evOpsGo P Γ call r5_4.1 r5_4.1 s H) := at_region (by kernel_rfl) r5_4.2 s H
attribute [simp] r5_4
@[simp] theorem n5_5 (s : List V) (H : Heap) : evCode P Γ call n f m (cAt [1, 1] B5) s H = seqNext P Γ call n f m (cAt [1, 1, 1] B5) (evCode P Γ call n f m (cAt [1, 1, 0] B5) s H) := at_seq (by kernel_rfl) rfl rfl s H
noncomputable def r5_6 : {l : List Oper // opsOf (cAt [1, 1, 0] B5) = l} := by
  apply Subtype.mk
  dsimp only [opsOf, cAt, kids, B5, bodyOf, Tryd.f5, List.getD, List.getElem?_cons_zero, List.getElem?_cons_succ, Option.getD_some]
@[simp] theorem n5_6 (s : List V) (H : Heap) : evCode P Γ call n f m (cAt [1, 1, 0] B5) s H = regNext (evOpsGo P Γ call r5_6.1 r5_6.1 s H) := at_region (by kernel_rfl) r5_6.2 s H
attribute [simp] r5_6
@[simp] theorem n5_7 (s : List V) (H : Heap) : evCode P Γ call n f m (cAt [1, 1, 1] B5) s H = seqNext P Γ call n f m (cAt [1, 1, 1, 1] B5) (evCode P Γ call n f m (cAt [1, 1, 1, 0] B5) s H) := at_seq (by kernel_rfl) rfl rfl s H
@[simp] theorem n5_8 (s : List V) (H : Heap) : evCode P Γ call n f m (cAt [1, 1, 1, 0] B5) s H = seqNext P Γ call n f m (cAt [1, 1, 1, 0, 1] B5) (evCode P Γ call n f m (cAt [1, 1, 1, 0, 0] B5) s H) := at_seq (by kernel_rfl) rfl rfl s H
noncomputable def r5_9 : {l : List Oper // opsOf (cAt [1, 1, 1, 0, 0] B5) = l} := by
  apply Subtype.mk
  dsimp only [opsOf, cAt, kids, B5, bodyOf, Tryd.f5, List.getD, List.getElem?_cons_zero, List.getElem?_cons_succ, Option.getD_some]
@[simp] theorem n5_9 (s : List V) (H : Heap) : evCode P Γ call n f m (cAt [1, 1, 1, 0, 0] B5) s H = regNext (evOpsGo P Γ call r5_9.1 r5_9.1 s H) := at_region (by kernel_rfl) r5_9.2 s H
attribute [simp] r5_9
@[simp] theorem n5_10 (s : List V) (H : Heap) : evCode P Γ call n f m (cAt [1, 1, 1, 0, 1] B5) s H = condW P Γ call n f m (cAt [1, 1, 1, 0, 1, 0] B5) (cAt [1, 1, 1, 0, 1, 1] B5) s H (evOperand Γ s (.tmp 31)) := at_cond (by kernel_rfl) (by kernel_rfl) rfl rfl s H
@[simp] theorem n5_11 (s : List V) (H : Heap) : evCode P Γ call n f m (cAt [1, 1, 1, 0, 1, 0] B5) s H = seqNext P Γ call n f m (cAt [1, 1, 1, 0, 1, 0, 1] B5) (evCode P Γ call n f m (cAt [1, 1, 1, 0, 1, 0, 0] B5) s H) := at_seq (by kernel_rfl) rfl rfl s H
noncomputable def r5_12 : {l : List Oper // opsOf (cAt [1, 1, 1, 0, 1, 0, 0] B5) = l} := by
  apply Subtype.mk
  dsimp only [opsOf, cAt, kids, B5, bodyOf, Tryd.f5, List.getD, List.getElem?_cons_zero, List.getElem?_cons_succ, Option.getD_some]
@[simp] theorem n5_12 (s : List V) (H : Heap) : evCode P Γ call n f m (cAt [1, 1, 1, 0, 1, 0, 0] B5) s H = regNext (evOpsGo P Γ call r5_12.1 r5_12.1 s H) := at_region (by kernel_rfl) r5_12.2 s H
attribute [simp] r5_12
@[simp] theorem n5_13 (s : List V) (H : Heap) : evCode P Γ call n f m (cAt [1, 1, 1, 0, 1, 0, 1] B5) s H = some (.ret, s, H) := at_ret (by kernel_rfl) s H
@[simp] theorem n5_14 (s : List V) (H : Heap) : evCode P Γ call n f m (cAt [1, 1, 1, 0, 1, 1] B5) s H = some (.normal, s, H) := at_skip (by kernel_rfl) s H
@[simp] theorem n5_15 (s : List V) (H : Heap) : evCode P Γ call n f m (cAt [1, 1, 1, 1] B5) s H = seqNext P Γ call n f m (cAt [1, 1, 1, 1, 1] B5) (evCode P Γ call n f m (cAt [1, 1, 1, 1, 0] B5) s H) := at_seq (by kernel_rfl) rfl rfl s H
@[simp] theorem n5_16 (s : List V) (H : Heap) : evCode P Γ call n f m (cAt [1, 1, 1, 1, 0] B5) s H = seqNext P Γ call n f m (cAt [1, 1, 1, 1, 0, 1] B5) (evCode P Γ call n f m (cAt [1, 1, 1, 1, 0, 0] B5) s H) := at_seq (by kernel_rfl) rfl rfl s H
noncomputable def r5_17 : {l : List Oper // opsOf (cAt [1, 1, 1, 1, 0, 0] B5) = l} := by
  apply Subtype.mk
  dsimp only [opsOf, cAt, kids, B5, bodyOf, Tryd.f5, List.getD, List.getElem?_cons_zero, List.getElem?_cons_succ, Option.getD_some]
@[simp] theorem n5_17 (s : List V) (H : Heap) : evCode P Γ call n f m (cAt [1, 1, 1, 1, 0, 0] B5) s H = regNext (evOpsGo P Γ call r5_17.1 r5_17.1 s H) := at_region (by kernel_rfl) r5_17.2 s H
attribute [simp] r5_17
@[simp] theorem n5_18 (s : List V) (H : Heap) : evCode P Γ call n f m (cAt [1, 1, 1, 1, 0, 1] B5) s H = condW P Γ call n f m (cAt [1, 1, 1, 1, 0, 1, 0] B5) (cAt [1, 1, 1, 1, 0, 1, 1] B5) s H (evOperand Γ s (.tmp 44)) := at_cond (by kernel_rfl) (by kernel_rfl) rfl rfl s H
@[simp] theorem n5_19 (s : List V) (H : Heap) : evCode P Γ call n f m (cAt [1, 1, 1, 1, 0, 1, 0] B5) s H = seqNext P Γ call n f m (cAt [1, 1, 1, 1, 0, 1, 0, 1] B5) (evCode P Γ call n f m (cAt [1, 1, 1, 1, 0, 1, 0, 0] B5) s H) := at_seq (by kernel_rfl) rfl rfl s H
noncomputable def r5_20 : {l : List Oper // opsOf (cAt [1, 1, 1, 1, 0, 1, 0, 0] B5) = l} := by
  apply Subtype.mk
  dsimp only [opsOf, cAt, kids, B5, bodyOf, Tryd.f5, List.getD, List.getElem?_cons_zero, List.getElem?_cons_succ, Option.getD_some]
@[simp] theorem n5_20 (s : List V) (H : Heap) : evCode P Γ call n f m (cAt [1, 1, 1, 1, 0, 1, 0, 0] B5) s H = regNext (evOpsGo P Γ call r5_20.1 r5_20.1 s H) := at_region (by kernel_rfl) r5_20.2 s H
attribute [simp] r5_20
@[simp] theorem n5_21 (s : List V) (H : Heap) : evCode P Γ call n f m (cAt [1, 1, 1, 1, 0, 1, 0, 1] B5) s H = some (.ret, s, H) := at_ret (by kernel_rfl) s H
@[simp] theorem n5_22 (s : List V) (H : Heap) : evCode P Γ call n f m (cAt [1, 1, 1, 1, 0, 1, 1] B5) s H = some (.normal, s, H) := at_skip (by kernel_rfl) s H
@[simp] theorem n5_23 (s : List V) (H : Heap) : evCode P Γ call n f m (cAt [1, 1, 1, 1, 1] B5) s H = seqNext P Γ call n f m (cAt [1, 1, 1, 1, 1, 1] B5) (evCode P Γ call n f m (cAt [1, 1, 1, 1, 1, 0] B5) s H) := at_seq (by kernel_rfl) rfl rfl s H
noncomputable def r5_24 : {l : List Oper // opsOf (cAt [1, 1, 1, 1, 1, 0] B5) = l} := by
  apply Subtype.mk
  dsimp only [opsOf, cAt, kids, B5, bodyOf, Tryd.f5, List.getD, List.getElem?_cons_zero, List.getElem?_cons_succ, Option.getD_some]
@[simp] theorem n5_24 (s : List V) (H : Heap) : evCode P Γ call n f m (cAt [1, 1, 1, 1, 1, 0] B5) s H = regNext (evOpsGo P Γ call r5_24.1 r5_24.1 s H) := at_region (by kernel_rfl) r5_24.2 s H
attribute [simp] r5_24
@[simp] theorem n5_25 (s : List V) (H : Heap) : evCode P Γ call n f m (cAt [1, 1, 1, 1, 1, 1] B5) s H = seqNext P Γ call n f m (cAt [1, 1, 1, 1, 1, 1, 1] B5) (evCode P Γ call n f m (cAt [1, 1, 1, 1, 1, 1, 0] B5) s H) := at_seq (by kernel_rfl) rfl rfl s H
@[simp] theorem n5_26 (s : List V) (H : Heap) : evCode P Γ call n f m (cAt [1, 1, 1, 1, 1, 1, 0] B5) s H = seqNext P Γ call n f m (cAt [1, 1, 1, 1, 1, 1, 0, 1] B5) (evCode P Γ call n f m (cAt [1, 1, 1, 1, 1, 1, 0, 0] B5) s H) := at_seq (by kernel_rfl) rfl rfl s H
noncomputable def r5_27 : {l : List Oper // opsOf (cAt [1, 1, 1, 1, 1, 1, 0, 0] B5) = l} := by
  apply Subtype.mk
  dsimp only [opsOf, cAt, kids, B5, bodyOf, Tryd.f5, List.getD, List.getElem?_cons_zero, List.getElem?_cons_succ, Option.getD_some]
@[simp] theorem n5_27 (s : List V) (H : Heap) : evCode P Γ call n f m (cAt [1, 1, 1, 1, 1, 1, 0, 0] B5) s H = regNext (evOpsGo P Γ call r5_27.1 r5_27.1 s H) := at_region (by kernel_rfl) r5_27.2 s H
attribute [simp] r5_27
@[simp] theorem n5_28 (s : List V) (H : Heap) : evCode P Γ call n f m (cAt [1, 1, 1, 1, 1, 1, 0, 1] B5) s H = blockNext 0 (evCode P Γ call n f m (cAt [1, 1, 1, 1, 1, 1, 0, 1, 0] B5) s H) := at_block (by kernel_rfl) rfl s H
@[simp] theorem n5_29 (s : List V) (H : Heap) : evCode P Γ call n f m (cAt [1, 1, 1, 1, 1, 1, 0, 1, 0] B5) s H = evLoopC P Γ call n f m (cAt [1, 1, 1, 1, 1, 1, 0, 1, 0, 0] B5) n s H := at_loop (by kernel_rfl) rfl s H
noncomputable abbrev L5_9 : Code := cAt [1, 1, 1, 1, 1, 1, 0, 1, 0, 0] B5
@[simp] theorem n5_29f : firstRegion (cAt [1, 1, 1, 1, 1, 1, 0, 1, 0, 0] B5) = 9 := by kernel_rfl
@[simp] theorem n5_30 (s : List V) (H : Heap) : evCode P Γ call n f m (cAt [1, 1, 1, 1, 1, 1, 0, 1, 0, 0] B5) s H = seqNext P Γ call n f m (cAt [1, 1, 1, 1, 1, 1, 0, 1, 0, 0, 1] B5) (evCode P Γ call n f m (cAt [1, 1, 1, 1, 1, 1, 0, 1, 0, 0, 0] B5) s H) := at_seq (by kernel_rfl) rfl rfl s H
noncomputable def r5_31 : {l : List Oper // opsOf (cAt [1, 1, 1, 1, 1, 1, 0, 1, 0, 0, 0] B5) = l} := by
  apply Subtype.mk
  dsimp only [opsOf, cAt, kids, B5, bodyOf, Tryd.f5, List.getD, List.getElem?_cons_zero, List.getElem?_cons_succ, Option.getD_some]
@[simp] theorem n5_31 (s : List V) (H : Heap) : evCode P Γ call n f m (cAt [1, 1, 1, 1, 1, 1, 0, 1, 0, 0, 0] B5) s H = regNext (evOpsGo P Γ call r5_31.1 r5_31.1 s H) := at_region (by kernel_rfl) r5_31.2 s H
attribute [simp] r5_31
@[simp] theorem n5_32 (s : List V) (H : Heap) : evCode P Γ call n f m (cAt [1, 1, 1, 1, 1, 1, 0, 1, 0, 0, 1] B5) s H = seqNext P Γ call n f m (cAt [1, 1, 1, 1, 1, 1, 0, 1, 0, 0, 1, 1] B5) (evCode P Γ call n f m (cAt [1, 1, 1, 1, 1, 1, 0, 1, 0, 0, 1, 0] B5) s H) := at_seq (by kernel_rfl) rfl rfl s H
@[simp] theorem n5_33 (s : List V) (H : Heap) : evCode P Γ call n f m (cAt [1, 1, 1, 1, 1, 1, 0, 1, 0, 0, 1, 0] B5) s H = condW P Γ call n f m (cAt [1, 1, 1, 1, 1, 1, 0, 1, 0, 0, 1, 0, 0] B5) (cAt [1, 1, 1, 1, 1, 1, 0, 1, 0, 0, 1, 0, 1] B5) s H (evOperand Γ s (.tmp 48)) := at_cond (by kernel_rfl) (by kernel_rfl) rfl rfl s H
@[simp] theorem n5_34 (s : List V) (H : Heap) : evCode P Γ call n f m (cAt [1, 1, 1, 1, 1, 1, 0, 1, 0, 0, 1, 0, 0] B5) s H = some (.normal, s, H) := at_skip (by kernel_rfl) s H
@[simp] theorem n5_35 (s : List V) (H : Heap) : evCode P Γ call n f m (cAt [1, 1, 1, 1, 1, 1, 0, 1, 0, 0, 1, 0, 1] B5) s H = some (.exit 0, s, H) := at_exit (by kernel_rfl) s H
@[simp] theorem n5_36 (s : List V) (H : Heap) : evCode P Γ call n f m (cAt [1, 1, 1, 1, 1, 1, 0, 1, 0, 0, 1, 1] B5) s H = seqNext P Γ call n f m (cAt [1, 1, 1, 1, 1, 1, 0, 1, 0, 0, 1, 1, 1] B5) (evCode P Γ call n f m (cAt [1, 1, 1, 1, 1, 1, 0, 1, 0, 0, 1, 1, 0] B5) s H) := at_seq (by kernel_rfl) rfl rfl s H
@[simp] theorem n5_37 (s : List V) (H : Heap) : evCode P Γ call n f m (cAt [1, 1, 1, 1, 1, 1, 0, 1, 0, 0, 1, 1, 0] B5) s H = blockNext 1 (evCode P Γ call n f m (cAt [1, 1, 1, 1, 1, 1, 0, 1, 0, 0, 1, 1, 0, 0] B5) s H) := at_block (by kernel_rfl) rfl s H
@[simp] theorem n5_38 (s : List V) (H : Heap) : evCode P Γ call n f m (cAt [1, 1, 1, 1, 1, 1, 0, 1, 0, 0, 1, 1, 0, 0] B5) s H = seqNext P Γ call n f m (cAt [1, 1, 1, 1, 1, 1, 0, 1, 0, 0, 1, 1, 0, 0, 1] B5) (evCode P Γ call n f m (cAt [1, 1, 1, 1, 1, 1, 0, 1, 0, 0, 1, 1, 0, 0, 0] B5) s H) := at_seq (by kernel_rfl) rfl rfl s H
noncomputable def r5_39 : {l : List Oper // opsOf (cAt [1, 1, 1, 1, 1, 1, 0, 1, 0, 0, 1, 1, 0, 0, 0] B5) = l} := by
  apply Subtype.mk
  dsimp only [opsOf, cAt, kids, B5, bodyOf, Tryd.f5, List.getD, List.getElem?_cons_zero, List.getElem?_cons_succ, Option.getD_some]
@[simp] theorem n5_39 (s : List V) (H : Heap) : evCode P Γ call n f m (cAt [1, 1, 1, 1, 1, 1, 0, 1, 0, 0, 1, 1, 0, 0, 0] B5) s H = regNext (evOpsGo P Γ call r5_39.1 r5_39.1 s H) := at_region (by kernel_rfl) r5_39.2 s H
attribute [simp] r5_39
@[simp] theorem n5_40 (s : List V) (H : Heap) : evCode P Γ call n f m (cAt [1, 1, 1, 1, 1, 1, 0, 1, 0, 0, 1, 1, 0, 0, 1] B5) s H = seqNext P Γ call n f m (cAt [1, 1, 1, 1, 1, 1, 0, 1, 0, 0, 1, 1, 0, 0, 1, 1] B5) (evCode P Γ call n f m (cAt [1, 1, 1, 1, 1, 1, 0, 1, 0, 0, 1, 1, 0, 0, 1, 0] B5) s H) := at_seq (by kernel_rfl) rfl rfl s H
@[simp] theorem n5_41 (s : List V) (H : Heap) : evCode P Γ call n f m (cAt [1, 1, 1, 1, 1, 1, 0, 1, 0, 0, 1, 1, 0, 0, 1, 0] B5) s H = seqNext P Γ call n f m (cAt [1, 1, 1, 1, 1, 1, 0, 1, 0, 0, 1, 1, 0, 0, 1, 0, 1] B5) (evCode P Γ call n f m (cAt [1, 1, 1, 1, 1, 1, 0, 1, 0, 0, 1, 1, 0, 0, 1, 0, 0] B5) s H) := at_seq (by kernel_rfl) rfl rfl s H
noncomputable def r5_42 : {l : List Oper // opsOf (cAt [1, 1, 1, 1, 1, 1, 0, 1, 0, 0, 1, 1, 0, 0, 1, 0, 0] B5) = l} := by
  apply Subtype.mk
  dsimp only [opsOf, cAt, kids, B5, bodyOf, Tryd.f5, List.getD, List.getElem?_cons_zero, List.getElem?_cons_succ, Option.getD_some]
@[simp] theorem n5_42 (s : List V) (H : Heap) : evCode P Γ call n f m (cAt [1, 1, 1, 1, 1, 1, 0, 1, 0, 0, 1, 1, 0, 0, 1, 0, 0] B5) s H = regNext (evOpsGo P Γ call r5_42.1 r5_42.1 s H) := at_region (by kernel_rfl) r5_42.2 s H
attribute [simp] r5_42
@[simp] theorem n5_43 (s : List V) (H : Heap) : evCode P Γ call n f m (cAt [1, 1, 1, 1, 1, 1, 0, 1, 0, 0, 1, 1, 0, 0, 1, 0, 1] B5) s H = condW P Γ call n f m (cAt [1, 1, 1, 1, 1, 1, 0, 1, 0, 0, 1, 1, 0, 0, 1, 0, 1, 0] B5) (cAt [1, 1, 1, 1, 1, 1, 0, 1, 0, 0, 1, 1, 0, 0, 1, 0, 1, 1] B5) s H (evOperand Γ s (.tmp 58)) := at_cond (by kernel_rfl) (by kernel_rfl) rfl rfl s H
@[simp] theorem n5_44 (s : List V) (H : Heap) : evCode P Γ call n f m (cAt [1, 1, 1, 1, 1, 1, 0, 1, 0, 0, 1, 1, 0, 0, 1, 0, 1, 0] B5) s H = seqNext P Γ call n f m (cAt [1, 1, 1, 1, 1, 1, 0, 1, 0, 0, 1, 1, 0, 0, 1, 0, 1, 0, 1] B5) (evCode P Γ call n f m (cAt [1, 1, 1, 1, 1, 1, 0, 1, 0, 0, 1, 1, 0, 0, 1, 0, 1, 0, 0] B5) s H) := at_seq (by kernel_rfl) rfl rfl s H
noncomputable def r5_45 : {l : List Oper // opsOf (cAt [1, 1, 1, 1, 1, 1, 0, 1, 0, 0, 1, 1, 0, 0, 1, 0, 1, 0, 0] B5) = l} := by
  apply Subtype.mk
  dsimp only [opsOf, cAt, kids, B5, bodyOf, Tryd.f5, List.getD, List.getElem?_cons_zero, List.getElem?_cons_succ, Option.getD_some]
@[simp] theorem n5_45 (s : List V) (H : Heap) : evCode P Γ call n f m (cAt [1, 1, 1, 1, 1, 1, 0, 1, 0, 0, 1, 1, 0, 0, 1, 0, 1, 0, 0] B5) s H = regNext (evOpsGo P Γ call r5_45.1 r5_45.1 s H) := at_region (by kernel_rfl) r5_45.2 s H
attribute [simp] r5_45
@[simp] theorem n5_46 (s : List V) (H : Heap) : evCode P Γ call n f m (cAt [1, 1, 1, 1, 1, 1, 0, 1, 0, 0, 1, 1, 0, 0, 1, 0, 1, 0, 1] B5) s H = some (.ret, s, H) := at_ret (by kernel_rfl) s H
@[simp] theorem n5_47 (s : List V) (H : Heap) : evCode P Γ call n f m (cAt [1, 1, 1, 1, 1, 1, 0, 1, 0, 0, 1, 1, 0, 0, 1, 0, 1, 1] B5) s H = some (.normal, s, H) := at_skip (by kernel_rfl) s H
noncomputable def r5_48 : {l : List Oper // opsOf (cAt [1, 1, 1, 1, 1, 1, 0, 1, 0, 0, 1, 1, 0, 0, 1, 1] B5) = l} := by
  apply Subtype.mk
  dsimp only [opsOf, cAt, kids, B5, bodyOf, Tryd.f5, List.getD, List.getElem?_cons_zero, List.getElem?_cons_succ, Option.getD_some]
@[simp] theorem n5_48 (s : List V) (H : Heap) : evCode P Γ call n f m (cAt [1, 1, 1, 1, 1, 1, 0, 1, 0, 0, 1, 1, 0, 0, 1, 1] B5) s H = regNext (evOpsGo P Γ call r5_48.1 r5_48.1 s H) := at_region (by kernel_rfl) r5_48.2 s H
attribute [simp] r5_48
noncomputable def r5_49 : {l : List Oper // opsOf (cAt [1, 1, 1, 1, 1, 1, 0, 1, 0, 0, 1, 1, 1] B5) = l} := by
  apply Subtype.mk
  dsimp only [opsOf, cAt, kids, B5, bodyOf, Tryd.f5, List.getD, List.getElem?_cons_zero, List.getElem?_cons_succ, Option.getD_some]
@[simp] theorem n5_49 (s : List V) (H : Heap) : evCode P Γ call n f m (cAt [1, 1, 1, 1, 1, 1, 0, 1, 0, 0, 1, 1, 1] B5) s H = regNext (evOpsGo P Γ call r5_49.1 r5_49.1 s H) := at_region (by kernel_rfl) r5_49.2 s H
attribute [simp] r5_49
@[simp] theorem n5_50 (s : List V) (H : Heap) : evCode P Γ call n f m (cAt [1, 1, 1, 1, 1, 1, 1] B5) s H = seqNext P Γ call n f m (cAt [1, 1, 1, 1, 1, 1, 1, 1] B5) (evCode P Γ call n f m (cAt [1, 1, 1, 1, 1, 1, 1, 0] B5) s H) := at_seq (by kernel_rfl) rfl rfl s H
@[simp] theorem n5_51 (s : List V) (H : Heap) : evCode P Γ call n f m (cAt [1, 1, 1, 1, 1, 1, 1, 0] B5) s H = seqNext P Γ call n f m (cAt [1, 1, 1, 1, 1, 1, 1, 0, 1] B5) (evCode P Γ call n f m (cAt [1, 1, 1, 1, 1, 1, 1, 0, 0] B5) s H) := at_seq (by kernel_rfl) rfl rfl s H
noncomputable def r5_52 : {l : List Oper // opsOf (cAt [1, 1, 1, 1, 1, 1, 1, 0, 0] B5) = l} := by
  apply Subtype.mk
  dsimp only [opsOf, cAt, kids, B5, bodyOf, Tryd.f5, List.getD, List.getElem?_cons_zero, List.getElem?_cons_succ, Option.getD_some]
@[simp] theorem n5_52 (s : List V) (H : Heap) : evCode P Γ call n f m (cAt [1, 1, 1, 1, 1, 1, 1, 0, 0] B5) s H = regNext (evOpsGo P Γ call r5_52.1 r5_52.1 s H) := at_region (by kernel_rfl) r5_52.2 s H
attribute [simp] r5_52
@[simp] theorem n5_53 (s : List V) (H : Heap) : evCode P Γ call n f m (cAt [1, 1, 1, 1, 1, 1, 1, 0, 1] B5) s H = seqNext P Γ call n f m (cAt [1, 1, 1, 1, 1, 1, 1, 0, 1, 1] B5) (evCode P Γ call n f m (cAt [1, 1, 1, 1, 1, 1, 1, 0, 1, 0] B5) s H) := at_seq (by kernel_rfl) rfl rfl s H
noncomputable def r5_54 : {l : List Oper // opsOf (cAt [1, 1, 1, 1, 1, 1, 1, 0, 1, 0] B5) = l} := by
  apply Subtype.mk
  dsimp only [opsOf, cAt, kids, B5, bodyOf, Tryd.f5, List.getD, List.getElem?_cons_zero, List.getElem?_cons_succ, Option.getD_some]
@[simp] theorem n5_54 (s : List V) (H : Heap) : evCode P Γ call n f m (cAt [1, 1, 1, 1, 1, 1, 1, 0, 1, 0] B5) s H = regNext (evOpsGo P Γ call r5_54.1 r5_54.1 s H) := at_region (by kernel_rfl) r5_54.2 s H
attribute [simp] r5_54
@[simp] theorem n5_55 (s : List V) (H : Heap) : evCode P Γ call n f m (cAt [1, 1, 1, 1, 1, 1, 1, 0, 1, 1] B5) s H = condW P Γ call n f m (cAt [1, 1, 1, 1, 1, 1, 1, 0, 1, 1, 0] B5) (cAt [1, 1, 1, 1, 1, 1, 1, 0, 1, 1, 1] B5) s H (evOperand Γ s (.tmp 74)) := at_cond (by kernel_rfl) (by kernel_rfl) rfl rfl s H
@[simp] theorem n5_56 (s : List V) (H : Heap) : evCode P Γ call n f m (cAt [1, 1, 1, 1, 1, 1, 1, 0, 1, 1, 0] B5) s H = seqNext P Γ call n f m (cAt [1, 1, 1, 1, 1, 1, 1, 0, 1, 1, 0, 1] B5) (evCode P Γ call n f m (cAt [1, 1, 1, 1, 1, 1, 1, 0, 1, 1, 0, 0] B5) s H) := at_seq (by kernel_rfl) rfl rfl s H
noncomputable def r5_57 : {l : List Oper // opsOf (cAt [1, 1, 1, 1, 1, 1, 1, 0, 1, 1, 0, 0] B5) = l} := by
  apply Subtype.mk
  dsimp only [opsOf, cAt, kids, B5, bodyOf, Tryd.f5, List.getD, List.getElem?_cons_zero, List.getElem?_cons_succ, Option.getD_some]
@[simp] theorem n5_57 (s : List V) (H : Heap) : evCode P Γ call n f m (cAt [1, 1, 1, 1, 1, 1, 1, 0, 1, 1, 0, 0] B5) s H = regNext (evOpsGo P Γ call r5_57.1 r5_57.1 s H) := at_region (by kernel_rfl) r5_57.2 s H
attribute [simp] r5_57
@[simp] theorem n5_58 (s : List V) (H : Heap) : evCode P Γ call n f m (cAt [1, 1, 1, 1, 1, 1, 1, 0, 1, 1, 0, 1] B5) s H = some (.ret, s, H) := at_ret (by kernel_rfl) s H
@[simp] theorem n5_59 (s : List V) (H : Heap) : evCode P Γ call n f m (cAt [1, 1, 1, 1, 1, 1, 1, 0, 1, 1, 1] B5) s H = some (.normal, s, H) := at_skip (by kernel_rfl) s H
@[simp] theorem n5_60 (s : List V) (H : Heap) : evCode P Γ call n f m (cAt [1, 1, 1, 1, 1, 1, 1, 1] B5) s H = seqNext P Γ call n f m (cAt [1, 1, 1, 1, 1, 1, 1, 1, 1] B5) (evCode P Γ call n f m (cAt [1, 1, 1, 1, 1, 1, 1, 1, 0] B5) s H) := at_seq (by kernel_rfl) rfl rfl s H
@[simp] theorem n5_61 (s : List V) (H : Heap) : evCode P Γ call n f m (cAt [1, 1, 1, 1, 1, 1, 1, 1, 0] B5) s H = seqNext P Γ call n f m (cAt [1, 1, 1, 1, 1, 1, 1, 1, 0, 1] B5) (evCode P Γ call n f m (cAt [1, 1, 1, 1, 1, 1, 1, 1, 0, 0] B5) s H) := at_seq (by kernel_rfl) rfl rfl s H
noncomputable def r5_62 : {l : List Oper // opsOf (cAt [1, 1, 1, 1, 1, 1, 1, 1, 0, 0] B5) = l} := by
  apply Subtype.mk
  dsimp only [opsOf, cAt, kids, B5, bodyOf, Tryd.f5, List.getD, List.getElem?_cons_zero, List.getElem?_cons_succ, Option.getD_some]
@[simp] theorem n5_62 (s : List V) (H : Heap) : evCode P Γ call n f m (cAt [1, 1, 1, 1, 1, 1, 1, 1, 0, 0] B5) s H = regNext (evOpsGo P Γ call r5_62.1 r5_62.1 s H) := at_region (by kernel_rfl) r5_62.2 s H
attribute [simp] r5_62
@[simp] theorem n5_63 (s : List V) (H : Heap) : evCode P Γ call n f m (cAt [1, 1, 1, 1, 1, 1, 1, 1, 0, 1] B5) s H = blockNext 2 (evCode P Γ call n f m (cAt [1, 1, 1, 1, 1, 1, 1, 1, 0, 1, 0] B5) s H) := at_block (by kernel_rfl) rfl s H
@[simp] theorem n5_64 (s : List V) (H : Heap) : evCode P Γ call n f m (cAt [1, 1, 1, 1, 1, 1, 1, 1, 0, 1, 0] B5) s H = evLoopC P Γ call n f m (cAt [1, 1, 1, 1, 1, 1, 1, 1, 0, 1, 0, 0] B5) n s H := at_loop (by kernel_rfl) rfl s H
noncomputable abbrev L5_19 : Code := cAt [1, 1, 1, 1, 1, 1, 1, 1, 0, 1, 0, 0] B5
@[simp] theorem n5_64f : firstRegion (cAt [1, 1, 1, 1, 1, 1, 1, 1, 0, 1, 0, 0] B5) = 19 := by kernel_rfl
@[simp] theorem n5_65 (s : List V) (H : Heap) : evCode P Γ call n f m (cAt [1, 1, 1, 1, 1, 1, 1, 1, 0, 1, 0, 0] B5) s H = seqNext P Γ call n f m (cAt [1, 1, 1, 1, 1, 1, 1, 1, 0, 1, 0, 0, 1] B5) (evCode P Γ call n f m (cAt [1, 1, 1, 1, 1, 1, 1, 1, 0, 1, 0, 0, 0] B5) s H) := at_seq (by kernel_rfl) rfl rfl s H
noncomputable def r5_66 : {l : List Oper // opsOf (cAt [1, 1, 1, 1, 1, 1, 1, 1, 0, 1, 0, 0, 0] B5) = l} := by
  apply Subtype.mk
  dsimp only [opsOf, cAt, kids, B5, bodyOf, Tryd.f5, List.getD, List.getElem?_cons_zero, List.getElem?_cons_succ, Option.getD_some]
@[simp] theorem n5_66 (s : List V) (H : Heap) : evCode P Γ call n f m (cAt [1, 1, 1, 1, 1, 1, 1, 1, 0, 1, 0, 0, 0] B5) s H = regNext (evOpsGo P Γ call r5_66.1 r5_66.1 s H) := at_region (by kernel_rfl) r5_66.2 s H
attribute [simp] r5_66
@[simp] theorem n5_67 (s : List V) (H : Heap) : evCode P Γ call n f m (cAt [1, 1, 1, 1, 1, 1, 1, 1, 0, 1, 0, 0, 1] B5) s H = seqNext P Γ call n f m (cAt [1, 1, 1, 1, 1, 1, 1, 1, 0, 1, 0, 0, 1, 1] B5) (evCode P Γ call n f m (cAt [1, 1, 1, 1, 1, 1, 1, 1, 0, 1, 0, 0, 1, 0] B5) s H) := at_seq (by kernel_rfl) rfl rfl s H
@[simp] theorem n5_68 (s : List V) (H : Heap) : evCode P Γ call n f m (cAt [1, 1, 1, 1, 1, 1, 1, 1, 0, 1, 0, 0, 1, 0] B5) s H = condW P Γ call n f m (cAt [1, 1, 1, 1, 1, 1, 1, 1, 0, 1, 0, 0, 1, 0, 0] B5) (cAt [1, 1, 1, 1, 1, 1, 1, 1, 0, 1, 0, 0, 1, 0, 1] B5) s H (evOperand Γ s (.tmp 78)) := at_cond (by kernel_rfl) (by kernel_rfl) rfl rfl s H
@[simp] theorem n5_69 (s : List V) (H : Heap) : evCode P Γ call n f m (cAt [1, 1, 1, 1, 1, 1, 1, 1, 0, 1, 0, 0, 1, 0, 0] B5) s H = some (.normal, s, H) := at_skip (by kernel_rfl) s H
@[simp] theorem n5_70 (s : List V) (H : Heap) : evCode P Γ call n f m (cAt [1, 1, 1, 1, 1, 1, 1, 1, 0, 1, 0, 0, 1, 0, 1] B5) s H = some (.exit 2, s, H) := at_exit (by kernel_rfl) s H
@[simp] theorem n5_71 (s : List V) (H : Heap) : evCode P Γ call n f m (cAt [1, 1, 1, 1, 1, 1, 1, 1, 0, 1, 0, 0, 1, 1] B5) s H = seqNext P Γ call n f m (cAt [1, 1, 1, 1, 1, 1, 1, 1, 0, 1, 0, 0, 1, 1, 1] B5) (evCode P Γ call n f m (cAt [1, 1, 1, 1, 1, 1, 1, 1, 0, 1, 0, 0, 1, 1, 0] B5) s H) := at_seq (by kernel_rfl) rfl rfl s H
@[simp] theorem n5_72 (s : List V) (H : Heap) : evCode P Γ call n f m (cAt [1, 1, 1, 1, 1, 1, 1, 1, 0, 1, 0, 0, 1, 1, 0] B5) s H = blockNext 3 (evCode P Γ call n f m (cAt [1, 1, 1, 1, 1, 1, 1, 1, 0, 1, 0, 0, 1, 1, 0, 0] B5) s H) := at_block (by kernel_rfl) rfl s H
@[simp] theorem n5_73 (s : List V) (H : Heap) : evCode P Γ call n f m (cAt [1, 1, 1, 1, 1, 1, 1, 1, 0, 1, 0, 0, 1, 1, 0, 0] B5) s H = seqNext P Γ call n f m (cAt [1, 1, 1, 1, 1, 1, 1, 1, 0, 1, 0, 0, 1, 1, 0, 0, 1] B5) (evCode P Γ call n f m (cAt [1, 1, 1, 1, 1, 1, 1, 1, 0, 1, 0, 0, 1, 1, 0, 0, 0] B5) s H) := at_seq (by kernel_rfl) rfl rfl s H
noncomputable def r5_74 : {l : List Oper // opsOf (cAt [1, 1, 1, 1, 1, 1, 1, 1, 0, 1, 0, 0, 1, 1, 0, 0, 0] B5) = l} := by
  apply Subtype.mk
  dsimp only [opsOf, cAt, kids, B5, bodyOf, Tryd.f5, List.getD, List.getElem?_cons_zero, List.getElem?_cons_succ, Option.getD_some]
@[simp] theorem n5_74 (s : List V) (H : Heap) : evCode P Γ call n f m (cAt [1, 1, 1, 1, 1, 1, 1, 1, 0, 1, 0, 0, 1, 1, 0, 0, 0] B5) s H = regNext (evOpsGo P Γ call r5_74.1 r5_74.1 s H) := at_region (by kernel_rfl) r5_74.2 s H
attribute [simp] r5_74
@[simp] theorem n5_75 (s : List V) (H : Heap) : evCode P Γ call n f m (cAt [1, 1, 1, 1, 1, 1, 1, 1, 0, 1, 0, 0, 1, 1, 0, 0, 1] B5) s H = seqNext P Γ call n f m (cAt [1, 1, 1, 1, 1, 1, 1, 1, 0, 1, 0, 0, 1, 1, 0, 0, 1, 1] B5) (evCode P Γ call n f m (cAt [1, 1, 1, 1, 1, 1, 1, 1, 0, 1, 0, 0, 1, 1, 0, 0, 1, 0] B5) s H) := at_seq (by kernel_rfl) rfl rfl s H
noncomputable def r5_76 : {l : List Oper // opsOf (cAt [1, 1, 1, 1, 1, 1, 1, 1, 0, 1, 0, 0, 1, 1, 0, 0, 1, 0] B5) = l} := by
  apply Subtype.mk
  dsimp only [opsOf, cAt, kids, B5, bodyOf, Tryd.f5, List.getD, List.getElem?_cons_zero, List.getElem?_cons_succ, Option.getD_some]
@[simp] theorem n5_76 (s : List V) (H : Heap) : evCode P Γ call n f m (cAt [1, 1, 1, 1, 1, 1, 1, 1, 0, 1, 0, 0, 1, 1, 0, 0, 1, 0] B5) s H = regNext (drawR P Γ call r5_76.1 [([1, 2, 3, 4, 5, 6, 7, 8, 9], [82, 83, 84, 85, 86, 87, 88, 89, 90]), ([0, 2, 4, 5, 6, 7], [81, 83, 85, 86, 87, 88]), ([0, 1, 4, 5, 6, 7], [81, 82, 85, 86, 87, 88]), ([0, 4, 5, 6, 7], [81, 85, 86, 87, 88]), ([0, 1, 2, 3, 5, 6], [81, 82, 83, 84, 86, 87]), ([0, 1, 2, 3, 4], [81, 82, 83, 84, 85]), ([0, 1, 2, 3, 4], [81, 82, 83, 84, 85]), ([0, 1, 2, 3], [81, 82, 83, 84]), ([0], [81]), ([0], [81]), ([], []), ([], []), ([13], [93]), ([12, 14], [92, 13]), ([13], [93]), ([], [])] s H) := at_drawT (by kernel_rfl) r5_76.2 (by kernel_rfl) s H
attribute [simp] r5_76
@[simp] theorem n5_77 (s : List V) (H : Heap) : evCode P Γ call n f m (cAt [1, 1, 1, 1, 1, 1, 1, 1, 0, 1, 0, 0, 1, 1, 0, 0, 1, 1] B5) s H = seqNext P Γ call n f m (cAt [1, 1, 1, 1, 1, 1, 1, 1, 0, 1, 0, 0, 1, 1, 0, 0, 1, 1, 1] B5) (evCode P Γ call n f m (cAt [1, 1, 1, 1, 1, 1, 1, 1, 0, 1, 0, 0, 1, 1, 0, 0, 1, 1, 0] B5) s H) := at_seq (by kernel_rfl) rfl rfl s H
noncomputable def r5_78 : {l : List Oper // opsOf (cAt [1, 1, 1, 1, 1, 1, 1, 1, 0, 1, 0, 0, 1, 1, 0, 0, 1, 1, 0] B5) = l} := by
  apply Subtype.mk
  dsimp only [opsOf, cAt, kids, B5, bodyOf, Tryd.f5, List.getD, List.getElem?_cons_zero, List.getElem?_cons_succ, Option.getD_some]
@[simp] theorem n5_78 (s : List V) (H : Heap) : evCode P Γ call n f m (cAt [1, 1, 1, 1, 1, 1, 1, 1, 0, 1, 0, 0, 1, 1, 0, 0, 1, 1, 0] B5) s H = regNext (evOpsGo P Γ call r5_78.1 r5_78.1 s H) := at_region (by kernel_rfl) r5_78.2 s H
attribute [simp] r5_78
@[simp] theorem n5_79 (s : List V) (H : Heap) : evCode P Γ call n f m (cAt [1, 1, 1, 1, 1, 1, 1, 1, 0, 1, 0, 0, 1, 1, 0, 0, 1, 1, 1] B5) s H = condW P Γ call n f m (cAt [1, 1, 1, 1, 1, 1, 1, 1, 0, 1, 0, 0, 1, 1, 0, 0, 1, 1, 1, 0] B5) (cAt [1, 1, 1, 1, 1, 1, 1, 1, 0, 1, 0, 0, 1, 1, 0, 0, 1, 1, 1, 1] B5) s H (evOperand Γ s (.tmp 95)) := at_cond (by kernel_rfl) (by kernel_rfl) rfl rfl s H
@[simp] theorem n5_80 (s : List V) (H : Heap) : evCode P Γ call n f m (cAt [1, 1, 1, 1, 1, 1, 1, 1, 0, 1, 0, 0, 1, 1, 0, 0, 1, 1, 1, 0] B5) s H = seqNext P Γ call n f m (cAt [1, 1, 1, 1, 1, 1, 1, 1, 0, 1, 0, 0, 1, 1, 0, 0, 1, 1, 1, 0, 1] B5) (evCode P Γ call n f m (cAt [1, 1, 1, 1, 1, 1, 1, 1, 0, 1, 0, 0, 1, 1, 0, 0, 1, 1, 1, 0, 0] B5) s H) := at_seq (by kernel_rfl) rfl rfl s H
noncomputable def r5_81 : {l : List Oper // opsOf (cAt [1, 1, 1, 1, 1, 1, 1, 1, 0, 1, 0, 0, 1, 1, 0, 0, 1, 1, 1, 0, 0] B5) = l} := by
  apply Subtype.mk
  dsimp only [opsOf, cAt, kids, B5, bodyOf, Tryd.f5, List.getD, List.getElem?_cons_zero, List.getElem?_cons_succ, Option.getD_some]
@[simp] theorem n5_81 (s : List V) (H : Heap) : evCode P Γ call n f m (cAt [1, 1, 1, 1, 1, 1, 1, 1, 0, 1, 0, 0, 1, 1, 0, 0, 1, 1, 1, 0, 0] B5) s H = regNext (evOpsGo P Γ call r5_81.1 r5_81.1 s H) := at_region (by kernel_rfl) r5_81.2 s H
attribute [simp] r5_81
@[simp] theorem n5_82 (s : List V) (H : Heap) : evCode P Γ call n f m (cAt [1, 1, 1, 1, 1, 1, 1, 1, 0, 1, 0, 0, 1, 1, 0, 0, 1, 1, 1, 0, 1] B5) s H = some (.ret, s, H) := at_ret (by kernel_rfl) s H
@[simp] theorem n5_83 (s : List V) (H : Heap) : evCode P Γ call n f m (cAt [1, 1, 1, 1, 1, 1, 1, 1, 0, 1, 0, 0, 1, 1, 0, 0, 1, 1, 1, 1] B5) s H = some (.normal, s, H) := at_skip (by kernel_rfl) s H
noncomputable def r5_84 : {l : List Oper // opsOf (cAt [1, 1, 1, 1, 1, 1, 1, 1, 0, 1, 0, 0, 1, 1, 1] B5) = l} := by
  apply Subtype.mk
  dsimp only [opsOf, cAt, kids, B5, bodyOf, Tryd.f5, List.getD, List.getElem?_cons_zero, List.getElem?_cons_succ, Option.getD_some]
@[simp] theorem n5_84 (s : List V) (H : Heap) : evCode P Γ call n f m (cAt [1, 1, 1, 1, 1, 1, 1, 1, 0, 1, 0, 0, 1, 1, 1] B5) s H = regNext (evOpsGo P Γ call r5_84.1 r5_84.1 s H) := at_region (by kernel_rfl) r5_84.2 s H
attribute [simp] r5_84
@[simp] theorem n5_85 (s : List V) (H : Heap) : evCode P Γ call n f m (cAt [1, 1, 1, 1, 1, 1, 1, 1, 1] B5) s H = seqNext P Γ call n f m (cAt [1, 1, 1, 1, 1, 1, 1, 1, 1, 1] B5) (evCode P Γ call n f m (cAt [1, 1, 1, 1, 1, 1, 1, 1, 1, 0] B5) s H) := at_seq (by kernel_rfl) rfl rfl s H
noncomputable def r5_86 : {l : List Oper // opsOf (cAt [1, 1, 1, 1, 1, 1, 1, 1, 1, 0] B5) = l} := by
  apply Subtype.mk
  dsimp only [opsOf, cAt, kids, B5, bodyOf, Tryd.f5, List.getD, List.getElem?_cons_zero, List.getElem?_cons_succ, Option.getD_some]
@[simp] theorem n5_86 (s : List V) (H : Heap) : evCode P Γ call n f m (cAt [1, 1, 1, 1, 1, 1, 1, 1, 1, 0] B5) s H = regNext (evOpsGo P Γ call r5_86.1 r5_86.1 s H) := at_region (by kernel_rfl) r5_86.2 s H
attribute [simp] r5_86
@[simp] theorem n5_87 (s : List V) (H : Heap) : evCode P Γ call n f m (cAt [1, 1, 1, 1, 1, 1, 1, 1, 1, 1] B5) s H = some (.ret, s, H) := at_ret (by kernel_rfl) s H
theorem b5 {k : Nat} (ho : ∀ args H, Γ.orc 5 args H = none) (args : List V) (H : Heap) (ha : args.length ≤ 97) : evF Tryd.prog Γ (k + 1) 5 args H = bodyEnd Tryd.prog [.tmp 2] H.length (evCode Tryd.prog Γ (evF Tryd.prog Γ k) k 5 H.length (cAt [] B5) (mkL 97 V.undef (enumV 0 args)) H) := body_at Tryd.func5 (by decide) rfl ho rfl rfl args H ha
noncomputable def B6 : Code := bodyOf Tryd.f6
@[simp] theorem n6_1 (s : List V) (H : Heap) : evCode P Γ call n f m (cAt [] B6) s H = seqNext P Γ call n f m (cAt [1] B6) (evCode P Γ call n f m (cAt [0] B6) s H) := at_seq (by kernel_rfl) rfl rfl s H
noncomputable def r6_2 : {l : List Oper // opsOf (cAt [0] B6) = l} := by
  apply Subtype.mk
  dsimp only [opsOf, cAt, kids, B6, bodyOf, Tryd.f6, List.getD, List.getElem?_cons_zero, List.getElem?_cons_succ, Option.getD_some]
@[simp] theorem n6_2 (s : List V) (H : Heap) : evCode P Γ call n f m (cAt [0] B6) s H = regNext (evOpsGo P Γ call r6_2.1 r6_2.1 s H) := at_region (by kernel_rfl) r6_2.2 s H
attribute [simp] r6_2
@[simp] theorem n6_3 (s : List V) (H : Heap) : evCode P Γ call n f m (cAt [1] B6) s H = seqNext P Γ call n f m (cAt [1, 1] B6) (evCode P Γ call n f m (cAt [1, 0] B6) s H) := at_seq (by kernel_rfl) rfl rfl s H
noncomputable def r6_4 : {l : List Oper // opsOf (cAt [1, 0] B6) = l} := by
  apply Subtype.mk
  dsimp only [opsOf, cAt, kids, B6, bodyOf, Tryd.f6, List.getD, List.getElem?_cons_zero, List.getElem?_cons_succ, Option.getD_some]
@[simp] theorem n6_4 (s : List V) (H : Heap) : evCode P Γ call n f m (cAt [1, 0] B6) s H = regNext (evOpsGo P Γ call r6_4.1 r6_4.1 s H) := at_region (by kernel_rfl) r6_4.2 s H
attribute [simp] r6_4
@[simp] theorem n6_5 (s : List V) (H : Heap) : evCode P Γ call n f m (cAt [1, 1] B6) s H = seqNext P Γ call n f m (cAt [1, 1, 1] B6) (evCode P Γ call n f m (cAt [1, 1, 0] B6) s H) := at_seq (by kernel_rfl) rfl rfl s H
noncomputable def r6_6 : {l : List Oper // opsOf (cAt [1, 1, 0] B6) = l} := by
  apply Subtype.mk
  dsimp only [opsOf, cAt, kids, B6, bodyOf, Tryd.f6, List.getD, List.getElem?_cons_zero, List.getElem?_cons_succ, Option.getD_some]
@[simp] theorem n6_6 (s : List V) (H : Heap) : evCode P Γ call n f m (cAt [1, 1, 0] B6) s H = regNext (evOpsGo P Γ call r6_6.1 r6_6.1 s H) := at_region (by kernel_rfl) r6_6.2 s H
attribute [simp] r6_6
@[simp] theorem n6_7 (s : List V) (H : Heap) : evCode P Γ call n f m (cAt [1, 1, 1] B6) s H = seqNext P Γ call n f m (cAt [1, 1, 1, 1] B6) (evCode P Γ call n f m (cAt [1, 1, 1, 0] B6) s H) := at_seq (by kernel_rfl) rfl rfl s H
noncomputable def r6_8 : {l : List Oper // opsOf (cAt [1, 1, 1, 0] B6) = l} := by
  apply Subtype.mk
  dsimp only [opsOf, cAt, kids, B6, bodyOf, Tryd.f6, List.getD, List.getElem?_cons_zero, List.getElem?_cons_succ, Option.getD_some]
@[simp] theorem n6_8 (s : List V) (H : Heap) : evCode P Γ call n f m (cAt [1, 1, 1, 0] B6) s H = regNext (evOpsGo P Γ call r6_8.1 r6_8.1 s H) := at_region (by kernel_rfl) r6_8.2 s H
attribute [simp] r6_8
@[simp] theorem n6_9 (s : List V) (H : Heap) : evCode P Γ call n f m (cAt [1, 1, 1, 1] B6) s H = seqNext P Γ call n f m (cAt [1, 1, 1, 1, 1] B6) (evCode P Γ call n f m (cAt [1, 1, 1, 1, 0] B6) s H) := at_seq (by kernel_rfl) rfl rfl s H
@[simp] theorem n6_10 (s : List V) (H : Heap) : evCode P Γ call n f m (cAt [1, 1, 1, 1, 0] B6) s H = seqNext P Γ call n f m (cAt [1, 1, 1, 1, 0, 1] B6) (evCode P Γ call n f m (cAt [1, 1, 1, 1, 0, 0] B6) s H) := at_seq (by kernel_rfl) rfl rfl s H
noncomputable def r6_11 : {l : List Oper // opsOf (cAt [1, 1, 1, 1, 0, 0] B6) = l} := by
  apply Subtype.mk
  dsimp only [opsOf, cAt, kids, B6, bodyOf, Tryd.f6, List.getD, List.getElem?_cons_zero, List.getElem?_cons_succ, Option.getD_some]
@[simp] theorem n6_11 (s : List V) (H : Heap) : evCode P Γ call n f m (cAt [1, 1, 1, 1, 0, 0] B6) s H = regNext (evOpsGo P Γ call r6_11.1 r6_11.1 s H) := at_region (by kernel_rfl) r6_11.2 s H
attribute [simp] r6_11
@[simp] theorem n6_12 (s : List V) (H : Heap) : evCode P Γ call n f m (cAt [1, 1, 1, 1, 0, 1] B6) s H = condW P Γ call n f m (cAt [1, 1, 1, 1, 0, 1, 0] B6) (cAt [1, 1, 1, 1, 0, 1, 1] B6) s H (evOperand Γ s (.tmp 38)) := at_cond (by kernel_rfl) (by kernel_rfl) rfl rfl s H
@[simp] theorem n6_13 (s : List V) (H : Heap) : evCode P Γ call n f m (cAt [1, 1, 1, 1, 0, 1, 0] B6) s H = seqNext P Γ call n f m (cAt [1, 1, 1, 1, 0, 1, 0, 1] B6) (evCode P Γ call n f m (cAt [1, 1, 1, 1, 0, 1, 0, 0] B6) s H) := at_seq (by kernel_rfl) rfl rfl s H
noncomputable def r6_14 : {l : List Oper // opsOf (cAt [1, 1, 1, 1, 0, 1, 0, 0] B6) = l} := by
  apply Subtype.mk
  dsimp only [opsOf, cAt, kids, B6, bodyOf, Tryd.f6, List.getD, List.getElem?_cons_zero, List.getElem?_cons_succ, Option.getD_some]
@[simp] theorem n6_14 (s : List V) (H : Heap) : evCode P Γ call n f m (cAt [1, 1, 1, 1, 0, 1, 0, 0] B6) s H = regNext (evOpsGo P Γ call r6_14.1 r6_14.1 s H) := at_region (by kernel_rfl) r6_14.2 s H
attribute [simp] r6_14
@[simp] theorem n6_15 (s : List V) (H : Heap) : evCode P Γ call n f m (cAt [1, 1, 1, 1, 0, 1, 0, 1] B6) s H = some (.ret, s, H) := at_ret (by kernel_rfl) s H
@[simp] theorem n6_16 (s : List V) (H : Heap) : evCode P Γ call n f m (cAt [1, 1, 1, 1, 0, 1, 1] B6) s H = some (.normal, s, H) := at_skip (by kernel_rfl) s H
@[simp] theorem n6_17 (s : List V) (H : Heap) : evCode P Γ call n f m (cAt [1, 1, 1, 1, 1] B6) s H = seqNext P Γ call n f m (cAt [1, 1, 1, 1, 1, 1] B6) (evCode P Γ call n f m (cAt [1, 1, 1, 1, 1, 0] B6) s H) := at_seq (by kernel_rfl) rfl rfl s H
noncomputable def r6_18 : {l : List Oper // opsOf (cAt [1, 1, 1, 1, 1, 0] B6) = l} := by
  apply Subtype.mk
  dsimp only [opsOf, cAt, kids, B6, bodyOf, Tryd.f6, List.getD, List.getElem?_cons_zero, List.getElem?_cons_succ, Option.getD_some]
@[simp] theorem n6_18 (s : List V) (H : Heap) : evCode P Γ call n f m (cAt [1, 1, 1, 1, 1, 0] B6) s H = regNext (evOpsGo P Γ call r6_18.1 r6_18.1 s H) := at_region (by kernel_rfl) r6_18.2 s H
attribute [simp] r6_18
@[simp] theorem n6_19 (s : List V) (H : Heap) : evCode P Γ call n f m (cAt [1, 1, 1, 1, 1, 1] B6) s H = seqNext P Γ call n f m (cAt [1, 1, 1, 1, 1, 1, 1] B6) (evCode P Γ call n f m (cAt [1, 1, 1, 1, 1, 1, 0] B6) s H) := at_seq (by kernel_rfl) rfl rfl s H
noncomputable def r6_20 : {l : List Oper // opsOf (cAt [1, 1, 1, 1, 1, 1, 0] B6) = l} := by
  apply Subtype.mk
  dsimp only [opsOf, cAt, kids, B6, bodyOf, Tryd.f6, List.getD, List.getElem?_cons_zero, List.getElem?_cons_succ, Option.getD_some]
@[simp] theorem n6_20 (s : List V) (H : Heap) : evCode P Γ call n f m (cAt [1, 1, 1, 1, 1, 1, 0] B6) s H = regNext (evOpsGo P Γ call r6_20.1 r6_20.1 s H) := at_region (by kernel_rfl) r6_20.2 s H
attribute [simp] r6_20
@[simp] theorem n6_21 (s : List V) (H : Heap) : evCode P Γ call n f m (cAt [1, 1, 1, 1, 1, 1, 1] B6) s H = seqNext P Γ call n f m (cAt [1, 1, 1, 1, 1, 1, 1, 1] B6) (evCode P Γ call n f m (cAt [1, 1, 1, 1, 1, 1, 1, 0] B6) s H) := at_seq (by kernel_rfl) rfl rfl s H
noncomputable def r6_22 : {l : List Oper // opsOf (cAt [1, 1, 1, 1, 1, 1, 1, 0] B6) = l} := by
  apply Subtype.mk
  dsimp only [opsOf, cAt, kids, B6, bodyOf, Tryd.f6, List.getD, List.getElem?_cons_zero, List.getElem?_cons_succ, Option.getD_some]
@[simp] theorem n6_22 (s : List V) (H : Heap) : evCode P Γ call n f m (cAt [1, 1, 1, 1, 1, 1, 1, 0] B6) s H = regNext (evOpsGo P Γ call r6_22.1 r6_22.1 s H) := at_region (by kernel_rfl) r6_22.2 s H
attribute [simp] r6_22
@[simp] theorem n6_23 (s : List V) (H : Heap) : evCode P Γ call n f m (cAt [1, 1, 1, 1, 1, 1, 1, 1] B6) s H = seqNext P Γ call n f m (cAt [1, 1, 1, 1, 1, 1, 1, 1, 1] B6) (evCode P Γ call n f m (cAt [1, 1, 1, 1, 1, 1, 1, 1, 0] B6) s H) := at_seq (by kernel_rfl) rfl rfl s H
noncomputable def r6_24 : {l : List Oper // opsOf (cAt [1, 1, 1, 1, 1, 1, 1, 1, 0] B6) = l} := by
  apply Subtype.mk
  dsimp only [opsOf, cAt, kids, B6, bodyOf, Tryd.f6, List.getD, List.getElem?_cons_zero, List.getElem?_cons_succ, Option.getD_some]
@[simp] theorem n6_24 (s : List V) (H : Heap) : evCode P Γ call n f m (cAt [1, 1, 1, 1, 1, 1, 1, 1, 0] B6) s H = regNext (evOpsGo P Γ call r6_24.1 r6_24.1 s H) := at_region (by kernel_rfl) r6_24.2 s H
attribute [simp] r6_24
@[simp] theorem n6_25 (s : List V) (H : Heap) : evCode P Γ call n f m (cAt [1, 1, 1, 1, 1, 1, 1, 1, 1] B6) s H = some (.ret, s, H) := at_ret (by kernel_rfl) s H
theorem b6 {k : Nat} (ho : ∀ args H, Γ.orc 6 args H = none) (args : List V) (H : Heap) (ha : args.length ≤ 113) : evF Tryd.prog Γ (k + 1) 6 args H = bodyEnd Tryd.prog [.tmp 2] H.length (evCode Tryd.prog Γ (evF Tryd.prog Γ k) k 6 H.length (cAt [] B6) (mkL 113 V.undef (enumV 0 args)) H) := body_at Tryd.func6 (by decide) rfl ho rfl rfl args H ha
end
end Go.Ev.Tryd
