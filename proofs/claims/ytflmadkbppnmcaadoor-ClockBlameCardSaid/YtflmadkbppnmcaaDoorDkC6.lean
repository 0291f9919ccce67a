/-
  CODE BY NAMES, printed by wip/tools/codes.py (own work).
-/
import Derived.Test.YtflmadkbppnmcaaDoorDkG
set_option maxRecDepth 100000
set_option linter.unusedVariables false
namespace Go.Ev.Tryd
open Go Go.Ev Go.Proofs
section
variable {P : Program} {Γ : Env} {call : CallF} {n f m : Nat}

noncomputable def B7 : Code := bodyOf Tryd.f7
@[simp] theorem n7_1 (s : List V) (H : Heap) : evCode P Γ call n f m (cAt [] B7) s H = seqNext P Γ call n f m (cAt [1] B7) (evCode P Γ call n f m (cAt [0] B7) s H) := at_seq (by kernel_rfl) rfl rfl s H
noncomputable def r7_2 : {l : List Oper // opsOf (cAt [0] B7) = l} := by
  apply Subtype.mk
  dsimp only [opsOf, cAt, kids, B7, bodyOf, Tryd.f7, List.getD, List.getElem?_cons_zero, List.getElem?_cons_succ, Option.getD_some]
@[simp] theorem n7_2 (s : List V) (H : Heap) : evCode P Γ call n f m (cAt [0] B7) s H = regNext (evOpsGo P Γ call r7_2.1 r7_2.1 s H) := at_region (by kernel_rfl) r7_2.2 s H
attribute [simp] r7_2
@[simp] theorem n7_3 (s : List V) (H : Heap) : evCode P Γ call n f m (cAt [1] B7) s H = seqNext P Γ call n f m (cAt [1, 1] B7) (evCode P Γ call n f m (cAt [1, 0] B7) s H) := at_seq (by kernel_rfl) rfl rfl s H
noncomputable def r7_4 : {l : List Oper // opsOf (cAt [1, 0] B7) = l} := by
  apply Subtype.mk
  dsimp only [opsOf, cAt, kids, B7, bodyOf, Tryd.f7, List.getD, List.getElem?_cons_zero, List.getElem?_cons_succ, Option.getD_some]
@[simp] theorem n7_4 (s : List V) (H : Heap) : evCode P Γ call n f m (cAt [1, 0] B7) s H = regNext (evOpsGo P Γ call r7_4.1 r7_4.1 s H) := at_region (by kernel_rfl) r7_4.2 s H
attribute [simp] r7_4
@[simp] theorem n7_5 (s : List V) (H : Heap) : evCode P Γ call n f m (cAt [1, 1] B7) s H = seqNext P Γ call n f m (cAt [1, 1, 1] B7) (evCode P Γ call n f m (cAt [1, 1, 0] B7) s H) := at_seq (by kernel_rfl) rfl rfl s H
noncomputable def r7_6 : {l : List Oper // opsOf (cAt [1, 1, 0] B7) = l} := by
  apply Subtype.mk
  dsimp only [opsOf, cAt, kids, B7, bodyOf, Tryd.f7, List.getD, List.getElem?_cons_zero, List.getElem?_cons_succ, Option.getD_some]
@[simp] theorem n7_6 (s : List V) (H : Heap) : evCode P Γ call n f m (cAt [1, 1, 0] B7) s H = regNext (evOpsGo P Γ call r7_6.1 r7_6.1 s H) := at_region (by kernel_rfl) r7_6.2 s H
attribute [simp] r7_6
@[simp] theorem n7_7 (s : List V) (H : Heap) : evCode P Γ call n f m (cAt [1, 1, 1] B7) s H = seqNext P Γ call n f m (cAt [1, 1, 1, 1] B7) (evCode P Γ call n f m (cAt [1, 1, 1, 0] B7) s H) := at_seq (by kernel_rfl) rfl rfl s H
noncomputable def r7_8 : {l : List Oper // opsOf (cAt [1, 1, 1, 0] B7) = l} := by
  apply Subtype.mk
  dsimp only [opsOf, cAt, kids, B7, bodyOf, Tryd.f7, List.getD, List.getElem?_cons_zero, List.getElem?_cons_succ, Option.getD_some]
@[simp] theorem n7_8 (s : List V) (H : Heap) : evCode P Γ call n f m (cAt [1, 1, 1, 0] B7) s H = regNext (evOpsGo P Γ call r7_8.1 r7_8.1 s H) := at_region (by kernel_rfl) r7_8.2 s H
attribute [simp] r7_8
@[simp] theorem n7_9 (s : List V) (H : Heap) : evCode P Γ call n f m (cAt [1, 1, 1, 1] B7) s H = seqNext P Γ call n f m (cAt [1, 1, 1, 1, 1] B7) (evCode P Γ call n f m (cAt [1, 1, 1, 1, 0] B7) s H) := at_seq (by kernel_rfl) rfl rfl s H
@[simp] theorem n7_10 (s : List V) (H : Heap) : evCode P Γ call n f m (cAt [1, 1, 1, 1, 0] B7) s H = seqNext P Γ call n f m (cAt [1, 1, 1, 1, 0, 1] B7) (evCode P Γ call n f m (cAt [1, 1, 1, 1, 0, 0] B7) s H) := at_seq (by kernel_rfl) rfl rfl s H
noncomputable def r7_11 : {l : List Oper // opsOf (cAt [1, 1, 1, 1, 0, 0] B7) = l} := by
  apply Subtype.mk
  dsimp only [opsOf, cAt, kids, B7, bodyOf, Tryd.f7, List.getD, List.getElem?_cons_zero, List.getElem?_cons_succ, Option.getD_some]
@[simp] theorem n7_11 (s : List V) (H : Heap) : evCode P Γ call n f m (cAt [1, 1, 1, 1, 0, 0] B7) s H = regNext (evOpsGo P Γ call r7_11.1 r7_11.1 s H) := at_region (by kernel_rfl) r7_11.2 s H
attribute [simp] r7_11
@[simp] theorem n7_12 (s : List V) (H : Heap) : evCode P Γ call n f m (cAt [1, 1, 1, 1, 0, 1] B7) s H = blockNext 0 (evCode P Γ call n f m (cAt [1, 1, 1, 1, 0, 1, 0] B7) s H) := at_block (by kernel_rfl) rfl s H
@[simp] theorem n7_13 (s : List V) (H : Heap) : evCode P Γ call n f m (cAt [1, 1, 1, 1, 0, 1, 0] B7) s H = evLoopC P Γ call n f m (cAt [1, 1, 1, 1, 0, 1, 0, 0] B7) n s H := at_loop (by kernel_rfl) rfl s H
noncomputable abbrev L7_5 : Code := cAt [1, 1, 1, 1, 0, 1, 0, 0] B7
@[simp] theorem n7_13f : firstRegion (cAt [1, 1, 1, 1, 0, 1, 0, 0] B7) = 5 := by kernel_rfl
@[simp] theorem n7_14 (s : List V) (H : Heap) : evCode P Γ call n f m (cAt [1, 1, 1, 1, 0, 1, 0, 0] B7) s H = seqNext P Γ call n f m (cAt [1, 1, 1, 1, 0, 1, 0, 0, 1] B7) (evCode P Γ call n f m (cAt [1, 1, 1, 1, 0, 1, 0, 0, 0] B7) s H) := at_seq (by kernel_rfl) rfl rfl s H
noncomputable def r7_15 : {l : List Oper // opsOf (cAt [1, 1, 1, 1, 0, 1, 0, 0, 0] B7) = l} := by
  apply Subtype.mk
  dsimp only [opsOf, cAt, kids, B7, bodyOf, Tryd.f7, List.getD, List.getElem?_cons_zero, List.getElem?_cons_succ, Option.getD_some]
@[simp] theorem n7_15 (s : List V) (H : Heap) : evCode P Γ call n f m (cAt [1, 1, 1, 1, 0, 1, 0, 0, 0] B7) s H = regNext (evOpsGo P Γ call r7_15.1 r7_15.1 s H) := at_region (by kernel_rfl) r7_15.2 s H
attribute [simp] r7_15
@[simp] theorem n7_16 (s : List V) (H : Heap) : evCode P Γ call n f m (cAt [1, 1, 1, 1, 0, 1, 0, 0, 1] B7) s H = seqNext P Γ call n f m (cAt [1, 1, 1, 1, 0, 1, 0, 0, 1, 1] B7) (evCode P Γ call n f m (cAt [1, 1, 1, 1, 0, 1, 0, 0, 1, 0] B7) s H) := at_seq (by kernel_rfl) rfl rfl s H
@[simp] theorem n7_17 (s : List V) (H : Heap) : evCode P Γ call n f m (cAt [1, 1, 1, 1, 0, 1, 0, 0, 1, 0] B7) s H = condW P Γ call n f m (cAt [1, 1, 1, 1, 0, 1, 0, 0, 1, 0, 0] B7) (cAt [1, 1, 1, 1, 0, 1, 0, 0, 1, 0, 1] B7) s H (evOperand Γ s (.tmp 24)) := at_cond (by kernel_rfl) (by kernel_rfl) rfl rfl s H
@[simp] theorem n7_18 (s : List V) (H : Heap) : evCode P Γ call n f m (cAt [1, 1, 1, 1, 0, 1, 0, 0, 1, 0, 0] B7) s H = some (.normal, s, H) := at_skip (by kernel_rfl) s H
@[simp] theorem n7_19 (s : List V) (H : Heap) : evCode P Γ call n f m (cAt [1, 1, 1, 1, 0, 1, 0, 0, 1, 0, 1] B7) s H = some (.exit 0, s, H) := at_exit (by kernel_rfl) s H
@[simp] theorem n7_20 (s : List V) (H : Heap) : evCode P Γ call n f m (cAt [1, 1, 1, 1, 0, 1, 0, 0, 1, 1] B7) s H = seqNext P Γ call n f m (cAt [1, 1, 1, 1, 0, 1, 0, 0, 1, 1, 1] B7) (evCode P Γ call n f m (cAt [1, 1, 1, 1, 0, 1, 0, 0, 1, 1, 0] B7) s H) := at_seq (by kernel_rfl) rfl rfl s H
@[simp] theorem n7_21 (s : List V) (H : Heap) : evCode P Γ call n f m (cAt [1, 1, 1, 1, 0, 1, 0, 0, 1, 1, 0] B7) s H = blockNext 1 (evCode P Γ call n f m (cAt [1, 1, 1, 1, 0, 1, 0, 0, 1, 1, 0, 0] B7) s H) := at_block (by kernel_rfl) rfl s H
@[simp] theorem n7_22 (s : List V) (H : Heap) : evCode P Γ call n f m (cAt [1, 1, 1, 1, 0, 1, 0, 0, 1, 1, 0, 0] B7) s H = seqNext P Γ call n f m (cAt [1, 1, 1, 1, 0, 1, 0, 0, 1, 1, 0, 0, 1] B7) (evCode P Γ call n f m (cAt [1, 1, 1, 1, 0, 1, 0, 0, 1, 1, 0, 0, 0] B7) s H) := at_seq (by kernel_rfl) rfl rfl s H
noncomputable def r7_23 : {l : List Oper // opsOf (cAt [1, 1, 1, 1, 0, 1, 0, 0, 1, 1, 0, 0, 0] B7) = l} := by
  apply Subtype.mk
  dsimp only [opsOf, cAt, kids, B7, bodyOf, Tryd.f7, List.getD, List.getElem?_cons_zero, List.getElem?_cons_succ, Option.getD_some]
@[simp] theorem n7_23 (s : List V) (H : Heap) : evCode P Γ call n f m (cAt [1, 1, 1, 1, 0, 1, 0, 0, 1, 1, 0, 0, 0] B7) s H = regNext (evOpsGo P Γ call r7_23.1 r7_23.1 s H) := at_region (by kernel_rfl) r7_23.2 s H
attribute [simp] r7_23
noncomputable def r7_24 : {l : List Oper // opsOf (cAt [1, 1, 1, 1, 0, 1, 0, 0, 1, 1, 0, 0, 1] B7) = l} := by
  apply Subtype.mk
  dsimp only [opsOf, cAt, kids, B7, bodyOf, Tryd.f7, List.getD, List.getElem?_cons_zero, List.getElem?_cons_succ, Option.getD_some]
@[simp] theorem n7_24 (s : List V) (H : Heap) : evCode P Γ call n f m (cAt [1, 1, 1, 1, 0, 1, 0, 0, 1, 1, 0, 0, 1] B7) s H = regNext (evOpsGo P Γ call r7_24.1 r7_24.1 s H) := at_region (by kernel_rfl) r7_24.2 s H
attribute [simp] r7_24
noncomputable def r7_25 : {l : List Oper // opsOf (cAt [1, 1, 1, 1, 0, 1, 0, 0, 1, 1, 1] B7) = l} := by
  apply Subtype.mk
  dsimp only [opsOf, cAt, kids, B7, bodyOf, Tryd.f7, List.getD, List.getElem?_cons_zero, List.getElem?_cons_succ, Option.getD_some]
@[simp] theorem n7_25 (s : List V) (H : Heap) : evCode P Γ call n f m (cAt [1, 1, 1, 1, 0, 1, 0, 0, 1, 1, 1] B7) s H = regNext (evOpsGo P Γ call r7_25.1 r7_25.1 s H) := at_region (by kernel_rfl) r7_25.2 s H
attribute [simp] r7_25
@[simp] theorem n7_26 (s : List V) (H : Heap) : evCode P Γ call n f m (cAt [1, 1, 1, 1, 1] B7) s H = seqNext P Γ call n f m (cAt [1, 1, 1, 1, 1, 1] B7) (evCode P Γ call n f m (cAt [1, 1, 1, 1, 1, 0] B7) s H) := at_seq (by kernel_rfl) rfl rfl s H
noncomputable def r7_27 : {l : List Oper // opsOf (cAt [1, 1, 1, 1, 1, 0] B7) = l} := by
  apply Subtype.mk
  dsimp only [opsOf, cAt, kids, B7, bodyOf, Tryd.f7, List.getD, List.getElem?_cons_zero, List.getElem?_cons_succ, Option.getD_some]
@[simp] theorem n7_27 (s : List V) (H : Heap) : evCode P Γ call n f m (cAt [1, 1, 1, 1, 1, 0] B7) s H = regNext (evOpsGo P Γ call r7_27.1 r7_27.1 s H) := at_region (by kernel_rfl) r7_27.2 s H
attribute [simp] r7_27
@[simp] theorem n7_28 (s : List V) (H : Heap) : evCode P Γ call n f m (cAt [1, 1, 1, 1, 1, 1] B7) s H = seqNext P Γ call n f m (cAt [1, 1, 1, 1, 1, 1, 1] B7) (evCode P Γ call n f m (cAt [1, 1, 1, 1, 1, 1, 0] B7) s H) := at_seq (by kernel_rfl) rfl rfl s H
noncomputable def r7_29 : {l : List Oper // opsOf (cAt [1, 1, 1, 1, 1, 1, 0] B7) = l} := by
  apply Subtype.mk
  dsimp only [opsOf, cAt, kids, B7, bodyOf, Tryd.f7, List.getD, List.getElem?_cons_zero, List.getElem?_cons_succ, Option.getD_some]
@[simp] theorem n7_29 (s : List V) (H : Heap) : evCode P Γ call n f m (cAt [1, 1, 1, 1, 1, 1, 0] B7) s H = regNext (evOpsGo P Γ call r7_29.1 r7_29.1 s H) := at_region (by kernel_rfl) r7_29.2 s H
attribute [simp] r7_29
@[simp] theorem n7_30 (s : List V) (H : Heap) : evCode P Γ call n f m (cAt [1, 1, 1, 1, 1, 1, 1] B7) s H = seqNext P Γ call n f m (cAt [1, 1, 1, 1, 1, 1, 1, 1] B7) (evCode P Γ call n f m (cAt [1, 1, 1, 1, 1, 1, 1, 0] B7) s H) := at_seq (by kernel_rfl) rfl rfl s H
@[simp] theorem n7_31 (s : List V) (H : Heap) : evCode P Γ call n f m (cAt [1, 1, 1, 1, 1, 1, 1, 0] B7) s H = seqNext P Γ call n f m (cAt [1, 1, 1, 1, 1, 1, 1, 0, 1] B7) (evCode P Γ call n f m (cAt [1, 1, 1, 1, 1, 1, 1, 0, 0] B7) s H) := at_seq (by kernel_rfl) rfl rfl s H
noncomputable def r7_32 : {l : List Oper // opsOf (cAt [1, 1, 1, 1, 1, 1, 1, 0, 0] B7) = l} := by
  apply Subtype.mk
  dsimp only [opsOf, cAt, kids, B7, bodyOf, Tryd.f7, List.getD, List.getElem?_cons_zero, List.getElem?_cons_succ, Option.getD_some]
@[simp] theorem n7_32 (s : List V) (H : Heap) : evCode P Γ call n f m (cAt [1, 1, 1, 1, 1, 1, 1, 0, 0] B7) s H = regNext (evOpsGo P Γ call r7_32.1 r7_32.1 s H) := at_region (by kernel_rfl) r7_32.2 s H
attribute [simp] r7_32
@[simp] theorem n7_33 (s : List V) (H : Heap) : evCode P Γ call n f m (cAt [1, 1, 1, 1, 1, 1, 1, 0, 1] B7) s H = blockNext 2 (evCode P Γ call n f m (cAt [1, 1, 1, 1, 1, 1, 1, 0, 1, 0] B7) s H) := at_block (by kernel_rfl) rfl s H
@[simp] theorem n7_34 (s : List V) (H : Heap) : evCode P Γ call n f m (cAt [1, 1, 1, 1, 1, 1, 1, 0, 1, 0] B7) s H = evLoopC P Γ call n f m (cAt [1, 1, 1, 1, 1, 1, 1, 0, 1, 0, 0] B7) n s H := at_loop (by kernel_rfl) rfl s H
noncomputable abbrev L7_12 : Code := cAt [1, 1, 1, 1, 1, 1, 1, 0, 1, 0, 0] B7
@[simp] theorem n7_34f : firstRegion (cAt [1, 1, 1, 1, 1, 1, 1, 0, 1, 0, 0] B7) = 12 := by kernel_rfl
@[simp] theorem n7_35 (s : List V) (H : Heap) : evCode P Γ call n f m (cAt [1, 1, 1, 1, 1, 1, 1, 0, 1, 0, 0] B7) s H = seqNext P Γ call n f m (cAt [1, 1, 1, 1, 1, 1, 1, 0, 1, 0, 0, 1] B7) (evCode P Γ call n f m (cAt [1, 1, 1, 1, 1, 1, 1, 0, 1, 0, 0, 0] B7) s H) := at_seq (by kernel_rfl) rfl rfl s H
noncomputable def r7_36 : {l : List Oper // opsOf (cAt [1, 1, 1, 1, 1, 1, 1, 0, 1, 0, 0, 0] B7) = l} := by
  apply Subtype.mk
  dsimp only [opsOf, cAt, kids, B7, bodyOf, Tryd.f7, List.getD, List.getElem?_cons_zero, List.getElem?_cons_succ, Option.getD_some]
@[simp] theorem n7_36 (s : List V) (H : Heap) : evCode P Γ call n f m (cAt [1, 1, 1, 1, 1, 1, 1, 0, 1, 0, 0, 0] B7) s H = regNext (evOpsGo P Γ call r7_36.1 r7_36.1 s H) := at_region (by kernel_rfl) r7_36.2 s H
attribute [simp] r7_36
@[simp] theorem n7_37 (s : List V) (H : Heap) : evCode P Γ call n f m (cAt [1, 1, 1, 1, 1, 1, 1, 0, 1, 0, 0, 1] B7) s H = seqNext P Γ call n f m (cAt [1, 1, 1, 1, 1, 1, 1, 0, 1, 0, 0, 1, 1] B7) (evCode P Γ call n f m (cAt [1, 1, 1, 1, 1, 1, 1, 0, 1, 0, 0, 1, 0] B7) s H) := at_seq (by kernel_rfl) rfl rfl s H
@[simp] theorem n7_38 (s : List V) (H : Heap) : evCode P Γ call n f m (cAt [1, 1, 1, 1, 1, 1, 1, 0, 1, 0, 0, 1, 0] B7) s H = condW P Γ call n f m (cAt [1, 1, 1, 1, 1, 1, 1, 0, 1, 0, 0, 1, 0, 0] B7) (cAt [1, 1, 1, 1, 1, 1, 1, 0, 1, 0, 0, 1, 0, 1] B7) s H (evOperand Γ s (.tmp 35)) := at_cond (by kernel_rfl) (by kernel_rfl) rfl rfl s H
@[simp] theorem n7_39 (s : List V) (H : Heap) : evCode P Γ call n f m (cAt [1, 1, 1, 1, 1, 1, 1, 0, 1, 0, 0, 1, 0, 0] B7) s H = some (.normal, s, H) := at_skip (by kernel_rfl) s H
@[simp] theorem n7_40 (s : List V) (H : Heap) : evCode P Γ call n f m (cAt [1, 1, 1, 1, 1, 1, 1, 0, 1, 0, 0, 1, 0, 1] B7) s H = some (.exit 2, s, H) := at_exit (by kernel_rfl) s H
@[simp] theorem n7_41 (s : List V) (H : Heap) : evCode P Γ call n f m (cAt [1, 1, 1, 1, 1, 1, 1, 0, 1, 0, 0, 1, 1] B7) s H = seqNext P Γ call n f m (cAt [1, 1, 1, 1, 1, 1, 1, 0, 1, 0, 0, 1, 1, 1] B7) (evCode P Γ call n f m (cAt [1, 1, 1, 1, 1, 1, 1, 0, 1, 0, 0, 1, 1, 0] B7) s H) := at_seq (by kernel_rfl) rfl rfl s H
@[simp] theorem n7_42 (s : List V) (H : Heap) : evCode P Γ call n f m (cAt [1, 1, 1, 1, 1, 1, 1, 0, 1, 0, 0, 1, 1, 0] B7) s H = blockNext 3 (evCode P Γ call n f m (cAt [1, 1, 1, 1, 1, 1, 1, 0, 1, 0, 0, 1, 1, 0, 0] B7) s H) := at_block (by kernel_rfl) rfl s H
@[simp] theorem n7_43 (s : List V) (H : Heap) : evCode P Γ call n f m (cAt [1, 1, 1, 1, 1, 1, 1, 0, 1, 0, 0, 1, 1, 0, 0] B7) s H = seqNext P Γ call n f m (cAt [1, 1, 1, 1, 1, 1, 1, 0, 1, 0, 0, 1, 1, 0, 0, 1] B7) (evCode P Γ call n f m (cAt [1, 1, 1, 1, 1, 1, 1, 0, 1, 0, 0, 1, 1, 0, 0, 0] B7) s H) := at_seq (by kernel_rfl) rfl rfl s H
noncomputable def r7_44 : {l : List Oper // opsOf (cAt [1, 1, 1, 1, 1, 1, 1, 0, 1, 0, 0, 1, 1, 0, 0, 0] B7) = l} := by
  apply Subtype.mk
  dsimp only [opsOf, cAt, kids, B7, bodyOf, Tryd.f7, List.getD, List.getElem?_cons_zero, List.getElem?_cons_succ, Option.getD_some]
@[simp] theorem n7_44 (s : List V) (H : Heap) : evCode P Γ call n f m (cAt [1, 1, 1, 1, 1, 1, 1, 0, 1, 0, 0, 1, 1, 0, 0, 0] B7) s H = regNext (evOpsGo P Γ call r7_44.1 r7_44.1 s H) := at_region (by kernel_rfl) r7_44.2 s H
attribute [simp] r7_44
@[simp] theorem n7_45 (s : List V) (H : Heap) : evCode P Γ call n f m (cAt [1, 1, 1, 1, 1, 1, 1, 0, 1, 0, 0, 1, 1, 0, 0, 1] B7) s H = seqNext P Γ call n f m (cAt [1, 1, 1, 1, 1, 1, 1, 0, 1, 0, 0, 1, 1, 0, 0, 1, 1] B7) (evCode P Γ call n f m (cAt [1, 1, 1, 1, 1, 1, 1, 0, 1, 0, 0, 1, 1, 0, 0, 1, 0] B7) s H) := at_seq (by kernel_rfl) rfl rfl s H
noncomputable def r7_46 : {l : List Oper // opsOf (cAt [1, 1, 1, 1, 1, 1, 1, 0, 1, 0, 0, 1, 1, 0, 0, 1, 0] B7) = l} := by
  apply Subtype.mk
  dsimp only [opsOf, cAt, kids, B7, bodyOf, Tryd.f7, List.getD, List.getElem?_cons_zero, List.getElem?_cons_succ, Option.getD_some]
@[simp] theorem n7_46 (s : List V) (H : Heap) : evCode P Γ call n f m (cAt [1, 1, 1, 1, 1, 1, 1, 0, 1, 0, 0, 1, 1, 0, 0, 1, 0] B7) s H = regNext (evOpsGo P Γ call r7_46.1 r7_46.1 s H) := at_region (by kernel_rfl) r7_46.2 s H
attribute [simp] r7_46
@[simp] theorem n7_47 (s : List V) (H : Heap) : evCode P Γ call n f m (cAt [1, 1, 1, 1, 1, 1, 1, 0, 1, 0, 0, 1, 1, 0, 0, 1, 1] B7) s H = seqNext P Γ call n f m (cAt [1, 1, 1, 1, 1, 1, 1, 0, 1, 0, 0, 1, 1, 0, 0, 1, 1, 1] B7) (evCode P Γ call n f m (cAt [1, 1, 1, 1, 1, 1, 1, 0, 1, 0, 0, 1, 1, 0, 0, 1, 1, 0] B7) s H) := at_seq (by kernel_rfl) rfl rfl s H
noncomputable def r7_48 : {l : List Oper // opsOf (cAt [1, 1, 1, 1, 1, 1, 1, 0, 1, 0, 0, 1, 1, 0, 0, 1, 1, 0] B7) = l} := by
  apply Subtype.mk
  dsimp only [opsOf, cAt, kids, B7, bodyOf, Tryd.f7, List.getD, List.getElem?_cons_zero, List.getElem?_cons_succ, Option.getD_some]
@[simp] theorem n7_48 (s : List V) (H : Heap) : evCode P Γ call n f m (cAt [1, 1, 1, 1, 1, 1, 1, 0, 1, 0, 0, 1, 1, 0, 0, 1, 1, 0] B7) s H = regNext (drawR P Γ call r7_48.1 [([1, 2, 3, 4, 5, 6, 7, 8, 9, 10, 11, 12, 13, 14, 15, 16, 17, 18, 19], [44, 45, 46, 47, 48, 49, 50, 51, 52, 53, 54, 55, 56, 57, 58, 59, 60, 61, 62]), ([0, 4, 5, 6, 7, 8, 9, 10, 11, 12, 15, 17], [43, 47, 48, 49, 50, 51, 52, 53, 54, 55, 58, 60]), ([0, 4, 5, 6, 7, 8, 9, 10, 11, 12, 15, 17], [43, 47, 48, 49, 50, 51, 52, 53, 54, 55, 58, 60]), ([0, 4, 5, 6, 7, 8, 9, 10, 11, 12, 13, 14, 15, 16, 17], [43, 47, 48, 49, 50, 51, 52, 53, 54, 55, 56, 57, 58, 59, 60]), ([0, 1, 2, 3, 5, 6, 7, 9, 10, 11, 12, 13, 15, 17], [43, 44, 45, 46, 48, 49, 50, 52, 53, 54, 55, 56, 58, 60]), ([0, 1, 2, 3, 4, 9, 10, 11, 12, 13, 15, 17], [43, 44, 45, 46, 47, 52, 53, 54, 55, 56, 58, 60]), ([0, 1, 2, 3, 4, 9, 10, 11, 12, 13, 15, 17], [43, 44, 45, 46, 47, 52, 53, 54, 55, 56, 58, 60]), ([0, 1, 2, 3, 4, 9, 10, 11, 12, 13, 15, 17], [43, 44, 45, 46, 47, 52, 53, 54, 55, 56, 58, 60]), ([0, 1, 2, 3, 9, 10, 11, 12, 13, 15, 17], [43, 44, 45, 46, 52, 53, 54, 55, 56, 58, 60]), ([0, 1, 2, 3, 4, 5, 6, 7, 8, 10, 11, 12, 15, 17], [43, 44, 45, 46, 47, 48, 49, 50, 51, 53, 54, 55, 58, 60]), ([0, 1, 2, 3, 4, 5, 6, 7, 8, 9, 15, 17], [43, 44, 45, 46, 47, 48, 49, 50, 51, 52, 58, 60]), ([0, 1, 2, 3, 4, 5, 6, 7, 8, 9, 15, 17], [43, 44, 45, 46, 47, 48, 49, 50, 51, 52, 58, 60]), ([0, 1, 2, 3, 4, 5, 6, 7, 8, 9, 15, 17], [43, 44, 45, 46, 47, 48, 49, 50, 51, 52, 58, 60]), ([0, 3, 4, 5, 6, 7, 8, 15, 17], [43, 46, 47, 48, 49, 50, 51, 58, 60]), ([0, 3, 15, 17], [43, 46, 58, 60]), ([0, 1, 2, 3, 4, 5, 6, 7, 8, 9, 10, 11, 12, 13, 14, 17], [43, 44, 45, 46, 47, 48, 49, 50, 51, 52, 53, 54, 55, 56, 57, 60]), ([0, 3, 17], [43, 46, 60]), ([0, 1, 2, 3, 4, 5, 6, 7, 8, 9, 10, 11, 12, 13, 14, 15, 16], [43, 44, 45, 46, 47, 48, 49, 50, 51, 52, 53, 54, 55, 56, 57, 58, 59]), ([0], [43]), ([0], [43]), ([], []), ([], [])] s H) := at_drawT (by kernel_rfl) r7_48.2 (by kernel_rfl) s H
attribute [simp] r7_48
noncomputable def r7_49 : {l : List Oper // opsOf (cAt [1, 1, 1, 1, 1, 1, 1, 0, 1, 0, 0, 1, 1, 0, 0, 1, 1, 1] B7) = l} := by
  apply Subtype.mk
  dsimp only [opsOf, cAt, kids, B7, bodyOf, Tryd.f7, List.getD, List.getElem?_cons_zero, List.getElem?_cons_succ, Option.getD_some]
@[simp] theorem n7_49 (s : List V) (H : Heap) : evCode P Γ call n f m (cAt [1, 1, 1, 1, 1, 1, 1, 0, 1, 0, 0, 1, 1, 0, 0, 1, 1, 1] B7) s H = regNext (evOpsGo P Γ call r7_49.1 r7_49.1 s H) := at_region (by kernel_rfl) r7_49.2 s H
attribute [simp] r7_49
noncomputable def r7_50 : {l : List Oper // opsOf (cAt [1, 1, 1, 1, 1, 1, 1, 0, 1, 0, 0, 1, 1, 1] B7) = l} := by
  apply Subtype.mk
  dsimp only [opsOf, cAt, kids, B7, bodyOf, Tryd.f7, List.getD, List.getElem?_cons_zero, List.getElem?_cons_succ, Option.getD_some]
@[simp] theorem n7_50 (s : List V) (H : Heap) : evCode P Γ call n f m (cAt [1, 1, 1, 1, 1, 1, 1, 0, 1, 0, 0, 1, 1, 1] B7) s H = regNext (evOpsGo P Γ call r7_50.1 r7_50.1 s H) := at_region (by kernel_rfl) r7_50.2 s H
attribute [simp] r7_50
@[simp] theorem n7_51 (s : List V) (H : Heap) : evCode P Γ call n f m (cAt [1, 1, 1, 1, 1, 1, 1, 1] B7) s H = seqNext P Γ call n f m (cAt [1, 1, 1, 1, 1, 1, 1, 1, 1] B7) (evCode P Γ call n f m (cAt [1, 1, 1, 1, 1, 1, 1, 1, 0] B7) s H) := at_seq (by kernel_rfl) rfl rfl s H
noncomputable def r7_52 : {l : List Oper // opsOf (cAt [1, 1, 1, 1, 1, 1, 1, 1, 0] B7) = l} := by
  apply Subtype.mk
  dsimp only [opsOf, cAt, kids, B7, bodyOf, Tryd.f7, List.getD, List.getElem?_cons_zero, List.getElem?_cons_succ, Option.getD_some]
@[simp] theorem n7_52 (s : List V) (H : Heap) : evCode P Γ call n f m (cAt [1, 1, 1, 1, 1, 1, 1, 1, 0] B7) s H = regNext (evOpsGo P Γ call r7_52.1 r7_52.1 s H) := at_region (by kernel_rfl) r7_52.2 s H
attribute [simp] r7_52
@[simp] theorem n7_53 (s : List V) (H : Heap) : evCode P Γ call n f m (cAt [1, 1, 1, 1, 1, 1, 1, 1, 1] B7) s H = seqNext P Γ call n f m (cAt [1, 1, 1, 1, 1, 1, 1, 1, 1, 1] B7) (evCode P Γ call n f m (cAt [1, 1, 1, 1, 1, 1, 1, 1, 1, 0] B7) s H) := at_seq (by kernel_rfl) rfl rfl s H
@[simp] theorem n7_54 (s : List V) (H : Heap) : evCode P Γ call n f m (cAt [1, 1, 1, 1, 1, 1, 1, 1, 1, 0] B7) s H = seqNext P Γ call n f m (cAt [1, 1, 1, 1, 1, 1, 1, 1, 1, 0, 1] B7) (evCode P Γ call n f m (cAt [1, 1, 1, 1, 1, 1, 1, 1, 1, 0, 0] B7) s H) := at_seq (by kernel_rfl) rfl rfl s H
noncomputable def r7_55 : {l : List Oper // opsOf (cAt [1, 1, 1, 1, 1, 1, 1, 1, 1, 0, 0] B7) = l} := by
  apply Subtype.mk
  dsimp only [opsOf, cAt, kids, B7, bodyOf, Tryd.f7, List.getD, List.getElem?_cons_zero, List.getElem?_cons_succ, Option.getD_some]
@[simp] theorem n7_55 (s : List V) (H : Heap) : evCode P Γ call n f m (cAt [1, 1, 1, 1, 1, 1, 1, 1, 1, 0, 0] B7) s H = regNext (evOpsGo P Γ call r7_55.1 r7_55.1 s H) := at_region (by kernel_rfl) r7_55.2 s H
attribute [simp] r7_55
@[simp] theorem n7_56 (s : List V) (H : Heap) : evCode P Γ call n f m (cAt [1, 1, 1, 1, 1, 1, 1, 1, 1, 0, 1] B7) s H = blockNext 4 (evCode P Γ call n f m (cAt [1, 1, 1, 1, 1, 1, 1, 1, 1, 0, 1, 0] B7) s H) := at_block (by kernel_rfl) rfl s H
@[simp] theorem n7_57 (s : List V) (H : Heap) : evCode P Γ call n f m (cAt [1, 1, 1, 1, 1, 1, 1, 1, 1, 0, 1, 0] B7) s H = evLoopC P Γ call n f m (cAt [1, 1, 1, 1, 1, 1, 1, 1, 1, 0, 1, 0, 0] B7) n s H := at_loop (by kernel_rfl) rfl s H
noncomputable abbrev L7_20 : Code := cAt [1, 1, 1, 1, 1, 1, 1, 1, 1, 0, 1, 0, 0] B7
@[simp] theorem n7_57f : firstRegion (cAt [1, 1, 1, 1, 1, 1, 1, 1, 1, 0, 1, 0, 0] B7) = 20 := by kernel_rfl
@[simp] theorem n7_58 (s : List V) (H : Heap) : evCode P Γ call n f m (cAt [1, 1, 1, 1, 1, 1, 1, 1, 1, 0, 1, 0, 0] B7) s H = seqNext P Γ call n f m (cAt [1, 1, 1, 1, 1, 1, 1, 1, 1, 0, 1, 0, 0, 1] B7) (evCode P Γ call n f m (cAt [1, 1, 1, 1, 1, 1, 1, 1, 1, 0, 1, 0, 0, 0] B7) s H) := at_seq (by kernel_rfl) rfl rfl s H
noncomputable def r7_59 : {l : List Oper // opsOf (cAt [1, 1, 1, 1, 1, 1, 1, 1, 1, 0, 1, 0, 0, 0] B7) = l} := by
  apply Subtype.mk
  dsimp only [opsOf, cAt, kids, B7, bodyOf, Tryd.f7, List.getD, List.getElem?_cons_zero, List.getElem?_cons_succ, Option.getD_some]
@[simp] theorem n7_59 (s : List V) (H : Heap) : evCode P Γ call n f m (cAt [1, 1, 1, 1, 1, 1, 1, 1, 1, 0, 1, 0, 0, 0] B7) s H = regNext (evOpsGo P Γ call r7_59.1 r7_59.1 s H) := at_region (by kernel_rfl) r7_59.2 s H
attribute [simp] r7_59
@[simp] theorem n7_60 (s : List V) (H : Heap) : evCode P Γ call n f m (cAt [1, 1, 1, 1, 1, 1, 1, 1, 1, 0, 1, 0, 0, 1] B7) s H = seqNext P Γ call n f m (cAt [1, 1, 1, 1, 1, 1, 1, 1, 1, 0, 1, 0, 0, 1, 1] B7) (evCode P Γ call n f m (cAt [1, 1, 1, 1, 1, 1, 1, 1, 1, 0, 1, 0, 0, 1, 0] B7) s H) := at_seq (by kernel_rfl) rfl rfl s H
@[simp] theorem n7_61 (s : List V) (H : Heap) : evCode P Γ call n f m (cAt [1, 1, 1, 1, 1, 1, 1, 1, 1, 0, 1, 0, 0, 1, 0] B7) s H = condW P Γ call n f m (cAt [1, 1, 1, 1, 1, 1, 1, 1, 1, 0, 1, 0, 0, 1, 0, 0] B7) (cAt [1, 1, 1, 1, 1, 1, 1, 1, 1, 0, 1, 0, 0, 1, 0, 1] B7) s H (evOperand Γ s (.tmp 72)) := at_cond (by kernel_rfl) (by kernel_rfl) rfl rfl s H
@[simp] theorem n7_62 (s : List V) (H : Heap) : evCode P Γ call n f m (cAt [1, 1, 1, 1, 1, 1, 1, 1, 1, 0, 1, 0, 0, 1, 0, 0] B7) s H = some (.normal, s, H) := at_skip (by kernel_rfl) s H
@[simp] theorem n7_63 (s : List V) (H : Heap) : evCode P Γ call n f m (cAt [1, 1, 1, 1, 1, 1, 1, 1, 1, 0, 1, 0, 0, 1, 0, 1] B7) s H = some (.exit 4, s, H) := at_exit (by kernel_rfl) s H
@[simp] theorem n7_64 (s : List V) (H : Heap) : evCode P Γ call n f m (cAt [1, 1, 1, 1, 1, 1, 1, 1, 1, 0, 1, 0, 0, 1, 1] B7) s H = seqNext P Γ call n f m (cAt [1, 1, 1, 1, 1, 1, 1, 1, 1, 0, 1, 0, 0, 1, 1, 1] B7) (evCode P Γ call n f m (cAt [1, 1, 1, 1, 1, 1, 1, 1, 1, 0, 1, 0, 0, 1, 1, 0] B7) s H) := at_seq (by kernel_rfl) rfl rfl s H
@[simp] theorem n7_65 (s : List V) (H : Heap) : evCode P Γ call n f m (cAt [1, 1, 1, 1, 1, 1, 1, 1, 1, 0, 1, 0, 0, 1, 1, 0] B7) s H = blockNext 5 (evCode P Γ call n f m (cAt [1, 1, 1, 1, 1, 1, 1, 1, 1, 0, 1, 0, 0, 1, 1, 0, 0] B7) s H) := at_block (by kernel_rfl) rfl s H
@[simp] theorem n7_66 (s : List V) (H : Heap) : evCode P Γ call n f m (cAt [1, 1, 1, 1, 1, 1, 1, 1, 1, 0, 1, 0, 0, 1, 1, 0, 0] B7) s H = seqNext P Γ call n f m (cAt [1, 1, 1, 1, 1, 1, 1, 1, 1, 0, 1, 0, 0, 1, 1, 0, 0, 1] B7) (evCode P Γ call n f m (cAt [1, 1, 1, 1, 1, 1, 1, 1, 1, 0, 1, 0, 0, 1, 1, 0, 0, 0] B7) s H) := at_seq (by kernel_rfl) rfl rfl s H
@[simp] theorem n7_67 (s : List V) (H : Heap) : evCode P Γ call n f m (cAt [1, 1, 1, 1, 1, 1, 1, 1, 1, 0, 1, 0, 0, 1, 1, 0, 0, 0] B7) s H = seqNext P Γ call n f m (cAt [1, 1, 1, 1, 1, 1, 1, 1, 1, 0, 1, 0, 0, 1, 1, 0, 0, 0, 1] B7) (evCode P Γ call n f m (cAt [1, 1, 1, 1, 1, 1, 1, 1, 1, 0, 1, 0, 0, 1, 1, 0, 0, 0, 0] B7) s H) := at_seq (by kernel_rfl) rfl rfl s H
noncomputable def r7_68 : {l : List Oper // opsOf (cAt [1, 1, 1, 1, 1, 1, 1, 1, 1, 0, 1, 0, 0, 1, 1, 0, 0, 0, 0] B7) = l} := by
  apply Subtype.mk
  dsimp only [opsOf, cAt, kids, B7, bodyOf, Tryd.f7, List.getD, List.getElem?_cons_zero, List.getElem?_cons_succ, Option.getD_some]
@[simp] theorem n7_68 (s : List V) (H : Heap) : evCode P Γ call n f m (cAt [1, 1, 1, 1, 1, 1, 1, 1, 1, 0, 1, 0, 0, 1, 1, 0, 0, 0, 0] B7) s H = regNext (evOpsGo P Γ call r7_68.1 r7_68.1 s H) := at_region (by kernel_rfl) r7_68.2 s H
attribute [simp] r7_68
@[simp] theorem n7_69 (s : List V) (H : Heap) : evCode P Γ call n f m (cAt [1, 1, 1, 1, 1, 1, 1, 1, 1, 0, 1, 0, 0, 1, 1, 0, 0, 0, 1] B7) s H = condW P Γ call n f m (cAt [1, 1, 1, 1, 1, 1, 1, 1, 1, 0, 1, 0, 0, 1, 1, 0, 0, 0, 1, 0] B7) (cAt [1, 1, 1, 1, 1, 1, 1, 1, 1, 0, 1, 0, 0, 1, 1, 0, 0, 0, 1, 1] B7) s H (evOperand Γ s (.tmp 75)) := at_cond (by kernel_rfl) (by kernel_rfl) rfl rfl s H
@[simp] theorem n7_70 (s : List V) (H : Heap) : evCode P Γ call n f m (cAt [1, 1, 1, 1, 1, 1, 1, 1, 1, 0, 1, 0, 0, 1, 1, 0, 0, 0, 1, 0] B7) s H = some (.exit 4, s, H) := at_exit (by kernel_rfl) s H
@[simp] theorem n7_71 (s : List V) (H : Heap) : evCode P Γ call n f m (cAt [1, 1, 1, 1, 1, 1, 1, 1, 1, 0, 1, 0, 0, 1, 1, 0, 0, 0, 1, 1] B7) s H = some (.normal, s, H) := at_skip (by kernel_rfl) s H
@[simp] theorem n7_72 (s : List V) (H : Heap) : evCode P Γ call n f m (cAt [1, 1, 1, 1, 1, 1, 1, 1, 1, 0, 1, 0, 0, 1, 1, 0, 0, 1] B7) s H = seqNext P Γ call n f m (cAt [1, 1, 1, 1, 1, 1, 1, 1, 1, 0, 1, 0, 0, 1, 1, 0, 0, 1, 1] B7) (evCode P Γ call n f m (cAt [1, 1, 1, 1, 1, 1, 1, 1, 1, 0, 1, 0, 0, 1, 1, 0, 0, 1, 0] B7) s H) := at_seq (by kernel_rfl) rfl rfl s H
noncomputable def r7_73 : {l : List Oper // opsOf (cAt [1, 1, 1, 1, 1, 1, 1, 1, 1, 0, 1, 0, 0, 1, 1, 0, 0, 1, 0] B7) = l} := by
  apply Subtype.mk
  dsimp only [opsOf, cAt, kids, B7, bodyOf, Tryd.f7, List.getD, List.getElem?_cons_zero, List.getElem?_cons_succ, Option.getD_some]
@[simp] theorem n7_73 (s : List V) (H : Heap) : evCode P Γ call n f m (cAt [1, 1, 1, 1, 1, 1, 1, 1, 1, 0, 1, 0, 0, 1, 1, 0, 0, 1, 0] B7) s H = regNext (evOpsGo P Γ call r7_73.1 r7_73.1 s H) := at_region (by kernel_rfl) r7_73.2 s H
attribute [simp] r7_73
@[simp] theorem n7_74 (s : List V) (H : Heap) : evCode P Γ call n f m (cAt [1, 1, 1, 1, 1, 1, 1, 1, 1, 0, 1, 0, 0, 1, 1, 0, 0, 1, 1] B7) s H = seqNext P Γ call n f m (cAt [1, 1, 1, 1, 1, 1, 1, 1, 1, 0, 1, 0, 0, 1, 1, 0, 0, 1, 1, 1] B7) (evCode P Γ call n f m (cAt [1, 1, 1, 1, 1, 1, 1, 1, 1, 0, 1, 0, 0, 1, 1, 0, 0, 1, 1, 0] B7) s H) := at_seq (by kernel_rfl) rfl rfl s H
@[simp] theorem n7_75 (s : List V) (H : Heap) : evCode P Γ call n f m (cAt [1, 1, 1, 1, 1, 1, 1, 1, 1, 0, 1, 0, 0, 1, 1, 0, 0, 1, 1, 0] B7) s H = seqNext P Γ call n f m (cAt [1, 1, 1, 1, 1, 1, 1, 1, 1, 0, 1, 0, 0, 1, 1, 0, 0, 1, 1, 0, 1] B7) (evCode P Γ call n f m (cAt [1, 1, 1, 1, 1, 1, 1, 1, 1, 0, 1, 0, 0, 1, 1, 0, 0, 1, 1, 0, 0] B7) s H) := at_seq (by kernel_rfl) rfl rfl s H
noncomputable def r7_76 : {l : List Oper // opsOf (cAt [1, 1, 1, 1, 1, 1, 1, 1, 1, 0, 1, 0, 0, 1, 1, 0, 0, 1, 1, 0, 0] B7) = l} := by
  apply Subtype.mk
  dsimp only [opsOf, cAt, kids, B7, bodyOf, Tryd.f7, List.getD, List.getElem?_cons_zero, List.getElem?_cons_succ, Option.getD_some]
@[simp] theorem n7_76 (s : List V) (H : Heap) : evCode P Γ call n f m (cAt [1, 1, 1, 1, 1, 1, 1, 1, 1, 0, 1, 0, 0, 1, 1, 0, 0, 1, 1, 0, 0] B7) s H = regNext (evOpsGo P Γ call r7_76.1 r7_76.1 s H) := at_region (by kernel_rfl) r7_76.2 s H
attribute [simp] r7_76
@[simp] theorem n7_77 (s : List V) (H : Heap) : evCode P Γ call n f m (cAt [1, 1, 1, 1, 1, 1, 1, 1, 1, 0, 1, 0, 0, 1, 1, 0, 0, 1, 1, 0, 1] B7) s H = condW P Γ call n f m (cAt [1, 1, 1, 1, 1, 1, 1, 1, 1, 0, 1, 0, 0, 1, 1, 0, 0, 1, 1, 0, 1, 0] B7) (cAt [1, 1, 1, 1, 1, 1, 1, 1, 1, 0, 1, 0, 0, 1, 1, 0, 0, 1, 1, 0, 1, 1] B7) s H (evOperand Γ s (.tmp 88)) := at_cond (by kernel_rfl) (by kernel_rfl) rfl rfl s H
noncomputable def r7_78 : {l : List Oper // opsOf (cAt [1, 1, 1, 1, 1, 1, 1, 1, 1, 0, 1, 0, 0, 1, 1, 0, 0, 1, 1, 0, 1, 0] B7) = l} := by
  apply Subtype.mk
  dsimp only [opsOf, cAt, kids, B7, bodyOf, Tryd.f7, List.getD, List.getElem?_cons_zero, List.getElem?_cons_succ, Option.getD_some]
@[simp] theorem n7_78 (s : List V) (H : Heap) : evCode P Γ call n f m (cAt [1, 1, 1, 1, 1, 1, 1, 1, 1, 0, 1, 0, 0, 1, 1, 0, 0, 1, 1, 0, 1, 0] B7) s H = regNext (evOpsGo P Γ call r7_78.1 r7_78.1 s H) := at_region (by kernel_rfl) r7_78.2 s H
attribute [simp] r7_78
@[simp] theorem n7_79 (s : List V) (H : Heap) : evCode P Γ call n f m (cAt [1, 1, 1, 1, 1, 1, 1, 1, 1, 0, 1, 0, 0, 1, 1, 0, 0, 1, 1, 0, 1, 1] B7) s H = some (.normal, s, H) := at_skip (by kernel_rfl) s H
@[simp] theorem n7_80 (s : List V) (H : Heap) : evCode P Γ call n f m (cAt [1, 1, 1, 1, 1, 1, 1, 1, 1, 0, 1, 0, 0, 1, 1, 0, 0, 1, 1, 1] B7) s H = seqNext P Γ call n f m (cAt [1, 1, 1, 1, 1, 1, 1, 1, 1, 0, 1, 0, 0, 1, 1, 0, 0, 1, 1, 1, 1] B7) (evCode P Γ call n f m (cAt [1, 1, 1, 1, 1, 1, 1, 1, 1, 0, 1, 0, 0, 1, 1, 0, 0, 1, 1, 1, 0] B7) s H) := at_seq (by kernel_rfl) rfl rfl s H
noncomputable def r7_81 : {l : List Oper // opsOf (cAt [1, 1, 1, 1, 1, 1, 1, 1, 1, 0, 1, 0, 0, 1, 1, 0, 0, 1, 1, 1, 0] B7) = l} := by
  apply Subtype.mk
  dsimp only [opsOf, cAt, kids, B7, bodyOf, Tryd.f7, List.getD, List.getElem?_cons_zero, List.getElem?_cons_succ, Option.getD_some]
@[simp] theorem n7_81 (s : List V) (H : Heap) : evCode P Γ call n f m (cAt [1, 1, 1, 1, 1, 1, 1, 1, 1, 0, 1, 0, 0, 1, 1, 0, 0, 1, 1, 1, 0] B7) s H = regNext (evOpsGo P Γ call r7_81.1 r7_81.1 s H) := at_region (by kernel_rfl) r7_81.2 s H
attribute [simp] r7_81
@[simp] theorem n7_82 (s : List V) (H : Heap) : evCode P Γ call n f m (cAt [1, 1, 1, 1, 1, 1, 1, 1, 1, 0, 1, 0, 0, 1, 1, 0, 0, 1, 1, 1, 1] B7) s H = seqNext P Γ call n f m (cAt [1, 1, 1, 1, 1, 1, 1, 1, 1, 0, 1, 0, 0, 1, 1, 0, 0, 1, 1, 1, 1, 1] B7) (evCode P Γ call n f m (cAt [1, 1, 1, 1, 1, 1, 1, 1, 1, 0, 1, 0, 0, 1, 1, 0, 0, 1, 1, 1, 1, 0] B7) s H) := at_seq (by kernel_rfl) rfl rfl s H
@[simp] theorem n7_83 (s : List V) (H : Heap) : evCode P Γ call n f m (cAt [1, 1, 1, 1, 1, 1, 1, 1, 1, 0, 1, 0, 0, 1, 1, 0, 0, 1, 1, 1, 1, 0] B7) s H = seqNext P Γ call n f m (cAt [1, 1, 1, 1, 1, 1, 1, 1, 1, 0, 1, 0, 0, 1, 1, 0, 0, 1, 1, 1, 1, 0, 1] B7) (evCode P Γ call n f m (cAt [1, 1, 1, 1, 1, 1, 1, 1, 1, 0, 1, 0, 0, 1, 1, 0, 0, 1, 1, 1, 1, 0, 0] B7) s H) := at_seq (by kernel_rfl) rfl rfl s H
noncomputable def r7_84 : {l : List Oper // opsOf (cAt [1, 1, 1, 1, 1, 1, 1, 1, 1, 0, 1, 0, 0, 1, 1, 0, 0, 1, 1, 1, 1, 0, 0] B7) = l} := by
  apply Subtype.mk
  dsimp only [opsOf, cAt, kids, B7, bodyOf, Tryd.f7, List.getD, List.getElem?_cons_zero, List.getElem?_cons_succ, Option.getD_some]
@[simp] theorem n7_84 (s : List V) (H : Heap) : evCode P Γ call n f m (cAt [1, 1, 1, 1, 1, 1, 1, 1, 1, 0, 1, 0, 0, 1, 1, 0, 0, 1, 1, 1, 1, 0, 0] B7) s H = regNext (evOpsGo P Γ call r7_84.1 r7_84.1 s H) := at_region (by kernel_rfl) r7_84.2 s H
attribute [simp] r7_84
@[simp] theorem n7_85 (s : List V) (H : Heap) : evCode P Γ call n f m (cAt [1, 1, 1, 1, 1, 1, 1, 1, 1, 0, 1, 0, 0, 1, 1, 0, 0, 1, 1, 1, 1, 0, 1] B7) s H = condW P Γ call n f m (cAt [1, 1, 1, 1, 1, 1, 1, 1, 1, 0, 1, 0, 0, 1, 1, 0, 0, 1, 1, 1, 1, 0, 1, 0] B7) (cAt [1, 1, 1, 1, 1, 1, 1, 1, 1, 0, 1, 0, 0, 1, 1, 0, 0, 1, 1, 1, 1, 0, 1, 1] B7) s H (evOperand Γ s (.tmp 94)) := at_cond (by kernel_rfl) (by kernel_rfl) rfl rfl s H
noncomputable def r7_86 : {l : List Oper // opsOf (cAt [1, 1, 1, 1, 1, 1, 1, 1, 1, 0, 1, 0, 0, 1, 1, 0, 0, 1, 1, 1, 1, 0, 1, 0] B7) = l} := by
  apply Subtype.mk
  dsimp only [opsOf, cAt, kids, B7, bodyOf, Tryd.f7, List.getD, List.getElem?_cons_zero, List.getElem?_cons_succ, Option.getD_some]
@[simp] theorem n7_86 (s : List V) (H : Heap) : evCode P Γ call n f m (cAt [1, 1, 1, 1, 1, 1, 1, 1, 1, 0, 1, 0, 0, 1, 1, 0, 0, 1, 1, 1, 1, 0, 1, 0] B7) s H = regNext (evOpsGo P Γ call r7_86.1 r7_86.1 s H) := at_region (by kernel_rfl) r7_86.2 s H
attribute [simp] r7_86
@[simp] theorem n7_87 (s : List V) (H : Heap) : evCode P Γ call n f m (cAt [1, 1, 1, 1, 1, 1, 1, 1, 1, 0, 1, 0, 0, 1, 1, 0, 0, 1, 1, 1, 1, 0, 1, 1] B7) s H = some (.normal, s, H) := at_skip (by kernel_rfl) s H
@[simp] theorem n7_88 (s : List V) (H : Heap) : evCode P Γ call n f m (cAt [1, 1, 1, 1, 1, 1, 1, 1, 1, 0, 1, 0, 0, 1, 1, 0, 0, 1, 1, 1, 1, 1] B7) s H = seqNext P Γ call n f m (cAt [1, 1, 1, 1, 1, 1, 1, 1, 1, 0, 1, 0, 0, 1, 1, 0, 0, 1, 1, 1, 1, 1, 1] B7) (evCode P Γ call n f m (cAt [1, 1, 1, 1, 1, 1, 1, 1, 1, 0, 1, 0, 0, 1, 1, 0, 0, 1, 1, 1, 1, 1, 0] B7) s H) := at_seq (by kernel_rfl) rfl rfl s H
@[simp] theorem n7_89 (s : List V) (H : Heap) : evCode P Γ call n f m (cAt [1, 1, 1, 1, 1, 1, 1, 1, 1, 0, 1, 0, 0, 1, 1, 0, 0, 1, 1, 1, 1, 1, 0] B7) s H = seqNext P Γ call n f m (cAt [1, 1, 1, 1, 1, 1, 1, 1, 1, 0, 1, 0, 0, 1, 1, 0, 0, 1, 1, 1, 1, 1, 0, 1] B7) (evCode P Γ call n f m (cAt [1, 1, 1, 1, 1, 1, 1, 1, 1, 0, 1, 0, 0, 1, 1, 0, 0, 1, 1, 1, 1, 1, 0, 0] B7) s H) := at_seq (by kernel_rfl) rfl rfl s H
noncomputable def r7_90 : {l : List Oper // opsOf (cAt [1, 1, 1, 1, 1, 1, 1, 1, 1, 0, 1, 0, 0, 1, 1, 0, 0, 1, 1, 1, 1, 1, 0, 0] B7) = l} := by
  apply Subtype.mk
  dsimp only [opsOf, cAt, kids, B7, bodyOf, Tryd.f7, List.getD, List.getElem?_cons_zero, List.getElem?_cons_succ, Option.getD_some]
@[simp] theorem n7_90 (s : List V) (H : Heap) : evCode P Γ call n f m (cAt [1, 1, 1, 1, 1, 1, 1, 1, 1, 0, 1, 0, 0, 1, 1, 0, 0, 1, 1, 1, 1, 1, 0, 0] B7) s H = regNext (evOpsGo P Γ call r7_90.1 r7_90.1 s H) := at_region (by kernel_rfl) r7_90.2 s H
attribute [simp] r7_90
@[simp] theorem n7_91 (s : List V) (H : Heap) : evCode P Γ call n f m (cAt [1, 1, 1, 1, 1, 1, 1, 1, 1, 0, 1, 0, 0, 1, 1, 0, 0, 1, 1, 1, 1, 1, 0, 1] B7) s H = condW P Γ call n f m (cAt [1, 1, 1, 1, 1, 1, 1, 1, 1, 0, 1, 0, 0, 1, 1, 0, 0, 1, 1, 1, 1, 1, 0, 1, 0] B7) (cAt [1, 1, 1, 1, 1, 1, 1, 1, 1, 0, 1, 0, 0, 1, 1, 0, 0, 1, 1, 1, 1, 1, 0, 1, 1] B7) s H (evOperand Γ s (.tmp 102)) := at_cond (by kernel_rfl) (by kernel_rfl) rfl rfl s H
noncomputable def r7_92 : {l : List Oper // opsOf (cAt [1, 1, 1, 1, 1, 1, 1, 1, 1, 0, 1, 0, 0, 1, 1, 0, 0, 1, 1, 1, 1, 1, 0, 1, 0] B7) = l} := by
  apply Subtype.mk
  dsimp only [opsOf, cAt, kids, B7, bodyOf, Tryd.f7, List.getD, List.getElem?_cons_zero, List.getElem?_cons_succ, Option.getD_some]
@[simp] theorem n7_92 (s : List V) (H : Heap) : evCode P Γ call n f m (cAt [1, 1, 1, 1, 1, 1, 1, 1, 1, 0, 1, 0, 0, 1, 1, 0, 0, 1, 1, 1, 1, 1, 0, 1, 0] B7) s H = regNext (evOpsGo P Γ call r7_92.1 r7_92.1 s H) := at_region (by kernel_rfl) r7_92.2 s H
attribute [simp] r7_92
@[simp] theorem n7_93 (s : List V) (H : Heap) : evCode P Γ call n f m (cAt [1, 1, 1, 1, 1, 1, 1, 1, 1, 0, 1, 0, 0, 1, 1, 0, 0, 1, 1, 1, 1, 1, 0, 1, 1] B7) s H = some (.normal, s, H) := at_skip (by kernel_rfl) s H
noncomputable def r7_94 : {l : List Oper // opsOf (cAt [1, 1, 1, 1, 1, 1, 1, 1, 1, 0, 1, 0, 0, 1, 1, 0, 0, 1, 1, 1, 1, 1, 1] B7) = l} := by
  apply Subtype.mk
  dsimp only [opsOf, cAt, kids, B7, bodyOf, Tryd.f7, List.getD, List.getElem?_cons_zero, List.getElem?_cons_succ, Option.getD_some]
@[simp] theorem n7_94 (s : List V) (H : Heap) : evCode P Γ call n f m (cAt [1, 1, 1, 1, 1, 1, 1, 1, 1, 0, 1, 0, 0, 1, 1, 0, 0, 1, 1, 1, 1, 1, 1] B7) s H = regNext (evOpsGo P Γ call r7_94.1 r7_94.1 s H) := at_region (by kernel_rfl) r7_94.2 s H
attribute [simp] r7_94
noncomputable def r7_95 : {l : List Oper // opsOf (cAt [1, 1, 1, 1, 1, 1, 1, 1, 1, 0, 1, 0, 0, 1, 1, 1] B7) = l} := by
  apply Subtype.mk
  dsimp only [opsOf, cAt, kids, B7, bodyOf, Tryd.f7, List.getD, List.getElem?_cons_zero, List.getElem?_cons_succ, Option.getD_some]
@[simp] theorem n7_95 (s : List V) (H : Heap) : evCode P Γ call n f m (cAt [1, 1, 1, 1, 1, 1, 1, 1, 1, 0, 1, 0, 0, 1, 1, 1] B7) s H = regNext (evOpsGo P Γ call r7_95.1 r7_95.1 s H) := at_region (by kernel_rfl) r7_95.2 s H
attribute [simp] r7_95
@[simp] theorem n7_96 (s : List V) (H : Heap) : evCode P Γ call n f m (cAt [1, 1, 1, 1, 1, 1, 1, 1, 1, 1] B7) s H = seqNext P Γ call n f m (cAt [1, 1, 1, 1, 1, 1, 1, 1, 1, 1, 1] B7) (evCode P Γ call n f m (cAt [1, 1, 1, 1, 1, 1, 1, 1, 1, 1, 0] B7) s H) := at_seq (by kernel_rfl) rfl rfl s H
noncomputable def r7_97 : {l : List Oper // opsOf (cAt [1, 1, 1, 1, 1, 1, 1, 1, 1, 1, 0] B7) = l} := by
  apply Subtype.mk
  dsimp only [opsOf, cAt, kids, B7, bodyOf, Tryd.f7, List.getD, List.getElem?_cons_zero, List.getElem?_cons_succ, Option.getD_some]
@[simp] theorem n7_97 (s : List V) (H : Heap) : evCode P Γ call n f m (cAt [1, 1, 1, 1, 1, 1, 1, 1, 1, 1, 0] B7) s H = regNext (evOpsGo P Γ call r7_97.1 r7_97.1 s H) := at_region (by kernel_rfl) r7_97.2 s H
attribute [simp] r7_97
@[simp] theorem n7_98 (s : List V) (H : Heap) : evCode P Γ call n f m (cAt [1, 1, 1, 1, 1, 1, 1, 1, 1, 1, 1] B7) s H = some (.ret, s, H) := at_ret (by kernel_rfl) s H
theorem b7 {k : Nat} (ho : ∀ args H, Γ.orc 7 args H = none) (args : List V) (H : Heap) (ha : args.length ≤ 125) : evF Tryd.prog Γ (k + 1) 7 args H = bodyEnd Tryd.prog [.tmp 2, .tmp 3] H.length (evCode Tryd.prog Γ (evF Tryd.prog Γ k) k 7 H.length (cAt [] B7) (mkL 125 V.undef (enumV 0 args)) H) := body_at Tryd.func7 (by decide) rfl ho rfl rfl args H ha
noncomputable def B9 : Code := bodyOf Tryd.f9
@[simp] theorem n9_1 (s : List V) (H : Heap) : evCode P Γ call n f m (cAt [] B9) s H = seqNext P Γ call n f m (cAt [1] B9) (evCode P Γ call n f m (cAt [0] B9) s H) := at_seq (by kernel_rfl) rfl rfl s H
noncomputable def r9_2 : {l : List Oper // opsOf (cAt [0] B9) = l} := by
  apply Subtype.mk
  dsimp only [opsOf, cAt, kids, B9, bodyOf, Tryd.f9, List.getD, List.getElem?_cons_zero, List.getElem?_cons_succ, Option.getD_some]
@[simp] theorem n9_2 (s : List V) (H : Heap) : evCode P Γ call n f m (cAt [0] B9) s H = regNext (evOpsGo P Γ call r9_2.1 r9_2.1 s H) := at_region (by kernel_rfl) r9_2.2 s H
attribute [simp] r9_2
@[simp] theorem n9_3 (s : List V) (H : Heap) : evCode P Γ call n f m (cAt [1] B9) s H = seqNext P Γ call n f m (cAt [1, 1] B9) (evCode P Γ call n f m (cAt [1, 0] B9) s H) := at_seq (by kernel_rfl) rfl rfl s H
noncomputable def r9_4 : {l : List Oper // opsOf (cAt [1, 0] B9) = l} := by
  apply Subtype.mk
  dsimp only [opsOf, cAt, kids, B9, bodyOf, Tryd.f9, List.getD, List.getElem?_cons_zero, List.getElem?_cons_succ, Option.getD_some]
@[simp] theorem n9_4 (s : List V) (H : Heap) : evCode P Γ call n f m (cAt [1, 0] B9) s H = regNext (evOpsGo P Γ call r9_4.1 r9_4.1 s H) := at_region (by kernel_rfl) r9_4.2 s H
attribute [simp] r9_4
@[simp] theorem n9_5 (s : List V) (H : Heap) : evCode P Γ call n f m (cAt [1, 1] B9) s H = seqNext P Γ call n f m (cAt [1, 1, 1] B9) (evCode P Γ call n f m (cAt [1, 1, 0] B9) s H) := at_seq (by kernel_rfl) rfl rfl s H
noncomputable def r9_6 : {l : List Oper // opsOf (cAt [1, 1, 0] B9) = l} := by
  apply Subtype.mk
  dsimp only [opsOf, cAt, kids, B9, bodyOf, Tryd.f9, List.getD, List.getElem?_cons_zero, List.getElem?_cons_succ, Option.getD_some]
@[simp] theorem n9_6 (s : List V) (H : Heap) : evCode P Γ call n f m (cAt [1, 1, 0] B9) s H = regNext (evOpsGo P Γ call r9_6.1 r9_6.1 s H) := at_region (by kernel_rfl) r9_6.2 s H
attribute [simp] r9_6
@[simp] theorem n9_7 (s : List V) (H : Heap) : evCode P Γ call n f m (cAt [1, 1, 1] B9) s H = some (.ret, s, H) := at_ret (by kernel_rfl) s H
theorem b9 {k : Nat} (ho : ∀ args H, Γ.orc 9 args H = none) (args : List V) (H : Heap) (ha : args.length ≤ 25) : evF Tryd.prog Γ (k + 1) 9 args H = bodyEnd Tryd.prog [.tmp 0] H.length (evCode Tryd.prog Γ (evF Tryd.prog Γ k) k 9 H.length (cAt [] B9) (mkL 25 V.undef (enumV 0 args)) H) := body_at Tryd.func9 (by decide) rfl ho rfl rfl args H ha
noncomputable def B10 : Code := bodyOf Tryd.f10
@[simp] theorem n10_1 (s : List V) (H : Heap) : evCode P Γ call n f m (cAt [] B10) s H = seqNext P Γ call n f m (cAt [1] B10) (evCode P Γ call n f m (cAt [0] B10) s H) := at_seq (by kernel_rfl) rfl rfl s H
noncomputable def r10_2 : {l : List Oper // opsOf (cAt [0] B10) = l} := by
  apply Subtype.mk
  dsimp only [opsOf, cAt, kids, B10, bodyOf, Tryd.f10, List.getD, List.getElem?_cons_zero, List.getElem?_cons_succ, Option.getD_some]
@[simp] theorem n10_2 (s : List V) (H : Heap) : evCode P Γ call n f m (cAt [0] B10) s H = regNext (evOpsGo P Γ call r10_2.1 r10_2.1 s H) := at_region (by kernel_rfl) r10_2.2 s H
attribute [simp] r10_2
@[simp] theorem n10_3 (s : List V) (H : Heap) : evCode P Γ call n f m (cAt [1] B10) s H = seqNext P Γ call n f m (cAt [1, 1] B10) (evCode P Γ call n f m (cAt [1, 0] B10) s H) := at_seq (by kernel_rfl) rfl rfl s H
noncomputable def r10_4 : {l : List Oper // opsOf (cAt [1, 0] B10) = l} := by
  apply Subtype.mk
  dsimp only [opsOf, cAt, kids, B10, bodyOf, Tryd.f10, List.getD, List.getElem?_cons_zero, List.getElem?_cons_succ, Option.getD_some]
@[simp] theorem n10_4 (s : List V) (H : Heap) : evCode P Γ call n f m (cAt [1, 0] B10) s H = regNext (evOpsGo P Γ call r10_4.1 r10_4.1 s H) := at_region (by kernel_rfl) r10_4.2 s H
attribute [simp] r10_4
@[simp] theorem n10_5 (s : List V) (H : Heap) : evCode P Γ call n f m (cAt [1, 1] B10) s H = seqNext P Γ call n f m (cAt [1, 1, 1] B10) (evCode P Γ call n f m (cAt [1, 1, 0] B10) s H) := at_seq (by kernel_rfl) rfl rfl s H
@[simp] theorem n10_6 (s : List V) (H : Heap) : evCode P Γ call n f m (cAt [1, 1, 0] B10) s H = seqNext P Γ call n f m (cAt [1, 1, 0, 1] B10) (evCode P Γ call n f m (cAt [1, 1, 0, 0] B10) s H) := at_seq (by kernel_rfl) rfl rfl s H
noncomputable def r10_7 : {l : List Oper // opsOf (cAt [1, 1, 0, 0] B10) = l} := by
  apply Subtype.mk
  dsimp only [opsOf, cAt, kids, B10, bodyOf, Tryd.f10, List.getD, List.getElem?_cons_zero, List.getElem?_cons_succ, Option.getD_some]
@[simp] theorem n10_7 (s : List V) (H : Heap) : evCode P Γ call n f m (cAt [1, 1, 0, 0] B10) s H = regNext (evOpsGo P Γ call r10_7.1 r10_7.1 s H) := at_region (by kernel_rfl) r10_7.2 s H
attribute [simp] r10_7
@[simp] theorem n10_8 (s : List V) (H : Heap) : evCode P Γ call n f m (cAt [1, 1, 0, 1] B10) s H = condW P Γ call n f m (cAt [1, 1, 0, 1, 0] B10) (cAt [1, 1, 0, 1, 1] B10) s H (evOperand Γ s (.tmp 9)) := at_cond (by kernel_rfl) (by kernel_rfl) rfl rfl s H
noncomputable def r10_9 : {l : List Oper // opsOf (cAt [1, 1, 0, 1, 0] B10) = l} := by
  apply Subtype.mk
  dsimp only [opsOf, cAt, kids, B10, bodyOf, Tryd.f10, List.getD, List.getElem?_cons_zero, List.getElem?_cons_succ, Option.getD_some]
@[simp] theorem n10_9 (s : List V) (H : Heap) : evCode P Γ call n f m (cAt [1, 1, 0, 1, 0] B10) s H = regNext (evOpsGo P Γ call r10_9.1 r10_9.1 s H) := at_region (by kernel_rfl) r10_9.2 s H
attribute [simp] r10_9
@[simp] theorem n10_10 (s : List V) (H : Heap) : evCode P Γ call n f m (cAt [1, 1, 0, 1, 1] B10) s H = some (.normal, s, H) := at_skip (by kernel_rfl) s H
@[simp] theorem n10_11 (s : List V) (H : Heap) : evCode P Γ call n f m (cAt [1, 1, 1] B10) s H = seqNext P Γ call n f m (cAt [1, 1, 1, 1] B10) (evCode P Γ call n f m (cAt [1, 1, 1, 0] B10) s H) := at_seq (by kernel_rfl) rfl rfl s H
noncomputable def r10_12 : {l : List Oper // opsOf (cAt [1, 1, 1, 0] B10) = l} := by
  apply Subtype.mk
  dsimp only [opsOf, cAt, kids, B10, bodyOf, Tryd.f10, List.getD, List.getElem?_cons_zero, List.getElem?_cons_succ, Option.getD_some]
@[simp] theorem n10_12 (s : List V) (H : Heap) : evCode P Γ call n f m (cAt [1, 1, 1, 0] B10) s H = regNext (evOpsGo P Γ call r10_12.1 r10_12.1 s H) := at_region (by kernel_rfl) r10_12.2 s H
attribute [simp] r10_12
@[simp] theorem n10_13 (s : List V) (H : Heap) : evCode P Γ call n f m (cAt [1, 1, 1, 1] B10) s H = some (.ret, s, H) := at_ret (by kernel_rfl) s H
theorem b10 {k : Nat} (ho : ∀ args H, Γ.orc 10 args H = none) (args : List V) (H : Heap) (ha : args.length ≤ 14) : evF Tryd.prog Γ (k + 1) 10 args H = bodyEnd Tryd.prog [.tmp 4] H.length (evCode Tryd.prog Γ (evF Tryd.prog Γ k) k 10 H.length (cAt [] B10) (mkL 14 V.undef (enumV 0 args)) H) := body_at Tryd.func10 (by decide) rfl ho rfl rfl args H ha
noncomputable def B21 : Code := bodyOf Tryd.f21
@[simp] theorem n21_1 (s : List V) (H : Heap) : evCode P Γ call n f m (cAt [] B21) s H = seqNext P Γ call n f m (cAt [1] B21) (evCode P Γ call n f m (cAt [0] B21) s H) := at_seq (by kernel_rfl) rfl rfl s H
noncomputable def r21_2 : {l : List Oper // opsOf (cAt [0] B21) = l} := by
  apply Subtype.mk
  dsimp only [opsOf, cAt, kids, B21, bodyOf, Tryd.f21, List.getD, List.getElem?_cons_zero, List.getElem?_cons_succ, Option.getD_some]
@[simp] theorem n21_2 (s : List V) (H : Heap) : evCode P Γ call n f m (cAt [0] B21) s H = regNext (evOpsGo P Γ call r21_2.1 r21_2.1 s H) := at_region (by kernel_rfl) r21_2.2 s H
attribute [simp] r21_2
@[simp] theorem n21_3 (s : List V) (H : Heap) : evCode P Γ call n f m (cAt [1] B21) s H = seqNext P Γ call n f m (cAt [1, 1] B21) (evCode P Γ call n f m (cAt [1, 0] B21) s H) := at_seq (by kernel_rfl) rfl rfl s H
@[simp] theorem n21_4 (s : List V) (H : Heap) : evCode P Γ call n f m (cAt [1, 0] B21) s H = seqNext P Γ call n f m (cAt [1, 0, 1] B21) (evCode P Γ call n f m (cAt [1, 0, 0] B21) s H) := at_seq (by kernel_rfl) rfl rfl s H
noncomputable def r21_5 : {l : List Oper // opsOf (cAt [1, 0, 0] B21) = l} := by
  apply Subtype.mk
  dsimp only [opsOf, cAt, kids, B21, bodyOf, Tryd.f21, List.getD, List.getElem?_cons_zero, List.getElem?_cons_succ, Option.getD_some]
@[simp] theorem n21_5 (s : List V) (H : Heap) : evCode P Γ call n f m (cAt [1, 0, 0] B21) s H = regNext (evOpsGo P Γ call r21_5.1 r21_5.1 s H) := at_region (by kernel_rfl) r21_5.2 s H
attribute [simp] r21_5
@[simp] theorem n21_6 (s : List V) (H : Heap) : evCode P Γ call n f m (cAt [1, 0, 1] B21) s H = condW P Γ call n f m (cAt [1, 0, 1, 0] B21) (cAt [1, 0, 1, 1] B21) s H (evOperand Γ s (.tmp 15)) := at_cond (by kernel_rfl) (by kernel_rfl) rfl rfl s H
@[simp] theorem n21_7 (s : List V) (H : Heap) : evCode P Γ call n f m (cAt [1, 0, 1, 0] B21) s H = seqNext P Γ call n f m (cAt [1, 0, 1, 0, 1] B21) (evCode P Γ call n f m (cAt [1, 0, 1, 0, 0] B21) s H) := at_seq (by kernel_rfl) rfl rfl s H
noncomputable def r21_8 : {l : List Oper // opsOf (cAt [1, 0, 1, 0, 0] B21) = l} := by
  apply Subtype.mk
  dsimp only [opsOf, cAt, kids, B21, bodyOf, Tryd.f21, List.getD, List.getElem?_cons_zero, List.getElem?_cons_succ, Option.getD_some]
@[simp] theorem n21_8 (s : List V) (H : Heap) : evCode P Γ call n f m (cAt [1, 0, 1, 0, 0] B21) s H = regNext (evOpsGo P Γ call r21_8.1 r21_8.1 s H) := at_region (by kernel_rfl) r21_8.2 s H
attribute [simp] r21_8
@[simp] theorem n21_9 (s : List V) (H : Heap) : evCode P Γ call n f m (cAt [1, 0, 1, 0, 1] B21) s H = some (.ret, s, H) := at_ret (by kernel_rfl) s H
@[simp] theorem n21_10 (s : List V) (H : Heap) : evCode P Γ call n f m (cAt [1, 0, 1, 1] B21) s H = some (.normal, s, H) := at_skip (by kernel_rfl) s H
@[simp] theorem n21_11 (s : List V) (H : Heap) : evCode P Γ call n f m (cAt [1, 1] B21) s H = seqNext P Γ call n f m (cAt [1, 1, 1] B21) (evCode P Γ call n f m (cAt [1, 1, 0] B21) s H) := at_seq (by kernel_rfl) rfl rfl s H
noncomputable def r21_12 : {l : List Oper // opsOf (cAt [1, 1, 0] B21) = l} := by
  apply Subtype.mk
  dsimp only [opsOf, cAt, kids, B21, bodyOf, Tryd.f21, List.getD, List.getElem?_cons_zero, List.getElem?_cons_succ, Option.getD_some]
@[simp] theorem n21_12 (s : List V) (H : Heap) : evCode P Γ call n f m (cAt [1, 1, 0] B21) s H = regNext (evOpsGo P Γ call r21_12.1 r21_12.1 s H) := at_region (by kernel_rfl) r21_12.2 s H
attribute [simp] r21_12
@[simp] theorem n21_13 (s : List V) (H : Heap) : evCode P Γ call n f m (cAt [1, 1, 1] B21) s H = seqNext P Γ call n f m (cAt [1, 1, 1, 1] B21) (evCode P Γ call n f m (cAt [1, 1, 1, 0] B21) s H) := at_seq (by kernel_rfl) rfl rfl s H
noncomputable def r21_14 : {l : List Oper // opsOf (cAt [1, 1, 1, 0] B21) = l} := by
  apply Subtype.mk
  dsimp only [opsOf, cAt, kids, B21, bodyOf, Tryd.f21, List.getD, List.getElem?_cons_zero, List.getElem?_cons_succ, Option.getD_some]
@[simp] theorem n21_14 (s : List V) (H : Heap) : evCode P Γ call n f m (cAt [1, 1, 1, 0] B21) s H = regNext (evOpsGo P Γ call r21_14.1 r21_14.1 s H) := at_region (by kernel_rfl) r21_14.2 s H
attribute [simp] r21_14
@[simp] theorem n21_15 (s : List V) (H : Heap) : evCode P Γ call n f m (cAt [1, 1, 1, 1] B21) s H = seqNext P Γ call n f m (cAt [1, 1, 1, 1, 1] B21) (evCode P Γ call n f m (cAt [1, 1, 1, 1, 0] B21) s H) := at_seq (by kernel_rfl) rfl rfl s H
noncomputable def r21_16 : {l : List Oper // opsOf (cAt [1, 1, 1, 1, 0] B21) = l} := by
  apply Subtype.mk
  dsimp only [opsOf, cAt, kids, B21, bodyOf, Tryd.f21, List.getD, List.getElem?_cons_zero, List.getElem?_cons_succ, Option.getD_some]
@[simp] theorem n21_16 (s : List V) (H : Heap) : evCode P Γ call n f m (cAt [1, 1, 1, 1, 0] B21) s H = regNext (evOpsGo P Γ call r21_16.1 r21_16.1 s H) := at_region (by kernel_rfl) r21_16.2 s H
attribute [simp] r21_16
@[simp] theorem n21_17 (s : List V) (H : Heap) : evCode P Γ call n f m (cAt [1, 1, 1, 1, 1] B21) s H = some (.ret, s, H) := at_ret (by kernel_rfl) s H
theorem b21 {k : Nat} (ho : ∀ args H, Γ.orc 21 args H = none) (args : List V) (H : Heap) (ha : args.length ≤ 33) : evF Tryd.prog Γ (k + 1) 21 args H = bodyEnd Tryd.prog [.tmp 4] H.length (evCode Tryd.prog Γ (evF Tryd.prog Γ k) k 21 H.length (cAt [] B21) (mkL 33 V.undef (enumV 0 args)) H) := body_at Tryd.func21 (by decide) rfl ho rfl rfl args H ha
noncomputable def B15 : Code := bodyOf Tryd.f15
@[simp] theorem n15_1 (s : List V) (H : Heap) : evCode P Γ call n f m (cAt [] B15) s H = seqNext P Γ call n f m (cAt [1] B15) (evCode P Γ call n f m (cAt [0] B15) s H) := at_seq (by kernel_rfl) rfl rfl s H
noncomputable def r15_2 : {l : List Oper // opsOf (cAt [0] B15) = l} := by
  apply Subtype.mk
  dsimp only [opsOf, cAt, kids, B15, bodyOf, Tryd.f15, List.getD, List.getElem?_cons_zero, List.getElem?_cons_succ, Option.getD_some]
@[simp] theorem n15_2 (s : List V) (H : Heap) : evCode P Γ call n f m (cAt [0] B15) s H = regNext (evOpsGo P Γ call r15_2.1 r15_2.1 s H) := at_region (by kernel_rfl) r15_2.2 s H
attribute [simp] r15_2
@[simp] theorem n15_3 (s : List V) (H : Heap) : evCode P Γ call n f m (cAt [1] B15) s H = seqNext P Γ call n f m (cAt [1, 1] B15) (evCode P Γ call n f m (cAt [1, 0] B15) s H) := at_seq (by kernel_rfl) rfl rfl s H
noncomputable def r15_4 : {l : List Oper // opsOf (cAt [1, 0] B15) = l} := by
  apply Subtype.mk
  dsimp only [opsOf, cAt, kids, B15, bodyOf, Tryd.f15, List.getD, List.getElem?_cons_zero, List.getElem?_cons_succ, Option.getD_some]
@[simp] theorem n15_4 (s : List V) (H : Heap) : evCode P Γ call n f m (cAt [1, 0] B15) s H = regNext (evOpsGo P Γ call r15_4.1 r15_4.1 s H) := at_region (by kernel_rfl) r15_4.2 s H
attribute [simp] r15_4
@[simp] theorem n15_5 (s : List V) (H : Heap) : evCode P Γ call n f m (cAt [1, 1] B15) s H = seqNext P Γ call n f m (cAt [1, 1, 1] B15) (evCode P Γ call n f m (cAt [1, 1, 0] B15) s H) := at_seq (by kernel_rfl) rfl rfl s H
@[simp] theorem n15_6 (s : List V) (H : Heap) : evCode P Γ call n f m (cAt [1, 1, 0] B15) s H = seqNext P Γ call n f m (cAt [1, 1, 0, 1] B15) (evCode P Γ call n f m (cAt [1, 1, 0, 0] B15) s H) := at_seq (by kernel_rfl) rfl rfl s H
noncomputable def r15_7 : {l : List Oper // opsOf (cAt [1, 1, 0, 0] B15) = l} := by
  apply Subtype.mk
  dsimp only [opsOf, cAt, kids, B15, bodyOf, Tryd.f15, List.getD, List.getElem?_cons_zero, List.getElem?_cons_succ, Option.getD_some]
@[simp] theorem n15_7 (s : List V) (H : Heap) : evCode P Γ call n f m (cAt [1, 1, 0, 0] B15) s H = regNext (evOpsGo P Γ call r15_7.1 r15_7.1 s H) := at_region (by kernel_rfl) r15_7.2 s H
attribute [simp] r15_7
@[simp] theorem n15_8 (s : List V) (H : Heap) : evCode P Γ call n f m (cAt [1, 1, 0, 1] B15) s H = blockNext 0 (evCode P Γ call n f m (cAt [1, 1, 0, 1, 0] B15) s H) := at_block (by kernel_rfl) rfl s H
@[simp] theorem n15_9 (s : List V) (H : Heap) : evCode P Γ call n f m (cAt [1, 1, 0, 1, 0] B15) s H = evLoopC P Γ call n f m (cAt [1, 1, 0, 1, 0, 0] B15) n s H := at_loop (by kernel_rfl) rfl s H
noncomputable abbrev L15_3 : Code := cAt [1, 1, 0, 1, 0, 0] B15
@[simp] theorem n15_9f : firstRegion (cAt [1, 1, 0, 1, 0, 0] B15) = 3 := by kernel_rfl
@[simp] theorem n15_10 (s : List V) (H : Heap) : evCode P Γ call n f m (cAt [1, 1, 0, 1, 0, 0] B15) s H = seqNext P Γ call n f m (cAt [1, 1, 0, 1, 0, 0, 1] B15) (evCode P Γ call n f m (cAt [1, 1, 0, 1, 0, 0, 0] B15) s H) := at_seq (by kernel_rfl) rfl rfl s H
noncomputable def r15_11 : {l : List Oper // opsOf (cAt [1, 1, 0, 1, 0, 0, 0] B15) = l} := by
  apply Subtype.mk
  dsimp only [opsOf, cAt, kids, B15, bodyOf, Tryd.f15, List.getD, List.getElem?_cons_zero, List.getElem?_cons_succ, Option.getD_some]
@[simp] theorem n15_11 (s : List V) (H : Heap) : evCode P Γ call n f m (cAt [1, 1, 0, 1, 0, 0, 0] B15) s H = regNext (evOpsGo P Γ call r15_11.1 r15_11.1 s H) := at_region (by kernel_rfl) r15_11.2 s H
attribute [simp] r15_11
@[simp] theorem n15_12 (s : List V) (H : Heap) : evCode P Γ call n f m (cAt [1, 1, 0, 1, 0, 0, 1] B15) s H = seqNext P Γ call n f m (cAt [1, 1, 0, 1, 0, 0, 1, 1] B15) (evCode P Γ call n f m (cAt [1, 1, 0, 1, 0, 0, 1, 0] B15) s H) := at_seq (by kernel_rfl) rfl rfl s H
@[simp] theorem n15_13 (s : List V) (H : Heap) : evCode P Γ call n f m (cAt [1, 1, 0, 1, 0, 0, 1, 0] B15) s H = condW P Γ call n f m (cAt [1, 1, 0, 1, 0, 0, 1, 0, 0] B15) (cAt [1, 1, 0, 1, 0, 0, 1, 0, 1] B15) s H (evOperand Γ s (.tmp 12)) := at_cond (by kernel_rfl) (by kernel_rfl) rfl rfl s H
@[simp] theorem n15_14 (s : List V) (H : Heap) : evCode P Γ call n f m (cAt [1, 1, 0, 1, 0, 0, 1, 0, 0] B15) s H = some (.normal, s, H) := at_skip (by kernel_rfl) s H
@[simp] theorem n15_15 (s : List V) (H : Heap) : evCode P Γ call n f m (cAt [1, 1, 0, 1, 0, 0, 1, 0, 1] B15) s H = some (.exit 0, s, H) := at_exit (by kernel_rfl) s H
@[simp] theorem n15_16 (s : List V) (H : Heap) : evCode P Γ call n f m (cAt [1, 1, 0, 1, 0, 0, 1, 1] B15) s H = seqNext P Γ call n f m (cAt [1, 1, 0, 1, 0, 0, 1, 1, 1] B15) (evCode P Γ call n f m (cAt [1, 1, 0, 1, 0, 0, 1, 1, 0] B15) s H) := at_seq (by kernel_rfl) rfl rfl s H
@[simp] theorem n15_17 (s : List V) (H : Heap) : evCode P Γ call n f m (cAt [1, 1, 0, 1, 0, 0, 1, 1, 0] B15) s H = blockNext 1 (evCode P Γ call n f m (cAt [1, 1, 0, 1, 0, 0, 1, 1, 0, 0] B15) s H) := at_block (by kernel_rfl) rfl s H
@[simp] theorem n15_18 (s : List V) (H : Heap) : evCode P Γ call n f m (cAt [1, 1, 0, 1, 0, 0, 1, 1, 0, 0] B15) s H = seqNext P Γ call n f m (cAt [1, 1, 0, 1, 0, 0, 1, 1, 0, 0, 1] B15) (evCode P Γ call n f m (cAt [1, 1, 0, 1, 0, 0, 1, 1, 0, 0, 0] B15) s H) := at_seq (by kernel_rfl) rfl rfl s H
noncomputable def r15_19 : {l : List Oper // opsOf (cAt [1, 1, 0, 1, 0, 0, 1, 1, 0, 0, 0] B15) = l} := by
  apply Subtype.mk
  dsimp only [opsOf, cAt, kids, B15, bodyOf, Tryd.f15, List.getD, List.getElem?_cons_zero, List.getElem?_cons_succ, Option.getD_some]
@[simp] theorem n15_19 (s : List V) (H : Heap) : evCode P Γ call n f m (cAt [1, 1, 0, 1, 0, 0, 1, 1, 0, 0, 0] B15) s H = regNext (evOpsGo P Γ call r15_19.1 r15_19.1 s H) := at_region (by kernel_rfl) r15_19.2 s H
attribute [simp] r15_19
@[simp] theorem n15_20 (s : List V) (H : Heap) : evCode P Γ call n f m (cAt [1, 1, 0, 1, 0, 0, 1, 1, 0, 0, 1] B15) s H = seqNext P Γ call n f m (cAt [1, 1, 0, 1, 0, 0, 1, 1, 0, 0, 1, 1] B15) (evCode P Γ call n f m (cAt [1, 1, 0, 1, 0, 0, 1, 1, 0, 0, 1, 0] B15) s H) := at_seq (by kernel_rfl) rfl rfl s H
noncomputable def r15_21 : {l : List Oper // opsOf (cAt [1, 1, 0, 1, 0, 0, 1, 1, 0, 0, 1, 0] B15) = l} := by
  apply Subtype.mk
  dsimp only [opsOf, cAt, kids, B15, bodyOf, Tryd.f15, List.getD, List.getElem?_cons_zero, List.getElem?_cons_succ, Option.getD_some]
@[simp] theorem n15_21 (s : List V) (H : Heap) : evCode P Γ call n f m (cAt [1, 1, 0, 1, 0, 0, 1, 1, 0, 0, 1, 0] B15) s H = regNext (evOpsGo P Γ call r15_21.1 r15_21.1 s H) := at_region (by kernel_rfl) r15_21.2 s H
attribute [simp] r15_21
@[simp] theorem n15_22 (s : List V) (H : Heap) : evCode P Γ call n f m (cAt [1, 1, 0, 1, 0, 0, 1, 1, 0, 0, 1, 1] B15) s H = seqNext P Γ call n f m (cAt [1, 1, 0, 1, 0, 0, 1, 1, 0, 0, 1, 1, 1] B15) (evCode P Γ call n f m (cAt [1, 1, 0, 1, 0, 0, 1, 1, 0, 0, 1, 1, 0] B15) s H) := at_seq (by kernel_rfl) rfl rfl s H
noncomputable def r15_23 : {l : List Oper // opsOf (cAt [1, 1, 0, 1, 0, 0, 1, 1, 0, 0, 1, 1, 0] B15) = l} := by
  apply Subtype.mk
  dsimp only [opsOf, cAt, kids, B15, bodyOf, Tryd.f15, List.getD, List.getElem?_cons_zero, List.getElem?_cons_succ, Option.getD_some]
@[simp] theorem n15_23 (s : List V) (H : Heap) : evCode P Γ call n f m (cAt [1, 1, 0, 1, 0, 0, 1, 1, 0, 0, 1, 1, 0] B15) s H = regNext (evOpsGo P Γ call r15_23.1 r15_23.1 s H) := at_region (by kernel_rfl) r15_23.2 s H
attribute [simp] r15_23
@[simp] theorem n15_24 (s : List V) (H : Heap) : evCode P Γ call n f m (cAt [1, 1, 0, 1, 0, 0, 1, 1, 0, 0, 1, 1, 1] B15) s H = condW P Γ call n f m (cAt [1, 1, 0, 1, 0, 0, 1, 1, 0, 0, 1, 1, 1, 0] B15) (cAt [1, 1, 0, 1, 0, 0, 1, 1, 0, 0, 1, 1, 1, 1] B15) s H (evOperand Γ s (.tmp 20)) := at_cond (by kernel_rfl) (by kernel_rfl) rfl rfl s H
noncomputable def r15_25 : {l : List Oper // opsOf (cAt [1, 1, 0, 1, 0, 0, 1, 1, 0, 0, 1, 1, 1, 0] B15) = l} := by
  apply Subtype.mk
  dsimp only [opsOf, cAt, kids, B15, bodyOf, Tryd.f15, List.getD, List.getElem?_cons_zero, List.getElem?_cons_succ, Option.getD_some]
@[simp] theorem n15_25 (s : List V) (H : Heap) : evCode P Γ call n f m (cAt [1, 1, 0, 1, 0, 0, 1, 1, 0, 0, 1, 1, 1, 0] B15) s H = regNext (evOpsGo P Γ call r15_25.1 r15_25.1 s H) := at_region (by kernel_rfl) r15_25.2 s H
attribute [simp] r15_25
@[simp] theorem n15_26 (s : List V) (H : Heap) : evCode P Γ call n f m (cAt [1, 1, 0, 1, 0, 0, 1, 1, 0, 0, 1, 1, 1, 1] B15) s H = some (.normal, s, H) := at_skip (by kernel_rfl) s H
noncomputable def r15_27 : {l : List Oper // opsOf (cAt [1, 1, 0, 1, 0, 0, 1, 1, 1] B15) = l} := by
  apply Subtype.mk
  dsimp only [opsOf, cAt, kids, B15, bodyOf, Tryd.f15, List.getD, List.getElem?_cons_zero, List.getElem?_cons_succ, Option.getD_some]
@[simp] theorem n15_27 (s : List V) (H : Heap) : evCode P Γ call n f m (cAt [1, 1, 0, 1, 0, 0, 1, 1, 1] B15) s H = regNext (evOpsGo P Γ call r15_27.1 r15_27.1 s H) := at_region (by kernel_rfl) r15_27.2 s H
attribute [simp] r15_27
@[simp] theorem n15_28 (s : List V) (H : Heap) : evCode P Γ call n f m (cAt [1, 1, 1] B15) s H = seqNext P Γ call n f m (cAt [1, 1, 1, 1] B15) (evCode P Γ call n f m (cAt [1, 1, 1, 0] B15) s H) := at_seq (by kernel_rfl) rfl rfl s H
noncomputable def r15_29 : {l : List Oper // opsOf (cAt [1, 1, 1, 0] B15) = l} := by
  apply Subtype.mk
  dsimp only [opsOf, cAt, kids, B15, bodyOf, Tryd.f15, List.getD, List.getElem?_cons_zero, List.getElem?_cons_succ, Option.getD_some]
@[simp] theorem n15_29 (s : List V) (H : Heap) : evCode P Γ call n f m (cAt [1, 1, 1, 0] B15) s H = regNext (evOpsGo P Γ call r15_29.1 r15_29.1 s H) := at_region (by kernel_rfl) r15_29.2 s H
attribute [simp] r15_29
@[simp] theorem n15_30 (s : List V) (H : Heap) : evCode P Γ call n f m (cAt [1, 1, 1, 1] B15) s H = seqNext P Γ call n f m (cAt [1, 1, 1, 1, 1] B15) (evCode P Γ call n f m (cAt [1, 1, 1, 1, 0] B15) s H) := at_seq (by kernel_rfl) rfl rfl s H
@[simp] theorem n15_31 (s : List V) (H : Heap) : evCode P Γ call n f m (cAt [1, 1, 1, 1, 0] B15) s H = seqNext P Γ call n f m (cAt [1, 1, 1, 1, 0, 1] B15) (evCode P Γ call n f m (cAt [1, 1, 1, 1, 0, 0] B15) s H) := at_seq (by kernel_rfl) rfl rfl s H
noncomputable def r15_32 : {l : List Oper // opsOf (cAt [1, 1, 1, 1, 0, 0] B15) = l} := by
  apply Subtype.mk
  dsimp only [opsOf, cAt, kids, B15, bodyOf, Tryd.f15, List.getD, List.getElem?_cons_zero, List.getElem?_cons_succ, Option.getD_some]
@[simp] theorem n15_32 (s : List V) (H : Heap) : evCode P Γ call n f m (cAt [1, 1, 1, 1, 0, 0] B15) s H = regNext (evOpsGo P Γ call r15_32.1 r15_32.1 s H) := at_region (by kernel_rfl) r15_32.2 s H
attribute [simp] r15_32
@[simp] theorem n15_33 (s : List V) (H : Heap) : evCode P Γ call n f m (cAt [1, 1, 1, 1, 0, 1] B15) s H = blockNext 2 (evCode P Γ call n f m (cAt [1, 1, 1, 1, 0, 1, 0] B15) s H) := at_block (by kernel_rfl) rfl s H
@[simp] theorem n15_34 (s : List V) (H : Heap) : evCode P Γ call n f m (cAt [1, 1, 1, 1, 0, 1, 0] B15) s H = evLoopC P Γ call n f m (cAt [1, 1, 1, 1, 0, 1, 0, 0] B15) n s H := at_loop (by kernel_rfl) rfl s H
noncomputable abbrev L15_11 : Code := cAt [1, 1, 1, 1, 0, 1, 0, 0] B15
@[simp] theorem n15_34f : firstRegion (cAt [1, 1, 1, 1, 0, 1, 0, 0] B15) = 11 := by kernel_rfl
@[simp] theorem n15_35 (s : List V) (H : Heap) : evCode P Γ call n f m (cAt [1, 1, 1, 1, 0, 1, 0, 0] B15) s H = seqNext P Γ call n f m (cAt [1, 1, 1, 1, 0, 1, 0, 0, 1] B15) (evCode P Γ call n f m (cAt [1, 1, 1, 1, 0, 1, 0, 0, 0] B15) s H) := at_seq (by kernel_rfl) rfl rfl s H
noncomputable def r15_36 : {l : List Oper // opsOf (cAt [1, 1, 1, 1, 0, 1, 0, 0, 0] B15) = l} := by
  apply Subtype.mk
  dsimp only [opsOf, cAt, kids, B15, bodyOf, Tryd.f15, List.getD, List.getElem?_cons_zero, List.getElem?_cons_succ, Option.getD_some]
@[simp] theorem n15_36 (s : List V) (H : Heap) : evCode P Γ call n f m (cAt [1, 1, 1, 1, 0, 1, 0, 0, 0] B15) s H = regNext (evOpsGo P Γ call r15_36.1 r15_36.1 s H) := at_region (by kernel_rfl) r15_36.2 s H
attribute [simp] r15_36
@[simp] theorem n15_37 (s : List V) (H : Heap) : evCode P Γ call n f m (cAt [1, 1, 1, 1, 0, 1, 0, 0, 1] B15) s H = seqNext P Γ call n f m (cAt [1, 1, 1, 1, 0, 1, 0, 0, 1, 1] B15) (evCode P Γ call n f m (cAt [1, 1, 1, 1, 0, 1, 0, 0, 1, 0] B15) s H) := at_seq (by kernel_rfl) rfl rfl s H
@[simp] theorem n15_38 (s : List V) (H : Heap) : evCode P Γ call n f m (cAt [1, 1, 1, 1, 0, 1, 0, 0, 1, 0] B15) s H = condW P Γ call n f m (cAt [1, 1, 1, 1, 0, 1, 0, 0, 1, 0, 0] B15) (cAt [1, 1, 1, 1, 0, 1, 0, 0, 1, 0, 1] B15) s H (evOperand Γ s (.tmp 28)) := at_cond (by kernel_rfl) (by kernel_rfl) rfl rfl s H
@[simp] theorem n15_39 (s : List V) (H : Heap) : evCode P Γ call n f m (cAt [1, 1, 1, 1, 0, 1, 0, 0, 1, 0, 0] B15) s H = some (.normal, s, H) := at_skip (by kernel_rfl) s H
@[simp] theorem n15_40 (s : List V) (H : Heap) : evCode P Γ call n f m (cAt [1, 1, 1, 1, 0, 1, 0, 0, 1, 0, 1] B15) s H = some (.exit 2, s, H) := at_exit (by kernel_rfl) s H
@[simp] theorem n15_41 (s : List V) (H : Heap) : evCode P Γ call n f m (cAt [1, 1, 1, 1, 0, 1, 0, 0, 1, 1] B15) s H = seqNext P Γ call n f m (cAt [1, 1, 1, 1, 0, 1, 0, 0, 1, 1, 1] B15) (evCode P Γ call n f m (cAt [1, 1, 1, 1, 0, 1, 0, 0, 1, 1, 0] B15) s H) := at_seq (by kernel_rfl) rfl rfl s H
@[simp] theorem n15_42 (s : List V) (H : Heap) : evCode P Γ call n f m (cAt [1, 1, 1, 1, 0, 1, 0, 0, 1, 1, 0] B15) s H = blockNext 3 (evCode P Γ call n f m (cAt [1, 1, 1, 1, 0, 1, 0, 0, 1, 1, 0, 0] B15) s H) := at_block (by kernel_rfl) rfl s H
@[simp] theorem n15_43 (s : List V) (H : Heap) : evCode P Γ call n f m (cAt [1, 1, 1, 1, 0, 1, 0, 0, 1, 1, 0, 0] B15) s H = seqNext P Γ call n f m (cAt [1, 1, 1, 1, 0, 1, 0, 0, 1, 1, 0, 0, 1] B15) (evCode P Γ call n f m (cAt [1, 1, 1, 1, 0, 1, 0, 0, 1, 1, 0, 0, 0] B15) s H) := at_seq (by kernel_rfl) rfl rfl s H
noncomputable def r15_44 : {l : List Oper // opsOf (cAt [1, 1, 1, 1, 0, 1, 0, 0, 1, 1, 0, 0, 0] B15) = l} := by
  apply Subtype.mk
  dsimp only [opsOf, cAt, kids, B15, bodyOf, Tryd.f15, List.getD, List.getElem?_cons_zero, List.getElem?_cons_succ, Option.getD_some]
@[simp] theorem n15_44 (s : List V) (H : Heap) : evCode P Γ call n f m (cAt [1, 1, 1, 1, 0, 1, 0, 0, 1, 1, 0, 0, 0] B15) s H = regNext (evOpsGo P Γ call r15_44.1 r15_44.1 s H) := at_region (by kernel_rfl) r15_44.2 s H
attribute [simp] r15_44
noncomputable def r15_45 : {l : List Oper // opsOf (cAt [1, 1, 1, 1, 0, 1, 0, 0, 1, 1, 0, 0, 1] B15) = l} := by
  apply Subtype.mk
  dsimp only [opsOf, cAt, kids, B15, bodyOf, Tryd.f15, List.getD, List.getElem?_cons_zero, List.getElem?_cons_succ, Option.getD_some]
@[simp] theorem n15_45 (s : List V) (H : Heap) : evCode P Γ call n f m (cAt [1, 1, 1, 1, 0, 1, 0, 0, 1, 1, 0, 0, 1] B15) s H = regNext (evOpsGo P Γ call r15_45.1 r15_45.1 s H) := at_region (by kernel_rfl) r15_45.2 s H
attribute [simp] r15_45
noncomputable def r15_46 : {l : List Oper // opsOf (cAt [1, 1, 1, 1, 0, 1, 0, 0, 1, 1, 1] B15) = l} := by
  apply Subtype.mk
  dsimp only [opsOf, cAt, kids, B15, bodyOf, Tryd.f15, List.getD, List.getElem?_cons_zero, List.getElem?_cons_succ, Option.getD_some]
@[simp] theorem n15_46 (s : List V) (H : Heap) : evCode P Γ call n f m (cAt [1, 1, 1, 1, 0, 1, 0, 0, 1, 1, 1] B15) s H = regNext (evOpsGo P Γ call r15_46.1 r15_46.1 s H) := at_region (by kernel_rfl) r15_46.2 s H
attribute [simp] r15_46
@[simp] theorem n15_47 (s : List V) (H : Heap) : evCode P Γ call n f m (cAt [1, 1, 1, 1, 1] B15) s H = seqNext P Γ call n f m (cAt [1, 1, 1, 1, 1, 1] B15) (evCode P Γ call n f m (cAt [1, 1, 1, 1, 1, 0] B15) s H) := at_seq (by kernel_rfl) rfl rfl s H
noncomputable def r15_48 : {l : List Oper // opsOf (cAt [1, 1, 1, 1, 1, 0] B15) = l} := by
  apply Subtype.mk
  dsimp only [opsOf, cAt, kids, B15, bodyOf, Tryd.f15, List.getD, List.getElem?_cons_zero, List.getElem?_cons_succ, Option.getD_some]
@[simp] theorem n15_48 (s : List V) (H : Heap) : evCode P Γ call n f m (cAt [1, 1, 1, 1, 1, 0] B15) s H = regNext (evOpsGo P Γ call r15_48.1 r15_48.1 s H) := at_region (by kernel_rfl) r15_48.2 s H
attribute [simp] r15_48
@[simp] theorem n15_49 (s : List V) (H : Heap) : evCode P Γ call n f m (cAt [1, 1, 1, 1, 1, 1] B15) s H = some (.ret, s, H) := at_ret (by kernel_rfl) s H
theorem b15 {k : Nat} (ho : ∀ args H, Γ.orc 15 args H = none) (args : List V) (H : Heap) (ha : args.length ≤ 36) : evF Tryd.prog Γ (k + 1) 15 args H = bodyEnd Tryd.prog [.tmp 2] H.length (evCode Tryd.prog Γ (evF Tryd.prog Γ k) k 15 H.length (cAt [] B15) (mkL 36 V.undef (enumV 0 args)) H) := body_at Tryd.func15 (by decide) rfl ho rfl rfl args H ha
noncomputable def B28 : Code := bodyOf Tryd.f28
@[simp] theorem n28_1 (s : List V) (H : Heap) : evCode P Γ call n f m (cAt [] B28) s H = seqNext P Γ call n f m (cAt [1] B28) (evCode P Γ call n f m (cAt [0] B28) s H) := at_seq (by kernel_rfl) rfl rfl s H
noncomputable def r28_2 : {l : List Oper // opsOf (cAt [0] B28) = l} := by
  apply Subtype.mk
  dsimp only [opsOf, cAt, kids, B28, bodyOf, Tryd.f28, List.getD, List.getElem?_cons_zero, List.getElem?_cons_succ, Option.getD_some]
@[simp] theorem n28_2 (s : List V) (H : Heap) : evCode P Γ call n f m (cAt [0] B28) s H = regNext (evOpsGo P Γ call r28_2.1 r28_2.1 s H) := at_region (by kernel_rfl) r28_2.2 s H
attribute [simp] r28_2
@[simp] theorem n28_3 (s : List V) (H : Heap) : evCode P Γ call n f m (cAt [1] B28) s H = seqNext P Γ call n f m (cAt [1, 1] B28) (evCode P Γ call n f m (cAt [1, 0] B28) s H) := at_seq (by kernel_rfl) rfl rfl s H
@[simp] theorem n28_4 (s : List V) (H : Heap) : evCode P Γ call n f m (cAt [1, 0] B28) s H = seqNext P Γ call n f m (cAt [1, 0, 1] B28) (evCode P Γ call n f m (cAt [1, 0, 0] B28) s H) := at_seq (by kernel_rfl) rfl rfl s H
noncomputable def r28_5 : {l : List Oper // opsOf (cAt [1, 0, 0] B28) = l} := by
  apply Subtype.mk
  dsimp only [opsOf, cAt, kids, B28, bodyOf, Tryd.f28, List.getD, List.getElem?_cons_zero, List.getElem?_cons_succ, Option.getD_some]
@[simp] theorem n28_5 (s : List V) (H : Heap) : evCode P Γ call n f m (cAt [1, 0, 0] B28) s H = regNext (evOpsGo P Γ call r28_5.1 r28_5.1 s H) := at_region (by kernel_rfl) r28_5.2 s H
attribute [simp] r28_5
@[simp] theorem n28_6 (s : List V) (H : Heap) : evCode P Γ call n f m (cAt [1, 0, 1] B28) s H = condW P Γ call n f m (cAt [1, 0, 1, 0] B28) (cAt [1, 0, 1, 1] B28) s H (evOperand Γ s (.tmp 6)) := at_cond (by kernel_rfl) (by kernel_rfl) rfl rfl s H
noncomputable def r28_7 : {l : List Oper // opsOf (cAt [1, 0, 1, 0] B28) = l} := by
  apply Subtype.mk
  dsimp only [opsOf, cAt, kids, B28, bodyOf, Tryd.f28, List.getD, List.getElem?_cons_zero, List.getElem?_cons_succ, Option.getD_some]
@[simp] theorem n28_7 (s : List V) (H : Heap) : evCode P Γ call n f m (cAt [1, 0, 1, 0] B28) s H = regNext (evOpsGo P Γ call r28_7.1 r28_7.1 s H) := at_region (by kernel_rfl) r28_7.2 s H
attribute [simp] r28_7
@[simp] theorem n28_8 (s : List V) (H : Heap) : evCode P Γ call n f m (cAt [1, 0, 1, 1] B28) s H = some (.normal, s, H) := at_skip (by kernel_rfl) s H
@[simp] theorem n28_9 (s : List V) (H : Heap) : evCode P Γ call n f m (cAt [1, 1] B28) s H = seqNext P Γ call n f m (cAt [1, 1, 1] B28) (evCode P Γ call n f m (cAt [1, 1, 0] B28) s H) := at_seq (by kernel_rfl) rfl rfl s H
@[simp] theorem n28_10 (s : List V) (H : Heap) : evCode P Γ call n f m (cAt [1, 1, 0] B28) s H = seqNext P Γ call n f m (cAt [1, 1, 0, 1] B28) (evCode P Γ call n f m (cAt [1, 1, 0, 0] B28) s H) := at_seq (by kernel_rfl) rfl rfl s H
noncomputable def r28_11 : {l : List Oper // opsOf (cAt [1, 1, 0, 0] B28) = l} := by
  apply Subtype.mk
  dsimp only [opsOf, cAt, kids, B28, bodyOf, Tryd.f28, List.getD, List.getElem?_cons_zero, List.getElem?_cons_succ, Option.getD_some]
@[simp] theorem n28_11 (s : List V) (H : Heap) : evCode P Γ call n f m (cAt [1, 1, 0, 0] B28) s H = regNext (evOpsGo P Γ call r28_11.1 r28_11.1 s H) := at_region (by kernel_rfl) r28_11.2 s H
attribute [simp] r28_11
@[simp] theorem n28_12 (s : List V) (H : Heap) : evCode P Γ call n f m (cAt [1, 1, 0, 1] B28) s H = seqNext P Γ call n f m (cAt [1, 1, 0, 1, 1] B28) (evCode P Γ call n f m (cAt [1, 1, 0, 1, 0] B28) s H) := at_seq (by kernel_rfl) rfl rfl s H
noncomputable def r28_13 : {l : List Oper // opsOf (cAt [1, 1, 0, 1, 0] B28) = l} := by
  apply Subtype.mk
  dsimp only [opsOf, cAt, kids, B28, bodyOf, Tryd.f28, List.getD, List.getElem?_cons_zero, List.getElem?_cons_succ, Option.getD_some]
@[simp] theorem n28_13 (s : List V) (H : Heap) : evCode P Γ call n f m (cAt [1, 1, 0, 1, 0] B28) s H = regNext (evOpsGo P Γ call r28_13.1 r28_13.1 s H) := at_region (by kernel_rfl) r28_13.2 s H
attribute [simp] r28_13
@[simp] theorem n28_14 (s : List V) (H : Heap) : evCode P Γ call n f m (cAt [1, 1, 0, 1, 1] B28) s H = condW P Γ call n f m (cAt [1, 1, 0, 1, 1, 0] B28) (cAt [1, 1, 0, 1, 1, 1] B28) s H (evOperand Γ s (.tmp 16)) := at_cond (by kernel_rfl) (by kernel_rfl) rfl rfl s H
noncomputable def r28_15 : {l : List Oper // opsOf (cAt [1, 1, 0, 1, 1, 0] B28) = l} := by
  apply Subtype.mk
  dsimp only [opsOf, cAt, kids, B28, bodyOf, Tryd.f28, List.getD, List.getElem?_cons_zero, List.getElem?_cons_succ, Option.getD_some]
@[simp] theorem n28_15 (s : List V) (H : Heap) : evCode P Γ call n f m (cAt [1, 1, 0, 1, 1, 0] B28) s H = regNext (evOpsGo P Γ call r28_15.1 r28_15.1 s H) := at_region (by kernel_rfl) r28_15.2 s H
attribute [simp] r28_15
@[simp] theorem n28_16 (s : List V) (H : Heap) : evCode P Γ call n f m (cAt [1, 1, 0, 1, 1, 1] B28) s H = some (.normal, s, H) := at_skip (by kernel_rfl) s H
@[simp] theorem n28_17 (s : List V) (H : Heap) : evCode P Γ call n f m (cAt [1, 1, 1] B28) s H = seqNext P Γ call n f m (cAt [1, 1, 1, 1] B28) (evCode P Γ call n f m (cAt [1, 1, 1, 0] B28) s H) := at_seq (by kernel_rfl) rfl rfl s H
noncomputable def r28_18 : {l : List Oper // opsOf (cAt [1, 1, 1, 0] B28) = l} := by
  apply Subtype.mk
  dsimp only [opsOf, cAt, kids, B28, bodyOf, Tryd.f28, List.getD, List.getElem?_cons_zero, List.getElem?_cons_succ, Option.getD_some]
@[simp] theorem n28_18 (s : List V) (H : Heap) : evCode P Γ call n f m (cAt [1, 1, 1, 0] B28) s H = regNext (evOpsGo P Γ call r28_18.1 r28_18.1 s H) := at_region (by kernel_rfl) r28_18.2 s H
attribute [simp] r28_18
@[simp] theorem n28_19 (s : List V) (H : Heap) : evCode P Γ call n f m (cAt [1, 1, 1, 1] B28) s H = some (.ret, s, H) := at_ret (by kernel_rfl) s H
theorem b28 {k : Nat} (ho : ∀ args H, Γ.orc 28 args H = none) (args : List V) (H : Heap) (ha : args.length ≤ 27) : evF Tryd.prog Γ (k + 1) 28 args H = bodyEnd Tryd.prog [.tmp 4] H.length (evCode Tryd.prog Γ (evF Tryd.prog Γ k) k 28 H.length (cAt [] B28) (mkL 27 V.undef (enumV 0 args)) H) := body_at Tryd.func28 (by decide) rfl ho rfl rfl args H ha
end
end Go.Ev.Tryd
