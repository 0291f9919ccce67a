/-
  CODE BY NAMES, printed by wip/tools/codes.py (own work).
-/
import Derived.Test.YthmpoblblgohcaaLineG
set_option maxRecDepth 100000
set_option linter.unusedVariables false
namespace Go.Ev.Try
open Go Go.Ev Go.Proofs
section
variable {P : Program} {Γ : Env} {call : CallF} {n f m : Nat}

noncomputable def B3 : Code := bodyOf Try.f3
@[simp] theorem n3_1 (s : List V) (H : Heap) : evCode P Γ call n f m (cAt [] B3) s H = seqNext P Γ call n f m (cAt [1] B3) (evCode P Γ call n f m (cAt [0] B3) s H) := at_seq (by kernel_rfl) rfl rfl s H
noncomputable def r3_2 : {l : List Oper // opsOf (cAt [0] B3) = l} := by
  apply Subtype.mk
  dsimp only [opsOf, cAt, kids, B3, bodyOf, Try.f3, List.getD, List.getElem?_cons_zero, List.getElem?_cons_succ, Option.getD_some]
@[simp] theorem n3_2 (s : List V) (H : Heap) : evCode P Γ call n f m (cAt [0] B3) s H = regNext (evOpsGo P Γ call r3_2.1 r3_2.1 s H) := at_region (by kernel_rfl) r3_2.2 s H
attribute [simp] r3_2
@[simp] theorem n3_3 (s : List V) (H : Heap) : evCode P Γ call n f m (cAt [1] B3) s H = seqNext P Γ call n f m (cAt [1, 1] B3) (evCode P Γ call n f m (cAt [1, 0] B3) s H) := at_seq (by kernel_rfl) rfl rfl s H
noncomputable def r3_4 : {l : List Oper // opsOf (cAt [1, 0] B3) = l} := by
  apply Subtype.mk
  dsimp only [opsOf, cAt, kids, B3, bodyOf, Try.f3, List.getD, List.getElem?_cons_zero, List.getElem?_cons_succ, Option.getD_some]
@[simp] theorem n3_4 (s : List V) (H : Heap) : evCode P Γ call n f m (cAt [1, 0] B3) s H = regNext (evOpsGo P Γ call r3_4.1 r3_4.1 s H) := at_region (by kernel_rfl) r3_4.2 s H
attribute [simp] r3_4
@[simp] theorem n3_5 (s : List V) (H : Heap) : evCode P Γ call n f m (cAt [1, 1] B3) s H = seqNext P Γ call n f m (cAt [1, 1, 1] B3) (evCode P Γ call n f m (cAt [1, 1, 0] B3) s H) := at_seq (by kernel_rfl) rfl rfl s H
noncomputable def r3_6 : {l : List Oper // opsOf (cAt [1, 1, 0] B3) = l} := by
  apply Subtype.mk
  dsimp only [opsOf, cAt, kids, B3, bodyOf, Try.f3, List.getD, List.getElem?_cons_zero, List.getElem?_cons_succ, Option.getD_some]
@[simp] theorem n3_6 (s : List V) (H : Heap) : evCode P Γ call n f m (cAt [1, 1, 0] B3) s H = regNext (evOpsGo P Γ call r3_6.1 r3_6.1 s H) := at_region (by kernel_rfl) r3_6.2 s H
attribute [simp] r3_6
@[simp] theorem n3_7 (s : List V) (H : Heap) : evCode P Γ call n f m (cAt [1, 1, 1] B3) s H = seqNext P Γ call n f m (cAt [1, 1, 1, 1] B3) (evCode P Γ call n f m (cAt [1, 1, 1, 0] B3) s H) := at_seq (by kernel_rfl) rfl rfl s H
noncomputable def r3_8 : {l : List Oper // opsOf (cAt [1, 1, 1, 0] B3) = l} := by
  apply Subtype.mk
  dsimp only [opsOf, cAt, kids, B3, bodyOf, Try.f3, List.getD, List.getElem?_cons_zero, List.getElem?_cons_succ, Option.getD_some]
@[simp] theorem n3_8 (s : List V) (H : Heap) : evCode P Γ call n f m (cAt [1, 1, 1, 0] B3) s H = regNext (evOpsGo P Γ call r3_8.1 r3_8.1 s H) := at_region (by kernel_rfl) r3_8.2 s H
attribute [simp] r3_8
@[simp] theorem n3_9 (s : List V) (H : Heap) : evCode P Γ call n f m (cAt [1, 1, 1, 1] B3) s H = seqNext P Γ call n f m (cAt [1, 1, 1, 1, 1] B3) (evCode P Γ call n f m (cAt [1, 1, 1, 1, 0] B3) s H) := at_seq (by kernel_rfl) rfl rfl s H
@[simp] theorem n3_10 (s : List V) (H : Heap) : evCode P Γ call n f m (cAt [1, 1, 1, 1, 0] B3) s H = seqNext P Γ call n f m (cAt [1, 1, 1, 1, 0, 1] B3) (evCode P Γ call n f m (cAt [1, 1, 1, 1, 0, 0] B3) s H) := at_seq (by kernel_rfl) rfl rfl s H
noncomputable def r3_11 : {l : List Oper // opsOf (cAt [1, 1, 1, 1, 0, 0] B3) = l} := by
  apply Subtype.mk
  dsimp only [opsOf, cAt, kids, B3, bodyOf, Try.f3, List.getD, List.getElem?_cons_zero, List.getElem?_cons_succ, Option.getD_some]
@[simp] theorem n3_11 (s : List V) (H : Heap) : evCode P Γ call n f m (cAt [1, 1, 1, 1, 0, 0] B3) s H = regNext (evOpsGo P Γ call r3_11.1 r3_11.1 s H) := at_region (by kernel_rfl) r3_11.2 s H
attribute [simp] r3_11
@[simp] theorem n3_12 (s : List V) (H : Heap) : evCode P Γ call n f m (cAt [1, 1, 1, 1, 0, 1] B3) s H = condW P Γ call n f m (cAt [1, 1, 1, 1, 0, 1, 0] B3) (cAt [1, 1, 1, 1, 0, 1, 1] B3) s H (evOperand Γ s (.tmp 53)) := at_cond (by kernel_rfl) (by kernel_rfl) rfl rfl s H
@[simp] theorem n3_13 (s : List V) (H : Heap) : evCode P Γ call n f m (cAt [1, 1, 1, 1, 0, 1, 0] B3) s H = seqNext P Γ call n f m (cAt [1, 1, 1, 1, 0, 1, 0, 1] B3) (evCode P Γ call n f m (cAt [1, 1, 1, 1, 0, 1, 0, 0] B3) s H) := at_seq (by kernel_rfl) rfl rfl s H
noncomputable def r3_14 : {l : List Oper // opsOf (cAt [1, 1, 1, 1, 0, 1, 0, 0] B3) = l} := by
  apply Subtype.mk
  dsimp only [opsOf, cAt, kids, B3, bodyOf, Try.f3, List.getD, List.getElem?_cons_zero, List.getElem?_cons_succ, Option.getD_some]
@[simp] theorem n3_14 (s : List V) (H : Heap) : evCode P Γ call n f m (cAt [1, 1, 1, 1, 0, 1, 0, 0] B3) s H = regNext (evOpsGo P Γ call r3_14.1 r3_14.1 s H) := at_region (by kernel_rfl) r3_14.2 s H
attribute [simp] r3_14
@[simp] theorem n3_15 (s : List V) (H : Heap) : evCode P Γ call n f m (cAt [1, 1, 1, 1, 0, 1, 0, 1] B3) s H = some (.ret, s, H) := at_ret (by kernel_rfl) s H
@[simp] theorem n3_16 (s : List V) (H : Heap) : evCode P Γ call n f m (cAt [1, 1, 1, 1, 0, 1, 1] B3) s H = some (.normal, s, H) := at_skip (by kernel_rfl) s H
@[simp] theorem n3_17 (s : List V) (H : Heap) : evCode P Γ call n f m (cAt [1, 1, 1, 1, 1] B3) s H = seqNext P Γ call n f m (cAt [1, 1, 1, 1, 1, 1] B3) (evCode P Γ call n f m (cAt [1, 1, 1, 1, 1, 0] B3) s H) := at_seq (by kernel_rfl) rfl rfl s H
noncomputable def r3_18 : {l : List Oper // opsOf (cAt [1, 1, 1, 1, 1, 0] B3) = l} := by
  apply Subtype.mk
  dsimp only [opsOf, cAt, kids, B3, bodyOf, Try.f3, List.getD, List.getElem?_cons_zero, List.getElem?_cons_succ, Option.getD_some]
@[simp] theorem n3_18 (s : List V) (H : Heap) : evCode P Γ call n f m (cAt [1, 1, 1, 1, 1, 0] B3) s H = regNext (evOpsGo P Γ call r3_18.1 r3_18.1 s H) := at_region (by kernel_rfl) r3_18.2 s H
attribute [simp] r3_18
@[simp] theorem n3_19 (s : List V) (H : Heap) : evCode P Γ call n f m (cAt [1, 1, 1, 1, 1, 1] B3) s H = seqNext P Γ call n f m (cAt [1, 1, 1, 1, 1, 1, 1] B3) (evCode P Γ call n f m (cAt [1, 1, 1, 1, 1, 1, 0] B3) s H) := at_seq (by kernel_rfl) rfl rfl s H
noncomputable def r3_20 : {l : List Oper // opsOf (cAt [1, 1, 1, 1, 1, 1, 0] B3) = l} := by
  apply Subtype.mk
  dsimp only [opsOf, cAt, kids, B3, bodyOf, Try.f3, List.getD, List.getElem?_cons_zero, List.getElem?_cons_succ, Option.getD_some]
@[simp] theorem n3_20 (s : List V) (H : Heap) : evCode P Γ call n f m (cAt [1, 1, 1, 1, 1, 1, 0] B3) s H = regNext (evOpsGo P Γ call r3_20.1 r3_20.1 s H) := at_region (by kernel_rfl) r3_20.2 s H
attribute [simp] r3_20
@[simp] theorem n3_21 (s : List V) (H : Heap) : evCode P Γ call n f m (cAt [1, 1, 1, 1, 1, 1, 1] B3) s H = seqNext P Γ call n f m (cAt [1, 1, 1, 1, 1, 1, 1, 1] B3) (evCode P Γ call n f m (cAt [1, 1, 1, 1, 1, 1, 1, 0] B3) s H) := at_seq (by kernel_rfl) rfl rfl s H
@[simp] theorem n3_22 (s : List V) (H : Heap) : evCode P Γ call n f m (cAt [1, 1, 1, 1, 1, 1, 1, 0] B3) s H = seqNext P Γ call n f m (cAt [1, 1, 1, 1, 1, 1, 1, 0, 1] B3) (evCode P Γ call n f m (cAt [1, 1, 1, 1, 1, 1, 1, 0, 0] B3) s H) := at_seq (by kernel_rfl) rfl rfl s H
noncomputable def r3_23 : {l : List Oper // opsOf (cAt [1, 1, 1, 1, 1, 1, 1, 0, 0] B3) = l} := by
  apply Subtype.mk
  dsimp only [opsOf, cAt, kids, B3, bodyOf, Try.f3, List.getD, List.getElem?_cons_zero, List.getElem?_cons_succ, Option.getD_some]
@[simp] theorem n3_23 (s : List V) (H : Heap) : evCode P Γ call n f m (cAt [1, 1, 1, 1, 1, 1, 1, 0, 0] B3) s H = regNext (evOpsGo P Γ call r3_23.1 r3_23.1 s H) := at_region (by kernel_rfl) r3_23.2 s H
attribute [simp] r3_23
@[simp] theorem n3_24 (s : List V) (H : Heap) : evCode P Γ call n f m (cAt [1, 1, 1, 1, 1, 1, 1, 0, 1] B3) s H = blockNext 0 (evCode P Γ call n f m (cAt [1, 1, 1, 1, 1, 1, 1, 0, 1, 0] B3) s H) := at_block (by kernel_rfl) rfl s H
@[simp] theorem n3_25 (s : List V) (H : Heap) : evCode P Γ call n f m (cAt [1, 1, 1, 1, 1, 1, 1, 0, 1, 0] B3) s H = evLoopC P Γ call n f m (cAt [1, 1, 1, 1, 1, 1, 1, 0, 1, 0, 0] B3) n s H := at_loop (by kernel_rfl) rfl s H
noncomputable abbrev L3_9 : Code := cAt [1, 1, 1, 1, 1, 1, 1, 0, 1, 0, 0] B3
@[simp] theorem n3_25f : firstRegion (cAt [1, 1, 1, 1, 1, 1, 1, 0, 1, 0, 0] B3) = 9 := by kernel_rfl
@[simp] theorem n3_26 (s : List V) (H : Heap) : evCode P Γ call n f m (cAt [1, 1, 1, 1, 1, 1, 1, 0, 1, 0, 0] B3) s H = seqNext P Γ call n f m (cAt [1, 1, 1, 1, 1, 1, 1, 0, 1, 0, 0, 1] B3) (evCode P Γ call n f m (cAt [1, 1, 1, 1, 1, 1, 1, 0, 1, 0, 0, 0] B3) s H) := at_seq (by kernel_rfl) rfl rfl s H
noncomputable def r3_27 : {l : List Oper // opsOf (cAt [1, 1, 1, 1, 1, 1, 1, 0, 1, 0, 0, 0] B3) = l} := by
  apply Subtype.mk
  dsimp only [opsOf, cAt, kids, B3, bodyOf, Try.f3, List.getD, List.getElem?_cons_zero, List.getElem?_cons_succ, Option.getD_some]
@[simp] theorem n3_27 (s : List V) (H : Heap) : evCode P Γ call n f m (cAt [1, 1, 1, 1, 1, 1, 1, 0, 1, 0, 0, 0] B3) s H = regNext (evOpsGo P Γ call r3_27.1 r3_27.1 s H) := at_region (by kernel_rfl) r3_27.2 s H
attribute [simp] r3_27
@[simp] theorem n3_28 (s : List V) (H : Heap) : evCode P Γ call n f m (cAt [1, 1, 1, 1, 1, 1, 1, 0, 1, 0, 0, 1] B3) s H = seqNext P Γ call n f m (cAt [1, 1, 1, 1, 1, 1, 1, 0, 1, 0, 0, 1, 1] B3) (evCode P Γ call n f m (cAt [1, 1, 1, 1, 1, 1, 1, 0, 1, 0, 0, 1, 0] B3) s H) := at_seq (by kernel_rfl) rfl rfl s H
@[simp] theorem n3_29 (s : List V) (H : Heap) : evCode P Γ call n f m (cAt [1, 1, 1, 1, 1, 1, 1, 0, 1, 0, 0, 1, 0] B3) s H = condW P Γ call n f m (cAt [1, 1, 1, 1, 1, 1, 1, 0, 1, 0, 0, 1, 0, 0] B3) (cAt [1, 1, 1, 1, 1, 1, 1, 0, 1, 0, 0, 1, 0, 1] B3) s H (evOperand Γ s (.tmp 58)) := at_cond (by kernel_rfl) (by kernel_rfl) rfl rfl s H
@[simp] theorem n3_30 (s : List V) (H : Heap) : evCode P Γ call n f m (cAt [1, 1, 1, 1, 1, 1, 1, 0, 1, 0, 0, 1, 0, 0] B3) s H = some (.normal, s, H) := at_skip (by kernel_rfl) s H
@[simp] theorem n3_31 (s : List V) (H : Heap) : evCode P Γ call n f m (cAt [1, 1, 1, 1, 1, 1, 1, 0, 1, 0, 0, 1, 0, 1] B3) s H = some (.exit 0, s, H) := at_exit (by kernel_rfl) s H
@[simp] theorem n3_32 (s : List V) (H : Heap) : evCode P Γ call n f m (cAt [1, 1, 1, 1, 1, 1, 1, 0, 1, 0, 0, 1, 1] B3) s H = seqNext P Γ call n f m (cAt [1, 1, 1, 1, 1, 1, 1, 0, 1, 0, 0, 1, 1, 1] B3) (evCode P Γ call n f m (cAt [1, 1, 1, 1, 1, 1, 1, 0, 1, 0, 0, 1, 1, 0] B3) s H) := at_seq (by kernel_rfl) rfl rfl s H
@[simp] theorem n3_33 (s : List V) (H : Heap) : evCode P Γ call n f m (cAt [1, 1, 1, 1, 1, 1, 1, 0, 1, 0, 0, 1, 1, 0] B3) s H = blockNext 1 (evCode P Γ call n f m (cAt [1, 1, 1, 1, 1, 1, 1, 0, 1, 0, 0, 1, 1, 0, 0] B3) s H) := at_block (by kernel_rfl) rfl s H
@[simp] theorem n3_34 (s : List V) (H : Heap) : evCode P Γ call n f m (cAt [1, 1, 1, 1, 1, 1, 1, 0, 1, 0, 0, 1, 1, 0, 0] B3) s H = seqNext P Γ call n f m (cAt [1, 1, 1, 1, 1, 1, 1, 0, 1, 0, 0, 1, 1, 0, 0, 1] B3) (evCode P Γ call n f m (cAt [1, 1, 1, 1, 1, 1, 1, 0, 1, 0, 0, 1, 1, 0, 0, 0] B3) s H) := at_seq (by kernel_rfl) rfl rfl s H
noncomputable def r3_35 : {l : List Oper // opsOf (cAt [1, 1, 1, 1, 1, 1, 1, 0, 1, 0, 0, 1, 1, 0, 0, 0] B3) = l} := by
  apply Subtype.mk
  dsimp only [opsOf, cAt, kids, B3, bodyOf, Try.f3, List.getD, List.getElem?_cons_zero, List.getElem?_cons_succ, Option.getD_some]
@[simp] theorem n3_35 (s : List V) (H : Heap) : evCode P Γ call n f m (cAt [1, 1, 1, 1, 1, 1, 1, 0, 1, 0, 0, 1, 1, 0, 0, 0] B3) s H = regNext (evOpsGo P Γ call r3_35.1 r3_35.1 s H) := at_region (by kernel_rfl) r3_35.2 s H
attribute [simp] r3_35
@[simp] theorem n3_36 (s : List V) (H : Heap) : evCode P Γ call n f m (cAt [1, 1, 1, 1, 1, 1, 1, 0, 1, 0, 0, 1, 1, 0, 0, 1] B3) s H = seqNext P Γ call n f m (cAt [1, 1, 1, 1, 1, 1, 1, 0, 1, 0, 0, 1, 1, 0, 0, 1, 1] B3) (evCode P Γ call n f m (cAt [1, 1, 1, 1, 1, 1, 1, 0, 1, 0, 0, 1, 1, 0, 0, 1, 0] B3) s H) := at_seq (by kernel_rfl) rfl rfl s H
@[simp] theorem n3_37 (s : List V) (H : Heap) : evCode P Γ call n f m (cAt [1, 1, 1, 1, 1, 1, 1, 0, 1, 0, 0, 1, 1, 0, 0, 1, 0] B3) s H = seqNext P Γ call n f m (cAt [1, 1, 1, 1, 1, 1, 1, 0, 1, 0, 0, 1, 1, 0, 0, 1, 0, 1] B3) (evCode P Γ call n f m (cAt [1, 1, 1, 1, 1, 1, 1, 0, 1, 0, 0, 1, 1, 0, 0, 1, 0, 0] B3) s H) := at_seq (by kernel_rfl) rfl rfl s H
noncomputable def r3_38 : {l : List Oper // opsOf (cAt [1, 1, 1, 1, 1, 1, 1, 0, 1, 0, 0, 1, 1, 0, 0, 1, 0, 0] B3) = l} := by
  apply Subtype.mk
  dsimp only [opsOf, cAt, kids, B3, bodyOf, Try.f3, List.getD, List.getElem?_cons_zero, List.getElem?_cons_succ, Option.getD_some]
@[simp] theorem n3_38 (s : List V) (H : Heap) : evCode P Γ call n f m (cAt [1, 1, 1, 1, 1, 1, 1, 0, 1, 0, 0, 1, 1, 0, 0, 1, 0, 0] B3) s H = regNext (evOpsGo P Γ call r3_38.1 r3_38.1 s H) := at_region (by kernel_rfl) r3_38.2 s H
attribute [simp] r3_38
@[simp] theorem n3_39 (s : List V) (H : Heap) : evCode P Γ call n f m (cAt [1, 1, 1, 1, 1, 1, 1, 0, 1, 0, 0, 1, 1, 0, 0, 1, 0, 1] B3) s H = seqNext P Γ call n f m (cAt [1, 1, 1, 1, 1, 1, 1, 0, 1, 0, 0, 1, 1, 0, 0, 1, 0, 1, 1] B3) (evCode P Γ call n f m (cAt [1, 1, 1, 1, 1, 1, 1, 0, 1, 0, 0, 1, 1, 0, 0, 1, 0, 1, 0] B3) s H) := at_seq (by kernel_rfl) rfl rfl s H
noncomputable def r3_40 : {l : List Oper // opsOf (cAt [1, 1, 1, 1, 1, 1, 1, 0, 1, 0, 0, 1, 1, 0, 0, 1, 0, 1, 0] B3) = l} := by
  apply Subtype.mk
  dsimp only [opsOf, cAt, kids, B3, bodyOf, Try.f3, List.getD, List.getElem?_cons_zero, List.getElem?_cons_succ, Option.getD_some]
@[simp] theorem n3_40 (s : List V) (H : Heap) : evCode P Γ call n f m (cAt [1, 1, 1, 1, 1, 1, 1, 0, 1, 0, 0, 1, 1, 0, 0, 1, 0, 1, 0] B3) s H = regNext (evOpsGo P Γ call r3_40.1 r3_40.1 s H) := at_region (by kernel_rfl) r3_40.2 s H
attribute [simp] r3_40
@[simp] theorem n3_41 (s : List V) (H : Heap) : evCode P Γ call n f m (cAt [1, 1, 1, 1, 1, 1, 1, 0, 1, 0, 0, 1, 1, 0, 0, 1, 0, 1, 1] B3) s H = condW P Γ call n f m (cAt [1, 1, 1, 1, 1, 1, 1, 0, 1, 0, 0, 1, 1, 0, 0, 1, 0, 1, 1, 0] B3) (cAt [1, 1, 1, 1, 1, 1, 1, 0, 1, 0, 0, 1, 1, 0, 0, 1, 0, 1, 1, 1] B3) s H (evOperand Γ s (.tmp 92)) := at_cond (by kernel_rfl) (by kernel_rfl) rfl rfl s H
@[simp] theorem n3_42 (s : List V) (H : Heap) : evCode P Γ call n f m (cAt [1, 1, 1, 1, 1, 1, 1, 0, 1, 0, 0, 1, 1, 0, 0, 1, 0, 1, 1, 0] B3) s H = seqNext P Γ call n f m (cAt [1, 1, 1, 1, 1, 1, 1, 0, 1, 0, 0, 1, 1, 0, 0, 1, 0, 1, 1, 0, 1] B3) (evCode P Γ call n f m (cAt [1, 1, 1, 1, 1, 1, 1, 0, 1, 0, 0, 1, 1, 0, 0, 1, 0, 1, 1, 0, 0] B3) s H) := at_seq (by kernel_rfl) rfl rfl s H
noncomputable def r3_43 : {l : List Oper // opsOf (cAt [1, 1, 1, 1, 1, 1, 1, 0, 1, 0, 0, 1, 1, 0, 0, 1, 0, 1, 1, 0, 0] B3) = l} := by
  apply Subtype.mk
  dsimp only [opsOf, cAt, kids, B3, bodyOf, Try.f3, List.getD, List.getElem?_cons_zero, List.getElem?_cons_succ, Option.getD_some]
@[simp] theorem n3_43 (s : List V) (H : Heap) : evCode P Γ call n f m (cAt [1, 1, 1, 1, 1, 1, 1, 0, 1, 0, 0, 1, 1, 0, 0, 1, 0, 1, 1, 0, 0] B3) s H = regNext (evOpsGo P Γ call r3_43.1 r3_43.1 s H) := at_region (by kernel_rfl) r3_43.2 s H
attribute [simp] r3_43
@[simp] theorem n3_44 (s : List V) (H : Heap) : evCode P Γ call n f m (cAt [1, 1, 1, 1, 1, 1, 1, 0, 1, 0, 0, 1, 1, 0, 0, 1, 0, 1, 1, 0, 1] B3) s H = some (.ret, s, H) := at_ret (by kernel_rfl) s H
@[simp] theorem n3_45 (s : List V) (H : Heap) : evCode P Γ call n f m (cAt [1, 1, 1, 1, 1, 1, 1, 0, 1, 0, 0, 1, 1, 0, 0, 1, 0, 1, 1, 1] B3) s H = some (.normal, s, H) := at_skip (by kernel_rfl) s H
@[simp] theorem n3_46 (s : List V) (H : Heap) : evCode P Γ call n f m (cAt [1, 1, 1, 1, 1, 1, 1, 0, 1, 0, 0, 1, 1, 0, 0, 1, 1] B3) s H = seqNext P Γ call n f m (cAt [1, 1, 1, 1, 1, 1, 1, 0, 1, 0, 0, 1, 1, 0, 0, 1, 1, 1] B3) (evCode P Γ call n f m (cAt [1, 1, 1, 1, 1, 1, 1, 0, 1, 0, 0, 1, 1, 0, 0, 1, 1, 0] B3) s H) := at_seq (by kernel_rfl) rfl rfl s H
noncomputable def r3_47 : {l : List Oper // opsOf (cAt [1, 1, 1, 1, 1, 1, 1, 0, 1, 0, 0, 1, 1, 0, 0, 1, 1, 0] B3) = l} := by
  apply Subtype.mk
  dsimp only [opsOf, cAt, kids, B3, bodyOf, Try.f3, List.getD, List.getElem?_cons_zero, List.getElem?_cons_succ, Option.getD_some]
@[simp] theorem n3_47 (s : List V) (H : Heap) : evCode P Γ call n f m (cAt [1, 1, 1, 1, 1, 1, 1, 0, 1, 0, 0, 1, 1, 0, 0, 1, 1, 0] B3) s H = regNext (drawR P Γ call r3_47.1 [([1, 2, 3, 4, 5, 6], [94, 95, 96, 97, 98, 99]), ([0, 2, 5, 6], [93, 95, 98, 99]), ([0, 1, 5, 6], [93, 94, 98, 99]), ([0, 5, 6], [93, 98, 99]), ([0, 5, 6], [93, 98, 99]), ([0, 1, 2, 3, 4], [93, 94, 95, 96, 97]), ([0, 1, 2, 3, 4], [93, 94, 95, 96, 97]), ([], [])] s H) := at_drawT (by kernel_rfl) r3_47.2 (by kernel_rfl) s H
attribute [simp] r3_47
@[simp] theorem n3_48 (s : List V) (H : Heap) : evCode P Γ call n f m (cAt [1, 1, 1, 1, 1, 1, 1, 0, 1, 0, 0, 1, 1, 0, 0, 1, 1, 1] B3) s H = seqNext P Γ call n f m (cAt [1, 1, 1, 1, 1, 1, 1, 0, 1, 0, 0, 1, 1, 0, 0, 1, 1, 1, 1] B3) (evCode P Γ call n f m (cAt [1, 1, 1, 1, 1, 1, 1, 0, 1, 0, 0, 1, 1, 0, 0, 1, 1, 1, 0] B3) s H) := at_seq (by kernel_rfl) rfl rfl s H
noncomputable def r3_49 : {l : List Oper // opsOf (cAt [1, 1, 1, 1, 1, 1, 1, 0, 1, 0, 0, 1, 1, 0, 0, 1, 1, 1, 0] B3) = l} := by
  apply Subtype.mk
  dsimp only [opsOf, cAt, kids, B3, bodyOf, Try.f3, List.getD, List.getElem?_cons_zero, List.getElem?_cons_succ, Option.getD_some]
@[simp] theorem n3_49 (s : List V) (H : Heap) : evCode P Γ call n f m (cAt [1, 1, 1, 1, 1, 1, 1, 0, 1, 0, 0, 1, 1, 0, 0, 1, 1, 1, 0] B3) s H = regNext (evOpsGo P Γ call r3_49.1 r3_49.1 s H) := at_region (by kernel_rfl) r3_49.2 s H
attribute [simp] r3_49
@[simp] theorem n3_50 (s : List V) (H : Heap) : evCode P Γ call n f m (cAt [1, 1, 1, 1, 1, 1, 1, 0, 1, 0, 0, 1, 1, 0, 0, 1, 1, 1, 1] B3) s H = condW P Γ call n f m (cAt [1, 1, 1, 1, 1, 1, 1, 0, 1, 0, 0, 1, 1, 0, 0, 1, 1, 1, 1, 0] B3) (cAt [1, 1, 1, 1, 1, 1, 1, 0, 1, 0, 0, 1, 1, 0, 0, 1, 1, 1, 1, 1] B3) s H (evOperand Γ s (.tmp 109)) := at_cond (by kernel_rfl) (by kernel_rfl) rfl rfl s H
noncomputable def r3_51 : {l : List Oper // opsOf (cAt [1, 1, 1, 1, 1, 1, 1, 0, 1, 0, 0, 1, 1, 0, 0, 1, 1, 1, 1, 0] B3) = l} := by
  apply Subtype.mk
  dsimp only [opsOf, cAt, kids, B3, bodyOf, Try.f3, List.getD, List.getElem?_cons_zero, List.getElem?_cons_succ, Option.getD_some]
@[simp] theorem n3_51 (s : List V) (H : Heap) : evCode P Γ call n f m (cAt [1, 1, 1, 1, 1, 1, 1, 0, 1, 0, 0, 1, 1, 0, 0, 1, 1, 1, 1, 0] B3) s H = regNext (evOpsGo P Γ call r3_51.1 r3_51.1 s H) := at_region (by kernel_rfl) r3_51.2 s H
attribute [simp] r3_51
@[simp] theorem n3_52 (s : List V) (H : Heap) : evCode P Γ call n f m (cAt [1, 1, 1, 1, 1, 1, 1, 0, 1, 0, 0, 1, 1, 0, 0, 1, 1, 1, 1, 1] B3) s H = some (.normal, s, H) := at_skip (by kernel_rfl) s H
noncomputable def r3_53 : {l : List Oper // opsOf (cAt [1, 1, 1, 1, 1, 1, 1, 0, 1, 0, 0, 1, 1, 1] B3) = l} := by
  apply Subtype.mk
  dsimp only [opsOf, cAt, kids, B3, bodyOf, Try.f3, List.getD, List.getElem?_cons_zero, List.getElem?_cons_succ, Option.getD_some]
@[simp] theorem n3_53 (s : List V) (H : Heap) : evCode P Γ call n f m (cAt [1, 1, 1, 1, 1, 1, 1, 0, 1, 0, 0, 1, 1, 1] B3) s H = regNext (evOpsGo P Γ call r3_53.1 r3_53.1 s H) := at_region (by kernel_rfl) r3_53.2 s H
attribute [simp] r3_53
@[simp] theorem n3_54 (s : List V) (H : Heap) : evCode P Γ call n f m (cAt [1, 1, 1, 1, 1, 1, 1, 1] B3) s H = seqNext P Γ call n f m (cAt [1, 1, 1, 1, 1, 1, 1, 1, 1] B3) (evCode P Γ call n f m (cAt [1, 1, 1, 1, 1, 1, 1, 1, 0] B3) s H) := at_seq (by kernel_rfl) rfl rfl s H
noncomputable def r3_55 : {l : List Oper // opsOf (cAt [1, 1, 1, 1, 1, 1, 1, 1, 0] B3) = l} := by
  apply Subtype.mk
  dsimp only [opsOf, cAt, kids, B3, bodyOf, Try.f3, List.getD, List.getElem?_cons_zero, List.getElem?_cons_succ, Option.getD_some]
@[simp] theorem n3_55 (s : List V) (H : Heap) : evCode P Γ call n f m (cAt [1, 1, 1, 1, 1, 1, 1, 1, 0] B3) s H = regNext (evOpsGo P Γ call r3_55.1 r3_55.1 s H) := at_region (by kernel_rfl) r3_55.2 s H
attribute [simp] r3_55
@[simp] theorem n3_56 (s : List V) (H : Heap) : evCode P Γ call n f m (cAt [1, 1, 1, 1, 1, 1, 1, 1, 1] B3) s H = some (.ret, s, H) := at_ret (by kernel_rfl) s H
theorem b3 {k : Nat} (ho : ∀ args H, Γ.orc 3 args H = none) (args : List V) (H : Heap) (ha : args.length ≤ 127) : evF Try.prog Γ (k + 1) 3 args H = bodyEnd Try.prog [.tmp 2] H.length (evCode Try.prog Γ (evF Try.prog Γ k) k 3 H.length (cAt [] B3) (mkL 127 V.undef (enumV 0 args)) H) := body_at Try.func3 (by decide) rfl ho rfl rfl args H ha
noncomputable def B8 : Code := bodyOf Try.f8
@[simp] theorem n8_1 (s : List V) (H : Heap) : evCode P Γ call n f m (cAt [] B8) s H = seqNext P Γ call n f m (cAt [1] B8) (evCode P Γ call n f m (cAt [0] B8) s H) := at_seq (by kernel_rfl) rfl rfl s H
noncomputable def r8_2 : {l : List Oper // opsOf (cAt [0] B8) = l} := by
  apply Subtype.mk
  dsimp only [opsOf, cAt, kids, B8, bodyOf, Try.f8, List.getD, List.getElem?_cons_zero, List.getElem?_cons_succ, Option.getD_some]
@[simp] theorem n8_2 (s : List V) (H : Heap) : evCode P Γ call n f m (cAt [0] B8) s H = regNext (evOpsGo P Γ call r8_2.1 r8_2.1 s H) := at_region (by kernel_rfl) r8_2.2 s H
attribute [simp] r8_2
@[simp] theorem n8_3 (s : List V) (H : Heap) : evCode P Γ call n f m (cAt [1] B8) s H = seqNext P Γ call n f m (cAt [1, 1] B8) (evCode P Γ call n f m (cAt [1, 0] B8) s H) := at_seq (by kernel_rfl) rfl rfl s H
noncomputable def r8_4 : {l : List Oper // opsOf (cAt [1, 0] B8) = l} := by
  apply Subtype.mk
  dsimp only [opsOf, cAt, kids, B8, bodyOf, Try.f8, List.getD, List.getElem?_cons_zero, List.getElem?_cons_succ, Option.getD_some]
@[simp] theorem n8_4 (s : List V) (H : Heap) : evCode P Γ call n f m (cAt [1, 0] B8) s H = regNext (evOpsGo P Γ call r8_4.1 r8_4.1 s H) := at_region (by kernel_rfl) r8_4.2 s H
attribute [simp] r8_4
@[simp] theorem n8_5 (s : List V) (H : Heap) : evCode P Γ call n f m (cAt [1, 1] B8) s H = seqNext P Γ call n f m (cAt [1, 1, 1] B8) (evCode P Γ call n f m (cAt [1, 1, 0] B8) s H) := at_seq (by kernel_rfl) rfl rfl s H
noncomputable def r8_6 : {l : List Oper // opsOf (cAt [1, 1, 0] B8) = l} := by
  apply Subtype.mk
  dsimp only [opsOf, cAt, kids, B8, bodyOf, Try.f8, List.getD, List.getElem?_cons_zero, List.getElem?_cons_succ, Option.getD_some]
@[simp] theorem n8_6 (s : List V) (H : Heap) : evCode P Γ call n f m (cAt [1, 1, 0] B8) s H = regNext (evOpsGo P Γ call r8_6.1 r8_6.1 s H) := at_region (by kernel_rfl) r8_6.2 s H
attribute [simp] r8_6
@[simp] theorem n8_7 (s : List V) (H : Heap) : evCode P Γ call n f m (cAt [1, 1, 1] B8) s H = seqNext P Γ call n f m (cAt [1, 1, 1, 1] B8) (evCode P Γ call n f m (cAt [1, 1, 1, 0] B8) s H) := at_seq (by kernel_rfl) rfl rfl s H
noncomputable def r8_8 : {l : List Oper // opsOf (cAt [1, 1, 1, 0] B8) = l} := by
  apply Subtype.mk
  dsimp only [opsOf, cAt, kids, B8, bodyOf, Try.f8, List.getD, List.getElem?_cons_zero, List.getElem?_cons_succ, Option.getD_some]
@[simp] theorem n8_8 (s : List V) (H : Heap) : evCode P Γ call n f m (cAt [1, 1, 1, 0] B8) s H = regNext (evOpsGo P Γ call r8_8.1 r8_8.1 s H) := at_region (by kernel_rfl) r8_8.2 s H
attribute [simp] r8_8
@[simp] theorem n8_9 (s : List V) (H : Heap) : evCode P Γ call n f m (cAt [1, 1, 1, 1] B8) s H = seqNext P Γ call n f m (cAt [1, 1, 1, 1, 1] B8) (evCode P Γ call n f m (cAt [1, 1, 1, 1, 0] B8) s H) := at_seq (by kernel_rfl) rfl rfl s H
@[simp] theorem n8_10 (s : List V) (H : Heap) : evCode P Γ call n f m (cAt [1, 1, 1, 1, 0] B8) s H = seqNext P Γ call n f m (cAt [1, 1, 1, 1, 0, 1] B8) (evCode P Γ call n f m (cAt [1, 1, 1, 1, 0, 0] B8) s H) := at_seq (by kernel_rfl) rfl rfl s H
noncomputable def r8_11 : {l : List Oper // opsOf (cAt [1, 1, 1, 1, 0, 0] B8) = l} := by
  apply Subtype.mk
  dsimp only [opsOf, cAt, kids, B8, bodyOf, Try.f8, List.getD, List.getElem?_cons_zero, List.getElem?_cons_succ, Option.getD_some]
@[simp] theorem n8_11 (s : List V) (H : Heap) : evCode P Γ call n f m (cAt [1, 1, 1, 1, 0, 0] B8) s H = regNext (evOpsGo P Γ call r8_11.1 r8_11.1 s H) := at_region (by kernel_rfl) r8_11.2 s H
attribute [simp] r8_11
@[simp] theorem n8_12 (s : List V) (H : Heap) : evCode P Γ call n f m (cAt [1, 1, 1, 1, 0, 1] B8) s H = seqNext P Γ call n f m (cAt [1, 1, 1, 1, 0, 1, 1] B8) (evCode P Γ call n f m (cAt [1, 1, 1, 1, 0, 1, 0] B8) s H) := at_seq (by kernel_rfl) rfl rfl s H
noncomputable def r8_13 : {l : List Oper // opsOf (cAt [1, 1, 1, 1, 0, 1, 0] B8) = l} := by
  apply Subtype.mk
  dsimp only [opsOf, cAt, kids, B8, bodyOf, Try.f8, List.getD, List.getElem?_cons_zero, List.getElem?_cons_succ, Option.getD_some]
@[simp] theorem n8_13 (s : List V) (H : Heap) : evCode P Γ call n f m (cAt [1, 1, 1, 1, 0, 1, 0] B8) s H = regNext (evOpsGo P Γ call r8_13.1 r8_13.1 s H) := at_region (by kernel_rfl) r8_13.2 s H
attribute [simp] r8_13
@[simp] theorem n8_14 (s : List V) (H : Heap) : evCode P Γ call n f m (cAt [1, 1, 1, 1, 0, 1, 1] B8) s H = condW P Γ call n f m (cAt [1, 1, 1, 1, 0, 1, 1, 0] B8) (cAt [1, 1, 1, 1, 0, 1, 1, 1] B8) s H (evOperand Γ s (.tmp 15)) := at_cond (by kernel_rfl) (by kernel_rfl) rfl rfl s H
@[simp] theorem n8_15 (s : List V) (H : Heap) : evCode P Γ call n f m (cAt [1, 1, 1, 1, 0, 1, 1, 0] B8) s H = seqNext P Γ call n f m (cAt [1, 1, 1, 1, 0, 1, 1, 0, 1] B8) (evCode P Γ call n f m (cAt [1, 1, 1, 1, 0, 1, 1, 0, 0] B8) s H) := at_seq (by kernel_rfl) rfl rfl s H
noncomputable def r8_16 : {l : List Oper // opsOf (cAt [1, 1, 1, 1, 0, 1, 1, 0, 0] B8) = l} := by
  apply Subtype.mk
  dsimp only [opsOf, cAt, kids, B8, bodyOf, Try.f8, List.getD, List.getElem?_cons_zero, List.getElem?_cons_succ, Option.getD_some]
@[simp] theorem n8_16 (s : List V) (H : Heap) : evCode P Γ call n f m (cAt [1, 1, 1, 1, 0, 1, 1, 0, 0] B8) s H = regNext (evOpsGo P Γ call r8_16.1 r8_16.1 s H) := at_region (by kernel_rfl) r8_16.2 s H
attribute [simp] r8_16
@[simp] theorem n8_17 (s : List V) (H : Heap) : evCode P Γ call n f m (cAt [1, 1, 1, 1, 0, 1, 1, 0, 1] B8) s H = some (.ret, s, H) := at_ret (by kernel_rfl) s H
@[simp] theorem n8_18 (s : List V) (H : Heap) : evCode P Γ call n f m (cAt [1, 1, 1, 1, 0, 1, 1, 1] B8) s H = some (.normal, s, H) := at_skip (by kernel_rfl) s H
@[simp] theorem n8_19 (s : List V) (H : Heap) : evCode P Γ call n f m (cAt [1, 1, 1, 1, 1] B8) s H = seqNext P Γ call n f m (cAt [1, 1, 1, 1, 1, 1] B8) (evCode P Γ call n f m (cAt [1, 1, 1, 1, 1, 0] B8) s H) := at_seq (by kernel_rfl) rfl rfl s H
noncomputable def r8_20 : {l : List Oper // opsOf (cAt [1, 1, 1, 1, 1, 0] B8) = l} := by
  apply Subtype.mk
  dsimp only [opsOf, cAt, kids, B8, bodyOf, Try.f8, List.getD, List.getElem?_cons_zero, List.getElem?_cons_succ, Option.getD_some]
@[simp] theorem n8_20 (s : List V) (H : Heap) : evCode P Γ call n f m (cAt [1, 1, 1, 1, 1, 0] B8) s H = regNext (evOpsGo P Γ call r8_20.1 r8_20.1 s H) := at_region (by kernel_rfl) r8_20.2 s H
attribute [simp] r8_20
@[simp] theorem n8_21 (s : List V) (H : Heap) : evCode P Γ call n f m (cAt [1, 1, 1, 1, 1, 1] B8) s H = some (.ret, s, H) := at_ret (by kernel_rfl) s H
theorem b8 {k : Nat} (ho : ∀ args H, Γ.orc 8 args H = none) (args : List V) (H : Heap) (ha : args.length ≤ 18) : evF Try.prog Γ (k + 1) 8 args H = bodyEnd Try.prog [.tmp 2, .tmp 3] H.length (evCode Try.prog Γ (evF Try.prog Γ k) k 8 H.length (cAt [] B8) (mkL 18 V.undef (enumV 0 args)) H) := body_at Try.func8 (by decide) rfl ho rfl rfl args H ha
noncomputable def B9 : Code := bodyOf Try.f9
@[simp] theorem n9_1 (s : List V) (H : Heap) : evCode P Γ call n f m (cAt [] B9) s H = seqNext P Γ call n f m (cAt [1] B9) (evCode P Γ call n f m (cAt [0] B9) s H) := at_seq (by kernel_rfl) rfl rfl s H
noncomputable def r9_2 : {l : List Oper // opsOf (cAt [0] B9) = l} := by
  apply Subtype.mk
  dsimp only [opsOf, cAt, kids, B9, bodyOf, Try.f9, List.getD, List.getElem?_cons_zero, List.getElem?_cons_succ, Option.getD_some]
@[simp] theorem n9_2 (s : List V) (H : Heap) : evCode P Γ call n f m (cAt [0] B9) s H = regNext (evOpsGo P Γ call r9_2.1 r9_2.1 s H) := at_region (by kernel_rfl) r9_2.2 s H
attribute [simp] r9_2
@[simp] theorem n9_3 (s : List V) (H : Heap) : evCode P Γ call n f m (cAt [1] B9) s H = seqNext P Γ call n f m (cAt [1, 1] B9) (evCode P Γ call n f m (cAt [1, 0] B9) s H) := at_seq (by kernel_rfl) rfl rfl s H
noncomputable def r9_4 : {l : List Oper // opsOf (cAt [1, 0] B9) = l} := by
  apply Subtype.mk
  dsimp only [opsOf, cAt, kids, B9, bodyOf, Try.f9, List.getD, List.getElem?_cons_zero, List.getElem?_cons_succ, Option.getD_some]
@[simp] theorem n9_4 (s : List V) (H : Heap) : evCode P Γ call n f m (cAt [1, 0] B9) s H = regNext (evOpsGo P Γ call r9_4.1 r9_4.1 s H) := at_region (by kernel_rfl) r9_4.2 s H
attribute [simp] r9_4
@[simp] theorem n9_5 (s : List V) (H : Heap) : evCode P Γ call n f m (cAt [1, 1] B9) s H = seqNext P Γ call n f m (cAt [1, 1, 1] B9) (evCode P Γ call n f m (cAt [1, 1, 0] B9) s H) := at_seq (by kernel_rfl) rfl rfl s H
noncomputable def r9_6 : {l : List Oper // opsOf (cAt [1, 1, 0] B9) = l} := by
  apply Subtype.mk
  dsimp only [opsOf, cAt, kids, B9, bodyOf, Try.f9, List.getD, List.getElem?_cons_zero, List.getElem?_cons_succ, Option.getD_some]
@[simp] theorem n9_6 (s : List V) (H : Heap) : evCode P Γ call n f m (cAt [1, 1, 0] B9) s H = regNext (evOpsGo P Γ call r9_6.1 r9_6.1 s H) := at_region (by kernel_rfl) r9_6.2 s H
attribute [simp] r9_6
@[simp] theorem n9_7 (s : List V) (H : Heap) : evCode P Γ call n f m (cAt [1, 1, 1] B9) s H = seqNext P Γ call n f m (cAt [1, 1, 1, 1] B9) (evCode P Γ call n f m (cAt [1, 1, 1, 0] B9) s H) := at_seq (by kernel_rfl) rfl rfl s H
@[simp] theorem n9_8 (s : List V) (H : Heap) : evCode P Γ call n f m (cAt [1, 1, 1, 0] B9) s H = seqNext P Γ call n f m (cAt [1, 1, 1, 0, 1] B9) (evCode P Γ call n f m (cAt [1, 1, 1, 0, 0] B9) s H) := at_seq (by kernel_rfl) rfl rfl s H
noncomputable def r9_9 : {l : List Oper // opsOf (cAt [1, 1, 1, 0, 0] B9) = l} := by
  apply Subtype.mk
  dsimp only [opsOf, cAt, kids, B9, bodyOf, Try.f9, List.getD, List.getElem?_cons_zero, List.getElem?_cons_succ, Option.getD_some]
@[simp] theorem n9_9 (s : List V) (H : Heap) : evCode P Γ call n f m (cAt [1, 1, 1, 0, 0] B9) s H = regNext (evOpsGo P Γ call r9_9.1 r9_9.1 s H) := at_region (by kernel_rfl) r9_9.2 s H
attribute [simp] r9_9
@[simp] theorem n9_10 (s : List V) (H : Heap) : evCode P Γ call n f m (cAt [1, 1, 1, 0, 1] B9) s H = blockNext 0 (evCode P Γ call n f m (cAt [1, 1, 1, 0, 1, 0] B9) s H) := at_block (by kernel_rfl) rfl s H
@[simp] theorem n9_11 (s : List V) (H : Heap) : evCode P Γ call n f m (cAt [1, 1, 1, 0, 1, 0] B9) s H = evLoopC P Γ call n f m (cAt [1, 1, 1, 0, 1, 0, 0] B9) n s H := at_loop (by kernel_rfl) rfl s H
noncomputable abbrev L9_4 : Code := cAt [1, 1, 1, 0, 1, 0, 0] B9
@[simp] theorem n9_11f : firstRegion (cAt [1, 1, 1, 0, 1, 0, 0] B9) = 4 := by kernel_rfl
@[simp] theorem n9_12 (s : List V) (H : Heap) : evCode P Γ call n f m (cAt [1, 1, 1, 0, 1, 0, 0] B9) s H = seqNext P Γ call n f m (cAt [1, 1, 1, 0, 1, 0, 0, 1] B9) (evCode P Γ call n f m (cAt [1, 1, 1, 0, 1, 0, 0, 0] B9) s H) := at_seq (by kernel_rfl) rfl rfl s H
noncomputable def r9_13 : {l : List Oper // opsOf (cAt [1, 1, 1, 0, 1, 0, 0, 0] B9) = l} := by
  apply Subtype.mk
  dsimp only [opsOf, cAt, kids, B9, bodyOf, Try.f9, List.getD, List.getElem?_cons_zero, List.getElem?_cons_succ, Option.getD_some]
@[simp] theorem n9_13 (s : List V) (H : Heap) : evCode P Γ call n f m (cAt [1, 1, 1, 0, 1, 0, 0, 0] B9) s H = regNext (evOpsGo P Γ call r9_13.1 r9_13.1 s H) := at_region (by kernel_rfl) r9_13.2 s H
attribute [simp] r9_13
@[simp] theorem n9_14 (s : List V) (H : Heap) : evCode P Γ call n f m (cAt [1, 1, 1, 0, 1, 0, 0, 1] B9) s H = seqNext P Γ call n f m (cAt [1, 1, 1, 0, 1, 0, 0, 1, 1] B9) (evCode P Γ call n f m (cAt [1, 1, 1, 0, 1, 0, 0, 1, 0] B9) s H) := at_seq (by kernel_rfl) rfl rfl s H
@[simp] theorem n9_15 (s : List V) (H : Heap) : evCode P Γ call n f m (cAt [1, 1, 1, 0, 1, 0, 0, 1, 0] B9) s H = condW P Γ call n f m (cAt [1, 1, 1, 0, 1, 0, 0, 1, 0, 0] B9) (cAt [1, 1, 1, 0, 1, 0, 0, 1, 0, 1] B9) s H (evOperand Γ s (.tmp 13)) := at_cond (by kernel_rfl) (by kernel_rfl) rfl rfl s H
@[simp] theorem n9_16 (s : List V) (H : Heap) : evCode P Γ call n f m (cAt [1, 1, 1, 0, 1, 0, 0, 1, 0, 0] B9) s H = some (.normal, s, H) := at_skip (by kernel_rfl) s H
@[simp] theorem n9_17 (s : List V) (H : Heap) : evCode P Γ call n f m (cAt [1, 1, 1, 0, 1, 0, 0, 1, 0, 1] B9) s H = some (.exit 0, s, H) := at_exit (by kernel_rfl) s H
@[simp] theorem n9_18 (s : List V) (H : Heap) : evCode P Γ call n f m (cAt [1, 1, 1, 0, 1, 0, 0, 1, 1] B9) s H = seqNext P Γ call n f m (cAt [1, 1, 1, 0, 1, 0, 0, 1, 1, 1] B9) (evCode P Γ call n f m (cAt [1, 1, 1, 0, 1, 0, 0, 1, 1, 0] B9) s H) := at_seq (by kernel_rfl) rfl rfl s H
@[simp] theorem n9_19 (s : List V) (H : Heap) : evCode P Γ call n f m (cAt [1, 1, 1, 0, 1, 0, 0, 1, 1, 0] B9) s H = blockNext 1 (evCode P Γ call n f m (cAt [1, 1, 1, 0, 1, 0, 0, 1, 1, 0, 0] B9) s H) := at_block (by kernel_rfl) rfl s H
@[simp] theorem n9_20 (s : List V) (H : Heap) : evCode P Γ call n f m (cAt [1, 1, 1, 0, 1, 0, 0, 1, 1, 0, 0] B9) s H = seqNext P Γ call n f m (cAt [1, 1, 1, 0, 1, 0, 0, 1, 1, 0, 0, 1] B9) (evCode P Γ call n f m (cAt [1, 1, 1, 0, 1, 0, 0, 1, 1, 0, 0, 0] B9) s H) := at_seq (by kernel_rfl) rfl rfl s H
noncomputable def r9_21 : {l : List Oper // opsOf (cAt [1, 1, 1, 0, 1, 0, 0, 1, 1, 0, 0, 0] B9) = l} := by
  apply Subtype.mk
  dsimp only [opsOf, cAt, kids, B9, bodyOf, Try.f9, List.getD, List.getElem?_cons_zero, List.getElem?_cons_succ, Option.getD_some]
@[simp] theorem n9_21 (s : List V) (H : Heap) : evCode P Γ call n f m (cAt [1, 1, 1, 0, 1, 0, 0, 1, 1, 0, 0, 0] B9) s H = regNext (evOpsGo P Γ call r9_21.1 r9_21.1 s H) := at_region (by kernel_rfl) r9_21.2 s H
attribute [simp] r9_21
@[simp] theorem n9_22 (s : List V) (H : Heap) : evCode P Γ call n f m (cAt [1, 1, 1, 0, 1, 0, 0, 1, 1, 0, 0, 1] B9) s H = seqNext P Γ call n f m (cAt [1, 1, 1, 0, 1, 0, 0, 1, 1, 0, 0, 1, 1] B9) (evCode P Γ call n f m (cAt [1, 1, 1, 0, 1, 0, 0, 1, 1, 0, 0, 1, 0] B9) s H) := at_seq (by kernel_rfl) rfl rfl s H
noncomputable def r9_23 : {l : List Oper // opsOf (cAt [1, 1, 1, 0, 1, 0, 0, 1, 1, 0, 0, 1, 0] B9) = l} := by
  apply Subtype.mk
  dsimp only [opsOf, cAt, kids, B9, bodyOf, Try.f9, List.getD, List.getElem?_cons_zero, List.getElem?_cons_succ, Option.getD_some]
@[simp] theorem n9_23 (s : List V) (H : Heap) : evCode P Γ call n f m (cAt [1, 1, 1, 0, 1, 0, 0, 1, 1, 0, 0, 1, 0] B9) s H = regNext (evOpsGo P Γ call r9_23.1 r9_23.1 s H) := at_region (by kernel_rfl) r9_23.2 s H
attribute [simp] r9_23
noncomputable def r9_24 : {l : List Oper // opsOf (cAt [1, 1, 1, 0, 1, 0, 0, 1, 1, 0, 0, 1, 1] B9) = l} := by
  apply Subtype.mk
  dsimp only [opsOf, cAt, kids, B9, bodyOf, Try.f9, List.getD, List.getElem?_cons_zero, List.getElem?_cons_succ, Option.getD_some]
@[simp] theorem n9_24 (s : List V) (H : Heap) : evCode P Γ call n f m (cAt [1, 1, 1, 0, 1, 0, 0, 1, 1, 0, 0, 1, 1] B9) s H = regNext (evOpsGo P Γ call r9_24.1 r9_24.1 s H) := at_region (by kernel_rfl) r9_24.2 s H
attribute [simp] r9_24
noncomputable def r9_25 : {l : List Oper // opsOf (cAt [1, 1, 1, 0, 1, 0, 0, 1, 1, 1] B9) = l} := by
  apply Subtype.mk
  dsimp only [opsOf, cAt, kids, B9, bodyOf, Try.f9, List.getD, List.getElem?_cons_zero, List.getElem?_cons_succ, Option.getD_some]
@[simp] theorem n9_25 (s : List V) (H : Heap) : evCode P Γ call n f m (cAt [1, 1, 1, 0, 1, 0, 0, 1, 1, 1] B9) s H = regNext (evOpsGo P Γ call r9_25.1 r9_25.1 s H) := at_region (by kernel_rfl) r9_25.2 s H
attribute [simp] r9_25
@[simp] theorem n9_26 (s : List V) (H : Heap) : evCode P Γ call n f m (cAt [1, 1, 1, 1] B9) s H = seqNext P Γ call n f m (cAt [1, 1, 1, 1, 1] B9) (evCode P Γ call n f m (cAt [1, 1, 1, 1, 0] B9) s H) := at_seq (by kernel_rfl) rfl rfl s H
noncomputable def r9_27 : {l : List Oper // opsOf (cAt [1, 1, 1, 1, 0] B9) = l} := by
  apply Subtype.mk
  dsimp only [opsOf, cAt, kids, B9, bodyOf, Try.f9, List.getD, List.getElem?_cons_zero, List.getElem?_cons_succ, Option.getD_some]
@[simp] theorem n9_27 (s : List V) (H : Heap) : evCode P Γ call n f m (cAt [1, 1, 1, 1, 0] B9) s H = regNext (evOpsGo P Γ call r9_27.1 r9_27.1 s H) := at_region (by kernel_rfl) r9_27.2 s H
attribute [simp] r9_27
@[simp] theorem n9_28 (s : List V) (H : Heap) : evCode P Γ call n f m (cAt [1, 1, 1, 1, 1] B9) s H = some (.ret, s, H) := at_ret (by kernel_rfl) s H
theorem b9 {k : Nat} (ho : ∀ args H, Γ.orc 9 args H = none) (args : List V) (H : Heap) (ha : args.length ≤ 30) : evF Try.prog Γ (k + 1) 9 args H = bodyEnd Try.prog [.tmp 2] H.length (evCode Try.prog Γ (evF Try.prog Γ k) k 9 H.length (cAt [] B9) (mkL 30 V.undef (enumV 0 args)) H) := body_at Try.func9 (by decide) rfl ho rfl rfl args H ha
noncomputable def B10 : Code := bodyOf Try.f10
@[simp] theorem n10_1 (s : List V) (H : Heap) : evCode P Γ call n f m (cAt [] B10) s H = seqNext P Γ call n f m (cAt [1] B10) (evCode P Γ call n f m (cAt [0] B10) s H) := at_seq (by kernel_rfl) rfl rfl s H
noncomputable def r10_2 : {l : List Oper // opsOf (cAt [0] B10) = l} := by
  apply Subtype.mk
  dsimp only [opsOf, cAt, kids, B10, bodyOf, Try.f10, List.getD, List.getElem?_cons_zero, List.getElem?_cons_succ, Option.getD_some]
@[simp] theorem n10_2 (s : List V) (H : Heap) : evCode P Γ call n f m (cAt [0] B10) s H = regNext (evOpsGo P Γ call r10_2.1 r10_2.1 s H) := at_region (by kernel_rfl) r10_2.2 s H
attribute [simp] r10_2
@[simp] theorem n10_3 (s : List V) (H : Heap) : evCode P Γ call n f m (cAt [1] B10) s H = seqNext P Γ call n f m (cAt [1, 1] B10) (evCode P Γ call n f m (cAt [1, 0] B10) s H) := at_seq (by kernel_rfl) rfl rfl s H
@[simp] theorem n10_4 (s : List V) (H : Heap) : evCode P Γ call n f m (cAt [1, 0] B10) s H = seqNext P Γ call n f m (cAt [1, 0, 1] B10) (evCode P Γ call n f m (cAt [1, 0, 0] B10) s H) := at_seq (by kernel_rfl) rfl rfl s H
noncomputable def r10_5 : {l : List Oper // opsOf (cAt [1, 0, 0] B10) = l} := by
  apply Subtype.mk
  dsimp only [opsOf, cAt, kids, B10, bodyOf, Try.f10, List.getD, List.getElem?_cons_zero, List.getElem?_cons_succ, Option.getD_some]
@[simp] theorem n10_5 (s : List V) (H : Heap) : evCode P Γ call n f m (cAt [1, 0, 0] B10) s H = regNext (evOpsGo P Γ call r10_5.1 r10_5.1 s H) := at_region (by kernel_rfl) r10_5.2 s H
attribute [simp] r10_5
@[simp] theorem n10_6 (s : List V) (H : Heap) : evCode P Γ call n f m (cAt [1, 0, 1] B10) s H = seqNext P Γ call n f m (cAt [1, 0, 1, 1] B10) (evCode P Γ call n f m (cAt [1, 0, 1, 0] B10) s H) := at_seq (by kernel_rfl) rfl rfl s H
noncomputable def r10_7 : {l : List Oper // opsOf (cAt [1, 0, 1, 0] B10) = l} := by
  apply Subtype.mk
  dsimp only [opsOf, cAt, kids, B10, bodyOf, Try.f10, List.getD, List.getElem?_cons_zero, List.getElem?_cons_succ, Option.getD_some]
@[simp] theorem n10_7 (s : List V) (H : Heap) : evCode P Γ call n f m (cAt [1, 0, 1, 0] B10) s H = regNext (evOpsGo P Γ call r10_7.1 r10_7.1 s H) := at_region (by kernel_rfl) r10_7.2 s H
attribute [simp] r10_7
@[simp] theorem n10_8 (s : List V) (H : Heap) : evCode P Γ call n f m (cAt [1, 0, 1, 1] B10) s H = condW P Γ call n f m (cAt [1, 0, 1, 1, 0] B10) (cAt [1, 0, 1, 1, 1] B10) s H (evOperand Γ s (.tmp 13)) := at_cond (by kernel_rfl) (by kernel_rfl) rfl rfl s H
@[simp] theorem n10_9 (s : List V) (H : Heap) : evCode P Γ call n f m (cAt [1, 0, 1, 1, 0] B10) s H = seqNext P Γ call n f m (cAt [1, 0, 1, 1, 0, 1] B10) (evCode P Γ call n f m (cAt [1, 0, 1, 1, 0, 0] B10) s H) := at_seq (by kernel_rfl) rfl rfl s H
noncomputable def r10_10 : {l : List Oper // opsOf (cAt [1, 0, 1, 1, 0, 0] B10) = l} := by
  apply Subtype.mk
  dsimp only [opsOf, cAt, kids, B10, bodyOf, Try.f10, List.getD, List.getElem?_cons_zero, List.getElem?_cons_succ, Option.getD_some]
@[simp] theorem n10_10 (s : List V) (H : Heap) : evCode P Γ call n f m (cAt [1, 0, 1, 1, 0, 0] B10) s H = regNext (evOpsGo P Γ call r10_10.1 r10_10.1 s H) := at_region (by kernel_rfl) r10_10.2 s H
attribute [simp] r10_10
@[simp] theorem n10_11 (s : List V) (H : Heap) : evCode P Γ call n f m (cAt [1, 0, 1, 1, 0, 1] B10) s H = some (.ret, s, H) := at_ret (by kernel_rfl) s H
@[simp] theorem n10_12 (s : List V) (H : Heap) : evCode P Γ call n f m (cAt [1, 0, 1, 1, 1] B10) s H = some (.normal, s, H) := at_skip (by kernel_rfl) s H
@[simp] theorem n10_13 (s : List V) (H : Heap) : evCode P Γ call n f m (cAt [1, 1] B10) s H = seqNext P Γ call n f m (cAt [1, 1, 1] B10) (evCode P Γ call n f m (cAt [1, 1, 0] B10) s H) := at_seq (by kernel_rfl) rfl rfl s H
noncomputable def r10_14 : {l : List Oper // opsOf (cAt [1, 1, 0] B10) = l} := by
  apply Subtype.mk
  dsimp only [opsOf, cAt, kids, B10, bodyOf, Try.f10, List.getD, List.getElem?_cons_zero, List.getElem?_cons_succ, Option.getD_some]
@[simp] theorem n10_14 (s : List V) (H : Heap) : evCode P Γ call n f m (cAt [1, 1, 0] B10) s H = regNext (evOpsGo P Γ call r10_14.1 r10_14.1 s H) := at_region (by kernel_rfl) r10_14.2 s H
attribute [simp] r10_14
@[simp] theorem n10_15 (s : List V) (H : Heap) : evCode P Γ call n f m (cAt [1, 1, 1] B10) s H = seqNext P Γ call n f m (cAt [1, 1, 1, 1] B10) (evCode P Γ call n f m (cAt [1, 1, 1, 0] B10) s H) := at_seq (by kernel_rfl) rfl rfl s H
@[simp] theorem n10_16 (s : List V) (H : Heap) : evCode P Γ call n f m (cAt [1, 1, 1, 0] B10) s H = seqNext P Γ call n f m (cAt [1, 1, 1, 0, 1] B10) (evCode P Γ call n f m (cAt [1, 1, 1, 0, 0] B10) s H) := at_seq (by kernel_rfl) rfl rfl s H
noncomputable def r10_17 : {l : List Oper // opsOf (cAt [1, 1, 1, 0, 0] B10) = l} := by
  apply Subtype.mk
  dsimp only [opsOf, cAt, kids, B10, bodyOf, Try.f10, List.getD, List.getElem?_cons_zero, List.getElem?_cons_succ, Option.getD_some]
@[simp] theorem n10_17 (s : List V) (H : Heap) : evCode P Γ call n f m (cAt [1, 1, 1, 0, 0] B10) s H = regNext (evOpsGo P Γ call r10_17.1 r10_17.1 s H) := at_region (by kernel_rfl) r10_17.2 s H
attribute [simp] r10_17
@[simp] theorem n10_18 (s : List V) (H : Heap) : evCode P Γ call n f m (cAt [1, 1, 1, 0, 1] B10) s H = blockNext 0 (evCode P Γ call n f m (cAt [1, 1, 1, 0, 1, 0] B10) s H) := at_block (by kernel_rfl) rfl s H
@[simp] theorem n10_19 (s : List V) (H : Heap) : evCode P Γ call n f m (cAt [1, 1, 1, 0, 1, 0] B10) s H = evLoopC P Γ call n f m (cAt [1, 1, 1, 0, 1, 0, 0] B10) n s H := at_loop (by kernel_rfl) rfl s H
noncomputable abbrev L10_6 : Code := cAt [1, 1, 1, 0, 1, 0, 0] B10
@[simp] theorem n10_19f : firstRegion (cAt [1, 1, 1, 0, 1, 0, 0] B10) = 6 := by kernel_rfl
@[simp] theorem n10_20 (s : List V) (H : Heap) : evCode P Γ call n f m (cAt [1, 1, 1, 0, 1, 0, 0] B10) s H = seqNext P Γ call n f m (cAt [1, 1, 1, 0, 1, 0, 0, 1] B10) (evCode P Γ call n f m (cAt [1, 1, 1, 0, 1, 0, 0, 0] B10) s H) := at_seq (by kernel_rfl) rfl rfl s H
noncomputable def r10_21 : {l : List Oper // opsOf (cAt [1, 1, 1, 0, 1, 0, 0, 0] B10) = l} := by
  apply Subtype.mk
  dsimp only [opsOf, cAt, kids, B10, bodyOf, Try.f10, List.getD, List.getElem?_cons_zero, List.getElem?_cons_succ, Option.getD_some]
@[simp] theorem n10_21 (s : List V) (H : Heap) : evCode P Γ call n f m (cAt [1, 1, 1, 0, 1, 0, 0, 0] B10) s H = regNext (evOpsGo P Γ call r10_21.1 r10_21.1 s H) := at_region (by kernel_rfl) r10_21.2 s H
attribute [simp] r10_21
@[simp] theorem n10_22 (s : List V) (H : Heap) : evCode P Γ call n f m (cAt [1, 1, 1, 0, 1, 0, 0, 1] B10) s H = seqNext P Γ call n f m (cAt [1, 1, 1, 0, 1, 0, 0, 1, 1] B10) (evCode P Γ call n f m (cAt [1, 1, 1, 0, 1, 0, 0, 1, 0] B10) s H) := at_seq (by kernel_rfl) rfl rfl s H
@[simp] theorem n10_23 (s : List V) (H : Heap) : evCode P Γ call n f m (cAt [1, 1, 1, 0, 1, 0, 0, 1, 0] B10) s H = condW P Γ call n f m (cAt [1, 1, 1, 0, 1, 0, 0, 1, 0, 0] B10) (cAt [1, 1, 1, 0, 1, 0, 0, 1, 0, 1] B10) s H (evOperand Γ s (.tmp 18)) := at_cond (by kernel_rfl) (by kernel_rfl) rfl rfl s H
@[simp] theorem n10_24 (s : List V) (H : Heap) : evCode P Γ call n f m (cAt [1, 1, 1, 0, 1, 0, 0, 1, 0, 0] B10) s H = some (.normal, s, H) := at_skip (by kernel_rfl) s H
@[simp] theorem n10_25 (s : List V) (H : Heap) : evCode P Γ call n f m (cAt [1, 1, 1, 0, 1, 0, 0, 1, 0, 1] B10) s H = some (.exit 0, s, H) := at_exit (by kernel_rfl) s H
@[simp] theorem n10_26 (s : List V) (H : Heap) : evCode P Γ call n f m (cAt [1, 1, 1, 0, 1, 0, 0, 1, 1] B10) s H = seqNext P Γ call n f m (cAt [1, 1, 1, 0, 1, 0, 0, 1, 1, 1] B10) (evCode P Γ call n f m (cAt [1, 1, 1, 0, 1, 0, 0, 1, 1, 0] B10) s H) := at_seq (by kernel_rfl) rfl rfl s H
@[simp] theorem n10_27 (s : List V) (H : Heap) : evCode P Γ call n f m (cAt [1, 1, 1, 0, 1, 0, 0, 1, 1, 0] B10) s H = blockNext 1 (evCode P Γ call n f m (cAt [1, 1, 1, 0, 1, 0, 0, 1, 1, 0, 0] B10) s H) := at_block (by kernel_rfl) rfl s H
@[simp] theorem n10_28 (s : List V) (H : Heap) : evCode P Γ call n f m (cAt [1, 1, 1, 0, 1, 0, 0, 1, 1, 0, 0] B10) s H = seqNext P Γ call n f m (cAt [1, 1, 1, 0, 1, 0, 0, 1, 1, 0, 0, 1] B10) (evCode P Γ call n f m (cAt [1, 1, 1, 0, 1, 0, 0, 1, 1, 0, 0, 0] B10) s H) := at_seq (by kernel_rfl) rfl rfl s H
noncomputable def r10_29 : {l : List Oper // opsOf (cAt [1, 1, 1, 0, 1, 0, 0, 1, 1, 0, 0, 0] B10) = l} := by
  apply Subtype.mk
  dsimp only [opsOf, cAt, kids, B10, bodyOf, Try.f10, List.getD, List.getElem?_cons_zero, List.getElem?_cons_succ, Option.getD_some]
@[simp] theorem n10_29 (s : List V) (H : Heap) : evCode P Γ call n f m (cAt [1, 1, 1, 0, 1, 0, 0, 1, 1, 0, 0, 0] B10) s H = regNext (evOpsGo P Γ call r10_29.1 r10_29.1 s H) := at_region (by kernel_rfl) r10_29.2 s H
attribute [simp] r10_29
@[simp] theorem n10_30 (s : List V) (H : Heap) : evCode P Γ call n f m (cAt [1, 1, 1, 0, 1, 0, 0, 1, 1, 0, 0, 1] B10) s H = seqNext P Γ call n f m (cAt [1, 1, 1, 0, 1, 0, 0, 1, 1, 0, 0, 1, 1] B10) (evCode P Γ call n f m (cAt [1, 1, 1, 0, 1, 0, 0, 1, 1, 0, 0, 1, 0] B10) s H) := at_seq (by kernel_rfl) rfl rfl s H
noncomputable def r10_31 : {l : List Oper // opsOf (cAt [1, 1, 1, 0, 1, 0, 0, 1, 1, 0, 0, 1, 0] B10) = l} := by
  apply Subtype.mk
  dsimp only [opsOf, cAt, kids, B10, bodyOf, Try.f10, List.getD, List.getElem?_cons_zero, List.getElem?_cons_succ, Option.getD_some]
@[simp] theorem n10_31 (s : List V) (H : Heap) : evCode P Γ call n f m (cAt [1, 1, 1, 0, 1, 0, 0, 1, 1, 0, 0, 1, 0] B10) s H = regNext (evOpsGo P Γ call r10_31.1 r10_31.1 s H) := at_region (by kernel_rfl) r10_31.2 s H
attribute [simp] r10_31
@[simp] theorem n10_32 (s : List V) (H : Heap) : evCode P Γ call n f m (cAt [1, 1, 1, 0, 1, 0, 0, 1, 1, 0, 0, 1, 1] B10) s H = seqNext P Γ call n f m (cAt [1, 1, 1, 0, 1, 0, 0, 1, 1, 0, 0, 1, 1, 1] B10) (evCode P Γ call n f m (cAt [1, 1, 1, 0, 1, 0, 0, 1, 1, 0, 0, 1, 1, 0] B10) s H) := at_seq (by kernel_rfl) rfl rfl s H
@[simp] theorem n10_33 (s : List V) (H : Heap) : evCode P Γ call n f m (cAt [1, 1, 1, 0, 1, 0, 0, 1, 1, 0, 0, 1, 1, 0] B10) s H = seqNext P Γ call n f m (cAt [1, 1, 1, 0, 1, 0, 0, 1, 1, 0, 0, 1, 1, 0, 1] B10) (evCode P Γ call n f m (cAt [1, 1, 1, 0, 1, 0, 0, 1, 1, 0, 0, 1, 1, 0, 0] B10) s H) := at_seq (by kernel_rfl) rfl rfl s H
noncomputable def r10_34 : {l : List Oper // opsOf (cAt [1, 1, 1, 0, 1, 0, 0, 1, 1, 0, 0, 1, 1, 0, 0] B10) = l} := by
  apply Subtype.mk
  dsimp only [opsOf, cAt, kids, B10, bodyOf, Try.f10, List.getD, List.getElem?_cons_zero, List.getElem?_cons_succ, Option.getD_some]
@[simp] theorem n10_34 (s : List V) (H : Heap) : evCode P Γ call n f m (cAt [1, 1, 1, 0, 1, 0, 0, 1, 1, 0, 0, 1, 1, 0, 0] B10) s H = regNext (evOpsGo P Γ call r10_34.1 r10_34.1 s H) := at_region (by kernel_rfl) r10_34.2 s H
attribute [simp] r10_34
@[simp] theorem n10_35 (s : List V) (H : Heap) : evCode P Γ call n f m (cAt [1, 1, 1, 0, 1, 0, 0, 1, 1, 0, 0, 1, 1, 0, 1] B10) s H = condW P Γ call n f m (cAt [1, 1, 1, 0, 1, 0, 0, 1, 1, 0, 0, 1, 1, 0, 1, 0] B10) (cAt [1, 1, 1, 0, 1, 0, 0, 1, 1, 0, 0, 1, 1, 0, 1, 1] B10) s H (evOperand Γ s (.tmp 25)) := at_cond (by kernel_rfl) (by kernel_rfl) rfl rfl s H
@[simp] theorem n10_36 (s : List V) (H : Heap) : evCode P Γ call n f m (cAt [1, 1, 1, 0, 1, 0, 0, 1, 1, 0, 0, 1, 1, 0, 1, 0] B10) s H = seqNext P Γ call n f m (cAt [1, 1, 1, 0, 1, 0, 0, 1, 1, 0, 0, 1, 1, 0, 1, 0, 1] B10) (evCode P Γ call n f m (cAt [1, 1, 1, 0, 1, 0, 0, 1, 1, 0, 0, 1, 1, 0, 1, 0, 0] B10) s H) := at_seq (by kernel_rfl) rfl rfl s H
noncomputable def r10_37 : {l : List Oper // opsOf (cAt [1, 1, 1, 0, 1, 0, 0, 1, 1, 0, 0, 1, 1, 0, 1, 0, 0] B10) = l} := by
  apply Subtype.mk
  dsimp only [opsOf, cAt, kids, B10, bodyOf, Try.f10, List.getD, List.getElem?_cons_zero, List.getElem?_cons_succ, Option.getD_some]
@[simp] theorem n10_37 (s : List V) (H : Heap) : evCode P Γ call n f m (cAt [1, 1, 1, 0, 1, 0, 0, 1, 1, 0, 0, 1, 1, 0, 1, 0, 0] B10) s H = regNext (evOpsGo P Γ call r10_37.1 r10_37.1 s H) := at_region (by kernel_rfl) r10_37.2 s H
attribute [simp] r10_37
noncomputable def r10_38 : {l : List Oper // opsOf (cAt [1, 1, 1, 0, 1, 0, 0, 1, 1, 0, 0, 1, 1, 0, 1, 0, 1] B10) = l} := by
  apply Subtype.mk
  dsimp only [opsOf, cAt, kids, B10, bodyOf, Try.f10, List.getD, List.getElem?_cons_zero, List.getElem?_cons_succ, Option.getD_some]
@[simp] theorem n10_38 (s : List V) (H : Heap) : evCode P Γ call n f m (cAt [1, 1, 1, 0, 1, 0, 0, 1, 1, 0, 0, 1, 1, 0, 1, 0, 1] B10) s H = regNext (evOpsGo P Γ call r10_38.1 r10_38.1 s H) := at_region (by kernel_rfl) r10_38.2 s H
attribute [simp] r10_38
@[simp] theorem n10_39 (s : List V) (H : Heap) : evCode P Γ call n f m (cAt [1, 1, 1, 0, 1, 0, 0, 1, 1, 0, 0, 1, 1, 0, 1, 1] B10) s H = some (.normal, s, H) := at_skip (by kernel_rfl) s H
@[simp] theorem n10_40 (s : List V) (H : Heap) : evCode P Γ call n f m (cAt [1, 1, 1, 0, 1, 0, 0, 1, 1, 0, 0, 1, 1, 1] B10) s H = seqNext P Γ call n f m (cAt [1, 1, 1, 0, 1, 0, 0, 1, 1, 0, 0, 1, 1, 1, 1] B10) (evCode P Γ call n f m (cAt [1, 1, 1, 0, 1, 0, 0, 1, 1, 0, 0, 1, 1, 1, 0] B10) s H) := at_seq (by kernel_rfl) rfl rfl s H
noncomputable def r10_41 : {l : List Oper // opsOf (cAt [1, 1, 1, 0, 1, 0, 0, 1, 1, 0, 0, 1, 1, 1, 0] B10) = l} := by
  apply Subtype.mk
  dsimp only [opsOf, cAt, kids, B10, bodyOf, Try.f10, List.getD, List.getElem?_cons_zero, List.getElem?_cons_succ, Option.getD_some]
@[simp] theorem n10_41 (s : List V) (H : Heap) : evCode P Γ call n f m (cAt [1, 1, 1, 0, 1, 0, 0, 1, 1, 0, 0, 1, 1, 1, 0] B10) s H = regNext (evOpsGo P Γ call r10_41.1 r10_41.1 s H) := at_region (by kernel_rfl) r10_41.2 s H
attribute [simp] r10_41
noncomputable def r10_42 : {l : List Oper // opsOf (cAt [1, 1, 1, 0, 1, 0, 0, 1, 1, 0, 0, 1, 1, 1, 1] B10) = l} := by
  apply Subtype.mk
  dsimp only [opsOf, cAt, kids, B10, bodyOf, Try.f10, List.getD, List.getElem?_cons_zero, List.getElem?_cons_succ, Option.getD_some]
@[simp] theorem n10_42 (s : List V) (H : Heap) : evCode P Γ call n f m (cAt [1, 1, 1, 0, 1, 0, 0, 1, 1, 0, 0, 1, 1, 1, 1] B10) s H = regNext (evOpsGo P Γ call r10_42.1 r10_42.1 s H) := at_region (by kernel_rfl) r10_42.2 s H
attribute [simp] r10_42
noncomputable def r10_43 : {l : List Oper // opsOf (cAt [1, 1, 1, 0, 1, 0, 0, 1, 1, 1] B10) = l} := by
  apply Subtype.mk
  dsimp only [opsOf, cAt, kids, B10, bodyOf, Try.f10, List.getD, List.getElem?_cons_zero, List.getElem?_cons_succ, Option.getD_some]
@[simp] theorem n10_43 (s : List V) (H : Heap) : evCode P Γ call n f m (cAt [1, 1, 1, 0, 1, 0, 0, 1, 1, 1] B10) s H = regNext (evOpsGo P Γ call r10_43.1 r10_43.1 s H) := at_region (by kernel_rfl) r10_43.2 s H
attribute [simp] r10_43
@[simp] theorem n10_44 (s : List V) (H : Heap) : evCode P Γ call n f m (cAt [1, 1, 1, 1] B10) s H = seqNext P Γ call n f m (cAt [1, 1, 1, 1, 1] B10) (evCode P Γ call n f m (cAt [1, 1, 1, 1, 0] B10) s H) := at_seq (by kernel_rfl) rfl rfl s H
noncomputable def r10_45 : {l : List Oper // opsOf (cAt [1, 1, 1, 1, 0] B10) = l} := by
  apply Subtype.mk
  dsimp only [opsOf, cAt, kids, B10, bodyOf, Try.f10, List.getD, List.getElem?_cons_zero, List.getElem?_cons_succ, Option.getD_some]
@[simp] theorem n10_45 (s : List V) (H : Heap) : evCode P Γ call n f m (cAt [1, 1, 1, 1, 0] B10) s H = regNext (evOpsGo P Γ call r10_45.1 r10_45.1 s H) := at_region (by kernel_rfl) r10_45.2 s H
attribute [simp] r10_45
@[simp] theorem n10_46 (s : List V) (H : Heap) : evCode P Γ call n f m (cAt [1, 1, 1, 1, 1] B10) s H = some (.ret, s, H) := at_ret (by kernel_rfl) s H
theorem b10 {k : Nat} (ho : ∀ args H, Γ.orc 10 args H = none) (args : List V) (H : Heap) (ha : args.length ≤ 42) : evF Try.prog Γ (k + 1) 10 args H = bodyEnd Try.prog [.tmp 2, .tmp 3] H.length (evCode Try.prog Γ (evF Try.prog Γ k) k 10 H.length (cAt [] B10) (mkL 42 V.undef (enumV 0 args)) H) := body_at Try.func10 (by decide) rfl ho rfl rfl args H ha
noncomputable def B13 : Code := bodyOf Try.f13
@[simp] theorem n13_1 (s : List V) (H : Heap) : evCode P Γ call n f m (cAt [] B13) s H = seqNext P Γ call n f m (cAt [1] B13) (evCode P Γ call n f m (cAt [0] B13) s H) := at_seq (by kernel_rfl) rfl rfl s H
noncomputable def r13_2 : {l : List Oper // opsOf (cAt [0] B13) = l} := by
  apply Subtype.mk
  dsimp only [opsOf, cAt, kids, B13, bodyOf, Try.f13, List.getD, List.getElem?_cons_zero, List.getElem?_cons_succ, Option.getD_some]
@[simp] theorem n13_2 (s : List V) (H : Heap) : evCode P Γ call n f m (cAt [0] B13) s H = regNext (evOpsGo P Γ call r13_2.1 r13_2.1 s H) := at_region (by kernel_rfl) r13_2.2 s H
attribute [simp] r13_2
@[simp] theorem n13_3 (s : List V) (H : Heap) : evCode P Γ call n f m (cAt [1] B13) s H = seqNext P Γ call n f m (cAt [1, 1] B13) (evCode P Γ call n f m (cAt [1, 0] B13) s H) := at_seq (by kernel_rfl) rfl rfl s H
noncomputable def r13_4 : {l : List Oper // opsOf (cAt [1, 0] B13) = l} := by
  apply Subtype.mk
  dsimp only [opsOf, cAt, kids, B13, bodyOf, Try.f13, List.getD, List.getElem?_cons_zero, List.getElem?_cons_succ, Option.getD_some]
@[simp] theorem n13_4 (s : List V) (H : Heap) : evCode P Γ call n f m (cAt [1, 0] B13) s H = regNext (evOpsGo P Γ call r13_4.1 r13_4.1 s H) := at_region (by kernel_rfl) r13_4.2 s H
attribute [simp] r13_4
@[simp] theorem n13_5 (s : List V) (H : Heap) : evCode P Γ call n f m (cAt [1, 1] B13) s H = seqNext P Γ call n f m (cAt [1, 1, 1] B13) (evCode P Γ call n f m (cAt [1, 1, 0] B13) s H) := at_seq (by kernel_rfl) rfl rfl s H
@[simp] theorem n13_6 (s : List V) (H : Heap) : evCode P Γ call n f m (cAt [1, 1, 0] B13) s H = seqNext P Γ call n f m (cAt [1, 1, 0, 1] B13) (evCode P Γ call n f m (cAt [1, 1, 0, 0] B13) s H) := at_seq (by kernel_rfl) rfl rfl s H
noncomputable def r13_7 : {l : List Oper // opsOf (cAt [1, 1, 0, 0] B13) = l} := by
  apply Subtype.mk
  dsimp only [opsOf, cAt, kids, B13, bodyOf, Try.f13, List.getD, List.getElem?_cons_zero, List.getElem?_cons_succ, Option.getD_some]
@[simp] theorem n13_7 (s : List V) (H : Heap) : evCode P Γ call n f m (cAt [1, 1, 0, 0] B13) s H = regNext (evOpsGo P Γ call r13_7.1 r13_7.1 s H) := at_region (by kernel_rfl) r13_7.2 s H
attribute [simp] r13_7
@[simp] theorem n13_8 (s : List V) (H : Heap) : evCode P Γ call n f m (cAt [1, 1, 0, 1] B13) s H = condW P Γ call n f m (cAt [1, 1, 0, 1, 0] B13) (cAt [1, 1, 0, 1, 1] B13) s H (evOperand Γ s (.tmp 9)) := at_cond (by kernel_rfl) (by kernel_rfl) rfl rfl s H
noncomputable def r13_9 : {l : List Oper // opsOf (cAt [1, 1, 0, 1, 0] B13) = l} := by
  apply Subtype.mk
  dsimp only [opsOf, cAt, kids, B13, bodyOf, Try.f13, List.getD, List.getElem?_cons_zero, List.getElem?_cons_succ, Option.getD_some]
@[simp] theorem n13_9 (s : List V) (H : Heap) : evCode P Γ call n f m (cAt [1, 1, 0, 1, 0] B13) s H = regNext (evOpsGo P Γ call r13_9.1 r13_9.1 s H) := at_region (by kernel_rfl) r13_9.2 s H
attribute [simp] r13_9
@[simp] theorem n13_10 (s : List V) (H : Heap) : evCode P Γ call n f m (cAt [1, 1, 0, 1, 1] B13) s H = some (.normal, s, H) := at_skip (by kernel_rfl) s H
@[simp] theorem n13_11 (s : List V) (H : Heap) : evCode P Γ call n f m (cAt [1, 1, 1] B13) s H = seqNext P Γ call n f m (cAt [1, 1, 1, 1] B13) (evCode P Γ call n f m (cAt [1, 1, 1, 0] B13) s H) := at_seq (by kernel_rfl) rfl rfl s H
noncomputable def r13_12 : {l : List Oper // opsOf (cAt [1, 1, 1, 0] B13) = l} := by
  apply Subtype.mk
  dsimp only [opsOf, cAt, kids, B13, bodyOf, Try.f13, List.getD, List.getElem?_cons_zero, List.getElem?_cons_succ, Option.getD_some]
@[simp] theorem n13_12 (s : List V) (H : Heap) : evCode P Γ call n f m (cAt [1, 1, 1, 0] B13) s H = regNext (evOpsGo P Γ call r13_12.1 r13_12.1 s H) := at_region (by kernel_rfl) r13_12.2 s H
attribute [simp] r13_12
@[simp] theorem n13_13 (s : List V) (H : Heap) : evCode P Γ call n f m (cAt [1, 1, 1, 1] B13) s H = some (.ret, s, H) := at_ret (by kernel_rfl) s H
theorem b13 {k : Nat} (ho : ∀ args H, Γ.orc 13 args H = none) (args : List V) (H : Heap) (ha : args.length ≤ 14) : evF Try.prog Γ (k + 1) 13 args H = bodyEnd Try.prog [.tmp 4] H.length (evCode Try.prog Γ (evF Try.prog Γ k) k 13 H.length (cAt [] B13) (mkL 14 V.undef (enumV 0 args)) H) := body_at Try.func13 (by decide) rfl ho rfl rfl args H ha
noncomputable def B23 : Code := bodyOf Try.f23
@[simp] theorem n23_1 (s : List V) (H : Heap) : evCode P Γ call n f m (cAt [] B23) s H = seqNext P Γ call n f m (cAt [1] B23) (evCode P Γ call n f m (cAt [0] B23) s H) := at_seq (by kernel_rfl) rfl rfl s H
noncomputable def r23_2 : {l : List Oper // opsOf (cAt [0] B23) = l} := by
  apply Subtype.mk
  dsimp only [opsOf, cAt, kids, B23, bodyOf, Try.f23, List.getD, List.getElem?_cons_zero, List.getElem?_cons_succ, Option.getD_some]
@[simp] theorem n23_2 (s : List V) (H : Heap) : evCode P Γ call n f m (cAt [0] B23) s H = regNext (evOpsGo P Γ call r23_2.1 r23_2.1 s H) := at_region (by kernel_rfl) r23_2.2 s H
attribute [simp] r23_2
@[simp] theorem n23_3 (s : List V) (H : Heap) : evCode P Γ call n f m (cAt [1] B23) s H = seqNext P Γ call n f m (cAt [1, 1] B23) (evCode P Γ call n f m (cAt [1, 0] B23) s H) := at_seq (by kernel_rfl) rfl rfl s H
@[simp] theorem n23_4 (s : List V) (H : Heap) : evCode P Γ call n f m (cAt [1, 0] B23) s H = seqNext P Γ call n f m (cAt [1, 0, 1] B23) (evCode P Γ call n f m (cAt [1, 0, 0] B23) s H) := at_seq (by kernel_rfl) rfl rfl s H
noncomputable def r23_5 : {l : List Oper // opsOf (cAt [1, 0, 0] B23) = l} := by
  apply Subtype.mk
  dsimp only [opsOf, cAt, kids, B23, bodyOf, Try.f23, List.getD, List.getElem?_cons_zero, List.getElem?_cons_succ, Option.getD_some]
@[simp] theorem n23_5 (s : List V) (H : Heap) : evCode P Γ call n f m (cAt [1, 0, 0] B23) s H = regNext (evOpsGo P Γ call r23_5.1 r23_5.1 s H) := at_region (by kernel_rfl) r23_5.2 s H
attribute [simp] r23_5
@[simp] theorem n23_6 (s : List V) (H : Heap) : evCode P Γ call n f m (cAt [1, 0, 1] B23) s H = condW P Γ call n f m (cAt [1, 0, 1, 0] B23) (cAt [1, 0, 1, 1] B23) s H (evOperand Γ s (.tmp 7)) := at_cond (by kernel_rfl) (by kernel_rfl) rfl rfl s H
@[simp] theorem n23_7 (s : List V) (H : Heap) : evCode P Γ call n f m (cAt [1, 0, 1, 0] B23) s H = seqNext P Γ call n f m (cAt [1, 0, 1, 0, 1] B23) (evCode P Γ call n f m (cAt [1, 0, 1, 0, 0] B23) s H) := at_seq (by kernel_rfl) rfl rfl s H
noncomputable def r23_8 : {l : List Oper // opsOf (cAt [1, 0, 1, 0, 0] B23) = l} := by
  apply Subtype.mk
  dsimp only [opsOf, cAt, kids, B23, bodyOf, Try.f23, List.getD, List.getElem?_cons_zero, List.getElem?_cons_succ, Option.getD_some]
@[simp] theorem n23_8 (s : List V) (H : Heap) : evCode P Γ call n f m (cAt [1, 0, 1, 0, 0] B23) s H = regNext (evOpsGo P Γ call r23_8.1 r23_8.1 s H) := at_region (by kernel_rfl) r23_8.2 s H
attribute [simp] r23_8
@[simp] theorem n23_9 (s : List V) (H : Heap) : evCode P Γ call n f m (cAt [1, 0, 1, 0, 1] B23) s H = some (.ret, s, H) := at_ret (by kernel_rfl) s H
@[simp] theorem n23_10 (s : List V) (H : Heap) : evCode P Γ call n f m (cAt [1, 0, 1, 1] B23) s H = some (.normal, s, H) := at_skip (by kernel_rfl) s H
@[simp] theorem n23_11 (s : List V) (H : Heap) : evCode P Γ call n f m (cAt [1, 1] B23) s H = seqNext P Γ call n f m (cAt [1, 1, 1] B23) (evCode P Γ call n f m (cAt [1, 1, 0] B23) s H) := at_seq (by kernel_rfl) rfl rfl s H
@[simp] theorem n23_12 (s : List V) (H : Heap) : evCode P Γ call n f m (cAt [1, 1, 0] B23) s H = seqNext P Γ call n f m (cAt [1, 1, 0, 1] B23) (evCode P Γ call n f m (cAt [1, 1, 0, 0] B23) s H) := at_seq (by kernel_rfl) rfl rfl s H
noncomputable def r23_13 : {l : List Oper // opsOf (cAt [1, 1, 0, 0] B23) = l} := by
  apply Subtype.mk
  dsimp only [opsOf, cAt, kids, B23, bodyOf, Try.f23, List.getD, List.getElem?_cons_zero, List.getElem?_cons_succ, Option.getD_some]
@[simp] theorem n23_13 (s : List V) (H : Heap) : evCode P Γ call n f m (cAt [1, 1, 0, 0] B23) s H = regNext (evOpsGo P Γ call r23_13.1 r23_13.1 s H) := at_region (by kernel_rfl) r23_13.2 s H
attribute [simp] r23_13
@[simp] theorem n23_14 (s : List V) (H : Heap) : evCode P Γ call n f m (cAt [1, 1, 0, 1] B23) s H = blockNext 0 (evCode P Γ call n f m (cAt [1, 1, 0, 1, 0] B23) s H) := at_block (by kernel_rfl) rfl s H
@[simp] theorem n23_15 (s : List V) (H : Heap) : evCode P Γ call n f m (cAt [1, 1, 0, 1, 0] B23) s H = evLoopC P Γ call n f m (cAt [1, 1, 0, 1, 0, 0] B23) n s H := at_loop (by kernel_rfl) rfl s H
noncomputable abbrev L23_4 : Code := cAt [1, 1, 0, 1, 0, 0] B23
@[simp] theorem n23_15f : firstRegion (cAt [1, 1, 0, 1, 0, 0] B23) = 4 := by kernel_rfl
@[simp] theorem n23_16 (s : List V) (H : Heap) : evCode P Γ call n f m (cAt [1, 1, 0, 1, 0, 0] B23) s H = seqNext P Γ call n f m (cAt [1, 1, 0, 1, 0, 0, 1] B23) (evCode P Γ call n f m (cAt [1, 1, 0, 1, 0, 0, 0] B23) s H) := at_seq (by kernel_rfl) rfl rfl s H
noncomputable def r23_17 : {l : List Oper // opsOf (cAt [1, 1, 0, 1, 0, 0, 0] B23) = l} := by
  apply Subtype.mk
  dsimp only [opsOf, cAt, kids, B23, bodyOf, Try.f23, List.getD, List.getElem?_cons_zero, List.getElem?_cons_succ, Option.getD_some]
@[simp] theorem n23_17 (s : List V) (H : Heap) : evCode P Γ call n f m (cAt [1, 1, 0, 1, 0, 0, 0] B23) s H = regNext (evOpsGo P Γ call r23_17.1 r23_17.1 s H) := at_region (by kernel_rfl) r23_17.2 s H
attribute [simp] r23_17
@[simp] theorem n23_18 (s : List V) (H : Heap) : evCode P Γ call n f m (cAt [1, 1, 0, 1, 0, 0, 1] B23) s H = seqNext P Γ call n f m (cAt [1, 1, 0, 1, 0, 0, 1, 1] B23) (evCode P Γ call n f m (cAt [1, 1, 0, 1, 0, 0, 1, 0] B23) s H) := at_seq (by kernel_rfl) rfl rfl s H
@[simp] theorem n23_19 (s : List V) (H : Heap) : evCode P Γ call n f m (cAt [1, 1, 0, 1, 0, 0, 1, 0] B23) s H = condW P Γ call n f m (cAt [1, 1, 0, 1, 0, 0, 1, 0, 0] B23) (cAt [1, 1, 0, 1, 0, 0, 1, 0, 1] B23) s H (evOperand Γ s (.tmp 11)) := at_cond (by kernel_rfl) (by kernel_rfl) rfl rfl s H
@[simp] theorem n23_20 (s : List V) (H : Heap) : evCode P Γ call n f m (cAt [1, 1, 0, 1, 0, 0, 1, 0, 0] B23) s H = some (.normal, s, H) := at_skip (by kernel_rfl) s H
@[simp] theorem n23_21 (s : List V) (H : Heap) : evCode P Γ call n f m (cAt [1, 1, 0, 1, 0, 0, 1, 0, 1] B23) s H = some (.exit 0, s, H) := at_exit (by kernel_rfl) s H
@[simp] theorem n23_22 (s : List V) (H : Heap) : evCode P Γ call n f m (cAt [1, 1, 0, 1, 0, 0, 1, 1] B23) s H = seqNext P Γ call n f m (cAt [1, 1, 0, 1, 0, 0, 1, 1, 1] B23) (evCode P Γ call n f m (cAt [1, 1, 0, 1, 0, 0, 1, 1, 0] B23) s H) := at_seq (by kernel_rfl) rfl rfl s H
@[simp] theorem n23_23 (s : List V) (H : Heap) : evCode P Γ call n f m (cAt [1, 1, 0, 1, 0, 0, 1, 1, 0] B23) s H = blockNext 1 (evCode P Γ call n f m (cAt [1, 1, 0, 1, 0, 0, 1, 1, 0, 0] B23) s H) := at_block (by kernel_rfl) rfl s H
@[simp] theorem n23_24 (s : List V) (H : Heap) : evCode P Γ call n f m (cAt [1, 1, 0, 1, 0, 0, 1, 1, 0, 0] B23) s H = seqNext P Γ call n f m (cAt [1, 1, 0, 1, 0, 0, 1, 1, 0, 0, 1] B23) (evCode P Γ call n f m (cAt [1, 1, 0, 1, 0, 0, 1, 1, 0, 0, 0] B23) s H) := at_seq (by kernel_rfl) rfl rfl s H
noncomputable def r23_25 : {l : List Oper // opsOf (cAt [1, 1, 0, 1, 0, 0, 1, 1, 0, 0, 0] B23) = l} := by
  apply Subtype.mk
  dsimp only [opsOf, cAt, kids, B23, bodyOf, Try.f23, List.getD, List.getElem?_cons_zero, List.getElem?_cons_succ, Option.getD_some]
@[simp] theorem n23_25 (s : List V) (H : Heap) : evCode P Γ call n f m (cAt [1, 1, 0, 1, 0, 0, 1, 1, 0, 0, 0] B23) s H = regNext (evOpsGo P Γ call r23_25.1 r23_25.1 s H) := at_region (by kernel_rfl) r23_25.2 s H
attribute [simp] r23_25
@[simp] theorem n23_26 (s : List V) (H : Heap) : evCode P Γ call n f m (cAt [1, 1, 0, 1, 0, 0, 1, 1, 0, 0, 1] B23) s H = seqNext P Γ call n f m (cAt [1, 1, 0, 1, 0, 0, 1, 1, 0, 0, 1, 1] B23) (evCode P Γ call n f m (cAt [1, 1, 0, 1, 0, 0, 1, 1, 0, 0, 1, 0] B23) s H) := at_seq (by kernel_rfl) rfl rfl s H
@[simp] theorem n23_27 (s : List V) (H : Heap) : evCode P Γ call n f m (cAt [1, 1, 0, 1, 0, 0, 1, 1, 0, 0, 1, 0] B23) s H = seqNext P Γ call n f m (cAt [1, 1, 0, 1, 0, 0, 1, 1, 0, 0, 1, 0, 1] B23) (evCode P Γ call n f m (cAt [1, 1, 0, 1, 0, 0, 1, 1, 0, 0, 1, 0, 0] B23) s H) := at_seq (by kernel_rfl) rfl rfl s H
noncomputable def r23_28 : {l : List Oper // opsOf (cAt [1, 1, 0, 1, 0, 0, 1, 1, 0, 0, 1, 0, 0] B23) = l} := by
  apply Subtype.mk
  dsimp only [opsOf, cAt, kids, B23, bodyOf, Try.f23, List.getD, List.getElem?_cons_zero, List.getElem?_cons_succ, Option.getD_some]
@[simp] theorem n23_28 (s : List V) (H : Heap) : evCode P Γ call n f m (cAt [1, 1, 0, 1, 0, 0, 1, 1, 0, 0, 1, 0, 0] B23) s H = regNext (evOpsGo P Γ call r23_28.1 r23_28.1 s H) := at_region (by kernel_rfl) r23_28.2 s H
attribute [simp] r23_28
@[simp] theorem n23_29 (s : List V) (H : Heap) : evCode P Γ call n f m (cAt [1, 1, 0, 1, 0, 0, 1, 1, 0, 0, 1, 0, 1] B23) s H = condW P Γ call n f m (cAt [1, 1, 0, 1, 0, 0, 1, 1, 0, 0, 1, 0, 1, 0] B23) (cAt [1, 1, 0, 1, 0, 0, 1, 1, 0, 0, 1, 0, 1, 1] B23) s H (evOperand Γ s (.tmp 29)) := at_cond (by kernel_rfl) (by kernel_rfl) rfl rfl s H
@[simp] theorem n23_30 (s : List V) (H : Heap) : evCode P Γ call n f m (cAt [1, 1, 0, 1, 0, 0, 1, 1, 0, 0, 1, 0, 1, 0] B23) s H = seqNext P Γ call n f m (cAt [1, 1, 0, 1, 0, 0, 1, 1, 0, 0, 1, 0, 1, 0, 1] B23) (evCode P Γ call n f m (cAt [1, 1, 0, 1, 0, 0, 1, 1, 0, 0, 1, 0, 1, 0, 0] B23) s H) := at_seq (by kernel_rfl) rfl rfl s H
noncomputable def r23_31 : {l : List Oper // opsOf (cAt [1, 1, 0, 1, 0, 0, 1, 1, 0, 0, 1, 0, 1, 0, 0] B23) = l} := by
  apply Subtype.mk
  dsimp only [opsOf, cAt, kids, B23, bodyOf, Try.f23, List.getD, List.getElem?_cons_zero, List.getElem?_cons_succ, Option.getD_some]
@[simp] theorem n23_31 (s : List V) (H : Heap) : evCode P Γ call n f m (cAt [1, 1, 0, 1, 0, 0, 1, 1, 0, 0, 1, 0, 1, 0, 0] B23) s H = regNext (evOpsGo P Γ call r23_31.1 r23_31.1 s H) := at_region (by kernel_rfl) r23_31.2 s H
attribute [simp] r23_31
@[simp] theorem n23_32 (s : List V) (H : Heap) : evCode P Γ call n f m (cAt [1, 1, 0, 1, 0, 0, 1, 1, 0, 0, 1, 0, 1, 0, 1] B23) s H = some (.ret, s, H) := at_ret (by kernel_rfl) s H
@[simp] theorem n23_33 (s : List V) (H : Heap) : evCode P Γ call n f m (cAt [1, 1, 0, 1, 0, 0, 1, 1, 0, 0, 1, 0, 1, 1] B23) s H = some (.normal, s, H) := at_skip (by kernel_rfl) s H
@[simp] theorem n23_34 (s : List V) (H : Heap) : evCode P Γ call n f m (cAt [1, 1, 0, 1, 0, 0, 1, 1, 0, 0, 1, 1] B23) s H = seqNext P Γ call n f m (cAt [1, 1, 0, 1, 0, 0, 1, 1, 0, 0, 1, 1, 1] B23) (evCode P Γ call n f m (cAt [1, 1, 0, 1, 0, 0, 1, 1, 0, 0, 1, 1, 0] B23) s H) := at_seq (by kernel_rfl) rfl rfl s H
noncomputable def r23_35 : {l : List Oper // opsOf (cAt [1, 1, 0, 1, 0, 0, 1, 1, 0, 0, 1, 1, 0] B23) = l} := by
  apply Subtype.mk
  dsimp only [opsOf, cAt, kids, B23, bodyOf, Try.f23, List.getD, List.getElem?_cons_zero, List.getElem?_cons_succ, Option.getD_some]
@[simp] theorem n23_35 (s : List V) (H : Heap) : evCode P Γ call n f m (cAt [1, 1, 0, 1, 0, 0, 1, 1, 0, 0, 1, 1, 0] B23) s H = regNext (drawR P Γ call r23_35.1 [([], []), ([], []), ([], []), ([4, 5, 8], [34, 35, 38]), ([3, 8], [33, 38]), ([3, 8], [33, 38]), ([8], [38]), ([8], [38]), ([3, 4, 5, 6, 7], [33, 34, 35, 36, 37]), ([], []), ([], []), ([], [])] s H) := at_drawT (by kernel_rfl) r23_35.2 (by kernel_rfl) s H
attribute [simp] r23_35
@[simp] theorem n23_36 (s : List V) (H : Heap) : evCode P Γ call n f m (cAt [1, 1, 0, 1, 0, 0, 1, 1, 0, 0, 1, 1, 1] B23) s H = condW P Γ call n f m (cAt [1, 1, 0, 1, 0, 0, 1, 1, 0, 0, 1, 1, 1, 0] B23) (cAt [1, 1, 0, 1, 0, 0, 1, 1, 0, 0, 1, 1, 1, 1] B23) s H (evOperand Γ s (.tmp 41)) := at_cond (by kernel_rfl) (by kernel_rfl) rfl rfl s H
@[simp] theorem n23_37 (s : List V) (H : Heap) : evCode P Γ call n f m (cAt [1, 1, 0, 1, 0, 0, 1, 1, 0, 0, 1, 1, 1, 0] B23) s H = seqNext P Γ call n f m (cAt [1, 1, 0, 1, 0, 0, 1, 1, 0, 0, 1, 1, 1, 0, 1] B23) (evCode P Γ call n f m (cAt [1, 1, 0, 1, 0, 0, 1, 1, 0, 0, 1, 1, 1, 0, 0] B23) s H) := at_seq (by kernel_rfl) rfl rfl s H
noncomputable def r23_38 : {l : List Oper // opsOf (cAt [1, 1, 0, 1, 0, 0, 1, 1, 0, 0, 1, 1, 1, 0, 0] B23) = l} := by
  apply Subtype.mk
  dsimp only [opsOf, cAt, kids, B23, bodyOf, Try.f23, List.getD, List.getElem?_cons_zero, List.getElem?_cons_succ, Option.getD_some]
@[simp] theorem n23_38 (s : List V) (H : Heap) : evCode P Γ call n f m (cAt [1, 1, 0, 1, 0, 0, 1, 1, 0, 0, 1, 1, 1, 0, 0] B23) s H = regNext (evOpsGo P Γ call r23_38.1 r23_38.1 s H) := at_region (by kernel_rfl) r23_38.2 s H
attribute [simp] r23_38
@[simp] theorem n23_39 (s : List V) (H : Heap) : evCode P Γ call n f m (cAt [1, 1, 0, 1, 0, 0, 1, 1, 0, 0, 1, 1, 1, 0, 1] B23) s H = some (.ret, s, H) := at_ret (by kernel_rfl) s H
@[simp] theorem n23_40 (s : List V) (H : Heap) : evCode P Γ call n f m (cAt [1, 1, 0, 1, 0, 0, 1, 1, 0, 0, 1, 1, 1, 1] B23) s H = some (.normal, s, H) := at_skip (by kernel_rfl) s H
noncomputable def r23_41 : {l : List Oper // opsOf (cAt [1, 1, 0, 1, 0, 0, 1, 1, 1] B23) = l} := by
  apply Subtype.mk
  dsimp only [opsOf, cAt, kids, B23, bodyOf, Try.f23, List.getD, List.getElem?_cons_zero, List.getElem?_cons_succ, Option.getD_some]
@[simp] theorem n23_41 (s : List V) (H : Heap) : evCode P Γ call n f m (cAt [1, 1, 0, 1, 0, 0, 1, 1, 1] B23) s H = regNext (evOpsGo P Γ call r23_41.1 r23_41.1 s H) := at_region (by kernel_rfl) r23_41.2 s H
attribute [simp] r23_41
@[simp] theorem n23_42 (s : List V) (H : Heap) : evCode P Γ call n f m (cAt [1, 1, 1] B23) s H = seqNext P Γ call n f m (cAt [1, 1, 1, 1] B23) (evCode P Γ call n f m (cAt [1, 1, 1, 0] B23) s H) := at_seq (by kernel_rfl) rfl rfl s H
noncomputable def r23_43 : {l : List Oper // opsOf (cAt [1, 1, 1, 0] B23) = l} := by
  apply Subtype.mk
  dsimp only [opsOf, cAt, kids, B23, bodyOf, Try.f23, List.getD, List.getElem?_cons_zero, List.getElem?_cons_succ, Option.getD_some]
@[simp] theorem n23_43 (s : List V) (H : Heap) : evCode P Γ call n f m (cAt [1, 1, 1, 0] B23) s H = regNext (evOpsGo P Γ call r23_43.1 r23_43.1 s H) := at_region (by kernel_rfl) r23_43.2 s H
attribute [simp] r23_43
@[simp] theorem n23_44 (s : List V) (H : Heap) : evCode P Γ call n f m (cAt [1, 1, 1, 1] B23) s H = some (.ret, s, H) := at_ret (by kernel_rfl) s H
theorem b23 {k : Nat} (ho : ∀ args H, Γ.orc 23 args H = none) (args : List V) (H : Heap) (ha : args.length ≤ 43) : evF Try.prog Γ (k + 1) 23 args H = bodyEnd Try.prog [.tmp 2] H.length (evCode Try.prog Γ (evF Try.prog Γ k) k 23 H.length (cAt [] B23) (mkL 43 V.undef (enumV 0 args)) H) := body_at Try.func23 (by decide) rfl ho rfl rfl args H ha
noncomputable def B25 : Code := bodyOf Try.f25
@[simp] theorem n25_1 (s : List V) (H : Heap) : evCode P Γ call n f m (cAt [] B25) s H = seqNext P Γ call n f m (cAt [1] B25) (evCode P Γ call n f m (cAt [0] B25) s H) := at_seq (by kernel_rfl) rfl rfl s H
noncomputable def r25_2 : {l : List Oper // opsOf (cAt [0] B25) = l} := by
  apply Subtype.mk
  dsimp only [opsOf, cAt, kids, B25, bodyOf, Try.f25, List.getD, List.getElem?_cons_zero, List.getElem?_cons_succ, Option.getD_some]
@[simp] theorem n25_2 (s : List V) (H : Heap) : evCode P Γ call n f m (cAt [0] B25) s H = regNext (evOpsGo P Γ call r25_2.1 r25_2.1 s H) := at_region (by kernel_rfl) r25_2.2 s H
attribute [simp] r25_2
@[simp] theorem n25_3 (s : List V) (H : Heap) : evCode P Γ call n f m (cAt [1] B25) s H = seqNext P Γ call n f m (cAt [1, 1] B25) (evCode P Γ call n f m (cAt [1, 0] B25) s H) := at_seq (by kernel_rfl) rfl rfl s H
noncomputable def r25_4 : {l : List Oper // opsOf (cAt [1, 0] B25) = l} := by
  apply Subtype.mk
  dsimp only [opsOf, cAt, kids, B25, bodyOf, Try.f25, List.getD, List.getElem?_cons_zero, List.getElem?_cons_succ, Option.getD_some]
@[simp] theorem n25_4 (s : List V) (H : Heap) : evCode P Γ call n f m (cAt [1, 0] B25) s H = regNext (drawR P Γ call r25_4.1 [([2, 3, 5, 6, 7, 8, 10, 11, 12, 13], [7, 8, 10, 11, 12, 13, 15, 16, 17, 18]), ([2, 3, 5, 6, 7, 8, 10, 11, 12, 13], [7, 8, 10, 11, 12, 13, 15, 16, 17, 18]), ([0, 1, 5, 6, 7, 8, 10, 11, 12, 13], [5, 6, 10, 11, 12, 13, 15, 16, 17, 18]), ([0, 1, 5, 6, 7, 8, 10, 11, 12, 13], [5, 6, 10, 11, 12, 13, 15, 16, 17, 18]), ([5, 6, 7, 8, 10, 11, 12, 13], [10, 11, 12, 13, 15, 16, 17, 18]), ([0, 1, 2, 3, 4, 7, 8, 10, 11, 12, 13], [5, 6, 7, 8, 9, 12, 13, 15, 16, 17, 18]), ([0, 1, 2, 3, 4, 7, 8, 10, 11, 12, 13], [5, 6, 7, 8, 9, 12, 13, 15, 16, 17, 18]), ([0, 1, 2, 3, 4, 5, 6, 10, 11, 12, 13], [5, 6, 7, 8, 9, 10, 11, 15, 16, 17, 18]), ([0, 1, 2, 3, 4, 5, 6, 10, 11, 12, 13], [5, 6, 7, 8, 9, 10, 11, 15, 16, 17, 18]), ([10, 11, 12, 13], [15, 16, 17, 18]), ([0, 1, 2, 3, 4, 5, 6, 7, 8, 9, 12, 13], [5, 6, 7, 8, 9, 10, 11, 12, 13, 14, 17, 18]), ([0, 1, 2, 3, 4, 5, 6, 7, 8, 9, 12, 13], [5, 6, 7, 8, 9, 10, 11, 12, 13, 14, 17, 18]), ([0, 1, 2, 3, 4, 5, 6, 7, 8, 9, 10, 11], [5, 6, 7, 8, 9, 10, 11, 12, 13, 14, 15, 16]), ([0, 1, 2, 3, 4, 5, 6, 7, 8, 9, 10, 11], [5, 6, 7, 8, 9, 10, 11, 12, 13, 14, 15, 16]), ([], []), ([], []), ([], []), ([], [])] s H) := at_drawT (by kernel_rfl) r25_4.2 (by kernel_rfl) s H
attribute [simp] r25_4
@[simp] theorem n25_5 (s : List V) (H : Heap) : evCode P Γ call n f m (cAt [1, 1] B25) s H = some (.ret, s, H) := at_ret (by kernel_rfl) s H
theorem b25 {k : Nat} (ho : ∀ args H, Γ.orc 25 args H = none) (args : List V) (H : Heap) (ha : args.length ≤ 22) : evF Try.prog Γ (k + 1) 25 args H = bodyEnd Try.prog [.tmp 4] H.length (evCode Try.prog Γ (evF Try.prog Γ k) k 25 H.length (cAt [] B25) (mkL 22 V.undef (enumV 0 args)) H) := body_at Try.func25 (by decide) rfl ho rfl rfl args H ha
noncomputable def B28 : Code := bodyOf Try.f28
@[simp] theorem n28_1 (s : List V) (H : Heap) : evCode P Γ call n f m (cAt [] B28) s H = seqNext P Γ call n f m (cAt [1] B28) (evCode P Γ call n f m (cAt [0] B28) s H) := at_seq (by kernel_rfl) rfl rfl s H
noncomputable def r28_2 : {l : List Oper // opsOf (cAt [0] B28) = l} := by
  apply Subtype.mk
  dsimp only [opsOf, cAt, kids, B28, bodyOf, Try.f28, List.getD, List.getElem?_cons_zero, List.getElem?_cons_succ, Option.getD_some]
@[simp] theorem n28_2 (s : List V) (H : Heap) : evCode P Γ call n f m (cAt [0] B28) s H = regNext (evOpsGo P Γ call r28_2.1 r28_2.1 s H) := at_region (by kernel_rfl) r28_2.2 s H
attribute [simp] r28_2
@[simp] theorem n28_3 (s : List V) (H : Heap) : evCode P Γ call n f m (cAt [1] B28) s H = seqNext P Γ call n f m (cAt [1, 1] B28) (evCode P Γ call n f m (cAt [1, 0] B28) s H) := at_seq (by kernel_rfl) rfl rfl s H
@[simp] theorem n28_4 (s : List V) (H : Heap) : evCode P Γ call n f m (cAt [1, 0] B28) s H = seqNext P Γ call n f m (cAt [1, 0, 1] B28) (evCode P Γ call n f m (cAt [1, 0, 0] B28) s H) := at_seq (by kernel_rfl) rfl rfl s H
noncomputable def r28_5 : {l : List Oper // opsOf (cAt [1, 0, 0] B28) = l} := by
  apply Subtype.mk
  dsimp only [opsOf, cAt, kids, B28, bodyOf, Try.f28, List.getD, List.getElem?_cons_zero, List.getElem?_cons_succ, Option.getD_some]
@[simp] theorem n28_5 (s : List V) (H : Heap) : evCode P Γ call n f m (cAt [1, 0, 0] B28) s H = regNext (evOpsGo P Γ call r28_5.1 r28_5.1 s H) := at_region (by kernel_rfl) r28_5.2 s H
attribute [simp] r28_5
@[simp] theorem n28_6 (s : List V) (H : Heap) : evCode P Γ call n f m (cAt [1, 0, 1] B28) s H = condW P Γ call n f m (cAt [1, 0, 1, 0] B28) (cAt [1, 0, 1, 1] B28) s H (evOperand Γ s (.tmp 15)) := at_cond (by kernel_rfl) (by kernel_rfl) rfl rfl s H
@[simp] theorem n28_7 (s : List V) (H : Heap) : evCode P Γ call n f m (cAt [1, 0, 1, 0] B28) s H = seqNext P Γ call n f m (cAt [1, 0, 1, 0, 1] B28) (evCode P Γ call n f m (cAt [1, 0, 1, 0, 0] B28) s H) := at_seq (by kernel_rfl) rfl rfl s H
noncomputable def r28_8 : {l : List Oper // opsOf (cAt [1, 0, 1, 0, 0] B28) = l} := by
  apply Subtype.mk
  dsimp only [opsOf, cAt, kids, B28, bodyOf, Try.f28, List.getD, List.getElem?_cons_zero, List.getElem?_cons_succ, Option.getD_some]
@[simp] theorem n28_8 (s : List V) (H : Heap) : evCode P Γ call n f m (cAt [1, 0, 1, 0, 0] B28) s H = regNext (evOpsGo P Γ call r28_8.1 r28_8.1 s H) := at_region (by kernel_rfl) r28_8.2 s H
attribute [simp] r28_8
@[simp] theorem n28_9 (s : List V) (H : Heap) : evCode P Γ call n f m (cAt [1, 0, 1, 0, 1] B28) s H = some (.ret, s, H) := at_ret (by kernel_rfl) s H
@[simp] theorem n28_10 (s : List V) (H : Heap) : evCode P Γ call n f m (cAt [1, 0, 1, 1] B28) s H = some (.normal, s, H) := at_skip (by kernel_rfl) s H
@[simp] theorem n28_11 (s : List V) (H : Heap) : evCode P Γ call n f m (cAt [1, 1] B28) s H = seqNext P Γ call n f m (cAt [1, 1, 1] B28) (evCode P Γ call n f m (cAt [1, 1, 0] B28) s H) := at_seq (by kernel_rfl) rfl rfl s H
noncomputable def r28_12 : {l : List Oper // opsOf (cAt [1, 1, 0] B28) = l} := by
  apply Subtype.mk
  dsimp only [opsOf, cAt, kids, B28, bodyOf, Try.f28, List.getD, List.getElem?_cons_zero, List.getElem?_cons_succ, Option.getD_some]
@[simp] theorem n28_12 (s : List V) (H : Heap) : evCode P Γ call n f m (cAt [1, 1, 0] B28) s H = regNext (evOpsGo P Γ call r28_12.1 r28_12.1 s H) := at_region (by kernel_rfl) r28_12.2 s H
attribute [simp] r28_12
@[simp] theorem n28_13 (s : List V) (H : Heap) : evCode P Γ call n f m (cAt [1, 1, 1] B28) s H = seqNext P Γ call n f m (cAt [1, 1, 1, 1] B28) (evCode P Γ call n f m (cAt [1, 1, 1, 0] B28) s H) := at_seq (by kernel_rfl) rfl rfl s H
noncomputable def r28_14 : {l : List Oper // opsOf (cAt [1, 1, 1, 0] B28) = l} := by
  apply Subtype.mk
  dsimp only [opsOf, cAt, kids, B28, bodyOf, Try.f28, List.getD, List.getElem?_cons_zero, List.getElem?_cons_succ, Option.getD_some]
@[simp] theorem n28_14 (s : List V) (H : Heap) : evCode P Γ call n f m (cAt [1, 1, 1, 0] B28) s H = regNext (evOpsGo P Γ call r28_14.1 r28_14.1 s H) := at_region (by kernel_rfl) r28_14.2 s H
attribute [simp] r28_14
@[simp] theorem n28_15 (s : List V) (H : Heap) : evCode P Γ call n f m (cAt [1, 1, 1, 1] B28) s H = seqNext P Γ call n f m (cAt [1, 1, 1, 1, 1] B28) (evCode P Γ call n f m (cAt [1, 1, 1, 1, 0] B28) s H) := at_seq (by kernel_rfl) rfl rfl s H
noncomputable def r28_16 : {l : List Oper // opsOf (cAt [1, 1, 1, 1, 0] B28) = l} := by
  apply Subtype.mk
  dsimp only [opsOf, cAt, kids, B28, bodyOf, Try.f28, List.getD, List.getElem?_cons_zero, List.getElem?_cons_succ, Option.getD_some]
@[simp] theorem n28_16 (s : List V) (H : Heap) : evCode P Γ call n f m (cAt [1, 1, 1, 1, 0] B28) s H = regNext (evOpsGo P Γ call r28_16.1 r28_16.1 s H) := at_region (by kernel_rfl) r28_16.2 s H
attribute [simp] r28_16
@[simp] theorem n28_17 (s : List V) (H : Heap) : evCode P Γ call n f m (cAt [1, 1, 1, 1, 1] B28) s H = some (.ret, s, H) := at_ret (by kernel_rfl) s H
theorem b28 {k : Nat} (ho : ∀ args H, Γ.orc 28 args H = none) (args : List V) (H : Heap) (ha : args.length ≤ 33) : evF Try.prog Γ (k + 1) 28 args H = bodyEnd Try.prog [.tmp 4] H.length (evCode Try.prog Γ (evF Try.prog Γ k) k 28 H.length (cAt [] B28) (mkL 33 V.undef (enumV 0 args)) H) := body_at Try.func28 (by decide) rfl ho rfl rfl args H ha
noncomputable def B32 : Code := bodyOf Try.f32
@[simp] theorem n32_1 (s : List V) (H : Heap) : evCode P Γ call n f m (cAt [] B32) s H = seqNext P Γ call n f m (cAt [1] B32) (evCode P Γ call n f m (cAt [0] B32) s H) := at_seq (by kernel_rfl) rfl rfl s H
noncomputable def r32_2 : {l : List Oper // opsOf (cAt [0] B32) = l} := by
  apply Subtype.mk
  dsimp only [opsOf, cAt, kids, B32, bodyOf, Try.f32, List.getD, List.getElem?_cons_zero, List.getElem?_cons_succ, Option.getD_some]
@[simp] theorem n32_2 (s : List V) (H : Heap) : evCode P Γ call n f m (cAt [0] B32) s H = regNext (evOpsGo P Γ call r32_2.1 r32_2.1 s H) := at_region (by kernel_rfl) r32_2.2 s H
attribute [simp] r32_2
@[simp] theorem n32_3 (s : List V) (H : Heap) : evCode P Γ call n f m (cAt [1] B32) s H = seqNext P Γ call n f m (cAt [1, 1] B32) (evCode P Γ call n f m (cAt [1, 0] B32) s H) := at_seq (by kernel_rfl) rfl rfl s H
@[simp] theorem n32_4 (s : List V) (H : Heap) : evCode P Γ call n f m (cAt [1, 0] B32) s H = seqNext P Γ call n f m (cAt [1, 0, 1] B32) (evCode P Γ call n f m (cAt [1, 0, 0] B32) s H) := at_seq (by kernel_rfl) rfl rfl s H
noncomputable def r32_5 : {l : List Oper // opsOf (cAt [1, 0, 0] B32) = l} := by
  apply Subtype.mk
  dsimp only [opsOf, cAt, kids, B32, bodyOf, Try.f32, List.getD, List.getElem?_cons_zero, List.getElem?_cons_succ, Option.getD_some]
@[simp] theorem n32_5 (s : List V) (H : Heap) : evCode P Γ call n f m (cAt [1, 0, 0] B32) s H = regNext (evOpsGo P Γ call r32_5.1 r32_5.1 s H) := at_region (by kernel_rfl) r32_5.2 s H
attribute [simp] r32_5
@[simp] theorem n32_6 (s : List V) (H : Heap) : evCode P Γ call n f m (cAt [1, 0, 1] B32) s H = condW P Γ call n f m (cAt [1, 0, 1, 0] B32) (cAt [1, 0, 1, 1] B32) s H (evOperand Γ s (.tmp 4)) := at_cond (by kernel_rfl) (by kernel_rfl) rfl rfl s H
@[simp] theorem n32_7 (s : List V) (H : Heap) : evCode P Γ call n f m (cAt [1, 0, 1, 0] B32) s H = seqNext P Γ call n f m (cAt [1, 0, 1, 0, 1] B32) (evCode P Γ call n f m (cAt [1, 0, 1, 0, 0] B32) s H) := at_seq (by kernel_rfl) rfl rfl s H
noncomputable def r32_8 : {l : List Oper // opsOf (cAt [1, 0, 1, 0, 0] B32) = l} := by
  apply Subtype.mk
  dsimp only [opsOf, cAt, kids, B32, bodyOf, Try.f32, List.getD, List.getElem?_cons_zero, List.getElem?_cons_succ, Option.getD_some]
@[simp] theorem n32_8 (s : List V) (H : Heap) : evCode P Γ call n f m (cAt [1, 0, 1, 0, 0] B32) s H = regNext (evOpsGo P Γ call r32_8.1 r32_8.1 s H) := at_region (by kernel_rfl) r32_8.2 s H
attribute [simp] r32_8
@[simp] theorem n32_9 (s : List V) (H : Heap) : evCode P Γ call n f m (cAt [1, 0, 1, 0, 1] B32) s H = some (.ret, s, H) := at_ret (by kernel_rfl) s H
@[simp] theorem n32_10 (s : List V) (H : Heap) : evCode P Γ call n f m (cAt [1, 0, 1, 1] B32) s H = some (.normal, s, H) := at_skip (by kernel_rfl) s H
@[simp] theorem n32_11 (s : List V) (H : Heap) : evCode P Γ call n f m (cAt [1, 1] B32) s H = seqNext P Γ call n f m (cAt [1, 1, 1] B32) (evCode P Γ call n f m (cAt [1, 1, 0] B32) s H) := at_seq (by kernel_rfl) rfl rfl s H
noncomputable def r32_12 : {l : List Oper // opsOf (cAt [1, 1, 0] B32) = l} := by
  apply Subtype.mk
  dsimp only [opsOf, cAt, kids, B32, bodyOf, Try.f32, List.getD, List.getElem?_cons_zero, List.getElem?_cons_succ, Option.getD_some]
@[simp] theorem n32_12 (s : List V) (H : Heap) : evCode P Γ call n f m (cAt [1, 1, 0] B32) s H = regNext (evOpsGo P Γ call r32_12.1 r32_12.1 s H) := at_region (by kernel_rfl) r32_12.2 s H
attribute [simp] r32_12
@[simp] theorem n32_13 (s : List V) (H : Heap) : evCode P Γ call n f m (cAt [1, 1, 1] B32) s H = some (.ret, s, H) := at_ret (by kernel_rfl) s H
theorem b32 {k : Nat} (ho : ∀ args H, Γ.orc 32 args H = none) (args : List V) (H : Heap) (ha : args.length ≤ 8) : evF Try.prog Γ (k + 1) 32 args H = bodyEnd Try.prog [.tmp 2] H.length (evCode Try.prog Γ (evF Try.prog Γ k) k 32 H.length (cAt [] B32) (mkL 8 V.undef (enumV 0 args)) H) := body_at Try.func32 (by decide) rfl ho rfl rfl args H ha
noncomputable def B34 : Code := bodyOf Try.f34
@[simp] theorem n34_1 (s : List V) (H : Heap) : evCode P Γ call n f m (cAt [] B34) s H = seqNext P Γ call n f m (cAt [1] B34) (evCode P Γ call n f m (cAt [0] B34) s H) := at_seq (by kernel_rfl) rfl rfl s H
noncomputable def r34_2 : {l : List Oper // opsOf (cAt [0] B34) = l} := by
  apply Subtype.mk
  dsimp only [opsOf, cAt, kids, B34, bodyOf, Try.f34, List.getD, List.getElem?_cons_zero, List.getElem?_cons_succ, Option.getD_some]
@[simp] theorem n34_2 (s : List V) (H : Heap) : evCode P Γ call n f m (cAt [0] B34) s H = regNext (evOpsGo P Γ call r34_2.1 r34_2.1 s H) := at_region (by kernel_rfl) r34_2.2 s H
attribute [simp] r34_2
@[simp] theorem n34_3 (s : List V) (H : Heap) : evCode P Γ call n f m (cAt [1] B34) s H = seqNext P Γ call n f m (cAt [1, 1] B34) (evCode P Γ call n f m (cAt [1, 0] B34) s H) := at_seq (by kernel_rfl) rfl rfl s H
@[simp] theorem n34_4 (s : List V) (H : Heap) : evCode P Γ call n f m (cAt [1, 0] B34) s H = seqNext P Γ call n f m (cAt [1, 0, 1] B34) (evCode P Γ call n f m (cAt [1, 0, 0] B34) s H) := at_seq (by kernel_rfl) rfl rfl s H
noncomputable def r34_5 : {l : List Oper // opsOf (cAt [1, 0, 0] B34) = l} := by
  apply Subtype.mk
  dsimp only [opsOf, cAt, kids, B34, bodyOf, Try.f34, List.getD, List.getElem?_cons_zero, List.getElem?_cons_succ, Option.getD_some]
@[simp] theorem n34_5 (s : List V) (H : Heap) : evCode P Γ call n f m (cAt [1, 0, 0] B34) s H = regNext (evOpsGo P Γ call r34_5.1 r34_5.1 s H) := at_region (by kernel_rfl) r34_5.2 s H
attribute [simp] r34_5
@[simp] theorem n34_6 (s : List V) (H : Heap) : evCode P Γ call n f m (cAt [1, 0, 1] B34) s H = condW P Γ call n f m (cAt [1, 0, 1, 0] B34) (cAt [1, 0, 1, 1] B34) s H (evOperand Γ s (.tmp 8)) := at_cond (by kernel_rfl) (by kernel_rfl) rfl rfl s H
@[simp] theorem n34_7 (s : List V) (H : Heap) : evCode P Γ call n f m (cAt [1, 0, 1, 0] B34) s H = seqNext P Γ call n f m (cAt [1, 0, 1, 0, 1] B34) (evCode P Γ call n f m (cAt [1, 0, 1, 0, 0] B34) s H) := at_seq (by kernel_rfl) rfl rfl s H
noncomputable def r34_8 : {l : List Oper // opsOf (cAt [1, 0, 1, 0, 0] B34) = l} := by
  apply Subtype.mk
  dsimp only [opsOf, cAt, kids, B34, bodyOf, Try.f34, List.getD, List.getElem?_cons_zero, List.getElem?_cons_succ, Option.getD_some]
@[simp] theorem n34_8 (s : List V) (H : Heap) : evCode P Γ call n f m (cAt [1, 0, 1, 0, 0] B34) s H = regNext (evOpsGo P Γ call r34_8.1 r34_8.1 s H) := at_region (by kernel_rfl) r34_8.2 s H
attribute [simp] r34_8
@[simp] theorem n34_9 (s : List V) (H : Heap) : evCode P Γ call n f m (cAt [1, 0, 1, 0, 1] B34) s H = some (.ret, s, H) := at_ret (by kernel_rfl) s H
@[simp] theorem n34_10 (s : List V) (H : Heap) : evCode P Γ call n f m (cAt [1, 0, 1, 1] B34) s H = some (.normal, s, H) := at_skip (by kernel_rfl) s H
@[simp] theorem n34_11 (s : List V) (H : Heap) : evCode P Γ call n f m (cAt [1, 1] B34) s H = seqNext P Γ call n f m (cAt [1, 1, 1] B34) (evCode P Γ call n f m (cAt [1, 1, 0] B34) s H) := at_seq (by kernel_rfl) rfl rfl s H
@[simp] theorem n34_12 (s : List V) (H : Heap) : evCode P Γ call n f m (cAt [1, 1, 0] B34) s H = seqNext P Γ call n f m (cAt [1, 1, 0, 1] B34) (evCode P Γ call n f m (cAt [1, 1, 0, 0] B34) s H) := at_seq (by kernel_rfl) rfl rfl s H
noncomputable def r34_13 : {l : List Oper // opsOf (cAt [1, 1, 0, 0] B34) = l} := by
  apply Subtype.mk
  dsimp only [opsOf, cAt, kids, B34, bodyOf, Try.f34, List.getD, List.getElem?_cons_zero, List.getElem?_cons_succ, Option.getD_some]
@[simp] theorem n34_13 (s : List V) (H : Heap) : evCode P Γ call n f m (cAt [1, 1, 0, 0] B34) s H = regNext (evOpsGo P Γ call r34_13.1 r34_13.1 s H) := at_region (by kernel_rfl) r34_13.2 s H
attribute [simp] r34_13
@[simp] theorem n34_14 (s : List V) (H : Heap) : evCode P Γ call n f m (cAt [1, 1, 0, 1] B34) s H = blockNext 0 (evCode P Γ call n f m (cAt [1, 1, 0, 1, 0] B34) s H) := at_block (by kernel_rfl) rfl s H
@[simp] theorem n34_15 (s : List V) (H : Heap) : evCode P Γ call n f m (cAt [1, 1, 0, 1, 0] B34) s H = evLoopC P Γ call n f m (cAt [1, 1, 0, 1, 0, 0] B34) n s H := at_loop (by kernel_rfl) rfl s H
noncomputable abbrev L34_4 : Code := cAt [1, 1, 0, 1, 0, 0] B34
@[simp] theorem n34_15f : firstRegion (cAt [1, 1, 0, 1, 0, 0] B34) = 4 := by kernel_rfl
@[simp] theorem n34_16 (s : List V) (H : Heap) : evCode P Γ call n f m (cAt [1, 1, 0, 1, 0, 0] B34) s H = seqNext P Γ call n f m (cAt [1, 1, 0, 1, 0, 0, 1] B34) (evCode P Γ call n f m (cAt [1, 1, 0, 1, 0, 0, 0] B34) s H) := at_seq (by kernel_rfl) rfl rfl s H
@[simp] theorem n34_17 (s : List V) (H : Heap) : evCode P Γ call n f m (cAt [1, 1, 0, 1, 0, 0, 0] B34) s H = seqNext P Γ call n f m (cAt [1, 1, 0, 1, 0, 0, 0, 1] B34) (evCode P Γ call n f m (cAt [1, 1, 0, 1, 0, 0, 0, 0] B34) s H) := at_seq (by kernel_rfl) rfl rfl s H
noncomputable def r34_18 : {l : List Oper // opsOf (cAt [1, 1, 0, 1, 0, 0, 0, 0] B34) = l} := by
  apply Subtype.mk
  dsimp only [opsOf, cAt, kids, B34, bodyOf, Try.f34, List.getD, List.getElem?_cons_zero, List.getElem?_cons_succ, Option.getD_some]
@[simp] theorem n34_18 (s : List V) (H : Heap) : evCode P Γ call n f m (cAt [1, 1, 0, 1, 0, 0, 0, 0] B34) s H = regNext (evOpsGo P Γ call r34_18.1 r34_18.1 s H) := at_region (by kernel_rfl) r34_18.2 s H
attribute [simp] r34_18
@[simp] theorem n34_19 (s : List V) (H : Heap) : evCode P Γ call n f m (cAt [1, 1, 0, 1, 0, 0, 0, 1] B34) s H = condW P Γ call n f m (cAt [1, 1, 0, 1, 0, 0, 0, 1, 0] B34) (cAt [1, 1, 0, 1, 0, 0, 0, 1, 1] B34) s H (evOperand Γ s (.tmp 13)) := at_cond (by kernel_rfl) (by kernel_rfl) rfl rfl s H
@[simp] theorem n34_20 (s : List V) (H : Heap) : evCode P Γ call n f m (cAt [1, 1, 0, 1, 0, 0, 0, 1, 0] B34) s H = some (.normal, s, H) := at_skip (by kernel_rfl) s H
@[simp] theorem n34_21 (s : List V) (H : Heap) : evCode P Γ call n f m (cAt [1, 1, 0, 1, 0, 0, 0, 1, 1] B34) s H = some (.exit 0, s, H) := at_exit (by kernel_rfl) s H
@[simp] theorem n34_22 (s : List V) (H : Heap) : evCode P Γ call n f m (cAt [1, 1, 0, 1, 0, 0, 1] B34) s H = seqNext P Γ call n f m (cAt [1, 1, 0, 1, 0, 0, 1, 1] B34) (evCode P Γ call n f m (cAt [1, 1, 0, 1, 0, 0, 1, 0] B34) s H) := at_seq (by kernel_rfl) rfl rfl s H
@[simp] theorem n34_23 (s : List V) (H : Heap) : evCode P Γ call n f m (cAt [1, 1, 0, 1, 0, 0, 1, 0] B34) s H = blockNext 1 (evCode P Γ call n f m (cAt [1, 1, 0, 1, 0, 0, 1, 0, 0] B34) s H) := at_block (by kernel_rfl) rfl s H
@[simp] theorem n34_24 (s : List V) (H : Heap) : evCode P Γ call n f m (cAt [1, 1, 0, 1, 0, 0, 1, 0, 0] B34) s H = seqNext P Γ call n f m (cAt [1, 1, 0, 1, 0, 0, 1, 0, 0, 1] B34) (evCode P Γ call n f m (cAt [1, 1, 0, 1, 0, 0, 1, 0, 0, 0] B34) s H) := at_seq (by kernel_rfl) rfl rfl s H
noncomputable def r34_25 : {l : List Oper // opsOf (cAt [1, 1, 0, 1, 0, 0, 1, 0, 0, 0] B34) = l} := by
  apply Subtype.mk
  dsimp only [opsOf, cAt, kids, B34, bodyOf, Try.f34, List.getD, List.getElem?_cons_zero, List.getElem?_cons_succ, Option.getD_some]
@[simp] theorem n34_25 (s : List V) (H : Heap) : evCode P Γ call n f m (cAt [1, 1, 0, 1, 0, 0, 1, 0, 0, 0] B34) s H = regNext (drawR P Γ call r34_25.1 [([1, 4, 5, 6, 7, 8], [17, 20, 21, 22, 23, 24]), ([0, 4, 5, 6, 7, 8], [16, 20, 21, 22, 23, 24]), ([4, 5, 6, 7, 8], [20, 21, 22, 23, 24]), ([4, 5, 6, 7, 8], [20, 21, 22, 23, 24]), ([0, 1, 2, 3, 5, 6], [16, 17, 18, 19, 21, 22]), ([0, 1, 2, 3, 4], [16, 17, 18, 19, 20]), ([0, 1, 2, 3, 4], [16, 17, 18, 19, 20]), ([0, 1, 2, 3], [16, 17, 18, 19]), ([0, 1, 2, 3], [16, 17, 18, 19]), ([], [])] s H) := at_drawT (by kernel_rfl) r34_25.2 (by kernel_rfl) s H
attribute [simp] r34_25
@[simp] theorem n34_26 (s : List V) (H : Heap) : evCode P Γ call n f m (cAt [1, 1, 0, 1, 0, 0, 1, 0, 0, 1] B34) s H = condW P Γ call n f m (cAt [1, 1, 0, 1, 0, 0, 1, 0, 0, 1, 0] B34) (cAt [1, 1, 0, 1, 0, 0, 1, 0, 0, 1, 1] B34) s H (evOperand Γ s (.tmp 25)) := at_cond (by kernel_rfl) (by kernel_rfl) rfl rfl s H
@[simp] theorem n34_27 (s : List V) (H : Heap) : evCode P Γ call n f m (cAt [1, 1, 0, 1, 0, 0, 1, 0, 0, 1, 0] B34) s H = seqNext P Γ call n f m (cAt [1, 1, 0, 1, 0, 0, 1, 0, 0, 1, 0, 1] B34) (evCode P Γ call n f m (cAt [1, 1, 0, 1, 0, 0, 1, 0, 0, 1, 0, 0] B34) s H) := at_seq (by kernel_rfl) rfl rfl s H
noncomputable def r34_28 : {l : List Oper // opsOf (cAt [1, 1, 0, 1, 0, 0, 1, 0, 0, 1, 0, 0] B34) = l} := by
  apply Subtype.mk
  dsimp only [opsOf, cAt, kids, B34, bodyOf, Try.f34, List.getD, List.getElem?_cons_zero, List.getElem?_cons_succ, Option.getD_some]
@[simp] theorem n34_28 (s : List V) (H : Heap) : evCode P Γ call n f m (cAt [1, 1, 0, 1, 0, 0, 1, 0, 0, 1, 0, 0] B34) s H = regNext (evOpsGo P Γ call r34_28.1 r34_28.1 s H) := at_region (by kernel_rfl) r34_28.2 s H
attribute [simp] r34_28
@[simp] theorem n34_29 (s : List V) (H : Heap) : evCode P Γ call n f m (cAt [1, 1, 0, 1, 0, 0, 1, 0, 0, 1, 0, 1] B34) s H = seqNext P Γ call n f m (cAt [1, 1, 0, 1, 0, 0, 1, 0, 0, 1, 0, 1, 1] B34) (evCode P Γ call n f m (cAt [1, 1, 0, 1, 0, 0, 1, 0, 0, 1, 0, 1, 0] B34) s H) := at_seq (by kernel_rfl) rfl rfl s H
@[simp] theorem n34_30 (s : List V) (H : Heap) : evCode P Γ call n f m (cAt [1, 1, 0, 1, 0, 0, 1, 0, 0, 1, 0, 1, 0] B34) s H = seqNext P Γ call n f m (cAt [1, 1, 0, 1, 0, 0, 1, 0, 0, 1, 0, 1, 0, 1] B34) (evCode P Γ call n f m (cAt [1, 1, 0, 1, 0, 0, 1, 0, 0, 1, 0, 1, 0, 0] B34) s H) := at_seq (by kernel_rfl) rfl rfl s H
noncomputable def r34_31 : {l : List Oper // opsOf (cAt [1, 1, 0, 1, 0, 0, 1, 0, 0, 1, 0, 1, 0, 0] B34) = l} := by
  apply Subtype.mk
  dsimp only [opsOf, cAt, kids, B34, bodyOf, Try.f34, List.getD, List.getElem?_cons_zero, List.getElem?_cons_succ, Option.getD_some]
@[simp] theorem n34_31 (s : List V) (H : Heap) : evCode P Γ call n f m (cAt [1, 1, 0, 1, 0, 0, 1, 0, 0, 1, 0, 1, 0, 0] B34) s H = regNext (evOpsGo P Γ call r34_31.1 r34_31.1 s H) := at_region (by kernel_rfl) r34_31.2 s H
attribute [simp] r34_31
@[simp] theorem n34_32 (s : List V) (H : Heap) : evCode P Γ call n f m (cAt [1, 1, 0, 1, 0, 0, 1, 0, 0, 1, 0, 1, 0, 1] B34) s H = blockNext 2 (evCode P Γ call n f m (cAt [1, 1, 0, 1, 0, 0, 1, 0, 0, 1, 0, 1, 0, 1, 0] B34) s H) := at_block (by kernel_rfl) rfl s H
@[simp] theorem n34_33 (s : List V) (H : Heap) : evCode P Γ call n f m (cAt [1, 1, 0, 1, 0, 0, 1, 0, 0, 1, 0, 1, 0, 1, 0] B34) s H = evLoopC P Γ call n f m (cAt [1, 1, 0, 1, 0, 0, 1, 0, 0, 1, 0, 1, 0, 1, 0, 0] B34) n s H := at_loop (by kernel_rfl) rfl s H
noncomputable abbrev L34_9 : Code := cAt [1, 1, 0, 1, 0, 0, 1, 0, 0, 1, 0, 1, 0, 1, 0, 0] B34
@[simp] theorem n34_33f : firstRegion (cAt [1, 1, 0, 1, 0, 0, 1, 0, 0, 1, 0, 1, 0, 1, 0, 0] B34) = 9 := by kernel_rfl
@[simp] theorem n34_34 (s : List V) (H : Heap) : evCode P Γ call n f m (cAt [1, 1, 0, 1, 0, 0, 1, 0, 0, 1, 0, 1, 0, 1, 0, 0] B34) s H = seqNext P Γ call n f m (cAt [1, 1, 0, 1, 0, 0, 1, 0, 0, 1, 0, 1, 0, 1, 0, 0, 1] B34) (evCode P Γ call n f m (cAt [1, 1, 0, 1, 0, 0, 1, 0, 0, 1, 0, 1, 0, 1, 0, 0, 0] B34) s H) := at_seq (by kernel_rfl) rfl rfl s H
@[simp] theorem n34_35 (s : List V) (H : Heap) : evCode P Γ call n f m (cAt [1, 1, 0, 1, 0, 0, 1, 0, 0, 1, 0, 1, 0, 1, 0, 0, 0] B34) s H = seqNext P Γ call n f m (cAt [1, 1, 0, 1, 0, 0, 1, 0, 0, 1, 0, 1, 0, 1, 0, 0, 0, 1] B34) (evCode P Γ call n f m (cAt [1, 1, 0, 1, 0, 0, 1, 0, 0, 1, 0, 1, 0, 1, 0, 0, 0, 0] B34) s H) := at_seq (by kernel_rfl) rfl rfl s H
noncomputable def r34_36 : {l : List Oper // opsOf (cAt [1, 1, 0, 1, 0, 0, 1, 0, 0, 1, 0, 1, 0, 1, 0, 0, 0, 0] B34) = l} := by
  apply Subtype.mk
  dsimp only [opsOf, cAt, kids, B34, bodyOf, Try.f34, List.getD, List.getElem?_cons_zero, List.getElem?_cons_succ, Option.getD_some]
@[simp] theorem n34_36 (s : List V) (H : Heap) : evCode P Γ call n f m (cAt [1, 1, 0, 1, 0, 0, 1, 0, 0, 1, 0, 1, 0, 1, 0, 0, 0, 0] B34) s H = regNext (evOpsGo P Γ call r34_36.1 r34_36.1 s H) := at_region (by kernel_rfl) r34_36.2 s H
attribute [simp] r34_36
@[simp] theorem n34_37 (s : List V) (H : Heap) : evCode P Γ call n f m (cAt [1, 1, 0, 1, 0, 0, 1, 0, 0, 1, 0, 1, 0, 1, 0, 0, 0, 1] B34) s H = condW P Γ call n f m (cAt [1, 1, 0, 1, 0, 0, 1, 0, 0, 1, 0, 1, 0, 1, 0, 0, 0, 1, 0] B34) (cAt [1, 1, 0, 1, 0, 0, 1, 0, 0, 1, 0, 1, 0, 1, 0, 0, 0, 1, 1] B34) s H (evOperand Γ s (.tmp 32)) := at_cond (by kernel_rfl) (by kernel_rfl) rfl rfl s H
@[simp] theorem n34_38 (s : List V) (H : Heap) : evCode P Γ call n f m (cAt [1, 1, 0, 1, 0, 0, 1, 0, 0, 1, 0, 1, 0, 1, 0, 0, 0, 1, 0] B34) s H = some (.normal, s, H) := at_skip (by kernel_rfl) s H
@[simp] theorem n34_39 (s : List V) (H : Heap) : evCode P Γ call n f m (cAt [1, 1, 0, 1, 0, 0, 1, 0, 0, 1, 0, 1, 0, 1, 0, 0, 0, 1, 1] B34) s H = some (.exit 2, s, H) := at_exit (by kernel_rfl) s H
@[simp] theorem n34_40 (s : List V) (H : Heap) : evCode P Γ call n f m (cAt [1, 1, 0, 1, 0, 0, 1, 0, 0, 1, 0, 1, 0, 1, 0, 0, 1] B34) s H = seqNext P Γ call n f m (cAt [1, 1, 0, 1, 0, 0, 1, 0, 0, 1, 0, 1, 0, 1, 0, 0, 1, 1] B34) (evCode P Γ call n f m (cAt [1, 1, 0, 1, 0, 0, 1, 0, 0, 1, 0, 1, 0, 1, 0, 0, 1, 0] B34) s H) := at_seq (by kernel_rfl) rfl rfl s H
@[simp] theorem n34_41 (s : List V) (H : Heap) : evCode P Γ call n f m (cAt [1, 1, 0, 1, 0, 0, 1, 0, 0, 1, 0, 1, 0, 1, 0, 0, 1, 0] B34) s H = blockNext 3 (evCode P Γ call n f m (cAt [1, 1, 0, 1, 0, 0, 1, 0, 0, 1, 0, 1, 0, 1, 0, 0, 1, 0, 0] B34) s H) := at_block (by kernel_rfl) rfl s H
@[simp] theorem n34_42 (s : List V) (H : Heap) : evCode P Γ call n f m (cAt [1, 1, 0, 1, 0, 0, 1, 0, 0, 1, 0, 1, 0, 1, 0, 0, 1, 0, 0] B34) s H = seqNext P Γ call n f m (cAt [1, 1, 0, 1, 0, 0, 1, 0, 0, 1, 0, 1, 0, 1, 0, 0, 1, 0, 0, 1] B34) (evCode P Γ call n f m (cAt [1, 1, 0, 1, 0, 0, 1, 0, 0, 1, 0, 1, 0, 1, 0, 0, 1, 0, 0, 0] B34) s H) := at_seq (by kernel_rfl) rfl rfl s H
noncomputable def r34_43 : {l : List Oper // opsOf (cAt [1, 1, 0, 1, 0, 0, 1, 0, 0, 1, 0, 1, 0, 1, 0, 0, 1, 0, 0, 0] B34) = l} := by
  apply Subtype.mk
  dsimp only [opsOf, cAt, kids, B34, bodyOf, Try.f34, List.getD, List.getElem?_cons_zero, List.getElem?_cons_succ, Option.getD_some]
@[simp] theorem n34_43 (s : List V) (H : Heap) : evCode P Γ call n f m (cAt [1, 1, 0, 1, 0, 0, 1, 0, 0, 1, 0, 1, 0, 1, 0, 0, 1, 0, 0, 0] B34) s H = regNext (drawR P Γ call r34_43.1 [([1, 4, 5, 6, 7, 8], [36, 39, 40, 41, 42, 43]), ([0, 4, 5, 6, 7, 8], [35, 39, 40, 41, 42, 43]), ([4, 5, 6, 7, 8], [39, 40, 41, 42, 43]), ([4, 5, 6, 7, 8], [39, 40, 41, 42, 43]), ([0, 1, 2, 3, 5, 6], [35, 36, 37, 38, 40, 41]), ([0, 1, 2, 3, 4], [35, 36, 37, 38, 39]), ([0, 1, 2, 3, 4], [35, 36, 37, 38, 39]), ([0, 1, 2, 3], [35, 36, 37, 38]), ([0, 1, 2, 3], [35, 36, 37, 38]), ([], [])] s H) := at_drawT (by kernel_rfl) r34_43.2 (by kernel_rfl) s H
attribute [simp] r34_43
@[simp] theorem n34_44 (s : List V) (H : Heap) : evCode P Γ call n f m (cAt [1, 1, 0, 1, 0, 0, 1, 0, 0, 1, 0, 1, 0, 1, 0, 0, 1, 0, 0, 1] B34) s H = condW P Γ call n f m (cAt [1, 1, 0, 1, 0, 0, 1, 0, 0, 1, 0, 1, 0, 1, 0, 0, 1, 0, 0, 1, 0] B34) (cAt [1, 1, 0, 1, 0, 0, 1, 0, 0, 1, 0, 1, 0, 1, 0, 0, 1, 0, 0, 1, 1] B34) s H (evOperand Γ s (.tmp 44)) := at_cond (by kernel_rfl) (by kernel_rfl) rfl rfl s H
@[simp] theorem n34_45 (s : List V) (H : Heap) : evCode P Γ call n f m (cAt [1, 1, 0, 1, 0, 0, 1, 0, 0, 1, 0, 1, 0, 1, 0, 0, 1, 0, 0, 1, 0] B34) s H = seqNext P Γ call n f m (cAt [1, 1, 0, 1, 0, 0, 1, 0, 0, 1, 0, 1, 0, 1, 0, 0, 1, 0, 0, 1, 0, 1] B34) (evCode P Γ call n f m (cAt [1, 1, 0, 1, 0, 0, 1, 0, 0, 1, 0, 1, 0, 1, 0, 0, 1, 0, 0, 1, 0, 0] B34) s H) := at_seq (by kernel_rfl) rfl rfl s H
noncomputable def r34_46 : {l : List Oper // opsOf (cAt [1, 1, 0, 1, 0, 0, 1, 0, 0, 1, 0, 1, 0, 1, 0, 0, 1, 0, 0, 1, 0, 0] B34) = l} := by
  apply Subtype.mk
  dsimp only [opsOf, cAt, kids, B34, bodyOf, Try.f34, List.getD, List.getElem?_cons_zero, List.getElem?_cons_succ, Option.getD_some]
@[simp] theorem n34_46 (s : List V) (H : Heap) : evCode P Γ call n f m (cAt [1, 1, 0, 1, 0, 0, 1, 0, 0, 1, 0, 1, 0, 1, 0, 0, 1, 0, 0, 1, 0, 0] B34) s H = regNext (evOpsGo P Γ call r34_46.1 r34_46.1 s H) := at_region (by kernel_rfl) r34_46.2 s H
attribute [simp] r34_46
noncomputable def r34_47 : {l : List Oper // opsOf (cAt [1, 1, 0, 1, 0, 0, 1, 0, 0, 1, 0, 1, 0, 1, 0, 0, 1, 0, 0, 1, 0, 1] B34) = l} := by
  apply Subtype.mk
  dsimp only [opsOf, cAt, kids, B34, bodyOf, Try.f34, List.getD, List.getElem?_cons_zero, List.getElem?_cons_succ, Option.getD_some]
@[simp] theorem n34_47 (s : List V) (H : Heap) : evCode P Γ call n f m (cAt [1, 1, 0, 1, 0, 0, 1, 0, 0, 1, 0, 1, 0, 1, 0, 0, 1, 0, 0, 1, 0, 1] B34) s H = regNext (evOpsGo P Γ call r34_47.1 r34_47.1 s H) := at_region (by kernel_rfl) r34_47.2 s H
attribute [simp] r34_47
@[simp] theorem n34_48 (s : List V) (H : Heap) : evCode P Γ call n f m (cAt [1, 1, 0, 1, 0, 0, 1, 0, 0, 1, 0, 1, 0, 1, 0, 0, 1, 0, 0, 1, 1] B34) s H = some (.normal, s, H) := at_skip (by kernel_rfl) s H
noncomputable def r34_49 : {l : List Oper // opsOf (cAt [1, 1, 0, 1, 0, 0, 1, 0, 0, 1, 0, 1, 0, 1, 0, 0, 1, 1] B34) = l} := by
  apply Subtype.mk
  dsimp only [opsOf, cAt, kids, B34, bodyOf, Try.f34, List.getD, List.getElem?_cons_zero, List.getElem?_cons_succ, Option.getD_some]
@[simp] theorem n34_49 (s : List V) (H : Heap) : evCode P Γ call n f m (cAt [1, 1, 0, 1, 0, 0, 1, 0, 0, 1, 0, 1, 0, 1, 0, 0, 1, 1] B34) s H = regNext (evOpsGo P Γ call r34_49.1 r34_49.1 s H) := at_region (by kernel_rfl) r34_49.2 s H
attribute [simp] r34_49
@[simp] theorem n34_50 (s : List V) (H : Heap) : evCode P Γ call n f m (cAt [1, 1, 0, 1, 0, 0, 1, 0, 0, 1, 0, 1, 1] B34) s H = seqNext P Γ call n f m (cAt [1, 1, 0, 1, 0, 0, 1, 0, 0, 1, 0, 1, 1, 1] B34) (evCode P Γ call n f m (cAt [1, 1, 0, 1, 0, 0, 1, 0, 0, 1, 0, 1, 1, 0] B34) s H) := at_seq (by kernel_rfl) rfl rfl s H
noncomputable def r34_51 : {l : List Oper // opsOf (cAt [1, 1, 0, 1, 0, 0, 1, 0, 0, 1, 0, 1, 1, 0] B34) = l} := by
  apply Subtype.mk
  dsimp only [opsOf, cAt, kids, B34, bodyOf, Try.f34, List.getD, List.getElem?_cons_zero, List.getElem?_cons_succ, Option.getD_some]
@[simp] theorem n34_51 (s : List V) (H : Heap) : evCode P Γ call n f m (cAt [1, 1, 0, 1, 0, 0, 1, 0, 0, 1, 0, 1, 1, 0] B34) s H = regNext (evOpsGo P Γ call r34_51.1 r34_51.1 s H) := at_region (by kernel_rfl) r34_51.2 s H
attribute [simp] r34_51
@[simp] theorem n34_52 (s : List V) (H : Heap) : evCode P Γ call n f m (cAt [1, 1, 0, 1, 0, 0, 1, 0, 0, 1, 0, 1, 1, 1] B34) s H = seqNext P Γ call n f m (cAt [1, 1, 0, 1, 0, 0, 1, 0, 0, 1, 0, 1, 1, 1, 1] B34) (evCode P Γ call n f m (cAt [1, 1, 0, 1, 0, 0, 1, 0, 0, 1, 0, 1, 1, 1, 0] B34) s H) := at_seq (by kernel_rfl) rfl rfl s H
noncomputable def r34_53 : {l : List Oper // opsOf (cAt [1, 1, 0, 1, 0, 0, 1, 0, 0, 1, 0, 1, 1, 1, 0] B34) = l} := by
  apply Subtype.mk
  dsimp only [opsOf, cAt, kids, B34, bodyOf, Try.f34, List.getD, List.getElem?_cons_zero, List.getElem?_cons_succ, Option.getD_some]
@[simp] theorem n34_53 (s : List V) (H : Heap) : evCode P Γ call n f m (cAt [1, 1, 0, 1, 0, 0, 1, 0, 0, 1, 0, 1, 1, 1, 0] B34) s H = regNext (evOpsGo P Γ call r34_53.1 r34_53.1 s H) := at_region (by kernel_rfl) r34_53.2 s H
attribute [simp] r34_53
@[simp] theorem n34_54 (s : List V) (H : Heap) : evCode P Γ call n f m (cAt [1, 1, 0, 1, 0, 0, 1, 0, 0, 1, 0, 1, 1, 1, 1] B34) s H = some (.ret, s, H) := at_ret (by kernel_rfl) s H
@[simp] theorem n34_55 (s : List V) (H : Heap) : evCode P Γ call n f m (cAt [1, 1, 0, 1, 0, 0, 1, 0, 0, 1, 1] B34) s H = some (.normal, s, H) := at_skip (by kernel_rfl) s H
noncomputable def r34_56 : {l : List Oper // opsOf (cAt [1, 1, 0, 1, 0, 0, 1, 1] B34) = l} := by
  apply Subtype.mk
  dsimp only [opsOf, cAt, kids, B34, bodyOf, Try.f34, List.getD, List.getElem?_cons_zero, List.getElem?_cons_succ, Option.getD_some]
@[simp] theorem n34_56 (s : List V) (H : Heap) : evCode P Γ call n f m (cAt [1, 1, 0, 1, 0, 0, 1, 1] B34) s H = regNext (evOpsGo P Γ call r34_56.1 r34_56.1 s H) := at_region (by kernel_rfl) r34_56.2 s H
attribute [simp] r34_56
@[simp] theorem n34_57 (s : List V) (H : Heap) : evCode P Γ call n f m (cAt [1, 1, 1] B34) s H = seqNext P Γ call n f m (cAt [1, 1, 1, 1] B34) (evCode P Γ call n f m (cAt [1, 1, 1, 0] B34) s H) := at_seq (by kernel_rfl) rfl rfl s H
noncomputable def r34_58 : {l : List Oper // opsOf (cAt [1, 1, 1, 0] B34) = l} := by
  apply Subtype.mk
  dsimp only [opsOf, cAt, kids, B34, bodyOf, Try.f34, List.getD, List.getElem?_cons_zero, List.getElem?_cons_succ, Option.getD_some]
@[simp] theorem n34_58 (s : List V) (H : Heap) : evCode P Γ call n f m (cAt [1, 1, 1, 0] B34) s H = regNext (evOpsGo P Γ call r34_58.1 r34_58.1 s H) := at_region (by kernel_rfl) r34_58.2 s H
attribute [simp] r34_58
@[simp] theorem n34_59 (s : List V) (H : Heap) : evCode P Γ call n f m (cAt [1, 1, 1, 1] B34) s H = some (.ret, s, H) := at_ret (by kernel_rfl) s H
theorem b34 {k : Nat} (ho : ∀ args H, Γ.orc 34 args H = none) (args : List V) (H : Heap) (ha : args.length ≤ 61) : evF Try.prog Γ (k + 1) 34 args H = bodyEnd Try.prog [.tmp 2] H.length (evCode Try.prog Γ (evF Try.prog Γ k) k 34 H.length (cAt [] B34) (mkL 61 V.undef (enumV 0 args)) H) := body_at Try.func34 (by decide) rfl ho rfl rfl args H ha
noncomputable def B35 : Code := bodyOf Try.f35
@[simp] theorem n35_1 (s : List V) (H : Heap) : evCode P Γ call n f m (cAt [] B35) s H = seqNext P Γ call n f m (cAt [1] B35) (evCode P Γ call n f m (cAt [0] B35) s H) := at_seq (by kernel_rfl) rfl rfl s H
noncomputable def r35_2 : {l : List Oper // opsOf (cAt [0] B35) = l} := by
  apply Subtype.mk
  dsimp only [opsOf, cAt, kids, B35, bodyOf, Try.f35, List.getD, List.getElem?_cons_zero, List.getElem?_cons_succ, Option.getD_some]
@[simp] theorem n35_2 (s : List V) (H : Heap) : evCode P Γ call n f m (cAt [0] B35) s H = regNext (evOpsGo P Γ call r35_2.1 r35_2.1 s H) := at_region (by kernel_rfl) r35_2.2 s H
attribute [simp] r35_2
@[simp] theorem n35_3 (s : List V) (H : Heap) : evCode P Γ call n f m (cAt [1] B35) s H = seqNext P Γ call n f m (cAt [1, 1] B35) (evCode P Γ call n f m (cAt [1, 0] B35) s H) := at_seq (by kernel_rfl) rfl rfl s H
@[simp] theorem n35_4 (s : List V) (H : Heap) : evCode P Γ call n f m (cAt [1, 0] B35) s H = seqNext P Γ call n f m (cAt [1, 0, 1] B35) (evCode P Γ call n f m (cAt [1, 0, 0] B35) s H) := at_seq (by kernel_rfl) rfl rfl s H
noncomputable def r35_5 : {l : List Oper // opsOf (cAt [1, 0, 0] B35) = l} := by
  apply Subtype.mk
  dsimp only [opsOf, cAt, kids, B35, bodyOf, Try.f35, List.getD, List.getElem?_cons_zero, List.getElem?_cons_succ, Option.getD_some]
@[simp] theorem n35_5 (s : List V) (H : Heap) : evCode P Γ call n f m (cAt [1, 0, 0] B35) s H = regNext (evOpsGo P Γ call r35_5.1 r35_5.1 s H) := at_region (by kernel_rfl) r35_5.2 s H
attribute [simp] r35_5
@[simp] theorem n35_6 (s : List V) (H : Heap) : evCode P Γ call n f m (cAt [1, 0, 1] B35) s H = blockNext 0 (evCode P Γ call n f m (cAt [1, 0, 1, 0] B35) s H) := at_block (by kernel_rfl) rfl s H
@[simp] theorem n35_7 (s : List V) (H : Heap) : evCode P Γ call n f m (cAt [1, 0, 1, 0] B35) s H = evLoopC P Γ call n f m (cAt [1, 0, 1, 0, 0] B35) n s H := at_loop (by kernel_rfl) rfl s H
noncomputable abbrev L35_2 : Code := cAt [1, 0, 1, 0, 0] B35
@[simp] theorem n35_7f : firstRegion (cAt [1, 0, 1, 0, 0] B35) = 2 := by kernel_rfl
@[simp] theorem n35_8 (s : List V) (H : Heap) : evCode P Γ call n f m (cAt [1, 0, 1, 0, 0] B35) s H = seqNext P Γ call n f m (cAt [1, 0, 1, 0, 0, 1] B35) (evCode P Γ call n f m (cAt [1, 0, 1, 0, 0, 0] B35) s H) := at_seq (by kernel_rfl) rfl rfl s H
noncomputable def r35_9 : {l : List Oper // opsOf (cAt [1, 0, 1, 0, 0, 0] B35) = l} := by
  apply Subtype.mk
  dsimp only [opsOf, cAt, kids, B35, bodyOf, Try.f35, List.getD, List.getElem?_cons_zero, List.getElem?_cons_succ, Option.getD_some]
@[simp] theorem n35_9 (s : List V) (H : Heap) : evCode P Γ call n f m (cAt [1, 0, 1, 0, 0, 0] B35) s H = regNext (evOpsGo P Γ call r35_9.1 r35_9.1 s H) := at_region (by kernel_rfl) r35_9.2 s H
attribute [simp] r35_9
@[simp] theorem n35_10 (s : List V) (H : Heap) : evCode P Γ call n f m (cAt [1, 0, 1, 0, 0, 1] B35) s H = seqNext P Γ call n f m (cAt [1, 0, 1, 0, 0, 1, 1] B35) (evCode P Γ call n f m (cAt [1, 0, 1, 0, 0, 1, 0] B35) s H) := at_seq (by kernel_rfl) rfl rfl s H
@[simp] theorem n35_11 (s : List V) (H : Heap) : evCode P Γ call n f m (cAt [1, 0, 1, 0, 0, 1, 0] B35) s H = condW P Γ call n f m (cAt [1, 0, 1, 0, 0, 1, 0, 0] B35) (cAt [1, 0, 1, 0, 0, 1, 0, 1] B35) s H (evOperand Γ s (.tmp 9)) := at_cond (by kernel_rfl) (by kernel_rfl) rfl rfl s H
@[simp] theorem n35_12 (s : List V) (H : Heap) : evCode P Γ call n f m (cAt [1, 0, 1, 0, 0, 1, 0, 0] B35) s H = some (.normal, s, H) := at_skip (by kernel_rfl) s H
@[simp] theorem n35_13 (s : List V) (H : Heap) : evCode P Γ call n f m (cAt [1, 0, 1, 0, 0, 1, 0, 1] B35) s H = some (.exit 0, s, H) := at_exit (by kernel_rfl) s H
@[simp] theorem n35_14 (s : List V) (H : Heap) : evCode P Γ call n f m (cAt [1, 0, 1, 0, 0, 1, 1] B35) s H = seqNext P Γ call n f m (cAt [1, 0, 1, 0, 0, 1, 1, 1] B35) (evCode P Γ call n f m (cAt [1, 0, 1, 0, 0, 1, 1, 0] B35) s H) := at_seq (by kernel_rfl) rfl rfl s H
@[simp] theorem n35_15 (s : List V) (H : Heap) : evCode P Γ call n f m (cAt [1, 0, 1, 0, 0, 1, 1, 0] B35) s H = blockNext 1 (evCode P Γ call n f m (cAt [1, 0, 1, 0, 0, 1, 1, 0, 0] B35) s H) := at_block (by kernel_rfl) rfl s H
@[simp] theorem n35_16 (s : List V) (H : Heap) : evCode P Γ call n f m (cAt [1, 0, 1, 0, 0, 1, 1, 0, 0] B35) s H = seqNext P Γ call n f m (cAt [1, 0, 1, 0, 0, 1, 1, 0, 0, 1] B35) (evCode P Γ call n f m (cAt [1, 0, 1, 0, 0, 1, 1, 0, 0, 0] B35) s H) := at_seq (by kernel_rfl) rfl rfl s H
noncomputable def r35_17 : {l : List Oper // opsOf (cAt [1, 0, 1, 0, 0, 1, 1, 0, 0, 0] B35) = l} := by
  apply Subtype.mk
  dsimp only [opsOf, cAt, kids, B35, bodyOf, Try.f35, List.getD, List.getElem?_cons_zero, List.getElem?_cons_succ, Option.getD_some]
@[simp] theorem n35_17 (s : List V) (H : Heap) : evCode P Γ call n f m (cAt [1, 0, 1, 0, 0, 1, 1, 0, 0, 0] B35) s H = regNext (evOpsGo P Γ call r35_17.1 r35_17.1 s H) := at_region (by kernel_rfl) r35_17.2 s H
attribute [simp] r35_17
@[simp] theorem n35_18 (s : List V) (H : Heap) : evCode P Γ call n f m (cAt [1, 0, 1, 0, 0, 1, 1, 0, 0, 1] B35) s H = seqNext P Γ call n f m (cAt [1, 0, 1, 0, 0, 1, 1, 0, 0, 1, 1] B35) (evCode P Γ call n f m (cAt [1, 0, 1, 0, 0, 1, 1, 0, 0, 1, 0] B35) s H) := at_seq (by kernel_rfl) rfl rfl s H
noncomputable def r35_19 : {l : List Oper // opsOf (cAt [1, 0, 1, 0, 0, 1, 1, 0, 0, 1, 0] B35) = l} := by
  apply Subtype.mk
  dsimp only [opsOf, cAt, kids, B35, bodyOf, Try.f35, List.getD, List.getElem?_cons_zero, List.getElem?_cons_succ, Option.getD_some]
@[simp] theorem n35_19 (s : List V) (H : Heap) : evCode P Γ call n f m (cAt [1, 0, 1, 0, 0, 1, 1, 0, 0, 1, 0] B35) s H = regNext (evOpsGo P Γ call r35_19.1 r35_19.1 s H) := at_region (by kernel_rfl) r35_19.2 s H
attribute [simp] r35_19
@[simp] theorem n35_20 (s : List V) (H : Heap) : evCode P Γ call n f m (cAt [1, 0, 1, 0, 0, 1, 1, 0, 0, 1, 1] B35) s H = condW P Γ call n f m (cAt [1, 0, 1, 0, 0, 1, 1, 0, 0, 1, 1, 0] B35) (cAt [1, 0, 1, 0, 0, 1, 1, 0, 0, 1, 1, 1] B35) s H (evOperand Γ s (.tmp 16)) := at_cond (by kernel_rfl) (by kernel_rfl) rfl rfl s H
@[simp] theorem n35_21 (s : List V) (H : Heap) : evCode P Γ call n f m (cAt [1, 0, 1, 0, 0, 1, 1, 0, 0, 1, 1, 0] B35) s H = seqNext P Γ call n f m (cAt [1, 0, 1, 0, 0, 1, 1, 0, 0, 1, 1, 0, 1] B35) (evCode P Γ call n f m (cAt [1, 0, 1, 0, 0, 1, 1, 0, 0, 1, 1, 0, 0] B35) s H) := at_seq (by kernel_rfl) rfl rfl s H
noncomputable def r35_22 : {l : List Oper // opsOf (cAt [1, 0, 1, 0, 0, 1, 1, 0, 0, 1, 1, 0, 0] B35) = l} := by
  apply Subtype.mk
  dsimp only [opsOf, cAt, kids, B35, bodyOf, Try.f35, List.getD, List.getElem?_cons_zero, List.getElem?_cons_succ, Option.getD_some]
@[simp] theorem n35_22 (s : List V) (H : Heap) : evCode P Γ call n f m (cAt [1, 0, 1, 0, 0, 1, 1, 0, 0, 1, 1, 0, 0] B35) s H = regNext (evOpsGo P Γ call r35_22.1 r35_22.1 s H) := at_region (by kernel_rfl) r35_22.2 s H
attribute [simp] r35_22
@[simp] theorem n35_23 (s : List V) (H : Heap) : evCode P Γ call n f m (cAt [1, 0, 1, 0, 0, 1, 1, 0, 0, 1, 1, 0, 1] B35) s H = some (.ret, s, H) := at_ret (by kernel_rfl) s H
@[simp] theorem n35_24 (s : List V) (H : Heap) : evCode P Γ call n f m (cAt [1, 0, 1, 0, 0, 1, 1, 0, 0, 1, 1, 1] B35) s H = some (.normal, s, H) := at_skip (by kernel_rfl) s H
noncomputable def r35_25 : {l : List Oper // opsOf (cAt [1, 0, 1, 0, 0, 1, 1, 1] B35) = l} := by
  apply Subtype.mk
  dsimp only [opsOf, cAt, kids, B35, bodyOf, Try.f35, List.getD, List.getElem?_cons_zero, List.getElem?_cons_succ, Option.getD_some]
@[simp] theorem n35_25 (s : List V) (H : Heap) : evCode P Γ call n f m (cAt [1, 0, 1, 0, 0, 1, 1, 1] B35) s H = regNext (evOpsGo P Γ call r35_25.1 r35_25.1 s H) := at_region (by kernel_rfl) r35_25.2 s H
attribute [simp] r35_25
@[simp] theorem n35_26 (s : List V) (H : Heap) : evCode P Γ call n f m (cAt [1, 1] B35) s H = seqNext P Γ call n f m (cAt [1, 1, 1] B35) (evCode P Γ call n f m (cAt [1, 1, 0] B35) s H) := at_seq (by kernel_rfl) rfl rfl s H
noncomputable def r35_27 : {l : List Oper // opsOf (cAt [1, 1, 0] B35) = l} := by
  apply Subtype.mk
  dsimp only [opsOf, cAt, kids, B35, bodyOf, Try.f35, List.getD, List.getElem?_cons_zero, List.getElem?_cons_succ, Option.getD_some]
@[simp] theorem n35_27 (s : List V) (H : Heap) : evCode P Γ call n f m (cAt [1, 1, 0] B35) s H = regNext (evOpsGo P Γ call r35_27.1 r35_27.1 s H) := at_region (by kernel_rfl) r35_27.2 s H
attribute [simp] r35_27
@[simp] theorem n35_28 (s : List V) (H : Heap) : evCode P Γ call n f m (cAt [1, 1, 1] B35) s H = some (.ret, s, H) := at_ret (by kernel_rfl) s H
theorem b35 {k : Nat} (ho : ∀ args H, Γ.orc 35 args H = none) (args : List V) (H : Heap) (ha : args.length ≤ 19) : evF Try.prog Γ (k + 1) 35 args H = bodyEnd Try.prog [.tmp 4] H.length (evCode Try.prog Γ (evF Try.prog Γ k) k 35 H.length (cAt [] B35) (mkL 19 V.undef (enumV 0 args)) H) := body_at Try.func35 (by decide) rfl ho rfl rfl args H ha
noncomputable def B36 : Code := bodyOf Try.f36
@[simp] theorem n36_1 (s : List V) (H : Heap) : evCode P Γ call n f m (cAt [] B36) s H = seqNext P Γ call n f m (cAt [1] B36) (evCode P Γ call n f m (cAt [0] B36) s H) := at_seq (by kernel_rfl) rfl rfl s H
noncomputable def r36_2 : {l : List Oper // opsOf (cAt [0] B36) = l} := by
  apply Subtype.mk
  dsimp only [opsOf, cAt, kids, B36, bodyOf, Try.f36, List.getD, List.getElem?_cons_zero, List.getElem?_cons_succ, Option.getD_some]
@[simp] theorem n36_2 (s : List V) (H : Heap) : evCode P Γ call n f m (cAt [0] B36) s H = regNext (evOpsGo P Γ call r36_2.1 r36_2.1 s H) := at_region (by kernel_rfl) r36_2.2 s H
attribute [simp] r36_2
@[simp] theorem n36_3 (s : List V) (H : Heap) : evCode P Γ call n f m (cAt [1] B36) s H = seqNext P Γ call n f m (cAt [1, 1] B36) (evCode P Γ call n f m (cAt [1, 0] B36) s H) := at_seq (by kernel_rfl) rfl rfl s H
noncomputable def r36_4 : {l : List Oper // opsOf (cAt [1, 0] B36) = l} := by
  apply Subtype.mk
  dsimp only [opsOf, cAt, kids, B36, bodyOf, Try.f36, List.getD, List.getElem?_cons_zero, List.getElem?_cons_succ, Option.getD_some]
@[simp] theorem n36_4 (s : List V) (H : Heap) : evCode P Γ call n f m (cAt [1, 0] B36) s H = regNext (evOpsGo P Γ call r36_4.1 r36_4.1 s H) := at_region (by kernel_rfl) r36_4.2 s H
attribute [simp] r36_4
@[simp] theorem n36_5 (s : List V) (H : Heap) : evCode P Γ call n f m (cAt [1, 1] B36) s H = some (.ret, s, H) := at_ret (by kernel_rfl) s H
theorem b36 {k : Nat} (ho : ∀ args H, Γ.orc 36 args H = none) (args : List V) (H : Heap) (ha : args.length ≤ 8) : evF Try.prog Γ (k + 1) 36 args H = bodyEnd Try.prog [.tmp 3] H.length (evCode Try.prog Γ (evF Try.prog Γ k) k 36 H.length (cAt [] B36) (mkL 8 V.undef (enumV 0 args)) H) := body_at Try.func36 (by decide) rfl ho rfl rfl args H ha
noncomputable def B44 : Code := bodyOf Try.f44
@[simp] theorem n44_1 (s : List V) (H : Heap) : evCode P Γ call n f m (cAt [] B44) s H = seqNext P Γ call n f m (cAt [1] B44) (evCode P Γ call n f m (cAt [0] B44) s H) := at_seq (by kernel_rfl) rfl rfl s H
noncomputable def r44_2 : {l : List Oper // opsOf (cAt [0] B44) = l} := by
  apply Subtype.mk
  dsimp only [opsOf, cAt, kids, B44, bodyOf, Try.f44, List.getD, List.getElem?_cons_zero, List.getElem?_cons_succ, Option.getD_some]
@[simp] theorem n44_2 (s : List V) (H : Heap) : evCode P Γ call n f m (cAt [0] B44) s H = regNext (evOpsGo P Γ call r44_2.1 r44_2.1 s H) := at_region (by kernel_rfl) r44_2.2 s H
attribute [simp] r44_2
@[simp] theorem n44_3 (s : List V) (H : Heap) : evCode P Γ call n f m (cAt [1] B44) s H = seqNext P Γ call n f m (cAt [1, 1] B44) (evCode P Γ call n f m (cAt [1, 0] B44) s H) := at_seq (by kernel_rfl) rfl rfl s H
noncomputable def r44_4 : {l : List Oper // opsOf (cAt [1, 0] B44) = l} := by
  apply Subtype.mk
  dsimp only [opsOf, cAt, kids, B44, bodyOf, Try.f44, List.getD, List.getElem?_cons_zero, List.getElem?_cons_succ, Option.getD_some]
@[simp] theorem n44_4 (s : List V) (H : Heap) : evCode P Γ call n f m (cAt [1, 0] B44) s H = regNext (evOpsGo P Γ call r44_4.1 r44_4.1 s H) := at_region (by kernel_rfl) r44_4.2 s H
attribute [simp] r44_4
@[simp] theorem n44_5 (s : List V) (H : Heap) : evCode P Γ call n f m (cAt [1, 1] B44) s H = seqNext P Γ call n f m (cAt [1, 1, 1] B44) (evCode P Γ call n f m (cAt [1, 1, 0] B44) s H) := at_seq (by kernel_rfl) rfl rfl s H
@[simp] theorem n44_6 (s : List V) (H : Heap) : evCode P Γ call n f m (cAt [1, 1, 0] B44) s H = seqNext P Γ call n f m (cAt [1, 1, 0, 1] B44) (evCode P Γ call n f m (cAt [1, 1, 0, 0] B44) s H) := at_seq (by kernel_rfl) rfl rfl s H
noncomputable def r44_7 : {l : List Oper // opsOf (cAt [1, 1, 0, 0] B44) = l} := by
  apply Subtype.mk
  dsimp only [opsOf, cAt, kids, B44, bodyOf, Try.f44, List.getD, List.getElem?_cons_zero, List.getElem?_cons_succ, Option.getD_some]
@[simp] theorem n44_7 (s : List V) (H : Heap) : evCode P Γ call n f m (cAt [1, 1, 0, 0] B44) s H = regNext (evOpsGo P Γ call r44_7.1 r44_7.1 s H) := at_region (by kernel_rfl) r44_7.2 s H
attribute [simp] r44_7
@[simp] theorem n44_8 (s : List V) (H : Heap) : evCode P Γ call n f m (cAt [1, 1, 0, 1] B44) s H = blockNext 0 (evCode P Γ call n f m (cAt [1, 1, 0, 1, 0] B44) s H) := at_block (by kernel_rfl) rfl s H
@[simp] theorem n44_9 (s : List V) (H : Heap) : evCode P Γ call n f m (cAt [1, 1, 0, 1, 0] B44) s H = evLoopC P Γ call n f m (cAt [1, 1, 0, 1, 0, 0] B44) n s H := at_loop (by kernel_rfl) rfl s H
noncomputable abbrev L44_3 : Code := cAt [1, 1, 0, 1, 0, 0] B44
@[simp] theorem n44_9f : firstRegion (cAt [1, 1, 0, 1, 0, 0] B44) = 3 := by kernel_rfl
@[simp] theorem n44_10 (s : List V) (H : Heap) : evCode P Γ call n f m (cAt [1, 1, 0, 1, 0, 0] B44) s H = seqNext P Γ call n f m (cAt [1, 1, 0, 1, 0, 0, 1] B44) (evCode P Γ call n f m (cAt [1, 1, 0, 1, 0, 0, 0] B44) s H) := at_seq (by kernel_rfl) rfl rfl s H
noncomputable def r44_11 : {l : List Oper // opsOf (cAt [1, 1, 0, 1, 0, 0, 0] B44) = l} := by
  apply Subtype.mk
  dsimp only [opsOf, cAt, kids, B44, bodyOf, Try.f44, List.getD, List.getElem?_cons_zero, List.getElem?_cons_succ, Option.getD_some]
@[simp] theorem n44_11 (s : List V) (H : Heap) : evCode P Γ call n f m (cAt [1, 1, 0, 1, 0, 0, 0] B44) s H = regNext (evOpsGo P Γ call r44_11.1 r44_11.1 s H) := at_region (by kernel_rfl) r44_11.2 s H
attribute [simp] r44_11
@[simp] theorem n44_12 (s : List V) (H : Heap) : evCode P Γ call n f m (cAt [1, 1, 0, 1, 0, 0, 1] B44) s H = seqNext P Γ call n f m (cAt [1, 1, 0, 1, 0, 0, 1, 1] B44) (evCode P Γ call n f m (cAt [1, 1, 0, 1, 0, 0, 1, 0] B44) s H) := at_seq (by kernel_rfl) rfl rfl s H
@[simp] theorem n44_13 (s : List V) (H : Heap) : evCode P Γ call n f m (cAt [1, 1, 0, 1, 0, 0, 1, 0] B44) s H = condW P Γ call n f m (cAt [1, 1, 0, 1, 0, 0, 1, 0, 0] B44) (cAt [1, 1, 0, 1, 0, 0, 1, 0, 1] B44) s H (evOperand Γ s (.tmp 9)) := at_cond (by kernel_rfl) (by kernel_rfl) rfl rfl s H
@[simp] theorem n44_14 (s : List V) (H : Heap) : evCode P Γ call n f m (cAt [1, 1, 0, 1, 0, 0, 1, 0, 0] B44) s H = some (.normal, s, H) := at_skip (by kernel_rfl) s H
@[simp] theorem n44_15 (s : List V) (H : Heap) : evCode P Γ call n f m (cAt [1, 1, 0, 1, 0, 0, 1, 0, 1] B44) s H = some (.exit 0, s, H) := at_exit (by kernel_rfl) s H
@[simp] theorem n44_16 (s : List V) (H : Heap) : evCode P Γ call n f m (cAt [1, 1, 0, 1, 0, 0, 1, 1] B44) s H = seqNext P Γ call n f m (cAt [1, 1, 0, 1, 0, 0, 1, 1, 1] B44) (evCode P Γ call n f m (cAt [1, 1, 0, 1, 0, 0, 1, 1, 0] B44) s H) := at_seq (by kernel_rfl) rfl rfl s H
@[simp] theorem n44_17 (s : List V) (H : Heap) : evCode P Γ call n f m (cAt [1, 1, 0, 1, 0, 0, 1, 1, 0] B44) s H = blockNext 1 (evCode P Γ call n f m (cAt [1, 1, 0, 1, 0, 0, 1, 1, 0, 0] B44) s H) := at_block (by kernel_rfl) rfl s H
@[simp] theorem n44_18 (s : List V) (H : Heap) : evCode P Γ call n f m (cAt [1, 1, 0, 1, 0, 0, 1, 1, 0, 0] B44) s H = seqNext P Γ call n f m (cAt [1, 1, 0, 1, 0, 0, 1, 1, 0, 0, 1] B44) (evCode P Γ call n f m (cAt [1, 1, 0, 1, 0, 0, 1, 1, 0, 0, 0] B44) s H) := at_seq (by kernel_rfl) rfl rfl s H
noncomputable def r44_19 : {l : List Oper // opsOf (cAt [1, 1, 0, 1, 0, 0, 1, 1, 0, 0, 0] B44) = l} := by
  apply Subtype.mk
  dsimp only [opsOf, cAt, kids, B44, bodyOf, Try.f44, List.getD, List.getElem?_cons_zero, List.getElem?_cons_succ, Option.getD_some]
@[simp] theorem n44_19 (s : List V) (H : Heap) : evCode P Γ call n f m (cAt [1, 1, 0, 1, 0, 0, 1, 1, 0, 0, 0] B44) s H = regNext (evOpsGo P Γ call r44_19.1 r44_19.1 s H) := at_region (by kernel_rfl) r44_19.2 s H
attribute [simp] r44_19
@[simp] theorem n44_20 (s : List V) (H : Heap) : evCode P Γ call n f m (cAt [1, 1, 0, 1, 0, 0, 1, 1, 0, 0, 1] B44) s H = seqNext P Γ call n f m (cAt [1, 1, 0, 1, 0, 0, 1, 1, 0, 0, 1, 1] B44) (evCode P Γ call n f m (cAt [1, 1, 0, 1, 0, 0, 1, 1, 0, 0, 1, 0] B44) s H) := at_seq (by kernel_rfl) rfl rfl s H
noncomputable def r44_21 : {l : List Oper // opsOf (cAt [1, 1, 0, 1, 0, 0, 1, 1, 0, 0, 1, 0] B44) = l} := by
  apply Subtype.mk
  dsimp only [opsOf, cAt, kids, B44, bodyOf, Try.f44, List.getD, List.getElem?_cons_zero, List.getElem?_cons_succ, Option.getD_some]
@[simp] theorem n44_21 (s : List V) (H : Heap) : evCode P Γ call n f m (cAt [1, 1, 0, 1, 0, 0, 1, 1, 0, 0, 1, 0] B44) s H = regNext (evOpsGo P Γ call r44_21.1 r44_21.1 s H) := at_region (by kernel_rfl) r44_21.2 s H
attribute [simp] r44_21
@[simp] theorem n44_22 (s : List V) (H : Heap) : evCode P Γ call n f m (cAt [1, 1, 0, 1, 0, 0, 1, 1, 0, 0, 1, 1] B44) s H = condW P Γ call n f m (cAt [1, 1, 0, 1, 0, 0, 1, 1, 0, 0, 1, 1, 0] B44) (cAt [1, 1, 0, 1, 0, 0, 1, 1, 0, 0, 1, 1, 1] B44) s H (evOperand Γ s (.tmp 14)) := at_cond (by kernel_rfl) (by kernel_rfl) rfl rfl s H
@[simp] theorem n44_23 (s : List V) (H : Heap) : evCode P Γ call n f m (cAt [1, 1, 0, 1, 0, 0, 1, 1, 0, 0, 1, 1, 0] B44) s H = seqNext P Γ call n f m (cAt [1, 1, 0, 1, 0, 0, 1, 1, 0, 0, 1, 1, 0, 1] B44) (evCode P Γ call n f m (cAt [1, 1, 0, 1, 0, 0, 1, 1, 0, 0, 1, 1, 0, 0] B44) s H) := at_seq (by kernel_rfl) rfl rfl s H
noncomputable def r44_24 : {l : List Oper // opsOf (cAt [1, 1, 0, 1, 0, 0, 1, 1, 0, 0, 1, 1, 0, 0] B44) = l} := by
  apply Subtype.mk
  dsimp only [opsOf, cAt, kids, B44, bodyOf, Try.f44, List.getD, List.getElem?_cons_zero, List.getElem?_cons_succ, Option.getD_some]
@[simp] theorem n44_24 (s : List V) (H : Heap) : evCode P Γ call n f m (cAt [1, 1, 0, 1, 0, 0, 1, 1, 0, 0, 1, 1, 0, 0] B44) s H = regNext (evOpsGo P Γ call r44_24.1 r44_24.1 s H) := at_region (by kernel_rfl) r44_24.2 s H
attribute [simp] r44_24
@[simp] theorem n44_25 (s : List V) (H : Heap) : evCode P Γ call n f m (cAt [1, 1, 0, 1, 0, 0, 1, 1, 0, 0, 1, 1, 0, 1] B44) s H = some (.ret, s, H) := at_ret (by kernel_rfl) s H
@[simp] theorem n44_26 (s : List V) (H : Heap) : evCode P Γ call n f m (cAt [1, 1, 0, 1, 0, 0, 1, 1, 0, 0, 1, 1, 1] B44) s H = some (.normal, s, H) := at_skip (by kernel_rfl) s H
noncomputable def r44_27 : {l : List Oper // opsOf (cAt [1, 1, 0, 1, 0, 0, 1, 1, 1] B44) = l} := by
  apply Subtype.mk
  dsimp only [opsOf, cAt, kids, B44, bodyOf, Try.f44, List.getD, List.getElem?_cons_zero, List.getElem?_cons_succ, Option.getD_some]
@[simp] theorem n44_27 (s : List V) (H : Heap) : evCode P Γ call n f m (cAt [1, 1, 0, 1, 0, 0, 1, 1, 1] B44) s H = regNext (evOpsGo P Γ call r44_27.1 r44_27.1 s H) := at_region (by kernel_rfl) r44_27.2 s H
attribute [simp] r44_27
@[simp] theorem n44_28 (s : List V) (H : Heap) : evCode P Γ call n f m (cAt [1, 1, 1] B44) s H = seqNext P Γ call n f m (cAt [1, 1, 1, 1] B44) (evCode P Γ call n f m (cAt [1, 1, 1, 0] B44) s H) := at_seq (by kernel_rfl) rfl rfl s H
noncomputable def r44_29 : {l : List Oper // opsOf (cAt [1, 1, 1, 0] B44) = l} := by
  apply Subtype.mk
  dsimp only [opsOf, cAt, kids, B44, bodyOf, Try.f44, List.getD, List.getElem?_cons_zero, List.getElem?_cons_succ, Option.getD_some]
@[simp] theorem n44_29 (s : List V) (H : Heap) : evCode P Γ call n f m (cAt [1, 1, 1, 0] B44) s H = regNext (evOpsGo P Γ call r44_29.1 r44_29.1 s H) := at_region (by kernel_rfl) r44_29.2 s H
attribute [simp] r44_29
@[simp] theorem n44_30 (s : List V) (H : Heap) : evCode P Γ call n f m (cAt [1, 1, 1, 1] B44) s H = some (.ret, s, H) := at_ret (by kernel_rfl) s H
theorem b44 {k : Nat} (ho : ∀ args H, Γ.orc 44 args H = none) (args : List V) (H : Heap) (ha : args.length ≤ 18) : evF Try.prog Γ (k + 1) 44 args H = bodyEnd Try.prog [.tmp 2] H.length (evCode Try.prog Γ (evF Try.prog Γ k) k 44 H.length (cAt [] B44) (mkL 18 V.undef (enumV 0 args)) H) := body_at Try.func44 (by decide) rfl ho rfl rfl args H ha
noncomputable def B45 : Code := bodyOf Try.f45
@[simp] theorem n45_1 (s : List V) (H : Heap) : evCode P Γ call n f m (cAt [] B45) s H = seqNext P Γ call n f m (cAt [1] B45) (evCode P Γ call n f m (cAt [0] B45) s H) := at_seq (by kernel_rfl) rfl rfl s H
noncomputable def r45_2 : {l : List Oper // opsOf (cAt [0] B45) = l} := by
  apply Subtype.mk
  dsimp only [opsOf, cAt, kids, B45, bodyOf, Try.f45, List.getD, List.getElem?_cons_zero, List.getElem?_cons_succ, Option.getD_some]
@[simp] theorem n45_2 (s : List V) (H : Heap) : evCode P Γ call n f m (cAt [0] B45) s H = regNext (evOpsGo P Γ call r45_2.1 r45_2.1 s H) := at_region (by kernel_rfl) r45_2.2 s H
attribute [simp] r45_2
@[simp] theorem n45_3 (s : List V) (H : Heap) : evCode P Γ call n f m (cAt [1] B45) s H = seqNext P Γ call n f m (cAt [1, 1] B45) (evCode P Γ call n f m (cAt [1, 0] B45) s H) := at_seq (by kernel_rfl) rfl rfl s H
noncomputable def r45_4 : {l : List Oper // opsOf (cAt [1, 0] B45) = l} := by
  apply Subtype.mk
  dsimp only [opsOf, cAt, kids, B45, bodyOf, Try.f45, List.getD, List.getElem?_cons_zero, List.getElem?_cons_succ, Option.getD_some]
@[simp] theorem n45_4 (s : List V) (H : Heap) : evCode P Γ call n f m (cAt [1, 0] B45) s H = regNext (evOpsGo P Γ call r45_4.1 r45_4.1 s H) := at_region (by kernel_rfl) r45_4.2 s H
attribute [simp] r45_4
@[simp] theorem n45_5 (s : List V) (H : Heap) : evCode P Γ call n f m (cAt [1, 1] B45) s H = seqNext P Γ call n f m (cAt [1, 1, 1] B45) (evCode P Γ call n f m (cAt [1, 1, 0] B45) s H) := at_seq (by kernel_rfl) rfl rfl s H
noncomputable def r45_6 : {l : List Oper // opsOf (cAt [1, 1, 0] B45) = l} := by
  apply Subtype.mk
  dsimp only [opsOf, cAt, kids, B45, bodyOf, Try.f45, List.getD, List.getElem?_cons_zero, List.getElem?_cons_succ, Option.getD_some]
@[simp] theorem n45_6 (s : List V) (H : Heap) : evCode P Γ call n f m (cAt [1, 1, 0] B45) s H = regNext (evOpsGo P Γ call r45_6.1 r45_6.1 s H) := at_region (by kernel_rfl) r45_6.2 s H
attribute [simp] r45_6
@[simp] theorem n45_7 (s : List V) (H : Heap) : evCode P Γ call n f m (cAt [1, 1, 1] B45) s H = seqNext P Γ call n f m (cAt [1, 1, 1, 1] B45) (evCode P Γ call n f m (cAt [1, 1, 1, 0] B45) s H) := at_seq (by kernel_rfl) rfl rfl s H
@[simp] theorem n45_8 (s : List V) (H : Heap) : evCode P Γ call n f m (cAt [1, 1, 1, 0] B45) s H = seqNext P Γ call n f m (cAt [1, 1, 1, 0, 1] B45) (evCode P Γ call n f m (cAt [1, 1, 1, 0, 0] B45) s H) := at_seq (by kernel_rfl) rfl rfl s H
noncomputable def r45_9 : {l : List Oper // opsOf (cAt [1, 1, 1, 0, 0] B45) = l} := by
  apply Subtype.mk
  dsimp only [opsOf, cAt, kids, B45, bodyOf, Try.f45, List.getD, List.getElem?_cons_zero, List.getElem?_cons_succ, Option.getD_some]
@[simp] theorem n45_9 (s : List V) (H : Heap) : evCode P Γ call n f m (cAt [1, 1, 1, 0, 0] B45) s H = regNext (evOpsGo P Γ call r45_9.1 r45_9.1 s H) := at_region (by kernel_rfl) r45_9.2 s H
attribute [simp] r45_9
@[simp] theorem n45_10 (s : List V) (H : Heap) : evCode P Γ call n f m (cAt [1, 1, 1, 0, 1] B45) s H = condW P Γ call n f m (cAt [1, 1, 1, 0, 1, 0] B45) (cAt [1, 1, 1, 0, 1, 1] B45) s H (evOperand Γ s (.tmp 11)) := at_cond (by kernel_rfl) (by kernel_rfl) rfl rfl s H
@[simp] theorem n45_11 (s : List V) (H : Heap) : evCode P Γ call n f m (cAt [1, 1, 1, 0, 1, 0] B45) s H = seqNext P Γ call n f m (cAt [1, 1, 1, 0, 1, 0, 1] B45) (evCode P Γ call n f m (cAt [1, 1, 1, 0, 1, 0, 0] B45) s H) := at_seq (by kernel_rfl) rfl rfl s H
@[simp] theorem n45_12 (s : List V) (H : Heap) : evCode P Γ call n f m (cAt [1, 1, 1, 0, 1, 0, 0] B45) s H = seqNext P Γ call n f m (cAt [1, 1, 1, 0, 1, 0, 0, 1] B45) (evCode P Γ call n f m (cAt [1, 1, 1, 0, 1, 0, 0, 0] B45) s H) := at_seq (by kernel_rfl) rfl rfl s H
noncomputable def r45_13 : {l : List Oper // opsOf (cAt [1, 1, 1, 0, 1, 0, 0, 0] B45) = l} := by
  apply Subtype.mk
  dsimp only [opsOf, cAt, kids, B45, bodyOf, Try.f45, List.getD, List.getElem?_cons_zero, List.getElem?_cons_succ, Option.getD_some]
@[simp] theorem n45_13 (s : List V) (H : Heap) : evCode P Γ call n f m (cAt [1, 1, 1, 0, 1, 0, 0, 0] B45) s H = regNext (evOpsGo P Γ call r45_13.1 r45_13.1 s H) := at_region (by kernel_rfl) r45_13.2 s H
attribute [simp] r45_13
@[simp] theorem n45_14 (s : List V) (H : Heap) : evCode P Γ call n f m (cAt [1, 1, 1, 0, 1, 0, 0, 1] B45) s H = condW P Γ call n f m (cAt [1, 1, 1, 0, 1, 0, 0, 1, 0] B45) (cAt [1, 1, 1, 0, 1, 0, 0, 1, 1] B45) s H (evOperand Γ s (.tmp 12)) := at_cond (by kernel_rfl) (by kernel_rfl) rfl rfl s H
@[simp] theorem n45_15 (s : List V) (H : Heap) : evCode P Γ call n f m (cAt [1, 1, 1, 0, 1, 0, 0, 1, 0] B45) s H = seqNext P Γ call n f m (cAt [1, 1, 1, 0, 1, 0, 0, 1, 0, 1] B45) (evCode P Γ call n f m (cAt [1, 1, 1, 0, 1, 0, 0, 1, 0, 0] B45) s H) := at_seq (by kernel_rfl) rfl rfl s H
noncomputable def r45_16 : {l : List Oper // opsOf (cAt [1, 1, 1, 0, 1, 0, 0, 1, 0, 0] B45) = l} := by
  apply Subtype.mk
  dsimp only [opsOf, cAt, kids, B45, bodyOf, Try.f45, List.getD, List.getElem?_cons_zero, List.getElem?_cons_succ, Option.getD_some]
@[simp] theorem n45_16 (s : List V) (H : Heap) : evCode P Γ call n f m (cAt [1, 1, 1, 0, 1, 0, 0, 1, 0, 0] B45) s H = regNext (evOpsGo P Γ call r45_16.1 r45_16.1 s H) := at_region (by kernel_rfl) r45_16.2 s H
attribute [simp] r45_16
@[simp] theorem n45_17 (s : List V) (H : Heap) : evCode P Γ call n f m (cAt [1, 1, 1, 0, 1, 0, 0, 1, 0, 1] B45) s H = some (.ret, s, H) := at_ret (by kernel_rfl) s H
@[simp] theorem n45_18 (s : List V) (H : Heap) : evCode P Γ call n f m (cAt [1, 1, 1, 0, 1, 0, 0, 1, 1] B45) s H = some (.normal, s, H) := at_skip (by kernel_rfl) s H
@[simp] theorem n45_19 (s : List V) (H : Heap) : evCode P Γ call n f m (cAt [1, 1, 1, 0, 1, 0, 1] B45) s H = seqNext P Γ call n f m (cAt [1, 1, 1, 0, 1, 0, 1, 1] B45) (evCode P Γ call n f m (cAt [1, 1, 1, 0, 1, 0, 1, 0] B45) s H) := at_seq (by kernel_rfl) rfl rfl s H
noncomputable def r45_20 : {l : List Oper // opsOf (cAt [1, 1, 1, 0, 1, 0, 1, 0] B45) = l} := by
  apply Subtype.mk
  dsimp only [opsOf, cAt, kids, B45, bodyOf, Try.f45, List.getD, List.getElem?_cons_zero, List.getElem?_cons_succ, Option.getD_some]
@[simp] theorem n45_20 (s : List V) (H : Heap) : evCode P Γ call n f m (cAt [1, 1, 1, 0, 1, 0, 1, 0] B45) s H = regNext (evOpsGo P Γ call r45_20.1 r45_20.1 s H) := at_region (by kernel_rfl) r45_20.2 s H
attribute [simp] r45_20
@[simp] theorem n45_21 (s : List V) (H : Heap) : evCode P Γ call n f m (cAt [1, 1, 1, 0, 1, 0, 1, 1] B45) s H = some (.ret, s, H) := at_ret (by kernel_rfl) s H
@[simp] theorem n45_22 (s : List V) (H : Heap) : evCode P Γ call n f m (cAt [1, 1, 1, 0, 1, 1] B45) s H = some (.normal, s, H) := at_skip (by kernel_rfl) s H
@[simp] theorem n45_23 (s : List V) (H : Heap) : evCode P Γ call n f m (cAt [1, 1, 1, 1] B45) s H = seqNext P Γ call n f m (cAt [1, 1, 1, 1, 1] B45) (evCode P Γ call n f m (cAt [1, 1, 1, 1, 0] B45) s H) := at_seq (by kernel_rfl) rfl rfl s H
@[simp] theorem n45_24 (s : List V) (H : Heap) : evCode P Γ call n f m (cAt [1, 1, 1, 1, 0] B45) s H = seqNext P Γ call n f m (cAt [1, 1, 1, 1, 0, 1] B45) (evCode P Γ call n f m (cAt [1, 1, 1, 1, 0, 0] B45) s H) := at_seq (by kernel_rfl) rfl rfl s H
noncomputable def r45_25 : {l : List Oper // opsOf (cAt [1, 1, 1, 1, 0, 0] B45) = l} := by
  apply Subtype.mk
  dsimp only [opsOf, cAt, kids, B45, bodyOf, Try.f45, List.getD, List.getElem?_cons_zero, List.getElem?_cons_succ, Option.getD_some]
@[simp] theorem n45_25 (s : List V) (H : Heap) : evCode P Γ call n f m (cAt [1, 1, 1, 1, 0, 0] B45) s H = regNext (evOpsGo P Γ call r45_25.1 r45_25.1 s H) := at_region (by kernel_rfl) r45_25.2 s H
attribute [simp] r45_25
@[simp] theorem n45_26 (s : List V) (H : Heap) : evCode P Γ call n f m (cAt [1, 1, 1, 1, 0, 1] B45) s H = condW P Γ call n f m (cAt [1, 1, 1, 1, 0, 1, 0] B45) (cAt [1, 1, 1, 1, 0, 1, 1] B45) s H (evOperand Γ s (.tmp 13)) := at_cond (by kernel_rfl) (by kernel_rfl) rfl rfl s H
@[simp] theorem n45_27 (s : List V) (H : Heap) : evCode P Γ call n f m (cAt [1, 1, 1, 1, 0, 1, 0] B45) s H = seqNext P Γ call n f m (cAt [1, 1, 1, 1, 0, 1, 0, 1] B45) (evCode P Γ call n f m (cAt [1, 1, 1, 1, 0, 1, 0, 0] B45) s H) := at_seq (by kernel_rfl) rfl rfl s H
noncomputable def r45_28 : {l : List Oper // opsOf (cAt [1, 1, 1, 1, 0, 1, 0, 0] B45) = l} := by
  apply Subtype.mk
  dsimp only [opsOf, cAt, kids, B45, bodyOf, Try.f45, List.getD, List.getElem?_cons_zero, List.getElem?_cons_succ, Option.getD_some]
@[simp] theorem n45_28 (s : List V) (H : Heap) : evCode P Γ call n f m (cAt [1, 1, 1, 1, 0, 1, 0, 0] B45) s H = regNext (evOpsGo P Γ call r45_28.1 r45_28.1 s H) := at_region (by kernel_rfl) r45_28.2 s H
attribute [simp] r45_28
@[simp] theorem n45_29 (s : List V) (H : Heap) : evCode P Γ call n f m (cAt [1, 1, 1, 1, 0, 1, 0, 1] B45) s H = some (.ret, s, H) := at_ret (by kernel_rfl) s H
@[simp] theorem n45_30 (s : List V) (H : Heap) : evCode P Γ call n f m (cAt [1, 1, 1, 1, 0, 1, 1] B45) s H = some (.normal, s, H) := at_skip (by kernel_rfl) s H
@[simp] theorem n45_31 (s : List V) (H : Heap) : evCode P Γ call n f m (cAt [1, 1, 1, 1, 1] B45) s H = seqNext P Γ call n f m (cAt [1, 1, 1, 1, 1, 1] B45) (evCode P Γ call n f m (cAt [1, 1, 1, 1, 1, 0] B45) s H) := at_seq (by kernel_rfl) rfl rfl s H
@[simp] theorem n45_32 (s : List V) (H : Heap) : evCode P Γ call n f m (cAt [1, 1, 1, 1, 1, 0] B45) s H = seqNext P Γ call n f m (cAt [1, 1, 1, 1, 1, 0, 1] B45) (evCode P Γ call n f m (cAt [1, 1, 1, 1, 1, 0, 0] B45) s H) := at_seq (by kernel_rfl) rfl rfl s H
noncomputable def r45_33 : {l : List Oper // opsOf (cAt [1, 1, 1, 1, 1, 0, 0] B45) = l} := by
  apply Subtype.mk
  dsimp only [opsOf, cAt, kids, B45, bodyOf, Try.f45, List.getD, List.getElem?_cons_zero, List.getElem?_cons_succ, Option.getD_some]
@[simp] theorem n45_33 (s : List V) (H : Heap) : evCode P Γ call n f m (cAt [1, 1, 1, 1, 1, 0, 0] B45) s H = regNext (evOpsGo P Γ call r45_33.1 r45_33.1 s H) := at_region (by kernel_rfl) r45_33.2 s H
attribute [simp] r45_33
@[simp] theorem n45_34 (s : List V) (H : Heap) : evCode P Γ call n f m (cAt [1, 1, 1, 1, 1, 0, 1] B45) s H = condW P Γ call n f m (cAt [1, 1, 1, 1, 1, 0, 1, 0] B45) (cAt [1, 1, 1, 1, 1, 0, 1, 1] B45) s H (evOperand Γ s (.tmp 16)) := at_cond (by kernel_rfl) (by kernel_rfl) rfl rfl s H
@[simp] theorem n45_35 (s : List V) (H : Heap) : evCode P Γ call n f m (cAt [1, 1, 1, 1, 1, 0, 1, 0] B45) s H = seqNext P Γ call n f m (cAt [1, 1, 1, 1, 1, 0, 1, 0, 1] B45) (evCode P Γ call n f m (cAt [1, 1, 1, 1, 1, 0, 1, 0, 0] B45) s H) := at_seq (by kernel_rfl) rfl rfl s H
noncomputable def r45_36 : {l : List Oper // opsOf (cAt [1, 1, 1, 1, 1, 0, 1, 0, 0] B45) = l} := by
  apply Subtype.mk
  dsimp only [opsOf, cAt, kids, B45, bodyOf, Try.f45, List.getD, List.getElem?_cons_zero, List.getElem?_cons_succ, Option.getD_some]
@[simp] theorem n45_36 (s : List V) (H : Heap) : evCode P Γ call n f m (cAt [1, 1, 1, 1, 1, 0, 1, 0, 0] B45) s H = regNext (evOpsGo P Γ call r45_36.1 r45_36.1 s H) := at_region (by kernel_rfl) r45_36.2 s H
attribute [simp] r45_36
@[simp] theorem n45_37 (s : List V) (H : Heap) : evCode P Γ call n f m (cAt [1, 1, 1, 1, 1, 0, 1, 0, 1] B45) s H = some (.ret, s, H) := at_ret (by kernel_rfl) s H
@[simp] theorem n45_38 (s : List V) (H : Heap) : evCode P Γ call n f m (cAt [1, 1, 1, 1, 1, 0, 1, 1] B45) s H = some (.normal, s, H) := at_skip (by kernel_rfl) s H
@[simp] theorem n45_39 (s : List V) (H : Heap) : evCode P Γ call n f m (cAt [1, 1, 1, 1, 1, 1] B45) s H = seqNext P Γ call n f m (cAt [1, 1, 1, 1, 1, 1, 1] B45) (evCode P Γ call n f m (cAt [1, 1, 1, 1, 1, 1, 0] B45) s H) := at_seq (by kernel_rfl) rfl rfl s H
@[simp] theorem n45_40 (s : List V) (H : Heap) : evCode P Γ call n f m (cAt [1, 1, 1, 1, 1, 1, 0] B45) s H = seqNext P Γ call n f m (cAt [1, 1, 1, 1, 1, 1, 0, 1] B45) (evCode P Γ call n f m (cAt [1, 1, 1, 1, 1, 1, 0, 0] B45) s H) := at_seq (by kernel_rfl) rfl rfl s H
noncomputable def r45_41 : {l : List Oper // opsOf (cAt [1, 1, 1, 1, 1, 1, 0, 0] B45) = l} := by
  apply Subtype.mk
  dsimp only [opsOf, cAt, kids, B45, bodyOf, Try.f45, List.getD, List.getElem?_cons_zero, List.getElem?_cons_succ, Option.getD_some]
@[simp] theorem n45_41 (s : List V) (H : Heap) : evCode P Γ call n f m (cAt [1, 1, 1, 1, 1, 1, 0, 0] B45) s H = regNext (evOpsGo P Γ call r45_41.1 r45_41.1 s H) := at_region (by kernel_rfl) r45_41.2 s H
attribute [simp] r45_41
@[simp] theorem n45_42 (s : List V) (H : Heap) : evCode P Γ call n f m (cAt [1, 1, 1, 1, 1, 1, 0, 1] B45) s H = condW P Γ call n f m (cAt [1, 1, 1, 1, 1, 1, 0, 1, 0] B45) (cAt [1, 1, 1, 1, 1, 1, 0, 1, 1] B45) s H (evOperand Γ s (.tmp 19)) := at_cond (by kernel_rfl) (by kernel_rfl) rfl rfl s H
@[simp] theorem n45_43 (s : List V) (H : Heap) : evCode P Γ call n f m (cAt [1, 1, 1, 1, 1, 1, 0, 1, 0] B45) s H = seqNext P Γ call n f m (cAt [1, 1, 1, 1, 1, 1, 0, 1, 0, 1] B45) (evCode P Γ call n f m (cAt [1, 1, 1, 1, 1, 1, 0, 1, 0, 0] B45) s H) := at_seq (by kernel_rfl) rfl rfl s H
noncomputable def r45_44 : {l : List Oper // opsOf (cAt [1, 1, 1, 1, 1, 1, 0, 1, 0, 0] B45) = l} := by
  apply Subtype.mk
  dsimp only [opsOf, cAt, kids, B45, bodyOf, Try.f45, List.getD, List.getElem?_cons_zero, List.getElem?_cons_succ, Option.getD_some]
@[simp] theorem n45_44 (s : List V) (H : Heap) : evCode P Γ call n f m (cAt [1, 1, 1, 1, 1, 1, 0, 1, 0, 0] B45) s H = regNext (evOpsGo P Γ call r45_44.1 r45_44.1 s H) := at_region (by kernel_rfl) r45_44.2 s H
attribute [simp] r45_44
@[simp] theorem n45_45 (s : List V) (H : Heap) : evCode P Γ call n f m (cAt [1, 1, 1, 1, 1, 1, 0, 1, 0, 1] B45) s H = some (.ret, s, H) := at_ret (by kernel_rfl) s H
@[simp] theorem n45_46 (s : List V) (H : Heap) : evCode P Γ call n f m (cAt [1, 1, 1, 1, 1, 1, 0, 1, 1] B45) s H = some (.normal, s, H) := at_skip (by kernel_rfl) s H
@[simp] theorem n45_47 (s : List V) (H : Heap) : evCode P Γ call n f m (cAt [1, 1, 1, 1, 1, 1, 1] B45) s H = seqNext P Γ call n f m (cAt [1, 1, 1, 1, 1, 1, 1, 1] B45) (evCode P Γ call n f m (cAt [1, 1, 1, 1, 1, 1, 1, 0] B45) s H) := at_seq (by kernel_rfl) rfl rfl s H
noncomputable def r45_48 : {l : List Oper // opsOf (cAt [1, 1, 1, 1, 1, 1, 1, 0] B45) = l} := by
  apply Subtype.mk
  dsimp only [opsOf, cAt, kids, B45, bodyOf, Try.f45, List.getD, List.getElem?_cons_zero, List.getElem?_cons_succ, Option.getD_some]
@[simp] theorem n45_48 (s : List V) (H : Heap) : evCode P Γ call n f m (cAt [1, 1, 1, 1, 1, 1, 1, 0] B45) s H = regNext (evOpsGo P Γ call r45_48.1 r45_48.1 s H) := at_region (by kernel_rfl) r45_48.2 s H
attribute [simp] r45_48
@[simp] theorem n45_49 (s : List V) (H : Heap) : evCode P Γ call n f m (cAt [1, 1, 1, 1, 1, 1, 1, 1] B45) s H = some (.ret, s, H) := at_ret (by kernel_rfl) s H
theorem b45 {k : Nat} (ho : ∀ args H, Γ.orc 45 args H = none) (args : List V) (H : Heap) (ha : args.length ≤ 20) : evF Try.prog Γ (k + 1) 45 args H = bodyEnd Try.prog [.tmp 4] H.length (evCode Try.prog Γ (evF Try.prog Γ k) k 45 H.length (cAt [] B45) (mkL 20 V.undef (enumV 0 args)) H) := body_at Try.func45 (by decide) rfl ho rfl rfl args H ha
noncomputable def B55 : Code := bodyOf Try.f55
@[simp] theorem n55_1 (s : List V) (H : Heap) : evCode P Γ call n f m (cAt [] B55) s H = seqNext P Γ call n f m (cAt [1] B55) (evCode P Γ call n f m (cAt [0] B55) s H) := at_seq (by kernel_rfl) rfl rfl s H
noncomputable def r55_2 : {l : List Oper // opsOf (cAt [0] B55) = l} := by
  apply Subtype.mk
  dsimp only [opsOf, cAt, kids, B55, bodyOf, Try.f55, List.getD, List.getElem?_cons_zero, List.getElem?_cons_succ, Option.getD_some]
@[simp] theorem n55_2 (s : List V) (H : Heap) : evCode P Γ call n f m (cAt [0] B55) s H = regNext (evOpsGo P Γ call r55_2.1 r55_2.1 s H) := at_region (by kernel_rfl) r55_2.2 s H
attribute [simp] r55_2
@[simp] theorem n55_3 (s : List V) (H : Heap) : evCode P Γ call n f m (cAt [1] B55) s H = seqNext P Γ call n f m (cAt [1, 1] B55) (evCode P Γ call n f m (cAt [1, 0] B55) s H) := at_seq (by kernel_rfl) rfl rfl s H
noncomputable def r55_4 : {l : List Oper // opsOf (cAt [1, 0] B55) = l} := by
  apply Subtype.mk
  dsimp only [opsOf, cAt, kids, B55, bodyOf, Try.f55, List.getD, List.getElem?_cons_zero, List.getElem?_cons_succ, Option.getD_some]
@[simp] theorem n55_4 (s : List V) (H : Heap) : evCode P Γ call n f m (cAt [1, 0] B55) s H = regNext (evOpsGo P Γ call r55_4.1 r55_4.1 s H) := at_region (by kernel_rfl) r55_4.2 s H
attribute [simp] r55_4
@[simp] theorem n55_5 (s : List V) (H : Heap) : evCode P Γ call n f m (cAt [1, 1] B55) s H = some (.ret, s, H) := at_ret (by kernel_rfl) s H
theorem b55 {k : Nat} (ho : ∀ args H, Γ.orc 55 args H = none) (args : List V) (H : Heap) (ha : args.length ≤ 6) : evF Try.prog Γ (k + 1) 55 args H = bodyEnd Try.prog [.tmp 2] H.length (evCode Try.prog Γ (evF Try.prog Γ k) k 55 H.length (cAt [] B55) (mkL 6 V.undef (enumV 0 args)) H) := body_at Try.func55 (by decide) rfl ho rfl rfl args H ha
end
end Go.Ev.Try
