/-
  CODE BY NAMES, printed by wip/tools/codes.py (own work).
-/
import Derived.Test.YthmpoblblgohcaaLineG
set_option maxRecDepth 100000
set_option linter.unusedVariables false
namespace Go.Ev.Try
open Go Go.Ev Go.Proofs
section
variable {P : Program} {Γ : Env} {call : CallF} {n f m : Nat}

noncomputable def B3 : Code := bodyOf Try.f3
@[simp] theorem n3_1 (s : List V) (H : Heap) : evCode P Γ call n f m (cAt [] B3) s H = seqNext P Γ call n f m (cAt [1] B3) (evCode P Γ call n f m (cAt [0] B3) s H) := at_seq (by kernel_rfl) rfl rfl s H
noncomputable def r3_2 : {l : List Oper // opsOf (cAt [0] B3) = l} := by
  apply Subtype.mk
  dsimp only [opsOf, cAt, kids, B3, bodyOf, Try.f3, List.getD, List.getElem?_cons_zero, List.getElem?_cons_succ, Option.getD_some]
@[simp] theorem n3_2 (s : List V) (H : Heap) : evCode P Γ call n f m (cAt [0] B3) s H = regNext (evOpsGo P Γ call r3_2.1 r3_2.1 s H) := at_region (by kernel_rfl) r3_2.2 s H
attribute [simp] r3_2
@[simp] theorem n3_3 (s : List V) (H : Heap) : evCode P Γ call n f m (cAt [1] B3) s H = seqNext P Γ call n f m (cAt [1, 1] B3) (evCode P Γ call n f m (cAt [1, 0] B3) s H) := at_seq (by kernel_rfl) rfl rfl s H
noncomputable def r3_4 : {l : List Oper // opsOf (cAt [1, 0] B3) = l} := by
  apply Subtype.mk
  dsimp only [opsOf, cAt, kids, B3, bodyOf, Try.f3, List.getD, List.getElem?_cons_zero, List.getElem?_cons_succ, Option.getD_some]
@[simp] theorem n3_4 (s : List V) (H : Heap) : evCode P Γ call n f m (cAt [1, 0] B3) s H = regNext (evOpsGo P Γ call r3_4.1 r3_4.1 s H) := at_region (by kernel_rfl) r3_4.2 s H
attribute [simp] r3_4
@[simp] theorem n3_5 (s : List V) (H : Heap) : evCode P Γ call n f m (cAt [1, 1] B3) s H = seqNext P Γ call n f m (cAt [1, 1, 1] B3) (evCode P Γ call n f m (cAt [1, 1, 0] B3) s H) := at_seq (by kernel_rfl) rfl rfl s H
noncomputable def r3_6 : {l : List Oper // opsOf (cAt [1, 1, 0] B3) = l} := by
  apply Subtype.mk
  dsimp only [opsOf, cAt, kids, B3, bodyOf, Try.f3, List.getD, List.getElem?_cons_zero, List.getElem?_cons_succ, Option.getD_some]
@[simp] theorem n3_6 (s : List V) (H : Heap) : evCode P Γ call n f m (cAt [1, 1, 0] B3) s H = regNext (evOpsGo P Γ call r3_6.1 r3_6.1 s H) := at_region (by kernel_rfl) r3_6.2 s H
attribute [simp] r3_6
@[simp] theorem n3_7 (s : List V) (H : Heap) : evCode P Γ call n f m (cAt [1, 1, 1] B3) s H = seqNext P Γ call n f m (cAt [1, 1, 1, 1] B3) (evCode P Γ call n f m (cAt [1, 1, 1, 0] B3) s H) := at_seq (by kernel_rfl) rfl rfl s H
noncomputable def r3_8 : {l : List Oper // opsOf (cAt [1, 1, 1, 0] B3) = l} := by
  apply Subtype.mk
  dsimp only [opsOf, cAt, kids, B3, bodyOf, Try.f3, List.getD, List.getElem?_cons_zero, List.getElem?_cons_succ, Option.getD_some]
@[simp] theorem n3_8 (s : List V) (H : Heap) : evCode P Γ call n f m (cAt [1, 1, 1, 0] B3) s H = regNext (evOpsGo P Γ call r3_8.1 r3_8.1 s H) := at_region (by kernel_rfl) r3_8.2 s H
attribute [simp] r3_8
@[simp] theorem n3_9 (s : List V) (H : Heap) : evCode P Γ call n f m (cAt [1, 1, 1, 1] B3) s H = seqNext P Γ call n f m (cAt [1, 1, 1, 1, 1] B3) (evCode P Γ call n f m (cAt [1, 1, 1, 1, 0] B3) s H) := at_seq (by kernel_rfl) rfl rfl s H
@[simp] theorem n3_10 (s : List V) (H : Heap) : evCode P Γ call n f m (cAt [1, 1, 1, 1, 0] B3) s H = seqNext P Γ call n f m (cAt [1, 1, 1, 1, 0, 1] B3) (evCode P Γ call n f m (cAt [1, 1, 1, 1, 0, 0] B3) s H) := at_seq (by kernel_rfl) rfl rfl s H
noncomputable def r3_11 : {l : List Oper // opsOf (cAt [1, 1, 1, 1, 0, 0] B3) = l} := by
  apply Subtype.mk
  dsimp only [opsOf, cAt, kids, B3, bodyOf, Try.f3, List.getD, List.getElem?_cons_zero, List.getElem?_cons_succ, Option.getD_some]
@[simp] theorem n3_11 (s : List V) (H : Heap) : evCode P Γ call n f m (cAt [1, 1, 1, 1, 0, 0] B3) s H = regNext (evOpsGo P Γ call r3_11.1 r3_11.1 s H) := at_region (by kernel_rfl) r3_11.2 s H
attribute [simp] r3_11
@[simp] theorem n3_12 (s : List V) (H : Heap) : evCode P Γ call n f m (cAt [1, 1, 1, 1, 0, 1] B3) s H = condW P Γ call n f m (cAt [1, 1, 1, 1, 0, 1, 0] B3) (cAt [1, 1, 1, 1, 0, 1, 1] B3) s H (evOperand Γ s (.tmp 53)) := at_cond (by kernel_rfl) (by kernel_rfl) rfl rfl s H
@[simp] theorem n3_13 (s : List V) (H : Heap) : evCode P Γ call n f m (cAt [1, 1, 1, 1, 0, 1, 0] B3) s H = seqNext P Γ call n f m (cAt [1, 1, 1, 1, 0, 1, 0, 1] B3) (evCode P Γ call n f m (cAt [1, 1, 1, 1, 0, 1, 0, 0] B3) s H) := at_seq (by kernel_rfl) rfl rfl s H
noncomputable def r3_14 : {l : List Oper // opsOf (cAt [1, 1, 1, 1, 0, 1, 0, 0] B3) = l} := by
  apply Subtype.mk
  dsimp only [opsOf, cAt, kids, B3, bodyOf, Try.f3, List.getD, List.getElem?_cons_zero, List.getElem?_cons_succ, Option.getD_some]
@[simp] theorem n3_14 (s : List V) (H : Heap) : evCode P Γ call n f m (cAt [1, 1, 1, 1, 0, 1, 0, 0] B3) s H = regNext (evOpsGo P Γ call r3_14.1 r3_14.1 s H) := at_region (by kernel_rfl) r3_14.2 s H
attribute [simp] r3_14
@[simp] theorem n3_15 (s : List V) (H : Heap) : evCode P Γ call n f m (cAt [1, 1, 1, 1, 0, 1, 0, 1] B3) s H = some (.ret, s, H) := at_ret (by kernel_rfl) s H
@[simp] theorem n3_16 (s : List V) (H : Heap) : evCode P Γ call n f m (cAt [1, 1, 1, 1, 0, 1, 1] B3) s H = some (.normal, s, H) := at_skip (by kernel_rfl) s H
@[simp] theorem n3_17 (s : List V) (H : Heap) : evCode P Γ call n f m (cAt [1, 1, 1, 1, 1] B3) s H = seqNext P Γ call n f m (cAt [1, 1, 1, 1, 1, 1] B3) (evCode P Γ call n f m (cAt [1, 1, 1, 1, 1, 0] B3) s H) := at_seq (by kernel_rfl) rfl rfl s H
noncomputable def r3_18 : {l : List Oper // opsOf (cAt [1, 1, 1, 1, 1, 0] B3) = l} := by
  apply Subtype.mk
  dsimp only [opsOf, cAt, kids, B3, bodyOf, Try.f3, List.getD, List.getElem?_cons_zero, List.getElem?_cons_succ, Option.getD_some]
@[simp] theorem n3_18 (s : List V) (H : Heap) : evCode P Γ call n f m (cAt [1, 1, 1, 1, 1, 0] B3) s H = regNext (evOpsGo P Γ call r3_18.1 r3_18.1 s H) := at_region (by kernel_rfl) r3_18.2 s H
attribute [simp] r3_18
@[simp] theorem n3_19 (s : List V) (H : Heap) : evCode P Γ call n f m (cAt [1, 1, 1, 1, 1, 1] B3) s H = seqNext P Γ call n f m (cAt [1, 1, 1, 1, 1, 1, 1] B3) (evCode P Γ call n f m (cAt [1, 1, 1, 1, 1, 1, 0] B3) s H) := at_seq (by kernel_rfl) rfl rfl s H
noncomputable def r3_20 : {l : List Oper // opsOf (cAt [1, 1, 1, 1, 1, 1, 0] B3) = l} := by
  apply Subtype.mk
  dsimp only [opsOf, cAt, kids, B3, bodyOf, Try.f3, List.getD, List.getElem?_cons_zero, List.getElem?_cons_succ, Option.getD_some]
@[simp] theorem n3_20 (s : List V) (H : Heap) : evCode P Γ call n f m (cAt [1, 1, 1, 1, 1, 1, 0] B3) s H = regNext (evOpsGo P Γ call r3_20.1 r3_20.1 s H) := at_region (by kernel_rfl) r3_20.2 s H
attribute [simp] r3_20
@[simp] theorem n3_21 (s : List V) (H : Heap) : evCode P Γ call n f m (cAt [1, 1, 1, 1, 1, 1, 1] B3) s H = seqNext P Γ call n f m (cAt [1, 1, 1, 1, 1, 1, 1, 1] B3) (evCode P Γ call n f m (cAt [1, 1, 1, 1, 1, 1, 1, 0] B3) s H) := at_seq (by kernel_rfl) rfl rfl s H
@[simp] theorem n3_22 (s : List V) (H : Heap) : evCode P Γ call n f m (cAt [1, 1, 1, 1, 1, 1, 1, 0] B3) s H = seqNext P Γ call n f m (cAt [1, 1, 1, 1, 1, 1, 1, 0, 1] B3) (evCode P Γ call n f m (cAt [1, 1, 1, 1, 1, 1, 1, 0, 0] B3) s H) := at_seq (by kernel_rfl) rfl rfl s H
noncomputable def r3_23 : {l : List Oper // opsOf (cAt [1, 1, 1, 1, 1, 1, 1, 0, 0] B3) = l} := by
  apply Subtype.mk
  dsimp only [opsOf, cAt, kids, B3, bodyOf, Try.f3, List.getD, List.getElem?_cons_zero, List.getElem?_cons_succ, Option.getD_some]
@[simp] theorem n3_23 (s : List V) (H : Heap) : evCode P Γ call n f m (cAt [1, 1, 1, 1, 1, 1, 1, 0, 0] B3) s H = regNext (evOpsGo P Γ call r3_23.1 r3_23.1 s H) := at_region (by kernel_rfl) r3_23.2 s H
attribute [simp] r3_23
@[simp] theorem n3_24 (s : List V) (H : Heap) : evCode P Γ call n f m (cAt [1, 1, 1, 1, 1, 1, 1, 0, 1] B3) s H = blockNext 0 (evCode P Γ call n f m (cAt [1, 1, 1, 1, 1, 1, 1, 0, 1, 0] B3) s H) := at_block (by kernel_rfl) rfl s H
@[simp] theorem n3_25 (s : List V) (H : Heap) : evCode P Γ call n f m (cAt [1, 1, 1, 1, 1, 1, 1, 0, 1, 0] B3) s H = evLoopC P Γ call n f m (cAt [1, 1, 1, 1, 1, 1, 1, 0, 1, 0, 0] B3) n s H := at_loop (by kernel_rfl) rfl s H
noncomputable abbrev L3_9 : Code := cAt [1, 1, 1, 1, 1, 1, 1, 0, 1, 0, 0] B3
@[simp] theorem n3_25f : firstRegion (cAt [1, 1, 1, 1, 1, 1, 1, 0, 1, 0, 0] B3) = 9 := by kernel_rfl
@[simp] theorem n3_26 (s : List V) (H : Heap) : evCode P Γ call n f m (cAt [1, 1, 1, 1, 1, 1, 1, 0, 1, 0, 0] B3) s H = seqNext P Γ call n f m (cAt [1, 1, 1, 1, 1, 1, 1, 0, 1, 0, 0, 1] B3) (evCode P Γ call n f m (cAt [1, 1, 1, 1, 1, 1, 1, 0, 1, 0, 0, 0] B3) s H) := at_seq (by kernel_rfl) rfl rfl s H
noncomputable def r3_27 : {l : List Oper // opsOf (cAt [1, 1, 1, 1, 1, 1, 1, 0, 1, 0, 0, 0] B3) = l} := by
  apply Subtype.mk
  dsimp only [opsOf, cAt, kids, B3, bodyOf, Try.f3, List.getD, List.getElem?_cons_zero, List.getElem?_cons_succ, Option.getD_some]
@[simp] theorem n3_27 (s : List V) (H : Heap) : evCode P Γ call n f m (cAt [1, 1, 1, 1, 1, 1, 1, 0, 1, 0, 0, 0] B3) s H = regNext (evOpsGo P Γ call r3_27.1 r3_27.1 s H) := at_region (by kernel_rfl) r3_27.2 s H
attribute [simp] r3_27
@[simp] theorem n3_28 (s : List V) (H : Heap) : evCode P Γ call n f m (cAt [1, 1, 1, 1, 1, 1, 1, 0, 1, 0, 0, 1] B3) s H = seqNext P Γ call n f m (cAt [1, 1, 1, 1, 1, 1, 1, 0, 1, 0, 0, 1, 1] B3) (evCode P Γ call n f m (cAt [1, 1, 1, 1, 1, 1, 1, 0, 1, 0, 0, 1, 0] B3) s H) := at_seq (by kernel_rfl) rfl rfl s H
@[simp] theorem n3_29 (s : List V) (H : Heap) : evCode P Γ call n f m (cAt [1, 1, 1, 1, 1, 1, 1, 0, 1, 0, 0, 1, 0] B3) s H = condW P Γ call n f m (cAt [1, 1, 1, 1, 1, 1, 1, 0, 1, 0, 0, 1, 0, 0] B3) (cAt [1, 1, 1, 1, 1, 1, 1, 0, 1, 0, 0, 1, 0, 1] B3) s H (evOperand Γ s (.tmp 58)) := at_cond (by kernel_rfl) (by kernel_rfl) rfl rfl s H
@[simp] theorem n3_30 (s : List V) (H : Heap) : evCode P Γ call n f m (cAt [1, 1, 1, 1, 1, 1, 1, 0, 1, 0, 0, 1, 0, 0] B3) s H = some (.normal, s, H) := at_skip (by kernel_rfl) s H
@[simp] theorem n3_31 (s : List V) (H : Heap) : evCode P Γ call n f m (cAt [1, 1, 1, 1, 1, 1, 1, 0, 1, 0, 0, 1, 0, 1] B3) s H = some (.exit 0, s, H) := at_exit (by kernel_rfl) s H
@[simp] theorem n3_32 (s : List V) (H : Heap) : evCode P Γ call n f m (cAt [1, 1, 1, 1, 1, 1, 1, 0, 1, 0, 0, 1, 1] B3) s H = seqNext P Γ call n f m (cAt [1, 1, 1, 1, 1, 1, 1, 0, 1, 0, 0, 1, 1, 1] B3) (evCode P Γ call n f m (cAt [1, 1, 1, 1, 1, 1, 1, 0, 1, 0, 0, 1, 1, 0] B3) s H) := at_seq (by kernel_rfl) rfl rfl s H
@[simp] theorem n3_33 (s : List V) (H : Heap) : evCode P Γ call n f m (cAt [1, 1, 1, 1, 1, 1, 1, 0, 1, 0, 0, 1, 1, 0] B3) s H = blockNext 1 (evCode P Γ call n f m (cAt [1, 1, 1, 1, 1, 1, 1, 0, 1, 0, 0, 1, 1, 0, 0] B3) s H) := at_block (by kernel_rfl) rfl s H
@[simp] theorem n3_34 (s : List V) (H : Heap) : evCode P Γ call n f m (cAt [1, 1, 1, 1, 1, 1, 1, 0, 1, 0, 0, 1, 1, 0, 0] B3) s H = seqNext P Γ call n f m (cAt [1, 1, 1, 1, 1, 1, 1, 0, 1, 0, 0, 1, 1, 0, 0, 1] B3) (evCode P Γ call n f m (cAt [1, 1, 1, 1, 1, 1, 1, 0, 1, 0, 0, 1, 1, 0, 0, 0] B3) s H) := at_seq (by kernel_rfl) rfl rfl s H
noncomputable def r3_35 : {l : List Oper // opsOf (cAt [1, 1, 1, 1, 1, 1, 1, 0, 1, 0, 0, 1, 1, 0, 0, 0] B3) = l} := by
  apply Subtype.mk
  dsimp only [opsOf, cAt, kids, B3, bodyOf, Try.f3, List.getD, List.getElem?_cons_zero, List.getElem?_cons_succ, Option.getD_some]
@[simp] theorem n3_35 (s : List V) (H : Heap) : evCode P Γ call n f m (cAt [1, 1, 1, 1, 1, 1, 1, 0, 1, 0, 0, 1, 1, 0, 0, 0] B3) s H = regNext (evOpsGo P Γ call r3_35.1 r3_35.1 s H) := at_region (by kernel_rfl) r3_35.2 s H
attribute [simp] r3_35
@[simp] theorem n3_36 (s : List V) (H : Heap) : evCode P Γ call n f m (cAt [1, 1, 1, 1, 1, 1, 1, 0, 1, 0, 0, 1, 1, 0, 0, 1] B3) s H = seqNext P Γ call n f m (cAt [1, 1, 1, 1, 1, 1, 1, 0, 1, 0, 0, 1, 1, 0, 0, 1, 1] B3) (evCode P Γ call n f m (cAt [1, 1, 1, 1, 1, 1, 1, 0, 1, 0, 0, 1, 1, 0, 0, 1, 0] B3) s H) := at_seq (by kernel_rfl) rfl rfl s H
@[simp] theorem n3_37 (s : List V) (H : Heap) : evCode P Γ call n f m (cAt [1, 1, 1, 1, 1, 1, 1, 0, 1, 0, 0, 1, 1, 0, 0, 1, 0] B3) s H = seqNext P Γ call n f m (cAt [1, 1, 1, 1, 1, 1, 1, 0, 1, 0, 0, 1, 1, 0, 0, 1, 0, 1] B3) (evCode P Γ call n f m (cAt [1, 1, 1, 1, 1, 1, 1, 0, 1, 0, 0, 1, 1, 0, 0, 1, 0, 0] B3) s H) := at_seq (by kernel_rfl) rfl rfl s H
noncomputable def r3_38 : {l : List Oper // opsOf (cAt [1, 1, 1, 1, 1, 1, 1, 0, 1, 0, 0, 1, 1, 0, 0, 1, 0, 0] B3) = l} := by
  apply Subtype.mk
  dsimp only [opsOf, cAt, kids, B3, bodyOf, Try.f3, List.getD, List.getElem?_cons_zero, List.getElem?_cons_succ, Option.getD_some]
@[simp] theorem n3_38 (s : List V) (H : Heap) : evCode P Γ call n f m (cAt [1, 1, 1, 1, 1, 1, 1, 0, 1, 0, 0, 1, 1, 0, 0, 1, 0, 0] B3) s H = regNext (evOpsGo P Γ call r3_38.1 r3_38.1 s H) := at_region (by kernel_rfl) r3_38.2 s H
attribute [simp] r3_38
@[simp] theorem n3_39 (s : List V) (H : Heap) : evCode P Γ call n f m (cAt [1, 1, 1, 1, 1, 1, 1, 0, 1, 0, 0, 1, 1, 0, 0, 1, 0, 1] B3) s H = seqNext P Γ call n f m (cAt [1, 1, 1, 1, 1, 1, 1, 0, 1, 0, 0, 1, 1, 0, 0, 1, 0, 1, 1] B3) (evCode P Γ call n f m (cAt [1, 1, 1, 1, 1, 1, 1, 0, 1, 0, 0, 1, 1, 0, 0, 1, 0, 1, 0] B3) s H) := at_seq (by kernel_rfl) rfl rfl s H
noncomputable def r3_40 : {l : List Oper // opsOf (cAt [1, 1, 1, 1, 1, 1, 1, 0, 1, 0, 0, 1, 1, 0, 0, 1, 0, 1, 0] B3) = l} := by
  apply Subtype.mk
  dsimp only [opsOf, cAt, kids, B3, bodyOf, Try.f3, List.getD, List.getElem?_cons_zero, List.getElem?_cons_succ, Option.getD_some]
@[simp] theorem n3_40 (s : List V) (H : Heap) : evCode P Γ call n f m (cAt [1, 1, 1, 1, 1, 1, 1, 0, 1, 0, 0, 1, 1, 0, 0, 1, 0, 1, 0] B3) s H = regNext (evOpsGo P Γ call r3_40.1 r3_40.1 s H) := at_region (by kernel_rfl) r3_40.2 s H
attribute [simp] r3_40
@[simp] theorem n3_41 (s : List V) (H : Heap) : evCode P Γ call n f m (cAt [1, 1, 1, 1, 1, 1, 1, 0, 1, 0, 0, 1, 1, 0, 0, 1, 0, 1, 1] B3) s H = condW P Γ call n f m (cAt [1, 1, 1, 1, 1, 1, 1, 0, 1, 0, 0, 1, 1, 0, 0, 1, 0, 1, 1, 0] B3) (cAt [1, 1, 1, 1, 1, 1, 1, 0, 1, 0, 0, 1, 1, 0, 0, 1, 0, 1, 1, 1] B3) s H (evOperand Γ s (.tmp 92)) := at_cond (by kernel_rfl) (by kernel_rfl) rfl rfl s H
@[simp] theorem n3_42 (s : List V) (H : Heap) : evCode P Γ call n f m (cAt [1, 1, 1, 1, 1, 1, 1, 0, 1, 0, 0, 1, 1, 0, 0, 1, 0, 1, 1, 0] B3) s H = seqNext P Γ call n f m (cAt [1, 1, 1, 1, 1, 1, 1, 0, 1, 0, 0, 1, 1, 0, 0, 1, 0, 1, 1, 0, 1] B3) (evCode P Γ call n f m (cAt [1, 1, 1, 1, 1, 1, 1, 0, 1, 0, 0, 1, 1, 0, 0, 1, 0, 1, 1, 0, 0] B3) s H) := at_seq (by kernel_rfl) rfl rfl s H
noncomputable def r3_43 : {l : List Oper // opsOf (cAt [1, 1, 1, 1, 1, 1, 1, 0, 1, 0, 0, 1, 1, 0, 0, 1, 0, 1, 1, 0, 0] B3) = l} := by
  apply Subtype.mk
  dsimp only [opsOf, cAt, kids, B3, bodyOf, Try.f3, List.getD, List.getElem?_cons_zero, List.getElem?_cons_succ, Option.getD_some]
@[simp] theorem n3_43 (s : List V) (H : Heap) : evCode P Γ call n f m (cAt [1, 1, 1, 1, 1, 1, 1, 0, 1, 0, 0, 1, 1, 0, 0, 1, 0, 1, 1, 0, 0] B3) s H = regNext (evOpsGo P Γ call r3_43.1 r3_43.1 s H) := at_region (by kernel_rfl) r3_43.2 s H
attribute [simp] r3_43
@[simp] theorem n3_44 (s : List V) (H : Heap) : evCode P Γ call n f m (cAt [1, 1, 1, 1, 1, 1, 1, 0, 1, 0, 0, 1, 1, 0, 0, 1, 0, 1, 1, 0, 1] B3) s H = some (.ret, s, H) := at_ret (by kernel_rfl) s H
@[simp] theorem n3_45 (s : List V) (H : Heap) : evCode P Γ call n f m (cAt [1, 1, 1, 1, 1, 1, 1, 0, 1, 0, 0, 1, 1, 0, 0, 1, 0, 1, 1, 1] B3) s H = some (.normal, s, H) := at_skip (by kernel_rfl) s H
@[simp] theorem n3_46 (s : List V) (H : Heap) : evCode P Γ call n f m (cAt [1, 1, 1, 1, 1, 1, 1, 0, 1, 0, 0, 1, 1, 0, 0, 1, 1] B3) s H = seqNext P Γ call n f m (cAt [1, 1, 1, 1, 1, 1, 1, 0, 1, 0, 0, 1, 1, 0, 0, 1, 1, 1] B3) (evCode P Γ call n f m (cAt [1, 1, 1, 1, 1, 1, 1, 0, 1, 0, 0, 1, 1, 0, 0, 1, 1, 0] B3) s H) := at_seq (by kernel_rfl) rfl rfl s H
noncomputable def r3_47 : {l : List Oper // opsOf (cAt [1, 1, 1, 1, 1, 1, 1, 0, 1, 0, 0, 1, 1, 0, 0, 1, 1, 0] B3) = l} := by
  apply Subtype.mk
  dsimp only [opsOf, cAt, kids, B3, bodyOf, Try.f3, List.getD, List.getElem?_cons_zero, List.getElem?_cons_succ, Option.getD_some]
@[simp] theorem n3_47 (s : List V) (H : Heap) : evCode P Γ call n f m (cAt [1, 1, 1, 1, 1, 1, 1, 0, 1, 0, 0, 1, 1, 0, 0, 1, 1, 0] B3) s H = regNext (drawR P Γ call r3_47.1 [([1, 2, 3, 4, 5, 6], [94, 95, 96, 97, 98, 99]), ([0, 2, 5, 6], [93, 95, 98, 99]), ([0, 1, 5, 6], [93, 94, 98, 99]), ([0, 5, 6], [93, 98, 99]), ([0, 5, 6], [93, 98, 99]), ([0, 1, 2, 3, 4], [93, 94, 95, 96, 97]), ([0, 1, 2, 3, 4], [93, 94, 95, 96, 97]), ([], [])] s H) := at_drawT (by kernel_rfl) r3_47.2 (by kernel_rfl) s H
attribute [simp] r3_47
@[simp] theorem n3_48 (s : List V) (H : Heap) : evCode P Γ call n f m (cAt [1, 1, 1, 1, 1, 1, 1, 0, 1, 0, 0, 1, 1, 0, 0, 1, 1, 1] B3) s H = seqNext P Γ call n f m (cAt [1, 1, 1, 1, 1, 1, 1, 0, 1, 0, 0, 1, 1, 0, 0, 1, 1, 1, 1] B3) (evCode P Γ call n f m (cAt [1, 1, 1, 1, 1, 1, 1, 0, 1, 0, 0, 1, 1, 0, 0, 1, 1, 1, 0] B3) s H) := at_seq (by kernel_rfl) rfl rfl s H
noncomputable def r3_49 : {l : List Oper // opsOf (cAt [1, 1, 1, 1, 1, 1, 1, 0, 1, 0, 0, 1, 1, 0, 0, 1, 1, 1, 0] B3) = l} := by
  apply Subtype.mk
  dsimp only [opsOf, cAt, kids, B3, bodyOf, Try.f3, List.getD, List.getElem?_cons_zero, List.getElem?_cons_succ, Option.getD_some]
@[simp] theorem n3_49 (s : List V) (H : Heap) : evCode P Γ call n f m (cAt [1, 1, 1, 1, 1, 1, 1, 0, 1, 0, 0, 1, 1, 0, 0, 1, 1, 1, 0] B3) s H = regNext (evOpsGo P Γ call r3_49.1 r3_49.1 s H) := at_region (by kernel_rfl) r3_49.2 s H
attribute [simp] r3_49
@[simp] theorem n3_50 (s : List V) (H : Heap) : evCode P Γ call n f m (cAt [1, 1, 1, 1, 1, 1, 1, 0, 1, 0, 0, 1, 1, 0, 0, 1, 1, 1, 1] B3) s H = condW P Γ call n f m (cAt [1, 1, 1, 1, 1, 1, 1, 0, 1, 0, 0, 1, 1, 0, 0, 1, 1, 1, 1, 0] B3) (cAt [1, 1, 1, 1, 1, 1, 1, 0, 1, 0, 0, 1, 1, 0, 0, 1, 1, 1, 1, 1] B3) s H (evOperand Γ s (.tmp 109)) := at_cond (by kernel_rfl) (by kernel_rfl) rfl rfl s H
noncomputable def r3_51 : {l : List Oper // opsOf (cAt [1, 1, 1, 1, 1, 1, 1, 0, 1, 0, 0, 1, 1, 0, 0, 1, 1, 1, 1, 0] B3) = l} := by
  apply Subtype.mk
  dsimp only [opsOf, cAt, kids, B3, bodyOf, Try.f3, List.getD, List.getElem?_cons_zero, List.getElem?_cons_succ, Option.getD_some]
@[simp] theorem n3_51 (s : List V) (H : Heap) : evCode P Γ call n f m (cAt [1, 1, 1, 1, 1, 1, 1, 0, 1, 0, 0, 1, 1, 0, 0, 1, 1, 1, 1, 0] B3) s H = regNext (evOpsGo P Γ call r3_51.1 r3_51.1 s H) := at_region (by kernel_rfl) r3_51.2 s H
attribute [simp] r3_51
@[simp] theorem n3_52 (s : List V) (H : Heap) : evCode P Γ call n f m (cAt [1, 1, 1, 1, 1, 1, 1, 0, 1, 0, 0, 1, 1, 0, 0, 1, 1, 1, 1, 1] B3) s H = some (.normal, s, H) := at_skip (by kernel_rfl) s H
noncomputable def r3_53 : {l : List Oper // opsOf (cAt [1, 1, 1, 1, 1, 1, 1, 0, 1, 0, 0, 1, 1, 1] B3) = l} := by
  apply Subtype.mk
  dsimp only [opsOf, cAt, kids, B3, bodyOf, Try.f3, List.getD, List.getElem?_cons_zero, List.getElem?_cons_succ, Option.getD_some]
@[simp] theorem n3_53 (s : List V) (H : Heap) : evCode P Γ call n f m (cAt [1, 1, 1, 1, 1, 1, 1, 0, 1, 0, 0, 1, 1, 1] B3) s H = regNext (evOpsGo P Γ call r3_53.1 r3_53.1 s H) := at_region (by kernel_rfl) r3_53.2 s H
attribute [simp] r3_53
@[simp] theorem n3_54 (s : List V) (H : Heap) : evCode P Γ call n f m (cAt [1, 1, 1, 1, 1, 1, 1, 1] B3) s H = seqNext P Γ call n f m (cAt [1, 1, 1, 1, 1, 1, 1, 1, 1] B3) (evCode P Γ call n f m (cAt [1, 1, 1, 1, 1, 1, 1, 1, 0] B3) s H) := at_seq (by kernel_rfl) rfl rfl s H
noncomputable def r3_55 : {l : List Oper // opsOf (cAt [1, 1, 1, 1, 1, 1, 1, 1, 0] B3) = l} := by
  apply Subtype.mk
  dsimp only [opsOf, cAt, kids, B3, bodyOf, Try.f3, List.getD, List.getElem?_cons_zero, List.getElem?_cons_succ, Option.getD_some]
@[simp] theorem n3_55 (s : List V) (H : Heap) : evCode P Γ call n f m (cAt [1, 1, 1, 1, 1, 1, 1, 1, 0] B3) s H = regNext (evOpsGo P Γ call r3_55.1 r3_55.1 s H) := at_region (by kernel_rfl) r3_55.2 s H
attribute [simp] r3_55
@[simp] theorem n3_56 (s : List V) (H : Heap) : evCode P Γ call n f m (cAt [1, 1, 1, 1, 1, 1, 1, 1, 1] B3) s H = some (.ret, s, H) := at_ret (by kernel_rfl) s H
theorem b3 {k : Nat} (ho : ∀ args H, Γ.orc 3 args H = none) (args : List V) (H : Heap) (ha : args.length ≤ 127) : evF Try.prog Γ (k + 1) 3 args H = bodyEnd Try.prog [.tmp 2] H.length (evCode Try.prog Γ (evF Try.prog Γ k) k 3 H.length (cAt [] B3) (mkL 127 V.undef (enumV 0 args)) H) := body_at Try.func3 (by decide) rfl ho rfl rfl args H ha
noncomputable def B8 : Code := bodyOf Try.f8
@[simp] theorem n8_1 (s : List V) (H : Heap) : evCode P Γ call n f m (cAt [] B8) s H = seqNext P Γ call n f m (cAt [1] B8) (evCode P Γ call n f m (cAt [0] B8) s H) := at_seq (by kernel_rfl) rfl rfl s H
noncomputable def r8_2 : {l : List Oper // opsOf (cAt [0] B8) = l} := by
  apply Subtype.mk
  dsimp only [opsOf, cAt, kids, B8, bodyOf, Try.f8, List.getD, List.getElem?_cons_zero, List.getElem?_cons_succ, Option.getD_some]
@[simp] theorem n8_2 (s : List V) (H : Heap) : evCode P Γ call n f m (cAt [0] B8) s H = regNext (evOpsGo P Γ call r8_2.1 r8_2.1 s H) := at_region (by kernel_rfl) r8_2.2 s H
attribute [simp] r8_2
@[simp] theorem n8_3 (s : List V) (H : Heap) : evCode P Γ call n f m (cAt [1] B8) s H = seqNext P Γ call n f m (cAt [1, 1] B8) (evCode P Γ call n f m (cAt [1, 0] B8) s H) := at_seq (by kernel_rfl) rfl rfl s H
noncomputable def r8_4 : {l : List Oper // opsOf (cAt [1, 0] B8) = l} := by
  apply Subtype.mk
  dsimp only [opsOf, cAt, kids, B8, bodyOf, Try.f8, List.getD, List.getElem?_cons_zero, List.getElem?_cons_succ, Option.getD_some]
@[simp] theorem n8_4 (s : List V) (H : Heap) : evCode P Γ call n f m (cAt [1, 0] B8) s H = regNext (evOpsGo P Γ call r8_4.1 r8_4.1 s H) := at_region (by kernel_rfl) r8_4.2 s H
attribute [simp] r8_4
@[simp] theorem n8_5 (s : List V) (H : Heap) : evCode P Γ call n f m (cAt [1, 1] B8) s H = seqNext P Γ call n f m (cAt [1, 1, 1] B8) (evCode P Γ call n f m (cAt [1, 1, 0] B8) s H) := at_seq (by kernel_rfl) rfl rfl s H
noncomputable def r8_6 : {l : List Oper // opsOf (cAt [1, 1, 0] B8) = l} := by
  apply Subtype.mk
  dsimp only [opsOf, cAt, kids, B8, bodyOf, Try.f8, List.getD, List.getElem?_cons_zero, List.getElem?_cons_succ, Option.getD_some]
@[simp] theorem n8_6 (s : List V) (H : Heap) : evCode P Γ call n f m (cAt [1, 1, 0] B8) s H = regNext (evOpsGo P Γ call r8_6.1 r8_6.1 s H) := at_region (by kernel_rfl) r8_6.2 s H
attribute [simp] r8_6
@[simp] theorem n8_7 (s : List V) (H : Heap) : evCode P Γ call n f m (cAt [1, 1, 1] B8) s H = seqNext P Γ call n f m (cAt [1, 1, 1, 1] B8) (evCode P Γ call n f m (cAt [1, 1, 1, 0] B8) s H) := at_seq (by kernel_rfl) rfl rfl s H
noncomputable def r8_8 : {l : List Oper // opsOf (cAt [1, 1, 1, 0] B8) = l} := by
  apply Subtype.mk
  dsimp only [opsOf, cAt, kids, B8, bodyOf, Try.f8, List.getD, List.getElem?_cons_zero, List.getElem?_cons_succ, Option.getD_some]
@[simp] theorem n8_8 (s : List V) (H : Heap) : evCode P Γ call n f m (cAt [1, 1, 1, 0] B8) s H = regNext (evOpsGo P Γ call r8_8.1 r8_8.1 s H) := at_region (by kernel_rfl) r8_8.2 s H
attribute [simp] r8_8
@[simp] theorem n8_9 (s : List V) (H : Heap) : evCode P Γ call n f m (cAt [1, 1, 1, 1] B8) s H = seqNext P Γ call n f m (cAt [1, 1, 1, 1, 1] B8) (evCode P Γ call n f m (cAt [1, 1, 1, 1, 0] B8) s H) := at_seq (by kernel_rfl) rfl rfl s H
@[simp] theorem n8_10 (s : List V) (H : Heap) : evCode P Γ call n f m (cAt [1, 1, 1, 1, 0] B8) s H = seqNext P Γ call n f m (cAt [1, 1, 1, 1, 0, 1] B8) (evCode P Γ call n f m (cAt [1, 1, 1, 1, 0, 0] B8) s H) := at_seq (by kernel_rfl) rfl rfl s H
noncomputable def r8_11 : {l : List Oper // opsOf (cAt [1, 1, 1, 1, 0, 0] B8) = l} := by
  apply Subtype.mk
  dsimp only [opsOf, cAt, kids, B8, bodyOf, Try.f8, List.getD, List.getElem?_cons_zero, List.getElem?_cons_succ, Option.getD_some]
@[simp] theorem n8_11 (s : List V) (H : Heap) : evCode P Γ call n f m (cAt [1, 1, 1, 1, 0, 0] B8) s H = regNext (evOpsGo P Γ call r8_11.1 r8_11.1 s H) := at_region (by kernel_rfl) r8_11.2 s H
attribute [simp] r8_11
@[simp] theorem n8_12 (s : List V) (H : Heap) : evCode P Γ call n f m (cAt [1, 1, 1, 1, 0, 1] B8) s H = seqNext P Γ call n f m (cAt [1, 1, 1, 1, 0, 1, 1] B8) (evCode P Γ call n f m (cAt [1, 1, 1, 1, 0, 1, 0] B8) s H) := at_seq (by kernel_rfl) rfl rfl s H
noncomputable def r8_13 : {l : List Oper // opsOf (cAt [1, 1, 1, 1, 0, 1, 0] B8) = l} := by
  apply Subtype.mk
  dsimp only [opsOf, cAt, kids, B8, bodyOf, Try.f8, List.getD, List.getElem?_cons_zero, List.getElem?_cons_succ, Option.getD_some]
@[simp] theorem n8_13 (s : List V) (H : Heap) : evCode P Γ call n f m (cAt [1, 1, 1, 1, 0, 1, 0] B8) s H = regNext (evOpsGo P Γ call r8_13.1 r8_13.1 s H) := at_region (by kernel_rfl) r8_13.2 s H
attribute [simp] r8_13
@[simp] theorem n8_14 (s : List V) (H : Heap) : evCode P Γ call n f m (cAt [1, 1, 1, 1, 0, 1, 1] B8) s H = condW P Γ call n f m (cAt [1, 1, 1, 1, 0, 1, 1, 0] B8) (cAt [1, 1, 1, 1, 0, 1, 1, 1] B8) s H (evOperand Γ s (.tmp 15)) := at_cond (by kernel_rfl) (by kernel_rfl) rfl rfl s H
@[simp] theorem n8_15 (s : List V) (H : Heap) : evCode P Γ call n f m (cAt [1, 1, 1, 1, 0, 1, 1, 0] B8) s H = seqNext P Γ call n f m (cAt [1, 1, 1, 1, 0, 1, 1, 0, 1] B8) (evCode P Γ call n f m (cAt [1, 1, 1, 1, 0, 1, 1, 0, 0] B8) s H) := at_seq (by kernel_rfl) rfl rfl s H
noncomputable def r8_16 : {l : List Oper // opsOf (cAt [1, 1, 1, 1, 0, 1, 1, 0, 0] B8) = l} := by
  apply Subtype.mk
  dsimp only [opsOf, cAt, kids, B8, bodyOf, Try.f8, List.getD, List.getElem?_cons_zero, List.getElem?_cons_succ, Option.getD_some]
@[simp] theorem n8_16 (s : List V) (H : Heap) : evCode P Γ call n f m (cAt [1, 1, 1, 1, 0, 1, 1, 0, 0] B8) s H = regNext (evOpsGo P Γ call r8_16.1 r8_16.1 s H) := at_region (by kernel_rfl) r8_16.2 s H
attribute [simp] r8_16
@[simp] theorem n8_17 (s : List V) (H : Heap) : evCode P Γ call n f m (cAt [1, 1, 1, 1, 0, 1, 1, 0, 1] B8) s H = some (.ret, s, H) := at_ret (by kernel_rfl) s H
@[simp] theorem n8_18 (s : List V) (H : Heap) : evCode P Γ call n f m (cAt [1, 1, 1, 1, 0, 1, 1, 1] B8) s H = some (.normal, s, H) := at_skip (by kernel_rfl) s H
@[simp] theorem n8_19 (s : List V) (H : Heap) : evCode P Γ call n f m (cAt [1, 1, 1, 1, 1] B8) s H = seqNext P Γ call n f m (cAt [1, 1, 1, 1, 1, 1] B8) (evCode P Γ call n f m (cAt [1, 1, 1, 1, 1, 0] B8) s H) := at_seq (by kernel_rfl) rfl rfl s H
noncomputable def r8_20 : {l : List Oper // opsOf (cAt [1, 1, 1, 1, 1, 0] B8) = l} := by
  apply Subtype.mk
  dsimp only [opsOf, cAt, kids, B8, bodyOf, Try.f8, List.getD, List.getElem?_cons_zero, List.getElem?_cons_succ, Option.getD_some]
@[simp] theorem n8_20 (s : List V) (H : Heap) : evCode P Γ call n f m (cAt [1, 1, 1, 1, 1, 0] B8) s H = regNext (evOpsGo P Γ call r8_20.1 r8_20.1 s H) := at_region (by kernel_rfl) r8_20.2 s H
attribute [simp] r8_20
@[simp] theorem n8_21 (s : List V) (H : Heap) : evCode P Γ call n f m (cAt [1, 1, 1, 1, 1, 1] B8) s H = some (.ret, s, H) := at_ret (by kernel_rfl) s H
theorem b8 {k : Nat} (ho : ∀ args H, Γ.orc 8 args H = none) (args : List V) (H : Heap) (ha : args.length ≤ 18) : evF Try.prog Γ (k + 1) 8 args H = bodyEnd Try.prog [.tmp 2, .tmp 3] H.length (evCode Try.prog Γ (evF Try.prog Γ k) k 8 H.length (cAt [] B8) (mkL 18 V.undef (enumV 0 args)) H) := body_at Try.func8 (by decide) rfl ho rfl rfl args H ha
noncomputable def B9 : Code := bodyOf Try.f9
@[simp] theorem n9_1 (s : List V) (H : Heap) : evCode P Γ call n f m (cAt [] B9) s H = seqNext P Γ call n f m (cAt [1] B9) (evCode P Γ call n f m (cAt [0] B9) s H) := at_seq (by kernel_rfl) rfl rfl s H
noncomputable def r9_2 : {l : List Oper // opsOf (cAt [0] B9) = l} := by
  apply Subtype.mk
  dsimp only [opsOf, cAt, kids, B9, bodyOf, Try.f9, List.getD, List.getElem?_cons_zero, List.getElem?_cons_succ, Option.getD_some]
@[simp] theorem n9_2 (s : List V) (H : Heap) : evCode P Γ call n f m (cAt [0] B9) s H = regNext (evOpsGo P Γ call r9_2.1 r9_2.1 s H) := at_region (by kernel_rfl) r9_2.2 s H
attribute [simp] r9_2
@[simp] theorem n9_3 (s : List V) (H : Heap) : evCode P Γ call n f m (cAt [1] B9) s H = seqNext P Γ call n f m (cAt [1, 1] B9) (evCode P Γ call n f m (cAt [1, 0] B9) s H) := at_seq (by kernel_rfl) rfl rfl s H
noncomputable def r9_4 : {l : List Oper // opsOf (cAt [1, 0] B9) = l} := by
  apply Subtype.mk
  dsimp only [opsOf, cAt, kids, B9, bodyOf, Try.f9, List.getD, List.getElem?_cons_zero, List.getElem?_cons_succ, Option.getD_some]
@[simp] theorem n9_4 (s : List V) (H : Heap) : evCode P Γ call n f m (cAt [1, 0] B9) s H = regNext (evOpsGo P Γ call r9_4.1 r9_4.1 s H) := at_region (by kernel_rfl) r9_4.2 s H
attribute [simp] r9_4
@[simp] theorem n9_5 (s : List V) (H : Heap) : evCode P Γ call n f m (cAt [1, 1] B9) s H = seqNext P Γ call n f m (cAt [1, 1, 1] B9) (evCode P Γ call n f m (cAt [1, 1, 0] B9) s H) := at_seq (by kernel_rfl) rfl rfl s H
noncomputable def r9_6 : {l : List Oper // opsOf (cAt [1, 1, 0] B9) = l} := by
  apply Subtype.mk
  dsimp only [opsOf, cAt, kids, B9, bodyOf, Try.f9, List.getD, List.getElem?_cons_zero, List.getElem?_cons_succ, Option.getD_some]
@[simp] theorem n9_6 (s : List V) (H : Heap) : evCode P Γ call n f m (cAt [1, 1, 0] B9) s H = regNext (evOpsGo P Γ call r9_6.1 r9_6.1 s H) := at_region (by kernel_rfl) r9_6.2 s H
attribute [simp] r9_6
@[simp] theorem n9_7 (s : List V) (H : Heap) : evCode P Γ call n f m (cAt [1, 1, 1] B9) s H = seqNext P Γ call n f m (cAt [1, 1, 1, 1] B9) (evCode P Γ call n f m (cAt [1, 1, 1, 0] B9) s H) := at_seq (by kernel_rfl) rfl rfl s H
@[simp] theorem n9_8 (s : List V) (H : Heap) : evCode P Γ call n f m (cAt [1, 1, 1, 0] B9) s H = seqNext P Γ call n f m (cAt [1, 1, 1, 0, 1] B9) (evCode P Γ call n f m (cAt [1, 1, 1, 0, 0] B9) s H) := at_seq (by kernel_rfl) rfl rfl s H
noncomputable def r9_9 : {l : List Oper // opsOf (cAt [1, 1, 1, 0, 0] B9) = l} := by
  apply Subtype.mk
  dsimp only [opsOf, cAt, kids, B9, bodyOf, Try.f9, List.getD, List.getElem?_cons_zero, List.getElem?_cons_succ, Option.getD_some]
@[simp] theorem n9_9 (s : List V) (H : Heap) : evCode P Γ call n f m (cAt [1, 1, 1, 0, 0] B9) s H = regNext (evOpsGo P Γ call r9_9.1 r9_9.1 s H) := at_region (by kernel_rfl) r9_9.2 s H
attribute [simp] r9_9
@[simp] theorem n9_10 (s : List V) (H : Heap) : evCode P Γ call n f m (cAt [1, 1, 1, 0, 1] B9) s H = blockNext 0 (evCode P Γ call n f m (cAt [1, 1, 1, 0, 1, 0] B9) s H) := at_block (by kernel_rfl) rfl s H
@[simp] theorem n9_11 (s : List V) (H : Heap) : evCode P Γ call n f m (cAt [1, 1, 1, 0, 1, 0] B9) s H = evLoopC P Γ call n f m (cAt [1, 1, 1, 0, 1, 0, 0] B9) n s H := at_loop (by kernel_rfl) rfl s H
noncomputable abbrev L9_4 : Code := cAt [1, 1, 1, 0, 1, 0, 0] B9
@[simp] theorem n9_11f : firstRegion (cAt [1, 1, 1, 0, 1, 0, 0] B9) = 4 := by kernel_rfl
@[simp] theorem n9_12 (s : List V) (H : Heap) : evCode P Γ call n f m (cAt [1, 1, 1, 0, 1, 0, 0] B9) s H = seqNext P Γ call n f m (cAt [1, 1, 1, 0, 1, 0, 0, 1] B9) (evCode P Γ call n f m (cAt [1, 1, 1, 0, 1, 0, 0, 0] B9) s H) := at_seq (by kernel_rfl) rfl rfl s H
noncomputable def r9_13 : {l : List Oper // opsOf (cAt [1, 1, 1, 0, 1, 0, 0, 0] B9) = l} := by
  apply Subtype.mk
  dsimp only [opsOf, cAt, kids, B9, bodyOf, Try.f9, List.getD, List.getElem?_cons_zero, List.getElem?_cons_succ, Option.getD_some]
@[simp] theorem n9_13 (s : List V) (H : Heap) : evCode P Γ call n f m (cAt [1, 1, 1, 0, 1, 0, 0, 0] B9) s H = regNext (evOpsGo P Γ call r9_13.1 r9_13.1 s H) := at_region (by kernel_rfl) r9_13.2 s H
attribute [simp] r9_13
@[simp] theorem n9_14 (s : List V) (H : Heap) : evCode P Γ call n f m (cAt [1, 1, 1, 0, 1, 0, 0, 1] B9) s H = seqNext P Γ call n f m (cAt [1, 1, 1, 0, 1, 0, 0, 1, 1] B9) (evCode P Γ call n f m (cAt [1, 1, 1, 0, 1, 0, 0, 1, 0] B9) s H) := at_seq (by kernel_rfl) rfl rfl s H
@[simp] theorem n9_15 (s : List V) (H : Heap) : evCode P Γ call n f m (cAt [1, 1, 1, 0, 1, 0, 0, 1, 0] B9) s H = condW P Γ call n f m (cAt [1, 1, 1, 0, 1, 0, 0, 1, 0, 0] B9) (cAt [1, 1, 1, 0, 1, 0, 0, 1, 0, 1] B9) s H (evOperand Γ s (.tmp 13)) := at_cond (by kernel_rfl) (by kernel_rfl) rfl rfl s H
@[simp] theorem n9_16 (s : List V) (H : Heap) : evCode P Γ call n f m (cAt [1, 1, 1, 0, 1, 0, 0, 1, 0, 0] B9) s H = some (.normal, s, H) := at_skip (by kernel_rfl) s H
@[simp] theorem n9_17 (s : List V) (H : Heap) : evCode P Γ call n f m (cAt [1, 1, 1, 0, 1, 0, 0, 1, 0, 1] B9) s H = some (.exit 0, s, H) := at_exit (by kernel_rfl) s H
@[simp] theorem n9_18 (s : List V) (H : Heap) : evCode P Γ call n f m (cAt [1, 1, 1, 0, 1, 0, 0, 1, 1] B9) s H = seqNext P Γ call n f m (cAt [1, 1, 1, 0, 1, 0, 0, 1, 1, 1] B9) (evCode P Γ call n f m (cAt [1, 1, 1, 0, 1, 0, 0, 1, 1, 0] B9) s H) := at_seq (by kernel_rfl) rfl rfl s H
@[simp] theorem n9_19 (s : List V) (H : Heap) : evCode P Γ call n f m (cAt [1, 1, 1, 0, 1, 0, 0, 1, 1, 0] B9) s H = blockNext 1 (evCode P Γ call n f m (cAt [1, 1, 1, 0, 1, 0, 0, 1, 1, 0, 0] B9) s H) := at_block (by kernel_rfl) rfl s H
@[simp] theorem n9_20 (s : List V) (H : Heap) : evCode P Γ call n f m (cAt [1, 1, 1, 0, 1, 0, 0, 1, 1, 0, 0] B9) s H = seqNext P Γ call n f m (cAt [1, 1, 1, 0, 1, 0, 0, 1, 1, 0, 0, 1] B9) (evCode P Γ call n f m (cAt [1, 1, 1, 0, 1, 0, 0, 1, 1, 0, 0, 0] B9) s H) := at_seq (by kernel_rfl) rfl rfl s H
noncomputable def r9_21 : {l : List Oper // opsOf (cAt [1, 1, 1, 0, 1, 0, 0, 1, 1, 0, 0, 0] B9) = l} := by
  apply Subtype.mk
  dsimp only [opsOf, cAt, kids, B9, bodyOf, Try.f9, List.getD, List.getElem?_cons_zero, List.getElem?_cons_succ, Option.getD_some]
@[simp] theorem n9_21 (s : List V) (H : Heap) : evCode P Γ call n f m (cAt [1, 1, 1, 0, 1, 0, 0, 1, 1, 0, 0, 0] B9) s H = regNext (evOpsGo P Γ call r9_21.1 r9_21.1 s H) := at_region (by kernel_rfl) r9_21.2 s H
attribute [simp] r9_21
@[simp] theorem n9_22 (s : List V) (H : Heap) : evCode P Γ call n f m (cAt [1, 1, 1, 0, 1, 0, 0, 1, 1, 0, 0, 1] B9) s H = seqNext P Γ call n f m (cAt [1, 1, 1, 0, 1, 0, 0, 1, 1, 0, 0, 1, 1] B9) (evCode P Γ call n f m (cAt [1, 1, 1, 0, 1, 0, 0, 1, 1, 0, 0, 1, 0] B9) s H) := at_seq (by kernel_rfl) rfl rfl s H
noncomputable def r9_23 : {l : List Oper // opsOf (cAt [1, 1, 1, 0, 1, 0, 0, 1, 1, 0, 0, 1, 0] B9) = l} := by
  apply Subtype.mk
  dsimp only [opsOf, cAt, kids, B9, bodyOf, Try.f9, List.getD, List.getElem?_cons_zero, List.getElem?_cons_succ, Option.getD_some]
@[simp] theorem n9_23 (s : List V) (H : Heap) : evCode P Γ call n f m (cAt [1, 1, 1, 0, 1, 0, 0, 1, 1, 0, 0, 1, 0] B9) s H = regNext (evOpsGo P Γ call r9_23.1 r9_23.1 s H) := at_region (by kernel_rfl) r9_23.2 s H
attribute [simp] r9_23
noncomputable def r9_24 : {l : List Oper // opsOf (cAt [1, 1, 1, 0, 1, 0, 0, 1, 1, 0, 0, 1, 1] B9) = l} := by
  apply Subtype.mk
  dsimp only [opsOf, cAt, kids, B9, bodyOf, Try.f9, List.getD, List.getElem?_cons_zero, List.getElem?_cons_succ, Option.getD_some]
@[simp] theorem n9_24 (s : List V) (H : Heap) : evCode P Γ call n f m (cAt [1, 1, 1, 0, 1, 0, 0, 1, 1, 0, 0, 1, 1] B9) s H = regNext (evOpsGo P Γ call r9_24.1 r9_24.1 s H) := at_region (by kernel_rfl) r9_24.2 s H
attribute [simp] r9_24
noncomputable def r9_25 : {l : List Oper // opsOf (cAt [1, 1, 1, 0, 1, 0, 0, 1, 1, 1] B9) = l} := by
  apply Subtype.mk
  dsimp only [opsOf, cAt, kids, B9, bodyOf, Try.f9, List.getD, List.getElem?_cons_zero, List.getElem?_cons_succ, Option.getD_some]
@[simp] theorem n9_25 (s : List V) (H : Heap) : evCode P Γ call n f m (cAt [1, 1, 1, 0, 1, 0, 0, 1, 1, 1] B9) s H = regNext (evOpsGo P Γ call r9_25.1 r9_25.1 s H) := at_region (by kernel_rfl) r9_25.2 s H
attribute [simp] r9_25
@[simp] theorem n9_26 (s : List V) (H : Heap) : evCode P Γ call n f m (cAt [1, 1, 1, 1] B9) s H = seqNext P Γ call n f m (cAt [1, 1, 1, 1, 1] B9) (evCode P Γ call n f m (cAt [1, 1, 1, 1, 0] B9) s H) := at_seq (by kernel_rfl) rfl rfl s H
noncomputable def r9_27 : {l : List Oper // opsOf (cAt [1, 1, 1, 1, 0] B9) = l} := by
  apply Subtype.mk
  dsimp only [opsOf, cAt, kids, B9, bodyOf, Try.f9, List.getD, List.getElem?_cons_zero, List.getElem?_cons_succ, Option.getD_some]
@[simp] theorem n9_27 (s : List V) (H : Heap) : evCode P Γ call n f m (cAt [1, 1, 1, 1, 0] B9) s H = regNext (evOpsGo P Γ call r9_27.1 r9_27.1 s H) := at_region (by kernel_rfl) r9_27.2 s H
attribute [simp] r9_27
@[simp] theorem n9_28 (s : List V) (H : Heap) : evCode P Γ call n f m (cAt [1, 1, 1, 1, 1] B9) s H = some (.ret, s, H) := at_ret (by kernel_rfl) s H
theorem b9 {k : Nat} (ho : ∀ args H, Γ.orc 9 args H = none) (args : List V) (H : Heap) (ha : args.length ≤ 30) : evF Try.prog Γ (k + 1) 9 args H = bodyEnd Try.prog [.tmp 2] H.length (evCode Try.prog Γ (evF Try.prog Γ k) k 9 H.length (cAt [] B9) (mkL 30 V.undef (enumV 0 args)) H) := body_at Try.func9 (by decide) rfl ho rfl rfl args H ha
noncomputable def B10 : Code := bodyOf Try.f10
@[simp] theorem n10_1 (s : List V) (H : Heap) : evCode P Γ call n f m (cAt [] B10) s H = seqNext P Γ call n f m (cAt [1] B10) (evCode P Γ call n f m (cAt [0] B10) s H) := at_seq (by kernel_rfl) rfl rfl s H
noncomputable def r10_2 : {l : List Oper // opsOf (cAt [0] B10) = l} := by
  apply Subtype.mk
  dsimp only [opsOf, cAt, kids, B10, bodyOf, Try.f10, List.getD, List.getElem?_cons_zero, List.getElem?_cons_succ, Option.getD_some]
@[simp] theorem n10_2 (s : List V) (H : Heap) : evCode P Γ call n f m (cAt [0] B10) s H = regNext (evOpsGo P Γ call r10_2.1 r10_2.1 s H) := at_region (by kernel_rfl) r10_2.2 s H
attribute [simp] r10_2
@[simp] theorem n10_3 (s : List V) (H : Heap) : evCode P Γ call n f m (cAt [1] B10) s H = seqNext P Γ call n f m (cAt [1, 1] B10) (evCode P Γ call n f m (cAt [1, 0] B10) s H) := at_seq (by kernel_rfl) rfl rfl s H
@[simp] theorem n10_4 (s : List V) (H : Heap) : evCode P Γ call n f m (cAt [1, 0] B10) s H = seqNext P Γ call n f m (cAt [1, 0, 1] B10) (evCode P Γ call n f m (cAt [1, 0, 0] B10) s H) := at_seq (by kernel_rfl) rfl rfl s H
noncomputable def r10_5 : {l : List Oper // opsOf (cAt [1, 0, 0] B10) = l} := by
  apply Subtype.mk
  dsimp only [opsOf, cAt, kids, B10, bodyOf, Try.f10, List.getD, List.getElem?_cons_zero, List.getElem?_cons_succ, Option.getD_some]
@[simp] theorem n10_5 (s : List V) (H : Heap) : evCode P Γ call n f m (cAt [1, 0, 0] B10) s H = regNext (evOpsGo P Γ call r10_5.1 r10_5.1 s H) := at_region (by kernel_rfl) r10_5.2 s H
attribute [simp] r10_5
@[simp] theorem n10_6 (s : List V) (H : Heap) : evCode P Γ call n f m (cAt [1, 0, 1] B10) s H = seqNext P Γ call n f m (cAt [1, 0, 1, 1] B10) (evCode P Γ call n f m (cAt [1, 0, 1, 0] B10) s H) := at_seq (by kernel_rfl) rfl rfl s H
noncomputable def r10_7 : {l : List Oper // opsOf (cAt [1, 0, 1, 0] B10) = l} := by
  apply Subtype.mk
  dsimp only [opsOf, cAt, kids, B10, bodyOf, Try.f10, List.getD, List.getElem?_cons_zero, List.getElem?_cons_succ, Option.getD_some]
@[simp] theorem n10_7 (s : List V) (H : Heap) : evCode P Γ call n f m (cAt [1, 0, 1, 0] B10) s H = regNext (evOpsGo P Γ call r10_7.1 r10_7.1 s H) := at_region (by kernel_rfl) r10_7.2 s H
attribute [simp] r10_7
@[simp] theorem n10_8 (s : List V) (H : Heap) : evCode P Γ call n f m (cAt [1, 0, 1, 1] B10) s H = condW P Γ call n f m (cAt [1, 0, 1, 1, 0] B10) (cAt [1, 0, 1, 1, 1] B10) s H (evOperand Γ s (.tmp 13)) := at_cond (by kernel_rfl) (by kernel_rfl) rfl rfl s H
@[simp] theorem n10_9 (s : List V) (H : Heap) : evCode P Γ call n f m (cAt [1, 0, 1, 1, 0] B10) s H = seqNext P Γ call n f m (cAt [1, 0, 1, 1, 0, 1] B10) (evCode P Γ call n f m (cAt [1, 0, 1, 1, 0, 0] B10) s H) := at_seq (by kernel_rfl) rfl rfl s H
noncomputable def r10_10 : {l : List Oper // opsOf (cAt [1, 0, 1, 1, 0, 0] B10) = l} := by
  apply Subtype.mk
  dsimp only [opsOf, cAt, kids, B10, bodyOf, Try.f10, List.getD, List.getElem?_cons_zero, List.getElem?_cons_succ, Option.getD_some]
@[simp] theorem n10_10 (s : List V) (H : Heap) : evCode P Γ call n f m (cAt [1, 0, 1, 1, 0, 0] B10) s H = regNext (evOpsGo P Γ call r10_10.1 r10_10.1 s H) := at_region (by kernel_rfl) r10_10.2 s H
attribute [simp] r10_10
@[simp] theorem n10_11 (s : List V) (H : Heap) : evCode P Γ call n f m (cAt [1, 0, 1, 1, 0, 1] B10) s H = some (.ret, s, H) := at_ret (by kernel_rfl) s H
@[simp] theorem n10_12 (s : List V) (H : Heap) : evCode P Γ call n f m (cAt [1, 0, 1, 1, 1] B10) s H = some (.normal, s, H) := at_skip (by kernel_rfl) s H
@[simp] theorem n10_13 (s : List V) (H : Heap) : evCode P Γ call n f m (cAt [1, 1] B10) s H = seqNext P Γ call n f m (cAt [1, 1, 1] B10) (evCode P Γ call n f m (cAt [1, 1, 0] B10) s H) := at_seq (by kernel_rfl) rfl rfl s H
noncomputable def r10_14 : {l : List Oper // opsOf (cAt [1, 1, 0] B10) = l} := by
  apply Subtype.mk
  dsimp only [opsOf, cAt, kids, B10, bodyOf, Try.f10, List.getD, List.getElem?_cons_zero, List.getElem?_cons_succ, Option.getD_some]
@[simp] theorem n10_14 (s : List V) (H : Heap) : evCode P Γ call n f m (cAt [1, 1, 0] B10) s H = regNext (evOpsGo P Γ call r10_14.1 r10_14.1 s H) := at_region (by kernel_rfl) r10_14.2 s H
attribute [simp] r10_14
@[simp] theorem n10_15 (s : List V) (H : Heap) : evCode P Γ call n f m (cAt [1, 1, 1] B10) s H = seqNext P Γ call n f m (cAt [1, 1, 1, 1] B10) (evCode P Γ call n f m (cAt [1, 1, 1, 0] B10) s H) := at_seq (by kernel_rfl) rfl rfl s H
@[simp] theorem n10_16 (s : List V) (H : Heap) : evCode P Γ call n f m (cAt [1, 1, 1, 0] B10) s H = seqNext P Γ call n f m (cAt [1, 1, 1, 0, 1] B10) (evCode P Γ call n f m (cAt [1, 1, 1, 0, 0] B10) s H) := at_seq (by kernel_rfl) rfl rfl s H
noncomputable def r10_17 : {l : List Oper // opsOf (cAt [1, 1, 1, 0, 0] B10) = l} := by
  apply Subtype.mk
  dsimp only [opsOf, cAt, kids, B10, bodyOf, Try.f10, List.getD, List.getElem?_cons_zero, List.getElem?_cons_succ, Option.getD_some]
@[simp] theorem n10_17 (s : List V) (H : Heap) : evCode P Γ call n f m (cAt [1, 1, 1, 0, 0] B10) s H = regNext (evOpsGo P Γ call r10_17.1 r10_17.1 s H) := at_region (by kernel_rfl) r10_17.2 s H
attribute [simp] r10_17
@[simp] theorem n10_18 (s : List V) (H : Heap) : evCode P Γ call n f m (cAt [1, 1, 1, 0, 1] B10) s H = blockNext 0 (evCode P Γ call n f m (cAt [1, 1, 1, 0, 1, 0] B10) s H) := at_block (by kernel_rfl) rfl s H
@[simp] theorem n10_19 (s : List V) (H : Heap) : evCode P Γ call n f m (cAt [1, 1, 1, 0, 1, 0] B10) s H = evLoopC P Γ call n f m (cAt [1, 1, 1, 0, 1, 0, 0] B10) n s H := at_loop (by kernel_rfl) rfl s H
noncomputable abbrev L10_6 : Code := cAt [1, 1, 1, 0, 1, 0, 0] B10
@[simp] theorem n10_19f : firstRegion (cAt [1, 1, 1, 0, 1, 0, 0] B10) = 6 := by kernel_rfl
@[simp] theorem n10_20 (s : List V) (H : Heap) : evCode P Γ call n f m (cAt [1, 1, 1, 0, 1, 0, 0] B10) s H = seqNext P Γ call n f m (cAt [1, 1, 1, 0, 1, 0, 0, 1] B10) (evCode P Γ call n f m (cAt [1, 1, 1, 0, 1, 0, 0, 0] B10) s H) := at_seq (by kernel_rfl) rfl rfl s H
noncomputable def r10_21 : {l : List Oper // opsOf (cAt [1, 1, 1, 0, 1, 0, 0, 0] B10) = l} := by
  apply Subtype.mk
  dsimp only [opsOf, cAt, kids, B10, bodyOf, Try.f10, List.getD, List.getElem?_cons_zero, List.getElem?_cons_succ, Option.getD_some]
@[simp] theorem n10_21 (s : List V) (H : Heap) : evCode P Γ call n f m (cAt [1, 1, 1, 0, 1, 0, 0, 0] B10) s H = regNext (evOpsGo P Γ call r10_21.1 r10_21.1 s H) := at_region (by kernel_rfl) r10_21.2 s H
attribute [simp] r10_21
@[simp] theorem n10_22 (s : List V) (H : Heap) : evCode P Γ call n f m (cAt [1, 1, 1, 0, 1, 0, 0, 1] B10) s H = seqNext P Γ call n f m (cAt [1, 1, 1, 0, 1, 0, 0, 1, 1] B10) (evCode P Γ call n f m (cAt [1, 1, 1, 0, 1, 0, 0, 1, 0] B10) s H) := at_seq (by kernel_rfl) rfl rfl s H
@[simp] theorem n10_23 (s : List V) (H : Heap) : evCode P Γ call n f m (cAt [1, 1, 1, 0, 1, 0, 0, 1, 0] B10) s H = condW P Γ call n f m (cAt [1, 1, 1, 0, 1, 0, 0, 1, 0, 0] B10) (cAt [1, 1, 1, 0, 1, 0, 0, 1, 0, 1] B10) s H (evOperand Γ s (.tmp 18)) := at_cond (by kernel_rfl) (by kernel_rfl) rfl rfl s H
@[simp] theorem n10_24 (s : List V) (H : Heap) : evCode P Γ call n f m (cAt [1, 1, 1, 0, 1, 0, 0, 1, 0, 0] B10) s H = some (.normal, s, H) := at_skip (by kernel_rfl) s H
@[simp] theorem n10_25 (s : List V) (H : Heap) : evCode P Γ call n f m (cAt [1, 1, 1, 0, 1, 0, 0, 1, 0, 1] B10) s H = some (.exit 0, s, H) := at_exit (by kernel_rfl) s H
@[simp] theorem n10_26 (s : List V) (H : Heap) : evCode P Γ call n f m (cAt [1, 1, 1, 0, 1, 0, 0, 1, 1] B10) s H = seqNext P Γ call n f m (cAt [1, 1, 1, 0, 1, 0, 0, 1, 1, 1] B10) (evCode P Γ call n f m (cAt [1, 1, 1, 0, 1, 0, 0, 1, 1, 0] B10) s H) := at_seq (by kernel_rfl) rfl rfl s H
@[simp] theorem n10_27 (s : List V) (H : Heap) : evCode P Γ call n f m (cAt [1, 1, 1, 0, 1, 0, 0, 1, 1, 0] B10) s H = blockNext 1 (evCode P Γ call n f m (cAt [1, 1, 1, 0, 1, 0, 0, 1, 1, 0, 0] B10) s H) := at_block (by kernel_rfl) rfl s H
@[simp] theorem n10_28 (s : List V) (H : Heap) : evCode P Γ call n f m (cAt [1, 1, 1, 0, 1, 0, 0, 1, 1, 0, 0] B10) s H = seqNext P Γ call n f m (cAt [1, 1, 1, 0, 1, 0, 0, 1, 1, 0, 0, 1] B10) (evCode P Γ call n f m (cAt [1, 1, 1, 0, 1, 0, 0, 1, 1, 0, 0, 0] B10) s H) := at_seq (by kernel_rfl) rfl rfl s H
noncomputable def r10_29 : {l : List Oper // opsOf (cAt [1, 1, 1, 0, 1, 0, 0, 1, 1, 0, 0, 0] B10) = l} := by
  apply Subtype.mk
  dsimp only [opsOf, cAt, kids, B10, bodyOf, Try.f10, List.getD, List.getElem?_cons_zero, List.getElem?_cons_succ, Option.getD_some]
@[simp] theorem n10_29 (s : List V) (H : Heap) : evCode P Γ call n f m (cAt [1, 1, 1, 0, 1, 0, 0, 1, 1, 0, 0, 0] B10) s H = regNext (evOpsGo P Γ call r10_29.1 r10_29.1 s H) := at_region (by kernel_rfl) r10_29.2 s H
attribute [simp] r10_29
@[simp] theorem n10_30 (s : List V) (H : Heap) : evCode P Γ call n f m (cAt [1, 1, 1, 0, 1, 0, 0, 1, 1, 0, 0, 1] B10) s H = seqNext P Γ call n f m (cAt [1, 1, 1, 0, 1, 0, 0, 1, 1, 0, 0, 1, 1] B10) (evCode P Γ call n f m (cAt [1, 1, 1, 0, 1, 0, 0, 1, 1, 0, 0, 1, 0] B10) s H) := at_seq (by kernel_rfl) rfl rfl s H
noncomputable def r10_31 : {l : List Oper // opsOf (cAt [1, 1, 1, 0, 1, 0, 0, 1, 1, 0, 0, 1, 0] B10) = l} := by
  apply Subtype.mk
  dsimp only [opsOf, cAt, kids, B10, bodyOf, Try.f10, List.getD, List.getElem?_cons_zero, List.getElem?_cons_succ, Option.getD_some]
@[simp] theorem n10_31 (s : List V) (H : Heap) : evCode P Γ call n f m (cAt [1, 1, 1, 0, 1, 0, 0, 1, 1, 0, 0, 1, 0] B10) s H = regNext (evOpsGo P Γ call r10_31.1 r10_31.1 s H) := at_region (by kernel_rfl) r10_31.2 s H
attribute [simp] r10_31
@[simp] theorem n10_32 (s : List V) (H : Heap) : evCode P Γ call n f m (cAt [1, 1, 1, 0, 1, 0, 0, 1, 1, 0, 0, 1, 1] B10) s H = seqNext P Γ call n f m (cAt [1, 1, 1, 0, 1, 0, 0, 1, 1, 0, 0, 1, 1, 1] B10) (evCode P Γ call n f m (cAt [1, 1, 1, 0, 1, 0, 0, 1, 1, 0, 0, 1, 1, 0] B10) s H) := at_seq (by kernel_rfl) rfl rfl s H
@[simp] theorem n10_33 (s : List V) (H : Heap) : evCode P Γ call n f m (cAt [1, 1, 1, 0, 1, 0, 0, 1, 1, 0, 0, 1, 1, 0] B10) s H = seqNext P Γ call n f m (cAt [1, 1, 1, 0, 1, 0, 0, 1, 1, 0, 0, 1, 1, 0, 1] B10) (evCode P Γ call n f m (cAt [1, 1, 1, 0, 1, 0, 0, 1, 1, 0, 0, 1, 1, 0, 0] B10) s H) := at_seq (by kernel_rfl) rfl rfl s H
noncomputable def r10_34 : {l : List Oper // opsOf (cAt [1, 1, 1, 0, 1, 0, 0, 1, 1, 0, 0, 1, 1, 0, 0] B10) = l} := by
  apply Subtype.mk
  dsimp only [opsOf, cAt, kids, B10, bodyOf, Try.f10, List.getD, List.getElem?_cons_zero, List.getElem?_cons_succ, Option.getD_some]
@[simp] theorem n10_34 (s : List V) (H : Heap) : evCode P Γ call n f m (cAt [1, 1, 1, 0, 1, 0, 0, 1, 1, 0, 0, 1, 1, 0, 0] B10) s H = regNext (evOpsGo P Γ call r10_34.1 r10_34.1 s H) := at_region (by kernel_rfl) r10_34.2 s H
attribute [simp] r10_34
@[simp] theorem n10_35 (s : List V) (H : Heap) : evCode P Γ call n f m (cAt [1, 1, 1, 0, 1, 0, 0, 1, 1, 0, 0, 1, 1, 0, 1] B10) s H = condW P Γ call n f m (cAt [1, 1, 1, 0, 1, 0, 0, 1, 1, 0, 0, 1, 1, 0, 1, 0] B10) (cAt [1, 1, 1, 0, 1, 0, 0, 1, 1, 0, 0, 1, 1, 0, 1, 1] B10) s H (evOperand Γ s (.tmp 25)) := at_cond (by kernel_rfl) (by kernel_rfl) rfl rfl s H
@[simp] theorem n10_36 (s : List V) (H : Heap) : evCode P Γ call n f m (cAt [1, 1, 1, 0, 1, 0, 0, 1, 1, 0, 0, 1, 1, 0, 1, 0] B10) s H = seqNext P Γ call n f m (cAt [1, 1, 1, 0, 1, 0, 0, 1, 1, 0, 0, 1, 1, 0, 1, 0, 1] B10) (evCode P Γ call n f m (cAt [1, 1, 1, 0, 1, 0, 0, 1, 1, 0, 0, 1, 1, 0, 1, 0, 0] B10) s H) := at_seq (by kernel_rfl) rfl rfl s H
noncomputable def r10_37 : {l : List Oper // opsOf (cAt [1, 1, 1, 0, 1, 0, 0, 1, 1, 0, 0, 1, 1, 0, 1, 0, 0] B10) = l} := by
  apply Subtype.mk
  dsimp only [opsOf, cAt, kids, B10, bodyOf, Try.f10, List.getD, List.getElem?_cons_zero, List.getElem?_cons_succ, Option.getD_some]
@[simp] theorem n10_37 (s : List V) (H : Heap) : evCode P Γ call n f m (cAt [1, 1, 1, 0, 1, 0, 0, 1, 1, 0, 0, 1, 1, 0, 1, 0, 0] B10) s H = regNext (evOpsGo P Γ call r10_37.1 r10_37.1 s H) := at_region (by kernel_rfl) r10_37.2 s H
attribute [simp] r10_37
noncomputable def r10_38 : {l : List Oper // opsOf (cAt [1, 1, 1, 0, 1, 0, 0, 1, 1, 0, 0, 1, 1, 0, 1, 0, 1] B10) = l} := by
  apply Subtype.mk
  dsimp only [opsOf, cAt, kids, B10, bodyOf, Try.f10, List.getD, List.getElem?_cons_zero, List.getElem?_cons_succ, Option.getD_some]
@[simp] theorem n10_38 (s : List V) (H : Heap) : evCode P Γ call n f m (cAt [1, 1, 1, 0, 1, 0, 0, 1, 1, 0, 0, 1, 1, 0, 1, 0, 1] B10) s H = regNext (evOpsGo P Γ call r10_38.1 r10_38.1 s H) := at_region (by kernel_rfl) r10_38.2 s H
attribute [simp] r10_38
@[simp] theorem n10_39 (s : List V) (H : Heap) : evCode P Γ call n f m (cAt [1, 1, 1, 0, 1, 0, 0, 1, 1, 0, 0, 1, 1, 0, 1, 1] B10) s H = some (.normal, s, H) := at_skip (by kernel_rfl) s H
@[simp] theorem n10_40 (s : List V) (H : Heap) : evCode P Γ call n f m (cAt [1, 1, 1, 0, 1, 0, 0, 1, 1, 0, 0, 1, 1, 1] B10) s H = seqNext P Γ call n f m (cAt [1, 1, 1, 0, 1, 0, 0, 1, 1, 0, 0, 1, 1, 1, 1] B10) (evCode P Γ call n f m (cAt [1, 1, 1, 0, 1, 0, 0, 1, 1, 0, 0, 1, 1, 1, 0] B10) s H) := at_seq (by kernel_rfl) rfl rfl s H
noncomputable def r10_41 : {l : List Oper // opsOf (cAt [1, 1, 1, 0, 1, 0, 0, 1, 1, 0, 0, 1, 1, 1, 0] B10) = l} := by
  apply Subtype.mk
  dsimp only [opsOf, cAt, kids, B10, bodyOf, Try.f10, List.getD, List.getElem?_cons_zero, List.getElem?_cons_succ, Option.getD_some]
@[simp] theorem n10_41 (s : List V) (H : Heap) : evCode P Γ call n f m (cAt [1, 1, 1, 0, 1, 0, 0, 1, 1, 0, 0, 1, 1, 1, 0] B10) s H = regNext (evOpsGo P Γ call r10_41.1 r10_41.1 s H) := at_region (by kernel_rfl) r10_41.2 s H
attribute [simp] r10_41
noncomputable def r10_42 : {l : List Oper // opsOf (cAt [1, 1, 1, 0, 1, 0, 0, 1, 1, 0, 0, 1, 1, 1, 1] B10) = l} := by
  apply Subtype.mk
  dsimp only [opsOf, cAt, kids, B10, bodyOf, Try.f10, List.getD, List.getElem?_cons_zero, List.getElem?_cons_succ, Option.getD_some]
@[simp] theorem n10_42 (s : List V) (H : Heap) : evCode P Γ call n f m (cAt [1, 1, 1, 0, 1, 0, 0, 1, 1, 0, 0, 1, 1, 1, 1] B10) s H = regNext (evOpsGo P Γ call r10_42.1 r10_42.1 s H) := at_region (by kernel_rfl) r10_42.2 s H
attribute [simp] r10_42
noncomputable def r10_43 : {l : List Oper // opsOf (cAt [1, 1, 1, 0, 1, 0, 0, 1, 1, 1] B10) = l} := by
  apply Subtype.mk
  dsimp only [opsOf, cAt, kids, B10, bodyOf, Try.f10, List.getD, List.getElem?_cons_zero, List.getElem?_cons_succ, Option.getD_some]
@[simp] theorem n10_43 (s : List V) (H : Heap) : evCode P Γ call n f m (cAt [1, 1, 1, 0, 1, 0, 0, 1, 1, 1] B10) s H = regNext (evOpsGo P Γ call r10_43.1 r10_43.1 s H) := at_region (by kernel_rfl) r10_43.2 s H
attribute [simp] r10_43
@[simp] theorem n10_44 (s : List V) (H : Heap) : evCode P Γ call n f m (cAt [1, 1, 1, 1] B10) s H = seqNext P Γ call n f m (cAt [1, 1, 1, 1, 1] B10) (evCode P Γ call n f m (cAt [1, 1, 1, 1, 0] B10) s H) := at_seq (by kernel_rfl) rfl rfl s H
noncomputable def r10_45 : {l : List Oper // opsOf (cAt [1, 1, 1, 1, 0] B10) = l} := by
  apply Subtype.mk
  dsimp only [opsOf, cAt, kids, B10, bodyOf, Try.f10, List.getD, List.getElem?_cons_zero, List.getElem?_cons_succ, Option.getD_some]
@[simp] theorem n10_45 (s : List V) (H : Heap) : evCode P Γ call n f m (cAt [1, 1, 1, 1, 0] B10) s H = regNext (evOpsGo P Γ call r10_45.1 r10_45.1 s H) := at_region (by kernel_rfl) r10_45.2 s H
attribute [simp] r10_45
@[simp] theorem n10_46 (s : List V) (H : Heap) : evCode P Γ call n f m (cAt [1, 1, 1, 1, 1] B10) s H = some (.ret, s, H) := at_ret (by kernel_rfl) s H
theorem b10 {k : Nat} (ho : ∀ args H, Γ.orc 10 args H = none) (args : List V) (H : Heap) (ha : args.length ≤ 42) : evF Try.prog Γ (k + 1) 10 args H = bodyEnd Try.prog [.tmp 2, .tmp 3] H.length (evCode Try.prog Γ (evF Try.prog Γ k) k 10 H.length (cAt [] B10) (mkL 42 V.undef (enumV 0 args)) H) := body_at Try.func10 (by decide) rfl ho rfl rfl args H ha
noncomputable def B11 : Code := bodyOf Try.f11
@[simp] theorem n11_1 (s : List V) (H : Heap) : evCode P Γ call n f m (cAt [] B11) s H = seqNext P Γ call n f m (cAt [1] B11) (evCode P Γ call n f m (cAt [0] B11) s H) := at_seq (by kernel_rfl) rfl rfl s H
noncomputable def r11_2 : {l : List Oper // opsOf (cAt [0] B11) = l} := by
  apply Subtype.mk
  dsimp only [opsOf, cAt, kids, B11, bodyOf, Try.f11, List.getD, List.getElem?_cons_zero, List.getElem?_cons_succ, Option.getD_some]
@[simp] theorem n11_2 (s : List V) (H : Heap) : evCode P Γ call n f m (cAt [0] B11) s H = regNext (evOpsGo P Γ call r11_2.1 r11_2.1 s H) := at_region (by kernel_rfl) r11_2.2 s H
attribute [simp] r11_2
@[simp] theorem n11_3 (s : List V) (H : Heap) : evCode P Γ call n f m (cAt [1] B11) s H = seqNext P Γ call n f m (cAt [1, 1] B11) (evCode P Γ call n f m (cAt [1, 0] B11) s H) := at_seq (by kernel_rfl) rfl rfl s H
@[simp] theorem n11_4 (s : List V) (H : Heap) : evCode P Γ call n f m (cAt [1, 0] B11) s H = seqNext P Γ call n f m (cAt [1, 0, 1] B11) (evCode P Γ call n f m (cAt [1, 0, 0] B11) s H) := at_seq (by kernel_rfl) rfl rfl s H
noncomputable def r11_5 : {l : List Oper // opsOf (cAt [1, 0, 0] B11) = l} := by
  apply Subtype.mk
  dsimp only [opsOf, cAt, kids, B11, bodyOf, Try.f11, List.getD, List.getElem?_cons_zero, List.getElem?_cons_succ, Option.getD_some]
@[simp] theorem n11_5 (s : List V) (H : Heap) : evCode P Γ call n f m (cAt [1, 0, 0] B11) s H = regNext (evOpsGo P Γ call r11_5.1 r11_5.1 s H) := at_region (by kernel_rfl) r11_5.2 s H
attribute [simp] r11_5
@[simp] theorem n11_6 (s : List V) (H : Heap) : evCode P Γ call n f m (cAt [1, 0, 1] B11) s H = seqNext P Γ call n f m (cAt [1, 0, 1, 1] B11) (evCode P Γ call n f m (cAt [1, 0, 1, 0] B11) s H) := at_seq (by kernel_rfl) rfl rfl s H
noncomputable def r11_7 : {l : List Oper // opsOf (cAt [1, 0, 1, 0] B11) = l} := by
  apply Subtype.mk
  dsimp only [opsOf, cAt, kids, B11, bodyOf, Try.f11, List.getD, List.getElem?_cons_zero, List.getElem?_cons_succ, Option.getD_some]
@[simp] theorem n11_7 (s : List V) (H : Heap) : evCode P Γ call n f m (cAt [1, 0, 1, 0] B11) s H = regNext (evOpsGo P Γ call r11_7.1 r11_7.1 s H) := at_region (by kernel_rfl) r11_7.2 s H
attribute [simp] r11_7
@[simp] theorem n11_8 (s : List V) (H : Heap) : evCode P Γ call n f m (cAt [1, 0, 1, 1] B11) s H = condW P Γ call n f m (cAt [1, 0, 1, 1, 0] B11) (cAt [1, 0, 1, 1, 1] B11) s H (evOperand Γ s (.tmp 16)) := at_cond (by kernel_rfl) (by kernel_rfl) rfl rfl s H
@[simp] theorem n11_9 (s : List V) (H : Heap) : evCode P Γ call n f m (cAt [1, 0, 1, 1, 0] B11) s H = seqNext P Γ call n f m (cAt [1, 0, 1, 1, 0, 1] B11) (evCode P Γ call n f m (cAt [1, 0, 1, 1, 0, 0] B11) s H) := at_seq (by kernel_rfl) rfl rfl s H
noncomputable def r11_10 : {l : List Oper // opsOf (cAt [1, 0, 1, 1, 0, 0] B11) = l} := by
  apply Subtype.mk
  dsimp only [opsOf, cAt, kids, B11, bodyOf, Try.f11, List.getD, List.getElem?_cons_zero, List.getElem?_cons_succ, Option.getD_some]
@[simp] theorem n11_10 (s : List V) (H : Heap) : evCode P Γ call n f m (cAt [1, 0, 1, 1, 0, 0] B11) s H = regNext (evOpsGo P Γ call r11_10.1 r11_10.1 s H) := at_region (by kernel_rfl) r11_10.2 s H
attribute [simp] r11_10
@[simp] theorem n11_11 (s : List V) (H : Heap) : evCode P Γ call n f m (cAt [1, 0, 1, 1, 0, 1] B11) s H = some (.ret, s, H) := at_ret (by kernel_rfl) s H
@[simp] theorem n11_12 (s : List V) (H : Heap) : evCode P Γ call n f m (cAt [1, 0, 1, 1, 1] B11) s H = some (.normal, s, H) := at_skip (by kernel_rfl) s H
@[simp] theorem n11_13 (s : List V) (H : Heap) : evCode P Γ call n f m (cAt [1, 1] B11) s H = seqNext P Γ call n f m (cAt [1, 1, 1] B11) (evCode P Γ call n f m (cAt [1, 1, 0] B11) s H) := at_seq (by kernel_rfl) rfl rfl s H
noncomputable def r11_14 : {l : List Oper // opsOf (cAt [1, 1, 0] B11) = l} := by
  apply Subtype.mk
  dsimp only [opsOf, cAt, kids, B11, bodyOf, Try.f11, List.getD, List.getElem?_cons_zero, List.getElem?_cons_succ, Option.getD_some]
@[simp] theorem n11_14 (s : List V) (H : Heap) : evCode P Γ call n f m (cAt [1, 1, 0] B11) s H = regNext (evOpsGo P Γ call r11_14.1 r11_14.1 s H) := at_region (by kernel_rfl) r11_14.2 s H
attribute [simp] r11_14
@[simp] theorem n11_15 (s : List V) (H : Heap) : evCode P Γ call n f m (cAt [1, 1, 1] B11) s H = seqNext P Γ call n f m (cAt [1, 1, 1, 1] B11) (evCode P Γ call n f m (cAt [1, 1, 1, 0] B11) s H) := at_seq (by kernel_rfl) rfl rfl s H
@[simp] theorem n11_16 (s : List V) (H : Heap) : evCode P Γ call n f m (cAt [1, 1, 1, 0] B11) s H = seqNext P Γ call n f m (cAt [1, 1, 1, 0, 1] B11) (evCode P Γ call n f m (cAt [1, 1, 1, 0, 0] B11) s H) := at_seq (by kernel_rfl) rfl rfl s H
noncomputable def r11_17 : {l : List Oper // opsOf (cAt [1, 1, 1, 0, 0] B11) = l} := by
  apply Subtype.mk
  dsimp only [opsOf, cAt, kids, B11, bodyOf, Try.f11, List.getD, List.getElem?_cons_zero, List.getElem?_cons_succ, Option.getD_some]
@[simp] theorem n11_17 (s : List V) (H : Heap) : evCode P Γ call n f m (cAt [1, 1, 1, 0, 0] B11) s H = regNext (evOpsGo P Γ call r11_17.1 r11_17.1 s H) := at_region (by kernel_rfl) r11_17.2 s H
attribute [simp] r11_17
@[simp] theorem n11_18 (s : List V) (H : Heap) : evCode P Γ call n f m (cAt [1, 1, 1, 0, 1] B11) s H = blockNext 0 (evCode P Γ call n f m (cAt [1, 1, 1, 0, 1, 0] B11) s H) := at_block (by kernel_rfl) rfl s H
@[simp] theorem n11_19 (s : List V) (H : Heap) : evCode P Γ call n f m (cAt [1, 1, 1, 0, 1, 0] B11) s H = evLoopC P Γ call n f m (cAt [1, 1, 1, 0, 1, 0, 0] B11) n s H := at_loop (by kernel_rfl) rfl s H
noncomputable abbrev L11_6 : Code := cAt [1, 1, 1, 0, 1, 0, 0] B11
@[simp] theorem n11_19f : firstRegion (cAt [1, 1, 1, 0, 1, 0, 0] B11) = 6 := by kernel_rfl
@[simp] theorem n11_20 (s : List V) (H : Heap) : evCode P Γ call n f m (cAt [1, 1, 1, 0, 1, 0, 0] B11) s H = seqNext P Γ call n f m (cAt [1, 1, 1, 0, 1, 0, 0, 1] B11) (evCode P Γ call n f m (cAt [1, 1, 1, 0, 1, 0, 0, 0] B11) s H) := at_seq (by kernel_rfl) rfl rfl s H
noncomputable def r11_21 : {l : List Oper // opsOf (cAt [1, 1, 1, 0, 1, 0, 0, 0] B11) = l} := by
  apply Subtype.mk
  dsimp only [opsOf, cAt, kids, B11, bodyOf, Try.f11, List.getD, List.getElem?_cons_zero, List.getElem?_cons_succ, Option.getD_some]
@[simp] theorem n11_21 (s : List V) (H : Heap) : evCode P Γ call n f m (cAt [1, 1, 1, 0, 1, 0, 0, 0] B11) s H = regNext (evOpsGo P Γ call r11_21.1 r11_21.1 s H) := at_region (by kernel_rfl) r11_21.2 s H
attribute [simp] r11_21
@[simp] theorem n11_22 (s : List V) (H : Heap) : evCode P Γ call n f m (cAt [1, 1, 1, 0, 1, 0, 0, 1] B11) s H = seqNext P Γ call n f m (cAt [1, 1, 1, 0, 1, 0, 0, 1, 1] B11) (evCode P Γ call n f m (cAt [1, 1, 1, 0, 1, 0, 0, 1, 0] B11) s H) := at_seq (by kernel_rfl) rfl rfl s H
@[simp] theorem n11_23 (s : List V) (H : Heap) : evCode P Γ call n f m (cAt [1, 1, 1, 0, 1, 0, 0, 1, 0] B11) s H = condW P Γ call n f m (cAt [1, 1, 1, 0, 1, 0, 0, 1, 0, 0] B11) (cAt [1, 1, 1, 0, 1, 0, 0, 1, 0, 1] B11) s H (evOperand Γ s (.tmp 21)) := at_cond (by kernel_rfl) (by kernel_rfl) rfl rfl s H
@[simp] theorem n11_24 (s : List V) (H : Heap) : evCode P Γ call n f m (cAt [1, 1, 1, 0, 1, 0, 0, 1, 0, 0] B11) s H = some (.normal, s, H) := at_skip (by kernel_rfl) s H
@[simp] theorem n11_25 (s : List V) (H : Heap) : evCode P Γ call n f m (cAt [1, 1, 1, 0, 1, 0, 0, 1, 0, 1] B11) s H = some (.exit 0, s, H) := at_exit (by kernel_rfl) s H
@[simp] theorem n11_26 (s : List V) (H : Heap) : evCode P Γ call n f m (cAt [1, 1, 1, 0, 1, 0, 0, 1, 1] B11) s H = seqNext P Γ call n f m (cAt [1, 1, 1, 0, 1, 0, 0, 1, 1, 1] B11) (evCode P Γ call n f m (cAt [1, 1, 1, 0, 1, 0, 0, 1, 1, 0] B11) s H) := at_seq (by kernel_rfl) rfl rfl s H
@[simp] theorem n11_27 (s : List V) (H : Heap) : evCode P Γ call n f m (cAt [1, 1, 1, 0, 1, 0, 0, 1, 1, 0] B11) s H = blockNext 1 (evCode P Γ call n f m (cAt [1, 1, 1, 0, 1, 0, 0, 1, 1, 0, 0] B11) s H) := at_block (by kernel_rfl) rfl s H
@[simp] theorem n11_28 (s : List V) (H : Heap) : evCode P Γ call n f m (cAt [1, 1, 1, 0, 1, 0, 0, 1, 1, 0, 0] B11) s H = seqNext P Γ call n f m (cAt [1, 1, 1, 0, 1, 0, 0, 1, 1, 0, 0, 1] B11) (evCode P Γ call n f m (cAt [1, 1, 1, 0, 1, 0, 0, 1, 1, 0, 0, 0] B11) s H) := at_seq (by kernel_rfl) rfl rfl s H
noncomputable def r11_29 : {l : List Oper // opsOf (cAt [1, 1, 1, 0, 1, 0, 0, 1, 1, 0, 0, 0] B11) = l} := by
  apply Subtype.mk
  dsimp only [opsOf, cAt, kids, B11, bodyOf, Try.f11, List.getD, List.getElem?_cons_zero, List.getElem?_cons_succ, Option.getD_some]
@[simp] theorem n11_29 (s : List V) (H : Heap) : evCode P Γ call n f m (cAt [1, 1, 1, 0, 1, 0, 0, 1, 1, 0, 0, 0] B11) s H = regNext (evOpsGo P Γ call r11_29.1 r11_29.1 s H) := at_region (by kernel_rfl) r11_29.2 s H
attribute [simp] r11_29
@[simp] theorem n11_30 (s : List V) (H : Heap) : evCode P Γ call n f m (cAt [1, 1, 1, 0, 1, 0, 0, 1, 1, 0, 0, 1] B11) s H = seqNext P Γ call n f m (cAt [1, 1, 1, 0, 1, 0, 0, 1, 1, 0, 0, 1, 1] B11) (evCode P Γ call n f m (cAt [1, 1, 1, 0, 1, 0, 0, 1, 1, 0, 0, 1, 0] B11) s H) := at_seq (by kernel_rfl) rfl rfl s H
noncomputable def r11_31 : {l : List Oper // opsOf (cAt [1, 1, 1, 0, 1, 0, 0, 1, 1, 0, 0, 1, 0] B11) = l} := by
  apply Subtype.mk
  dsimp only [opsOf, cAt, kids, B11, bodyOf, Try.f11, List.getD, List.getElem?_cons_zero, List.getElem?_cons_succ, Option.getD_some]
@[simp] theorem n11_31 (s : List V) (H : Heap) : evCode P Γ call n f m (cAt [1, 1, 1, 0, 1, 0, 0, 1, 1, 0, 0, 1, 0] B11) s H = regNext (evOpsGo P Γ call r11_31.1 r11_31.1 s H) := at_region (by kernel_rfl) r11_31.2 s H
attribute [simp] r11_31
@[simp] theorem n11_32 (s : List V) (H : Heap) : evCode P Γ call n f m (cAt [1, 1, 1, 0, 1, 0, 0, 1, 1, 0, 0, 1, 1] B11) s H = seqNext P Γ call n f m (cAt [1, 1, 1, 0, 1, 0, 0, 1, 1, 0, 0, 1, 1, 1] B11) (evCode P Γ call n f m (cAt [1, 1, 1, 0, 1, 0, 0, 1, 1, 0, 0, 1, 1, 0] B11) s H) := at_seq (by kernel_rfl) rfl rfl s H
@[simp] theorem n11_33 (s : List V) (H : Heap) : evCode P Γ call n f m (cAt [1, 1, 1, 0, 1, 0, 0, 1, 1, 0, 0, 1, 1, 0] B11) s H = seqNext P Γ call n f m (cAt [1, 1, 1, 0, 1, 0, 0, 1, 1, 0, 0, 1, 1, 0, 1] B11) (evCode P Γ call n f m (cAt [1, 1, 1, 0, 1, 0, 0, 1, 1, 0, 0, 1, 1, 0, 0] B11) s H) := at_seq (by kernel_rfl) rfl rfl s H
noncomputable def r11_34 : {l : List Oper // opsOf (cAt [1, 1, 1, 0, 1, 0, 0, 1, 1, 0, 0, 1, 1, 0, 0] B11) = l} := by
  apply Subtype.mk
  dsimp only [opsOf, cAt, kids, B11, bodyOf, Try.f11, List.getD, List.getElem?_cons_zero, List.getElem?_cons_succ, Option.getD_some]
@[simp] theorem n11_34 (s : List V) (H : Heap) : evCode P Γ call n f m (cAt [1, 1, 1, 0, 1, 0, 0, 1, 1, 0, 0, 1, 1, 0, 0] B11) s H = regNext (evOpsGo P Γ call r11_34.1 r11_34.1 s H) := at_region (by kernel_rfl) r11_34.2 s H
attribute [simp] r11_34
@[simp] theorem n11_35 (s : List V) (H : Heap) : evCode P Γ call n f m (cAt [1, 1, 1, 0, 1, 0, 0, 1, 1, 0, 0, 1, 1, 0, 1] B11) s H = blockNext 2 (evCode P Γ call n f m (cAt [1, 1, 1, 0, 1, 0, 0, 1, 1, 0, 0, 1, 1, 0, 1, 0] B11) s H) := at_block (by kernel_rfl) rfl s H
@[simp] theorem n11_36 (s : List V) (H : Heap) : evCode P Γ call n f m (cAt [1, 1, 1, 0, 1, 0, 0, 1, 1, 0, 0, 1, 1, 0, 1, 0] B11) s H = evLoopC P Γ call n f m (cAt [1, 1, 1, 0, 1, 0, 0, 1, 1, 0, 0, 1, 1, 0, 1, 0, 0] B11) n s H := at_loop (by kernel_rfl) rfl s H
noncomputable abbrev L11_10 : Code := cAt [1, 1, 1, 0, 1, 0, 0, 1, 1, 0, 0, 1, 1, 0, 1, 0, 0] B11
@[simp] theorem n11_36f : firstRegion (cAt [1, 1, 1, 0, 1, 0, 0, 1, 1, 0, 0, 1, 1, 0, 1, 0, 0] B11) = 10 := by kernel_rfl
@[simp] theorem n11_37 (s : List V) (H : Heap) : evCode P Γ call n f m (cAt [1, 1, 1, 0, 1, 0, 0, 1, 1, 0, 0, 1, 1, 0, 1, 0, 0] B11) s H = seqNext P Γ call n f m (cAt [1, 1, 1, 0, 1, 0, 0, 1, 1, 0, 0, 1, 1, 0, 1, 0, 0, 1] B11) (evCode P Γ call n f m (cAt [1, 1, 1, 0, 1, 0, 0, 1, 1, 0, 0, 1, 1, 0, 1, 0, 0, 0] B11) s H) := at_seq (by kernel_rfl) rfl rfl s H
noncomputable def r11_38 : {l : List Oper // opsOf (cAt [1, 1, 1, 0, 1, 0, 0, 1, 1, 0, 0, 1, 1, 0, 1, 0, 0, 0] B11) = l} := by
  apply Subtype.mk
  dsimp only [opsOf, cAt, kids, B11, bodyOf, Try.f11, List.getD, List.getElem?_cons_zero, List.getElem?_cons_succ, Option.getD_some]
@[simp] theorem n11_38 (s : List V) (H : Heap) : evCode P Γ call n f m (cAt [1, 1, 1, 0, 1, 0, 0, 1, 1, 0, 0, 1, 1, 0, 1, 0, 0, 0] B11) s H = regNext (evOpsGo P Γ call r11_38.1 r11_38.1 s H) := at_region (by kernel_rfl) r11_38.2 s H
attribute [simp] r11_38
@[simp] theorem n11_39 (s : List V) (H : Heap) : evCode P Γ call n f m (cAt [1, 1, 1, 0, 1, 0, 0, 1, 1, 0, 0, 1, 1, 0, 1, 0, 0, 1] B11) s H = seqNext P Γ call n f m (cAt [1, 1, 1, 0, 1, 0, 0, 1, 1, 0, 0, 1, 1, 0, 1, 0, 0, 1, 1] B11) (evCode P Γ call n f m (cAt [1, 1, 1, 0, 1, 0, 0, 1, 1, 0, 0, 1, 1, 0, 1, 0, 0, 1, 0] B11) s H) := at_seq (by kernel_rfl) rfl rfl s H
@[simp] theorem n11_40 (s : List V) (H : Heap) : evCode P Γ call n f m (cAt [1, 1, 1, 0, 1, 0, 0, 1, 1, 0, 0, 1, 1, 0, 1, 0, 0, 1, 0] B11) s H = condW P Γ call n f m (cAt [1, 1, 1, 0, 1, 0, 0, 1, 1, 0, 0, 1, 1, 0, 1, 0, 0, 1, 0, 0] B11) (cAt [1, 1, 1, 0, 1, 0, 0, 1, 1, 0, 0, 1, 1, 0, 1, 0, 0, 1, 0, 1] B11) s H (evOperand Γ s (.tmp 27)) := at_cond (by kernel_rfl) (by kernel_rfl) rfl rfl s H
@[simp] theorem n11_41 (s : List V) (H : Heap) : evCode P Γ call n f m (cAt [1, 1, 1, 0, 1, 0, 0, 1, 1, 0, 0, 1, 1, 0, 1, 0, 0, 1, 0, 0] B11) s H = some (.normal, s, H) := at_skip (by kernel_rfl) s H
@[simp] theorem n11_42 (s : List V) (H : Heap) : evCode P Γ call n f m (cAt [1, 1, 1, 0, 1, 0, 0, 1, 1, 0, 0, 1, 1, 0, 1, 0, 0, 1, 0, 1] B11) s H = some (.exit 2, s, H) := at_exit (by kernel_rfl) s H
@[simp] theorem n11_43 (s : List V) (H : Heap) : evCode P Γ call n f m (cAt [1, 1, 1, 0, 1, 0, 0, 1, 1, 0, 0, 1, 1, 0, 1, 0, 0, 1, 1] B11) s H = seqNext P Γ call n f m (cAt [1, 1, 1, 0, 1, 0, 0, 1, 1, 0, 0, 1, 1, 0, 1, 0, 0, 1, 1, 1] B11) (evCode P Γ call n f m (cAt [1, 1, 1, 0, 1, 0, 0, 1, 1, 0, 0, 1, 1, 0, 1, 0, 0, 1, 1, 0] B11) s H) := at_seq (by kernel_rfl) rfl rfl s H
@[simp] theorem n11_44 (s : List V) (H : Heap) : evCode P Γ call n f m (cAt [1, 1, 1, 0, 1, 0, 0, 1, 1, 0, 0, 1, 1, 0, 1, 0, 0, 1, 1, 0] B11) s H = blockNext 3 (evCode P Γ call n f m (cAt [1, 1, 1, 0, 1, 0, 0, 1, 1, 0, 0, 1, 1, 0, 1, 0, 0, 1, 1, 0, 0] B11) s H) := at_block (by kernel_rfl) rfl s H
@[simp] theorem n11_45 (s : List V) (H : Heap) : evCode P Γ call n f m (cAt [1, 1, 1, 0, 1, 0, 0, 1, 1, 0, 0, 1, 1, 0, 1, 0, 0, 1, 1, 0, 0] B11) s H = seqNext P Γ call n f m (cAt [1, 1, 1, 0, 1, 0, 0, 1, 1, 0, 0, 1, 1, 0, 1, 0, 0, 1, 1, 0, 0, 1] B11) (evCode P Γ call n f m (cAt [1, 1, 1, 0, 1, 0, 0, 1, 1, 0, 0, 1, 1, 0, 1, 0, 0, 1, 1, 0, 0, 0] B11) s H) := at_seq (by kernel_rfl) rfl rfl s H
noncomputable def r11_46 : {l : List Oper // opsOf (cAt [1, 1, 1, 0, 1, 0, 0, 1, 1, 0, 0, 1, 1, 0, 1, 0, 0, 1, 1, 0, 0, 0] B11) = l} := by
  apply Subtype.mk
  dsimp only [opsOf, cAt, kids, B11, bodyOf, Try.f11, List.getD, List.getElem?_cons_zero, List.getElem?_cons_succ, Option.getD_some]
@[simp] theorem n11_46 (s : List V) (H : Heap) : evCode P Γ call n f m (cAt [1, 1, 1, 0, 1, 0, 0, 1, 1, 0, 0, 1, 1, 0, 1, 0, 0, 1, 1, 0, 0, 0] B11) s H = regNext (evOpsGo P Γ call r11_46.1 r11_46.1 s H) := at_region (by kernel_rfl) r11_46.2 s H
attribute [simp] r11_46
@[simp] theorem n11_47 (s : List V) (H : Heap) : evCode P Γ call n f m (cAt [1, 1, 1, 0, 1, 0, 0, 1, 1, 0, 0, 1, 1, 0, 1, 0, 0, 1, 1, 0, 0, 1] B11) s H = seqNext P Γ call n f m (cAt [1, 1, 1, 0, 1, 0, 0, 1, 1, 0, 0, 1, 1, 0, 1, 0, 0, 1, 1, 0, 0, 1, 1] B11) (evCode P Γ call n f m (cAt [1, 1, 1, 0, 1, 0, 0, 1, 1, 0, 0, 1, 1, 0, 1, 0, 0, 1, 1, 0, 0, 1, 0] B11) s H) := at_seq (by kernel_rfl) rfl rfl s H
noncomputable def r11_48 : {l : List Oper // opsOf (cAt [1, 1, 1, 0, 1, 0, 0, 1, 1, 0, 0, 1, 1, 0, 1, 0, 0, 1, 1, 0, 0, 1, 0] B11) = l} := by
  apply Subtype.mk
  dsimp only [opsOf, cAt, kids, B11, bodyOf, Try.f11, List.getD, List.getElem?_cons_zero, List.getElem?_cons_succ, Option.getD_some]
@[simp] theorem n11_48 (s : List V) (H : Heap) : evCode P Γ call n f m (cAt [1, 1, 1, 0, 1, 0, 0, 1, 1, 0, 0, 1, 1, 0, 1, 0, 0, 1, 1, 0, 0, 1, 0] B11) s H = regNext (evOpsGo P Γ call r11_48.1 r11_48.1 s H) := at_region (by kernel_rfl) r11_48.2 s H
attribute [simp] r11_48
@[simp] theorem n11_49 (s : List V) (H : Heap) : evCode P Γ call n f m (cAt [1, 1, 1, 0, 1, 0, 0, 1, 1, 0, 0, 1, 1, 0, 1, 0, 0, 1, 1, 0, 0, 1, 1] B11) s H = condW P Γ call n f m (cAt [1, 1, 1, 0, 1, 0, 0, 1, 1, 0, 0, 1, 1, 0, 1, 0, 0, 1, 1, 0, 0, 1, 1, 0] B11) (cAt [1, 1, 1, 0, 1, 0, 0, 1, 1, 0, 0, 1, 1, 0, 1, 0, 0, 1, 1, 0, 0, 1, 1, 1] B11) s H (evOperand Γ s (.tmp 41)) := at_cond (by kernel_rfl) (by kernel_rfl) rfl rfl s H
noncomputable def r11_50 : {l : List Oper // opsOf (cAt [1, 1, 1, 0, 1, 0, 0, 1, 1, 0, 0, 1, 1, 0, 1, 0, 0, 1, 1, 0, 0, 1, 1, 0] B11) = l} := by
  apply Subtype.mk
  dsimp only [opsOf, cAt, kids, B11, bodyOf, Try.f11, List.getD, List.getElem?_cons_zero, List.getElem?_cons_succ, Option.getD_some]
@[simp] theorem n11_50 (s : List V) (H : Heap) : evCode P Γ call n f m (cAt [1, 1, 1, 0, 1, 0, 0, 1, 1, 0, 0, 1, 1, 0, 1, 0, 0, 1, 1, 0, 0, 1, 1, 0] B11) s H = regNext (evOpsGo P Γ call r11_50.1 r11_50.1 s H) := at_region (by kernel_rfl) r11_50.2 s H
attribute [simp] r11_50
@[simp] theorem n11_51 (s : List V) (H : Heap) : evCode P Γ call n f m (cAt [1, 1, 1, 0, 1, 0, 0, 1, 1, 0, 0, 1, 1, 0, 1, 0, 0, 1, 1, 0, 0, 1, 1, 1] B11) s H = some (.normal, s, H) := at_skip (by kernel_rfl) s H
noncomputable def r11_52 : {l : List Oper // opsOf (cAt [1, 1, 1, 0, 1, 0, 0, 1, 1, 0, 0, 1, 1, 0, 1, 0, 0, 1, 1, 1] B11) = l} := by
  apply Subtype.mk
  dsimp only [opsOf, cAt, kids, B11, bodyOf, Try.f11, List.getD, List.getElem?_cons_zero, List.getElem?_cons_succ, Option.getD_some]
@[simp] theorem n11_52 (s : List V) (H : Heap) : evCode P Γ call n f m (cAt [1, 1, 1, 0, 1, 0, 0, 1, 1, 0, 0, 1, 1, 0, 1, 0, 0, 1, 1, 1] B11) s H = regNext (evOpsGo P Γ call r11_52.1 r11_52.1 s H) := at_region (by kernel_rfl) r11_52.2 s H
attribute [simp] r11_52
@[simp] theorem n11_53 (s : List V) (H : Heap) : evCode P Γ call n f m (cAt [1, 1, 1, 0, 1, 0, 0, 1, 1, 0, 0, 1, 1, 1] B11) s H = seqNext P Γ call n f m (cAt [1, 1, 1, 0, 1, 0, 0, 1, 1, 0, 0, 1, 1, 1, 1] B11) (evCode P Γ call n f m (cAt [1, 1, 1, 0, 1, 0, 0, 1, 1, 0, 0, 1, 1, 1, 0] B11) s H) := at_seq (by kernel_rfl) rfl rfl s H
noncomputable def r11_54 : {l : List Oper // opsOf (cAt [1, 1, 1, 0, 1, 0, 0, 1, 1, 0, 0, 1, 1, 1, 0] B11) = l} := by
  apply Subtype.mk
  dsimp only [opsOf, cAt, kids, B11, bodyOf, Try.f11, List.getD, List.getElem?_cons_zero, List.getElem?_cons_succ, Option.getD_some]
@[simp] theorem n11_54 (s : List V) (H : Heap) : evCode P Γ call n f m (cAt [1, 1, 1, 0, 1, 0, 0, 1, 1, 0, 0, 1, 1, 1, 0] B11) s H = regNext (evOpsGo P Γ call r11_54.1 r11_54.1 s H) := at_region (by kernel_rfl) r11_54.2 s H
attribute [simp] r11_54
@[simp] theorem n11_55 (s : List V) (H : Heap) : evCode P Γ call n f m (cAt [1, 1, 1, 0, 1, 0, 0, 1, 1, 0, 0, 1, 1, 1, 1] B11) s H = condW P Γ call n f m (cAt [1, 1, 1, 0, 1, 0, 0, 1, 1, 0, 0, 1, 1, 1, 1, 0] B11) (cAt [1, 1, 1, 0, 1, 0, 0, 1, 1, 0, 0, 1, 1, 1, 1, 1] B11) s H (evOperand Γ s (.tmp 47)) := at_cond (by kernel_rfl) (by kernel_rfl) rfl rfl s H
noncomputable def r11_56 : {l : List Oper // opsOf (cAt [1, 1, 1, 0, 1, 0, 0, 1, 1, 0, 0, 1, 1, 1, 1, 0] B11) = l} := by
  apply Subtype.mk
  dsimp only [opsOf, cAt, kids, B11, bodyOf, Try.f11, List.getD, List.getElem?_cons_zero, List.getElem?_cons_succ, Option.getD_some]
@[simp] theorem n11_56 (s : List V) (H : Heap) : evCode P Γ call n f m (cAt [1, 1, 1, 0, 1, 0, 0, 1, 1, 0, 0, 1, 1, 1, 1, 0] B11) s H = regNext (drawR P Γ call r11_56.1 [([1, 2], [49, 50]), ([0, 3], [48, 6]), ([0, 3], [48, 6]), ([1, 2], [49, 50]), ([], [])] s H) := at_drawT (by kernel_rfl) r11_56.2 (by kernel_rfl) s H
attribute [simp] r11_56
@[simp] theorem n11_57 (s : List V) (H : Heap) : evCode P Γ call n f m (cAt [1, 1, 1, 0, 1, 0, 0, 1, 1, 0, 0, 1, 1, 1, 1, 1] B11) s H = some (.normal, s, H) := at_skip (by kernel_rfl) s H
noncomputable def r11_58 : {l : List Oper // opsOf (cAt [1, 1, 1, 0, 1, 0, 0, 1, 1, 1] B11) = l} := by
  apply Subtype.mk
  dsimp only [opsOf, cAt, kids, B11, bodyOf, Try.f11, List.getD, List.getElem?_cons_zero, List.getElem?_cons_succ, Option.getD_some]
@[simp] theorem n11_58 (s : List V) (H : Heap) : evCode P Γ call n f m (cAt [1, 1, 1, 0, 1, 0, 0, 1, 1, 1] B11) s H = regNext (evOpsGo P Γ call r11_58.1 r11_58.1 s H) := at_region (by kernel_rfl) r11_58.2 s H
attribute [simp] r11_58
@[simp] theorem n11_59 (s : List V) (H : Heap) : evCode P Γ call n f m (cAt [1, 1, 1, 1] B11) s H = seqNext P Γ call n f m (cAt [1, 1, 1, 1, 1] B11) (evCode P Γ call n f m (cAt [1, 1, 1, 1, 0] B11) s H) := at_seq (by kernel_rfl) rfl rfl s H
noncomputable def r11_60 : {l : List Oper // opsOf (cAt [1, 1, 1, 1, 0] B11) = l} := by
  apply Subtype.mk
  dsimp only [opsOf, cAt, kids, B11, bodyOf, Try.f11, List.getD, List.getElem?_cons_zero, List.getElem?_cons_succ, Option.getD_some]
@[simp] theorem n11_60 (s : List V) (H : Heap) : evCode P Γ call n f m (cAt [1, 1, 1, 1, 0] B11) s H = regNext (evOpsGo P Γ call r11_60.1 r11_60.1 s H) := at_region (by kernel_rfl) r11_60.2 s H
attribute [simp] r11_60
@[simp] theorem n11_61 (s : List V) (H : Heap) : evCode P Γ call n f m (cAt [1, 1, 1, 1, 1] B11) s H = some (.ret, s, H) := at_ret (by kernel_rfl) s H
theorem b11 {k : Nat} (ho : ∀ args H, Γ.orc 11 args H = none) (args : List V) (H : Heap) (ha : args.length ≤ 54) : evF Try.prog Γ (k + 1) 11 args H = bodyEnd Try.prog [.tmp 2, .tmp 3, .tmp 4] H.length (evCode Try.prog Γ (evF Try.prog Γ k) k 11 H.length (cAt [] B11) (mkL 54 V.undef (enumV 0 args)) H) := body_at Try.func11 (by decide) rfl ho rfl rfl args H ha
noncomputable def B12 : Code := bodyOf Try.f12
@[simp] theorem n12_1 (s : List V) (H : Heap) : evCode P Γ call n f m (cAt [] B12) s H = seqNext P Γ call n f m (cAt [1] B12) (evCode P Γ call n f m (cAt [0] B12) s H) := at_seq (by kernel_rfl) rfl rfl s H
noncomputable def r12_2 : {l : List Oper // opsOf (cAt [0] B12) = l} := by
  apply Subtype.mk
  dsimp only [opsOf, cAt, kids, B12, bodyOf, Try.f12, List.getD, List.getElem?_cons_zero, List.getElem?_cons_succ, Option.getD_some]
@[simp] theorem n12_2 (s : List V) (H : Heap) : evCode P Γ call n f m (cAt [0] B12) s H = regNext (evOpsGo P Γ call r12_2.1 r12_2.1 s H) := at_region (by kernel_rfl) r12_2.2 s H
attribute [simp] r12_2
@[simp] theorem n12_3 (s : List V) (H : Heap) : evCode P Γ call n f m (cAt [1] B12) s H = seqNext P Γ call n f m (cAt [1, 1] B12) (evCode P Γ call n f m (cAt [1, 0] B12) s H) := at_seq (by kernel_rfl) rfl rfl s H
noncomputable def r12_4 : {l : List Oper // opsOf (cAt [1, 0] B12) = l} := by
  apply Subtype.mk
  dsimp only [opsOf, cAt, kids, B12, bodyOf, Try.f12, List.getD, List.getElem?_cons_zero, List.getElem?_cons_succ, Option.getD_some]
@[simp] theorem n12_4 (s : List V) (H : Heap) : evCode P Γ call n f m (cAt [1, 0] B12) s H = regNext (evOpsGo P Γ call r12_4.1 r12_4.1 s H) := at_region (by kernel_rfl) r12_4.2 s H
attribute [simp] r12_4
@[simp] theorem n12_5 (s : List V) (H : Heap) : evCode P Γ call n f m (cAt [1, 1] B12) s H = seqNext P Γ call n f m (cAt [1, 1, 1] B12) (evCode P Γ call n f m (cAt [1, 1, 0] B12) s H) := at_seq (by kernel_rfl) rfl rfl s H
noncomputable def r12_6 : {l : List Oper // opsOf (cAt [1, 1, 0] B12) = l} := by
  apply Subtype.mk
  dsimp only [opsOf, cAt, kids, B12, bodyOf, Try.f12, List.getD, List.getElem?_cons_zero, List.getElem?_cons_succ, Option.getD_some]
@[simp] theorem n12_6 (s : List V) (H : Heap) : evCode P Γ call n f m (cAt [1, 1, 0] B12) s H = regNext (evOpsGo P Γ call r12_6.1 r12_6.1 s H) := at_region (by kernel_rfl) r12_6.2 s H
attribute [simp] r12_6
@[simp] theorem n12_7 (s : List V) (H : Heap) : evCode P Γ call n f m (cAt [1, 1, 1] B12) s H = some (.ret, s, H) := at_ret (by kernel_rfl) s H
theorem b12 {k : Nat} (ho : ∀ args H, Γ.orc 12 args H = none) (args : List V) (H : Heap) (ha : args.length ≤ 24) : evF Try.prog Γ (k + 1) 12 args H = bodyEnd Try.prog [.tmp 0] H.length (evCode Try.prog Γ (evF Try.prog Γ k) k 12 H.length (cAt [] B12) (mkL 24 V.undef (enumV 0 args)) H) := body_at Try.func12 (by decide) rfl ho rfl rfl args H ha
noncomputable def B13 : Code := bodyOf Try.f13
@[simp] theorem n13_1 (s : List V) (H : Heap) : evCode P Γ call n f m (cAt [] B13) s H = seqNext P Γ call n f m (cAt [1] B13) (evCode P Γ call n f m (cAt [0] B13) s H) := at_seq (by kernel_rfl) rfl rfl s H
noncomputable def r13_2 : {l : List Oper // opsOf (cAt [0] B13) = l} := by
  apply Subtype.mk
  dsimp only [opsOf, cAt, kids, B13, bodyOf, Try.f13, List.getD, List.getElem?_cons_zero, List.getElem?_cons_succ, Option.getD_some]
@[simp] theorem n13_2 (s : List V) (H : Heap) : evCode P Γ call n f m (cAt [0] B13) s H = regNext (evOpsGo P Γ call r13_2.1 r13_2.1 s H) := at_region (by kernel_rfl) r13_2.2 s H
attribute [simp] r13_2
@[simp] theorem n13_3 (s : List V) (H : Heap) : evCode P Γ call n f m (cAt [1] B13) s H = seqNext P Γ call n f m (cAt [1, 1] B13) (evCode P Γ call n f m (cAt [1, 0] B13) s H) := at_seq (by kernel_rfl) rfl rfl s H
noncomputable def r13_4 : {l : List Oper // opsOf (cAt [1, 0] B13) = l} := by
  apply Subtype.mk
  dsimp only [opsOf, cAt, kids, B13, bodyOf, Try.f13, List.getD, List.getElem?_cons_zero, List.getElem?_cons_succ, Option.getD_some]
@[simp] theorem n13_4 (s : List V) (H : Heap) : evCode P Γ call n f m (cAt [1, 0] B13) s H = regNext (evOpsGo P Γ call r13_4.1 r13_4.1 s H) := at_region (by kernel_rfl) r13_4.2 s H
attribute [simp] r13_4
@[simp] theorem n13_5 (s : List V) (H : Heap) : evCode P Γ call n f m (cAt [1, 1] B13) s H = seqNext P Γ call n f m (cAt [1, 1, 1] B13) (evCode P Γ call n f m (cAt [1, 1, 0] B13) s H) := at_seq (by kernel_rfl) rfl rfl s H
@[simp] theorem n13_6 (s : List V) (H : Heap) : evCode P Γ call n f m (cAt [1, 1, 0] B13) s H = seqNext P Γ call n f m (cAt [1, 1, 0, 1] B13) (evCode P Γ call n f m (cAt [1, 1, 0, 0] B13) s H) := at_seq (by kernel_rfl) rfl rfl s H
noncomputable def r13_7 : {l : List Oper // opsOf (cAt [1, 1, 0, 0] B13) = l} := by
  apply Subtype.mk
  dsimp only [opsOf, cAt, kids, B13, bodyOf, Try.f13, List.getD, List.getElem?_cons_zero, List.getElem?_cons_succ, Option.getD_some]
@[simp] theorem n13_7 (s : List V) (H : Heap) : evCode P Γ call n f m (cAt [1, 1, 0, 0] B13) s H = regNext (evOpsGo P Γ call r13_7.1 r13_7.1 s H) := at_region (by kernel_rfl) r13_7.2 s H
attribute [simp] r13_7
@[simp] theorem n13_8 (s : List V) (H : Heap) : evCode P Γ call n f m (cAt [1, 1, 0, 1] B13) s H = condW P Γ call n f m (cAt [1, 1, 0, 1, 0] B13) (cAt [1, 1, 0, 1, 1] B13) s H (evOperand Γ s (.tmp 9)) := at_cond (by kernel_rfl) (by kernel_rfl) rfl rfl s H
noncomputable def r13_9 : {l : List Oper // opsOf (cAt [1, 1, 0, 1, 0] B13) = l} := by
  apply Subtype.mk
  dsimp only [opsOf, cAt, kids, B13, bodyOf, Try.f13, List.getD, List.getElem?_cons_zero, List.getElem?_cons_succ, Option.getD_some]
@[simp] theorem n13_9 (s : List V) (H : Heap) : evCode P Γ call n f m (cAt [1, 1, 0, 1, 0] B13) s H = regNext (evOpsGo P Γ call r13_9.1 r13_9.1 s H) := at_region (by kernel_rfl) r13_9.2 s H
attribute [simp] r13_9
@[simp] theorem n13_10 (s : List V) (H : Heap) : evCode P Γ call n f m (cAt [1, 1, 0, 1, 1] B13) s H = some (.normal, s, H) := at_skip (by kernel_rfl) s H
@[simp] theorem n13_11 (s : List V) (H : Heap) : evCode P Γ call n f m (cAt [1, 1, 1] B13) s H = seqNext P Γ call n f m (cAt [1, 1, 1, 1] B13) (evCode P Γ call n f m (cAt [1, 1, 1, 0] B13) s H) := at_seq (by kernel_rfl) rfl rfl s H
noncomputable def r13_12 : {l : List Oper // opsOf (cAt [1, 1, 1, 0] B13) = l} := by
  apply Subtype.mk
  dsimp only [opsOf, cAt, kids, B13, bodyOf, Try.f13, List.getD, List.getElem?_cons_zero, List.getElem?_cons_succ, Option.getD_some]
@[simp] theorem n13_12 (s : List V) (H : Heap) : evCode P Γ call n f m (cAt [1, 1, 1, 0] B13) s H = regNext (evOpsGo P Γ call r13_12.1 r13_12.1 s H) := at_region (by kernel_rfl) r13_12.2 s H
attribute [simp] r13_12
@[simp] theorem n13_13 (s : List V) (H : Heap) : evCode P Γ call n f m (cAt [1, 1, 1, 1] B13) s H = some (.ret, s, H) := at_ret (by kernel_rfl) s H
theorem b13 {k : Nat} (ho : ∀ args H, Γ.orc 13 args H = none) (args : List V) (H : Heap) (ha : args.length ≤ 14) : evF Try.prog Γ (k + 1) 13 args H = bodyEnd Try.prog [.tmp 4] H.length (evCode Try.prog Γ (evF Try.prog Γ k) k 13 H.length (cAt [] B13) (mkL 14 V.undef (enumV 0 args)) H) := body_at Try.func13 (by decide) rfl ho rfl rfl args H ha
noncomputable def B23 : Code := bodyOf Try.f23
@[simp] theorem n23_1 (s : List V) (H : Heap) : evCode P Γ call n f m (cAt [] B23) s H = seqNext P Γ call n f m (cAt [1] B23) (evCode P Γ call n f m (cAt [0] B23) s H) := at_seq (by kernel_rfl) rfl rfl s H
noncomputable def r23_2 : {l : List Oper // opsOf (cAt [0] B23) = l} := by
  apply Subtype.mk
  dsimp only [opsOf, cAt, kids, B23, bodyOf, Try.f23, List.getD, List.getElem?_cons_zero, List.getElem?_cons_succ, Option.getD_some]
@[simp] theorem n23_2 (s : List V) (H : Heap) : evCode P Γ call n f m (cAt [0] B23) s H = regNext (evOpsGo P Γ call r23_2.1 r23_2.1 s H) := at_region (by kernel_rfl) r23_2.2 s H
attribute [simp] r23_2
@[simp] theorem n23_3 (s : List V) (H : Heap) : evCode P Γ call n f m (cAt [1] B23) s H = seqNext P Γ call n f m (cAt [1, 1] B23) (evCode P Γ call n f m (cAt [1, 0] B23) s H) := at_seq (by kernel_rfl) rfl rfl s H
@[simp] theorem n23_4 (s : List V) (H : Heap) : evCode P Γ call n f m (cAt [1, 0] B23) s H = seqNext P Γ call n f m (cAt [1, 0, 1] B23) (evCode P Γ call n f m (cAt [1, 0, 0] B23) s H) := at_seq (by kernel_rfl) rfl rfl s H
noncomputable def r23_5 : {l : List Oper // opsOf (cAt [1, 0, 0] B23) = l} := by
  apply Subtype.mk
  dsimp only [opsOf, cAt, kids, B23, bodyOf, Try.f23, List.getD, List.getElem?_cons_zero, List.getElem?_cons_succ, Option.getD_some]
@[simp] theorem n23_5 (s : List V) (H : Heap) : evCode P Γ call n f m (cAt [1, 0, 0] B23) s H = regNext (evOpsGo P Γ call r23_5.1 r23_5.1 s H) := at_region (by kernel_rfl) r23_5.2 s H
attribute [simp] r23_5
@[simp] theorem n23_6 (s : List V) (H : Heap) : evCode P Γ call n f m (cAt [1, 0, 1] B23) s H = condW P Γ call n f m (cAt [1, 0, 1, 0] B23) (cAt [1, 0, 1, 1] B23) s H (evOperand Γ s (.tmp 7)) := at_cond (by kernel_rfl) (by kernel_rfl) rfl rfl s H
@[simp] theorem n23_7 (s : List V) (H : Heap) : evCode P Γ call n f m (cAt [1, 0, 1, 0] B23) s H = seqNext P Γ call n f m (cAt [1, 0, 1, 0, 1] B23) (evCode P Γ call n f m (cAt [1, 0, 1, 0, 0] B23) s H) := at_seq (by kernel_rfl) rfl rfl s H
noncomputable def r23_8 : {l : List Oper // opsOf (cAt [1, 0, 1, 0, 0] B23) = l} := by
  apply Subtype.mk
  dsimp only [opsOf, cAt, kids, B23, bodyOf, Try.f23, List.getD, List.getElem?_cons_zero, List.getElem?_cons_succ, Option.getD_some]
@[simp] theorem n23_8 (s : List V) (H : Heap) : evCode P Γ call n f m (cAt [1, 0, 1, 0, 0] B23) s H = regNext (evOpsGo P Γ call r23_8.1 r23_8.1 s H) := at_region (by kernel_rfl) r23_8.2 s H
attribute [simp] r23_8
@[simp] theorem n23_9 (s : List V) (H : Heap) : evCode P Γ call n f m (cAt [1, 0, 1, 0, 1] B23) s H = some (.ret, s, H) := at_ret (by kernel_rfl) s H
@[simp] theorem n23_10 (s : List V) (H : Heap) : evCode P Γ call n f m (cAt [1, 0, 1, 1] B23) s H = some (.normal, s, H) := at_skip (by kernel_rfl) s H
@[simp] theorem n23_11 (s : List V) (H : Heap) : evCode P Γ call n f m (cAt [1, 1] B23) s H = seqNext P Γ call n f m (cAt [1, 1, 1] B23) (evCode P Γ call n f m (cAt [1, 1, 0] B23) s H) := at_seq (by kernel_rfl) rfl rfl s H
@[simp] theorem n23_12 (s : List V) (H : Heap) : evCode P Γ call n f m (cAt [1, 1, 0] B23) s H = seqNext P Γ call n f m (cAt [1, 1, 0, 1] B23) (evCode P Γ call n f m (cAt [1, 1, 0, 0] B23) s H) := at_seq (by kernel_rfl) rfl rfl s H
noncomputable def r23_13 : {l : List Oper // opsOf (cAt [1, 1, 0, 0] B23) = l} := by
  apply Subtype.mk
  dsimp only [opsOf, cAt, kids, B23, bodyOf, Try.f23, List.getD, List.getElem?_cons_zero, List.getElem?_cons_succ, Option.getD_some]
@[simp] theorem n23_13 (s : List V) (H : Heap) : evCode P Γ call n f m (cAt [1, 1, 0, 0] B23) s H = regNext (evOpsGo P Γ call r23_13.1 r23_13.1 s H) := at_region (by kernel_rfl) r23_13.2 s H
attribute [simp] r23_13
@[simp] theorem n23_14 (s : List V) (H : Heap) : evCode P Γ call n f m (cAt [1, 1, 0, 1] B23) s H = blockNext 0 (evCode P Γ call n f m (cAt [1, 1, 0, 1, 0] B23) s H) := at_block (by kernel_rfl) rfl s H
@[simp] theorem n23_15 (s : List V) (H : Heap) : evCode P Γ call n f m (cAt [1, 1, 0, 1, 0] B23) s H = evLoopC P Γ call n f m (cAt [1, 1, 0, 1, 0, 0] B23) n s H := at_loop (by kernel_rfl) rfl s H
noncomputable abbrev L23_4 : Code := cAt [1, 1, 0, 1, 0, 0] B23
@[simp] theorem n23_15f : firstRegion (cAt [1, 1, 0, 1, 0, 0] B23) = 4 := by kernel_rfl
@[simp] theorem n23_16 (s : List V) (H : Heap) : evCode P Γ call n f m (cAt [1, 1, 0, 1, 0, 0] B23) s H = seqNext P Γ call n f m (cAt [1, 1, 0, 1, 0, 0, 1] B23) (evCode P Γ call n f m (cAt [1, 1, 0, 1, 0, 0, 0] B23) s H) := at_seq (by kernel_rfl) rfl rfl s H
noncomputable def r23_17 : {l : List Oper // opsOf (cAt [1, 1, 0, 1, 0, 0, 0] B23) = l} := by
  apply Subtype.mk
  dsimp only [opsOf, cAt, kids, B23, bodyOf, Try.f23, List.getD, List.getElem?_cons_zero, List.getElem?_cons_succ, Option.getD_some]
@[simp] theorem n23_17 (s : List V) (H : Heap) : evCode P Γ call n f m (cAt [1, 1, 0, 1, 0, 0, 0] B23) s H = regNext (evOpsGo P Γ call r23_17.1 r23_17.1 s H) := at_region (by kernel_rfl) r23_17.2 s H
attribute [simp] r23_17
@[simp] theorem n23_18 (s : List V) (H : Heap) : evCode P Γ call n f m (cAt [1, 1, 0, 1, 0, 0, 1] B23) s H = seqNext P Γ call n f m (cAt [1, 1, 0, 1, 0, 0, 1, 1] B23) (evCode P Γ call n f m (cAt [1, 1, 0, 1, 0, 0, 1, 0] B23) s H) := at_seq (by kernel_rfl) rfl rfl s H
@[simp] theorem n23_19 (s : List V) (H : Heap) : evCode P Γ call n f m (cAt [1, 1, 0, 1, 0, 0, 1, 0] B23) s H = condW P Γ call n f m (cAt [1, 1, 0, 1, 0, 0, 1, 0, 0] B23) (cAt [1, 1, 0, 1, 0, 0, 1, 0, 1] B23) s H (evOperand Γ s (.tmp 11)) := at_cond (by kernel_rfl) (by kernel_rfl) rfl rfl s H
@[simp] theorem n23_20 (s : List V) (H : Heap) : evCode P Γ call n f m (cAt [1, 1, 0, 1, 0, 0, 1, 0, 0] B23) s H = some (.normal, s, H) := at_skip (by kernel_rfl) s H
@[simp] theorem n23_21 (s : List V) (H : Heap) : evCode P Γ call n f m (cAt [1, 1, 0, 1, 0, 0, 1, 0, 1] B23) s H = some (.exit 0, s, H) := at_exit (by kernel_rfl) s H
@[simp] theorem n23_22 (s : List V) (H : Heap) : evCode P Γ call n f m (cAt [1, 1, 0, 1, 0, 0, 1, 1] B23) s H = seqNext P Γ call n f m (cAt [1, 1, 0, 1, 0, 0, 1, 1, 1] B23) (evCode P Γ call n f m (cAt [1, 1, 0, 1, 0, 0, 1, 1, 0] B23) s H) := at_seq (by kernel_rfl) rfl rfl s H
@[simp] theorem n23_23 (s : List V) (H : Heap) : evCode P Γ call n f m (cAt [1, 1, 0, 1, 0, 0, 1, 1, 0] B23) s H = blockNext 1 (evCode P Γ call n f m (cAt [1, 1, 0, 1, 0, 0, 1, 1, 0, 0] B23) s H) := at_block (by kernel_rfl) rfl s H
@[simp] theorem n23_24 (s : List V) (H : Heap) : evCode P Γ call n f m (cAt [1, 1, 0, 1, 0, 0, 1, 1, 0, 0] B23) s H = seqNext P Γ call n f m (cAt [1, 1, 0, 1, 0, 0, 1, 1, 0, 0, 1] B23) (evCode P Γ call n f m (cAt [1, 1, 0, 1, 0, 0, 1, 1, 0, 0, 0] B23) s H) := at_seq (by kernel_rfl) rfl rfl s H
noncomputable def r23_25 : {l : List Oper // opsOf (cAt [1, 1, 0, 1, 0, 0, 1, 1, 0, 0, 0] B23) = l} := by
  apply Subtype.mk
  dsimp only [opsOf, cAt, kids, B23, bodyOf, Try.f23, List.getD, List.getElem?_cons_zero, List.getElem?_cons_succ, Option.getD_some]
@[simp] theorem n23_25 (s : List V) (H : Heap) : evCode P Γ call n f m (cAt [1, 1, 0, 1, 0, 0, 1, 1, 0, 0, 0] B23) s H = regNext (evOpsGo P Γ call r23_25.1 r23_25.1 s H) := at_region (by kernel_rfl) r23_25.2 s H
attribute [simp] r23_25
@[simp] theorem n23_26 (s : List V) (H : Heap) : evCode P Γ call n f m (cAt [1, 1, 0, 1, 0, 0, 1, 1, 0, 0, 1] B23) s H = seqNext P Γ call n f m (cAt [1, 1, 0, 1, 0, 0, 1, 1, 0, 0, 1, 1] B23) (evCode P Γ call n f m (cAt [1, 1, 0, 1, 0, 0, 1, 1, 0, 0, 1, 0] B23) s H) := at_seq (by kernel_rfl) rfl rfl s H
@[simp] theorem n23_27 (s : List V) (H : Heap) : evCode P Γ call n f m (cAt [1, 1, 0, 1, 0, 0, 1, 1, 0, 0, 1, 0] B23) s H = seqNext P Γ call n f m (cAt [1, 1, 0, 1, 0, 0, 1, 1, 0, 0, 1, 0, 1] B23) (evCode P Γ call n f m (cAt [1, 1, 0, 1, 0, 0, 1, 1, 0, 0, 1, 0, 0] B23) s H) := at_seq (by kernel_rfl) rfl rfl s H
noncomputable def r23_28 : {l : List Oper // opsOf (cAt [1, 1, 0, 1, 0, 0, 1, 1, 0, 0, 1, 0, 0] B23) = l} := by
  apply Subtype.mk
  dsimp only [opsOf, cAt, kids, B23, bodyOf, Try.f23, List.getD, List.getElem?_cons_zero, List.getElem?_cons_succ, Option.getD_some]
@[simp] theorem n23_28 (s : List V) (H : Heap) : evCode P Γ call n f m (cAt [1, 1, 0, 1, 0, 0, 1, 1, 0, 0, 1, 0, 0] B23) s H = regNext (evOpsGo P Γ call r23_28.1 r23_28.1 s H) := at_region (by kernel_rfl) r23_28.2 s H
attribute [simp] r23_28
@[simp] theorem n23_29 (s : List V) (H : Heap) : evCode P Γ call n f m (cAt [1, 1, 0, 1, 0, 0, 1, 1, 0, 0, 1, 0, 1] B23) s H = condW P Γ call n f m (cAt [1, 1, 0, 1, 0, 0, 1, 1, 0, 0, 1, 0, 1, 0] B23) (cAt [1, 1, 0, 1, 0, 0, 1, 1, 0, 0, 1, 0, 1, 1] B23) s H (evOperand Γ s (.tmp 29)) := at_cond (by kernel_rfl) (by kernel_rfl) rfl rfl s H
@[simp] theorem n23_30 (s : List V) (H : Heap) : evCode P Γ call n f m (cAt [1, 1, 0, 1, 0, 0, 1, 1, 0, 0, 1, 0, 1, 0] B23) s H = seqNext P Γ call n f m (cAt [1, 1, 0, 1, 0, 0, 1, 1, 0, 0, 1, 0, 1, 0, 1] B23) (evCode P Γ call n f m (cAt [1, 1, 0, 1, 0, 0, 1, 1, 0, 0, 1, 0, 1, 0, 0] B23) s H) := at_seq (by kernel_rfl) rfl rfl s H
noncomputable def r23_31 : {l : List Oper // opsOf (cAt [1, 1, 0, 1, 0, 0, 1, 1, 0, 0, 1, 0, 1, 0, 0] B23) = l} := by
  apply Subtype.mk
  dsimp only [opsOf, cAt, kids, B23, bodyOf, Try.f23, List.getD, List.getElem?_cons_zero, List.getElem?_cons_succ, Option.getD_some]
@[simp] theorem n23_31 (s : List V) (H : Heap) : evCode P Γ call n f m (cAt [1, 1, 0, 1, 0, 0, 1, 1, 0, 0, 1, 0, 1, 0, 0] B23) s H = regNext (evOpsGo P Γ call r23_31.1 r23_31.1 s H) := at_region (by kernel_rfl) r23_31.2 s H
attribute [simp] r23_31
@[simp] theorem n23_32 (s : List V) (H : Heap) : evCode P Γ call n f m (cAt [1, 1, 0, 1, 0, 0, 1, 1, 0, 0, 1, 0, 1, 0, 1] B23) s H = some (.ret, s, H) := at_ret (by kernel_rfl) s H
@[simp] theorem n23_33 (s : List V) (H : Heap) : evCode P Γ call n f m (cAt [1, 1, 0, 1, 0, 0, 1, 1, 0, 0, 1, 0, 1, 1] B23) s H = some (.normal, s, H) := at_skip (by kernel_rfl) s H
@[simp] theorem n23_34 (s : List V) (H : Heap) : evCode P Γ call n f m (cAt [1, 1, 0, 1, 0, 0, 1, 1, 0, 0, 1, 1] B23) s H = seqNext P Γ call n f m (cAt [1, 1, 0, 1, 0, 0, 1, 1, 0, 0, 1, 1, 1] B23) (evCode P Γ call n f m (cAt [1, 1, 0, 1, 0, 0, 1, 1, 0, 0, 1, 1, 0] B23) s H) := at_seq (by kernel_rfl) rfl rfl s H
noncomputable def r23_35 : {l : List Oper // opsOf (cAt [1, 1, 0, 1, 0, 0, 1, 1, 0, 0, 1, 1, 0] B23) = l} := by
  apply Subtype.mk
  dsimp only [opsOf, cAt, kids, B23, bodyOf, Try.f23, List.getD, List.getElem?_cons_zero, List.getElem?_cons_succ, Option.getD_some]
@[simp] theorem n23_35 (s : List V) (H : Heap) : evCode P Γ call n f m (cAt [1, 1, 0, 1, 0, 0, 1, 1, 0, 0, 1, 1, 0] B23) s H = regNext (drawR P Γ call r23_35.1 [([], []), ([], []), ([], []), ([4, 5, 8], [34, 35, 38]), ([3, 8], [33, 38]), ([3, 8], [33, 38]), ([8], [38]), ([8], [38]), ([3, 4, 5, 6, 7], [33, 34, 35, 36, 37]), ([], []), ([], []), ([], [])] s H) := at_drawT (by kernel_rfl) r23_35.2 (by kernel_rfl) s H
attribute [simp] r23_35
@[simp] theorem n23_36 (s : List V) (H : Heap) : evCode P Γ call n f m (cAt [1, 1, 0, 1, 0, 0, 1, 1, 0, 0, 1, 1, 1] B23) s H = condW P Γ call n f m (cAt [1, 1, 0, 1, 0, 0, 1, 1, 0, 0, 1, 1, 1, 0] B23) (cAt [1, 1, 0, 1, 0, 0, 1, 1, 0, 0, 1, 1, 1, 1] B23) s H (evOperand Γ s (.tmp 41)) := at_cond (by kernel_rfl) (by kernel_rfl) rfl rfl s H
@[simp] theorem n23_37 (s : List V) (H : Heap) : evCode P Γ call n f m (cAt [1, 1, 0, 1, 0, 0, 1, 1, 0, 0, 1, 1, 1, 0] B23) s H = seqNext P Γ call n f m (cAt [1, 1, 0, 1, 0, 0, 1, 1, 0, 0, 1, 1, 1, 0, 1] B23) (evCode P Γ call n f m (cAt [1, 1, 0, 1, 0, 0, 1, 1, 0, 0, 1, 1, 1, 0, 0] B23) s H) := at_seq (by kernel_rfl) rfl rfl s H
noncomputable def r23_38 : {l : List Oper // opsOf (cAt [1, 1, 0, 1, 0, 0, 1, 1, 0, 0, 1, 1, 1, 0, 0] B23) = l} := by
  apply Subtype.mk
  dsimp only [opsOf, cAt, kids, B23, bodyOf, Try.f23, List.getD, List.getElem?_cons_zero, List.getElem?_cons_succ, Option.getD_some]
@[simp] theorem n23_38 (s : List V) (H : Heap) : evCode P Γ call n f m (cAt [1, 1, 0, 1, 0, 0, 1, 1, 0, 0, 1, 1, 1, 0, 0] B23) s H = regNext (evOpsGo P Γ call r23_38.1 r23_38.1 s H) := at_region (by kernel_rfl) r23_38.2 s H
attribute [simp] r23_38
@[simp] theorem n23_39 (s : List V) (H : Heap) : evCode P Γ call n f m (cAt [1, 1, 0, 1, 0, 0, 1, 1, 0, 0, 1, 1, 1, 0, 1] B23) s H = some (.ret, s, H) := at_ret (by kernel_rfl) s H
@[simp] theorem n23_40 (s : List V) (H : Heap) : evCode P Γ call n f m (cAt [1, 1, 0, 1, 0, 0, 1, 1, 0, 0, 1, 1, 1, 1] B23) s H = some (.normal, s, H) := at_skip (by kernel_rfl) s H
noncomputable def r23_41 : {l : List Oper // opsOf (cAt [1, 1, 0, 1, 0, 0, 1, 1, 1] B23) = l} := by
  apply Subtype.mk
  dsimp only [opsOf, cAt, kids, B23, bodyOf, Try.f23, List.getD, List.getElem?_cons_zero, List.getElem?_cons_succ, Option.getD_some]
@[simp] theorem n23_41 (s : List V) (H : Heap) : evCode P Γ call n f m (cAt [1, 1, 0, 1, 0, 0, 1, 1, 1] B23) s H = regNext (evOpsGo P Γ call r23_41.1 r23_41.1 s H) := at_region (by kernel_rfl) r23_41.2 s H
attribute [simp] r23_41
@[simp] theorem n23_42 (s : List V) (H : Heap) : evCode P Γ call n f m (cAt [1, 1, 1] B23) s H = seqNext P Γ call n f m (cAt [1, 1, 1, 1] B23) (evCode P Γ call n f m (cAt [1, 1, 1, 0] B23) s H) := at_seq (by kernel_rfl) rfl rfl s H
noncomputable def r23_43 : {l : List Oper // opsOf (cAt [1, 1, 1, 0] B23) = l} := by
  apply Subtype.mk
  dsimp only [opsOf, cAt, kids, B23, bodyOf, Try.f23, List.getD, List.getElem?_cons_zero, List.getElem?_cons_succ, Option.getD_some]
@[simp] theorem n23_43 (s : List V) (H : Heap) : evCode P Γ call n f m (cAt [1, 1, 1, 0] B23) s H = regNext (evOpsGo P Γ call r23_43.1 r23_43.1 s H) := at_region (by kernel_rfl) r23_43.2 s H
attribute [simp] r23_43
@[simp] theorem n23_44 (s : List V) (H : Heap) : evCode P Γ call n f m (cAt [1, 1, 1, 1] B23) s H = some (.ret, s, H) := at_ret (by kernel_rfl) s H
theorem b23 {k : Nat} (ho : ∀ args H, Γ.orc 23 args H = none) (args : List V) (H : Heap) (ha : args.length ≤ 43) : evF Try.prog Γ (k + 1) 23 args H = bodyEnd Try.prog [.tmp 2] H.length (evCode Try.prog Γ (evF Try.prog Γ k) k 23 H.length (cAt [] B23) (mkL 43 V.undef (enumV 0 args)) H) := body_at Try.func23 (by decide) rfl ho rfl rfl args H ha
noncomputable def B25 : Code := bodyOf Try.f25
@[simp] theorem n25_1 (s : List V) (H : Heap) : evCode P Γ call n f m (cAt [] B25) s H = seqNext P Γ call n f m (cAt [1] B25) (evCode P Γ call n f m (cAt [0] B25) s H) := at_seq (by kernel_rfl) rfl rfl s H
noncomputable def r25_2 : {l : List Oper // opsOf (cAt [0] B25) = l} := by
  apply Subtype.mk
  dsimp only [opsOf, cAt, kids, B25, bodyOf, Try.f25, List.getD, List.getElem?_cons_zero, List.getElem?_cons_succ, Option.getD_some]
@[simp] theorem n25_2 (s : List V) (H : Heap) : evCode P Γ call n f m (cAt [0] B25) s H = regNext (evOpsGo P Γ call r25_2.1 r25_2.1 s H) := at_region (by kernel_rfl) r25_2.2 s H
attribute [simp] r25_2
@[simp] theorem n25_3 (s : List V) (H : Heap) : evCode P Γ call n f m (cAt [1] B25) s H = seqNext P Γ call n f m (cAt [1, 1] B25) (evCode P Γ call n f m (cAt [1, 0] B25) s H) := at_seq (by kernel_rfl) rfl rfl s H
noncomputable def r25_4 : {l : List Oper // opsOf (cAt [1, 0] B25) = l} := by
  apply Subtype.mk
  dsimp only [opsOf, cAt, kids, B25, bodyOf, Try.f25, List.getD, List.getElem?_cons_zero, List.getElem?_cons_succ, Option.getD_some]
@[simp] theorem n25_4 (s : List V) (H : Heap) : evCode P Γ call n f m (cAt [1, 0] B25) s H = regNext (drawR P Γ call r25_4.1 [([2, 3, 5, 6, 7, 8, 10, 11, 12, 13], [7, 8, 10, 11, 12, 13, 15, 16, 17, 18]), ([2, 3, 5, 6, 7, 8, 10, 11, 12, 13], [7, 8, 10, 11, 12, 13, 15, 16, 17, 18]), ([0, 1, 5, 6, 7, 8, 10, 11, 12, 13], [5, 6, 10, 11, 12, 13, 15, 16, 17, 18]), ([0, 1, 5, 6, 7, 8, 10, 11, 12, 13], [5, 6, 10, 11, 12, 13, 15, 16, 17, 18]), ([5, 6, 7, 8, 10, 11, 12, 13], [10, 11, 12, 13, 15, 16, 17, 18]), ([0, 1, 2, 3, 4, 7, 8, 10, 11, 12, 13], [5, 6, 7, 8, 9, 12, 13, 15, 16, 17, 18]), ([0, 1, 2, 3, 4, 7, 8, 10, 11, 12, 13], [5, 6, 7, 8, 9, 12, 13, 15, 16, 17, 18]), ([0, 1, 2, 3, 4, 5, 6, 10, 11, 12, 13], [5, 6, 7, 8, 9, 10, 11, 15, 16, 17, 18]), ([0, 1, 2, 3, 4, 5, 6, 10, 11, 12, 13], [5, 6, 7, 8, 9, 10, 11, 15, 16, 17, 18]), ([10, 11, 12, 13], [15, 16, 17, 18]), ([0, 1, 2, 3, 4, 5, 6, 7, 8, 9, 12, 13], [5, 6, 7, 8, 9, 10, 11, 12, 13, 14, 17, 18]), ([0, 1, 2, 3, 4, 5, 6, 7, 8, 9, 12, 13], [5, 6, 7, 8, 9, 10, 11, 12, 13, 14, 17, 18]), ([0, 1, 2, 3, 4, 5, 6, 7, 8, 9, 10, 11], [5, 6, 7, 8, 9, 10, 11, 12, 13, 14, 15, 16]), ([0, 1, 2, 3, 4, 5, 6, 7, 8, 9, 10, 11], [5, 6, 7, 8, 9, 10, 11, 12, 13, 14, 15, 16]), ([], []), ([], []), ([], []), ([], [])] s H) := at_drawT (by kernel_rfl) r25_4.2 (by kernel_rfl) s H
attribute [simp] r25_4
@[simp] theorem n25_5 (s : List V) (H : Heap) : evCode P Γ call n f m (cAt [1, 1] B25) s H = some (.ret, s, H) := at_ret (by kernel_rfl) s H
theorem b25 {k : Nat} (ho : ∀ args H, Γ.orc 25 args H = none) (args : List V) (H : Heap) (ha : args.length ≤ 22) : evF Try.prog Γ (k + 1) 25 args H = bodyEnd Try.prog [.tmp 4] H.length (evCode Try.prog Γ (evF Try.prog Γ k) k 25 H.length (cAt [] B25) (mkL 22 V.undef (enumV 0 args)) H) := body_at Try.func25 (by decide) rfl ho rfl rfl args H ha
noncomputable def B28 : Code := bodyOf Try.f28
@[simp] theorem n28_1 (s : List V) (H : Heap) : evCode P Γ call n f m (cAt [] B28) s H = seqNext P Γ call n f m (cAt [1] B28) (evCode P Γ call n f m (cAt [0] B28) s H) := at_seq (by kernel_rfl) rfl rfl s H
noncomputable def r28_2 : {l : List Oper // opsOf (cAt [0] B28) = l} := by
  apply Subtype.mk
  dsimp only [opsOf, cAt, kids, B28, bodyOf, Try.f28, List.getD, List.getElem?_cons_zero, List.getElem?_cons_succ, Option.getD_some]
@[simp] theorem n28_2 (s : List V) (H : Heap) : evCode P Γ call n f m (cAt [0] B28) s H = regNext (evOpsGo P Γ call r28_2.1 r28_2.1 s H) := at_region (by kernel_rfl) r28_2.2 s H
attribute [simp] r28_2
@[simp] theorem n28_3 (s : List V) (H : Heap) : evCode P Γ call n f m (cAt [1] B28) s H = seqNext P Γ call n f m (cAt [1, 1] B28) (evCode P Γ call n f m (cAt [1, 0] B28) s H) := at_seq (by kernel_rfl) rfl rfl s H
@[simp] theorem n28_4 (s : List V) (H : Heap) : evCode P Γ call n f m (cAt [1, 0] B28) s H = seqNext P Γ call n f m (cAt [1, 0, 1] B28) (evCode P Γ call n f m (cAt [1, 0, 0] B28) s H) := at_seq (by kernel_rfl) rfl rfl s H
noncomputable def r28_5 : {l : List Oper // opsOf (cAt [1, 0, 0] B28) = l} := by
  apply Subtype.mk
  dsimp only [opsOf, cAt, kids, B28, bodyOf, Try.f28, List.getD, List.getElem?_cons_zero, List.getElem?_cons_succ, Option.getD_some]
@[simp] theorem n28_5 (s : List V) (H : Heap) : evCode P Γ call n f m (cAt [1, 0, 0] B28) s H = regNext (evOpsGo P Γ call r28_5.1 r28_5.1 s H) := at_region (by kernel_rfl) r28_5.2 s H
attribute [simp] r28_5
@[simp] theorem n28_6 (s : List V) (H : Heap) : evCode P Γ call n f m (cAt [1, 0, 1] B28) s H = condW P Γ call n f m (cAt [1, 0, 1, 0] B28) (cAt [1, 0, 1, 1] B28) s H (evOperand Γ s (.tmp 15)) := at_cond (by kernel_rfl) (by kernel_rfl) rfl rfl s H
@[simp] theorem n28_7 (s : List V) (H : Heap) : evCode P Γ call n f m (cAt [1, 0, 1, 0] B28) s H = seqNext P Γ call n f m (cAt [1, 0, 1, 0, 1] B28) (evCode P Γ call n f m (cAt [1, 0, 1, 0, 0] B28) s H) := at_seq (by kernel_rfl) rfl rfl s H
noncomputable def r28_8 : {l : List Oper // opsOf (cAt [1, 0, 1, 0, 0] B28) = l} := by
  apply Subtype.mk
  dsimp only [opsOf, cAt, kids, B28, bodyOf, Try.f28, List.getD, List.getElem?_cons_zero, List.getElem?_cons_succ, Option.getD_some]
@[simp] theorem n28_8 (s : List V) (H : Heap) : evCode P Γ call n f m (cAt [1, 0, 1, 0, 0] B28) s H = regNext (evOpsGo P Γ call r28_8.1 r28_8.1 s H) := at_region (by kernel_rfl) r28_8.2 s H
attribute [simp] r28_8
@[simp] theorem n28_9 (s : List V) (H : Heap) : evCode P Γ call n f m (cAt [1, 0, 1, 0, 1] B28) s H = some (.ret, s, H) := at_ret (by kernel_rfl) s H
@[simp] theorem n28_10 (s : List V) (H : Heap) : evCode P Γ call n f m (cAt [1, 0, 1, 1] B28) s H = some (.normal, s, H) := at_skip (by kernel_rfl) s H
@[simp] theorem n28_11 (s : List V) (H : Heap) : evCode P Γ call n f m (cAt [1, 1] B28) s H = seqNext P Γ call n f m (cAt [1, 1, 1] B28) (evCode P Γ call n f m (cAt [1, 1, 0] B28) s H) := at_seq (by kernel_rfl) rfl rfl s H
noncomputable def r28_12 : {l : List Oper // opsOf (cAt [1, 1, 0] B28) = l} := by
  apply Subtype.mk
  dsimp only [opsOf, cAt, kids, B28, bodyOf, Try.f28, List.getD, List.getElem?_cons_zero, List.getElem?_cons_succ, Option.getD_some]
@[simp] theorem n28_12 (s : List V) (H : Heap) : evCode P Γ call n f m (cAt [1, 1, 0] B28) s H = regNext (evOpsGo P Γ call r28_12.1 r28_12.1 s H) := at_region (by kernel_rfl) r28_12.2 s H
attribute [simp] r28_12
@[simp] theorem n28_13 (s : List V) (H : Heap) : evCode P Γ call n f m (cAt [1, 1, 1] B28) s H = seqNext P Γ call n f m (cAt [1, 1, 1, 1] B28) (evCode P Γ call n f m (cAt [1, 1, 1, 0] B28) s H) := at_seq (by kernel_rfl) rfl rfl s H
noncomputable def r28_14 : {l : List Oper // opsOf (cAt [1, 1, 1, 0] B28) = l} := by
  apply Subtype.mk
  dsimp only [opsOf, cAt, kids, B28, bodyOf, Try.f28, List.getD, List.getElem?_cons_zero, List.getElem?_cons_succ, Option.getD_some]
@[simp] theorem n28_14 (s : List V) (H : Heap) : evCode P Γ call n f m (cAt [1, 1, 1, 0] B28) s H = regNext (evOpsGo P Γ call r28_14.1 r28_14.1 s H) := at_region (by kernel_rfl) r28_14.2 s H
attribute [simp] r28_14
@[simp] theorem n28_15 (s : List V) (H : Heap) : evCode P Γ call n f m (cAt [1, 1, 1, 1] B28) s H = seqNext P Γ call n f m (cAt [1, 1, 1, 1, 1] B28) (evCode P Γ call n f m (cAt [1, 1, 1, 1, 0] B28) s H) := at_seq (by kernel_rfl) rfl rfl s H
noncomputable def r28_16 : {l : List Oper // opsOf (cAt [1, 1, 1, 1, 0] B28) = l} := by
  apply Subtype.mk
  dsimp only [opsOf, cAt, kids, B28, bodyOf, Try.f28, List.getD, List.getElem?_cons_zero, List.getElem?_cons_succ, Option.getD_some]
@[simp] theorem n28_16 (s : List V) (H : Heap) : evCode P Γ call n f m (cAt [1, 1, 1, 1, 0] B28) s H = regNext (evOpsGo P Γ call r28_16.1 r28_16.1 s H) := at_region (by kernel_rfl) r28_16.2 s H
attribute [simp] r28_16
@[simp] theorem n28_17 (s : List V) (H : Heap) : evCode P Γ call n f m (cAt [1, 1, 1, 1, 1] B28) s H = some (.ret, s, H) := at_ret (by kernel_rfl) s H
theorem b28 {k : Nat} (ho : ∀ args H, Γ.orc 28 args H = none) (args : List V) (H : Heap) (ha : args.length ≤ 33) : evF Try.prog Γ (k + 1) 28 args H = bodyEnd Try.prog [.tmp 4] H.length (evCode Try.prog Γ (evF Try.prog Γ k) k 28 H.length (cAt [] B28) (mkL 33 V.undef (enumV 0 args)) H) := body_at Try.func28 (by decide) rfl ho rfl rfl args H ha
noncomputable def B32 : Code := bodyOf Try.f32
@[simp] theorem n32_1 (s : List V) (H : Heap) : evCode P Γ call n f m (cAt [] B32) s H = seqNext P Γ call n f m (cAt [1] B32) (evCode P Γ call n f m (cAt [0] B32) s H) := at_seq (by kernel_rfl) rfl rfl s H
noncomputable def r32_2 : {l : List Oper // opsOf (cAt [0] B32) = l} := by
  apply Subtype.mk
  dsimp only [opsOf, cAt, kids, B32, bodyOf, Try.f32, List.getD, List.getElem?_cons_zero, List.getElem?_cons_succ, Option.getD_some]
@[simp] theorem n32_2 (s : List V) (H : Heap) : evCode P Γ call n f m (cAt [0] B32) s H = regNext (evOpsGo P Γ call r32_2.1 r32_2.1 s H) := at_region (by kernel_rfl) r32_2.2 s H
attribute [simp] r32_2
@[simp] theorem n32_3 (s : List V) (H : Heap) : evCode P Γ call n f m (cAt [1] B32) s H = seqNext P Γ call n f m (cAt [1, 1] B32) (evCode P Γ call n f m (cAt [1, 0] B32) s H) := at_seq (by kernel_rfl) rfl rfl s H
@[simp] theorem n32_4 (s : List V) (H : Heap) : evCode P Γ call n f m (cAt [1, 0] B32) s H = seqNext P Γ call n f m (cAt [1, 0, 1] B32) (evCode P Γ call n f m (cAt [1, 0, 0] B32) s H) := at_seq (by kernel_rfl) rfl rfl s H
noncomputable def r32_5 : {l : List Oper // opsOf (cAt [1, 0, 0] B32) = l} := by
  apply Subtype.mk
  dsimp only [opsOf, cAt, kids, B32, bodyOf, Try.f32, List.getD, List.getElem?_cons_zero, List.getElem?_cons_succ, Option.getD_some]
@[simp] theorem n32_5 (s : List V) (H : Heap) : evCode P Γ call n f m (cAt [1, 0, 0] B32) s H = regNext (evOpsGo P Γ call r32_5.1 r32_5.1 s H) := at_region (by kernel_rfl) r32_5.2 s H
attribute [simp] r32_5
@[simp] theorem n32_6 (s : List V) (H : Heap) : evCode P Γ call n f m (cAt [1, 0, 1] B32) s H = condW P Γ call n f m (cAt [1, 0, 1, 0] B32) (cAt [1, 0, 1, 1] B32) s H (evOperand Γ s (.tmp 4)) := at_cond (by kernel_rfl) (by kernel_rfl) rfl rfl s H
@[simp] theorem n32_7 (s : List V) (H : Heap) : evCode P Γ call n f m (cAt [1, 0, 1, 0] B32) s H = seqNext P Γ call n f m (cAt [1, 0, 1, 0, 1] B32) (evCode P Γ call n f m (cAt [1, 0, 1, 0, 0] B32) s H) := at_seq (by kernel_rfl) rfl rfl s H
noncomputable def r32_8 : {l : List Oper // opsOf (cAt [1, 0, 1, 0, 0] B32) = l} := by
  apply Subtype.mk
  dsimp only [opsOf, cAt, kids, B32, bodyOf, Try.f32, List.getD, List.getElem?_cons_zero, List.getElem?_cons_succ, Option.getD_some]
@[simp] theorem n32_8 (s : List V) (H : Heap) : evCode P Γ call n f m (cAt [1, 0, 1, 0, 0] B32) s H = regNext (evOpsGo P Γ call r32_8.1 r32_8.1 s H) := at_region (by kernel_rfl) r32_8.2 s H
attribute [simp] r32_8
@[simp] theorem n32_9 (s : List V) (H : Heap) : evCode P Γ call n f m (cAt [1, 0, 1, 0, 1] B32) s H = some (.ret, s, H) := at_ret (by kernel_rfl) s H
@[simp] theorem n32_10 (s : List V) (H : Heap) : evCode P Γ call n f m (cAt [1, 0, 1, 1] B32) s H = some (.normal, s, H) := at_skip (by kernel_rfl) s H
@[simp] theorem n32_11 (s : List V) (H : Heap) : evCode P Γ call n f m (cAt [1, 1] B32) s H = seqNext P Γ call n f m (cAt [1, 1, 1] B32) (evCode P Γ call n f m (cAt [1, 1, 0] B32) s H) := at_seq (by kernel_rfl) rfl rfl s H
noncomputable def r32_12 : {l : List Oper // opsOf (cAt [1, 1, 0] B32) = l} := by
  apply Subtype.mk
  dsimp only [opsOf, cAt, kids, B32, bodyOf, Try.f32, List.getD, List.getElem?_cons_zero, List.getElem?_cons_succ, Option.getD_some]
@[simp] theorem n32_12 (s : List V) (H : Heap) : evCode P Γ call n f m (cAt [1, 1, 0] B32) s H = regNext (evOpsGo P Γ call r32_12.1 r32_12.1 s H) := at_region (by kernel_rfl) r32_12.2 s H
attribute [simp] r32_12
@[simp] theorem n32_13 (s : List V) (H : Heap) : evCode P Γ call n f m (cAt [1, 1, 1] B32) s H = some (.ret, s, H) := at_ret (by kernel_rfl) s H
theorem b32 {k : Nat} (ho : ∀ args H, Γ.orc 32 args H = none) (args : List V) (H : Heap) (ha : args.length ≤ 8) : evF Try.prog Γ (k + 1) 32 args H = bodyEnd Try.prog [.tmp 2] H.length (evCode Try.prog Γ (evF Try.prog Γ k) k 32 H.length (cAt [] B32) (mkL 8 V.undef (enumV 0 args)) H) := body_at Try.func32 (by decide) rfl ho rfl rfl args H ha
noncomputable def B33 : Code := bodyOf Try.f33
@[simp] theorem n33_1 (s : List V) (H : Heap) : evCode P Γ call n f m (cAt [] B33) s H = seqNext P Γ call n f m (cAt [1] B33) (evCode P Γ call n f m (cAt [0] B33) s H) := at_seq (by kernel_rfl) rfl rfl s H
noncomputable def r33_2 : {l : List Oper // opsOf (cAt [0] B33) = l} := by
  apply Subtype.mk
  dsimp only [opsOf, cAt, kids, B33, bodyOf, Try.f33, List.getD, List.getElem?_cons_zero, List.getElem?_cons_succ, Option.getD_some]
@[simp] theorem n33_2 (s : List V) (H : Heap) : evCode P Γ call n f m (cAt [0] B33) s H = regNext (evOpsGo P Γ call r33_2.1 r33_2.1 s H) := at_region (by kernel_rfl) r33_2.2 s H
attribute [simp] r33_2
noncomputable def r33_3 : {l : List Oper // opsOf (cAt [1] B33) = l} := by
  apply Subtype.mk
  dsimp only [opsOf, cAt, kids, B33, bodyOf, Try.f33, List.getD, List.getElem?_cons_zero, List.getElem?_cons_succ, Option.getD_some]
@[simp] theorem n33_3 (s : List V) (H : Heap) : evCode P Γ call n f m (cAt [1] B33) s H = regNext (evOpsGo P Γ call r33_3.1 r33_3.1 s H) := at_region (by kernel_rfl) r33_3.2 s H
attribute [simp] r33_3
theorem b33 {k : Nat} (ho : ∀ args H, Γ.orc 33 args H = none) (args : List V) (H : Heap) (ha : args.length ≤ 14) : evF Try.prog Γ (k + 1) 33 args H = bodyEnd Try.prog [] H.length (evCode Try.prog Γ (evF Try.prog Γ k) k 33 H.length (cAt [] B33) (mkL 14 V.undef (enumV 0 args)) H) := body_at Try.func33 (by decide) rfl ho rfl rfl args H ha
noncomputable def B34 : Code := bodyOf Try.f34
@[simp] theorem n34_1 (s : List V) (H : Heap) : evCode P Γ call n f m (cAt [] B34) s H = seqNext P Γ call n f m (cAt [1] B34) (evCode P Γ call n f m (cAt [0] B34) s H) := at_seq (by kernel_rfl) rfl rfl s H
noncomputable def r34_2 : {l : List Oper // opsOf (cAt [0] B34) = l} := by
  apply Subtype.mk
  dsimp only [opsOf, cAt, kids, B34, bodyOf, Try.f34, List.getD, List.getElem?_cons_zero, List.getElem?_cons_succ, Option.getD_some]
@[simp] theorem n34_2 (s : List V) (H : Heap) : evCode P Γ call n f m (cAt [0] B34) s H = regNext (evOpsGo P Γ call r34_2.1 r34_2.1 s H) := at_region (by kernel_rfl) r34_2.2 s H
attribute [simp] r34_2
@[simp] theorem n34_3 (s : List V) (H : Heap) : evCode P Γ call n f m (cAt [1] B34) s H = seqNext P Γ call n f m (cAt [1, 1] B34) (evCode P Γ call n f m (cAt [1, 0] B34) s H) := at_seq (by kernel_rfl) rfl rfl s H
@[simp] theorem n34_4 (s : List V) (H : Heap) : evCode P Γ call n f m (cAt [1, 0] B34) s H = seqNext P Γ call n f m (cAt [1, 0, 1] B34) (evCode P Γ call n f m (cAt [1, 0, 0] B34) s H) := at_seq (by kernel_rfl) rfl rfl s H
noncomputable def r34_5 : {l : List Oper // opsOf (cAt [1, 0, 0] B34) = l} := by
  apply Subtype.mk
  dsimp only [opsOf, cAt, kids, B34, bodyOf, Try.f34, List.getD, List.getElem?_cons_zero, List.getElem?_cons_succ, Option.getD_some]
@[simp] theorem n34_5 (s : List V) (H : Heap) : evCode P Γ call n f m (cAt [1, 0, 0] B34) s H = regNext (evOpsGo P Γ call r34_5.1 r34_5.1 s H) := at_region (by kernel_rfl) r34_5.2 s H
attribute [simp] r34_5
@[simp] theorem n34_6 (s : List V) (H : Heap) : evCode P Γ call n f m (cAt [1, 0, 1] B34) s H = condW P Γ call n f m (cAt [1, 0, 1, 0] B34) (cAt [1, 0, 1, 1] B34) s H (evOperand Γ s (.tmp 8)) := at_cond (by kernel_rfl) (by kernel_rfl) rfl rfl s H
@[simp] theorem n34_7 (s : List V) (H : Heap) : evCode P Γ call n f m (cAt [1, 0, 1, 0] B34) s H = seqNext P Γ call n f m (cAt [1, 0, 1, 0, 1] B34) (evCode P Γ call n f m (cAt [1, 0, 1, 0, 0] B34) s H) := at_seq (by kernel_rfl) rfl rfl s H
noncomputable def r34_8 : {l : List Oper // opsOf (cAt [1, 0, 1, 0, 0] B34) = l} := by
  apply Subtype.mk
  dsimp only [opsOf, cAt, kids, B34, bodyOf, Try.f34, List.getD, List.getElem?_cons_zero, List.getElem?_cons_succ, Option.getD_some]
@[simp] theorem n34_8 (s : List V) (H : Heap) : evCode P Γ call n f m (cAt [1, 0, 1, 0, 0] B34) s H = regNext (evOpsGo P Γ call r34_8.1 r34_8.1 s H) := at_region (by kernel_rfl) r34_8.2 s H
attribute [simp] r34_8
@[simp] theorem n34_9 (s : List V) (H : Heap) : evCode P Γ call n f m (cAt [1, 0, 1, 0, 1] B34) s H = some (.ret, s, H) := at_ret (by kernel_rfl) s H
@[simp] theorem n34_10 (s : List V) (H : Heap) : evCode P Γ call n f m (cAt [1, 0, 1, 1] B34) s H = some (.normal, s, H) := at_skip (by kernel_rfl) s H
@[simp] theorem n34_11 (s : List V) (H : Heap) : evCode P Γ call n f m (cAt [1, 1] B34) s H = seqNext P Γ call n f m (cAt [1, 1, 1] B34) (evCode P Γ call n f m (cAt [1, 1, 0] B34) s H) := at_seq (by kernel_rfl) rfl rfl s H
@[simp] theorem n34_12 (s : List V) (H : Heap) : evCode P Γ call n f m (cAt [1, 1, 0] B34) s H = seqNext P Γ call n f m (cAt [1, 1, 0, 1] B34) (evCode P Γ call n f m (cAt [1, 1, 0, 0] B34) s H) := at_seq (by kernel_rfl) rfl rfl s H
noncomputable def r34_13 : {l : List Oper // opsOf (cAt [1, 1, 0, 0] B34) = l} := by
  apply Subtype.mk
  dsimp only [opsOf, cAt, kids, B34, bodyOf, Try.f34, List.getD, List.getElem?_cons_zero, List.getElem?_cons_succ, Option.getD_some]
@[simp] theorem n34_13 (s : List V) (H : Heap) : evCode P Γ call n f m (cAt [1, 1, 0, 0] B34) s H = regNext (evOpsGo P Γ call r34_13.1 r34_13.1 s H) := at_region (by kernel_rfl) r34_13.2 s H
attribute [simp] r34_13
@[simp] theorem n34_14 (s : List V) (H : Heap) : evCode P Γ call n f m (cAt [1, 1, 0, 1] B34) s H = blockNext 0 (evCode P Γ call n f m (cAt [1, 1, 0, 1, 0] B34) s H) := at_block (by kernel_rfl) rfl s H
@[simp] theorem n34_15 (s : List V) (H : Heap) : evCode P Γ call n f m (cAt [1, 1, 0, 1, 0] B34) s H = evLoopC P Γ call n f m (cAt [1, 1, 0, 1, 0, 0] B34) n s H := at_loop (by kernel_rfl) rfl s H
noncomputable abbrev L34_4 : Code := cAt [1, 1, 0, 1, 0, 0] B34
@[simp] theorem n34_15f : firstRegion (cAt [1, 1, 0, 1, 0, 0] B34) = 4 := by kernel_rfl
@[simp] theorem n34_16 (s : List V) (H : Heap) : evCode P Γ call n f m (cAt [1, 1, 0, 1, 0, 0] B34) s H = seqNext P Γ call n f m (cAt [1, 1, 0, 1, 0, 0, 1] B34) (evCode P Γ call n f m (cAt [1, 1, 0, 1, 0, 0, 0] B34) s H) := at_seq (by kernel_rfl) rfl rfl s H
@[simp] theorem n34_17 (s : List V) (H : Heap) : evCode P Γ call n f m (cAt [1, 1, 0, 1, 0, 0, 0] B34) s H = seqNext P Γ call n f m (cAt [1, 1, 0, 1, 0, 0, 0, 1] B34) (evCode P Γ call n f m (cAt [1, 1, 0, 1, 0, 0, 0, 0] B34) s H) := at_seq (by kernel_rfl) rfl rfl s H
noncomputable def r34_18 : {l : List Oper // opsOf (cAt [1, 1, 0, 1, 0, 0, 0, 0] B34) = l} := by
  apply Subtype.mk
  dsimp only [opsOf, cAt, kids, B34, bodyOf, Try.f34, List.getD, List.getElem?_cons_zero, List.getElem?_cons_succ, Option.getD_some]
@[simp] theorem n34_18 (s : List V) (H : Heap) : evCode P Γ call n f m (cAt [1, 1, 0, 1, 0, 0, 0, 0] B34) s H = regNext (evOpsGo P Γ call r34_18.1 r34_18.1 s H) := at_region (by kernel_rfl) r34_18.2 s H
attribute [simp] r34_18
@[simp] theorem n34_19 (s : List V) (H : Heap) : evCode P Γ call n f m (cAt [1, 1, 0, 1, 0, 0, 0, 1] B34) s H = condW P Γ call n f m (cAt [1, 1, 0, 1, 0, 0, 0, 1, 0] B34) (cAt [1, 1, 0, 1, 0, 0, 0, 1, 1] B34) s H (evOperand Γ s (.tmp 13)) := at_cond (by kernel_rfl) (by kernel_rfl) rfl rfl s H
@[simp] theorem n34_20 (s : List V) (H : Heap) : evCode P Γ call n f m (cAt [1, 1, 0, 1, 0, 0, 0, 1, 0] B34) s H = some (.normal, s, H) := at_skip (by kernel_rfl) s H
@[simp] theorem n34_21 (s : List V) (H : Heap) : evCode P Γ call n f m (cAt [1, 1, 0, 1, 0, 0, 0, 1, 1] B34) s H = some (.exit 0, s, H) := at_exit (by kernel_rfl) s H
@[simp] theorem n34_22 (s : List V) (H : Heap) : evCode P Γ call n f m (cAt [1, 1, 0, 1, 0, 0, 1] B34) s H = seqNext P Γ call n f m (cAt [1, 1, 0, 1, 0, 0, 1, 1] B34) (evCode P Γ call n f m (cAt [1, 1, 0, 1, 0, 0, 1, 0] B34) s H) := at_seq (by kernel_rfl) rfl rfl s H
@[simp] theorem n34_23 (s : List V) (H : Heap) : evCode P Γ call n f m (cAt [1, 1, 0, 1, 0, 0, 1, 0] B34) s H = blockNext 1 (evCode P Γ call n f m (cAt [1, 1, 0, 1, 0, 0, 1, 0, 0] B34) s H) := at_block (by kernel_rfl) rfl s H
@[simp] theorem n34_24 (s : List V) (H : Heap) : evCode P Γ call n f m (cAt [1, 1, 0, 1, 0, 0, 1, 0, 0] B34) s H = seqNext P Γ call n f m (cAt [1, 1, 0, 1, 0, 0, 1, 0, 0, 1] B34) (evCode P Γ call n f m (cAt [1, 1, 0, 1, 0, 0, 1, 0, 0, 0] B34) s H) := at_seq (by kernel_rfl) rfl rfl s H
noncomputable def r34_25 : {l : List Oper // opsOf (cAt [1, 1, 0, 1, 0, 0, 1, 0, 0, 0] B34) = l} := by
  apply Subtype.mk
  dsimp only [opsOf, cAt, kids, B34, bodyOf, Try.f34, List.getD, List.getElem?_cons_zero, List.getElem?_cons_succ, Option.getD_some]
@[simp] theorem n34_25 (s : List V) (H : Heap) : evCode P Γ call n f m (cAt [1, 1, 0, 1, 0, 0, 1, 0, 0, 0] B34) s H = regNext (drawR P Γ call r34_25.1 [([1, 4, 5, 6, 7, 8], [17, 20, 21, 22, 23, 24]), ([0, 4, 5, 6, 7, 8], [16, 20, 21, 22, 23, 24]), ([4, 5, 6, 7, 8], [20, 21, 22, 23, 24]), ([4, 5, 6, 7, 8], [20, 21, 22, 23, 24]), ([0, 1, 2, 3, 5, 6], [16, 17, 18, 19, 21, 22]), ([0, 1, 2, 3, 4], [16, 17, 18, 19, 20]), ([0, 1, 2, 3, 4], [16, 17, 18, 19, 20]), ([0, 1, 2, 3], [16, 17, 18, 19]), ([0, 1, 2, 3], [16, 17, 18, 19]), ([], [])] s H) := at_drawT (by kernel_rfl) r34_25.2 (by kernel_rfl) s H
attribute [simp] r34_25
@[simp] theorem n34_26 (s : List V) (H : Heap) : evCode P Γ call n f m (cAt [1, 1, 0, 1, 0, 0, 1, 0, 0, 1] B34) s H = condW P Γ call n f m (cAt [1, 1, 0, 1, 0, 0, 1, 0, 0, 1, 0] B34) (cAt [1, 1, 0, 1, 0, 0, 1, 0, 0, 1, 1] B34) s H (evOperand Γ s (.tmp 25)) := at_cond (by kernel_rfl) (by kernel_rfl) rfl rfl s H
@[simp] theorem n34_27 (s : List V) (H : Heap) : evCode P Γ call n f m (cAt [1, 1, 0, 1, 0, 0, 1, 0, 0, 1, 0] B34) s H = seqNext P Γ call n f m (cAt [1, 1, 0, 1, 0, 0, 1, 0, 0, 1, 0, 1] B34) (evCode P Γ call n f m (cAt [1, 1, 0, 1, 0, 0, 1, 0, 0, 1, 0, 0] B34) s H) := at_seq (by kernel_rfl) rfl rfl s H
noncomputable def r34_28 : {l : List Oper // opsOf (cAt [1, 1, 0, 1, 0, 0, 1, 0, 0, 1, 0, 0] B34) = l} := by
  apply Subtype.mk
  dsimp only [opsOf, cAt, kids, B34, bodyOf, Try.f34, List.getD, List.getElem?_cons_zero, List.getElem?_cons_succ, Option.getD_some]
@[simp] theorem n34_28 (s : List V) (H : Heap) : evCode P Γ call n f m (cAt [1, 1, 0, 1, 0, 0, 1, 0, 0, 1, 0, 0] B34) s H = regNext (evOpsGo P Γ call r34_28.1 r34_28.1 s H) := at_region (by kernel_rfl) r34_28.2 s H
attribute [simp] r34_28
@[simp] theorem n34_29 (s : List V) (H : Heap) : evCode P Γ call n f m (cAt [1, 1, 0, 1, 0, 0, 1, 0, 0, 1, 0, 1] B34) s H = seqNext P Γ call n f m (cAt [1, 1, 0, 1, 0, 0, 1, 0, 0, 1, 0, 1, 1] B34) (evCode P Γ call n f m (cAt [1, 1, 0, 1, 0, 0, 1, 0, 0, 1, 0, 1, 0] B34) s H) := at_seq (by kernel_rfl) rfl rfl s H
@[simp] theorem n34_30 (s : List V) (H : Heap) : evCode P Γ call n f m (cAt [1, 1, 0, 1, 0, 0, 1, 0, 0, 1, 0, 1, 0] B34) s H = seqNext P Γ call n f m (cAt [1, 1, 0, 1, 0, 0, 1, 0, 0, 1, 0, 1, 0, 1] B34) (evCode P Γ call n f m (cAt [1, 1, 0, 1, 0, 0, 1, 0, 0, 1, 0, 1, 0, 0] B34) s H) := at_seq (by kernel_rfl) rfl rfl s H
noncomputable def r34_31 : {l : List Oper // opsOf (cAt [1, 1, 0, 1, 0, 0, 1, 0, 0, 1, 0, 1, 0, 0] B34) = l} := by
  apply Subtype.mk
  dsimp only [opsOf, cAt, kids, B34, bodyOf, Try.f34, List.getD, List.getElem?_cons_zero, List.getElem?_cons_succ, Option.getD_some]
@[simp] theorem n34_31 (s : List V) (H : Heap) : evCode P Γ call n f m (cAt [1, 1, 0, 1, 0, 0, 1, 0, 0, 1, 0, 1, 0, 0] B34) s H = regNext (evOpsGo P Γ call r34_31.1 r34_31.1 s H) := at_region (by kernel_rfl) r34_31.2 s H
attribute [simp] r34_31
@[simp] theorem n34_32 (s : List V) (H : Heap) : evCode P Γ call n f m (cAt [1, 1, 0, 1, 0, 0, 1, 0, 0, 1, 0, 1, 0, 1] B34) s H = blockNext 2 (evCode P Γ call n f m (cAt [1, 1, 0, 1, 0, 0, 1, 0, 0, 1, 0, 1, 0, 1, 0] B34) s H) := at_block (by kernel_rfl) rfl s H
@[simp] theorem n34_33 (s : List V) (H : Heap) : evCode P Γ call n f m (cAt [1, 1, 0, 1, 0, 0, 1, 0, 0, 1, 0, 1, 0, 1, 0] B34) s H = evLoopC P Γ call n f m (cAt [1, 1, 0, 1, 0, 0, 1, 0, 0, 1, 0, 1, 0, 1, 0, 0] B34) n s H := at_loop (by kernel_rfl) rfl s H
noncomputable abbrev L34_9 : Code := cAt [1, 1, 0, 1, 0, 0, 1, 0, 0, 1, 0, 1, 0, 1, 0, 0] B34
@[simp] theorem n34_33f : firstRegion (cAt [1, 1, 0, 1, 0, 0, 1, 0, 0, 1, 0, 1, 0, 1, 0, 0] B34) = 9 := by kernel_rfl
@[simp] theorem n34_34 (s : List V) (H : Heap) : evCode P Γ call n f m (cAt [1, 1, 0, 1, 0, 0, 1, 0, 0, 1, 0, 1, 0, 1, 0, 0] B34) s H = seqNext P Γ call n f m (cAt [1, 1, 0, 1, 0, 0, 1, 0, 0, 1, 0, 1, 0, 1, 0, 0, 1] B34) (evCode P Γ call n f m (cAt [1, 1, 0, 1, 0, 0, 1, 0, 0, 1, 0, 1, 0, 1, 0, 0, 0] B34) s H) := at_seq (by kernel_rfl) rfl rfl s H
@[simp] theorem n34_35 (s : List V) (H : Heap) : evCode P Γ call n f m (cAt [1, 1, 0, 1, 0, 0, 1, 0, 0, 1, 0, 1, 0, 1, 0, 0, 0] B34) s H = seqNext P Γ call n f m (cAt [1, 1, 0, 1, 0, 0, 1, 0, 0, 1, 0, 1, 0, 1, 0, 0, 0, 1] B34) (evCode P Γ call n f m (cAt [1, 1, 0, 1, 0, 0, 1, 0, 0, 1, 0, 1, 0, 1, 0, 0, 0, 0] B34) s H) := at_seq (by kernel_rfl) rfl rfl s H
noncomputable def r34_36 : {l : List Oper // opsOf (cAt [1, 1, 0, 1, 0, 0, 1, 0, 0, 1, 0, 1, 0, 1, 0, 0, 0, 0] B34) = l} := by
  apply Subtype.mk
  dsimp only [opsOf, cAt, kids, B34, bodyOf, Try.f34, List.getD, List.getElem?_cons_zero, List.getElem?_cons_succ, Option.getD_some]
@[simp] theorem n34_36 (s : List V) (H : Heap) : evCode P Γ call n f m (cAt [1, 1, 0, 1, 0, 0, 1, 0, 0, 1, 0, 1, 0, 1, 0, 0, 0, 0] B34) s H = regNext (evOpsGo P Γ call r34_36.1 r34_36.1 s H) := at_region (by kernel_rfl) r34_36.2 s H
attribute [simp] r34_36
@[simp] theorem n34_37 (s : List V) (H : Heap) : evCode P Γ call n f m (cAt [1, 1, 0, 1, 0, 0, 1, 0, 0, 1, 0, 1, 0, 1, 0, 0, 0, 1] B34) s H = condW P Γ call n f m (cAt [1, 1, 0, 1, 0, 0, 1, 0, 0, 1, 0, 1, 0, 1, 0, 0, 0, 1, 0] B34) (cAt [1, 1, 0, 1, 0, 0, 1, 0, 0, 1, 0, 1, 0, 1, 0, 0, 0, 1, 1] B34) s H (evOperand Γ s (.tmp 32)) := at_cond (by kernel_rfl) (by kernel_rfl) rfl rfl s H
@[simp] theorem n34_38 (s : List V) (H : Heap) : evCode P Γ call n f m (cAt [1, 1, 0, 1, 0, 0, 1, 0, 0, 1, 0, 1, 0, 1, 0, 0, 0, 1, 0] B34) s H = some (.normal, s, H) := at_skip (by kernel_rfl) s H
@[simp] theorem n34_39 (s : List V) (H : Heap) : evCode P Γ call n f m (cAt [1, 1, 0, 1, 0, 0, 1, 0, 0, 1, 0, 1, 0, 1, 0, 0, 0, 1, 1] B34) s H = some (.exit 2, s, H) := at_exit (by kernel_rfl) s H
@[simp] theorem n34_40 (s : List V) (H : Heap) : evCode P Γ call n f m (cAt [1, 1, 0, 1, 0, 0, 1, 0, 0, 1, 0, 1, 0, 1, 0, 0, 1] B34) s H = seqNext P Γ call n f m (cAt [1, 1, 0, 1, 0, 0, 1, 0, 0, 1, 0, 1, 0, 1, 0, 0, 1, 1] B34) (evCode P Γ call n f m (cAt [1, 1, 0, 1, 0, 0, 1, 0, 0, 1, 0, 1, 0, 1, 0, 0, 1, 0] B34) s H) := at_seq (by kernel_rfl) rfl rfl s H
@[simp] theorem n34_41 (s : List V) (H : Heap) : evCode P Γ call n f m (cAt [1, 1, 0, 1, 0, 0, 1, 0, 0, 1, 0, 1, 0, 1, 0, 0, 1, 0] B34) s H = blockNext 3 (evCode P Γ call n f m (cAt [1, 1, 0, 1, 0, 0, 1, 0, 0, 1, 0, 1, 0, 1, 0, 0, 1, 0, 0] B34) s H) := at_block (by kernel_rfl) rfl s H
@[simp] theorem n34_42 (s : List V) (H : Heap) : evCode P Γ call n f m (cAt [1, 1, 0, 1, 0, 0, 1, 0, 0, 1, 0, 1, 0, 1, 0, 0, 1, 0, 0] B34) s H = seqNext P Γ call n f m (cAt [1, 1, 0, 1, 0, 0, 1, 0, 0, 1, 0, 1, 0, 1, 0, 0, 1, 0, 0, 1] B34) (evCode P Γ call n f m (cAt [1, 1, 0, 1, 0, 0, 1, 0, 0, 1, 0, 1, 0, 1, 0, 0, 1, 0, 0, 0] B34) s H) := at_seq (by kernel_rfl) rfl rfl s H
noncomputable def r34_43 : {l : List Oper // opsOf (cAt [1, 1, 0, 1, 0, 0, 1, 0, 0, 1, 0, 1, 0, 1, 0, 0, 1, 0, 0, 0] B34) = l} := by
  apply Subtype.mk
  dsimp only [opsOf, cAt, kids, B34, bodyOf, Try.f34, List.getD, List.getElem?_cons_zero, List.getElem?_cons_succ, Option.getD_some]
@[simp] theorem n34_43 (s : List V) (H : Heap) : evCode P Γ call n f m (cAt [1, 1, 0, 1, 0, 0, 1, 0, 0, 1, 0, 1, 0, 1, 0, 0, 1, 0, 0, 0] B34) s H = regNext (drawR P Γ call r34_43.1 [([1, 4, 5, 6, 7, 8], [36, 39, 40, 41, 42, 43]), ([0, 4, 5, 6, 7, 8], [35, 39, 40, 41, 42, 43]), ([4, 5, 6, 7, 8], [39, 40, 41, 42, 43]), ([4, 5, 6, 7, 8], [39, 40, 41, 42, 43]), ([0, 1, 2, 3, 5, 6], [35, 36, 37, 38, 40, 41]), ([0, 1, 2, 3, 4], [35, 36, 37, 38, 39]), ([0, 1, 2, 3, 4], [35, 36, 37, 38, 39]), ([0, 1, 2, 3], [35, 36, 37, 38]), ([0, 1, 2, 3], [35, 36, 37, 38]), ([], [])] s H) := at_drawT (by kernel_rfl) r34_43.2 (by kernel_rfl) s H
attribute [simp] r34_43
@[simp] theorem n34_44 (s : List V) (H : Heap) : evCode P Γ call n f m (cAt [1, 1, 0, 1, 0, 0, 1, 0, 0, 1, 0, 1, 0, 1, 0, 0, 1, 0, 0, 1] B34) s H = condW P Γ call n f m (cAt [1, 1, 0, 1, 0, 0, 1, 0, 0, 1, 0, 1, 0, 1, 0, 0, 1, 0, 0, 1, 0] B34) (cAt [1, 1, 0, 1, 0, 0, 1, 0, 0, 1, 0, 1, 0, 1, 0, 0, 1, 0, 0, 1, 1] B34) s H (evOperand Γ s (.tmp 44)) := at_cond (by kernel_rfl) (by kernel_rfl) rfl rfl s H
@[simp] theorem n34_45 (s : List V) (H : Heap) : evCode P Γ call n f m (cAt [1, 1, 0, 1, 0, 0, 1, 0, 0, 1, 0, 1, 0, 1, 0, 0, 1, 0, 0, 1, 0] B34) s H = seqNext P Γ call n f m (cAt [1, 1, 0, 1, 0, 0, 1, 0, 0, 1, 0, 1, 0, 1, 0, 0, 1, 0, 0, 1, 0, 1] B34) (evCode P Γ call n f m (cAt [1, 1, 0, 1, 0, 0, 1, 0, 0, 1, 0, 1, 0, 1, 0, 0, 1, 0, 0, 1, 0, 0] B34) s H) := at_seq (by kernel_rfl) rfl rfl s H
noncomputable def r34_46 : {l : List Oper // opsOf (cAt [1, 1, 0, 1, 0, 0, 1, 0, 0, 1, 0, 1, 0, 1, 0, 0, 1, 0, 0, 1, 0, 0] B34) = l} := by
  apply Subtype.mk
  dsimp only [opsOf, cAt, kids, B34, bodyOf, Try.f34, List.getD, List.getElem?_cons_zero, List.getElem?_cons_succ, Option.getD_some]
@[simp] theorem n34_46 (s : List V) (H : Heap) : evCode P Γ call n f m (cAt [1, 1, 0, 1, 0, 0, 1, 0, 0, 1, 0, 1, 0, 1, 0, 0, 1, 0, 0, 1, 0, 0] B34) s H = regNext (evOpsGo P Γ call r34_46.1 r34_46.1 s H) := at_region (by kernel_rfl) r34_46.2 s H
attribute [simp] r34_46
noncomputable def r34_47 : {l : List Oper // opsOf (cAt [1, 1, 0, 1, 0, 0, 1, 0, 0, 1, 0, 1, 0, 1, 0, 0, 1, 0, 0, 1, 0, 1] B34) = l} := by
  apply Subtype.mk
  dsimp only [opsOf, cAt, kids, B34, bodyOf, Try.f34, List.getD, List.getElem?_cons_zero, List.getElem?_cons_succ, Option.getD_some]
@[simp] theorem n34_47 (s : List V) (H : Heap) : evCode P Γ call n f m (cAt [1, 1, 0, 1, 0, 0, 1, 0, 0, 1, 0, 1, 0, 1, 0, 0, 1, 0, 0, 1, 0, 1] B34) s H = regNext (evOpsGo P Γ call r34_47.1 r34_47.1 s H) := at_region (by kernel_rfl) r34_47.2 s H
attribute [simp] r34_47
@[simp] theorem n34_48 (s : List V) (H : Heap) : evCode P Γ call n f m (cAt [1, 1, 0, 1, 0, 0, 1, 0, 0, 1, 0, 1, 0, 1, 0, 0, 1, 0, 0, 1, 1] B34) s H = some (.normal, s, H) := at_skip (by kernel_rfl) s H
noncomputable def r34_49 : {l : List Oper // opsOf (cAt [1, 1, 0, 1, 0, 0, 1, 0, 0, 1, 0, 1, 0, 1, 0, 0, 1, 1] B34) = l} := by
  apply Subtype.mk
  dsimp only [opsOf, cAt, kids, B34, bodyOf, Try.f34, List.getD, List.getElem?_cons_zero, List.getElem?_cons_succ, Option.getD_some]
@[simp] theorem n34_49 (s : List V) (H : Heap) : evCode P Γ call n f m (cAt [1, 1, 0, 1, 0, 0, 1, 0, 0, 1, 0, 1, 0, 1, 0, 0, 1, 1] B34) s H = regNext (evOpsGo P Γ call r34_49.1 r34_49.1 s H) := at_region (by kernel_rfl) r34_49.2 s H
attribute [simp] r34_49
@[simp] theorem n34_50 (s : List V) (H : Heap) : evCode P Γ call n f m (cAt [1, 1, 0, 1, 0, 0, 1, 0, 0, 1, 0, 1, 1] B34) s H = seqNext P Γ call n f m (cAt [1, 1, 0, 1, 0, 0, 1, 0, 0, 1, 0, 1, 1, 1] B34) (evCode P Γ call n f m (cAt [1, 1, 0, 1, 0, 0, 1, 0, 0, 1, 0, 1, 1, 0] B34) s H) := at_seq (by kernel_rfl) rfl rfl s H
noncomputable def r34_51 : {l : List Oper // opsOf (cAt [1, 1, 0, 1, 0, 0, 1, 0, 0, 1, 0, 1, 1, 0] B34) = l} := by
  apply Subtype.mk
  dsimp only [opsOf, cAt, kids, B34, bodyOf, Try.f34, List.getD, List.getElem?_cons_zero, List.getElem?_cons_succ, Option.getD_some]
@[simp] theorem n34_51 (s : List V) (H : Heap) : evCode P Γ call n f m (cAt [1, 1, 0, 1, 0, 0, 1, 0, 0, 1, 0, 1, 1, 0] B34) s H = regNext (evOpsGo P Γ call r34_51.1 r34_51.1 s H) := at_region (by kernel_rfl) r34_51.2 s H
attribute [simp] r34_51
@[simp] theorem n34_52 (s : List V) (H : Heap) : evCode P Γ call n f m (cAt [1, 1, 0, 1, 0, 0, 1, 0, 0, 1, 0, 1, 1, 1] B34) s H = seqNext P Γ call n f m (cAt [1, 1, 0, 1, 0, 0, 1, 0, 0, 1, 0, 1, 1, 1, 1] B34) (evCode P Γ call n f m (cAt [1, 1, 0, 1, 0, 0, 1, 0, 0, 1, 0, 1, 1, 1, 0] B34) s H) := at_seq (by kernel_rfl) rfl rfl s H
noncomputable def r34_53 : {l : List Oper // opsOf (cAt [1, 1, 0, 1, 0, 0, 1, 0, 0, 1, 0, 1, 1, 1, 0] B34) = l} := by
  apply Subtype.mk
  dsimp only [opsOf, cAt, kids, B34, bodyOf, Try.f34, List.getD, List.getElem?_cons_zero, List.getElem?_cons_succ, Option.getD_some]
@[simp] theorem n34_53 (s : List V) (H : Heap) : evCode P Γ call n f m (cAt [1, 1, 0, 1, 0, 0, 1, 0, 0, 1, 0, 1, 1, 1, 0] B34) s H = regNext (evOpsGo P Γ call r34_53.1 r34_53.1 s H) := at_region (by kernel_rfl) r34_53.2 s H
attribute [simp] r34_53
@[simp] theorem n34_54 (s : List V) (H : Heap) : evCode P Γ call n f m (cAt [1, 1, 0, 1, 0, 0, 1, 0, 0, 1, 0, 1, 1, 1, 1] B34) s H = some (.ret, s, H) := at_ret (by kernel_rfl) s H
@[simp] theorem n34_55 (s : List V) (H : Heap) : evCode P Γ call n f m (cAt [1, 1, 0, 1, 0, 0, 1, 0, 0, 1, 1] B34) s H = some (.normal, s, H) := at_skip (by kernel_rfl) s H
noncomputable def r34_56 : {l : List Oper // opsOf (cAt [1, 1, 0, 1, 0, 0, 1, 1] B34) = l} := by
  apply Subtype.mk
  dsimp only [opsOf, cAt, kids, B34, bodyOf, Try.f34, List.getD, List.getElem?_cons_zero, List.getElem?_cons_succ, Option.getD_some]
@[simp] theorem n34_56 (s : List V) (H : Heap) : evCode P Γ call n f m (cAt [1, 1, 0, 1, 0, 0, 1, 1] B34) s H = regNext (evOpsGo P Γ call r34_56.1 r34_56.1 s H) := at_region (by kernel_rfl) r34_56.2 s H
attribute [simp] r34_56
@[simp] theorem n34_57 (s : List V) (H : Heap) : evCode P Γ call n f m (cAt [1, 1, 1] B34) s H = seqNext P Γ call n f m (cAt [1, 1, 1, 1] B34) (evCode P Γ call n f m (cAt [1, 1, 1, 0] B34) s H) := at_seq (by kernel_rfl) rfl rfl s H
noncomputable def r34_58 : {l : List Oper // opsOf (cAt [1, 1, 1, 0] B34) = l} := by
  apply Subtype.mk
  dsimp only [opsOf, cAt, kids, B34, bodyOf, Try.f34, List.getD, List.getElem?_cons_zero, List.getElem?_cons_succ, Option.getD_some]
@[simp] theorem n34_58 (s : List V) (H : Heap) : evCode P Γ call n f m (cAt [1, 1, 1, 0] B34) s H = regNext (evOpsGo P Γ call r34_58.1 r34_58.1 s H) := at_region (by kernel_rfl) r34_58.2 s H
attribute [simp] r34_58
@[simp] theorem n34_59 (s : List V) (H : Heap) : evCode P Γ call n f m (cAt [1, 1, 1, 1] B34) s H = some (.ret, s, H) := at_ret (by kernel_rfl) s H
theorem b34 {k : Nat} (ho : ∀ args H, Γ.orc 34 args H = none) (args : List V) (H : Heap) (ha : args.length ≤ 61) : evF Try.prog Γ (k + 1) 34 args H = bodyEnd Try.prog [.tmp 2] H.length (evCode Try.prog Γ (evF Try.prog Γ k) k 34 H.length (cAt [] B34) (mkL 61 V.undef (enumV 0 args)) H) := body_at Try.func34 (by decide) rfl ho rfl rfl args H ha
noncomputable def B35 : Code := bodyOf Try.f35
@[simp] theorem n35_1 (s : List V) (H : Heap) : evCode P Γ call n f m (cAt [] B35) s H = seqNext P Γ call n f m (cAt [1] B35) (evCode P Γ call n f m (cAt [0] B35) s H) := at_seq (by kernel_rfl) rfl rfl s H
noncomputable def r35_2 : {l : List Oper // opsOf (cAt [0] B35) = l} := by
  apply Subtype.mk
  dsimp only [opsOf, cAt, kids, B35, bodyOf, Try.f35, List.getD, List.getElem?_cons_zero, List.getElem?_cons_succ, Option.getD_some]
@[simp] theorem n35_2 (s : List V) (H : Heap) : evCode P Γ call n f m (cAt [0] B35) s H = regNext (evOpsGo P Γ call r35_2.1 r35_2.1 s H) := at_region (by kernel_rfl) r35_2.2 s H
attribute [simp] r35_2
@[simp] theorem n35_3 (s : List V) (H : Heap) : evCode P Γ call n f m (cAt [1] B35) s H = seqNext P Γ call n f m (cAt [1, 1] B35) (evCode P Γ call n f m (cAt [1, 0] B35) s H) := at_seq (by kernel_rfl) rfl rfl s H
@[simp] theorem n35_4 (s : List V) (H : Heap) : evCode P Γ call n f m (cAt [1, 0] B35) s H = seqNext P Γ call n f m (cAt [1, 0, 1] B35) (evCode P Γ call n f m (cAt [1, 0, 0] B35) s H) := at_seq (by kernel_rfl) rfl rfl s H
noncomputable def r35_5 : {l : List Oper // opsOf (cAt [1, 0, 0] B35) = l} := by
  apply Subtype.mk
  dsimp only [opsOf, cAt, kids, B35, bodyOf, Try.f35, List.getD, List.getElem?_cons_zero, List.getElem?_cons_succ, Option.getD_some]
@[simp] theorem n35_5 (s : List V) (H : Heap) : evCode P Γ call n f m (cAt [1, 0, 0] B35) s H = regNext (evOpsGo P Γ call r35_5.1 r35_5.1 s H) := at_region (by kernel_rfl) r35_5.2 s H
attribute [simp] r35_5
@[simp] theorem n35_6 (s : List V) (H : Heap) : evCode P Γ call n f m (cAt [1, 0, 1] B35) s H = blockNext 0 (evCode P Γ call n f m (cAt [1, 0, 1, 0] B35) s H) := at_block (by kernel_rfl) rfl s H
@[simp] theorem n35_7 (s : List V) (H : Heap) : evCode P Γ call n f m (cAt [1, 0, 1, 0] B35) s H = evLoopC P Γ call n f m (cAt [1, 0, 1, 0, 0] B35) n s H := at_loop (by kernel_rfl) rfl s H
noncomputable abbrev L35_2 : Code := cAt [1, 0, 1, 0, 0] B35
@[simp] theorem n35_7f : firstRegion (cAt [1, 0, 1, 0, 0] B35) = 2 := by kernel_rfl
@[simp] theorem n35_8 (s : List V) (H : Heap) : evCode P Γ call n f m (cAt [1, 0, 1, 0, 0] B35) s H = seqNext P Γ call n f m (cAt [1, 0, 1, 0, 0, 1] B35) (evCode P Γ call n f m (cAt [1, 0, 1, 0, 0, 0] B35) s H) := at_seq (by kernel_rfl) rfl rfl s H
noncomputable def r35_9 : {l : List Oper // opsOf (cAt [1, 0, 1, 0, 0, 0] B35) = l} := by
  apply Subtype.mk
  dsimp only [opsOf, cAt, kids, B35, bodyOf, Try.f35, List.getD, List.getElem?_cons_zero, List.getElem?_cons_succ, Option.getD_some]
@[simp] theorem n35_9 (s : List V) (H : Heap) : evCode P Γ call n f m (cAt [1, 0, 1, 0, 0, 0] B35) s H = regNext (evOpsGo P Γ call r35_9.1 r35_9.1 s H) := at_region (by kernel_rfl) r35_9.2 s H
attribute [simp] r35_9
@[simp] theorem n35_10 (s : List V) (H : Heap) : evCode P Γ call n f m (cAt [1, 0, 1, 0, 0, 1] B35) s H = seqNext P Γ call n f m (cAt [1, 0, 1, 0, 0, 1, 1] B35) (evCode P Γ call n f m (cAt [1, 0, 1, 0, 0, 1, 0] B35) s H) := at_seq (by kernel_rfl) rfl rfl s H
@[simp] theorem n35_11 (s : List V) (H : Heap) : evCode P Γ call n f m (cAt [1, 0, 1, 0, 0, 1, 0] B35) s H = condW P Γ call n f m (cAt [1, 0, 1, 0, 0, 1, 0, 0] B35) (cAt [1, 0, 1, 0, 0, 1, 0, 1] B35) s H (evOperand Γ s (.tmp 9)) := at_cond (by kernel_rfl) (by kernel_rfl) rfl rfl s H
@[simp] theorem n35_12 (s : List V) (H : Heap) : evCode P Γ call n f m (cAt [1, 0, 1, 0, 0, 1, 0, 0] B35) s H = some (.normal, s, H) := at_skip (by kernel_rfl) s H
@[simp] theorem n35_13 (s : List V) (H : Heap) : evCode P Γ call n f m (cAt [1, 0, 1, 0, 0, 1, 0, 1] B35) s H = some (.exit 0, s, H) := at_exit (by kernel_rfl) s H
@[simp] theorem n35_14 (s : List V) (H : Heap) : evCode P Γ call n f m (cAt [1, 0, 1, 0, 0, 1, 1] B35) s H = seqNext P Γ call n f m (cAt [1, 0, 1, 0, 0, 1, 1, 1] B35) (evCode P Γ call n f m (cAt [1, 0, 1, 0, 0, 1, 1, 0] B35) s H) := at_seq (by kernel_rfl) rfl rfl s H
@[simp] theorem n35_15 (s : List V) (H : Heap) : evCode P Γ call n f m (cAt [1, 0, 1, 0, 0, 1, 1, 0] B35) s H = blockNext 1 (evCode P Γ call n f m (cAt [1, 0, 1, 0, 0, 1, 1, 0, 0] B35) s H) := at_block (by kernel_rfl) rfl s H
@[simp] theorem n35_16 (s : List V) (H : Heap) : evCode P Γ call n f m (cAt [1, 0, 1, 0, 0, 1, 1, 0, 0] B35) s H = seqNext P Γ call n f m (cAt [1, 0, 1, 0, 0, 1, 1, 0, 0, 1] B35) (evCode P Γ call n f m (cAt [1, 0, 1, 0, 0, 1, 1, 0, 0, 0] B35) s H) := at_seq (by kernel_rfl) rfl rfl s H
noncomputable def r35_17 : {l : List Oper // opsOf (cAt [1, 0, 1, 0, 0, 1, 1, 0, 0, 0] B35) = l} := by
  apply Subtype.mk
  dsimp only [opsOf, cAt, kids, B35, bodyOf, Try.f35, List.getD, List.getElem?_cons_zero, List.getElem?_cons_succ, Option.getD_some]
@[simp] theorem n35_17 (s : List V) (H : Heap) : evCode P Γ call n f m (cAt [1, 0, 1, 0, 0, 1, 1, 0, 0, 0] B35) s H = regNext (evOpsGo P Γ call r35_17.1 r35_17.1 s H) := at_region (by kernel_rfl) r35_17.2 s H
attribute [simp] r35_17
@[simp] theorem n35_18 (s : List V) (H : Heap) : evCode P Γ call n f m (cAt [1, 0, 1, 0, 0, 1, 1, 0, 0, 1] B35) s H = seqNext P Γ call n f m (cAt [1, 0, 1, 0, 0, 1, 1, 0, 0, 1, 1] B35) (evCode P Γ call n f m (cAt [1, 0, 1, 0, 0, 1, 1, 0, 0, 1, 0] B35) s H) := at_seq (by kernel_rfl) rfl rfl s H
noncomputable def r35_19 : {l : List Oper // opsOf (cAt [1, 0, 1, 0, 0, 1, 1, 0, 0, 1, 0] B35) = l} := by
  apply Subtype.mk
  dsimp only [opsOf, cAt, kids, B35, bodyOf, Try.f35, List.getD, List.getElem?_cons_zero, List.getElem?_cons_succ, Option.getD_some]
@[simp] theorem n35_19 (s : List V) (H : Heap) : evCode P Γ call n f m (cAt [1, 0, 1, 0, 0, 1, 1, 0, 0, 1, 0] B35) s H = regNext (evOpsGo P Γ call r35_19.1 r35_19.1 s H) := at_region (by kernel_rfl) r35_19.2 s H
attribute [simp] r35_19
@[simp] theorem n35_20 (s : List V) (H : Heap) : evCode P Γ call n f m (cAt [1, 0, 1, 0, 0, 1, 1, 0, 0, 1, 1] B35) s H = condW P Γ call n f m (cAt [1, 0, 1, 0, 0, 1, 1, 0, 0, 1, 1, 0] B35) (cAt [1, 0, 1, 0, 0, 1, 1, 0, 0, 1, 1, 1] B35) s H (evOperand Γ s (.tmp 16)) := at_cond (by kernel_rfl) (by kernel_rfl) rfl rfl s H
@[simp] theorem n35_21 (s : List V) (H : Heap) : evCode P Γ call n f m (cAt [1, 0, 1, 0, 0, 1, 1, 0, 0, 1, 1, 0] B35) s H = seqNext P Γ call n f m (cAt [1, 0, 1, 0, 0, 1, 1, 0, 0, 1, 1, 0, 1] B35) (evCode P Γ call n f m (cAt [1, 0, 1, 0, 0, 1, 1, 0, 0, 1, 1, 0, 0] B35) s H) := at_seq (by kernel_rfl) rfl rfl s H
noncomputable def r35_22 : {l : List Oper // opsOf (cAt [1, 0, 1, 0, 0, 1, 1, 0, 0, 1, 1, 0, 0] B35) = l} := by
  apply Subtype.mk
  dsimp only [opsOf, cAt, kids, B35, bodyOf, Try.f35, List.getD, List.getElem?_cons_zero, List.getElem?_cons_succ, Option.getD_some]
@[simp] theorem n35_22 (s : List V) (H : Heap) : evCode P Γ call n f m (cAt [1, 0, 1, 0, 0, 1, 1, 0, 0, 1, 1, 0, 0] B35) s H = regNext (evOpsGo P Γ call r35_22.1 r35_22.1 s H) := at_region (by kernel_rfl) r35_22.2 s H
attribute [simp] r35_22
@[simp] theorem n35_23 (s : List V) (H : Heap) : evCode P Γ call n f m (cAt [1, 0, 1, 0, 0, 1, 1, 0, 0, 1, 1, 0, 1] B35) s H = some (.ret, s, H) := at_ret (by kernel_rfl) s H
@[simp] theorem n35_24 (s : List V) (H : Heap) : evCode P Γ call n f m (cAt [1, 0, 1, 0, 0, 1, 1, 0, 0, 1, 1, 1] B35) s H = some (.normal, s, H) := at_skip (by kernel_rfl) s H
noncomputable def r35_25 : {l : List Oper // opsOf (cAt [1, 0, 1, 0, 0, 1, 1, 1] B35) = l} := by
  apply Subtype.mk
  dsimp only [opsOf, cAt, kids, B35, bodyOf, Try.f35, List.getD, List.getElem?_cons_zero, List.getElem?_cons_succ, Option.getD_some]
@[simp] theorem n35_25 (s : List V) (H : Heap) : evCode P Γ call n f m (cAt [1, 0, 1, 0, 0, 1, 1, 1] B35) s H = regNext (evOpsGo P Γ call r35_25.1 r35_25.1 s H) := at_region (by kernel_rfl) r35_25.2 s H
attribute [simp] r35_25
@[simp] theorem n35_26 (s : List V) (H : Heap) : evCode P Γ call n f m (cAt [1, 1] B35) s H = seqNext P Γ call n f m (cAt [1, 1, 1] B35) (evCode P Γ call n f m (cAt [1, 1, 0] B35) s H) := at_seq (by kernel_rfl) rfl rfl s H
noncomputable def r35_27 : {l : List Oper // opsOf (cAt [1, 1, 0] B35) = l} := by
  apply Subtype.mk
  dsimp only [opsOf, cAt, kids, B35, bodyOf, Try.f35, List.getD, List.getElem?_cons_zero, List.getElem?_cons_succ, Option.getD_some]
@[simp] theorem n35_27 (s : List V) (H : Heap) : evCode P Γ call n f m (cAt [1, 1, 0] B35) s H = regNext (evOpsGo P Γ call r35_27.1 r35_27.1 s H) := at_region (by kernel_rfl) r35_27.2 s H
attribute [simp] r35_27
@[simp] theorem n35_28 (s : List V) (H : Heap) : evCode P Γ call n f m (cAt [1, 1, 1] B35) s H = some (.ret, s, H) := at_ret (by kernel_rfl) s H
theorem b35 {k : Nat} (ho : ∀ args H, Γ.orc 35 args H = none) (args : List V) (H : Heap) (ha : args.length ≤ 19) : evF Try.prog Γ (k + 1) 35 args H = bodyEnd Try.prog [.tmp 4] H.length (evCode Try.prog Γ (evF Try.prog Γ k) k 35 H.length (cAt [] B35) (mkL 19 V.undef (enumV 0 args)) H) := body_at Try.func35 (by decide) rfl ho rfl rfl args H ha
noncomputable def B36 : Code := bodyOf Try.f36
@[simp] theorem n36_1 (s : List V) (H : Heap) : evCode P Γ call n f m (cAt [] B36) s H = seqNext P Γ call n f m (cAt [1] B36) (evCode P Γ call n f m (cAt [0] B36) s H) := at_seq (by kernel_rfl) rfl rfl s H
noncomputable def r36_2 : {l : List Oper // opsOf (cAt [0] B36) = l} := by
  apply Subtype.mk
  dsimp only [opsOf, cAt, kids, B36, bodyOf, Try.f36, List.getD, List.getElem?_cons_zero, List.getElem?_cons_succ, Option.getD_some]
@[simp] theorem n36_2 (s : List V) (H : Heap) : evCode P Γ call n f m (cAt [0] B36) s H = regNext (evOpsGo P Γ call r36_2.1 r36_2.1 s H) := at_region (by kernel_rfl) r36_2.2 s H
attribute [simp] r36_2
@[simp] theorem n36_3 (s : List V) (H : Heap) : evCode P Γ call n f m (cAt [1] B36) s H = seqNext P Γ call n f m (cAt [1, 1] B36) (evCode P Γ call n f m (cAt [1, 0] B36) s H) := at_seq (by kernel_rfl) rfl rfl s H
noncomputable def r36_4 : {l : List Oper // opsOf (cAt [1, 0] B36) = l} := by
  apply Subtype.mk
  dsimp only [opsOf, cAt, kids, B36, bodyOf, Try.f36, List.getD, List.getElem?_cons_zero, List.getElem?_cons_succ, Option.getD_some]
@[simp] theorem n36_4 (s : List V) (H : Heap) : evCode P Γ call n f m (cAt [1, 0] B36) s H = regNext (evOpsGo P Γ call r36_4.1 r36_4.1 s H) := at_region (by kernel_rfl) r36_4.2 s H
attribute [simp] r36_4
@[simp] theorem n36_5 (s : List V) (H : Heap) : evCode P Γ call n f m (cAt [1, 1] B36) s H = some (.ret, s, H) := at_ret (by kernel_rfl) s H
theorem b36 {k : Nat} (ho : ∀ args H, Γ.orc 36 args H = none) (args : List V) (H : Heap) (ha : args.length ≤ 8) : evF Try.prog Γ (k + 1) 36 args H = bodyEnd Try.prog [.tmp 3] H.length (evCode Try.prog Γ (evF Try.prog Γ k) k 36 H.length (cAt [] B36) (mkL 8 V.undef (enumV 0 args)) H) := body_at Try.func36 (by decide) rfl ho rfl rfl args H ha
noncomputable def B44 : Code := bodyOf Try.f44
@[simp] theorem n44_1 (s : List V) (H : Heap) : evCode P Γ call n f m (cAt [] B44) s H = seqNext P Γ call n f m (cAt [1] B44) (evCode P Γ call n f m (cAt [0] B44) s H) := at_seq (by kernel_rfl) rfl rfl s H
noncomputable def r44_2 : {l : List Oper // opsOf (cAt [0] B44) = l} := by
  apply Subtype.mk
  dsimp only [opsOf, cAt, kids, B44, bodyOf, Try.f44, List.getD, List.getElem?_cons_zero, List.getElem?_cons_succ, Option.getD_some]
@[simp] theorem n44_2 (s : List V) (H : Heap) : evCode P Γ call n f m (cAt [0] B44) s H = regNext (evOpsGo P Γ call r44_2.1 r44_2.1 s H) := at_region (by kernel_rfl) r44_2.2 s H
attribute [simp] r44_2
@[simp] theorem n44_3 (s : List V) (H : Heap) : evCode P Γ call n f m (cAt [1] B44) s H = seqNext P Γ call n f m (cAt [1, 1] B44) (evCode P Γ call n f m (cAt [1, 0] B44) s H) := at_seq (by kernel_rfl) rfl rfl s H
noncomputable def r44_4 : {l : List Oper // opsOf (cAt [1, 0] B44) = l} := by
  apply Subtype.mk
  dsimp only [opsOf, cAt, kids, B44, bodyOf, Try.f44, List.getD, List.getElem?_cons_zero, List.getElem?_cons_succ, Option.getD_some]
@[simp] theorem n44_4 (s : List V) (H : Heap) : evCode P Γ call n f m (cAt [1, 0] B44) s H = regNext (evOpsGo P Γ call r44_4.1 r44_4.1 s H) := at_region (by kernel_rfl) r44_4.2 s H
attribute [simp] r44_4
@[simp] theorem n44_5 (s : List V) (H : Heap) : evCode P Γ call n f m (cAt [1, 1] B44) s H = seqNext P Γ call n f m (cAt [1, 1, 1] B44) (evCode P Γ call n f m (cAt [1, 1, 0] B44) s H) := at_seq (by kernel_rfl) rfl rfl s H
@[simp] theorem n44_6 (s : List V) (H : Heap) : evCode P Γ call n f m (cAt [1, 1, 0] B44) s H = seqNext P Γ call n f m (cAt [1, 1, 0, 1] B44) (evCode P Γ call n f m (cAt [1, 1, 0, 0] B44) s H) := at_seq (by kernel_rfl) rfl rfl s H
noncomputable def r44_7 : {l : List Oper // opsOf (cAt [1, 1, 0, 0] B44) = l} := by
  apply Subtype.mk
  dsimp only [opsOf, cAt, kids, B44, bodyOf, Try.f44, List.getD, List.getElem?_cons_zero, List.getElem?_cons_succ, Option.getD_some]
@[simp] theorem n44_7 (s : List V) (H : Heap) : evCode P Γ call n f m (cAt [1, 1, 0, 0] B44) s H = regNext (evOpsGo P Γ call r44_7.1 r44_7.1 s H) := at_region (by kernel_rfl) r44_7.2 s H
attribute [simp] r44_7
@[simp] theorem n44_8 (s : List V) (H : Heap) : evCode P Γ call n f m (cAt [1, 1, 0, 1] B44) s H = blockNext 0 (evCode P Γ call n f m (cAt [1, 1, 0, 1, 0] B44) s H) := at_block (by kernel_rfl) rfl s H
@[simp] theorem n44_9 (s : List V) (H : Heap) : evCode P Γ call n f m (cAt [1, 1, 0, 1, 0] B44) s H = evLoopC P Γ call n f m (cAt [1, 1, 0, 1, 0, 0] B44) n s H := at_loop (by kernel_rfl) rfl s H
noncomputable abbrev L44_3 : Code := cAt [1, 1, 0, 1, 0, 0] B44
@[simp] theorem n44_9f : firstRegion (cAt [1, 1, 0, 1, 0, 0] B44) = 3 := by kernel_rfl
@[simp] theorem n44_10 (s : List V) (H : Heap) : evCode P Γ call n f m (cAt [1, 1, 0, 1, 0, 0] B44) s H = seqNext P Γ call n f m (cAt [1, 1, 0, 1, 0, 0, 1] B44) (evCode P Γ call n f m (cAt [1, 1, 0, 1, 0, 0, 0] B44) s H) := at_seq (by kernel_rfl) rfl rfl s H
noncomputable def r44_11 : {l : List Oper // opsOf (cAt [1, 1, 0, 1, 0, 0, 0] B44) = l} := by
  apply Subtype.mk
  dsimp only [opsOf, cAt, kids, B44, bodyOf, Try.f44, List.getD, List.getElem?_cons_zero, List.getElem?_cons_succ, Option.getD_some]
@[simp] theorem n44_11 (s : List V) (H : Heap) : evCode P Γ call n f m (cAt [1, 1, 0, 1, 0, 0, 0] B44) s H = regNext (evOpsGo P Γ call r44_11.1 r44_11.1 s H) := at_region (by kernel_rfl) r44_11.2 s H
attribute [simp] r44_11
@[simp] theorem n44_12 (s : List V) (H : Heap) : evCode P Γ call n f m (cAt [1, 1, 0, 1, 0, 0, 1] B44) s H = seqNext P Γ call n f m (cAt [1, 1, 0, 1, 0, 0, 1, 1] B44) (evCode P Γ call n f m (cAt [1, 1, 0, 1, 0, 0, 1, 0] B44) s H) := at_seq (by kernel_rfl) rfl rfl s H
@[simp] theorem n44_13 (s : List V) (H : Heap) : evCode P Γ call n f m (cAt [1, 1, 0, 1, 0, 0, 1, 0] B44) s H = condW P Γ call n f m (cAt [1, 1, 0, 1, 0, 0, 1, 0, 0] B44) (cAt [1, 1, 0, 1, 0, 0, 1, 0, 1] B44) s H (evOperand Γ s (.tmp 9)) := at_cond (by kernel_rfl) (by kernel_rfl) rfl rfl s H
@[simp] theorem n44_14 (s : List V) (H : Heap) : evCode P Γ call n f m (cAt [1, 1, 0, 1, 0, 0, 1, 0, 0] B44) s H = some (.normal, s, H) := at_skip (by kernel_rfl) s H
@[simp] theorem n44_15 (s : List V) (H : Heap) : evCode P Γ call n f m (cAt [1, 1, 0, 1, 0, 0, 1, 0, 1] B44) s H = some (.exit 0, s, H) := at_exit (by kernel_rfl) s H
@[simp] theorem n44_16 (s : List V) (H : Heap) : evCode P Γ call n f m (cAt [1, 1, 0, 1, 0, 0, 1, 1] B44) s H = seqNext P Γ call n f m (cAt [1, 1, 0, 1, 0, 0, 1, 1, 1] B44) (evCode P Γ call n f m (cAt [1, 1, 0, 1, 0, 0, 1, 1, 0] B44) s H) := at_seq (by kernel_rfl) rfl rfl s H
@[simp] theorem n44_17 (s : List V) (H : Heap) : evCode P Γ call n f m (cAt [1, 1, 0, 1, 0, 0, 1, 1, 0] B44) s H = blockNext 1 (evCode P Γ call n f m (cAt [1, 1, 0, 1, 0, 0, 1, 1, 0, 0] B44) s H) := at_block (by kernel_rfl) rfl s H
@[simp] theorem n44_18 (s : List V) (H : Heap) : evCode P Γ call n f m (cAt [1, 1, 0, 1, 0, 0, 1, 1, 0, 0] B44) s H = seqNext P Γ call n f m (cAt [1, 1, 0, 1, 0, 0, 1, 1, 0, 0, 1] B44) (evCode P Γ call n f m (cAt [1, 1, 0, 1, 0, 0, 1, 1, 0, 0, 0] B44) s H) := at_seq (by kernel_rfl) rfl rfl s H
noncomputable def r44_19 : {l : List Oper // opsOf (cAt [1, 1, 0, 1, 0, 0, 1, 1, 0, 0, 0] B44) = l} := by
  apply Subtype.mk
  dsimp only [opsOf, cAt, kids, B44, bodyOf, Try.f44, List.getD, List.getElem?_cons_zero, List.getElem?_cons_succ, Option.getD_some]
@[simp] theorem n44_19 (s : List V) (H : Heap) : evCode P Γ call n f m (cAt [1, 1, 0, 1, 0, 0, 1, 1, 0, 0, 0] B44) s H = regNext (evOpsGo P Γ call r44_19.1 r44_19.1 s H) := at_region (by kernel_rfl) r44_19.2 s H
attribute [simp] r44_19
@[simp] theorem n44_20 (s : List V) (H : Heap) : evCode P Γ call n f m (cAt [1, 1, 0, 1, 0, 0, 1, 1, 0, 0, 1] B44) s H = seqNext P Γ call n f m (cAt [1, 1, 0, 1, 0, 0, 1, 1, 0, 0, 1, 1] B44) (evCode P Γ call n f m (cAt [1, 1, 0, 1, 0, 0, 1, 1, 0, 0, 1, 0] B44) s H) := at_seq (by kernel_rfl) rfl rfl s H
noncomputable def r44_21 : {l : List Oper // opsOf (cAt [1, 1, 0, 1, 0, 0, 1, 1, 0, 0, 1, 0] B44) = l} := by
  apply Subtype.mk
  dsimp only [opsOf, cAt, kids, B44, bodyOf, Try.f44, List.getD, List.getElem?_cons_zero, List.getElem?_cons_succ, Option.getD_some]
@[simp] theorem n44_21 (s : List V) (H : Heap) : evCode P Γ call n f m (cAt [1, 1, 0, 1, 0, 0, 1, 1, 0, 0, 1, 0] B44) s H = regNext (evOpsGo P Γ call r44_21.1 r44_21.1 s H) := at_region (by kernel_rfl) r44_21.2 s H
attribute [simp] r44_21
@[simp] theorem n44_22 (s : List V) (H : Heap) : evCode P Γ call n f m (cAt [1, 1, 0, 1, 0, 0, 1, 1, 0, 0, 1, 1] B44) s H = condW P Γ call n f m (cAt [1, 1, 0, 1, 0, 0, 1, 1, 0, 0, 1, 1, 0] B44) (cAt [1, 1, 0, 1, 0, 0, 1, 1, 0, 0, 1, 1, 1] B44) s H (evOperand Γ s (.tmp 14)) := at_cond (by kernel_rfl) (by kernel_rfl) rfl rfl s H
@[simp] theorem n44_23 (s : List V) (H : Heap) : evCode P Γ call n f m (cAt [1, 1, 0, 1, 0, 0, 1, 1, 0, 0, 1, 1, 0] B44) s H = seqNext P Γ call n f m (cAt [1, 1, 0, 1, 0, 0, 1, 1, 0, 0, 1, 1, 0, 1] B44) (evCode P Γ call n f m (cAt [1, 1, 0, 1, 0, 0, 1, 1, 0, 0, 1, 1, 0, 0] B44) s H) := at_seq (by kernel_rfl) rfl rfl s H
noncomputable def r44_24 : {l : List Oper // opsOf (cAt [1, 1, 0, 1, 0, 0, 1, 1, 0, 0, 1, 1, 0, 0] B44) = l} := by
  apply Subtype.mk
  dsimp only [opsOf, cAt, kids, B44, bodyOf, Try.f44, List.getD, List.getElem?_cons_zero, List.getElem?_cons_succ, Option.getD_some]
@[simp] theorem n44_24 (s : List V) (H : Heap) : evCode P Γ call n f m (cAt [1, 1, 0, 1, 0, 0, 1, 1, 0, 0, 1, 1, 0, 0] B44) s H = regNext (evOpsGo P Γ call r44_24.1 r44_24.1 s H) := at_region (by kernel_rfl) r44_24.2 s H
attribute [simp] r44_24
@[simp] theorem n44_25 (s : List V) (H : Heap) : evCode P Γ call n f m (cAt [1, 1, 0, 1, 0, 0, 1, 1, 0, 0, 1, 1, 0, 1] B44) s H = some (.ret, s, H) := at_ret (by kernel_rfl) s H
@[simp] theorem n44_26 (s : List V) (H : Heap) : evCode P Γ call n f m (cAt [1, 1, 0, 1, 0, 0, 1, 1, 0, 0, 1, 1, 1] B44) s H = some (.normal, s, H) := at_skip (by kernel_rfl) s H
noncomputable def r44_27 : {l : List Oper // opsOf (cAt [1, 1, 0, 1, 0, 0, 1, 1, 1] B44) = l} := by
  apply Subtype.mk
  dsimp only [opsOf, cAt, kids, B44, bodyOf, Try.f44, List.getD, List.getElem?_cons_zero, List.getElem?_cons_succ, Option.getD_some]
@[simp] theorem n44_27 (s : List V) (H : Heap) : evCode P Γ call n f m (cAt [1, 1, 0, 1, 0, 0, 1, 1, 1] B44) s H = regNext (evOpsGo P Γ call r44_27.1 r44_27.1 s H) := at_region (by kernel_rfl) r44_27.2 s H
attribute [simp] r44_27
@[simp] theorem n44_28 (s : List V) (H : Heap) : evCode P Γ call n f m (cAt [1, 1, 1] B44) s H = seqNext P Γ call n f m (cAt [1, 1, 1, 1] B44) (evCode P Γ call n f m (cAt [1, 1, 1, 0] B44) s H) := at_seq (by kernel_rfl) rfl rfl s H
noncomputable def r44_29 : {l : List Oper // opsOf (cAt [1, 1, 1, 0] B44) = l} := by
  apply Subtype.mk
  dsimp only [opsOf, cAt, kids, B44, bodyOf, Try.f44, List.getD, List.getElem?_cons_zero, List.getElem?_cons_succ, Option.getD_some]
@[simp] theorem n44_29 (s : List V) (H : Heap) : evCode P Γ call n f m (cAt [1, 1, 1, 0] B44) s H = regNext (evOpsGo P Γ call r44_29.1 r44_29.1 s H) := at_region (by kernel_rfl) r44_29.2 s H
attribute [simp] r44_29
@[simp] theorem n44_30 (s : List V) (H : Heap) : evCode P Γ call n f m (cAt [1, 1, 1, 1] B44) s H = some (.ret, s, H) := at_ret (by kernel_rfl) s H
theorem b44 {k : Nat} (ho : ∀ args H, Γ.orc 44 args H = none) (args : List V) (H : Heap) (ha : args.length ≤ 18) : evF Try.prog Γ (k + 1) 44 args H = bodyEnd Try.prog [.tmp 2] H.length (evCode Try.prog Γ (evF Try.prog Γ k) k 44 H.length (cAt [] B44) (mkL 18 V.undef (enumV 0 args)) H) := body_at Try.func44 (by decide) rfl ho rfl rfl args H ha
noncomputable def B45 : Code := bodyOf Try.f45
@[simp] theorem n45_1 (s : List V) (H : Heap) : evCode P Γ call n f m (cAt [] B45) s H = seqNext P Γ call n f m (cAt [1] B45) (evCode P Γ call n f m (cAt [0] B45) s H) := at_seq (by kernel_rfl) rfl rfl s H
noncomputable def r45_2 : {l : List Oper // opsOf (cAt [0] B45) = l} := by
  apply Subtype.mk
  dsimp only [opsOf, cAt, kids, B45, bodyOf, Try.f45, List.getD, List.getElem?_cons_zero, List.getElem?_cons_succ, Option.getD_some]
@[simp] theorem n45_2 (s : List V) (H : Heap) : evCode P Γ call n f m (cAt [0] B45) s H = regNext (evOpsGo P Γ call r45_2.1 r45_2.1 s H) := at_region (by kernel_rfl) r45_2.2 s H
attribute [simp] r45_2
@[simp] theorem n45_3 (s : List V) (H : Heap) : evCode P Γ call n f m (cAt [1] B45) s H = seqNext P Γ call n f m (cAt [1, 1] B45) (evCode P Γ call n f m (cAt [1, 0] B45) s H) := at_seq (by kernel_rfl) rfl rfl s H
noncomputable def r45_4 : {l : List Oper // opsOf (cAt [1, 0] B45) = l} := by
  apply Subtype.mk
  dsimp only [opsOf, cAt, kids, B45, bodyOf, Try.f45, List.getD, List.getElem?_cons_zero, List.getElem?_cons_succ, Option.getD_some]
@[simp] theorem n45_4 (s : List V) (H : Heap) : evCode P Γ call n f m (cAt [1, 0] B45) s H = regNext (evOpsGo P Γ call r45_4.1 r45_4.1 s H) := at_region (by kernel_rfl) r45_4.2 s H
attribute [simp] r45_4
@[simp] theorem n45_5 (s : List V) (H : Heap) : evCode P Γ call n f m (cAt [1, 1] B45) s H = seqNext P Γ call n f m (cAt [1, 1, 1] B45) (evCode P Γ call n f m (cAt [1, 1, 0] B45) s H) := at_seq (by kernel_rfl) rfl rfl s H
noncomputable def r45_6 : {l : List Oper // opsOf (cAt [1, 1, 0] B45) = l} := by
  apply Subtype.mk
  dsimp only [opsOf, cAt, kids, B45, bodyOf, Try.f45, List.getD, List.getElem?_cons_zero, List.getElem?_cons_succ, Option.getD_some]
@[simp] theorem n45_6 (s : List V) (H : Heap) : evCode P Γ call n f m (cAt [1, 1, 0] B45) s H = regNext (evOpsGo P Γ call r45_6.1 r45_6.1 s H) := at_region (by kernel_rfl) r45_6.2 s H
attribute [simp] r45_6
@[simp] theorem n45_7 (s : List V) (H : Heap) : evCode P Γ call n f m (cAt [1, 1, 1] B45) s H = seqNext P Γ call n f m (cAt [1, 1, 1, 1] B45) (evCode P Γ call n f m (cAt [1, 1, 1, 0] B45) s H) := at_seq (by kernel_rfl) rfl rfl s H
@[simp] theorem n45_8 (s : List V) (H : Heap) : evCode P Γ call n f m (cAt [1, 1, 1, 0] B45) s H = seqNext P Γ call n f m (cAt [1, 1, 1, 0, 1] B45) (evCode P Γ call n f m (cAt [1, 1, 1, 0, 0] B45) s H) := at_seq (by kernel_rfl) rfl rfl s H
noncomputable def r45_9 : {l : List Oper // opsOf (cAt [1, 1, 1, 0, 0] B45) = l} := by
  apply Subtype.mk
  dsimp only [opsOf, cAt, kids, B45, bodyOf, Try.f45, List.getD, List.getElem?_cons_zero, List.getElem?_cons_succ, Option.getD_some]
@[simp] theorem n45_9 (s : List V) (H : Heap) : evCode P Γ call n f m (cAt [1, 1, 1, 0, 0] B45) s H = regNext (evOpsGo P Γ call r45_9.1 r45_9.1 s H) := at_region (by kernel_rfl) r45_9.2 s H
attribute [simp] r45_9
@[simp] theorem n45_10 (s : List V) (H : Heap) : evCode P Γ call n f m (cAt [1, 1, 1, 0, 1] B45) s H = condW P Γ call n f m (cAt [1, 1, 1, 0, 1, 0] B45) (cAt [1, 1, 1, 0, 1, 1] B45) s H (evOperand Γ s (.tmp 11)) := at_cond (by kernel_rfl) (by kernel_rfl) rfl rfl s H
@[simp] theorem n45_11 (s : List V) (H : Heap) : evCode P Γ call n f m (cAt [1, 1, 1, 0, 1, 0] B45) s H = seqNext P Γ call n f m (cAt [1, 1, 1, 0, 1, 0, 1] B45) (evCode P Γ call n f m (cAt [1, 1, 1, 0, 1, 0, 0] B45) s H) := at_seq (by kernel_rfl) rfl rfl s H
@[simp] theorem n45_12 (s : List V) (H : Heap) : evCode P Γ call n f m (cAt [1, 1, 1, 0, 1, 0, 0] B45) s H = seqNext P Γ call n f m (cAt [1, 1, 1, 0, 1, 0, 0, 1] B45) (evCode P Γ call n f m (cAt [1, 1, 1, 0, 1, 0, 0, 0] B45) s H) := at_seq (by kernel_rfl) rfl rfl s H
noncomputable def r45_13 : {l : List Oper // opsOf (cAt [1, 1, 1, 0, 1, 0, 0, 0] B45) = l} := by
  apply Subtype.mk
  dsimp only [opsOf, cAt, kids, B45, bodyOf, Try.f45, List.getD, List.getElem?_cons_zero, List.getElem?_cons_succ, Option.getD_some]
@[simp] theorem n45_13 (s : List V) (H : Heap) : evCode P Γ call n f m (cAt [1, 1, 1, 0, 1, 0, 0, 0] B45) s H = regNext (evOpsGo P Γ call r45_13.1 r45_13.1 s H) := at_region (by kernel_rfl) r45_13.2 s H
attribute [simp] r45_13
@[simp] theorem n45_14 (s : List V) (H : Heap) : evCode P Γ call n f m (cAt [1, 1, 1, 0, 1, 0, 0, 1] B45) s H = condW P Γ call n f m (cAt [1, 1, 1, 0, 1, 0, 0, 1, 0] B45) (cAt [1, 1, 1, 0, 1, 0, 0, 1, 1] B45) s H (evOperand Γ s (.tmp 12)) := at_cond (by kernel_rfl) (by kernel_rfl) rfl rfl s H
@[simp] theorem n45_15 (s : List V) (H : Heap) : evCode P Γ call n f m (cAt [1, 1, 1, 0, 1, 0, 0, 1, 0] B45) s H = seqNext P Γ call n f m (cAt [1, 1, 1, 0, 1, 0, 0, 1, 0, 1] B45) (evCode P Γ call n f m (cAt [1, 1, 1, 0, 1, 0, 0, 1, 0, 0] B45) s H) := at_seq (by kernel_rfl) rfl rfl s H
noncomputable def r45_16 : {l : List Oper // opsOf (cAt [1, 1, 1, 0, 1, 0, 0, 1, 0, 0] B45) = l} := by
  apply Subtype.mk
  dsimp only [opsOf, cAt, kids, B45, bodyOf, Try.f45, List.getD, List.getElem?_cons_zero, List.getElem?_cons_succ, Option.getD_some]
@[simp] theorem n45_16 (s : List V) (H : Heap) : evCode P Γ call n f m (cAt [1, 1, 1, 0, 1, 0, 0, 1, 0, 0] B45) s H = regNext (evOpsGo P Γ call r45_16.1 r45_16.1 s H) := at_region (by kernel_rfl) r45_16.2 s H
attribute [simp] r45_16
@[simp] theorem n45_17 (s : List V) (H : Heap) : evCode P Γ call n f m (cAt [1, 1, 1, 0, 1, 0, 0, 1, 0, 1] B45) s H = some (.ret, s, H) := at_ret (by kernel_rfl) s H
@[simp] theorem n45_18 (s : List V) (H : Heap) : evCode P Γ call n f m (cAt [1, 1, 1, 0, 1, 0, 0, 1, 1] B45) s H = some (.normal, s, H) := at_skip (by kernel_rfl) s H
@[simp] theorem n45_19 (s : List V) (H : Heap) : evCode P Γ call n f m (cAt [1, 1, 1, 0, 1, 0, 1] B45) s H = seqNext P Γ call n f m (cAt [1, 1, 1, 0, 1, 0, 1, 1] B45) (evCode P Γ call n f m (cAt [1, 1, 1, 0, 1, 0, 1, 0] B45) s H) := at_seq (by kernel_rfl) rfl rfl s H
noncomputable def r45_20 : {l : List Oper // opsOf (cAt [1, 1, 1, 0, 1, 0, 1, 0] B45) = l} := by
  apply Subtype.mk
  dsimp only [opsOf, cAt, kids, B45, bodyOf, Try.f45, List.getD, List.getElem?_cons_zero, List.getElem?_cons_succ, Option.getD_some]
@[simp] theorem n45_20 (s : List V) (H : Heap) : evCode P Γ call n f m (cAt [1, 1, 1, 0, 1, 0, 1, 0] B45) s H = regNext (evOpsGo P Γ call r45_20.1 r45_20.1 s H) := at_region (by kernel_rfl) r45_20.2 s H
attribute [simp] r45_20
@[simp] theorem n45_21 (s : List V) (H : Heap) : evCode P Γ call n f m (cAt [1, 1, 1, 0, 1, 0, 1, 1] B45) s H = some (.ret, s, H) := at_ret (by kernel_rfl) s H
@[simp] theorem n45_22 (s : List V) (H : Heap) : evCode P Γ call n f m (cAt [1, 1, 1, 0, 1, 1] B45) s H = some (.normal, s, H) := at_skip (by kernel_rfl) s H
@[simp] theorem n45_23 (s : List V) (H : Heap) : evCode P Γ call n f m (cAt [1, 1, 1, 1] B45) s H = seqNext P Γ call n f m (cAt [1, 1, 1, 1, 1] B45) (evCode P Γ call n f m (cAt [1, 1, 1, 1, 0] B45) s H) := at_seq (by kernel_rfl) rfl rfl s H
@[simp] theorem n45_24 (s : List V) (H : Heap) : evCode P Γ call n f m (cAt [1, 1, 1, 1, 0] B45) s H = seqNext P Γ call n f m (cAt [1, 1, 1, 1, 0, 1] B45) (evCode P Γ call n f m (cAt [1, 1, 1, 1, 0, 0] B45) s H) := at_seq (by kernel_rfl) rfl rfl s H
noncomputable def r45_25 : {l : List Oper // opsOf (cAt [1, 1, 1, 1, 0, 0] B45) = l} := by
  apply Subtype.mk
  dsimp only [opsOf, cAt, kids, B45, bodyOf, Try.f45, List.getD, List.getElem?_cons_zero, List.getElem?_cons_succ, Option.getD_some]
@[simp] theorem n45_25 (s : List V) (H : Heap) : evCode P Γ call n f m (cAt [1, 1, 1, 1, 0, 0] B45) s H = regNext (evOpsGo P Γ call r45_25.1 r45_25.1 s H) := at_region (by kernel_rfl) r45_25.2 s H
attribute [simp] r45_25
@[simp] theorem n45_26 (s : List V) (H : Heap) : evCode P Γ call n f m (cAt [1, 1, 1, 1, 0, 1] B45) s H = condW P Γ call n f m (cAt [1, 1, 1, 1, 0, 1, 0] B45) (cAt [1, 1, 1, 1, 0, 1, 1] B45) s H (evOperand Γ s (.tmp 13)) := at_cond (by kernel_rfl) (by kernel_rfl) rfl rfl s H
@[simp] theorem n45_27 (s : List V) (H : Heap) : evCode P Γ call n f m (cAt [1, 1, 1, 1, 0, 1, 0] B45) s H = seqNext P Γ call n f m (cAt [1, 1, 1, 1, 0, 1, 0, 1] B45) (evCode P Γ call n f m (cAt [1, 1, 1, 1, 0, 1, 0, 0] B45) s H) := at_seq (by kernel_rfl) rfl rfl s H
noncomputable def r45_28 : {l : List Oper // opsOf (cAt [1, 1, 1, 1, 0, 1, 0, 0] B45) = l} := by
  apply Subtype.mk
  dsimp only [opsOf, cAt, kids, B45, bodyOf, Try.f45, List.getD, List.getElem?_cons_zero, List.getElem?_cons_succ, Option.getD_some]
@[simp] theorem n45_28 (s : List V) (H : Heap) : evCode P Γ call n f m (cAt [1, 1, 1, 1, 0, 1, 0, 0] B45) s H = regNext (evOpsGo P Γ call r45_28.1 r45_28.1 s H) := at_region (by kernel_rfl) r45_28.2 s H
attribute [simp] r45_28
@[simp] theorem n45_29 (s : List V) (H : Heap) : evCode P Γ call n f m (cAt [1, 1, 1, 1, 0, 1, 0, 1] B45) s H = some (.ret, s, H) := at_ret (by kernel_rfl) s H
@[simp] theorem n45_30 (s : List V) (H : Heap) : evCode P Γ call n f m (cAt [1, 1, 1, 1, 0, 1, 1] B45) s H = some (.normal, s, H) := at_skip (by kernel_rfl) s H
@[simp] theorem n45_31 (s : List V) (H : Heap) : evCode P Γ call n f m (cAt [1, 1, 1, 1, 1] B45) s H = seqNext P Γ call n f m (cAt [1, 1, 1, 1, 1, 1] B45) (evCode P Γ call n f m (cAt [1, 1, 1, 1, 1, 0] B45) s H) := at_seq (by kernel_rfl) rfl rfl s H
@[simp] theorem n45_32 (s : List V) (H : Heap) : evCode P Γ call n f m (cAt [1, 1, 1, 1, 1, 0] B45) s H = seqNext P Γ call n f m (cAt [1, 1, 1, 1, 1, 0, 1] B45) (evCode P Γ call n f m (cAt [1, 1, 1, 1, 1, 0, 0] B45) s H) := at_seq (by kernel_rfl) rfl rfl s H
noncomputable def r45_33 : {l : List Oper // opsOf (cAt [1, 1, 1, 1, 1, 0, 0] B45) = l} := by
  apply Subtype.mk
  dsimp only [opsOf, cAt, kids, B45, bodyOf, Try.f45, List.getD, List.getElem?_cons_zero, List.getElem?_cons_succ, Option.getD_some]
@[simp] theorem n45_33 (s : List V) (H : Heap) : evCode P Γ call n f m (cAt [1, 1, 1, 1, 1, 0, 0] B45) s H = regNext (evOpsGo P Γ call r45_33.1 r45_33.1 s H) := at_region (by kernel_rfl) r45_33.2 s H
attribute [simp] r45_33
@[simp] theorem n45_34 (s : List V) (H : Heap) : evCode P Γ call n f m (cAt [1, 1, 1, 1, 1, 0, 1] B45) s H = condW P Γ call n f m (cAt [1, 1, 1, 1, 1, 0, 1, 0] B45) (cAt [1, 1, 1, 1, 1, 0, 1, 1] B45) s H (evOperand Γ s (.tmp 16)) := at_cond (by kernel_rfl) (by kernel_rfl) rfl rfl s H
@[simp] theorem n45_35 (s : List V) (H : Heap) : evCode P Γ call n f m (cAt [1, 1, 1, 1, 1, 0, 1, 0] B45) s H = seqNext P Γ call n f m (cAt [1, 1, 1, 1, 1, 0, 1, 0, 1] B45) (evCode P Γ call n f m (cAt [1, 1, 1, 1, 1, 0, 1, 0, 0] B45) s H) := at_seq (by kernel_rfl) rfl rfl s H
noncomputable def r45_36 : {l : List Oper // opsOf (cAt [1, 1, 1, 1, 1, 0, 1, 0, 0] B45) = l} := by
  apply Subtype.mk
  dsimp only [opsOf, cAt, kids, B45, bodyOf, Try.f45, List.getD, List.getElem?_cons_zero, List.getElem?_cons_succ, Option.getD_some]
@[simp] theorem n45_36 (s : List V) (H : Heap) : evCode P Γ call n f m (cAt [1, 1, 1, 1, 1, 0, 1, 0, 0] B45) s H = regNext (evOpsGo P Γ call r45_36.1 r45_36.1 s H) := at_region (by kernel_rfl) r45_36.2 s H
attribute [simp] r45_36
@[simp] theorem n45_37 (s : List V) (H : Heap) : evCode P Γ call n f m (cAt [1, 1, 1, 1, 1, 0, 1, 0, 1] B45) s H = some (.ret, s, H) := at_ret (by kernel_rfl) s H
@[simp] theorem n45_38 (s : List V) (H : Heap) : evCode P Γ call n f m (cAt [1, 1, 1, 1, 1, 0, 1, 1] B45) s H = some (.normal, s, H) := at_skip (by kernel_rfl) s H
@[simp] theorem n45_39 (s : List V) (H : Heap) : evCode P Γ call n f m (cAt [1, 1, 1, 1, 1, 1] B45) s H = seqNext P Γ call n f m (cAt [1, 1, 1, 1, 1, 1, 1] B45) (evCode P Γ call n f m (cAt [1, 1, 1, 1, 1, 1, 0] B45) s H) := at_seq (by kernel_rfl) rfl rfl s H
@[simp] theorem n45_40 (s : List V) (H : Heap) : evCode P Γ call n f m (cAt [1, 1, 1, 1, 1, 1, 0] B45) s H = seqNext P Γ call n f m (cAt [1, 1, 1, 1, 1, 1, 0, 1] B45) (evCode P Γ call n f m (cAt [1, 1, 1, 1, 1, 1, 0, 0] B45) s H) := at_seq (by kernel_rfl) rfl rfl s H
noncomputable def r45_41 : {l : List Oper // opsOf (cAt [1, 1, 1, 1, 1, 1, 0, 0] B45) = l} := by
  apply Subtype.mk
  dsimp only [opsOf, cAt, kids, B45, bodyOf, Try.f45, List.getD, List.getElem?_cons_zero, List.getElem?_cons_succ, Option.getD_some]
@[simp] theorem n45_41 (s : List V) (H : Heap) : evCode P Γ call n f m (cAt [1, 1, 1, 1, 1, 1, 0, 0] B45) s H = regNext (evOpsGo P Γ call r45_41.1 r45_41.1 s H) := at_region (by kernel_rfl) r45_41.2 s H
attribute [simp] r45_41
@[simp] theorem n45_42 (s : List V) (H : Heap) : evCode P Γ call n f m (cAt [1, 1, 1, 1, 1, 1, 0, 1] B45) s H = condW P Γ call n f m (cAt [1, 1, 1, 1, 1, 1, 0, 1, 0] B45) (cAt [1, 1, 1, 1, 1, 1, 0, 1, 1] B45) s H (evOperand Γ s (.tmp 19)) := at_cond (by kernel_rfl) (by kernel_rfl) rfl rfl s H
@[simp] theorem n45_43 (s : List V) (H : Heap) : evCode P Γ call n f m (cAt [1, 1, 1, 1, 1, 1, 0, 1, 0] B45) s H = seqNext P Γ call n f m (cAt [1, 1, 1, 1, 1, 1, 0, 1, 0, 1] B45) (evCode P Γ call n f m (cAt [1, 1, 1, 1, 1, 1, 0, 1, 0, 0] B45) s H) := at_seq (by kernel_rfl) rfl rfl s H
noncomputable def r45_44 : {l : List Oper // opsOf (cAt [1, 1, 1, 1, 1, 1, 0, 1, 0, 0] B45) = l} := by
  apply Subtype.mk
  dsimp only [opsOf, cAt, kids, B45, bodyOf, Try.f45, List.getD, List.getElem?_cons_zero, List.getElem?_cons_succ, Option.getD_some]
@[simp] theorem n45_44 (s : List V) (H : Heap) : evCode P Γ call n f m (cAt [1, 1, 1, 1, 1, 1, 0, 1, 0, 0] B45) s H = regNext (evOpsGo P Γ call r45_44.1 r45_44.1 s H) := at_region (by kernel_rfl) r45_44.2 s H
attribute [simp] r45_44
@[simp] theorem n45_45 (s : List V) (H : Heap) : evCode P Γ call n f m (cAt [1, 1, 1, 1, 1, 1, 0, 1, 0, 1] B45) s H = some (.ret, s, H) := at_ret (by kernel_rfl) s H
@[simp] theorem n45_46 (s : List V) (H : Heap) : evCode P Γ call n f m (cAt [1, 1, 1, 1, 1, 1, 0, 1, 1] B45) s H = some (.normal, s, H) := at_skip (by kernel_rfl) s H
@[simp] theorem n45_47 (s : List V) (H : Heap) : evCode P Γ call n f m (cAt [1, 1, 1, 1, 1, 1, 1] B45) s H = seqNext P Γ call n f m (cAt [1, 1, 1, 1, 1, 1, 1, 1] B45) (evCode P Γ call n f m (cAt [1, 1, 1, 1, 1, 1, 1, 0] B45) s H) := at_seq (by kernel_rfl) rfl rfl s H
noncomputable def r45_48 : {l : List Oper // opsOf (cAt [1, 1, 1, 1, 1, 1, 1, 0] B45) = l} := by
  apply Subtype.mk
  dsimp only [opsOf, cAt, kids, B45, bodyOf, Try.f45, List.getD, List.getElem?_cons_zero, List.getElem?_cons_succ, Option.getD_some]
@[simp] theorem n45_48 (s : List V) (H : Heap) : evCode P Γ call n f m (cAt [1, 1, 1, 1, 1, 1, 1, 0] B45) s H = regNext (evOpsGo P Γ call r45_48.1 r45_48.1 s H) := at_region (by kernel_rfl) r45_48.2 s H
attribute [simp] r45_48
@[simp] theorem n45_49 (s : List V) (H : Heap) : evCode P Γ call n f m (cAt [1, 1, 1, 1, 1, 1, 1, 1] B45) s H = some (.ret, s, H) := at_ret (by kernel_rfl) s H
theorem b45 {k : Nat} (ho : ∀ args H, Γ.orc 45 args H = none) (args : List V) (H : Heap) (ha : args.length ≤ 20) : evF Try.prog Γ (k + 1) 45 args H = bodyEnd Try.prog [.tmp 4] H.length (evCode Try.prog Γ (evF Try.prog Γ k) k 45 H.length (cAt [] B45) (mkL 20 V.undef (enumV 0 args)) H) := body_at Try.func45 (by decide) rfl ho rfl rfl args H ha
noncomputable def B51 : Code := bodyOf Try.f51
@[simp] theorem n51_1 (s : List V) (H : Heap) : evCode P Γ call n f m (cAt [] B51) s H = seqNext P Γ call n f m (cAt [1] B51) (evCode P Γ call n f m (cAt [0] B51) s H) := at_seq (by kernel_rfl) rfl rfl s H
noncomputable def r51_2 : {l : List Oper // opsOf (cAt [0] B51) = l} := by
  apply Subtype.mk
  dsimp only [opsOf, cAt, kids, B51, bodyOf, Try.f51, List.getD, List.getElem?_cons_zero, List.getElem?_cons_succ, Option.getD_some]
@[simp] theorem n51_2 (s : List V) (H : Heap) : evCode P Γ call n f m (cAt [0] B51) s H = regNext (evOpsGo P Γ call r51_2.1 r51_2.1 s H) := at_region (by kernel_rfl) r51_2.2 s H
attribute [simp] r51_2
@[simp] theorem n51_3 (s : List V) (H : Heap) : evCode P Γ call n f m (cAt [1] B51) s H = seqNext P Γ call n f m (cAt [1, 1] B51) (evCode P Γ call n f m (cAt [1, 0] B51) s H) := at_seq (by kernel_rfl) rfl rfl s H
noncomputable def r51_4 : {l : List Oper // opsOf (cAt [1, 0] B51) = l} := by
  apply Subtype.mk
  dsimp only [opsOf, cAt, kids, B51, bodyOf, Try.f51, List.getD, List.getElem?_cons_zero, List.getElem?_cons_succ, Option.getD_some]
@[simp] theorem n51_4 (s : List V) (H : Heap) : evCode P Γ call n f m (cAt [1, 0] B51) s H = regNext (evOpsGo P Γ call r51_4.1 r51_4.1 s H) := at_region (by kernel_rfl) r51_4.2 s H
attribute [simp] r51_4
@[simp] theorem n51_5 (s : List V) (H : Heap) : evCode P Γ call n f m (cAt [1, 1] B51) s H = blockNext 0 (evCode P Γ call n f m (cAt [1, 1, 0] B51) s H) := at_block (by kernel_rfl) rfl s H
@[simp] theorem n51_6 (s : List V) (H : Heap) : evCode P Γ call n f m (cAt [1, 1, 0] B51) s H = evLoopC P Γ call n f m (cAt [1, 1, 0, 0] B51) n s H := at_loop (by kernel_rfl) rfl s H
noncomputable abbrev L51_2 : Code := cAt [1, 1, 0, 0] B51
@[simp] theorem n51_6f : firstRegion (cAt [1, 1, 0, 0] B51) = 2 := by kernel_rfl
@[simp] theorem n51_7 (s : List V) (H : Heap) : evCode P Γ call n f m (cAt [1, 1, 0, 0] B51) s H = blockNext 1 (evCode P Γ call n f m (cAt [1, 1, 0, 0, 0] B51) s H) := at_block (by kernel_rfl) rfl s H
@[simp] theorem n51_8 (s : List V) (H : Heap) : evCode P Γ call n f m (cAt [1, 1, 0, 0, 0] B51) s H = seqNext P Γ call n f m (cAt [1, 1, 0, 0, 0, 1] B51) (evCode P Γ call n f m (cAt [1, 1, 0, 0, 0, 0] B51) s H) := at_seq (by kernel_rfl) rfl rfl s H
noncomputable def r51_9 : {l : List Oper // opsOf (cAt [1, 1, 0, 0, 0, 0] B51) = l} := by
  apply Subtype.mk
  dsimp only [opsOf, cAt, kids, B51, bodyOf, Try.f51, List.getD, List.getElem?_cons_zero, List.getElem?_cons_succ, Option.getD_some]
@[simp] theorem n51_9 (s : List V) (H : Heap) : evCode P Γ call n f m (cAt [1, 1, 0, 0, 0, 0] B51) s H = regNext (evOpsGo P Γ call r51_9.1 r51_9.1 s H) := at_region (by kernel_rfl) r51_9.2 s H
attribute [simp] r51_9
@[simp] theorem n51_10 (s : List V) (H : Heap) : evCode P Γ call n f m (cAt [1, 1, 0, 0, 0, 1] B51) s H = seqNext P Γ call n f m (cAt [1, 1, 0, 0, 0, 1, 1] B51) (evCode P Γ call n f m (cAt [1, 1, 0, 0, 0, 1, 0] B51) s H) := at_seq (by kernel_rfl) rfl rfl s H
@[simp] theorem n51_11 (s : List V) (H : Heap) : evCode P Γ call n f m (cAt [1, 1, 0, 0, 0, 1, 0] B51) s H = seqNext P Γ call n f m (cAt [1, 1, 0, 0, 0, 1, 0, 1] B51) (evCode P Γ call n f m (cAt [1, 1, 0, 0, 0, 1, 0, 0] B51) s H) := at_seq (by kernel_rfl) rfl rfl s H
noncomputable def r51_12 : {l : List Oper // opsOf (cAt [1, 1, 0, 0, 0, 1, 0, 0] B51) = l} := by
  apply Subtype.mk
  dsimp only [opsOf, cAt, kids, B51, bodyOf, Try.f51, List.getD, List.getElem?_cons_zero, List.getElem?_cons_succ, Option.getD_some]
@[simp] theorem n51_12 (s : List V) (H : Heap) : evCode P Γ call n f m (cAt [1, 1, 0, 0, 0, 1, 0, 0] B51) s H = regNext (evOpsGo P Γ call r51_12.1 r51_12.1 s H) := at_region (by kernel_rfl) r51_12.2 s H
attribute [simp] r51_12
@[simp] theorem n51_13 (s : List V) (H : Heap) : evCode P Γ call n f m (cAt [1, 1, 0, 0, 0, 1, 0, 1] B51) s H = condW P Γ call n f m (cAt [1, 1, 0, 0, 0, 1, 0, 1, 0] B51) (cAt [1, 1, 0, 0, 0, 1, 0, 1, 1] B51) s H (evOperand Γ s (.tmp 25)) := at_cond (by kernel_rfl) (by kernel_rfl) rfl rfl s H
@[simp] theorem n51_14 (s : List V) (H : Heap) : evCode P Γ call n f m (cAt [1, 1, 0, 0, 0, 1, 0, 1, 0] B51) s H = seqNext P Γ call n f m (cAt [1, 1, 0, 0, 0, 1, 0, 1, 0, 1] B51) (evCode P Γ call n f m (cAt [1, 1, 0, 0, 0, 1, 0, 1, 0, 0] B51) s H) := at_seq (by kernel_rfl) rfl rfl s H
noncomputable def r51_15 : {l : List Oper // opsOf (cAt [1, 1, 0, 0, 0, 1, 0, 1, 0, 0] B51) = l} := by
  apply Subtype.mk
  dsimp only [opsOf, cAt, kids, B51, bodyOf, Try.f51, List.getD, List.getElem?_cons_zero, List.getElem?_cons_succ, Option.getD_some]
@[simp] theorem n51_15 (s : List V) (H : Heap) : evCode P Γ call n f m (cAt [1, 1, 0, 0, 0, 1, 0, 1, 0, 0] B51) s H = regNext (evOpsGo P Γ call r51_15.1 r51_15.1 s H) := at_region (by kernel_rfl) r51_15.2 s H
attribute [simp] r51_15
@[simp] theorem n51_16 (s : List V) (H : Heap) : evCode P Γ call n f m (cAt [1, 1, 0, 0, 0, 1, 0, 1, 0, 1] B51) s H = some (.ret, s, H) := at_ret (by kernel_rfl) s H
@[simp] theorem n51_17 (s : List V) (H : Heap) : evCode P Γ call n f m (cAt [1, 1, 0, 0, 0, 1, 0, 1, 1] B51) s H = some (.normal, s, H) := at_skip (by kernel_rfl) s H
@[simp] theorem n51_18 (s : List V) (H : Heap) : evCode P Γ call n f m (cAt [1, 1, 0, 0, 0, 1, 1] B51) s H = seqNext P Γ call n f m (cAt [1, 1, 0, 0, 0, 1, 1, 1] B51) (evCode P Γ call n f m (cAt [1, 1, 0, 0, 0, 1, 1, 0] B51) s H) := at_seq (by kernel_rfl) rfl rfl s H
@[simp] theorem n51_19 (s : List V) (H : Heap) : evCode P Γ call n f m (cAt [1, 1, 0, 0, 0, 1, 1, 0] B51) s H = seqNext P Γ call n f m (cAt [1, 1, 0, 0, 0, 1, 1, 0, 1] B51) (evCode P Γ call n f m (cAt [1, 1, 0, 0, 0, 1, 1, 0, 0] B51) s H) := at_seq (by kernel_rfl) rfl rfl s H
noncomputable def r51_20 : {l : List Oper // opsOf (cAt [1, 1, 0, 0, 0, 1, 1, 0, 0] B51) = l} := by
  apply Subtype.mk
  dsimp only [opsOf, cAt, kids, B51, bodyOf, Try.f51, List.getD, List.getElem?_cons_zero, List.getElem?_cons_succ, Option.getD_some]
@[simp] theorem n51_20 (s : List V) (H : Heap) : evCode P Γ call n f m (cAt [1, 1, 0, 0, 0, 1, 1, 0, 0] B51) s H = regNext (evOpsGo P Γ call r51_20.1 r51_20.1 s H) := at_region (by kernel_rfl) r51_20.2 s H
attribute [simp] r51_20
@[simp] theorem n51_21 (s : List V) (H : Heap) : evCode P Γ call n f m (cAt [1, 1, 0, 0, 0, 1, 1, 0, 1] B51) s H = condW P Γ call n f m (cAt [1, 1, 0, 0, 0, 1, 1, 0, 1, 0] B51) (cAt [1, 1, 0, 0, 0, 1, 1, 0, 1, 1] B51) s H (evOperand Γ s (.tmp 32)) := at_cond (by kernel_rfl) (by kernel_rfl) rfl rfl s H
@[simp] theorem n51_22 (s : List V) (H : Heap) : evCode P Γ call n f m (cAt [1, 1, 0, 0, 0, 1, 1, 0, 1, 0] B51) s H = seqNext P Γ call n f m (cAt [1, 1, 0, 0, 0, 1, 1, 0, 1, 0, 1] B51) (evCode P Γ call n f m (cAt [1, 1, 0, 0, 0, 1, 1, 0, 1, 0, 0] B51) s H) := at_seq (by kernel_rfl) rfl rfl s H
noncomputable def r51_23 : {l : List Oper // opsOf (cAt [1, 1, 0, 0, 0, 1, 1, 0, 1, 0, 0] B51) = l} := by
  apply Subtype.mk
  dsimp only [opsOf, cAt, kids, B51, bodyOf, Try.f51, List.getD, List.getElem?_cons_zero, List.getElem?_cons_succ, Option.getD_some]
@[simp] theorem n51_23 (s : List V) (H : Heap) : evCode P Γ call n f m (cAt [1, 1, 0, 0, 0, 1, 1, 0, 1, 0, 0] B51) s H = regNext (evOpsGo P Γ call r51_23.1 r51_23.1 s H) := at_region (by kernel_rfl) r51_23.2 s H
attribute [simp] r51_23
@[simp] theorem n51_24 (s : List V) (H : Heap) : evCode P Γ call n f m (cAt [1, 1, 0, 0, 0, 1, 1, 0, 1, 0, 1] B51) s H = some (.ret, s, H) := at_ret (by kernel_rfl) s H
@[simp] theorem n51_25 (s : List V) (H : Heap) : evCode P Γ call n f m (cAt [1, 1, 0, 0, 0, 1, 1, 0, 1, 1] B51) s H = some (.normal, s, H) := at_skip (by kernel_rfl) s H
@[simp] theorem n51_26 (s : List V) (H : Heap) : evCode P Γ call n f m (cAt [1, 1, 0, 0, 0, 1, 1, 1] B51) s H = seqNext P Γ call n f m (cAt [1, 1, 0, 0, 0, 1, 1, 1, 1] B51) (evCode P Γ call n f m (cAt [1, 1, 0, 0, 0, 1, 1, 1, 0] B51) s H) := at_seq (by kernel_rfl) rfl rfl s H
@[simp] theorem n51_27 (s : List V) (H : Heap) : evCode P Γ call n f m (cAt [1, 1, 0, 0, 0, 1, 1, 1, 0] B51) s H = seqNext P Γ call n f m (cAt [1, 1, 0, 0, 0, 1, 1, 1, 0, 1] B51) (evCode P Γ call n f m (cAt [1, 1, 0, 0, 0, 1, 1, 1, 0, 0] B51) s H) := at_seq (by kernel_rfl) rfl rfl s H
noncomputable def r51_28 : {l : List Oper // opsOf (cAt [1, 1, 0, 0, 0, 1, 1, 1, 0, 0] B51) = l} := by
  apply Subtype.mk
  dsimp only [opsOf, cAt, kids, B51, bodyOf, Try.f51, List.getD, List.getElem?_cons_zero, List.getElem?_cons_succ, Option.getD_some]
@[simp] theorem n51_28 (s : List V) (H : Heap) : evCode P Γ call n f m (cAt [1, 1, 0, 0, 0, 1, 1, 1, 0, 0] B51) s H = regNext (evOpsGo P Γ call r51_28.1 r51_28.1 s H) := at_region (by kernel_rfl) r51_28.2 s H
attribute [simp] r51_28
@[simp] theorem n51_29 (s : List V) (H : Heap) : evCode P Γ call n f m (cAt [1, 1, 0, 0, 0, 1, 1, 1, 0, 1] B51) s H = condW P Γ call n f m (cAt [1, 1, 0, 0, 0, 1, 1, 1, 0, 1, 0] B51) (cAt [1, 1, 0, 0, 0, 1, 1, 1, 0, 1, 1] B51) s H (evOperand Γ s (.tmp 39)) := at_cond (by kernel_rfl) (by kernel_rfl) rfl rfl s H
@[simp] theorem n51_30 (s : List V) (H : Heap) : evCode P Γ call n f m (cAt [1, 1, 0, 0, 0, 1, 1, 1, 0, 1, 0] B51) s H = seqNext P Γ call n f m (cAt [1, 1, 0, 0, 0, 1, 1, 1, 0, 1, 0, 1] B51) (evCode P Γ call n f m (cAt [1, 1, 0, 0, 0, 1, 1, 1, 0, 1, 0, 0] B51) s H) := at_seq (by kernel_rfl) rfl rfl s H
noncomputable def r51_31 : {l : List Oper // opsOf (cAt [1, 1, 0, 0, 0, 1, 1, 1, 0, 1, 0, 0] B51) = l} := by
  apply Subtype.mk
  dsimp only [opsOf, cAt, kids, B51, bodyOf, Try.f51, List.getD, List.getElem?_cons_zero, List.getElem?_cons_succ, Option.getD_some]
@[simp] theorem n51_31 (s : List V) (H : Heap) : evCode P Γ call n f m (cAt [1, 1, 0, 0, 0, 1, 1, 1, 0, 1, 0, 0] B51) s H = regNext (evOpsGo P Γ call r51_31.1 r51_31.1 s H) := at_region (by kernel_rfl) r51_31.2 s H
attribute [simp] r51_31
noncomputable def r51_32 : {l : List Oper // opsOf (cAt [1, 1, 0, 0, 0, 1, 1, 1, 0, 1, 0, 1] B51) = l} := by
  apply Subtype.mk
  dsimp only [opsOf, cAt, kids, B51, bodyOf, Try.f51, List.getD, List.getElem?_cons_zero, List.getElem?_cons_succ, Option.getD_some]
@[simp] theorem n51_32 (s : List V) (H : Heap) : evCode P Γ call n f m (cAt [1, 1, 0, 0, 0, 1, 1, 1, 0, 1, 0, 1] B51) s H = regNext (evOpsGo P Γ call r51_32.1 r51_32.1 s H) := at_region (by kernel_rfl) r51_32.2 s H
attribute [simp] r51_32
@[simp] theorem n51_33 (s : List V) (H : Heap) : evCode P Γ call n f m (cAt [1, 1, 0, 0, 0, 1, 1, 1, 0, 1, 1] B51) s H = some (.normal, s, H) := at_skip (by kernel_rfl) s H
@[simp] theorem n51_34 (s : List V) (H : Heap) : evCode P Γ call n f m (cAt [1, 1, 0, 0, 0, 1, 1, 1, 1] B51) s H = seqNext P Γ call n f m (cAt [1, 1, 0, 0, 0, 1, 1, 1, 1, 1] B51) (evCode P Γ call n f m (cAt [1, 1, 0, 0, 0, 1, 1, 1, 1, 0] B51) s H) := at_seq (by kernel_rfl) rfl rfl s H
noncomputable def r51_35 : {l : List Oper // opsOf (cAt [1, 1, 0, 0, 0, 1, 1, 1, 1, 0] B51) = l} := by
  apply Subtype.mk
  dsimp only [opsOf, cAt, kids, B51, bodyOf, Try.f51, List.getD, List.getElem?_cons_zero, List.getElem?_cons_succ, Option.getD_some]
@[simp] theorem n51_35 (s : List V) (H : Heap) : evCode P Γ call n f m (cAt [1, 1, 0, 0, 0, 1, 1, 1, 1, 0] B51) s H = regNext (evOpsGo P Γ call r51_35.1 r51_35.1 s H) := at_region (by kernel_rfl) r51_35.2 s H
attribute [simp] r51_35
@[simp] theorem n51_36 (s : List V) (H : Heap) : evCode P Γ call n f m (cAt [1, 1, 0, 0, 0, 1, 1, 1, 1, 1] B51) s H = seqNext P Γ call n f m (cAt [1, 1, 0, 0, 0, 1, 1, 1, 1, 1, 1] B51) (evCode P Γ call n f m (cAt [1, 1, 0, 0, 0, 1, 1, 1, 1, 1, 0] B51) s H) := at_seq (by kernel_rfl) rfl rfl s H
@[simp] theorem n51_37 (s : List V) (H : Heap) : evCode P Γ call n f m (cAt [1, 1, 0, 0, 0, 1, 1, 1, 1, 1, 0] B51) s H = seqNext P Γ call n f m (cAt [1, 1, 0, 0, 0, 1, 1, 1, 1, 1, 0, 1] B51) (evCode P Γ call n f m (cAt [1, 1, 0, 0, 0, 1, 1, 1, 1, 1, 0, 0] B51) s H) := at_seq (by kernel_rfl) rfl rfl s H
noncomputable def r51_38 : {l : List Oper // opsOf (cAt [1, 1, 0, 0, 0, 1, 1, 1, 1, 1, 0, 0] B51) = l} := by
  apply Subtype.mk
  dsimp only [opsOf, cAt, kids, B51, bodyOf, Try.f51, List.getD, List.getElem?_cons_zero, List.getElem?_cons_succ, Option.getD_some]
@[simp] theorem n51_38 (s : List V) (H : Heap) : evCode P Γ call n f m (cAt [1, 1, 0, 0, 0, 1, 1, 1, 1, 1, 0, 0] B51) s H = regNext (evOpsGo P Γ call r51_38.1 r51_38.1 s H) := at_region (by kernel_rfl) r51_38.2 s H
attribute [simp] r51_38
@[simp] theorem n51_39 (s : List V) (H : Heap) : evCode P Γ call n f m (cAt [1, 1, 0, 0, 0, 1, 1, 1, 1, 1, 0, 1] B51) s H = condW P Γ call n f m (cAt [1, 1, 0, 0, 0, 1, 1, 1, 1, 1, 0, 1, 0] B51) (cAt [1, 1, 0, 0, 0, 1, 1, 1, 1, 1, 0, 1, 1] B51) s H (evOperand Γ s (.tmp 56)) := at_cond (by kernel_rfl) (by kernel_rfl) rfl rfl s H
@[simp] theorem n51_40 (s : List V) (H : Heap) : evCode P Γ call n f m (cAt [1, 1, 0, 0, 0, 1, 1, 1, 1, 1, 0, 1, 0] B51) s H = seqNext P Γ call n f m (cAt [1, 1, 0, 0, 0, 1, 1, 1, 1, 1, 0, 1, 0, 1] B51) (evCode P Γ call n f m (cAt [1, 1, 0, 0, 0, 1, 1, 1, 1, 1, 0, 1, 0, 0] B51) s H) := at_seq (by kernel_rfl) rfl rfl s H
noncomputable def r51_41 : {l : List Oper // opsOf (cAt [1, 1, 0, 0, 0, 1, 1, 1, 1, 1, 0, 1, 0, 0] B51) = l} := by
  apply Subtype.mk
  dsimp only [opsOf, cAt, kids, B51, bodyOf, Try.f51, List.getD, List.getElem?_cons_zero, List.getElem?_cons_succ, Option.getD_some]
@[simp] theorem n51_41 (s : List V) (H : Heap) : evCode P Γ call n f m (cAt [1, 1, 0, 0, 0, 1, 1, 1, 1, 1, 0, 1, 0, 0] B51) s H = regNext (evOpsGo P Γ call r51_41.1 r51_41.1 s H) := at_region (by kernel_rfl) r51_41.2 s H
attribute [simp] r51_41
@[simp] theorem n51_42 (s : List V) (H : Heap) : evCode P Γ call n f m (cAt [1, 1, 0, 0, 0, 1, 1, 1, 1, 1, 0, 1, 0, 1] B51) s H = seqNext P Γ call n f m (cAt [1, 1, 0, 0, 0, 1, 1, 1, 1, 1, 0, 1, 0, 1, 1] B51) (evCode P Γ call n f m (cAt [1, 1, 0, 0, 0, 1, 1, 1, 1, 1, 0, 1, 0, 1, 0] B51) s H) := at_seq (by kernel_rfl) rfl rfl s H
noncomputable def r51_43 : {l : List Oper // opsOf (cAt [1, 1, 0, 0, 0, 1, 1, 1, 1, 1, 0, 1, 0, 1, 0] B51) = l} := by
  apply Subtype.mk
  dsimp only [opsOf, cAt, kids, B51, bodyOf, Try.f51, List.getD, List.getElem?_cons_zero, List.getElem?_cons_succ, Option.getD_some]
@[simp] theorem n51_43 (s : List V) (H : Heap) : evCode P Γ call n f m (cAt [1, 1, 0, 0, 0, 1, 1, 1, 1, 1, 0, 1, 0, 1, 0] B51) s H = regNext (evOpsGo P Γ call r51_43.1 r51_43.1 s H) := at_region (by kernel_rfl) r51_43.2 s H
attribute [simp] r51_43
noncomputable def r51_44 : {l : List Oper // opsOf (cAt [1, 1, 0, 0, 0, 1, 1, 1, 1, 1, 0, 1, 0, 1, 1] B51) = l} := by
  apply Subtype.mk
  dsimp only [opsOf, cAt, kids, B51, bodyOf, Try.f51, List.getD, List.getElem?_cons_zero, List.getElem?_cons_succ, Option.getD_some]
@[simp] theorem n51_44 (s : List V) (H : Heap) : evCode P Γ call n f m (cAt [1, 1, 0, 0, 0, 1, 1, 1, 1, 1, 0, 1, 0, 1, 1] B51) s H = regNext (evOpsGo P Γ call r51_44.1 r51_44.1 s H) := at_region (by kernel_rfl) r51_44.2 s H
attribute [simp] r51_44
@[simp] theorem n51_45 (s : List V) (H : Heap) : evCode P Γ call n f m (cAt [1, 1, 0, 0, 0, 1, 1, 1, 1, 1, 0, 1, 1] B51) s H = some (.normal, s, H) := at_skip (by kernel_rfl) s H
@[simp] theorem n51_46 (s : List V) (H : Heap) : evCode P Γ call n f m (cAt [1, 1, 0, 0, 0, 1, 1, 1, 1, 1, 1] B51) s H = seqNext P Γ call n f m (cAt [1, 1, 0, 0, 0, 1, 1, 1, 1, 1, 1, 1] B51) (evCode P Γ call n f m (cAt [1, 1, 0, 0, 0, 1, 1, 1, 1, 1, 1, 0] B51) s H) := at_seq (by kernel_rfl) rfl rfl s H
@[simp] theorem n51_47 (s : List V) (H : Heap) : evCode P Γ call n f m (cAt [1, 1, 0, 0, 0, 1, 1, 1, 1, 1, 1, 0] B51) s H = seqNext P Γ call n f m (cAt [1, 1, 0, 0, 0, 1, 1, 1, 1, 1, 1, 0, 1] B51) (evCode P Γ call n f m (cAt [1, 1, 0, 0, 0, 1, 1, 1, 1, 1, 1, 0, 0] B51) s H) := at_seq (by kernel_rfl) rfl rfl s H
noncomputable def r51_48 : {l : List Oper // opsOf (cAt [1, 1, 0, 0, 0, 1, 1, 1, 1, 1, 1, 0, 0] B51) = l} := by
  apply Subtype.mk
  dsimp only [opsOf, cAt, kids, B51, bodyOf, Try.f51, List.getD, List.getElem?_cons_zero, List.getElem?_cons_succ, Option.getD_some]
@[simp] theorem n51_48 (s : List V) (H : Heap) : evCode P Γ call n f m (cAt [1, 1, 0, 0, 0, 1, 1, 1, 1, 1, 1, 0, 0] B51) s H = regNext (evOpsGo P Γ call r51_48.1 r51_48.1 s H) := at_region (by kernel_rfl) r51_48.2 s H
attribute [simp] r51_48
@[simp] theorem n51_49 (s : List V) (H : Heap) : evCode P Γ call n f m (cAt [1, 1, 0, 0, 0, 1, 1, 1, 1, 1, 1, 0, 1] B51) s H = condW P Γ call n f m (cAt [1, 1, 0, 0, 0, 1, 1, 1, 1, 1, 1, 0, 1, 0] B51) (cAt [1, 1, 0, 0, 0, 1, 1, 1, 1, 1, 1, 0, 1, 1] B51) s H (evOperand Γ s (.tmp 75)) := at_cond (by kernel_rfl) (by kernel_rfl) rfl rfl s H
@[simp] theorem n51_50 (s : List V) (H : Heap) : evCode P Γ call n f m (cAt [1, 1, 0, 0, 0, 1, 1, 1, 1, 1, 1, 0, 1, 0] B51) s H = seqNext P Γ call n f m (cAt [1, 1, 0, 0, 0, 1, 1, 1, 1, 1, 1, 0, 1, 0, 1] B51) (evCode P Γ call n f m (cAt [1, 1, 0, 0, 0, 1, 1, 1, 1, 1, 1, 0, 1, 0, 0] B51) s H) := at_seq (by kernel_rfl) rfl rfl s H
noncomputable def r51_51 : {l : List Oper // opsOf (cAt [1, 1, 0, 0, 0, 1, 1, 1, 1, 1, 1, 0, 1, 0, 0] B51) = l} := by
  apply Subtype.mk
  dsimp only [opsOf, cAt, kids, B51, bodyOf, Try.f51, List.getD, List.getElem?_cons_zero, List.getElem?_cons_succ, Option.getD_some]
@[simp] theorem n51_51 (s : List V) (H : Heap) : evCode P Γ call n f m (cAt [1, 1, 0, 0, 0, 1, 1, 1, 1, 1, 1, 0, 1, 0, 0] B51) s H = regNext (evOpsGo P Γ call r51_51.1 r51_51.1 s H) := at_region (by kernel_rfl) r51_51.2 s H
attribute [simp] r51_51
@[simp] theorem n51_52 (s : List V) (H : Heap) : evCode P Γ call n f m (cAt [1, 1, 0, 0, 0, 1, 1, 1, 1, 1, 1, 0, 1, 0, 1] B51) s H = condW P Γ call n f m (cAt [1, 1, 0, 0, 0, 1, 1, 1, 1, 1, 1, 0, 1, 0, 1, 0] B51) (cAt [1, 1, 0, 0, 0, 1, 1, 1, 1, 1, 1, 0, 1, 0, 1, 1] B51) s H (evOperand Γ s (.tmp 80)) := at_cond (by kernel_rfl) (by kernel_rfl) rfl rfl s H
@[simp] theorem n51_53 (s : List V) (H : Heap) : evCode P Γ call n f m (cAt [1, 1, 0, 0, 0, 1, 1, 1, 1, 1, 1, 0, 1, 0, 1, 0] B51) s H = some (.ret, s, H) := at_ret (by kernel_rfl) s H
@[simp] theorem n51_54 (s : List V) (H : Heap) : evCode P Γ call n f m (cAt [1, 1, 0, 0, 0, 1, 1, 1, 1, 1, 1, 0, 1, 0, 1, 1] B51) s H = some (.normal, s, H) := at_skip (by kernel_rfl) s H
@[simp] theorem n51_55 (s : List V) (H : Heap) : evCode P Γ call n f m (cAt [1, 1, 0, 0, 0, 1, 1, 1, 1, 1, 1, 0, 1, 1] B51) s H = some (.normal, s, H) := at_skip (by kernel_rfl) s H
@[simp] theorem n51_56 (s : List V) (H : Heap) : evCode P Γ call n f m (cAt [1, 1, 0, 0, 0, 1, 1, 1, 1, 1, 1, 1] B51) s H = seqNext P Γ call n f m (cAt [1, 1, 0, 0, 0, 1, 1, 1, 1, 1, 1, 1, 1] B51) (evCode P Γ call n f m (cAt [1, 1, 0, 0, 0, 1, 1, 1, 1, 1, 1, 1, 0] B51) s H) := at_seq (by kernel_rfl) rfl rfl s H
@[simp] theorem n51_57 (s : List V) (H : Heap) : evCode P Γ call n f m (cAt [1, 1, 0, 0, 0, 1, 1, 1, 1, 1, 1, 1, 0] B51) s H = seqNext P Γ call n f m (cAt [1, 1, 0, 0, 0, 1, 1, 1, 1, 1, 1, 1, 0, 1] B51) (evCode P Γ call n f m (cAt [1, 1, 0, 0, 0, 1, 1, 1, 1, 1, 1, 1, 0, 0] B51) s H) := at_seq (by kernel_rfl) rfl rfl s H
noncomputable def r51_58 : {l : List Oper // opsOf (cAt [1, 1, 0, 0, 0, 1, 1, 1, 1, 1, 1, 1, 0, 0] B51) = l} := by
  apply Subtype.mk
  dsimp only [opsOf, cAt, kids, B51, bodyOf, Try.f51, List.getD, List.getElem?_cons_zero, List.getElem?_cons_succ, Option.getD_some]
@[simp] theorem n51_58 (s : List V) (H : Heap) : evCode P Γ call n f m (cAt [1, 1, 0, 0, 0, 1, 1, 1, 1, 1, 1, 1, 0, 0] B51) s H = regNext (drawR P Γ call r51_58.1 [([], []), ([], []), ([], []), ([4, 5, 6, 7, 8, 9, 10, 11, 12], [85, 86, 87, 88, 89, 90, 91, 92, 93]), ([3, 5, 6, 9, 10, 11, 12], [84, 86, 87, 90, 91, 92, 93]), ([3, 4, 9, 10, 11, 12], [84, 85, 90, 91, 92, 93]), ([3, 4, 9, 10, 11, 12], [84, 85, 90, 91, 92, 93]), ([3, 9, 10, 11, 12], [84, 90, 91, 92, 93]), ([3, 9, 10, 11, 12], [84, 90, 91, 92, 93]), ([3, 4, 5, 6, 7, 8, 10], [84, 85, 86, 87, 88, 89, 91]), ([3, 4, 5, 6, 7, 8, 9], [84, 85, 86, 87, 88, 89, 90]), ([3, 4, 5, 6, 7, 8], [84, 85, 86, 87, 88, 89]), ([3, 4, 5, 6, 7, 8], [84, 85, 86, 87, 88, 89]), ([], []), ([], []), ([], []), ([], [])] s H) := at_drawT (by kernel_rfl) r51_58.2 (by kernel_rfl) s H
attribute [simp] r51_58
@[simp] theorem n51_59 (s : List V) (H : Heap) : evCode P Γ call n f m (cAt [1, 1, 0, 0, 0, 1, 1, 1, 1, 1, 1, 1, 0, 1] B51) s H = condW P Γ call n f m (cAt [1, 1, 0, 0, 0, 1, 1, 1, 1, 1, 1, 1, 0, 1, 0] B51) (cAt [1, 1, 0, 0, 0, 1, 1, 1, 1, 1, 1, 1, 0, 1, 1] B51) s H (evOperand Γ s (.tmp 97)) := at_cond (by kernel_rfl) (by kernel_rfl) rfl rfl s H
@[simp] theorem n51_60 (s : List V) (H : Heap) : evCode P Γ call n f m (cAt [1, 1, 0, 0, 0, 1, 1, 1, 1, 1, 1, 1, 0, 1, 0] B51) s H = seqNext P Γ call n f m (cAt [1, 1, 0, 0, 0, 1, 1, 1, 1, 1, 1, 1, 0, 1, 0, 1] B51) (evCode P Γ call n f m (cAt [1, 1, 0, 0, 0, 1, 1, 1, 1, 1, 1, 1, 0, 1, 0, 0] B51) s H) := at_seq (by kernel_rfl) rfl rfl s H
noncomputable def r51_61 : {l : List Oper // opsOf (cAt [1, 1, 0, 0, 0, 1, 1, 1, 1, 1, 1, 1, 0, 1, 0, 0] B51) = l} := by
  apply Subtype.mk
  dsimp only [opsOf, cAt, kids, B51, bodyOf, Try.f51, List.getD, List.getElem?_cons_zero, List.getElem?_cons_succ, Option.getD_some]
@[simp] theorem n51_61 (s : List V) (H : Heap) : evCode P Γ call n f m (cAt [1, 1, 0, 0, 0, 1, 1, 1, 1, 1, 1, 1, 0, 1, 0, 0] B51) s H = regNext (evOpsGo P Γ call r51_61.1 r51_61.1 s H) := at_region (by kernel_rfl) r51_61.2 s H
attribute [simp] r51_61
@[simp] theorem n51_62 (s : List V) (H : Heap) : evCode P Γ call n f m (cAt [1, 1, 0, 0, 0, 1, 1, 1, 1, 1, 1, 1, 0, 1, 0, 1] B51) s H = seqNext P Γ call n f m (cAt [1, 1, 0, 0, 0, 1, 1, 1, 1, 1, 1, 1, 0, 1, 0, 1, 1] B51) (evCode P Γ call n f m (cAt [1, 1, 0, 0, 0, 1, 1, 1, 1, 1, 1, 1, 0, 1, 0, 1, 0] B51) s H) := at_seq (by kernel_rfl) rfl rfl s H
noncomputable def r51_63 : {l : List Oper // opsOf (cAt [1, 1, 0, 0, 0, 1, 1, 1, 1, 1, 1, 1, 0, 1, 0, 1, 0] B51) = l} := by
  apply Subtype.mk
  dsimp only [opsOf, cAt, kids, B51, bodyOf, Try.f51, List.getD, List.getElem?_cons_zero, List.getElem?_cons_succ, Option.getD_some]
@[simp] theorem n51_63 (s : List V) (H : Heap) : evCode P Γ call n f m (cAt [1, 1, 0, 0, 0, 1, 1, 1, 1, 1, 1, 1, 0, 1, 0, 1, 0] B51) s H = regNext (evOpsGo P Γ call r51_63.1 r51_63.1 s H) := at_region (by kernel_rfl) r51_63.2 s H
attribute [simp] r51_63
@[simp] theorem n51_64 (s : List V) (H : Heap) : evCode P Γ call n f m (cAt [1, 1, 0, 0, 0, 1, 1, 1, 1, 1, 1, 1, 0, 1, 0, 1, 1] B51) s H = some (.exit 1, s, H) := at_exit (by kernel_rfl) s H
@[simp] theorem n51_65 (s : List V) (H : Heap) : evCode P Γ call n f m (cAt [1, 1, 0, 0, 0, 1, 1, 1, 1, 1, 1, 1, 0, 1, 1] B51) s H = some (.normal, s, H) := at_skip (by kernel_rfl) s H
@[simp] theorem n51_66 (s : List V) (H : Heap) : evCode P Γ call n f m (cAt [1, 1, 0, 0, 0, 1, 1, 1, 1, 1, 1, 1, 1] B51) s H = seqNext P Γ call n f m (cAt [1, 1, 0, 0, 0, 1, 1, 1, 1, 1, 1, 1, 1, 1] B51) (evCode P Γ call n f m (cAt [1, 1, 0, 0, 0, 1, 1, 1, 1, 1, 1, 1, 1, 0] B51) s H) := at_seq (by kernel_rfl) rfl rfl s H
noncomputable def r51_67 : {l : List Oper // opsOf (cAt [1, 1, 0, 0, 0, 1, 1, 1, 1, 1, 1, 1, 1, 0] B51) = l} := by
  apply Subtype.mk
  dsimp only [opsOf, cAt, kids, B51, bodyOf, Try.f51, List.getD, List.getElem?_cons_zero, List.getElem?_cons_succ, Option.getD_some]
@[simp] theorem n51_67 (s : List V) (H : Heap) : evCode P Γ call n f m (cAt [1, 1, 0, 0, 0, 1, 1, 1, 1, 1, 1, 1, 1, 0] B51) s H = regNext (evOpsGo P Γ call r51_67.1 r51_67.1 s H) := at_region (by kernel_rfl) r51_67.2 s H
attribute [simp] r51_67
@[simp] theorem n51_68 (s : List V) (H : Heap) : evCode P Γ call n f m (cAt [1, 1, 0, 0, 0, 1, 1, 1, 1, 1, 1, 1, 1, 1] B51) s H = seqNext P Γ call n f m (cAt [1, 1, 0, 0, 0, 1, 1, 1, 1, 1, 1, 1, 1, 1, 1] B51) (evCode P Γ call n f m (cAt [1, 1, 0, 0, 0, 1, 1, 1, 1, 1, 1, 1, 1, 1, 0] B51) s H) := at_seq (by kernel_rfl) rfl rfl s H
noncomputable def r51_69 : {l : List Oper // opsOf (cAt [1, 1, 0, 0, 0, 1, 1, 1, 1, 1, 1, 1, 1, 1, 0] B51) = l} := by
  apply Subtype.mk
  dsimp only [opsOf, cAt, kids, B51, bodyOf, Try.f51, List.getD, List.getElem?_cons_zero, List.getElem?_cons_succ, Option.getD_some]
@[simp] theorem n51_69 (s : List V) (H : Heap) : evCode P Γ call n f m (cAt [1, 1, 0, 0, 0, 1, 1, 1, 1, 1, 1, 1, 1, 1, 0] B51) s H = regNext (evOpsGo P Γ call r51_69.1 r51_69.1 s H) := at_region (by kernel_rfl) r51_69.2 s H
attribute [simp] r51_69
@[simp] theorem n51_70 (s : List V) (H : Heap) : evCode P Γ call n f m (cAt [1, 1, 0, 0, 0, 1, 1, 1, 1, 1, 1, 1, 1, 1, 1] B51) s H = seqNext P Γ call n f m (cAt [1, 1, 0, 0, 0, 1, 1, 1, 1, 1, 1, 1, 1, 1, 1, 1] B51) (evCode P Γ call n f m (cAt [1, 1, 0, 0, 0, 1, 1, 1, 1, 1, 1, 1, 1, 1, 1, 0] B51) s H) := at_seq (by kernel_rfl) rfl rfl s H
noncomputable def r51_71 : {l : List Oper // opsOf (cAt [1, 1, 0, 0, 0, 1, 1, 1, 1, 1, 1, 1, 1, 1, 1, 0] B51) = l} := by
  apply Subtype.mk
  dsimp only [opsOf, cAt, kids, B51, bodyOf, Try.f51, List.getD, List.getElem?_cons_zero, List.getElem?_cons_succ, Option.getD_some]
@[simp] theorem n51_71 (s : List V) (H : Heap) : evCode P Γ call n f m (cAt [1, 1, 0, 0, 0, 1, 1, 1, 1, 1, 1, 1, 1, 1, 1, 0] B51) s H = regNext (evOpsGo P Γ call r51_71.1 r51_71.1 s H) := at_region (by kernel_rfl) r51_71.2 s H
attribute [simp] r51_71
@[simp] theorem n51_72 (s : List V) (H : Heap) : evCode P Γ call n f m (cAt [1, 1, 0, 0, 0, 1, 1, 1, 1, 1, 1, 1, 1, 1, 1, 1] B51) s H = seqNext P Γ call n f m (cAt [1, 1, 0, 0, 0, 1, 1, 1, 1, 1, 1, 1, 1, 1, 1, 1, 1] B51) (evCode P Γ call n f m (cAt [1, 1, 0, 0, 0, 1, 1, 1, 1, 1, 1, 1, 1, 1, 1, 1, 0] B51) s H) := at_seq (by kernel_rfl) rfl rfl s H
noncomputable def r51_73 : {l : List Oper // opsOf (cAt [1, 1, 0, 0, 0, 1, 1, 1, 1, 1, 1, 1, 1, 1, 1, 1, 0] B51) = l} := by
  apply Subtype.mk
  dsimp only [opsOf, cAt, kids, B51, bodyOf, Try.f51, List.getD, List.getElem?_cons_zero, List.getElem?_cons_succ, Option.getD_some]
@[simp] theorem n51_73 (s : List V) (H : Heap) : evCode P Γ call n f m (cAt [1, 1, 0, 0, 0, 1, 1, 1, 1, 1, 1, 1, 1, 1, 1, 1, 0] B51) s H = regNext (evOpsGo P Γ call r51_73.1 r51_73.1 s H) := at_region (by kernel_rfl) r51_73.2 s H
attribute [simp] r51_73
@[simp] theorem n51_74 (s : List V) (H : Heap) : evCode P Γ call n f m (cAt [1, 1, 0, 0, 0, 1, 1, 1, 1, 1, 1, 1, 1, 1, 1, 1, 1] B51) s H = seqNext P Γ call n f m (cAt [1, 1, 0, 0, 0, 1, 1, 1, 1, 1, 1, 1, 1, 1, 1, 1, 1, 1] B51) (evCode P Γ call n f m (cAt [1, 1, 0, 0, 0, 1, 1, 1, 1, 1, 1, 1, 1, 1, 1, 1, 1, 0] B51) s H) := at_seq (by kernel_rfl) rfl rfl s H
noncomputable def r51_75 : {l : List Oper // opsOf (cAt [1, 1, 0, 0, 0, 1, 1, 1, 1, 1, 1, 1, 1, 1, 1, 1, 1, 0] B51) = l} := by
  apply Subtype.mk
  dsimp only [opsOf, cAt, kids, B51, bodyOf, Try.f51, List.getD, List.getElem?_cons_zero, List.getElem?_cons_succ, Option.getD_some]
@[simp] theorem n51_75 (s : List V) (H : Heap) : evCode P Γ call n f m (cAt [1, 1, 0, 0, 0, 1, 1, 1, 1, 1, 1, 1, 1, 1, 1, 1, 1, 0] B51) s H = regNext (evOpsGo P Γ call r51_75.1 r51_75.1 s H) := at_region (by kernel_rfl) r51_75.2 s H
attribute [simp] r51_75
@[simp] theorem n51_76 (s : List V) (H : Heap) : evCode P Γ call n f m (cAt [1, 1, 0, 0, 0, 1, 1, 1, 1, 1, 1, 1, 1, 1, 1, 1, 1, 1] B51) s H = condW P Γ call n f m (cAt [1, 1, 0, 0, 0, 1, 1, 1, 1, 1, 1, 1, 1, 1, 1, 1, 1, 1, 0] B51) (cAt [1, 1, 0, 0, 0, 1, 1, 1, 1, 1, 1, 1, 1, 1, 1, 1, 1, 1, 1] B51) s H (evOperand Γ s (.tmp 125)) := at_cond (by kernel_rfl) (by kernel_rfl) rfl rfl s H
@[simp] theorem n51_77 (s : List V) (H : Heap) : evCode P Γ call n f m (cAt [1, 1, 0, 0, 0, 1, 1, 1, 1, 1, 1, 1, 1, 1, 1, 1, 1, 1, 0] B51) s H = seqNext P Γ call n f m (cAt [1, 1, 0, 0, 0, 1, 1, 1, 1, 1, 1, 1, 1, 1, 1, 1, 1, 1, 0, 1] B51) (evCode P Γ call n f m (cAt [1, 1, 0, 0, 0, 1, 1, 1, 1, 1, 1, 1, 1, 1, 1, 1, 1, 1, 0, 0] B51) s H) := at_seq (by kernel_rfl) rfl rfl s H
noncomputable def r51_78 : {l : List Oper // opsOf (cAt [1, 1, 0, 0, 0, 1, 1, 1, 1, 1, 1, 1, 1, 1, 1, 1, 1, 1, 0, 0] B51) = l} := by
  apply Subtype.mk
  dsimp only [opsOf, cAt, kids, B51, bodyOf, Try.f51, List.getD, List.getElem?_cons_zero, List.getElem?_cons_succ, Option.getD_some]
@[simp] theorem n51_78 (s : List V) (H : Heap) : evCode P Γ call n f m (cAt [1, 1, 0, 0, 0, 1, 1, 1, 1, 1, 1, 1, 1, 1, 1, 1, 1, 1, 0, 0] B51) s H = regNext (evOpsGo P Γ call r51_78.1 r51_78.1 s H) := at_region (by kernel_rfl) r51_78.2 s H
attribute [simp] r51_78
@[simp] theorem n51_79 (s : List V) (H : Heap) : evCode P Γ call n f m (cAt [1, 1, 0, 0, 0, 1, 1, 1, 1, 1, 1, 1, 1, 1, 1, 1, 1, 1, 0, 1] B51) s H = seqNext P Γ call n f m (cAt [1, 1, 0, 0, 0, 1, 1, 1, 1, 1, 1, 1, 1, 1, 1, 1, 1, 1, 0, 1, 1] B51) (evCode P Γ call n f m (cAt [1, 1, 0, 0, 0, 1, 1, 1, 1, 1, 1, 1, 1, 1, 1, 1, 1, 1, 0, 1, 0] B51) s H) := at_seq (by kernel_rfl) rfl rfl s H
noncomputable def r51_80 : {l : List Oper // opsOf (cAt [1, 1, 0, 0, 0, 1, 1, 1, 1, 1, 1, 1, 1, 1, 1, 1, 1, 1, 0, 1, 0] B51) = l} := by
  apply Subtype.mk
  dsimp only [opsOf, cAt, kids, B51, bodyOf, Try.f51, List.getD, List.getElem?_cons_zero, List.getElem?_cons_succ, Option.getD_some]
@[simp] theorem n51_80 (s : List V) (H : Heap) : evCode P Γ call n f m (cAt [1, 1, 0, 0, 0, 1, 1, 1, 1, 1, 1, 1, 1, 1, 1, 1, 1, 1, 0, 1, 0] B51) s H = regNext (evOpsGo P Γ call r51_80.1 r51_80.1 s H) := at_region (by kernel_rfl) r51_80.2 s H
attribute [simp] r51_80
noncomputable def r51_81 : {l : List Oper // opsOf (cAt [1, 1, 0, 0, 0, 1, 1, 1, 1, 1, 1, 1, 1, 1, 1, 1, 1, 1, 0, 1, 1] B51) = l} := by
  apply Subtype.mk
  dsimp only [opsOf, cAt, kids, B51, bodyOf, Try.f51, List.getD, List.getElem?_cons_zero, List.getElem?_cons_succ, Option.getD_some]
@[simp] theorem n51_81 (s : List V) (H : Heap) : evCode P Γ call n f m (cAt [1, 1, 0, 0, 0, 1, 1, 1, 1, 1, 1, 1, 1, 1, 1, 1, 1, 1, 0, 1, 1] B51) s H = regNext (evOpsGo P Γ call r51_81.1 r51_81.1 s H) := at_region (by kernel_rfl) r51_81.2 s H
attribute [simp] r51_81
@[simp] theorem n51_82 (s : List V) (H : Heap) : evCode P Γ call n f m (cAt [1, 1, 0, 0, 0, 1, 1, 1, 1, 1, 1, 1, 1, 1, 1, 1, 1, 1, 1] B51) s H = seqNext P Γ call n f m (cAt [1, 1, 0, 0, 0, 1, 1, 1, 1, 1, 1, 1, 1, 1, 1, 1, 1, 1, 1, 1] B51) (evCode P Γ call n f m (cAt [1, 1, 0, 0, 0, 1, 1, 1, 1, 1, 1, 1, 1, 1, 1, 1, 1, 1, 1, 0] B51) s H) := at_seq (by kernel_rfl) rfl rfl s H
noncomputable def r51_83 : {l : List Oper // opsOf (cAt [1, 1, 0, 0, 0, 1, 1, 1, 1, 1, 1, 1, 1, 1, 1, 1, 1, 1, 1, 0] B51) = l} := by
  apply Subtype.mk
  dsimp only [opsOf, cAt, kids, B51, bodyOf, Try.f51, List.getD, List.getElem?_cons_zero, List.getElem?_cons_succ, Option.getD_some]
@[simp] theorem n51_83 (s : List V) (H : Heap) : evCode P Γ call n f m (cAt [1, 1, 0, 0, 0, 1, 1, 1, 1, 1, 1, 1, 1, 1, 1, 1, 1, 1, 1, 0] B51) s H = regNext (evOpsGo P Γ call r51_83.1 r51_83.1 s H) := at_region (by kernel_rfl) r51_83.2 s H
attribute [simp] r51_83
@[simp] theorem n51_84 (s : List V) (H : Heap) : evCode P Γ call n f m (cAt [1, 1, 0, 0, 0, 1, 1, 1, 1, 1, 1, 1, 1, 1, 1, 1, 1, 1, 1, 1] B51) s H = seqNext P Γ call n f m (cAt [1, 1, 0, 0, 0, 1, 1, 1, 1, 1, 1, 1, 1, 1, 1, 1, 1, 1, 1, 1, 1] B51) (evCode P Γ call n f m (cAt [1, 1, 0, 0, 0, 1, 1, 1, 1, 1, 1, 1, 1, 1, 1, 1, 1, 1, 1, 1, 0] B51) s H) := at_seq (by kernel_rfl) rfl rfl s H
noncomputable def r51_85 : {l : List Oper // opsOf (cAt [1, 1, 0, 0, 0, 1, 1, 1, 1, 1, 1, 1, 1, 1, 1, 1, 1, 1, 1, 1, 0] B51) = l} := by
  apply Subtype.mk
  dsimp only [opsOf, cAt, kids, B51, bodyOf, Try.f51, List.getD, List.getElem?_cons_zero, List.getElem?_cons_succ, Option.getD_some]
@[simp] theorem n51_85 (s : List V) (H : Heap) : evCode P Γ call n f m (cAt [1, 1, 0, 0, 0, 1, 1, 1, 1, 1, 1, 1, 1, 1, 1, 1, 1, 1, 1, 1, 0] B51) s H = regNext (evOpsGo P Γ call r51_85.1 r51_85.1 s H) := at_region (by kernel_rfl) r51_85.2 s H
attribute [simp] r51_85
noncomputable def r51_86 : {l : List Oper // opsOf (cAt [1, 1, 0, 0, 0, 1, 1, 1, 1, 1, 1, 1, 1, 1, 1, 1, 1, 1, 1, 1, 1] B51) = l} := by
  apply Subtype.mk
  dsimp only [opsOf, cAt, kids, B51, bodyOf, Try.f51, List.getD, List.getElem?_cons_zero, List.getElem?_cons_succ, Option.getD_some]
@[simp] theorem n51_86 (s : List V) (H : Heap) : evCode P Γ call n f m (cAt [1, 1, 0, 0, 0, 1, 1, 1, 1, 1, 1, 1, 1, 1, 1, 1, 1, 1, 1, 1, 1] B51) s H = regNext (evOpsGo P Γ call r51_86.1 r51_86.1 s H) := at_region (by kernel_rfl) r51_86.2 s H
attribute [simp] r51_86
theorem b51 {k : Nat} (ho : ∀ args H, Γ.orc 51 args H = none) (args : List V) (H : Heap) (ha : args.length ≤ 148) : evF Try.prog Γ (k + 1) 51 args H = bodyEnd Try.prog [] H.length (evCode Try.prog Γ (evF Try.prog Γ k) k 51 H.length (cAt [] B51) (mkL 148 V.undef (enumV 0 args)) H) := body_at Try.func51 (by decide) rfl ho rfl rfl args H ha
noncomputable def B52 : Code := bodyOf Try.f52
@[simp] theorem n52_1 (s : List V) (H : Heap) : evCode P Γ call n f m (cAt [] B52) s H = seqNext P Γ call n f m (cAt [1] B52) (evCode P Γ call n f m (cAt [0] B52) s H) := at_seq (by kernel_rfl) rfl rfl s H
noncomputable def r52_2 : {l : List Oper // opsOf (cAt [0] B52) = l} := by
  apply Subtype.mk
  dsimp only [opsOf, cAt, kids, B52, bodyOf, Try.f52, List.getD, List.getElem?_cons_zero, List.getElem?_cons_succ, Option.getD_some]
@[simp] theorem n52_2 (s : List V) (H : Heap) : evCode P Γ call n f m (cAt [0] B52) s H = regNext (evOpsGo P Γ call r52_2.1 r52_2.1 s H) := at_region (by kernel_rfl) r52_2.2 s H
attribute [simp] r52_2
@[simp] theorem n52_3 (s : List V) (H : Heap) : evCode P Γ call n f m (cAt [1] B52) s H = seqNext P Γ call n f m (cAt [1, 1] B52) (evCode P Γ call n f m (cAt [1, 0] B52) s H) := at_seq (by kernel_rfl) rfl rfl s H
@[simp] theorem n52_4 (s : List V) (H : Heap) : evCode P Γ call n f m (cAt [1, 0] B52) s H = condW P Γ call n f m (cAt [1, 0, 0] B52) (cAt [1, 0, 1] B52) s H (evOperand Γ s (.const (.bool false))) := at_cond (by kernel_rfl) (by kernel_rfl) rfl rfl s H
@[simp] theorem n52_5 (s : List V) (H : Heap) : evCode P Γ call n f m (cAt [1, 0, 0] B52) s H = seqNext P Γ call n f m (cAt [1, 0, 0, 1] B52) (evCode P Γ call n f m (cAt [1, 0, 0, 0] B52) s H) := at_seq (by kernel_rfl) rfl rfl s H
noncomputable def r52_6 : {l : List Oper // opsOf (cAt [1, 0, 0, 0] B52) = l} := by
  apply Subtype.mk
  dsimp only [opsOf, cAt, kids, B52, bodyOf, Try.f52, List.getD, List.getElem?_cons_zero, List.getElem?_cons_succ, Option.getD_some]
@[simp] theorem n52_6 (s : List V) (H : Heap) : evCode P Γ call n f m (cAt [1, 0, 0, 0] B52) s H = regNext (evOpsGo P Γ call r52_6.1 r52_6.1 s H) := at_region (by kernel_rfl) r52_6.2 s H
attribute [simp] r52_6
@[simp] theorem n52_7 (s : List V) (H : Heap) : evCode P Γ call n f m (cAt [1, 0, 0, 1] B52) s H = some (.ret, s, H) := at_ret (by kernel_rfl) s H
@[simp] theorem n52_8 (s : List V) (H : Heap) : evCode P Γ call n f m (cAt [1, 0, 1] B52) s H = some (.normal, s, H) := at_skip (by kernel_rfl) s H
@[simp] theorem n52_9 (s : List V) (H : Heap) : evCode P Γ call n f m (cAt [1, 1] B52) s H = seqNext P Γ call n f m (cAt [1, 1, 1] B52) (evCode P Γ call n f m (cAt [1, 1, 0] B52) s H) := at_seq (by kernel_rfl) rfl rfl s H
noncomputable def r52_10 : {l : List Oper // opsOf (cAt [1, 1, 0] B52) = l} := by
  apply Subtype.mk
  dsimp only [opsOf, cAt, kids, B52, bodyOf, Try.f52, List.getD, List.getElem?_cons_zero, List.getElem?_cons_succ, Option.getD_some]
@[simp] theorem n52_10 (s : List V) (H : Heap) : evCode P Γ call n f m (cAt [1, 1, 0] B52) s H = regNext (evOpsGo P Γ call r52_10.1 r52_10.1 s H) := at_region (by kernel_rfl) r52_10.2 s H
attribute [simp] r52_10
@[simp] theorem n52_11 (s : List V) (H : Heap) : evCode P Γ call n f m (cAt [1, 1, 1] B52) s H = some (.ret, s, H) := at_ret (by kernel_rfl) s H
theorem b52 {k : Nat} (ho : ∀ args H, Γ.orc 52 args H = none) (args : List V) (H : Heap) (ha : args.length ≤ 8) : evF Try.prog Γ (k + 1) 52 args H = bodyEnd Try.prog [.tmp 2] H.length (evCode Try.prog Γ (evF Try.prog Γ k) k 52 H.length (cAt [] B52) (mkL 8 V.undef (enumV 0 args)) H) := body_at Try.func52 (by decide) rfl ho rfl rfl args H ha
noncomputable def B55 : Code := bodyOf Try.f55
@[simp] theorem n55_1 (s : List V) (H : Heap) : evCode P Γ call n f m (cAt [] B55) s H = seqNext P Γ call n f m (cAt [1] B55) (evCode P Γ call n f m (cAt [0] B55) s H) := at_seq (by kernel_rfl) rfl rfl s H
noncomputable def r55_2 : {l : List Oper // opsOf (cAt [0] B55) = l} := by
  apply Subtype.mk
  dsimp only [opsOf, cAt, kids, B55, bodyOf, Try.f55, List.getD, List.getElem?_cons_zero, List.getElem?_cons_succ, Option.getD_some]
@[simp] theorem n55_2 (s : List V) (H : Heap) : evCode P Γ call n f m (cAt [0] B55) s H = regNext (evOpsGo P Γ call r55_2.1 r55_2.1 s H) := at_region (by kernel_rfl) r55_2.2 s H
attribute [simp] r55_2
@[simp] theorem n55_3 (s : List V) (H : Heap) : evCode P Γ call n f m (cAt [1] B55) s H = seqNext P Γ call n f m (cAt [1, 1] B55) (evCode P Γ call n f m (cAt [1, 0] B55) s H) := at_seq (by kernel_rfl) rfl rfl s H
noncomputable def r55_4 : {l : List Oper // opsOf (cAt [1, 0] B55) = l} := by
  apply Subtype.mk
  dsimp only [opsOf, cAt, kids, B55, bodyOf, Try.f55, List.getD, List.getElem?_cons_zero, List.getElem?_cons_succ, Option.getD_some]
@[simp] theorem n55_4 (s : List V) (H : Heap) : evCode P Γ call n f m (cAt [1, 0] B55) s H = regNext (evOpsGo P Γ call r55_4.1 r55_4.1 s H) := at_region (by kernel_rfl) r55_4.2 s H
attribute [simp] r55_4
@[simp] theorem n55_5 (s : List V) (H : Heap) : evCode P Γ call n f m (cAt [1, 1] B55) s H = some (.ret, s, H) := at_ret (by kernel_rfl) s H
theorem b55 {k : Nat} (ho : ∀ args H, Γ.orc 55 args H = none) (args : List V) (H : Heap) (ha : args.length ≤ 6) : evF Try.prog Γ (k + 1) 55 args H = bodyEnd Try.prog [.tmp 2] H.length (evCode Try.prog Γ (evF Try.prog Γ k) k 55 H.length (cAt [] B55) (mkL 6 V.undef (enumV 0 args)) H) := body_at Try.func55 (by decide) rfl ho rfl rfl args H ha
noncomputable def B58 : Code := bodyOf Try.f58
@[simp] theorem n58_1 (s : List V) (H : Heap) : evCode P Γ call n f m (cAt [] B58) s H = seqNext P Γ call n f m (cAt [1] B58) (evCode P Γ call n f m (cAt [0] B58) s H) := at_seq (by kernel_rfl) rfl rfl s H
noncomputable def r58_2 : {l : List Oper // opsOf (cAt [0] B58) = l} := by
  apply Subtype.mk
  dsimp only [opsOf, cAt, kids, B58, bodyOf, Try.f58, List.getD, List.getElem?_cons_zero, List.getElem?_cons_succ, Option.getD_some]
@[simp] theorem n58_2 (s : List V) (H : Heap) : evCode P Γ call n f m (cAt [0] B58) s H = regNext (evOpsGo P Γ call r58_2.1 r58_2.1 s H) := at_region (by kernel_rfl) r58_2.2 s H
attribute [simp] r58_2
@[simp] theorem n58_3 (s : List V) (H : Heap) : evCode P Γ call n f m (cAt [1] B58) s H = blockNext 0 (evCode P Γ call n f m (cAt [1, 0] B58) s H) := at_block (by kernel_rfl) rfl s H
@[simp] theorem n58_4 (s : List V) (H : Heap) : evCode P Γ call n f m (cAt [1, 0] B58) s H = evLoopC P Γ call n f m (cAt [1, 0, 0] B58) n s H := at_loop (by kernel_rfl) rfl s H
noncomputable abbrev L58_1 : Code := cAt [1, 0, 0] B58
@[simp] theorem n58_4f : firstRegion (cAt [1, 0, 0] B58) = 1 := by kernel_rfl
@[simp] theorem n58_5 (s : List V) (H : Heap) : evCode P Γ call n f m (cAt [1, 0, 0] B58) s H = seqNext P Γ call n f m (cAt [1, 0, 0, 1] B58) (evCode P Γ call n f m (cAt [1, 0, 0, 0] B58) s H) := at_seq (by kernel_rfl) rfl rfl s H
@[simp] theorem n58_6 (s : List V) (H : Heap) : evCode P Γ call n f m (cAt [1, 0, 0, 0] B58) s H = seqNext P Γ call n f m (cAt [1, 0, 0, 0, 1] B58) (evCode P Γ call n f m (cAt [1, 0, 0, 0, 0] B58) s H) := at_seq (by kernel_rfl) rfl rfl s H
noncomputable def r58_7 : {l : List Oper // opsOf (cAt [1, 0, 0, 0, 0] B58) = l} := by
  apply Subtype.mk
  dsimp only [opsOf, cAt, kids, B58, bodyOf, Try.f58, List.getD, List.getElem?_cons_zero, List.getElem?_cons_succ, Option.getD_some]
@[simp] theorem n58_7 (s : List V) (H : Heap) : evCode P Γ call n f m (cAt [1, 0, 0, 0, 0] B58) s H = regNext (evOpsGo P Γ call r58_7.1 r58_7.1 s H) := at_region (by kernel_rfl) r58_7.2 s H
attribute [simp] r58_7
@[simp] theorem n58_8 (s : List V) (H : Heap) : evCode P Γ call n f m (cAt [1, 0, 0, 0, 1] B58) s H = condW P Γ call n f m (cAt [1, 0, 0, 0, 1, 0] B58) (cAt [1, 0, 0, 0, 1, 1] B58) s H (evOperand Γ s (.tmp 14)) := at_cond (by kernel_rfl) (by kernel_rfl) rfl rfl s H
@[simp] theorem n58_9 (s : List V) (H : Heap) : evCode P Γ call n f m (cAt [1, 0, 0, 0, 1, 0] B58) s H = some (.normal, s, H) := at_skip (by kernel_rfl) s H
@[simp] theorem n58_10 (s : List V) (H : Heap) : evCode P Γ call n f m (cAt [1, 0, 0, 0, 1, 1] B58) s H = some (.exit 0, s, H) := at_exit (by kernel_rfl) s H
@[simp] theorem n58_11 (s : List V) (H : Heap) : evCode P Γ call n f m (cAt [1, 0, 0, 1] B58) s H = seqNext P Γ call n f m (cAt [1, 0, 0, 1, 1] B58) (evCode P Γ call n f m (cAt [1, 0, 0, 1, 0] B58) s H) := at_seq (by kernel_rfl) rfl rfl s H
@[simp] theorem n58_12 (s : List V) (H : Heap) : evCode P Γ call n f m (cAt [1, 0, 0, 1, 0] B58) s H = blockNext 1 (evCode P Γ call n f m (cAt [1, 0, 0, 1, 0, 0] B58) s H) := at_block (by kernel_rfl) rfl s H
@[simp] theorem n58_13 (s : List V) (H : Heap) : evCode P Γ call n f m (cAt [1, 0, 0, 1, 0, 0] B58) s H = seqNext P Γ call n f m (cAt [1, 0, 0, 1, 0, 0, 1] B58) (evCode P Γ call n f m (cAt [1, 0, 0, 1, 0, 0, 0] B58) s H) := at_seq (by kernel_rfl) rfl rfl s H
noncomputable def r58_14 : {l : List Oper // opsOf (cAt [1, 0, 0, 1, 0, 0, 0] B58) = l} := by
  apply Subtype.mk
  dsimp only [opsOf, cAt, kids, B58, bodyOf, Try.f58, List.getD, List.getElem?_cons_zero, List.getElem?_cons_succ, Option.getD_some]
@[simp] theorem n58_14 (s : List V) (H : Heap) : evCode P Γ call n f m (cAt [1, 0, 0, 1, 0, 0, 0] B58) s H = regNext (evOpsGo P Γ call r58_14.1 r58_14.1 s H) := at_region (by kernel_rfl) r58_14.2 s H
attribute [simp] r58_14
@[simp] theorem n58_15 (s : List V) (H : Heap) : evCode P Γ call n f m (cAt [1, 0, 0, 1, 0, 0, 1] B58) s H = blockNext 2 (evCode P Γ call n f m (cAt [1, 0, 0, 1, 0, 0, 1, 0] B58) s H) := at_block (by kernel_rfl) rfl s H
@[simp] theorem n58_16 (s : List V) (H : Heap) : evCode P Γ call n f m (cAt [1, 0, 0, 1, 0, 0, 1, 0] B58) s H = evLoopC P Γ call n f m (cAt [1, 0, 0, 1, 0, 0, 1, 0, 0] B58) n s H := at_loop (by kernel_rfl) rfl s H
noncomputable abbrev L58_4 : Code := cAt [1, 0, 0, 1, 0, 0, 1, 0, 0] B58
@[simp] theorem n58_16f : firstRegion (cAt [1, 0, 0, 1, 0, 0, 1, 0, 0] B58) = 4 := by kernel_rfl
@[simp] theorem n58_17 (s : List V) (H : Heap) : evCode P Γ call n f m (cAt [1, 0, 0, 1, 0, 0, 1, 0, 0] B58) s H = seqNext P Γ call n f m (cAt [1, 0, 0, 1, 0, 0, 1, 0, 0, 1] B58) (evCode P Γ call n f m (cAt [1, 0, 0, 1, 0, 0, 1, 0, 0, 0] B58) s H) := at_seq (by kernel_rfl) rfl rfl s H
@[simp] theorem n58_18 (s : List V) (H : Heap) : evCode P Γ call n f m (cAt [1, 0, 0, 1, 0, 0, 1, 0, 0, 0] B58) s H = seqNext P Γ call n f m (cAt [1, 0, 0, 1, 0, 0, 1, 0, 0, 0, 1] B58) (evCode P Γ call n f m (cAt [1, 0, 0, 1, 0, 0, 1, 0, 0, 0, 0] B58) s H) := at_seq (by kernel_rfl) rfl rfl s H
noncomputable def r58_19 : {l : List Oper // opsOf (cAt [1, 0, 0, 1, 0, 0, 1, 0, 0, 0, 0] B58) = l} := by
  apply Subtype.mk
  dsimp only [opsOf, cAt, kids, B58, bodyOf, Try.f58, List.getD, List.getElem?_cons_zero, List.getElem?_cons_succ, Option.getD_some]
@[simp] theorem n58_19 (s : List V) (H : Heap) : evCode P Γ call n f m (cAt [1, 0, 0, 1, 0, 0, 1, 0, 0, 0, 0] B58) s H = regNext (drawR P Γ call r58_19.1 [([1], [19]), ([0], [18]), ([], []), ([], []), ([5, 6, 7, 8, 9, 10, 11, 12, 13], [23, 24, 25, 26, 27, 28, 29, 30, 31]), ([4, 6, 9, 10, 11, 12, 13], [22, 24, 27, 28, 29, 30, 31]), ([4, 5, 9, 10, 11, 12, 13], [22, 23, 27, 28, 29, 30, 31]), ([4, 9, 10, 11, 12, 13], [22, 27, 28, 29, 30, 31]), ([4, 9, 10, 11, 12, 13], [22, 27, 28, 29, 30, 31]), ([4, 5, 6, 7, 8, 10, 11], [22, 23, 24, 25, 26, 28, 29]), ([4, 5, 6, 7, 8, 9], [22, 23, 24, 25, 26, 27]), ([4, 5, 6, 7, 8, 9], [22, 23, 24, 25, 26, 27]), ([4, 5, 6, 7, 8], [22, 23, 24, 25, 26]), ([4, 5, 6, 7, 8], [22, 23, 24, 25, 26]), ([], []), ([], []), ([], [])] s H) := at_drawT (by kernel_rfl) r58_19.2 (by kernel_rfl) s H
attribute [simp] r58_19
@[simp] theorem n58_20 (s : List V) (H : Heap) : evCode P Γ call n f m (cAt [1, 0, 0, 1, 0, 0, 1, 0, 0, 0, 1] B58) s H = condW P Γ call n f m (cAt [1, 0, 0, 1, 0, 0, 1, 0, 0, 0, 1, 0] B58) (cAt [1, 0, 0, 1, 0, 0, 1, 0, 0, 0, 1, 1] B58) s H (evOperand Γ s (.tmp 34)) := at_cond (by kernel_rfl) (by kernel_rfl) rfl rfl s H
@[simp] theorem n58_21 (s : List V) (H : Heap) : evCode P Γ call n f m (cAt [1, 0, 0, 1, 0, 0, 1, 0, 0, 0, 1, 0] B58) s H = some (.normal, s, H) := at_skip (by kernel_rfl) s H
@[simp] theorem n58_22 (s : List V) (H : Heap) : evCode P Γ call n f m (cAt [1, 0, 0, 1, 0, 0, 1, 0, 0, 0, 1, 1] B58) s H = some (.exit 2, s, H) := at_exit (by kernel_rfl) s H
@[simp] theorem n58_23 (s : List V) (H : Heap) : evCode P Γ call n f m (cAt [1, 0, 0, 1, 0, 0, 1, 0, 0, 1] B58) s H = seqNext P Γ call n f m (cAt [1, 0, 0, 1, 0, 0, 1, 0, 0, 1, 1] B58) (evCode P Γ call n f m (cAt [1, 0, 0, 1, 0, 0, 1, 0, 0, 1, 0] B58) s H) := at_seq (by kernel_rfl) rfl rfl s H
@[simp] theorem n58_24 (s : List V) (H : Heap) : evCode P Γ call n f m (cAt [1, 0, 0, 1, 0, 0, 1, 0, 0, 1, 0] B58) s H = blockNext 3 (evCode P Γ call n f m (cAt [1, 0, 0, 1, 0, 0, 1, 0, 0, 1, 0, 0] B58) s H) := at_block (by kernel_rfl) rfl s H
noncomputable def r58_25 : {l : List Oper // opsOf (cAt [1, 0, 0, 1, 0, 0, 1, 0, 0, 1, 0, 0] B58) = l} := by
  apply Subtype.mk
  dsimp only [opsOf, cAt, kids, B58, bodyOf, Try.f58, List.getD, List.getElem?_cons_zero, List.getElem?_cons_succ, Option.getD_some]
@[simp] theorem n58_25 (s : List V) (H : Heap) : evCode P Γ call n f m (cAt [1, 0, 0, 1, 0, 0, 1, 0, 0, 1, 0, 0] B58) s H = regNext (drawR P Γ call r58_25.1 [([1, 2, 3, 4, 5, 6, 7, 8, 9, 10, 11, 12, 13], [38, 39, 40, 41, 42, 43, 44, 45, 46, 47, 48, 49, 50]), ([0, 2, 3, 4, 5, 6, 7, 8, 9, 10, 11, 12, 13], [37, 39, 40, 41, 42, 43, 44, 45, 46, 47, 48, 49, 50]), ([0, 1, 3, 4, 5, 6, 7, 8, 9, 10, 11, 12, 13, 14, 15], [37, 38, 40, 41, 42, 43, 44, 45, 46, 47, 48, 49, 50, 51]), ([0, 1, 2, 5, 6, 7, 8, 9, 10, 11, 12, 13, 14, 15], [37, 38, 39, 42, 43, 44, 45, 46, 47, 48, 49, 50, 51]), ([0, 1, 2, 5, 6, 7, 8, 9, 10, 11, 12, 13, 14, 15], [37, 38, 39, 42, 43, 44, 45, 46, 47, 48, 49, 50, 51]), ([0, 1, 2, 3, 4, 6, 7, 10, 11, 12, 13], [37, 38, 39, 40, 41, 43, 44, 47, 48, 49, 50]), ([0, 1, 2, 3, 4, 5, 10, 11, 12, 13], [37, 38, 39, 40, 41, 42, 47, 48, 49, 50]), ([0, 1, 2, 3, 4, 5, 10, 11, 12, 13], [37, 38, 39, 40, 41, 42, 47, 48, 49, 50]), ([0, 1, 2, 3, 4, 10, 11, 12, 13], [37, 38, 39, 40, 41, 47, 48, 49, 50]), ([0, 1, 2, 3, 4, 10, 11, 12, 13], [37, 38, 39, 40, 41, 47, 48, 49, 50]), ([0, 1, 2, 3, 4, 5, 6, 7, 8, 9, 11], [37, 38, 39, 40, 41, 42, 43, 44, 45, 46, 48]), ([0, 1, 2, 3, 4, 5, 6, 7, 8, 9, 10], [37, 38, 39, 40, 41, 42, 43, 44, 45, 46, 47]), ([0, 1, 2, 3, 4, 5, 6, 7, 8, 9], [37, 38, 39, 40, 41, 42, 43, 44, 45, 46]), ([0, 1, 2, 3, 4, 5, 6, 7, 8, 9], [37, 38, 39, 40, 41, 42, 43, 44, 45, 46]), ([2, 3, 4], [39, 40, 41]), ([2, 3, 4], [39, 40, 41]), ([], []), ([], [])] s H) := at_drawT (by kernel_rfl) r58_25.2 (by kernel_rfl) s H
attribute [simp] r58_25
noncomputable def r58_26 : {l : List Oper // opsOf (cAt [1, 0, 0, 1, 0, 0, 1, 0, 0, 1, 1] B58) = l} := by
  apply Subtype.mk
  dsimp only [opsOf, cAt, kids, B58, bodyOf, Try.f58, List.getD, List.getElem?_cons_zero, List.getElem?_cons_succ, Option.getD_some]
@[simp] theorem n58_26 (s : List V) (H : Heap) : evCode P Γ call n f m (cAt [1, 0, 0, 1, 0, 0, 1, 0, 0, 1, 1] B58) s H = regNext (evOpsGo P Γ call r58_26.1 r58_26.1 s H) := at_region (by kernel_rfl) r58_26.2 s H
attribute [simp] r58_26
noncomputable def r58_27 : {l : List Oper // opsOf (cAt [1, 0, 0, 1, 1] B58) = l} := by
  apply Subtype.mk
  dsimp only [opsOf, cAt, kids, B58, bodyOf, Try.f58, List.getD, List.getElem?_cons_zero, List.getElem?_cons_succ, Option.getD_some]
@[simp] theorem n58_27 (s : List V) (H : Heap) : evCode P Γ call n f m (cAt [1, 0, 0, 1, 1] B58) s H = regNext (evOpsGo P Γ call r58_27.1 r58_27.1 s H) := at_region (by kernel_rfl) r58_27.2 s H
attribute [simp] r58_27
theorem b58 {k : Nat} (ho : ∀ args H, Γ.orc 58 args H = none) (args : List V) (H : Heap) (ha : args.length ≤ 53) : evF Try.prog Γ (k + 1) 58 args H = bodyEnd Try.prog [] H.length (evCode Try.prog Γ (evF Try.prog Γ k) k 58 H.length (cAt [] B58) (mkL 53 V.undef (enumV 0 args)) H) := body_at Try.func58 (by decide) rfl ho rfl rfl args H ha
noncomputable def B66 : Code := bodyOf Try.f66
@[simp] theorem n66_1 (s : List V) (H : Heap) : evCode P Γ call n f m (cAt [] B66) s H = seqNext P Γ call n f m (cAt [1] B66) (evCode P Γ call n f m (cAt [0] B66) s H) := at_seq (by kernel_rfl) rfl rfl s H
noncomputable def r66_2 : {l : List Oper // opsOf (cAt [0] B66) = l} := by
  apply Subtype.mk
  dsimp only [opsOf, cAt, kids, B66, bodyOf, Try.f66, List.getD, List.getElem?_cons_zero, List.getElem?_cons_succ, Option.getD_some]
@[simp] theorem n66_2 (s : List V) (H : Heap) : evCode P Γ call n f m (cAt [0] B66) s H = regNext (evOpsGo P Γ call r66_2.1 r66_2.1 s H) := at_region (by kernel_rfl) r66_2.2 s H
attribute [simp] r66_2
@[simp] theorem n66_3 (s : List V) (H : Heap) : evCode P Γ call n f m (cAt [1] B66) s H = seqNext P Γ call n f m (cAt [1, 1] B66) (evCode P Γ call n f m (cAt [1, 0] B66) s H) := at_seq (by kernel_rfl) rfl rfl s H
@[simp] theorem n66_4 (s : List V) (H : Heap) : evCode P Γ call n f m (cAt [1, 0] B66) s H = seqNext P Γ call n f m (cAt [1, 0, 1] B66) (evCode P Γ call n f m (cAt [1, 0, 0] B66) s H) := at_seq (by kernel_rfl) rfl rfl s H
noncomputable def r66_5 : {l : List Oper // opsOf (cAt [1, 0, 0] B66) = l} := by
  apply Subtype.mk
  dsimp only [opsOf, cAt, kids, B66, bodyOf, Try.f66, List.getD, List.getElem?_cons_zero, List.getElem?_cons_succ, Option.getD_some]
@[simp] theorem n66_5 (s : List V) (H : Heap) : evCode P Γ call n f m (cAt [1, 0, 0] B66) s H = regNext (evOpsGo P Γ call r66_5.1 r66_5.1 s H) := at_region (by kernel_rfl) r66_5.2 s H
attribute [simp] r66_5
@[simp] theorem n66_6 (s : List V) (H : Heap) : evCode P Γ call n f m (cAt [1, 0, 1] B66) s H = condW P Γ call n f m (cAt [1, 0, 1, 0] B66) (cAt [1, 0, 1, 1] B66) s H (evOperand Γ s (.tmp 4)) := at_cond (by kernel_rfl) (by kernel_rfl) rfl rfl s H
@[simp] theorem n66_7 (s : List V) (H : Heap) : evCode P Γ call n f m (cAt [1, 0, 1, 0] B66) s H = seqNext P Γ call n f m (cAt [1, 0, 1, 0, 1] B66) (evCode P Γ call n f m (cAt [1, 0, 1, 0, 0] B66) s H) := at_seq (by kernel_rfl) rfl rfl s H
noncomputable def r66_8 : {l : List Oper // opsOf (cAt [1, 0, 1, 0, 0] B66) = l} := by
  apply Subtype.mk
  dsimp only [opsOf, cAt, kids, B66, bodyOf, Try.f66, List.getD, List.getElem?_cons_zero, List.getElem?_cons_succ, Option.getD_some]
@[simp] theorem n66_8 (s : List V) (H : Heap) : evCode P Γ call n f m (cAt [1, 0, 1, 0, 0] B66) s H = regNext (evOpsGo P Γ call r66_8.1 r66_8.1 s H) := at_region (by kernel_rfl) r66_8.2 s H
attribute [simp] r66_8
noncomputable def r66_9 : {l : List Oper // opsOf (cAt [1, 0, 1, 0, 1] B66) = l} := by
  apply Subtype.mk
  dsimp only [opsOf, cAt, kids, B66, bodyOf, Try.f66, List.getD, List.getElem?_cons_zero, List.getElem?_cons_succ, Option.getD_some]
@[simp] theorem n66_9 (s : List V) (H : Heap) : evCode P Γ call n f m (cAt [1, 0, 1, 0, 1] B66) s H = regNext (evOpsGo P Γ call r66_9.1 r66_9.1 s H) := at_region (by kernel_rfl) r66_9.2 s H
attribute [simp] r66_9
@[simp] theorem n66_10 (s : List V) (H : Heap) : evCode P Γ call n f m (cAt [1, 0, 1, 1] B66) s H = some (.normal, s, H) := at_skip (by kernel_rfl) s H
@[simp] theorem n66_11 (s : List V) (H : Heap) : evCode P Γ call n f m (cAt [1, 1] B66) s H = seqNext P Γ call n f m (cAt [1, 1, 1] B66) (evCode P Γ call n f m (cAt [1, 1, 0] B66) s H) := at_seq (by kernel_rfl) rfl rfl s H
@[simp] theorem n66_12 (s : List V) (H : Heap) : evCode P Γ call n f m (cAt [1, 1, 0] B66) s H = seqNext P Γ call n f m (cAt [1, 1, 0, 1] B66) (evCode P Γ call n f m (cAt [1, 1, 0, 0] B66) s H) := at_seq (by kernel_rfl) rfl rfl s H
noncomputable def r66_13 : {l : List Oper // opsOf (cAt [1, 1, 0, 0] B66) = l} := by
  apply Subtype.mk
  dsimp only [opsOf, cAt, kids, B66, bodyOf, Try.f66, List.getD, List.getElem?_cons_zero, List.getElem?_cons_succ, Option.getD_some]
@[simp] theorem n66_13 (s : List V) (H : Heap) : evCode P Γ call n f m (cAt [1, 1, 0, 0] B66) s H = regNext (evOpsGo P Γ call r66_13.1 r66_13.1 s H) := at_region (by kernel_rfl) r66_13.2 s H
attribute [simp] r66_13
@[simp] theorem n66_14 (s : List V) (H : Heap) : evCode P Γ call n f m (cAt [1, 1, 0, 1] B66) s H = condW P Γ call n f m (cAt [1, 1, 0, 1, 0] B66) (cAt [1, 1, 0, 1, 1] B66) s H (evOperand Γ s (.tmp 8)) := at_cond (by kernel_rfl) (by kernel_rfl) rfl rfl s H
@[simp] theorem n66_15 (s : List V) (H : Heap) : evCode P Γ call n f m (cAt [1, 1, 0, 1, 0] B66) s H = seqNext P Γ call n f m (cAt [1, 1, 0, 1, 0, 1] B66) (evCode P Γ call n f m (cAt [1, 1, 0, 1, 0, 0] B66) s H) := at_seq (by kernel_rfl) rfl rfl s H
noncomputable def r66_16 : {l : List Oper // opsOf (cAt [1, 1, 0, 1, 0, 0] B66) = l} := by
  apply Subtype.mk
  dsimp only [opsOf, cAt, kids, B66, bodyOf, Try.f66, List.getD, List.getElem?_cons_zero, List.getElem?_cons_succ, Option.getD_some]
@[simp] theorem n66_16 (s : List V) (H : Heap) : evCode P Γ call n f m (cAt [1, 1, 0, 1, 0, 0] B66) s H = regNext (evOpsGo P Γ call r66_16.1 r66_16.1 s H) := at_region (by kernel_rfl) r66_16.2 s H
attribute [simp] r66_16
noncomputable def r66_17 : {l : List Oper // opsOf (cAt [1, 1, 0, 1, 0, 1] B66) = l} := by
  apply Subtype.mk
  dsimp only [opsOf, cAt, kids, B66, bodyOf, Try.f66, List.getD, List.getElem?_cons_zero, List.getElem?_cons_succ, Option.getD_some]
@[simp] theorem n66_17 (s : List V) (H : Heap) : evCode P Γ call n f m (cAt [1, 1, 0, 1, 0, 1] B66) s H = regNext (evOpsGo P Γ call r66_17.1 r66_17.1 s H) := at_region (by kernel_rfl) r66_17.2 s H
attribute [simp] r66_17
@[simp] theorem n66_18 (s : List V) (H : Heap) : evCode P Γ call n f m (cAt [1, 1, 0, 1, 1] B66) s H = some (.normal, s, H) := at_skip (by kernel_rfl) s H
@[simp] theorem n66_19 (s : List V) (H : Heap) : evCode P Γ call n f m (cAt [1, 1, 1] B66) s H = seqNext P Γ call n f m (cAt [1, 1, 1, 1] B66) (evCode P Γ call n f m (cAt [1, 1, 1, 0] B66) s H) := at_seq (by kernel_rfl) rfl rfl s H
noncomputable def r66_20 : {l : List Oper // opsOf (cAt [1, 1, 1, 0] B66) = l} := by
  apply Subtype.mk
  dsimp only [opsOf, cAt, kids, B66, bodyOf, Try.f66, List.getD, List.getElem?_cons_zero, List.getElem?_cons_succ, Option.getD_some]
@[simp] theorem n66_20 (s : List V) (H : Heap) : evCode P Γ call n f m (cAt [1, 1, 1, 0] B66) s H = regNext (evOpsGo P Γ call r66_20.1 r66_20.1 s H) := at_region (by kernel_rfl) r66_20.2 s H
attribute [simp] r66_20
@[simp] theorem n66_21 (s : List V) (H : Heap) : evCode P Γ call n f m (cAt [1, 1, 1, 1] B66) s H = some (.ret, s, H) := at_ret (by kernel_rfl) s H
theorem b66 {k : Nat} (ho : ∀ args H, Γ.orc 66 args H = none) (args : List V) (H : Heap) (ha : args.length ≤ 19) : evF Try.prog Γ (k + 1) 66 args H = bodyEnd Try.prog [.tmp 2] H.length (evCode Try.prog Γ (evF Try.prog Γ k) k 66 H.length (cAt [] B66) (mkL 19 V.undef (enumV 0 args)) H) := body_at Try.func66 (by decide) rfl ho rfl rfl args H ha
noncomputable def B67 : Code := bodyOf Try.f67
@[simp] theorem n67_1 (s : List V) (H : Heap) : evCode P Γ call n f m (cAt [] B67) s H = seqNext P Γ call n f m (cAt [1] B67) (evCode P Γ call n f m (cAt [0] B67) s H) := at_seq (by kernel_rfl) rfl rfl s H
noncomputable def r67_2 : {l : List Oper // opsOf (cAt [0] B67) = l} := by
  apply Subtype.mk
  dsimp only [opsOf, cAt, kids, B67, bodyOf, Try.f67, List.getD, List.getElem?_cons_zero, List.getElem?_cons_succ, Option.getD_some]
@[simp] theorem n67_2 (s : List V) (H : Heap) : evCode P Γ call n f m (cAt [0] B67) s H = regNext (evOpsGo P Γ call r67_2.1 r67_2.1 s H) := at_region (by kernel_rfl) r67_2.2 s H
attribute [simp] r67_2
@[simp] theorem n67_3 (s : List V) (H : Heap) : evCode P Γ call n f m (cAt [1] B67) s H = seqNext P Γ call n f m (cAt [1, 1] B67) (evCode P Γ call n f m (cAt [1, 0] B67) s H) := at_seq (by kernel_rfl) rfl rfl s H
@[simp] theorem n67_4 (s : List V) (H : Heap) : evCode P Γ call n f m (cAt [1, 0] B67) s H = seqNext P Γ call n f m (cAt [1, 0, 1] B67) (evCode P Γ call n f m (cAt [1, 0, 0] B67) s H) := at_seq (by kernel_rfl) rfl rfl s H
noncomputable def r67_5 : {l : List Oper // opsOf (cAt [1, 0, 0] B67) = l} := by
  apply Subtype.mk
  dsimp only [opsOf, cAt, kids, B67, bodyOf, Try.f67, List.getD, List.getElem?_cons_zero, List.getElem?_cons_succ, Option.getD_some]
@[simp] theorem n67_5 (s : List V) (H : Heap) : evCode P Γ call n f m (cAt [1, 0, 0] B67) s H = regNext (evOpsGo P Γ call r67_5.1 r67_5.1 s H) := at_region (by kernel_rfl) r67_5.2 s H
attribute [simp] r67_5
@[simp] theorem n67_6 (s : List V) (H : Heap) : evCode P Γ call n f m (cAt [1, 0, 1] B67) s H = condW P Γ call n f m (cAt [1, 0, 1, 0] B67) (cAt [1, 0, 1, 1] B67) s H (evOperand Γ s (.tmp 4)) := at_cond (by kernel_rfl) (by kernel_rfl) rfl rfl s H
@[simp] theorem n67_7 (s : List V) (H : Heap) : evCode P Γ call n f m (cAt [1, 0, 1, 0] B67) s H = seqNext P Γ call n f m (cAt [1, 0, 1, 0, 1] B67) (evCode P Γ call n f m (cAt [1, 0, 1, 0, 0] B67) s H) := at_seq (by kernel_rfl) rfl rfl s H
noncomputable def r67_8 : {l : List Oper // opsOf (cAt [1, 0, 1, 0, 0] B67) = l} := by
  apply Subtype.mk
  dsimp only [opsOf, cAt, kids, B67, bodyOf, Try.f67, List.getD, List.getElem?_cons_zero, List.getElem?_cons_succ, Option.getD_some]
@[simp] theorem n67_8 (s : List V) (H : Heap) : evCode P Γ call n f m (cAt [1, 0, 1, 0, 0] B67) s H = regNext (evOpsGo P Γ call r67_8.1 r67_8.1 s H) := at_region (by kernel_rfl) r67_8.2 s H
attribute [simp] r67_8
noncomputable def r67_9 : {l : List Oper // opsOf (cAt [1, 0, 1, 0, 1] B67) = l} := by
  apply Subtype.mk
  dsimp only [opsOf, cAt, kids, B67, bodyOf, Try.f67, List.getD, List.getElem?_cons_zero, List.getElem?_cons_succ, Option.getD_some]
@[simp] theorem n67_9 (s : List V) (H : Heap) : evCode P Γ call n f m (cAt [1, 0, 1, 0, 1] B67) s H = regNext (evOpsGo P Γ call r67_9.1 r67_9.1 s H) := at_region (by kernel_rfl) r67_9.2 s H
attribute [simp] r67_9
@[simp] theorem n67_10 (s : List V) (H : Heap) : evCode P Γ call n f m (cAt [1, 0, 1, 1] B67) s H = some (.normal, s, H) := at_skip (by kernel_rfl) s H
@[simp] theorem n67_11 (s : List V) (H : Heap) : evCode P Γ call n f m (cAt [1, 1] B67) s H = seqNext P Γ call n f m (cAt [1, 1, 1] B67) (evCode P Γ call n f m (cAt [1, 1, 0] B67) s H) := at_seq (by kernel_rfl) rfl rfl s H
@[simp] theorem n67_12 (s : List V) (H : Heap) : evCode P Γ call n f m (cAt [1, 1, 0] B67) s H = seqNext P Γ call n f m (cAt [1, 1, 0, 1] B67) (evCode P Γ call n f m (cAt [1, 1, 0, 0] B67) s H) := at_seq (by kernel_rfl) rfl rfl s H
noncomputable def r67_13 : {l : List Oper // opsOf (cAt [1, 1, 0, 0] B67) = l} := by
  apply Subtype.mk
  dsimp only [opsOf, cAt, kids, B67, bodyOf, Try.f67, List.getD, List.getElem?_cons_zero, List.getElem?_cons_succ, Option.getD_some]
@[simp] theorem n67_13 (s : List V) (H : Heap) : evCode P Γ call n f m (cAt [1, 1, 0, 0] B67) s H = regNext (evOpsGo P Γ call r67_13.1 r67_13.1 s H) := at_region (by kernel_rfl) r67_13.2 s H
attribute [simp] r67_13
@[simp] theorem n67_14 (s : List V) (H : Heap) : evCode P Γ call n f m (cAt [1, 1, 0, 1] B67) s H = condW P Γ call n f m (cAt [1, 1, 0, 1, 0] B67) (cAt [1, 1, 0, 1, 1] B67) s H (evOperand Γ s (.tmp 8)) := at_cond (by kernel_rfl) (by kernel_rfl) rfl rfl s H
@[simp] theorem n67_15 (s : List V) (H : Heap) : evCode P Γ call n f m (cAt [1, 1, 0, 1, 0] B67) s H = seqNext P Γ call n f m (cAt [1, 1, 0, 1, 0, 1] B67) (evCode P Γ call n f m (cAt [1, 1, 0, 1, 0, 0] B67) s H) := at_seq (by kernel_rfl) rfl rfl s H
noncomputable def r67_16 : {l : List Oper // opsOf (cAt [1, 1, 0, 1, 0, 0] B67) = l} := by
  apply Subtype.mk
  dsimp only [opsOf, cAt, kids, B67, bodyOf, Try.f67, List.getD, List.getElem?_cons_zero, List.getElem?_cons_succ, Option.getD_some]
@[simp] theorem n67_16 (s : List V) (H : Heap) : evCode P Γ call n f m (cAt [1, 1, 0, 1, 0, 0] B67) s H = regNext (evOpsGo P Γ call r67_16.1 r67_16.1 s H) := at_region (by kernel_rfl) r67_16.2 s H
attribute [simp] r67_16
noncomputable def r67_17 : {l : List Oper // opsOf (cAt [1, 1, 0, 1, 0, 1] B67) = l} := by
  apply Subtype.mk
  dsimp only [opsOf, cAt, kids, B67, bodyOf, Try.f67, List.getD, List.getElem?_cons_zero, List.getElem?_cons_succ, Option.getD_some]
@[simp] theorem n67_17 (s : List V) (H : Heap) : evCode P Γ call n f m (cAt [1, 1, 0, 1, 0, 1] B67) s H = regNext (evOpsGo P Γ call r67_17.1 r67_17.1 s H) := at_region (by kernel_rfl) r67_17.2 s H
attribute [simp] r67_17
@[simp] theorem n67_18 (s : List V) (H : Heap) : evCode P Γ call n f m (cAt [1, 1, 0, 1, 1] B67) s H = some (.normal, s, H) := at_skip (by kernel_rfl) s H
@[simp] theorem n67_19 (s : List V) (H : Heap) : evCode P Γ call n f m (cAt [1, 1, 1] B67) s H = seqNext P Γ call n f m (cAt [1, 1, 1, 1] B67) (evCode P Γ call n f m (cAt [1, 1, 1, 0] B67) s H) := at_seq (by kernel_rfl) rfl rfl s H
@[simp] theorem n67_20 (s : List V) (H : Heap) : evCode P Γ call n f m (cAt [1, 1, 1, 0] B67) s H = seqNext P Γ call n f m (cAt [1, 1, 1, 0, 1] B67) (evCode P Γ call n f m (cAt [1, 1, 1, 0, 0] B67) s H) := at_seq (by kernel_rfl) rfl rfl s H
noncomputable def r67_21 : {l : List Oper // opsOf (cAt [1, 1, 1, 0, 0] B67) = l} := by
  apply Subtype.mk
  dsimp only [opsOf, cAt, kids, B67, bodyOf, Try.f67, List.getD, List.getElem?_cons_zero, List.getElem?_cons_succ, Option.getD_some]
@[simp] theorem n67_21 (s : List V) (H : Heap) : evCode P Γ call n f m (cAt [1, 1, 1, 0, 0] B67) s H = regNext (evOpsGo P Γ call r67_21.1 r67_21.1 s H) := at_region (by kernel_rfl) r67_21.2 s H
attribute [simp] r67_21
@[simp] theorem n67_22 (s : List V) (H : Heap) : evCode P Γ call n f m (cAt [1, 1, 1, 0, 1] B67) s H = condW P Γ call n f m (cAt [1, 1, 1, 0, 1, 0] B67) (cAt [1, 1, 1, 0, 1, 1] B67) s H (evOperand Γ s (.tmp 14)) := at_cond (by kernel_rfl) (by kernel_rfl) rfl rfl s H
@[simp] theorem n67_23 (s : List V) (H : Heap) : evCode P Γ call n f m (cAt [1, 1, 1, 0, 1, 0] B67) s H = seqNext P Γ call n f m (cAt [1, 1, 1, 0, 1, 0, 1] B67) (evCode P Γ call n f m (cAt [1, 1, 1, 0, 1, 0, 0] B67) s H) := at_seq (by kernel_rfl) rfl rfl s H
noncomputable def r67_24 : {l : List Oper // opsOf (cAt [1, 1, 1, 0, 1, 0, 0] B67) = l} := by
  apply Subtype.mk
  dsimp only [opsOf, cAt, kids, B67, bodyOf, Try.f67, List.getD, List.getElem?_cons_zero, List.getElem?_cons_succ, Option.getD_some]
@[simp] theorem n67_24 (s : List V) (H : Heap) : evCode P Γ call n f m (cAt [1, 1, 1, 0, 1, 0, 0] B67) s H = regNext (evOpsGo P Γ call r67_24.1 r67_24.1 s H) := at_region (by kernel_rfl) r67_24.2 s H
attribute [simp] r67_24
noncomputable def r67_25 : {l : List Oper // opsOf (cAt [1, 1, 1, 0, 1, 0, 1] B67) = l} := by
  apply Subtype.mk
  dsimp only [opsOf, cAt, kids, B67, bodyOf, Try.f67, List.getD, List.getElem?_cons_zero, List.getElem?_cons_succ, Option.getD_some]
@[simp] theorem n67_25 (s : List V) (H : Heap) : evCode P Γ call n f m (cAt [1, 1, 1, 0, 1, 0, 1] B67) s H = regNext (evOpsGo P Γ call r67_25.1 r67_25.1 s H) := at_region (by kernel_rfl) r67_25.2 s H
attribute [simp] r67_25
@[simp] theorem n67_26 (s : List V) (H : Heap) : evCode P Γ call n f m (cAt [1, 1, 1, 0, 1, 1] B67) s H = some (.normal, s, H) := at_skip (by kernel_rfl) s H
@[simp] theorem n67_27 (s : List V) (H : Heap) : evCode P Γ call n f m (cAt [1, 1, 1, 1] B67) s H = seqNext P Γ call n f m (cAt [1, 1, 1, 1, 1] B67) (evCode P Γ call n f m (cAt [1, 1, 1, 1, 0] B67) s H) := at_seq (by kernel_rfl) rfl rfl s H
noncomputable def r67_28 : {l : List Oper // opsOf (cAt [1, 1, 1, 1, 0] B67) = l} := by
  apply Subtype.mk
  dsimp only [opsOf, cAt, kids, B67, bodyOf, Try.f67, List.getD, List.getElem?_cons_zero, List.getElem?_cons_succ, Option.getD_some]
@[simp] theorem n67_28 (s : List V) (H : Heap) : evCode P Γ call n f m (cAt [1, 1, 1, 1, 0] B67) s H = regNext (evOpsGo P Γ call r67_28.1 r67_28.1 s H) := at_region (by kernel_rfl) r67_28.2 s H
attribute [simp] r67_28
@[simp] theorem n67_29 (s : List V) (H : Heap) : evCode P Γ call n f m (cAt [1, 1, 1, 1, 1] B67) s H = some (.ret, s, H) := at_ret (by kernel_rfl) s H
theorem b67 {k : Nat} (ho : ∀ args H, Γ.orc 67 args H = none) (args : List V) (H : Heap) (ha : args.length ≤ 25) : evF Try.prog Γ (k + 1) 67 args H = bodyEnd Try.prog [.tmp 2] H.length (evCode Try.prog Γ (evF Try.prog Γ k) k 67 H.length (cAt [] B67) (mkL 25 V.undef (enumV 0 args)) H) := body_at Try.func67 (by decide) rfl ho rfl rfl args H ha
end
end Go.Ev.Try
