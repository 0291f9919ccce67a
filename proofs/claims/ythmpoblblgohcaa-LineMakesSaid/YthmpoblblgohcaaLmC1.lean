/-
  CODE BY NAMES, printed by wip/tools/codes.py (own work).
-/
import Derived.Test.YthmpoblblgohcaaLineG
set_option maxRecDepth 100000
set_option linter.unusedVariables false
namespace Go.Ev.Try
open Go Go.Ev Go.Proofs
section
variable {P : Program} {Γ : Env} {call : CallF} {n f m : Nat}

noncomputable def B26 : Code := bodyOf Try.f26
@[simp] theorem n26_1 (s : List V) (H : Heap) : evCode P Γ call n f m (cAt [] B26) s H = seqNext P Γ call n f m (cAt [1] B26) (evCode P Γ call n f m (cAt [0] B26) s H) := at_seq (by kernel_rfl) rfl rfl s H
noncomputable def r26_2 : {l : List Oper // opsOf (cAt [0] B26) = l} := by
  apply Subtype.mk
  dsimp only [opsOf, cAt, kids, B26, bodyOf, Try.f26, List.getD, List.getElem?_cons_zero, List.getElem?_cons_succ, Option.getD_some]
@[simp] theorem n26_2 (s : List V) (H : Heap) : evCode P Γ call n f m (cAt [0] B26) s H = regNext (evOpsGo P Γ call r26_2.1 r26_2.1 s H) := at_region (by kernel_rfl) r26_2.2 s H
attribute [simp] r26_2
@[simp] theorem n26_3 (s : List V) (H : Heap) : evCode P Γ call n f m (cAt [1] B26) s H = seqNext P Γ call n f m (cAt [1, 1] B26) (evCode P Γ call n f m (cAt [1, 0] B26) s H) := at_seq (by kernel_rfl) rfl rfl s H
noncomputable def r26_4 : {l : List Oper // opsOf (cAt [1, 0] B26) = l} := by
  apply Subtype.mk
  dsimp only [opsOf, cAt, kids, B26, bodyOf, Try.f26, List.getD, List.getElem?_cons_zero, List.getElem?_cons_succ, Option.getD_some]
@[simp] theorem n26_4 (s : List V) (H : Heap) : evCode P Γ call n f m (cAt [1, 0] B26) s H = regNext (evOpsGo P Γ call r26_4.1 r26_4.1 s H) := at_region (by kernel_rfl) r26_4.2 s H
attribute [simp] r26_4
@[simp] theorem n26_5 (s : List V) (H : Heap) : evCode P Γ call n f m (cAt [1, 1] B26) s H = seqNext P Γ call n f m (cAt [1, 1, 1] B26) (evCode P Γ call n f m (cAt [1, 1, 0] B26) s H) := at_seq (by kernel_rfl) rfl rfl s H
@[simp] theorem n26_6 (s : List V) (H : Heap) : evCode P Γ call n f m (cAt [1, 1, 0] B26) s H = seqNext P Γ call n f m (cAt [1, 1, 0, 1] B26) (evCode P Γ call n f m (cAt [1, 1, 0, 0] B26) s H) := at_seq (by kernel_rfl) rfl rfl s H
noncomputable def r26_7 : {l : List Oper // opsOf (cAt [1, 1, 0, 0] B26) = l} := by
  apply Subtype.mk
  dsimp only [opsOf, cAt, kids, B26, bodyOf, Try.f26, List.getD, List.getElem?_cons_zero, List.getElem?_cons_succ, Option.getD_some]
@[simp] theorem n26_7 (s : List V) (H : Heap) : evCode P Γ call n f m (cAt [1, 1, 0, 0] B26) s H = regNext (evOpsGo P Γ call r26_7.1 r26_7.1 s H) := at_region (by kernel_rfl) r26_7.2 s H
attribute [simp] r26_7
@[simp] theorem n26_8 (s : List V) (H : Heap) : evCode P Γ call n f m (cAt [1, 1, 0, 1] B26) s H = blockNext 0 (evCode P Γ call n f m (cAt [1, 1, 0, 1, 0] B26) s H) := at_block (by kernel_rfl) rfl s H
@[simp] theorem n26_9 (s : List V) (H : Heap) : evCode P Γ call n f m (cAt [1, 1, 0, 1, 0] B26) s H = evLoopC P Γ call n f m (cAt [1, 1, 0, 1, 0, 0] B26) n s H := at_loop (by kernel_rfl) rfl s H
noncomputable abbrev L26_3 : Code := cAt [1, 1, 0, 1, 0, 0] B26
@[simp] theorem n26_9f : firstRegion (cAt [1, 1, 0, 1, 0, 0] B26) = 3 := by kernel_rfl
@[simp] theorem n26_10 (s : List V) (H : Heap) : evCode P Γ call n f m (cAt [1, 1, 0, 1, 0, 0] B26) s H = seqNext P Γ call n f m (cAt [1, 1, 0, 1, 0, 0, 1] B26) (evCode P Γ call n f m (cAt [1, 1, 0, 1, 0, 0, 0] B26) s H) := at_seq (by kernel_rfl) rfl rfl s H
noncomputable def r26_11 : {l : List Oper // opsOf (cAt [1, 1, 0, 1, 0, 0, 0] B26) = l} := by
  apply Subtype.mk
  dsimp only [opsOf, cAt, kids, B26, bodyOf, Try.f26, List.getD, List.getElem?_cons_zero, List.getElem?_cons_succ, Option.getD_some]
@[simp] theorem n26_11 (s : List V) (H : Heap) : evCode P Γ call n f m (cAt [1, 1, 0, 1, 0, 0, 0] B26) s H = regNext (evOpsGo P Γ call r26_11.1 r26_11.1 s H) := at_region (by kernel_rfl) r26_11.2 s H
attribute [simp] r26_11
@[simp] theorem n26_12 (s : List V) (H : Heap) : evCode P Γ call n f m (cAt [1, 1, 0, 1, 0, 0, 1] B26) s H = seqNext P Γ call n f m (cAt [1, 1, 0, 1, 0, 0, 1, 1] B26) (evCode P Γ call n f m (cAt [1, 1, 0, 1, 0, 0, 1, 0] B26) s H) := at_seq (by kernel_rfl) rfl rfl s H
@[simp] theorem n26_13 (s : List V) (H : Heap) : evCode P Γ call n f m (cAt [1, 1, 0, 1, 0, 0, 1, 0] B26) s H = condW P Γ call n f m (cAt [1, 1, 0, 1, 0, 0, 1, 0, 0] B26) (cAt [1, 1, 0, 1, 0, 0, 1, 0, 1] B26) s H (evOperand Γ s (.tmp 12)) := at_cond (by kernel_rfl) (by kernel_rfl) rfl rfl s H
@[simp] theorem n26_14 (s : List V) (H : Heap) : evCode P Γ call n f m (cAt [1, 1, 0, 1, 0, 0, 1, 0, 0] B26) s H = some (.normal, s, H) := at_skip (by kernel_rfl) s H
@[simp] theorem n26_15 (s : List V) (H : Heap) : evCode P Γ call n f m (cAt [1, 1, 0, 1, 0, 0, 1, 0, 1] B26) s H = some (.exit 0, s, H) := at_exit (by kernel_rfl) s H
@[simp] theorem n26_16 (s : List V) (H : Heap) : evCode P Γ call n f m (cAt [1, 1, 0, 1, 0, 0, 1, 1] B26) s H = seqNext P Γ call n f m (cAt [1, 1, 0, 1, 0, 0, 1, 1, 1] B26) (evCode P Γ call n f m (cAt [1, 1, 0, 1, 0, 0, 1, 1, 0] B26) s H) := at_seq (by kernel_rfl) rfl rfl s H
@[simp] theorem n26_17 (s : List V) (H : Heap) : evCode P Γ call n f m (cAt [1, 1, 0, 1, 0, 0, 1, 1, 0] B26) s H = blockNext 1 (evCode P Γ call n f m (cAt [1, 1, 0, 1, 0, 0, 1, 1, 0, 0] B26) s H) := at_block (by kernel_rfl) rfl s H
@[simp] theorem n26_18 (s : List V) (H : Heap) : evCode P Γ call n f m (cAt [1, 1, 0, 1, 0, 0, 1, 1, 0, 0] B26) s H = seqNext P Γ call n f m (cAt [1, 1, 0, 1, 0, 0, 1, 1, 0, 0, 1] B26) (evCode P Γ call n f m (cAt [1, 1, 0, 1, 0, 0, 1, 1, 0, 0, 0] B26) s H) := at_seq (by kernel_rfl) rfl rfl s H
noncomputable def r26_19 : {l : List Oper // opsOf (cAt [1, 1, 0, 1, 0, 0, 1, 1, 0, 0, 0] B26) = l} := by
  apply Subtype.mk
  dsimp only [opsOf, cAt, kids, B26, bodyOf, Try.f26, List.getD, List.getElem?_cons_zero, List.getElem?_cons_succ, Option.getD_some]
@[simp] theorem n26_19 (s : List V) (H : Heap) : evCode P Γ call n f m (cAt [1, 1, 0, 1, 0, 0, 1, 1, 0, 0, 0] B26) s H = regNext (evOpsGo P Γ call r26_19.1 r26_19.1 s H) := at_region (by kernel_rfl) r26_19.2 s H
attribute [simp] r26_19
@[simp] theorem n26_20 (s : List V) (H : Heap) : evCode P Γ call n f m (cAt [1, 1, 0, 1, 0, 0, 1, 1, 0, 0, 1] B26) s H = seqNext P Γ call n f m (cAt [1, 1, 0, 1, 0, 0, 1, 1, 0, 0, 1, 1] B26) (evCode P Γ call n f m (cAt [1, 1, 0, 1, 0, 0, 1, 1, 0, 0, 1, 0] B26) s H) := at_seq (by kernel_rfl) rfl rfl s H
noncomputable def r26_21 : {l : List Oper // opsOf (cAt [1, 1, 0, 1, 0, 0, 1, 1, 0, 0, 1, 0] B26) = l} := by
  apply Subtype.mk
  dsimp only [opsOf, cAt, kids, B26, bodyOf, Try.f26, List.getD, List.getElem?_cons_zero, List.getElem?_cons_succ, Option.getD_some]
@[simp] theorem n26_21 (s : List V) (H : Heap) : evCode P Γ call n f m (cAt [1, 1, 0, 1, 0, 0, 1, 1, 0, 0, 1, 0] B26) s H = regNext (evOpsGo P Γ call r26_21.1 r26_21.1 s H) := at_region (by kernel_rfl) r26_21.2 s H
attribute [simp] r26_21
@[simp] theorem n26_22 (s : List V) (H : Heap) : evCode P Γ call n f m (cAt [1, 1, 0, 1, 0, 0, 1, 1, 0, 0, 1, 1] B26) s H = seqNext P Γ call n f m (cAt [1, 1, 0, 1, 0, 0, 1, 1, 0, 0, 1, 1, 1] B26) (evCode P Γ call n f m (cAt [1, 1, 0, 1, 0, 0, 1, 1, 0, 0, 1, 1, 0] B26) s H) := at_seq (by kernel_rfl) rfl rfl s H
noncomputable def r26_23 : {l : List Oper // opsOf (cAt [1, 1, 0, 1, 0, 0, 1, 1, 0, 0, 1, 1, 0] B26) = l} := by
  apply Subtype.mk
  dsimp only [opsOf, cAt, kids, B26, bodyOf, Try.f26, List.getD, List.getElem?_cons_zero, List.getElem?_cons_succ, Option.getD_some]
@[simp] theorem n26_23 (s : List V) (H : Heap) : evCode P Γ call n f m (cAt [1, 1, 0, 1, 0, 0, 1, 1, 0, 0, 1, 1, 0] B26) s H = regNext (evOpsGo P Γ call r26_23.1 r26_23.1 s H) := at_region (by kernel_rfl) r26_23.2 s H
attribute [simp] r26_23
@[simp] theorem n26_24 (s : List V) (H : Heap) : evCode P Γ call n f m (cAt [1, 1, 0, 1, 0, 0, 1, 1, 0, 0, 1, 1, 1] B26) s H = condW P Γ call n f m (cAt [1, 1, 0, 1, 0, 0, 1, 1, 0, 0, 1, 1, 1, 0] B26) (cAt [1, 1, 0, 1, 0, 0, 1, 1, 0, 0, 1, 1, 1, 1] B26) s H (evOperand Γ s (.tmp 20)) := at_cond (by kernel_rfl) (by kernel_rfl) rfl rfl s H
noncomputable def r26_25 : {l : List Oper // opsOf (cAt [1, 1, 0, 1, 0, 0, 1, 1, 0, 0, 1, 1, 1, 0] B26) = l} := by
  apply Subtype.mk
  dsimp only [opsOf, cAt, kids, B26, bodyOf, Try.f26, List.getD, List.getElem?_cons_zero, List.getElem?_cons_succ, Option.getD_some]
@[simp] theorem n26_25 (s : List V) (H : Heap) : evCode P Γ call n f m (cAt [1, 1, 0, 1, 0, 0, 1, 1, 0, 0, 1, 1, 1, 0] B26) s H = regNext (evOpsGo P Γ call r26_25.1 r26_25.1 s H) := at_region (by kernel_rfl) r26_25.2 s H
attribute [simp] r26_25
@[simp] theorem n26_26 (s : List V) (H : Heap) : evCode P Γ call n f m (cAt [1, 1, 0, 1, 0, 0, 1, 1, 0, 0, 1, 1, 1, 1] B26) s H = some (.normal, s, H) := at_skip (by kernel_rfl) s H
noncomputable def r26_27 : {l : List Oper // opsOf (cAt [1, 1, 0, 1, 0, 0, 1, 1, 1] B26) = l} := by
  apply Subtype.mk
  dsimp only [opsOf, cAt, kids, B26, bodyOf, Try.f26, List.getD, List.getElem?_cons_zero, List.getElem?_cons_succ, Option.getD_some]
@[simp] theorem n26_27 (s : List V) (H : Heap) : evCode P Γ call n f m (cAt [1, 1, 0, 1, 0, 0, 1, 1, 1] B26) s H = regNext (evOpsGo P Γ call r26_27.1 r26_27.1 s H) := at_region (by kernel_rfl) r26_27.2 s H
attribute [simp] r26_27
@[simp] theorem n26_28 (s : List V) (H : Heap) : evCode P Γ call n f m (cAt [1, 1, 1] B26) s H = seqNext P Γ call n f m (cAt [1, 1, 1, 1] B26) (evCode P Γ call n f m (cAt [1, 1, 1, 0] B26) s H) := at_seq (by kernel_rfl) rfl rfl s H
noncomputable def r26_29 : {l : List Oper // opsOf (cAt [1, 1, 1, 0] B26) = l} := by
  apply Subtype.mk
  dsimp only [opsOf, cAt, kids, B26, bodyOf, Try.f26, List.getD, List.getElem?_cons_zero, List.getElem?_cons_succ, Option.getD_some]
@[simp] theorem n26_29 (s : List V) (H : Heap) : evCode P Γ call n f m (cAt [1, 1, 1, 0] B26) s H = regNext (evOpsGo P Γ call r26_29.1 r26_29.1 s H) := at_region (by kernel_rfl) r26_29.2 s H
attribute [simp] r26_29
@[simp] theorem n26_30 (s : List V) (H : Heap) : evCode P Γ call n f m (cAt [1, 1, 1, 1] B26) s H = seqNext P Γ call n f m (cAt [1, 1, 1, 1, 1] B26) (evCode P Γ call n f m (cAt [1, 1, 1, 1, 0] B26) s H) := at_seq (by kernel_rfl) rfl rfl s H
@[simp] theorem n26_31 (s : List V) (H : Heap) : evCode P Γ call n f m (cAt [1, 1, 1, 1, 0] B26) s H = seqNext P Γ call n f m (cAt [1, 1, 1, 1, 0, 1] B26) (evCode P Γ call n f m (cAt [1, 1, 1, 1, 0, 0] B26) s H) := at_seq (by kernel_rfl) rfl rfl s H
noncomputable def r26_32 : {l : List Oper // opsOf (cAt [1, 1, 1, 1, 0, 0] B26) = l} := by
  apply Subtype.mk
  dsimp only [opsOf, cAt, kids, B26, bodyOf, Try.f26, List.getD, List.getElem?_cons_zero, List.getElem?_cons_succ, Option.getD_some]
@[simp] theorem n26_32 (s : List V) (H : Heap) : evCode P Γ call n f m (cAt [1, 1, 1, 1, 0, 0] B26) s H = regNext (evOpsGo P Γ call r26_32.1 r26_32.1 s H) := at_region (by kernel_rfl) r26_32.2 s H
attribute [simp] r26_32
@[simp] theorem n26_33 (s : List V) (H : Heap) : evCode P Γ call n f m (cAt [1, 1, 1, 1, 0, 1] B26) s H = blockNext 2 (evCode P Γ call n f m (cAt [1, 1, 1, 1, 0, 1, 0] B26) s H) := at_block (by kernel_rfl) rfl s H
@[simp] theorem n26_34 (s : List V) (H : Heap) : evCode P Γ call n f m (cAt [1, 1, 1, 1, 0, 1, 0] B26) s H = evLoopC P Γ call n f m (cAt [1, 1, 1, 1, 0, 1, 0, 0] B26) n s H := at_loop (by kernel_rfl) rfl s H
noncomputable abbrev L26_11 : Code := cAt [1, 1, 1, 1, 0, 1, 0, 0] B26
@[simp] theorem n26_34f : firstRegion (cAt [1, 1, 1, 1, 0, 1, 0, 0] B26) = 11 := by kernel_rfl
@[simp] theorem n26_35 (s : List V) (H : Heap) : evCode P Γ call n f m (cAt [1, 1, 1, 1, 0, 1, 0, 0] B26) s H = seqNext P Γ call n f m (cAt [1, 1, 1, 1, 0, 1, 0, 0, 1] B26) (evCode P Γ call n f m (cAt [1, 1, 1, 1, 0, 1, 0, 0, 0] B26) s H) := at_seq (by kernel_rfl) rfl rfl s H
noncomputable def r26_36 : {l : List Oper // opsOf (cAt [1, 1, 1, 1, 0, 1, 0, 0, 0] B26) = l} := by
  apply Subtype.mk
  dsimp only [opsOf, cAt, kids, B26, bodyOf, Try.f26, List.getD, List.getElem?_cons_zero, List.getElem?_cons_succ, Option.getD_some]
@[simp] theorem n26_36 (s : List V) (H : Heap) : evCode P Γ call n f m (cAt [1, 1, 1, 1, 0, 1, 0, 0, 0] B26) s H = regNext (evOpsGo P Γ call r26_36.1 r26_36.1 s H) := at_region (by kernel_rfl) r26_36.2 s H
attribute [simp] r26_36
@[simp] theorem n26_37 (s : List V) (H : Heap) : evCode P Γ call n f m (cAt [1, 1, 1, 1, 0, 1, 0, 0, 1] B26) s H = seqNext P Γ call n f m (cAt [1, 1, 1, 1, 0, 1, 0, 0, 1, 1] B26) (evCode P Γ call n f m (cAt [1, 1, 1, 1, 0, 1, 0, 0, 1, 0] B26) s H) := at_seq (by kernel_rfl) rfl rfl s H
@[simp] theorem n26_38 (s : List V) (H : Heap) : evCode P Γ call n f m (cAt [1, 1, 1, 1, 0, 1, 0, 0, 1, 0] B26) s H = condW P Γ call n f m (cAt [1, 1, 1, 1, 0, 1, 0, 0, 1, 0, 0] B26) (cAt [1, 1, 1, 1, 0, 1, 0, 0, 1, 0, 1] B26) s H (evOperand Γ s (.tmp 28)) := at_cond (by kernel_rfl) (by kernel_rfl) rfl rfl s H
@[simp] theorem n26_39 (s : List V) (H : Heap) : evCode P Γ call n f m (cAt [1, 1, 1, 1, 0, 1, 0, 0, 1, 0, 0] B26) s H = some (.normal, s, H) := at_skip (by kernel_rfl) s H
@[simp] theorem n26_40 (s : List V) (H : Heap) : evCode P Γ call n f m (cAt [1, 1, 1, 1, 0, 1, 0, 0, 1, 0, 1] B26) s H = some (.exit 2, s, H) := at_exit (by kernel_rfl) s H
@[simp] theorem n26_41 (s : List V) (H : Heap) : evCode P Γ call n f m (cAt [1, 1, 1, 1, 0, 1, 0, 0, 1, 1] B26) s H = seqNext P Γ call n f m (cAt [1, 1, 1, 1, 0, 1, 0, 0, 1, 1, 1] B26) (evCode P Γ call n f m (cAt [1, 1, 1, 1, 0, 1, 0, 0, 1, 1, 0] B26) s H) := at_seq (by kernel_rfl) rfl rfl s H
@[simp] theorem n26_42 (s : List V) (H : Heap) : evCode P Γ call n f m (cAt [1, 1, 1, 1, 0, 1, 0, 0, 1, 1, 0] B26) s H = blockNext 3 (evCode P Γ call n f m (cAt [1, 1, 1, 1, 0, 1, 0, 0, 1, 1, 0, 0] B26) s H) := at_block (by kernel_rfl) rfl s H
@[simp] theorem n26_43 (s : List V) (H : Heap) : evCode P Γ call n f m (cAt [1, 1, 1, 1, 0, 1, 0, 0, 1, 1, 0, 0] B26) s H = seqNext P Γ call n f m (cAt [1, 1, 1, 1, 0, 1, 0, 0, 1, 1, 0, 0, 1] B26) (evCode P Γ call n f m (cAt [1, 1, 1, 1, 0, 1, 0, 0, 1, 1, 0, 0, 0] B26) s H) := at_seq (by kernel_rfl) rfl rfl s H
noncomputable def r26_44 : {l : List Oper // opsOf (cAt [1, 1, 1, 1, 0, 1, 0, 0, 1, 1, 0, 0, 0] B26) = l} := by
  apply Subtype.mk
  dsimp only [opsOf, cAt, kids, B26, bodyOf, Try.f26, List.getD, List.getElem?_cons_zero, List.getElem?_cons_succ, Option.getD_some]
@[simp] theorem n26_44 (s : List V) (H : Heap) : evCode P Γ call n f m (cAt [1, 1, 1, 1, 0, 1, 0, 0, 1, 1, 0, 0, 0] B26) s H = regNext (evOpsGo P Γ call r26_44.1 r26_44.1 s H) := at_region (by kernel_rfl) r26_44.2 s H
attribute [simp] r26_44
noncomputable def r26_45 : {l : List Oper // opsOf (cAt [1, 1, 1, 1, 0, 1, 0, 0, 1, 1, 0, 0, 1] B26) = l} := by
  apply Subtype.mk
  dsimp only [opsOf, cAt, kids, B26, bodyOf, Try.f26, List.getD, List.getElem?_cons_zero, List.getElem?_cons_succ, Option.getD_some]
@[simp] theorem n26_45 (s : List V) (H : Heap) : evCode P Γ call n f m (cAt [1, 1, 1, 1, 0, 1, 0, 0, 1, 1, 0, 0, 1] B26) s H = regNext (evOpsGo P Γ call r26_45.1 r26_45.1 s H) := at_region (by kernel_rfl) r26_45.2 s H
attribute [simp] r26_45
noncomputable def r26_46 : {l : List Oper // opsOf (cAt [1, 1, 1, 1, 0, 1, 0, 0, 1, 1, 1] B26) = l} := by
  apply Subtype.mk
  dsimp only [opsOf, cAt, kids, B26, bodyOf, Try.f26, List.getD, List.getElem?_cons_zero, List.getElem?_cons_succ, Option.getD_some]
@[simp] theorem n26_46 (s : List V) (H : Heap) : evCode P Γ call n f m (cAt [1, 1, 1, 1, 0, 1, 0, 0, 1, 1, 1] B26) s H = regNext (evOpsGo P Γ call r26_46.1 r26_46.1 s H) := at_region (by kernel_rfl) r26_46.2 s H
attribute [simp] r26_46
@[simp] theorem n26_47 (s : List V) (H : Heap) : evCode P Γ call n f m (cAt [1, 1, 1, 1, 1] B26) s H = seqNext P Γ call n f m (cAt [1, 1, 1, 1, 1, 1] B26) (evCode P Γ call n f m (cAt [1, 1, 1, 1, 1, 0] B26) s H) := at_seq (by kernel_rfl) rfl rfl s H
noncomputable def r26_48 : {l : List Oper // opsOf (cAt [1, 1, 1, 1, 1, 0] B26) = l} := by
  apply Subtype.mk
  dsimp only [opsOf, cAt, kids, B26, bodyOf, Try.f26, List.getD, List.getElem?_cons_zero, List.getElem?_cons_succ, Option.getD_some]
@[simp] theorem n26_48 (s : List V) (H : Heap) : evCode P Γ call n f m (cAt [1, 1, 1, 1, 1, 0] B26) s H = regNext (evOpsGo P Γ call r26_48.1 r26_48.1 s H) := at_region (by kernel_rfl) r26_48.2 s H
attribute [simp] r26_48
@[simp] theorem n26_49 (s : List V) (H : Heap) : evCode P Γ call n f m (cAt [1, 1, 1, 1, 1, 1] B26) s H = some (.ret, s, H) := at_ret (by kernel_rfl) s H
theorem b26 {k : Nat} (ho : ∀ args H, Γ.orc 26 args H = none) (args : List V) (H : Heap) (ha : args.length ≤ 36) : evF Try.prog Γ (k + 1) 26 args H = bodyEnd Try.prog [.tmp 2] H.length (evCode Try.prog Γ (evF Try.prog Γ k) k 26 H.length (cAt [] B26) (mkL 36 V.undef (enumV 0 args)) H) := body_at Try.func26 (by decide) rfl ho rfl rfl args H ha
noncomputable def B46 : Code := bodyOf Try.f46
@[simp] theorem n46_1 (s : List V) (H : Heap) : evCode P Γ call n f m (cAt [] B46) s H = seqNext P Γ call n f m (cAt [1] B46) (evCode P Γ call n f m (cAt [0] B46) s H) := at_seq (by kernel_rfl) rfl rfl s H
noncomputable def r46_2 : {l : List Oper // opsOf (cAt [0] B46) = l} := by
  apply Subtype.mk
  dsimp only [opsOf, cAt, kids, B46, bodyOf, Try.f46, List.getD, List.getElem?_cons_zero, List.getElem?_cons_succ, Option.getD_some]
@[simp] theorem n46_2 (s : List V) (H : Heap) : evCode P Γ call n f m (cAt [0] B46) s H = regNext (evOpsGo P Γ call r46_2.1 r46_2.1 s H) := at_region (by kernel_rfl) r46_2.2 s H
attribute [simp] r46_2
@[simp] theorem n46_3 (s : List V) (H : Heap) : evCode P Γ call n f m (cAt [1] B46) s H = seqNext P Γ call n f m (cAt [1, 1] B46) (evCode P Γ call n f m (cAt [1, 0] B46) s H) := at_seq (by kernel_rfl) rfl rfl s H
@[simp] theorem n46_4 (s : List V) (H : Heap) : evCode P Γ call n f m (cAt [1, 0] B46) s H = seqNext P Γ call n f m (cAt [1, 0, 1] B46) (evCode P Γ call n f m (cAt [1, 0, 0] B46) s H) := at_seq (by kernel_rfl) rfl rfl s H
noncomputable def r46_5 : {l : List Oper // opsOf (cAt [1, 0, 0] B46) = l} := by
  apply Subtype.mk
  dsimp only [opsOf, cAt, kids, B46, bodyOf, Try.f46, List.getD, List.getElem?_cons_zero, List.getElem?_cons_succ, Option.getD_some]
@[simp] theorem n46_5 (s : List V) (H : Heap) : evCode P Γ call n f m (cAt [1, 0, 0] B46) s H = regNext (evOpsGo P Γ call r46_5.1 r46_5.1 s H) := at_region (by kernel_rfl) r46_5.2 s H
attribute [simp] r46_5
@[simp] theorem n46_6 (s : List V) (H : Heap) : evCode P Γ call n f m (cAt [1, 0, 1] B46) s H = condW P Γ call n f m (cAt [1, 0, 1, 0] B46) (cAt [1, 0, 1, 1] B46) s H (evOperand Γ s (.tmp 6)) := at_cond (by kernel_rfl) (by kernel_rfl) rfl rfl s H
noncomputable def r46_7 : {l : List Oper // opsOf (cAt [1, 0, 1, 0] B46) = l} := by
  apply Subtype.mk
  dsimp only [opsOf, cAt, kids, B46, bodyOf, Try.f46, List.getD, List.getElem?_cons_zero, List.getElem?_cons_succ, Option.getD_some]
@[simp] theorem n46_7 (s : List V) (H : Heap) : evCode P Γ call n f m (cAt [1, 0, 1, 0] B46) s H = regNext (evOpsGo P Γ call r46_7.1 r46_7.1 s H) := at_region (by kernel_rfl) r46_7.2 s H
attribute [simp] r46_7
@[simp] theorem n46_8 (s : List V) (H : Heap) : evCode P Γ call n f m (cAt [1, 0, 1, 1] B46) s H = some (.normal, s, H) := at_skip (by kernel_rfl) s H
@[simp] theorem n46_9 (s : List V) (H : Heap) : evCode P Γ call n f m (cAt [1, 1] B46) s H = seqNext P Γ call n f m (cAt [1, 1, 1] B46) (evCode P Γ call n f m (cAt [1, 1, 0] B46) s H) := at_seq (by kernel_rfl) rfl rfl s H
@[simp] theorem n46_10 (s : List V) (H : Heap) : evCode P Γ call n f m (cAt [1, 1, 0] B46) s H = seqNext P Γ call n f m (cAt [1, 1, 0, 1] B46) (evCode P Γ call n f m (cAt [1, 1, 0, 0] B46) s H) := at_seq (by kernel_rfl) rfl rfl s H
noncomputable def r46_11 : {l : List Oper // opsOf (cAt [1, 1, 0, 0] B46) = l} := by
  apply Subtype.mk
  dsimp only [opsOf, cAt, kids, B46, bodyOf, Try.f46, List.getD, List.getElem?_cons_zero, List.getElem?_cons_succ, Option.getD_some]
@[simp] theorem n46_11 (s : List V) (H : Heap) : evCode P Γ call n f m (cAt [1, 1, 0, 0] B46) s H = regNext (evOpsGo P Γ call r46_11.1 r46_11.1 s H) := at_region (by kernel_rfl) r46_11.2 s H
attribute [simp] r46_11
@[simp] theorem n46_12 (s : List V) (H : Heap) : evCode P Γ call n f m (cAt [1, 1, 0, 1] B46) s H = seqNext P Γ call n f m (cAt [1, 1, 0, 1, 1] B46) (evCode P Γ call n f m (cAt [1, 1, 0, 1, 0] B46) s H) := at_seq (by kernel_rfl) rfl rfl s H
noncomputable def r46_13 : {l : List Oper // opsOf (cAt [1, 1, 0, 1, 0] B46) = l} := by
  apply Subtype.mk
  dsimp only [opsOf, cAt, kids, B46, bodyOf, Try.f46, List.getD, List.getElem?_cons_zero, List.getElem?_cons_succ, Option.getD_some]
@[simp] theorem n46_13 (s : List V) (H : Heap) : evCode P Γ call n f m (cAt [1, 1, 0, 1, 0] B46) s H = regNext (evOpsGo P Γ call r46_13.1 r46_13.1 s H) := at_region (by kernel_rfl) r46_13.2 s H
attribute [simp] r46_13
@[simp] theorem n46_14 (s : List V) (H : Heap) : evCode P Γ call n f m (cAt [1, 1, 0, 1, 1] B46) s H = condW P Γ call n f m (cAt [1, 1, 0, 1, 1, 0] B46) (cAt [1, 1, 0, 1, 1, 1] B46) s H (evOperand Γ s (.tmp 16)) := at_cond (by kernel_rfl) (by kernel_rfl) rfl rfl s H
noncomputable def r46_15 : {l : List Oper // opsOf (cAt [1, 1, 0, 1, 1, 0] B46) = l} := by
  apply Subtype.mk
  dsimp only [opsOf, cAt, kids, B46, bodyOf, Try.f46, List.getD, List.getElem?_cons_zero, List.getElem?_cons_succ, Option.getD_some]
@[simp] theorem n46_15 (s : List V) (H : Heap) : evCode P Γ call n f m (cAt [1, 1, 0, 1, 1, 0] B46) s H = regNext (evOpsGo P Γ call r46_15.1 r46_15.1 s H) := at_region (by kernel_rfl) r46_15.2 s H
attribute [simp] r46_15
@[simp] theorem n46_16 (s : List V) (H : Heap) : evCode P Γ call n f m (cAt [1, 1, 0, 1, 1, 1] B46) s H = some (.normal, s, H) := at_skip (by kernel_rfl) s H
@[simp] theorem n46_17 (s : List V) (H : Heap) : evCode P Γ call n f m (cAt [1, 1, 1] B46) s H = seqNext P Γ call n f m (cAt [1, 1, 1, 1] B46) (evCode P Γ call n f m (cAt [1, 1, 1, 0] B46) s H) := at_seq (by kernel_rfl) rfl rfl s H
noncomputable def r46_18 : {l : List Oper // opsOf (cAt [1, 1, 1, 0] B46) = l} := by
  apply Subtype.mk
  dsimp only [opsOf, cAt, kids, B46, bodyOf, Try.f46, List.getD, List.getElem?_cons_zero, List.getElem?_cons_succ, Option.getD_some]
@[simp] theorem n46_18 (s : List V) (H : Heap) : evCode P Γ call n f m (cAt [1, 1, 1, 0] B46) s H = regNext (evOpsGo P Γ call r46_18.1 r46_18.1 s H) := at_region (by kernel_rfl) r46_18.2 s H
attribute [simp] r46_18
@[simp] theorem n46_19 (s : List V) (H : Heap) : evCode P Γ call n f m (cAt [1, 1, 1, 1] B46) s H = some (.ret, s, H) := at_ret (by kernel_rfl) s H
theorem b46 {k : Nat} (ho : ∀ args H, Γ.orc 46 args H = none) (args : List V) (H : Heap) (ha : args.length ≤ 27) : evF Try.prog Γ (k + 1) 46 args H = bodyEnd Try.prog [.tmp 4] H.length (evCode Try.prog Γ (evF Try.prog Γ k) k 46 H.length (cAt [] B46) (mkL 27 V.undef (enumV 0 args)) H) := body_at Try.func46 (by decide) rfl ho rfl rfl args H ha
end
end Go.Ev.Try
