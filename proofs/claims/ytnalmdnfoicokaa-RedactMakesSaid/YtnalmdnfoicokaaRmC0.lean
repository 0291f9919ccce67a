/-
  CODE BY NAMES, printed by wip/tools/codes.py (own work).
-/
import Derived.Test.YtnalmdnfoicokaaRdG
set_option maxRecDepth 100000
set_option linter.unusedVariables false
namespace Go.Ev.Try
open Go Go.Ev Go.Proofs
section
variable {P : Program} {Γ : Env} {call : CallF} {n f m : Nat}

noncomputable def B4 : Code := bodyOf Try.f4
@[simp] theorem n4_1 (s : List V) (H : Heap) : evCode P Γ call n f m (cAt [] B4) s H = seqNext P Γ call n f m (cAt [1] B4) (evCode P Γ call n f m (cAt [0] B4) s H) := at_seq (by kernel_rfl) rfl rfl s H
noncomputable def r4_2 : {l : List Oper // opsOf (cAt [0] B4) = l} := by
  apply Subtype.mk
  dsimp only [opsOf, cAt, kids, B4, bodyOf, Try.f4, List.getD, List.getElem?_cons_zero, List.getElem?_cons_succ, Option.getD_some]
@[simp] theorem n4_2 (s : List V) (H : Heap) : evCode P Γ call n f m (cAt [0] B4) s H = regNext (evOpsGo P Γ call r4_2.1 r4_2.1 s H) := at_region (by kernel_rfl) r4_2.2 s H
attribute [simp] r4_2
@[simp] theorem n4_3 (s : List V) (H : Heap) : evCode P Γ call n f m (cAt [1] B4) s H = seqNext P Γ call n f m (cAt [1, 1] B4) (evCode P Γ call n f m (cAt [1, 0] B4) s H) := at_seq (by kernel_rfl) rfl rfl s H
noncomputable def r4_4 : {l : List Oper // opsOf (cAt [1, 0] B4) = l} := by
  apply Subtype.mk
  dsimp only [opsOf, cAt, kids, B4, bodyOf, Try.f4, List.getD, List.getElem?_cons_zero, List.getElem?_cons_succ, Option.getD_some]
@[simp] theorem n4_4 (s : List V) (H : Heap) : evCode P Γ call n f m (cAt [1, 0] B4) s H = regNext (evOpsGo P Γ call r4_4.1 r4_4.1 s H) := at_region (by kernel_rfl) r4_4.2 s H
attribute [simp] r4_4
@[simp] theorem n4_5 (s : List V) (H : Heap) : evCode P Γ call n f m (cAt [1, 1] B4) s H = seqNext P Γ call n f m (cAt [1, 1, 1] B4) (evCode P Γ call n f m (cAt [1, 1, 0] B4) s H) := at_seq (by kernel_rfl) rfl rfl s H
noncomputable def r4_6 : {l : List Oper // opsOf (cAt [1, 1, 0] B4) = l} := by
  apply Subtype.mk
  dsimp only [opsOf, cAt, kids, B4, bodyOf, Try.f4, List.getD, List.getElem?_cons_zero, List.getElem?_cons_succ, Option.getD_some]
@[simp] theorem n4_6 (s : List V) (H : Heap) : evCode P Γ call n f m (cAt [1, 1, 0] B4) s H = regNext (evOpsGo P Γ call r4_6.1 r4_6.1 s H) := at_region (by kernel_rfl) r4_6.2 s H
attribute [simp] r4_6
@[simp] theorem n4_7 (s : List V) (H : Heap) : evCode P Γ call n f m (cAt [1, 1, 1] B4) s H = seqNext P Γ call n f m (cAt [1, 1, 1, 1] B4) (evCode P Γ call n f m (cAt [1, 1, 1, 0] B4) s H) := at_seq (by kernel_rfl) rfl rfl s H
@[simp] theorem n4_8 (s : List V) (H : Heap) : evCode P Γ call n f m (cAt [1, 1, 1, 0] B4) s H = seqNext P Γ call n f m (cAt [1, 1, 1, 0, 1] B4) (evCode P Γ call n f m (cAt [1, 1, 1, 0, 0] B4) s H) := at_seq (by kernel_rfl) rfl rfl s H
noncomputable def r4_9 : {l : List Oper // opsOf (cAt [1, 1, 1, 0, 0] B4) = l} := by
  apply Subtype.mk
  dsimp only [opsOf, cAt, kids, B4, bodyOf, Try.f4, List.getD, List.getElem?_cons_zero, List.getElem?_cons_succ, Option.getD_some]
@[simp] theorem n4_9 (s : List V) (H : Heap) : evCode P Γ call n f m (cAt [1, 1, 1, 0, 0] B4) s H = regNext (evOpsGo P Γ call r4_9.1 r4_9.1 s H) := at_region (by kernel_rfl) r4_9.2 s H
attribute [simp] r4_9
@[simp] theorem n4_10 (s : List V) (H : Heap) : evCode P Γ call n f m (cAt [1, 1, 1, 0, 1] B4) s H = condW P Γ call n f m (cAt [1, 1, 1, 0, 1, 0] B4) (cAt [1, 1, 1, 0, 1, 1] B4) s H (evOperand Γ s (.tmp 35)) := at_cond (by kernel_rfl) (by kernel_rfl) rfl rfl s H
noncomputable def r4_11 : {l : List Oper // opsOf (cAt [1, 1, 1, 0, 1, 0] B4) = l} := by
  apply Subtype.mk
  dsimp only [opsOf, cAt, kids, B4, bodyOf, Try.f4, List.getD, List.getElem?_cons_zero, List.getElem?_cons_succ, Option.getD_some]
@[simp] theorem n4_11 (s : List V) (H : Heap) : evCode P Γ call n f m (cAt [1, 1, 1, 0, 1, 0] B4) s H = regNext (evOpsGo P Γ call r4_11.1 r4_11.1 s H) := at_region (by kernel_rfl) r4_11.2 s H
attribute [simp] r4_11
@[simp] theorem n4_12 (s : List V) (H : Heap) : evCode P Γ call n f m (cAt [1, 1, 1, 0, 1, 1] B4) s H = some (.normal, s, H) := at_skip (by kernel_rfl) s H
@[simp] theorem n4_13 (s : List V) (H : Heap) : evCode P Γ call n f m (cAt [1, 1, 1, 1] B4) s H = seqNext P Γ call n f m (cAt [1, 1, 1, 1, 1] B4) (evCode P Γ call n f m (cAt [1, 1, 1, 1, 0] B4) s H) := at_seq (by kernel_rfl) rfl rfl s H
@[simp] theorem n4_14 (s : List V) (H : Heap) : evCode P Γ call n f m (cAt [1, 1, 1, 1, 0] B4) s H = seqNext P Γ call n f m (cAt [1, 1, 1, 1, 0, 1] B4) (evCode P Γ call n f m (cAt [1, 1, 1, 1, 0, 0] B4) s H) := at_seq (by kernel_rfl) rfl rfl s H
noncomputable def r4_15 : {l : List Oper // opsOf (cAt [1, 1, 1, 1, 0, 0] B4) = l} := by
  apply Subtype.mk
  dsimp only [opsOf, cAt, kids, B4, bodyOf, Try.f4, List.getD, List.getElem?_cons_zero, List.getElem?_cons_succ, Option.getD_some]
@[simp] theorem n4_15 (s : List V) (H : Heap) : evCode P Γ call n f m (cAt [1, 1, 1, 1, 0, 0] B4) s H = regNext (evOpsGo P Γ call r4_15.1 r4_15.1 s H) := at_region (by kernel_rfl) r4_15.2 s H
attribute [simp] r4_15
@[simp] theorem n4_16 (s : List V) (H : Heap) : evCode P Γ call n f m (cAt [1, 1, 1, 1, 0, 1] B4) s H = blockNext 0 (evCode P Γ call n f m (cAt [1, 1, 1, 1, 0, 1, 0] B4) s H) := at_block (by kernel_rfl) rfl s H
@[simp] theorem n4_17 (s : List V) (H : Heap) : evCode P Γ call n f m (cAt [1, 1, 1, 1, 0, 1, 0] B4) s H = evLoopC P Γ call n f m (cAt [1, 1, 1, 1, 0, 1, 0, 0] B4) n s H := at_loop (by kernel_rfl) rfl s H
noncomputable abbrev L4_6 : Code := cAt [1, 1, 1, 1, 0, 1, 0, 0] B4
@[simp] theorem n4_17f : firstRegion (cAt [1, 1, 1, 1, 0, 1, 0, 0] B4) = 6 := by kernel_rfl
@[simp] theorem n4_18 (s : List V) (H : Heap) : evCode P Γ call n f m (cAt [1, 1, 1, 1, 0, 1, 0, 0] B4) s H = seqNext P Γ call n f m (cAt [1, 1, 1, 1, 0, 1, 0, 0, 1] B4) (evCode P Γ call n f m (cAt [1, 1, 1, 1, 0, 1, 0, 0, 0] B4) s H) := at_seq (by kernel_rfl) rfl rfl s H
noncomputable def r4_19 : {l : List Oper // opsOf (cAt [1, 1, 1, 1, 0, 1, 0, 0, 0] B4) = l} := by
  apply Subtype.mk
  dsimp only [opsOf, cAt, kids, B4, bodyOf, Try.f4, List.getD, List.getElem?_cons_zero, List.getElem?_cons_succ, Option.getD_some]
@[simp] theorem n4_19 (s : List V) (H : Heap) : evCode P Γ call n f m (cAt [1, 1, 1, 1, 0, 1, 0, 0, 0] B4) s H = regNext (evOpsGo P Γ call r4_19.1 r4_19.1 s H) := at_region (by kernel_rfl) r4_19.2 s H
attribute [simp] r4_19
@[simp] theorem n4_20 (s : List V) (H : Heap) : evCode P Γ call n f m (cAt [1, 1, 1, 1, 0, 1, 0, 0, 1] B4) s H = seqNext P Γ call n f m (cAt [1, 1, 1, 1, 0, 1, 0, 0, 1, 1] B4) (evCode P Γ call n f m (cAt [1, 1, 1, 1, 0, 1, 0, 0, 1, 0] B4) s H) := at_seq (by kernel_rfl) rfl rfl s H
@[simp] theorem n4_21 (s : List V) (H : Heap) : evCode P Γ call n f m (cAt [1, 1, 1, 1, 0, 1, 0, 0, 1, 0] B4) s H = condW P Γ call n f m (cAt [1, 1, 1, 1, 0, 1, 0, 0, 1, 0, 0] B4) (cAt [1, 1, 1, 1, 0, 1, 0, 0, 1, 0, 1] B4) s H (evOperand Γ s (.tmp 39)) := at_cond (by kernel_rfl) (by kernel_rfl) rfl rfl s H
@[simp] theorem n4_22 (s : List V) (H : Heap) : evCode P Γ call n f m (cAt [1, 1, 1, 1, 0, 1, 0, 0, 1, 0, 0] B4) s H = some (.normal, s, H) := at_skip (by kernel_rfl) s H
@[simp] theorem n4_23 (s : List V) (H : Heap) : evCode P Γ call n f m (cAt [1, 1, 1, 1, 0, 1, 0, 0, 1, 0, 1] B4) s H = some (.exit 0, s, H) := at_exit (by kernel_rfl) s H
@[simp] theorem n4_24 (s : List V) (H : Heap) : evCode P Γ call n f m (cAt [1, 1, 1, 1, 0, 1, 0, 0, 1, 1] B4) s H = seqNext P Γ call n f m (cAt [1, 1, 1, 1, 0, 1, 0, 0, 1, 1, 1] B4) (evCode P Γ call n f m (cAt [1, 1, 1, 1, 0, 1, 0, 0, 1, 1, 0] B4) s H) := at_seq (by kernel_rfl) rfl rfl s H
@[simp] theorem n4_25 (s : List V) (H : Heap) : evCode P Γ call n f m (cAt [1, 1, 1, 1, 0, 1, 0, 0, 1, 1, 0] B4) s H = blockNext 1 (evCode P Γ call n f m (cAt [1, 1, 1, 1, 0, 1, 0, 0, 1, 1, 0, 0] B4) s H) := at_block (by kernel_rfl) rfl s H
@[simp] theorem n4_26 (s : List V) (H : Heap) : evCode P Γ call n f m (cAt [1, 1, 1, 1, 0, 1, 0, 0, 1, 1, 0, 0] B4) s H = seqNext P Γ call n f m (cAt [1, 1, 1, 1, 0, 1, 0, 0, 1, 1, 0, 0, 1] B4) (evCode P Γ call n f m (cAt [1, 1, 1, 1, 0, 1, 0, 0, 1, 1, 0, 0, 0] B4) s H) := at_seq (by kernel_rfl) rfl rfl s H
noncomputable def r4_27 : {l : List Oper // opsOf (cAt [1, 1, 1, 1, 0, 1, 0, 0, 1, 1, 0, 0, 0] B4) = l} := by
  apply Subtype.mk
  dsimp only [opsOf, cAt, kids, B4, bodyOf, Try.f4, List.getD, List.getElem?_cons_zero, List.getElem?_cons_succ, Option.getD_some]
@[simp] theorem n4_27 (s : List V) (H : Heap) : evCode P Γ call n f m (cAt [1, 1, 1, 1, 0, 1, 0, 0, 1, 1, 0, 0, 0] B4) s H = regNext (evOpsGo P Γ call r4_27.1 r4_27.1 s H) := at_region (by kernel_rfl) r4_27.2 s H
attribute [simp] r4_27
@[simp] theorem n4_28 (s : List V) (H : Heap) : evCode P Γ call n f m (cAt [1, 1, 1, 1, 0, 1, 0, 0, 1, 1, 0, 0, 1] B4) s H = seqNext P Γ call n f m (cAt [1, 1, 1, 1, 0, 1, 0, 0, 1, 1, 0, 0, 1, 1] B4) (evCode P Γ call n f m (cAt [1, 1, 1, 1, 0, 1, 0, 0, 1, 1, 0, 0, 1, 0] B4) s H) := at_seq (by kernel_rfl) rfl rfl s H
noncomputable def r4_29 : {l : List Oper // opsOf (cAt [1, 1, 1, 1, 0, 1, 0, 0, 1, 1, 0, 0, 1, 0] B4) = l} := by
  apply Subtype.mk
  dsimp only [opsOf, cAt, kids, B4, bodyOf, Try.f4, List.getD, List.getElem?_cons_zero, List.getElem?_cons_succ, Option.getD_some]
@[simp] theorem n4_29 (s : List V) (H : Heap) : evCode P Γ call n f m (cAt [1, 1, 1, 1, 0, 1, 0, 0, 1, 1, 0, 0, 1, 0] B4) s H = regNext (evOpsGo P Γ call r4_29.1 r4_29.1 s H) := at_region (by kernel_rfl) r4_29.2 s H
attribute [simp] r4_29
@[simp] theorem n4_30 (s : List V) (H : Heap) : evCode P Γ call n f m (cAt [1, 1, 1, 1, 0, 1, 0, 0, 1, 1, 0, 0, 1, 1] B4) s H = condW P Γ call n f m (cAt [1, 1, 1, 1, 0, 1, 0, 0, 1, 1, 0, 0, 1, 1, 0] B4) (cAt [1, 1, 1, 1, 0, 1, 0, 0, 1, 1, 0, 0, 1, 1, 1] B4) s H (evOperand Γ s (.tmp 50)) := at_cond (by kernel_rfl) (by kernel_rfl) rfl rfl s H
noncomputable def r4_31 : {l : List Oper // opsOf (cAt [1, 1, 1, 1, 0, 1, 0, 0, 1, 1, 0, 0, 1, 1, 0] B4) = l} := by
  apply Subtype.mk
  dsimp only [opsOf, cAt, kids, B4, bodyOf, Try.f4, List.getD, List.getElem?_cons_zero, List.getElem?_cons_succ, Option.getD_some]
@[simp] theorem n4_31 (s : List V) (H : Heap) : evCode P Γ call n f m (cAt [1, 1, 1, 1, 0, 1, 0, 0, 1, 1, 0, 0, 1, 1, 0] B4) s H = regNext (evOpsGo P Γ call r4_31.1 r4_31.1 s H) := at_region (by kernel_rfl) r4_31.2 s H
attribute [simp] r4_31
@[simp] theorem n4_32 (s : List V) (H : Heap) : evCode P Γ call n f m (cAt [1, 1, 1, 1, 0, 1, 0, 0, 1, 1, 0, 0, 1, 1, 1] B4) s H = some (.normal, s, H) := at_skip (by kernel_rfl) s H
noncomputable def r4_33 : {l : List Oper // opsOf (cAt [1, 1, 1, 1, 0, 1, 0, 0, 1, 1, 1] B4) = l} := by
  apply Subtype.mk
  dsimp only [opsOf, cAt, kids, B4, bodyOf, Try.f4, List.getD, List.getElem?_cons_zero, List.getElem?_cons_succ, Option.getD_some]
@[simp] theorem n4_33 (s : List V) (H : Heap) : evCode P Γ call n f m (cAt [1, 1, 1, 1, 0, 1, 0, 0, 1, 1, 1] B4) s H = regNext (evOpsGo P Γ call r4_33.1 r4_33.1 s H) := at_region (by kernel_rfl) r4_33.2 s H
attribute [simp] r4_33
@[simp] theorem n4_34 (s : List V) (H : Heap) : evCode P Γ call n f m (cAt [1, 1, 1, 1, 1] B4) s H = seqNext P Γ call n f m (cAt [1, 1, 1, 1, 1, 1] B4) (evCode P Γ call n f m (cAt [1, 1, 1, 1, 1, 0] B4) s H) := at_seq (by kernel_rfl) rfl rfl s H
noncomputable def r4_35 : {l : List Oper // opsOf (cAt [1, 1, 1, 1, 1, 0] B4) = l} := by
  apply Subtype.mk
  dsimp only [opsOf, cAt, kids, B4, bodyOf, Try.f4, List.getD, List.getElem?_cons_zero, List.getElem?_cons_succ, Option.getD_some]
@[simp] theorem n4_35 (s : List V) (H : Heap) : evCode P Γ call n f m (cAt [1, 1, 1, 1, 1, 0] B4) s H = regNext (evOpsGo P Γ call r4_35.1 r4_35.1 s H) := at_region (by kernel_rfl) r4_35.2 s H
attribute [simp] r4_35
@[simp] theorem n4_36 (s : List V) (H : Heap) : evCode P Γ call n f m (cAt [1, 1, 1, 1, 1, 1] B4) s H = seqNext P Γ call n f m (cAt [1, 1, 1, 1, 1, 1, 1] B4) (evCode P Γ call n f m (cAt [1, 1, 1, 1, 1, 1, 0] B4) s H) := at_seq (by kernel_rfl) rfl rfl s H
@[simp] theorem n4_37 (s : List V) (H : Heap) : evCode P Γ call n f m (cAt [1, 1, 1, 1, 1, 1, 0] B4) s H = seqNext P Γ call n f m (cAt [1, 1, 1, 1, 1, 1, 0, 1] B4) (evCode P Γ call n f m (cAt [1, 1, 1, 1, 1, 1, 0, 0] B4) s H) := at_seq (by kernel_rfl) rfl rfl s H
noncomputable def r4_38 : {l : List Oper // opsOf (cAt [1, 1, 1, 1, 1, 1, 0, 0] B4) = l} := by
  apply Subtype.mk
  dsimp only [opsOf, cAt, kids, B4, bodyOf, Try.f4, List.getD, List.getElem?_cons_zero, List.getElem?_cons_succ, Option.getD_some]
@[simp] theorem n4_38 (s : List V) (H : Heap) : evCode P Γ call n f m (cAt [1, 1, 1, 1, 1, 1, 0, 0] B4) s H = regNext (evOpsGo P Γ call r4_38.1 r4_38.1 s H) := at_region (by kernel_rfl) r4_38.2 s H
attribute [simp] r4_38
@[simp] theorem n4_39 (s : List V) (H : Heap) : evCode P Γ call n f m (cAt [1, 1, 1, 1, 1, 1, 0, 1] B4) s H = condW P Γ call n f m (cAt [1, 1, 1, 1, 1, 1, 0, 1, 0] B4) (cAt [1, 1, 1, 1, 1, 1, 0, 1, 1] B4) s H (evOperand Γ s (.tmp 53)) := at_cond (by kernel_rfl) (by kernel_rfl) rfl rfl s H
noncomputable def r4_40 : {l : List Oper // opsOf (cAt [1, 1, 1, 1, 1, 1, 0, 1, 0] B4) = l} := by
  apply Subtype.mk
  dsimp only [opsOf, cAt, kids, B4, bodyOf, Try.f4, List.getD, List.getElem?_cons_zero, List.getElem?_cons_succ, Option.getD_some]
@[simp] theorem n4_40 (s : List V) (H : Heap) : evCode P Γ call n f m (cAt [1, 1, 1, 1, 1, 1, 0, 1, 0] B4) s H = regNext (evOpsGo P Γ call r4_40.1 r4_40.1 s H) := at_region (by kernel_rfl) r4_40.2 s H
attribute [simp] r4_40
@[simp] theorem n4_41 (s : List V) (H : Heap) : evCode P Γ call n f m (cAt [1, 1, 1, 1, 1, 1, 0, 1, 1] B4) s H = some (.normal, s, H) := at_skip (by kernel_rfl) s H
@[simp] theorem n4_42 (s : List V) (H : Heap) : evCode P Γ call n f m (cAt [1, 1, 1, 1, 1, 1, 1] B4) s H = seqNext P Γ call n f m (cAt [1, 1, 1, 1, 1, 1, 1, 1] B4) (evCode P Γ call n f m (cAt [1, 1, 1, 1, 1, 1, 1, 0] B4) s H) := at_seq (by kernel_rfl) rfl rfl s H
@[simp] theorem n4_43 (s : List V) (H : Heap) : evCode P Γ call n f m (cAt [1, 1, 1, 1, 1, 1, 1, 0] B4) s H = seqNext P Γ call n f m (cAt [1, 1, 1, 1, 1, 1, 1, 0, 1] B4) (evCode P Γ call n f m (cAt [1, 1, 1, 1, 1, 1, 1, 0, 0] B4) s H) := at_seq (by kernel_rfl) rfl rfl s H
noncomputable def r4_44 : {l : List Oper // opsOf (cAt [1, 1, 1, 1, 1, 1, 1, 0, 0] B4) = l} := by
  apply Subtype.mk
  dsimp only [opsOf, cAt, kids, B4, bodyOf, Try.f4, List.getD, List.getElem?_cons_zero, List.getElem?_cons_succ, Option.getD_some]
@[simp] theorem n4_44 (s : List V) (H : Heap) : evCode P Γ call n f m (cAt [1, 1, 1, 1, 1, 1, 1, 0, 0] B4) s H = regNext (evOpsGo P Γ call r4_44.1 r4_44.1 s H) := at_region (by kernel_rfl) r4_44.2 s H
attribute [simp] r4_44
@[simp] theorem n4_45 (s : List V) (H : Heap) : evCode P Γ call n f m (cAt [1, 1, 1, 1, 1, 1, 1, 0, 1] B4) s H = condW P Γ call n f m (cAt [1, 1, 1, 1, 1, 1, 1, 0, 1, 0] B4) (cAt [1, 1, 1, 1, 1, 1, 1, 0, 1, 1] B4) s H (evOperand Γ s (.tmp 69)) := at_cond (by kernel_rfl) (by kernel_rfl) rfl rfl s H
@[simp] theorem n4_46 (s : List V) (H : Heap) : evCode P Γ call n f m (cAt [1, 1, 1, 1, 1, 1, 1, 0, 1, 0] B4) s H = seqNext P Γ call n f m (cAt [1, 1, 1, 1, 1, 1, 1, 0, 1, 0, 1] B4) (evCode P Γ call n f m (cAt [1, 1, 1, 1, 1, 1, 1, 0, 1, 0, 0] B4) s H) := at_seq (by kernel_rfl) rfl rfl s H
noncomputable def r4_47 : {l : List Oper // opsOf (cAt [1, 1, 1, 1, 1, 1, 1, 0, 1, 0, 0] B4) = l} := by
  apply Subtype.mk
  dsimp only [opsOf, cAt, kids, B4, bodyOf, Try.f4, List.getD, List.getElem?_cons_zero, List.getElem?_cons_succ, Option.getD_some]
@[simp] theorem n4_47 (s : List V) (H : Heap) : evCode P Γ call n f m (cAt [1, 1, 1, 1, 1, 1, 1, 0, 1, 0, 0] B4) s H = regNext (evOpsGo P Γ call r4_47.1 r4_47.1 s H) := at_region (by kernel_rfl) r4_47.2 s H
attribute [simp] r4_47
@[simp] theorem n4_48 (s : List V) (H : Heap) : evCode P Γ call n f m (cAt [1, 1, 1, 1, 1, 1, 1, 0, 1, 0, 1] B4) s H = some (.ret, s, H) := at_ret (by kernel_rfl) s H
@[simp] theorem n4_49 (s : List V) (H : Heap) : evCode P Γ call n f m (cAt [1, 1, 1, 1, 1, 1, 1, 0, 1, 1] B4) s H = some (.normal, s, H) := at_skip (by kernel_rfl) s H
@[simp] theorem n4_50 (s : List V) (H : Heap) : evCode P Γ call n f m (cAt [1, 1, 1, 1, 1, 1, 1, 1] B4) s H = seqNext P Γ call n f m (cAt [1, 1, 1, 1, 1, 1, 1, 1, 1] B4) (evCode P Γ call n f m (cAt [1, 1, 1, 1, 1, 1, 1, 1, 0] B4) s H) := at_seq (by kernel_rfl) rfl rfl s H
@[simp] theorem n4_51 (s : List V) (H : Heap) : evCode P Γ call n f m (cAt [1, 1, 1, 1, 1, 1, 1, 1, 0] B4) s H = seqNext P Γ call n f m (cAt [1, 1, 1, 1, 1, 1, 1, 1, 0, 1] B4) (evCode P Γ call n f m (cAt [1, 1, 1, 1, 1, 1, 1, 1, 0, 0] B4) s H) := at_seq (by kernel_rfl) rfl rfl s H
noncomputable def r4_52 : {l : List Oper // opsOf (cAt [1, 1, 1, 1, 1, 1, 1, 1, 0, 0] B4) = l} := by
  apply Subtype.mk
  dsimp only [opsOf, cAt, kids, B4, bodyOf, Try.f4, List.getD, List.getElem?_cons_zero, List.getElem?_cons_succ, Option.getD_some]
@[simp] theorem n4_52 (s : List V) (H : Heap) : evCode P Γ call n f m (cAt [1, 1, 1, 1, 1, 1, 1, 1, 0, 0] B4) s H = regNext (evOpsGo P Γ call r4_52.1 r4_52.1 s H) := at_region (by kernel_rfl) r4_52.2 s H
attribute [simp] r4_52
@[simp] theorem n4_53 (s : List V) (H : Heap) : evCode P Γ call n f m (cAt [1, 1, 1, 1, 1, 1, 1, 1, 0, 1] B4) s H = condW P Γ call n f m (cAt [1, 1, 1, 1, 1, 1, 1, 1, 0, 1, 0] B4) (cAt [1, 1, 1, 1, 1, 1, 1, 1, 0, 1, 1] B4) s H (evOperand Γ s (.tmp 71)) := at_cond (by kernel_rfl) (by kernel_rfl) rfl rfl s H
@[simp] theorem n4_54 (s : List V) (H : Heap) : evCode P Γ call n f m (cAt [1, 1, 1, 1, 1, 1, 1, 1, 0, 1, 0] B4) s H = seqNext P Γ call n f m (cAt [1, 1, 1, 1, 1, 1, 1, 1, 0, 1, 0, 1] B4) (evCode P Γ call n f m (cAt [1, 1, 1, 1, 1, 1, 1, 1, 0, 1, 0, 0] B4) s H) := at_seq (by kernel_rfl) rfl rfl s H
noncomputable def r4_55 : {l : List Oper // opsOf (cAt [1, 1, 1, 1, 1, 1, 1, 1, 0, 1, 0, 0] B4) = l} := by
  apply Subtype.mk
  dsimp only [opsOf, cAt, kids, B4, bodyOf, Try.f4, List.getD, List.getElem?_cons_zero, List.getElem?_cons_succ, Option.getD_some]
@[simp] theorem n4_55 (s : List V) (H : Heap) : evCode P Γ call n f m (cAt [1, 1, 1, 1, 1, 1, 1, 1, 0, 1, 0, 0] B4) s H = regNext (evOpsGo P Γ call r4_55.1 r4_55.1 s H) := at_region (by kernel_rfl) r4_55.2 s H
attribute [simp] r4_55
@[simp] theorem n4_56 (s : List V) (H : Heap) : evCode P Γ call n f m (cAt [1, 1, 1, 1, 1, 1, 1, 1, 0, 1, 0, 1] B4) s H = seqNext P Γ call n f m (cAt [1, 1, 1, 1, 1, 1, 1, 1, 0, 1, 0, 1, 1] B4) (evCode P Γ call n f m (cAt [1, 1, 1, 1, 1, 1, 1, 1, 0, 1, 0, 1, 0] B4) s H) := at_seq (by kernel_rfl) rfl rfl s H
noncomputable def r4_57 : {l : List Oper // opsOf (cAt [1, 1, 1, 1, 1, 1, 1, 1, 0, 1, 0, 1, 0] B4) = l} := by
  apply Subtype.mk
  dsimp only [opsOf, cAt, kids, B4, bodyOf, Try.f4, List.getD, List.getElem?_cons_zero, List.getElem?_cons_succ, Option.getD_some]
@[simp] theorem n4_57 (s : List V) (H : Heap) : evCode P Γ call n f m (cAt [1, 1, 1, 1, 1, 1, 1, 1, 0, 1, 0, 1, 0] B4) s H = regNext (evOpsGo P Γ call r4_57.1 r4_57.1 s H) := at_region (by kernel_rfl) r4_57.2 s H
attribute [simp] r4_57
@[simp] theorem n4_58 (s : List V) (H : Heap) : evCode P Γ call n f m (cAt [1, 1, 1, 1, 1, 1, 1, 1, 0, 1, 0, 1, 1] B4) s H = condW P Γ call n f m (cAt [1, 1, 1, 1, 1, 1, 1, 1, 0, 1, 0, 1, 1, 0] B4) (cAt [1, 1, 1, 1, 1, 1, 1, 1, 0, 1, 0, 1, 1, 1] B4) s H (evOperand Γ s (.tmp 84)) := at_cond (by kernel_rfl) (by kernel_rfl) rfl rfl s H
@[simp] theorem n4_59 (s : List V) (H : Heap) : evCode P Γ call n f m (cAt [1, 1, 1, 1, 1, 1, 1, 1, 0, 1, 0, 1, 1, 0] B4) s H = seqNext P Γ call n f m (cAt [1, 1, 1, 1, 1, 1, 1, 1, 0, 1, 0, 1, 1, 0, 1] B4) (evCode P Γ call n f m (cAt [1, 1, 1, 1, 1, 1, 1, 1, 0, 1, 0, 1, 1, 0, 0] B4) s H) := at_seq (by kernel_rfl) rfl rfl s H
noncomputable def r4_60 : {l : List Oper // opsOf (cAt [1, 1, 1, 1, 1, 1, 1, 1, 0, 1, 0, 1, 1, 0, 0] B4) = l} := by
  apply Subtype.mk
  dsimp only [opsOf, cAt, kids, B4, bodyOf, Try.f4, List.getD, List.getElem?_cons_zero, List.getElem?_cons_succ, Option.getD_some]
@[simp] theorem n4_60 (s : List V) (H : Heap) : evCode P Γ call n f m (cAt [1, 1, 1, 1, 1, 1, 1, 1, 0, 1, 0, 1, 1, 0, 0] B4) s H = regNext (evOpsGo P Γ call r4_60.1 r4_60.1 s H) := at_region (by kernel_rfl) r4_60.2 s H
attribute [simp] r4_60
@[simp] theorem n4_61 (s : List V) (H : Heap) : evCode P Γ call n f m (cAt [1, 1, 1, 1, 1, 1, 1, 1, 0, 1, 0, 1, 1, 0, 1] B4) s H = some (.ret, s, H) := at_ret (by kernel_rfl) s H
@[simp] theorem n4_62 (s : List V) (H : Heap) : evCode P Γ call n f m (cAt [1, 1, 1, 1, 1, 1, 1, 1, 0, 1, 0, 1, 1, 1] B4) s H = some (.normal, s, H) := at_skip (by kernel_rfl) s H
@[simp] theorem n4_63 (s : List V) (H : Heap) : evCode P Γ call n f m (cAt [1, 1, 1, 1, 1, 1, 1, 1, 0, 1, 1] B4) s H = some (.normal, s, H) := at_skip (by kernel_rfl) s H
@[simp] theorem n4_64 (s : List V) (H : Heap) : evCode P Γ call n f m (cAt [1, 1, 1, 1, 1, 1, 1, 1, 1] B4) s H = seqNext P Γ call n f m (cAt [1, 1, 1, 1, 1, 1, 1, 1, 1, 1] B4) (evCode P Γ call n f m (cAt [1, 1, 1, 1, 1, 1, 1, 1, 1, 0] B4) s H) := at_seq (by kernel_rfl) rfl rfl s H
noncomputable def r4_65 : {l : List Oper // opsOf (cAt [1, 1, 1, 1, 1, 1, 1, 1, 1, 0] B4) = l} := by
  apply Subtype.mk
  dsimp only [opsOf, cAt, kids, B4, bodyOf, Try.f4, List.getD, List.getElem?_cons_zero, List.getElem?_cons_succ, Option.getD_some]
@[simp] theorem n4_65 (s : List V) (H : Heap) : evCode P Γ call n f m (cAt [1, 1, 1, 1, 1, 1, 1, 1, 1, 0] B4) s H = regNext (evOpsGo P Γ call r4_65.1 r4_65.1 s H) := at_region (by kernel_rfl) r4_65.2 s H
attribute [simp] r4_65
@[simp] theorem n4_66 (s : List V) (H : Heap) : evCode P Γ call n f m (cAt [1, 1, 1, 1, 1, 1, 1, 1, 1, 1] B4) s H = seqNext P Γ call n f m (cAt [1, 1, 1, 1, 1, 1, 1, 1, 1, 1, 1] B4) (evCode P Γ call n f m (cAt [1, 1, 1, 1, 1, 1, 1, 1, 1, 1, 0] B4) s H) := at_seq (by kernel_rfl) rfl rfl s H
noncomputable def r4_67 : {l : List Oper // opsOf (cAt [1, 1, 1, 1, 1, 1, 1, 1, 1, 1, 0] B4) = l} := by
  apply Subtype.mk
  dsimp only [opsOf, cAt, kids, B4, bodyOf, Try.f4, List.getD, List.getElem?_cons_zero, List.getElem?_cons_succ, Option.getD_some]
@[simp] theorem n4_67 (s : List V) (H : Heap) : evCode P Γ call n f m (cAt [1, 1, 1, 1, 1, 1, 1, 1, 1, 1, 0] B4) s H = regNext (evOpsGo P Γ call r4_67.1 r4_67.1 s H) := at_region (by kernel_rfl) r4_67.2 s H
attribute [simp] r4_67
@[simp] theorem n4_68 (s : List V) (H : Heap) : evCode P Γ call n f m (cAt [1, 1, 1, 1, 1, 1, 1, 1, 1, 1, 1] B4) s H = seqNext P Γ call n f m (cAt [1, 1, 1, 1, 1, 1, 1, 1, 1, 1, 1, 1] B4) (evCode P Γ call n f m (cAt [1, 1, 1, 1, 1, 1, 1, 1, 1, 1, 1, 0] B4) s H) := at_seq (by kernel_rfl) rfl rfl s H
noncomputable def r4_69 : {l : List Oper // opsOf (cAt [1, 1, 1, 1, 1, 1, 1, 1, 1, 1, 1, 0] B4) = l} := by
  apply Subtype.mk
  dsimp only [opsOf, cAt, kids, B4, bodyOf, Try.f4, List.getD, List.getElem?_cons_zero, List.getElem?_cons_succ, Option.getD_some]
@[simp] theorem n4_69 (s : List V) (H : Heap) : evCode P Γ call n f m (cAt [1, 1, 1, 1, 1, 1, 1, 1, 1, 1, 1, 0] B4) s H = regNext (evOpsGo P Γ call r4_69.1 r4_69.1 s H) := at_region (by kernel_rfl) r4_69.2 s H
attribute [simp] r4_69
@[simp] theorem n4_70 (s : List V) (H : Heap) : evCode P Γ call n f m (cAt [1, 1, 1, 1, 1, 1, 1, 1, 1, 1, 1, 1] B4) s H = seqNext P Γ call n f m (cAt [1, 1, 1, 1, 1, 1, 1, 1, 1, 1, 1, 1, 1] B4) (evCode P Γ call n f m (cAt [1, 1, 1, 1, 1, 1, 1, 1, 1, 1, 1, 1, 0] B4) s H) := at_seq (by kernel_rfl) rfl rfl s H
@[simp] theorem n4_71 (s : List V) (H : Heap) : evCode P Γ call n f m (cAt [1, 1, 1, 1, 1, 1, 1, 1, 1, 1, 1, 1, 0] B4) s H = seqNext P Γ call n f m (cAt [1, 1, 1, 1, 1, 1, 1, 1, 1, 1, 1, 1, 0, 1] B4) (evCode P Γ call n f m (cAt [1, 1, 1, 1, 1, 1, 1, 1, 1, 1, 1, 1, 0, 0] B4) s H) := at_seq (by kernel_rfl) rfl rfl s H
noncomputable def r4_72 : {l : List Oper // opsOf (cAt [1, 1, 1, 1, 1, 1, 1, 1, 1, 1, 1, 1, 0, 0] B4) = l} := by
  apply Subtype.mk
  dsimp only [opsOf, cAt, kids, B4, bodyOf, Try.f4, List.getD, List.getElem?_cons_zero, List.getElem?_cons_succ, Option.getD_some]
@[simp] theorem n4_72 (s : List V) (H : Heap) : evCode P Γ call n f m (cAt [1, 1, 1, 1, 1, 1, 1, 1, 1, 1, 1, 1, 0, 0] B4) s H = regNext (evOpsGo P Γ call r4_72.1 r4_72.1 s H) := at_region (by kernel_rfl) r4_72.2 s H
attribute [simp] r4_72
@[simp] theorem n4_73 (s : List V) (H : Heap) : evCode P Γ call n f m (cAt [1, 1, 1, 1, 1, 1, 1, 1, 1, 1, 1, 1, 0, 1] B4) s H = condW P Γ call n f m (cAt [1, 1, 1, 1, 1, 1, 1, 1, 1, 1, 1, 1, 0, 1, 0] B4) (cAt [1, 1, 1, 1, 1, 1, 1, 1, 1, 1, 1, 1, 0, 1, 1] B4) s H (evOperand Γ s (.tmp 111)) := at_cond (by kernel_rfl) (by kernel_rfl) rfl rfl s H
@[simp] theorem n4_74 (s : List V) (H : Heap) : evCode P Γ call n f m (cAt [1, 1, 1, 1, 1, 1, 1, 1, 1, 1, 1, 1, 0, 1, 0] B4) s H = seqNext P Γ call n f m (cAt [1, 1, 1, 1, 1, 1, 1, 1, 1, 1, 1, 1, 0, 1, 0, 1] B4) (evCode P Γ call n f m (cAt [1, 1, 1, 1, 1, 1, 1, 1, 1, 1, 1, 1, 0, 1, 0, 0] B4) s H) := at_seq (by kernel_rfl) rfl rfl s H
noncomputable def r4_75 : {l : List Oper // opsOf (cAt [1, 1, 1, 1, 1, 1, 1, 1, 1, 1, 1, 1, 0, 1, 0, 0] B4) = l} := by
  apply Subtype.mk
  dsimp only [opsOf, cAt, kids, B4, bodyOf, Try.f4, List.getD, List.getElem?_cons_zero, List.getElem?_cons_succ, Option.getD_some]
@[simp] theorem n4_75 (s : List V) (H : Heap) : evCode P Γ call n f m (cAt [1, 1, 1, 1, 1, 1, 1, 1, 1, 1, 1, 1, 0, 1, 0, 0] B4) s H = regNext (evOpsGo P Γ call r4_75.1 r4_75.1 s H) := at_region (by kernel_rfl) r4_75.2 s H
attribute [simp] r4_75
@[simp] theorem n4_76 (s : List V) (H : Heap) : evCode P Γ call n f m (cAt [1, 1, 1, 1, 1, 1, 1, 1, 1, 1, 1, 1, 0, 1, 0, 1] B4) s H = some (.ret, s, H) := at_ret (by kernel_rfl) s H
@[simp] theorem n4_77 (s : List V) (H : Heap) : evCode P Γ call n f m (cAt [1, 1, 1, 1, 1, 1, 1, 1, 1, 1, 1, 1, 0, 1, 1] B4) s H = some (.normal, s, H) := at_skip (by kernel_rfl) s H
@[simp] theorem n4_78 (s : List V) (H : Heap) : evCode P Γ call n f m (cAt [1, 1, 1, 1, 1, 1, 1, 1, 1, 1, 1, 1, 1] B4) s H = seqNext P Γ call n f m (cAt [1, 1, 1, 1, 1, 1, 1, 1, 1, 1, 1, 1, 1, 1] B4) (evCode P Γ call n f m (cAt [1, 1, 1, 1, 1, 1, 1, 1, 1, 1, 1, 1, 1, 0] B4) s H) := at_seq (by kernel_rfl) rfl rfl s H
@[simp] theorem n4_79 (s : List V) (H : Heap) : evCode P Γ call n f m (cAt [1, 1, 1, 1, 1, 1, 1, 1, 1, 1, 1, 1, 1, 0] B4) s H = seqNext P Γ call n f m (cAt [1, 1, 1, 1, 1, 1, 1, 1, 1, 1, 1, 1, 1, 0, 1] B4) (evCode P Γ call n f m (cAt [1, 1, 1, 1, 1, 1, 1, 1, 1, 1, 1, 1, 1, 0, 0] B4) s H) := at_seq (by kernel_rfl) rfl rfl s H
noncomputable def r4_80 : {l : List Oper // opsOf (cAt [1, 1, 1, 1, 1, 1, 1, 1, 1, 1, 1, 1, 1, 0, 0] B4) = l} := by
  apply Subtype.mk
  dsimp only [opsOf, cAt, kids, B4, bodyOf, Try.f4, List.getD, List.getElem?_cons_zero, List.getElem?_cons_succ, Option.getD_some]
@[simp] theorem n4_80 (s : List V) (H : Heap) : evCode P Γ call n f m (cAt [1, 1, 1, 1, 1, 1, 1, 1, 1, 1, 1, 1, 1, 0, 0] B4) s H = regNext (evOpsGo P Γ call r4_80.1 r4_80.1 s H) := at_region (by kernel_rfl) r4_80.2 s H
attribute [simp] r4_80
@[simp] theorem n4_81 (s : List V) (H : Heap) : evCode P Γ call n f m (cAt [1, 1, 1, 1, 1, 1, 1, 1, 1, 1, 1, 1, 1, 0, 1] B4) s H = condW P Γ call n f m (cAt [1, 1, 1, 1, 1, 1, 1, 1, 1, 1, 1, 1, 1, 0, 1, 0] B4) (cAt [1, 1, 1, 1, 1, 1, 1, 1, 1, 1, 1, 1, 1, 0, 1, 1] B4) s H (evOperand Γ s (.tmp 113)) := at_cond (by kernel_rfl) (by kernel_rfl) rfl rfl s H
@[simp] theorem n4_82 (s : List V) (H : Heap) : evCode P Γ call n f m (cAt [1, 1, 1, 1, 1, 1, 1, 1, 1, 1, 1, 1, 1, 0, 1, 0] B4) s H = seqNext P Γ call n f m (cAt [1, 1, 1, 1, 1, 1, 1, 1, 1, 1, 1, 1, 1, 0, 1, 0, 1] B4) (evCode P Γ call n f m (cAt [1, 1, 1, 1, 1, 1, 1, 1, 1, 1, 1, 1, 1, 0, 1, 0, 0] B4) s H) := at_seq (by kernel_rfl) rfl rfl s H
noncomputable def r4_83 : {l : List Oper // opsOf (cAt [1, 1, 1, 1, 1, 1, 1, 1, 1, 1, 1, 1, 1, 0, 1, 0, 0] B4) = l} := by
  apply Subtype.mk
  dsimp only [opsOf, cAt, kids, B4, bodyOf, Try.f4, List.getD, List.getElem?_cons_zero, List.getElem?_cons_succ, Option.getD_some]
@[simp] theorem n4_83 (s : List V) (H : Heap) : evCode P Γ call n f m (cAt [1, 1, 1, 1, 1, 1, 1, 1, 1, 1, 1, 1, 1, 0, 1, 0, 0] B4) s H = regNext (evOpsGo P Γ call r4_83.1 r4_83.1 s H) := at_region (by kernel_rfl) r4_83.2 s H
attribute [simp] r4_83
@[simp] theorem n4_84 (s : List V) (H : Heap) : evCode P Γ call n f m (cAt [1, 1, 1, 1, 1, 1, 1, 1, 1, 1, 1, 1, 1, 0, 1, 0, 1] B4) s H = some (.ret, s, H) := at_ret (by kernel_rfl) s H
@[simp] theorem n4_85 (s : List V) (H : Heap) : evCode P Γ call n f m (cAt [1, 1, 1, 1, 1, 1, 1, 1, 1, 1, 1, 1, 1, 0, 1, 1] B4) s H = some (.normal, s, H) := at_skip (by kernel_rfl) s H
@[simp] theorem n4_86 (s : List V) (H : Heap) : evCode P Γ call n f m (cAt [1, 1, 1, 1, 1, 1, 1, 1, 1, 1, 1, 1, 1, 1] B4) s H = seqNext P Γ call n f m (cAt [1, 1, 1, 1, 1, 1, 1, 1, 1, 1, 1, 1, 1, 1, 1] B4) (evCode P Γ call n f m (cAt [1, 1, 1, 1, 1, 1, 1, 1, 1, 1, 1, 1, 1, 1, 0] B4) s H) := at_seq (by kernel_rfl) rfl rfl s H
noncomputable def r4_87 : {l : List Oper // opsOf (cAt [1, 1, 1, 1, 1, 1, 1, 1, 1, 1, 1, 1, 1, 1, 0] B4) = l} := by
  apply Subtype.mk
  dsimp only [opsOf, cAt, kids, B4, bodyOf, Try.f4, List.getD, List.getElem?_cons_zero, List.getElem?_cons_succ, Option.getD_some]
@[simp] theorem n4_87 (s : List V) (H : Heap) : evCode P Γ call n f m (cAt [1, 1, 1, 1, 1, 1, 1, 1, 1, 1, 1, 1, 1, 1, 0] B4) s H = regNext (evOpsGo P Γ call r4_87.1 r4_87.1 s H) := at_region (by kernel_rfl) r4_87.2 s H
attribute [simp] r4_87
@[simp] theorem n4_88 (s : List V) (H : Heap) : evCode P Γ call n f m (cAt [1, 1, 1, 1, 1, 1, 1, 1, 1, 1, 1, 1, 1, 1, 1] B4) s H = some (.ret, s, H) := at_ret (by kernel_rfl) s H
theorem b4 {k : Nat} (ho : ∀ args H, Γ.orc 4 args H = none) (args : List V) (H : Heap) (ha : args.length ≤ 132) : evF Try.prog Γ (k + 1) 4 args H = bodyEnd Try.prog [.tmp 8] H.length (evCode Try.prog Γ (evF Try.prog Γ k) k 4 H.length (cAt [] B4) (mkL 132 V.undef (enumV 0 args)) H) := body_at Try.func4 (by decide) rfl ho rfl rfl args H ha
noncomputable def B14 : Code := bodyOf Try.f14
@[simp] theorem n14_1 (s : List V) (H : Heap) : evCode P Γ call n f m (cAt [] B14) s H = seqNext P Γ call n f m (cAt [1] B14) (evCode P Γ call n f m (cAt [0] B14) s H) := at_seq (by kernel_rfl) rfl rfl s H
noncomputable def r14_2 : {l : List Oper // opsOf (cAt [0] B14) = l} := by
  apply Subtype.mk
  dsimp only [opsOf, cAt, kids, B14, bodyOf, Try.f14, List.getD, List.getElem?_cons_zero, List.getElem?_cons_succ, Option.getD_some]
@[simp] theorem n14_2 (s : List V) (H : Heap) : evCode P Γ call n f m (cAt [0] B14) s H = regNext (evOpsGo P Γ call r14_2.1 r14_2.1 s H) := at_region (by kernel_rfl) r14_2.2 s H
attribute [simp] r14_2
@[simp] theorem n14_3 (s : List V) (H : Heap) : evCode P Γ call n f m (cAt [1] B14) s H = seqNext P Γ call n f m (cAt [1, 1] B14) (evCode P Γ call n f m (cAt [1, 0] B14) s H) := at_seq (by kernel_rfl) rfl rfl s H
noncomputable def r14_4 : {l : List Oper // opsOf (cAt [1, 0] B14) = l} := by
  apply Subtype.mk
  dsimp only [opsOf, cAt, kids, B14, bodyOf, Try.f14, List.getD, List.getElem?_cons_zero, List.getElem?_cons_succ, Option.getD_some]
@[simp] theorem n14_4 (s : List V) (H : Heap) : evCode P Γ call n f m (cAt [1, 0] B14) s H = regNext (evOpsGo P Γ call r14_4.1 r14_4.1 s H) := at_region (by kernel_rfl) r14_4.2 s H
attribute [simp] r14_4
@[simp] theorem n14_5 (s : List V) (H : Heap) : evCode P Γ call n f m (cAt [1, 1] B14) s H = some (.ret, s, H) := at_ret (by kernel_rfl) s H
theorem b14 {k : Nat} (ho : ∀ args H, Γ.orc 14 args H = none) (args : List V) (H : Heap) (ha : args.length ≤ 38) : evF Try.prog Γ (k + 1) 14 args H = bodyEnd Try.prog [.tmp 4] H.length (evCode Try.prog Γ (evF Try.prog Γ k) k 14 H.length (cAt [] B14) (mkL 38 V.undef (enumV 0 args)) H) := body_at Try.func14 (by decide) rfl ho rfl rfl args H ha
noncomputable def B15 : Code := bodyOf Try.f15
@[simp] theorem n15_1 (s : List V) (H : Heap) : evCode P Γ call n f m (cAt [] B15) s H = seqNext P Γ call n f m (cAt [1] B15) (evCode P Γ call n f m (cAt [0] B15) s H) := at_seq (by kernel_rfl) rfl rfl s H
noncomputable def r15_2 : {l : List Oper // opsOf (cAt [0] B15) = l} := by
  apply Subtype.mk
  dsimp only [opsOf, cAt, kids, B15, bodyOf, Try.f15, List.getD, List.getElem?_cons_zero, List.getElem?_cons_succ, Option.getD_some]
@[simp] theorem n15_2 (s : List V) (H : Heap) : evCode P Γ call n f m (cAt [0] B15) s H = regNext (evOpsGo P Γ call r15_2.1 r15_2.1 s H) := at_region (by kernel_rfl) r15_2.2 s H
attribute [simp] r15_2
@[simp] theorem n15_3 (s : List V) (H : Heap) : evCode P Γ call n f m (cAt [1] B15) s H = seqNext P Γ call n f m (cAt [1, 1] B15) (evCode P Γ call n f m (cAt [1, 0] B15) s H) := at_seq (by kernel_rfl) rfl rfl s H
noncomputable def r15_4 : {l : List Oper // opsOf (cAt [1, 0] B15) = l} := by
  apply Subtype.mk
  dsimp only [opsOf, cAt, kids, B15, bodyOf, Try.f15, List.getD, List.getElem?_cons_zero, List.getElem?_cons_succ, Option.getD_some]
@[simp] theorem n15_4 (s : List V) (H : Heap) : evCode P Γ call n f m (cAt [1, 0] B15) s H = regNext (evOpsGo P Γ call r15_4.1 r15_4.1 s H) := at_region (by kernel_rfl) r15_4.2 s H
attribute [simp] r15_4
@[simp] theorem n15_5 (s : List V) (H : Heap) : evCode P Γ call n f m (cAt [1, 1] B15) s H = seqNext P Γ call n f m (cAt [1, 1, 1] B15) (evCode P Γ call n f m (cAt [1, 1, 0] B15) s H) := at_seq (by kernel_rfl) rfl rfl s H
@[simp] theorem n15_6 (s : List V) (H : Heap) : evCode P Γ call n f m (cAt [1, 1, 0] B15) s H = seqNext P Γ call n f m (cAt [1, 1, 0, 1] B15) (evCode P Γ call n f m (cAt [1, 1, 0, 0] B15) s H) := at_seq (by kernel_rfl) rfl rfl s H
noncomputable def r15_7 : {l : List Oper // opsOf (cAt [1, 1, 0, 0] B15) = l} := by
  apply Subtype.mk
  dsimp only [opsOf, cAt, kids, B15, bodyOf, Try.f15, List.getD, List.getElem?_cons_zero, List.getElem?_cons_succ, Option.getD_some]
@[simp] theorem n15_7 (s : List V) (H : Heap) : evCode P Γ call n f m (cAt [1, 1, 0, 0] B15) s H = regNext (evOpsGo P Γ call r15_7.1 r15_7.1 s H) := at_region (by kernel_rfl) r15_7.2 s H
attribute [simp] r15_7
@[simp] theorem n15_8 (s : List V) (H : Heap) : evCode P Γ call n f m (cAt [1, 1, 0, 1] B15) s H = blockNext 0 (evCode P Γ call n f m (cAt [1, 1, 0, 1, 0] B15) s H) := at_block (by kernel_rfl) rfl s H
@[simp] theorem n15_9 (s : List V) (H : Heap) : evCode P Γ call n f m (cAt [1, 1, 0, 1, 0] B15) s H = evLoopC P Γ call n f m (cAt [1, 1, 0, 1, 0, 0] B15) n s H := at_loop (by kernel_rfl) rfl s H
noncomputable abbrev L15_3 : Code := cAt [1, 1, 0, 1, 0, 0] B15
@[simp] theorem n15_9f : firstRegion (cAt [1, 1, 0, 1, 0, 0] B15) = 3 := by kernel_rfl
@[simp] theorem n15_10 (s : List V) (H : Heap) : evCode P Γ call n f m (cAt [1, 1, 0, 1, 0, 0] B15) s H = seqNext P Γ call n f m (cAt [1, 1, 0, 1, 0, 0, 1] B15) (evCode P Γ call n f m (cAt [1, 1, 0, 1, 0, 0, 0] B15) s H) := at_seq (by kernel_rfl) rfl rfl s H
noncomputable def r15_11 : {l : List Oper // opsOf (cAt [1, 1, 0, 1, 0, 0, 0] B15) = l} := by
  apply Subtype.mk
  dsimp only [opsOf, cAt, kids, B15, bodyOf, Try.f15, List.getD, List.getElem?_cons_zero, List.getElem?_cons_succ, Option.getD_some]
@[simp] theorem n15_11 (s : List V) (H : Heap) : evCode P Γ call n f m (cAt [1, 1, 0, 1, 0, 0, 0] B15) s H = regNext (evOpsGo P Γ call r15_11.1 r15_11.1 s H) := at_region (by kernel_rfl) r15_11.2 s H
attribute [simp] r15_11
@[simp] theorem n15_12 (s : List V) (H : Heap) : evCode P Γ call n f m (cAt [1, 1, 0, 1, 0, 0, 1] B15) s H = seqNext P Γ call n f m (cAt [1, 1, 0, 1, 0, 0, 1, 1] B15) (evCode P Γ call n f m (cAt [1, 1, 0, 1, 0, 0, 1, 0] B15) s H) := at_seq (by kernel_rfl) rfl rfl s H
@[simp] theorem n15_13 (s : List V) (H : Heap) : evCode P Γ call n f m (cAt [1, 1, 0, 1, 0, 0, 1, 0] B15) s H = condW P Γ call n f m (cAt [1, 1, 0, 1, 0, 0, 1, 0, 0] B15) (cAt [1, 1, 0, 1, 0, 0, 1, 0, 1] B15) s H (evOperand Γ s (.tmp 18)) := at_cond (by kernel_rfl) (by kernel_rfl) rfl rfl s H
@[simp] theorem n15_14 (s : List V) (H : Heap) : evCode P Γ call n f m (cAt [1, 1, 0, 1, 0, 0, 1, 0, 0] B15) s H = some (.normal, s, H) := at_skip (by kernel_rfl) s H
@[simp] theorem n15_15 (s : List V) (H : Heap) : evCode P Γ call n f m (cAt [1, 1, 0, 1, 0, 0, 1, 0, 1] B15) s H = some (.exit 0, s, H) := at_exit (by kernel_rfl) s H
@[simp] theorem n15_16 (s : List V) (H : Heap) : evCode P Γ call n f m (cAt [1, 1, 0, 1, 0, 0, 1, 1] B15) s H = seqNext P Γ call n f m (cAt [1, 1, 0, 1, 0, 0, 1, 1, 1] B15) (evCode P Γ call n f m (cAt [1, 1, 0, 1, 0, 0, 1, 1, 0] B15) s H) := at_seq (by kernel_rfl) rfl rfl s H
@[simp] theorem n15_17 (s : List V) (H : Heap) : evCode P Γ call n f m (cAt [1, 1, 0, 1, 0, 0, 1, 1, 0] B15) s H = blockNext 1 (evCode P Γ call n f m (cAt [1, 1, 0, 1, 0, 0, 1, 1, 0, 0] B15) s H) := at_block (by kernel_rfl) rfl s H
@[simp] theorem n15_18 (s : List V) (H : Heap) : evCode P Γ call n f m (cAt [1, 1, 0, 1, 0, 0, 1, 1, 0, 0] B15) s H = seqNext P Γ call n f m (cAt [1, 1, 0, 1, 0, 0, 1, 1, 0, 0, 1] B15) (evCode P Γ call n f m (cAt [1, 1, 0, 1, 0, 0, 1, 1, 0, 0, 0] B15) s H) := at_seq (by kernel_rfl) rfl rfl s H
noncomputable def r15_19 : {l : List Oper // opsOf (cAt [1, 1, 0, 1, 0, 0, 1, 1, 0, 0, 0] B15) = l} := by
  apply Subtype.mk
  dsimp only [opsOf, cAt, kids, B15, bodyOf, Try.f15, List.getD, List.getElem?_cons_zero, List.getElem?_cons_succ, Option.getD_some]
@[simp] theorem n15_19 (s : List V) (H : Heap) : evCode P Γ call n f m (cAt [1, 1, 0, 1, 0, 0, 1, 1, 0, 0, 0] B15) s H = regNext (evOpsGo P Γ call r15_19.1 r15_19.1 s H) := at_region (by kernel_rfl) r15_19.2 s H
attribute [simp] r15_19
@[simp] theorem n15_20 (s : List V) (H : Heap) : evCode P Γ call n f m (cAt [1, 1, 0, 1, 0, 0, 1, 1, 0, 0, 1] B15) s H = seqNext P Γ call n f m (cAt [1, 1, 0, 1, 0, 0, 1, 1, 0, 0, 1, 1] B15) (evCode P Γ call n f m (cAt [1, 1, 0, 1, 0, 0, 1, 1, 0, 0, 1, 0] B15) s H) := at_seq (by kernel_rfl) rfl rfl s H
noncomputable def r15_21 : {l : List Oper // opsOf (cAt [1, 1, 0, 1, 0, 0, 1, 1, 0, 0, 1, 0] B15) = l} := by
  apply Subtype.mk
  dsimp only [opsOf, cAt, kids, B15, bodyOf, Try.f15, List.getD, List.getElem?_cons_zero, List.getElem?_cons_succ, Option.getD_some]
@[simp] theorem n15_21 (s : List V) (H : Heap) : evCode P Γ call n f m (cAt [1, 1, 0, 1, 0, 0, 1, 1, 0, 0, 1, 0] B15) s H = regNext (evOpsGo P Γ call r15_21.1 r15_21.1 s H) := at_region (by kernel_rfl) r15_21.2 s H
attribute [simp] r15_21
@[simp] theorem n15_22 (s : List V) (H : Heap) : evCode P Γ call n f m (cAt [1, 1, 0, 1, 0, 0, 1, 1, 0, 0, 1, 1] B15) s H = seqNext P Γ call n f m (cAt [1, 1, 0, 1, 0, 0, 1, 1, 0, 0, 1, 1, 1] B15) (evCode P Γ call n f m (cAt [1, 1, 0, 1, 0, 0, 1, 1, 0, 0, 1, 1, 0] B15) s H) := at_seq (by kernel_rfl) rfl rfl s H
@[simp] theorem n15_23 (s : List V) (H : Heap) : evCode P Γ call n f m (cAt [1, 1, 0, 1, 0, 0, 1, 1, 0, 0, 1, 1, 0] B15) s H = seqNext P Γ call n f m (cAt [1, 1, 0, 1, 0, 0, 1, 1, 0, 0, 1, 1, 0, 1] B15) (evCode P Γ call n f m (cAt [1, 1, 0, 1, 0, 0, 1, 1, 0, 0, 1, 1, 0, 0] B15) s H) := at_seq (by kernel_rfl) rfl rfl s H
noncomputable def r15_24 : {l : List Oper // opsOf (cAt [1, 1, 0, 1, 0, 0, 1, 1, 0, 0, 1, 1, 0, 0] B15) = l} := by
  apply Subtype.mk
  dsimp only [opsOf, cAt, kids, B15, bodyOf, Try.f15, List.getD, List.getElem?_cons_zero, List.getElem?_cons_succ, Option.getD_some]
@[simp] theorem n15_24 (s : List V) (H : Heap) : evCode P Γ call n f m (cAt [1, 1, 0, 1, 0, 0, 1, 1, 0, 0, 1, 1, 0, 0] B15) s H = regNext (evOpsGo P Γ call r15_24.1 r15_24.1 s H) := at_region (by kernel_rfl) r15_24.2 s H
attribute [simp] r15_24
@[simp] theorem n15_25 (s : List V) (H : Heap) : evCode P Γ call n f m (cAt [1, 1, 0, 1, 0, 0, 1, 1, 0, 0, 1, 1, 0, 1] B15) s H = blockNext 2 (evCode P Γ call n f m (cAt [1, 1, 0, 1, 0, 0, 1, 1, 0, 0, 1, 1, 0, 1, 0] B15) s H) := at_block (by kernel_rfl) rfl s H
@[simp] theorem n15_26 (s : List V) (H : Heap) : evCode P Γ call n f m (cAt [1, 1, 0, 1, 0, 0, 1, 1, 0, 0, 1, 1, 0, 1, 0] B15) s H = evLoopC P Γ call n f m (cAt [1, 1, 0, 1, 0, 0, 1, 1, 0, 0, 1, 1, 0, 1, 0, 0] B15) n s H := at_loop (by kernel_rfl) rfl s H
noncomputable abbrev L15_7 : Code := cAt [1, 1, 0, 1, 0, 0, 1, 1, 0, 0, 1, 1, 0, 1, 0, 0] B15
@[simp] theorem n15_26f : firstRegion (cAt [1, 1, 0, 1, 0, 0, 1, 1, 0, 0, 1, 1, 0, 1, 0, 0] B15) = 7 := by kernel_rfl
@[simp] theorem n15_27 (s : List V) (H : Heap) : evCode P Γ call n f m (cAt [1, 1, 0, 1, 0, 0, 1, 1, 0, 0, 1, 1, 0, 1, 0, 0] B15) s H = seqNext P Γ call n f m (cAt [1, 1, 0, 1, 0, 0, 1, 1, 0, 0, 1, 1, 0, 1, 0, 0, 1] B15) (evCode P Γ call n f m (cAt [1, 1, 0, 1, 0, 0, 1, 1, 0, 0, 1, 1, 0, 1, 0, 0, 0] B15) s H) := at_seq (by kernel_rfl) rfl rfl s H
noncomputable def r15_28 : {l : List Oper // opsOf (cAt [1, 1, 0, 1, 0, 0, 1, 1, 0, 0, 1, 1, 0, 1, 0, 0, 0] B15) = l} := by
  apply Subtype.mk
  dsimp only [opsOf, cAt, kids, B15, bodyOf, Try.f15, List.getD, List.getElem?_cons_zero, List.getElem?_cons_succ, Option.getD_some]
@[simp] theorem n15_28 (s : List V) (H : Heap) : evCode P Γ call n f m (cAt [1, 1, 0, 1, 0, 0, 1, 1, 0, 0, 1, 1, 0, 1, 0, 0, 0] B15) s H = regNext (evOpsGo P Γ call r15_28.1 r15_28.1 s H) := at_region (by kernel_rfl) r15_28.2 s H
attribute [simp] r15_28
@[simp] theorem n15_29 (s : List V) (H : Heap) : evCode P Γ call n f m (cAt [1, 1, 0, 1, 0, 0, 1, 1, 0, 0, 1, 1, 0, 1, 0, 0, 1] B15) s H = seqNext P Γ call n f m (cAt [1, 1, 0, 1, 0, 0, 1, 1, 0, 0, 1, 1, 0, 1, 0, 0, 1, 1] B15) (evCode P Γ call n f m (cAt [1, 1, 0, 1, 0, 0, 1, 1, 0, 0, 1, 1, 0, 1, 0, 0, 1, 0] B15) s H) := at_seq (by kernel_rfl) rfl rfl s H
@[simp] theorem n15_30 (s : List V) (H : Heap) : evCode P Γ call n f m (cAt [1, 1, 0, 1, 0, 0, 1, 1, 0, 0, 1, 1, 0, 1, 0, 0, 1, 0] B15) s H = condW P Γ call n f m (cAt [1, 1, 0, 1, 0, 0, 1, 1, 0, 0, 1, 1, 0, 1, 0, 0, 1, 0, 0] B15) (cAt [1, 1, 0, 1, 0, 0, 1, 1, 0, 0, 1, 1, 0, 1, 0, 0, 1, 0, 1] B15) s H (evOperand Γ s (.tmp 27)) := at_cond (by kernel_rfl) (by kernel_rfl) rfl rfl s H
@[simp] theorem n15_31 (s : List V) (H : Heap) : evCode P Γ call n f m (cAt [1, 1, 0, 1, 0, 0, 1, 1, 0, 0, 1, 1, 0, 1, 0, 0, 1, 0, 0] B15) s H = some (.normal, s, H) := at_skip (by kernel_rfl) s H
@[simp] theorem n15_32 (s : List V) (H : Heap) : evCode P Γ call n f m (cAt [1, 1, 0, 1, 0, 0, 1, 1, 0, 0, 1, 1, 0, 1, 0, 0, 1, 0, 1] B15) s H = some (.exit 2, s, H) := at_exit (by kernel_rfl) s H
@[simp] theorem n15_33 (s : List V) (H : Heap) : evCode P Γ call n f m (cAt [1, 1, 0, 1, 0, 0, 1, 1, 0, 0, 1, 1, 0, 1, 0, 0, 1, 1] B15) s H = seqNext P Γ call n f m (cAt [1, 1, 0, 1, 0, 0, 1, 1, 0, 0, 1, 1, 0, 1, 0, 0, 1, 1, 1] B15) (evCode P Γ call n f m (cAt [1, 1, 0, 1, 0, 0, 1, 1, 0, 0, 1, 1, 0, 1, 0, 0, 1, 1, 0] B15) s H) := at_seq (by kernel_rfl) rfl rfl s H
@[simp] theorem n15_34 (s : List V) (H : Heap) : evCode P Γ call n f m (cAt [1, 1, 0, 1, 0, 0, 1, 1, 0, 0, 1, 1, 0, 1, 0, 0, 1, 1, 0] B15) s H = blockNext 3 (evCode P Γ call n f m (cAt [1, 1, 0, 1, 0, 0, 1, 1, 0, 0, 1, 1, 0, 1, 0, 0, 1, 1, 0, 0] B15) s H) := at_block (by kernel_rfl) rfl s H
@[simp] theorem n15_35 (s : List V) (H : Heap) : evCode P Γ call n f m (cAt [1, 1, 0, 1, 0, 0, 1, 1, 0, 0, 1, 1, 0, 1, 0, 0, 1, 1, 0, 0] B15) s H = seqNext P Γ call n f m (cAt [1, 1, 0, 1, 0, 0, 1, 1, 0, 0, 1, 1, 0, 1, 0, 0, 1, 1, 0, 0, 1] B15) (evCode P Γ call n f m (cAt [1, 1, 0, 1, 0, 0, 1, 1, 0, 0, 1, 1, 0, 1, 0, 0, 1, 1, 0, 0, 0] B15) s H) := at_seq (by kernel_rfl) rfl rfl s H
noncomputable def r15_36 : {l : List Oper // opsOf (cAt [1, 1, 0, 1, 0, 0, 1, 1, 0, 0, 1, 1, 0, 1, 0, 0, 1, 1, 0, 0, 0] B15) = l} := by
  apply Subtype.mk
  dsimp only [opsOf, cAt, kids, B15, bodyOf, Try.f15, List.getD, List.getElem?_cons_zero, List.getElem?_cons_succ, Option.getD_some]
@[simp] theorem n15_36 (s : List V) (H : Heap) : evCode P Γ call n f m (cAt [1, 1, 0, 1, 0, 0, 1, 1, 0, 0, 1, 1, 0, 1, 0, 0, 1, 1, 0, 0, 0] B15) s H = regNext (evOpsGo P Γ call r15_36.1 r15_36.1 s H) := at_region (by kernel_rfl) r15_36.2 s H
attribute [simp] r15_36
@[simp] theorem n15_37 (s : List V) (H : Heap) : evCode P Γ call n f m (cAt [1, 1, 0, 1, 0, 0, 1, 1, 0, 0, 1, 1, 0, 1, 0, 0, 1, 1, 0, 0, 1] B15) s H = seqNext P Γ call n f m (cAt [1, 1, 0, 1, 0, 0, 1, 1, 0, 0, 1, 1, 0, 1, 0, 0, 1, 1, 0, 0, 1, 1] B15) (evCode P Γ call n f m (cAt [1, 1, 0, 1, 0, 0, 1, 1, 0, 0, 1, 1, 0, 1, 0, 0, 1, 1, 0, 0, 1, 0] B15) s H) := at_seq (by kernel_rfl) rfl rfl s H
noncomputable def r15_38 : {l : List Oper // opsOf (cAt [1, 1, 0, 1, 0, 0, 1, 1, 0, 0, 1, 1, 0, 1, 0, 0, 1, 1, 0, 0, 1, 0] B15) = l} := by
  apply Subtype.mk
  dsimp only [opsOf, cAt, kids, B15, bodyOf, Try.f15, List.getD, List.getElem?_cons_zero, List.getElem?_cons_succ, Option.getD_some]
@[simp] theorem n15_38 (s : List V) (H : Heap) : evCode P Γ call n f m (cAt [1, 1, 0, 1, 0, 0, 1, 1, 0, 0, 1, 1, 0, 1, 0, 0, 1, 1, 0, 0, 1, 0] B15) s H = regNext (evOpsGo P Γ call r15_38.1 r15_38.1 s H) := at_region (by kernel_rfl) r15_38.2 s H
attribute [simp] r15_38
@[simp] theorem n15_39 (s : List V) (H : Heap) : evCode P Γ call n f m (cAt [1, 1, 0, 1, 0, 0, 1, 1, 0, 0, 1, 1, 0, 1, 0, 0, 1, 1, 0, 0, 1, 1] B15) s H = condW P Γ call n f m (cAt [1, 1, 0, 1, 0, 0, 1, 1, 0, 0, 1, 1, 0, 1, 0, 0, 1, 1, 0, 0, 1, 1, 0] B15) (cAt [1, 1, 0, 1, 0, 0, 1, 1, 0, 0, 1, 1, 0, 1, 0, 0, 1, 1, 0, 0, 1, 1, 1] B15) s H (evOperand Γ s (.tmp 50)) := at_cond (by kernel_rfl) (by kernel_rfl) rfl rfl s H
noncomputable def r15_40 : {l : List Oper // opsOf (cAt [1, 1, 0, 1, 0, 0, 1, 1, 0, 0, 1, 1, 0, 1, 0, 0, 1, 1, 0, 0, 1, 1, 0] B15) = l} := by
  apply Subtype.mk
  dsimp only [opsOf, cAt, kids, B15, bodyOf, Try.f15, List.getD, List.getElem?_cons_zero, List.getElem?_cons_succ, Option.getD_some]
@[simp] theorem n15_40 (s : List V) (H : Heap) : evCode P Γ call n f m (cAt [1, 1, 0, 1, 0, 0, 1, 1, 0, 0, 1, 1, 0, 1, 0, 0, 1, 1, 0, 0, 1, 1, 0] B15) s H = regNext (evOpsGo P Γ call r15_40.1 r15_40.1 s H) := at_region (by kernel_rfl) r15_40.2 s H
attribute [simp] r15_40
@[simp] theorem n15_41 (s : List V) (H : Heap) : evCode P Γ call n f m (cAt [1, 1, 0, 1, 0, 0, 1, 1, 0, 0, 1, 1, 0, 1, 0, 0, 1, 1, 0, 0, 1, 1, 1] B15) s H = some (.normal, s, H) := at_skip (by kernel_rfl) s H
noncomputable def r15_42 : {l : List Oper // opsOf (cAt [1, 1, 0, 1, 0, 0, 1, 1, 0, 0, 1, 1, 0, 1, 0, 0, 1, 1, 1] B15) = l} := by
  apply Subtype.mk
  dsimp only [opsOf, cAt, kids, B15, bodyOf, Try.f15, List.getD, List.getElem?_cons_zero, List.getElem?_cons_succ, Option.getD_some]
@[simp] theorem n15_42 (s : List V) (H : Heap) : evCode P Γ call n f m (cAt [1, 1, 0, 1, 0, 0, 1, 1, 0, 0, 1, 1, 0, 1, 0, 0, 1, 1, 1] B15) s H = regNext (evOpsGo P Γ call r15_42.1 r15_42.1 s H) := at_region (by kernel_rfl) r15_42.2 s H
attribute [simp] r15_42
noncomputable def r15_43 : {l : List Oper // opsOf (cAt [1, 1, 0, 1, 0, 0, 1, 1, 0, 0, 1, 1, 1] B15) = l} := by
  apply Subtype.mk
  dsimp only [opsOf, cAt, kids, B15, bodyOf, Try.f15, List.getD, List.getElem?_cons_zero, List.getElem?_cons_succ, Option.getD_some]
@[simp] theorem n15_43 (s : List V) (H : Heap) : evCode P Γ call n f m (cAt [1, 1, 0, 1, 0, 0, 1, 1, 0, 0, 1, 1, 1] B15) s H = regNext (evOpsGo P Γ call r15_43.1 r15_43.1 s H) := at_region (by kernel_rfl) r15_43.2 s H
attribute [simp] r15_43
noncomputable def r15_44 : {l : List Oper // opsOf (cAt [1, 1, 0, 1, 0, 0, 1, 1, 1] B15) = l} := by
  apply Subtype.mk
  dsimp only [opsOf, cAt, kids, B15, bodyOf, Try.f15, List.getD, List.getElem?_cons_zero, List.getElem?_cons_succ, Option.getD_some]
@[simp] theorem n15_44 (s : List V) (H : Heap) : evCode P Γ call n f m (cAt [1, 1, 0, 1, 0, 0, 1, 1, 1] B15) s H = regNext (evOpsGo P Γ call r15_44.1 r15_44.1 s H) := at_region (by kernel_rfl) r15_44.2 s H
attribute [simp] r15_44
@[simp] theorem n15_45 (s : List V) (H : Heap) : evCode P Γ call n f m (cAt [1, 1, 1] B15) s H = seqNext P Γ call n f m (cAt [1, 1, 1, 1] B15) (evCode P Γ call n f m (cAt [1, 1, 1, 0] B15) s H) := at_seq (by kernel_rfl) rfl rfl s H
noncomputable def r15_46 : {l : List Oper // opsOf (cAt [1, 1, 1, 0] B15) = l} := by
  apply Subtype.mk
  dsimp only [opsOf, cAt, kids, B15, bodyOf, Try.f15, List.getD, List.getElem?_cons_zero, List.getElem?_cons_succ, Option.getD_some]
@[simp] theorem n15_46 (s : List V) (H : Heap) : evCode P Γ call n f m (cAt [1, 1, 1, 0] B15) s H = regNext (evOpsGo P Γ call r15_46.1 r15_46.1 s H) := at_region (by kernel_rfl) r15_46.2 s H
attribute [simp] r15_46
@[simp] theorem n15_47 (s : List V) (H : Heap) : evCode P Γ call n f m (cAt [1, 1, 1, 1] B15) s H = some (.ret, s, H) := at_ret (by kernel_rfl) s H
theorem b15 {k : Nat} (ho : ∀ args H, Γ.orc 15 args H = none) (args : List V) (H : Heap) (ha : args.length ≤ 63) : evF Try.prog Γ (k + 1) 15 args H = bodyEnd Try.prog [.cell 4 27] H.length (evCode Try.prog Γ (evF Try.prog Γ k) k 15 H.length (cAt [] B15) (mkL 63 V.undef (enumV 0 args)) H) := body_at Try.func15 (by decide) rfl ho rfl rfl args H ha
noncomputable def B16 : Code := bodyOf Try.f16
@[simp] theorem n16_1 (s : List V) (H : Heap) : evCode P Γ call n f m (cAt [] B16) s H = seqNext P Γ call n f m (cAt [1] B16) (evCode P Γ call n f m (cAt [0] B16) s H) := at_seq (by kernel_rfl) rfl rfl s H
noncomputable def r16_2 : {l : List Oper // opsOf (cAt [0] B16) = l} := by
  apply Subtype.mk
  dsimp only [opsOf, cAt, kids, B16, bodyOf, Try.f16, List.getD, List.getElem?_cons_zero, List.getElem?_cons_succ, Option.getD_some]
@[simp] theorem n16_2 (s : List V) (H : Heap) : evCode P Γ call n f m (cAt [0] B16) s H = regNext (evOpsGo P Γ call r16_2.1 r16_2.1 s H) := at_region (by kernel_rfl) r16_2.2 s H
attribute [simp] r16_2
@[simp] theorem n16_3 (s : List V) (H : Heap) : evCode P Γ call n f m (cAt [1] B16) s H = seqNext P Γ call n f m (cAt [1, 1] B16) (evCode P Γ call n f m (cAt [1, 0] B16) s H) := at_seq (by kernel_rfl) rfl rfl s H
noncomputable def r16_4 : {l : List Oper // opsOf (cAt [1, 0] B16) = l} := by
  apply Subtype.mk
  dsimp only [opsOf, cAt, kids, B16, bodyOf, Try.f16, List.getD, List.getElem?_cons_zero, List.getElem?_cons_succ, Option.getD_some]
@[simp] theorem n16_4 (s : List V) (H : Heap) : evCode P Γ call n f m (cAt [1, 0] B16) s H = regNext (evOpsGo P Γ call r16_4.1 r16_4.1 s H) := at_region (by kernel_rfl) r16_4.2 s H
attribute [simp] r16_4
@[simp] theorem n16_5 (s : List V) (H : Heap) : evCode P Γ call n f m (cAt [1, 1] B16) s H = seqNext P Γ call n f m (cAt [1, 1, 1] B16) (evCode P Γ call n f m (cAt [1, 1, 0] B16) s H) := at_seq (by kernel_rfl) rfl rfl s H
noncomputable def r16_6 : {l : List Oper // opsOf (cAt [1, 1, 0] B16) = l} := by
  apply Subtype.mk
  dsimp only [opsOf, cAt, kids, B16, bodyOf, Try.f16, List.getD, List.getElem?_cons_zero, List.getElem?_cons_succ, Option.getD_some]
@[simp] theorem n16_6 (s : List V) (H : Heap) : evCode P Γ call n f m (cAt [1, 1, 0] B16) s H = regNext (evOpsGo P Γ call r16_6.1 r16_6.1 s H) := at_region (by kernel_rfl) r16_6.2 s H
attribute [simp] r16_6
@[simp] theorem n16_7 (s : List V) (H : Heap) : evCode P Γ call n f m (cAt [1, 1, 1] B16) s H = some (.ret, s, H) := at_ret (by kernel_rfl) s H
theorem b16 {k : Nat} (ho : ∀ args H, Γ.orc 16 args H = none) (args : List V) (H : Heap) (ha : args.length ≤ 33) : evF Try.prog Γ (k + 1) 16 args H = bodyEnd Try.prog [.tmp 0] H.length (evCode Try.prog Γ (evF Try.prog Γ k) k 16 H.length (cAt [] B16) (mkL 33 V.undef (enumV 0 args)) H) := body_at Try.func16 (by decide) rfl ho rfl rfl args H ha
noncomputable def B17 : Code := bodyOf Try.f17
@[simp] theorem n17_1 (s : List V) (H : Heap) : evCode P Γ call n f m (cAt [] B17) s H = seqNext P Γ call n f m (cAt [1] B17) (evCode P Γ call n f m (cAt [0] B17) s H) := at_seq (by kernel_rfl) rfl rfl s H
noncomputable def r17_2 : {l : List Oper // opsOf (cAt [0] B17) = l} := by
  apply Subtype.mk
  dsimp only [opsOf, cAt, kids, B17, bodyOf, Try.f17, List.getD, List.getElem?_cons_zero, List.getElem?_cons_succ, Option.getD_some]
@[simp] theorem n17_2 (s : List V) (H : Heap) : evCode P Γ call n f m (cAt [0] B17) s H = regNext (evOpsGo P Γ call r17_2.1 r17_2.1 s H) := at_region (by kernel_rfl) r17_2.2 s H
attribute [simp] r17_2
@[simp] theorem n17_3 (s : List V) (H : Heap) : evCode P Γ call n f m (cAt [1] B17) s H = seqNext P Γ call n f m (cAt [1, 1] B17) (evCode P Γ call n f m (cAt [1, 0] B17) s H) := at_seq (by kernel_rfl) rfl rfl s H
noncomputable def r17_4 : {l : List Oper // opsOf (cAt [1, 0] B17) = l} := by
  apply Subtype.mk
  dsimp only [opsOf, cAt, kids, B17, bodyOf, Try.f17, List.getD, List.getElem?_cons_zero, List.getElem?_cons_succ, Option.getD_some]
@[simp] theorem n17_4 (s : List V) (H : Heap) : evCode P Γ call n f m (cAt [1, 0] B17) s H = regNext (evOpsGo P Γ call r17_4.1 r17_4.1 s H) := at_region (by kernel_rfl) r17_4.2 s H
attribute [simp] r17_4
@[simp] theorem n17_5 (s : List V) (H : Heap) : evCode P Γ call n f m (cAt [1, 1] B17) s H = some (.ret, s, H) := at_ret (by kernel_rfl) s H
theorem b17 {k : Nat} (ho : ∀ args H, Γ.orc 17 args H = none) (args : List V) (H : Heap) (ha : args.length ≤ 17) : evF Try.prog Γ (k + 1) 17 args H = bodyEnd Try.prog [.tmp 4] H.length (evCode Try.prog Γ (evF Try.prog Γ k) k 17 H.length (cAt [] B17) (mkL 17 V.undef (enumV 0 args)) H) := body_at Try.func17 (by decide) rfl ho rfl rfl args H ha
noncomputable def B20 : Code := bodyOf Try.f20
@[simp] theorem n20_1 (s : List V) (H : Heap) : evCode P Γ call n f m (cAt [] B20) s H = seqNext P Γ call n f m (cAt [1] B20) (evCode P Γ call n f m (cAt [0] B20) s H) := at_seq (by kernel_rfl) rfl rfl s H
noncomputable def r20_2 : {l : List Oper // opsOf (cAt [0] B20) = l} := by
  apply Subtype.mk
  dsimp only [opsOf, cAt, kids, B20, bodyOf, Try.f20, List.getD, List.getElem?_cons_zero, List.getElem?_cons_succ, Option.getD_some]
@[simp] theorem n20_2 (s : List V) (H : Heap) : evCode P Γ call n f m (cAt [0] B20) s H = regNext (evOpsGo P Γ call r20_2.1 r20_2.1 s H) := at_region (by kernel_rfl) r20_2.2 s H
attribute [simp] r20_2
@[simp] theorem n20_3 (s : List V) (H : Heap) : evCode P Γ call n f m (cAt [1] B20) s H = seqNext P Γ call n f m (cAt [1, 1] B20) (evCode P Γ call n f m (cAt [1, 0] B20) s H) := at_seq (by kernel_rfl) rfl rfl s H
@[simp] theorem n20_4 (s : List V) (H : Heap) : evCode P Γ call n f m (cAt [1, 0] B20) s H = seqNext P Γ call n f m (cAt [1, 0, 1] B20) (evCode P Γ call n f m (cAt [1, 0, 0] B20) s H) := at_seq (by kernel_rfl) rfl rfl s H
noncomputable def r20_5 : {l : List Oper // opsOf (cAt [1, 0, 0] B20) = l} := by
  apply Subtype.mk
  dsimp only [opsOf, cAt, kids, B20, bodyOf, Try.f20, List.getD, List.getElem?_cons_zero, List.getElem?_cons_succ, Option.getD_some]
@[simp] theorem n20_5 (s : List V) (H : Heap) : evCode P Γ call n f m (cAt [1, 0, 0] B20) s H = regNext (evOpsGo P Γ call r20_5.1 r20_5.1 s H) := at_region (by kernel_rfl) r20_5.2 s H
attribute [simp] r20_5
@[simp] theorem n20_6 (s : List V) (H : Heap) : evCode P Γ call n f m (cAt [1, 0, 1] B20) s H = condW P Γ call n f m (cAt [1, 0, 1, 0] B20) (cAt [1, 0, 1, 1] B20) s H (evOperand Γ s (.tmp 13)) := at_cond (by kernel_rfl) (by kernel_rfl) rfl rfl s H
@[simp] theorem n20_7 (s : List V) (H : Heap) : evCode P Γ call n f m (cAt [1, 0, 1, 0] B20) s H = seqNext P Γ call n f m (cAt [1, 0, 1, 0, 1] B20) (evCode P Γ call n f m (cAt [1, 0, 1, 0, 0] B20) s H) := at_seq (by kernel_rfl) rfl rfl s H
noncomputable def r20_8 : {l : List Oper // opsOf (cAt [1, 0, 1, 0, 0] B20) = l} := by
  apply Subtype.mk
  dsimp only [opsOf, cAt, kids, B20, bodyOf, Try.f20, List.getD, List.getElem?_cons_zero, List.getElem?_cons_succ, Option.getD_some]
@[simp] theorem n20_8 (s : List V) (H : Heap) : evCode P Γ call n f m (cAt [1, 0, 1, 0, 0] B20) s H = regNext (evOpsGo P Γ call r20_8.1 r20_8.1 s H) := at_region (by kernel_rfl) r20_8.2 s H
attribute [simp] r20_8
@[simp] theorem n20_9 (s : List V) (H : Heap) : evCode P Γ call n f m (cAt [1, 0, 1, 0, 1] B20) s H = some (.ret, s, H) := at_ret (by kernel_rfl) s H
@[simp] theorem n20_10 (s : List V) (H : Heap) : evCode P Γ call n f m (cAt [1, 0, 1, 1] B20) s H = some (.normal, s, H) := at_skip (by kernel_rfl) s H
@[simp] theorem n20_11 (s : List V) (H : Heap) : evCode P Γ call n f m (cAt [1, 1] B20) s H = seqNext P Γ call n f m (cAt [1, 1, 1] B20) (evCode P Γ call n f m (cAt [1, 1, 0] B20) s H) := at_seq (by kernel_rfl) rfl rfl s H
noncomputable def r20_12 : {l : List Oper // opsOf (cAt [1, 1, 0] B20) = l} := by
  apply Subtype.mk
  dsimp only [opsOf, cAt, kids, B20, bodyOf, Try.f20, List.getD, List.getElem?_cons_zero, List.getElem?_cons_succ, Option.getD_some]
@[simp] theorem n20_12 (s : List V) (H : Heap) : evCode P Γ call n f m (cAt [1, 1, 0] B20) s H = regNext (evOpsGo P Γ call r20_12.1 r20_12.1 s H) := at_region (by kernel_rfl) r20_12.2 s H
attribute [simp] r20_12
@[simp] theorem n20_13 (s : List V) (H : Heap) : evCode P Γ call n f m (cAt [1, 1, 1] B20) s H = seqNext P Γ call n f m (cAt [1, 1, 1, 1] B20) (evCode P Γ call n f m (cAt [1, 1, 1, 0] B20) s H) := at_seq (by kernel_rfl) rfl rfl s H
@[simp] theorem n20_14 (s : List V) (H : Heap) : evCode P Γ call n f m (cAt [1, 1, 1, 0] B20) s H = seqNext P Γ call n f m (cAt [1, 1, 1, 0, 1] B20) (evCode P Γ call n f m (cAt [1, 1, 1, 0, 0] B20) s H) := at_seq (by kernel_rfl) rfl rfl s H
noncomputable def r20_15 : {l : List Oper // opsOf (cAt [1, 1, 1, 0, 0] B20) = l} := by
  apply Subtype.mk
  dsimp only [opsOf, cAt, kids, B20, bodyOf, Try.f20, List.getD, List.getElem?_cons_zero, List.getElem?_cons_succ, Option.getD_some]
@[simp] theorem n20_15 (s : List V) (H : Heap) : evCode P Γ call n f m (cAt [1, 1, 1, 0, 0] B20) s H = regNext (evOpsGo P Γ call r20_15.1 r20_15.1 s H) := at_region (by kernel_rfl) r20_15.2 s H
attribute [simp] r20_15
@[simp] theorem n20_16 (s : List V) (H : Heap) : evCode P Γ call n f m (cAt [1, 1, 1, 0, 1] B20) s H = condW P Γ call n f m (cAt [1, 1, 1, 0, 1, 0] B20) (cAt [1, 1, 1, 0, 1, 1] B20) s H (evOperand Γ s (.tmp 23)) := at_cond (by kernel_rfl) (by kernel_rfl) rfl rfl s H
@[simp] theorem n20_17 (s : List V) (H : Heap) : evCode P Γ call n f m (cAt [1, 1, 1, 0, 1, 0] B20) s H = seqNext P Γ call n f m (cAt [1, 1, 1, 0, 1, 0, 1] B20) (evCode P Γ call n f m (cAt [1, 1, 1, 0, 1, 0, 0] B20) s H) := at_seq (by kernel_rfl) rfl rfl s H
noncomputable def r20_18 : {l : List Oper // opsOf (cAt [1, 1, 1, 0, 1, 0, 0] B20) = l} := by
  apply Subtype.mk
  dsimp only [opsOf, cAt, kids, B20, bodyOf, Try.f20, List.getD, List.getElem?_cons_zero, List.getElem?_cons_succ, Option.getD_some]
@[simp] theorem n20_18 (s : List V) (H : Heap) : evCode P Γ call n f m (cAt [1, 1, 1, 0, 1, 0, 0] B20) s H = regNext (evOpsGo P Γ call r20_18.1 r20_18.1 s H) := at_region (by kernel_rfl) r20_18.2 s H
attribute [simp] r20_18
@[simp] theorem n20_19 (s : List V) (H : Heap) : evCode P Γ call n f m (cAt [1, 1, 1, 0, 1, 0, 1] B20) s H = some (.ret, s, H) := at_ret (by kernel_rfl) s H
@[simp] theorem n20_20 (s : List V) (H : Heap) : evCode P Γ call n f m (cAt [1, 1, 1, 0, 1, 1] B20) s H = some (.normal, s, H) := at_skip (by kernel_rfl) s H
@[simp] theorem n20_21 (s : List V) (H : Heap) : evCode P Γ call n f m (cAt [1, 1, 1, 1] B20) s H = seqNext P Γ call n f m (cAt [1, 1, 1, 1, 1] B20) (evCode P Γ call n f m (cAt [1, 1, 1, 1, 0] B20) s H) := at_seq (by kernel_rfl) rfl rfl s H
@[simp] theorem n20_22 (s : List V) (H : Heap) : evCode P Γ call n f m (cAt [1, 1, 1, 1, 0] B20) s H = seqNext P Γ call n f m (cAt [1, 1, 1, 1, 0, 1] B20) (evCode P Γ call n f m (cAt [1, 1, 1, 1, 0, 0] B20) s H) := at_seq (by kernel_rfl) rfl rfl s H
noncomputable def r20_23 : {l : List Oper // opsOf (cAt [1, 1, 1, 1, 0, 0] B20) = l} := by
  apply Subtype.mk
  dsimp only [opsOf, cAt, kids, B20, bodyOf, Try.f20, List.getD, List.getElem?_cons_zero, List.getElem?_cons_succ, Option.getD_some]
@[simp] theorem n20_23 (s : List V) (H : Heap) : evCode P Γ call n f m (cAt [1, 1, 1, 1, 0, 0] B20) s H = regNext (evOpsGo P Γ call r20_23.1 r20_23.1 s H) := at_region (by kernel_rfl) r20_23.2 s H
attribute [simp] r20_23
@[simp] theorem n20_24 (s : List V) (H : Heap) : evCode P Γ call n f m (cAt [1, 1, 1, 1, 0, 1] B20) s H = blockNext 0 (evCode P Γ call n f m (cAt [1, 1, 1, 1, 0, 1, 0] B20) s H) := at_block (by kernel_rfl) rfl s H
@[simp] theorem n20_25 (s : List V) (H : Heap) : evCode P Γ call n f m (cAt [1, 1, 1, 1, 0, 1, 0] B20) s H = evLoopC P Γ call n f m (cAt [1, 1, 1, 1, 0, 1, 0, 0] B20) n s H := at_loop (by kernel_rfl) rfl s H
noncomputable abbrev L20_7 : Code := cAt [1, 1, 1, 1, 0, 1, 0, 0] B20
@[simp] theorem n20_25f : firstRegion (cAt [1, 1, 1, 1, 0, 1, 0, 0] B20) = 7 := by kernel_rfl
@[simp] theorem n20_26 (s : List V) (H : Heap) : evCode P Γ call n f m (cAt [1, 1, 1, 1, 0, 1, 0, 0] B20) s H = seqNext P Γ call n f m (cAt [1, 1, 1, 1, 0, 1, 0, 0, 1] B20) (evCode P Γ call n f m (cAt [1, 1, 1, 1, 0, 1, 0, 0, 0] B20) s H) := at_seq (by kernel_rfl) rfl rfl s H
noncomputable def r20_27 : {l : List Oper // opsOf (cAt [1, 1, 1, 1, 0, 1, 0, 0, 0] B20) = l} := by
  apply Subtype.mk
  dsimp only [opsOf, cAt, kids, B20, bodyOf, Try.f20, List.getD, List.getElem?_cons_zero, List.getElem?_cons_succ, Option.getD_some]
@[simp] theorem n20_27 (s : List V) (H : Heap) : evCode P Γ call n f m (cAt [1, 1, 1, 1, 0, 1, 0, 0, 0] B20) s H = regNext (evOpsGo P Γ call r20_27.1 r20_27.1 s H) := at_region (by kernel_rfl) r20_27.2 s H
attribute [simp] r20_27
@[simp] theorem n20_28 (s : List V) (H : Heap) : evCode P Γ call n f m (cAt [1, 1, 1, 1, 0, 1, 0, 0, 1] B20) s H = seqNext P Γ call n f m (cAt [1, 1, 1, 1, 0, 1, 0, 0, 1, 1] B20) (evCode P Γ call n f m (cAt [1, 1, 1, 1, 0, 1, 0, 0, 1, 0] B20) s H) := at_seq (by kernel_rfl) rfl rfl s H
@[simp] theorem n20_29 (s : List V) (H : Heap) : evCode P Γ call n f m (cAt [1, 1, 1, 1, 0, 1, 0, 0, 1, 0] B20) s H = condW P Γ call n f m (cAt [1, 1, 1, 1, 0, 1, 0, 0, 1, 0, 0] B20) (cAt [1, 1, 1, 1, 0, 1, 0, 0, 1, 0, 1] B20) s H (evOperand Γ s (.tmp 28)) := at_cond (by kernel_rfl) (by kernel_rfl) rfl rfl s H
@[simp] theorem n20_30 (s : List V) (H : Heap) : evCode P Γ call n f m (cAt [1, 1, 1, 1, 0, 1, 0, 0, 1, 0, 0] B20) s H = some (.normal, s, H) := at_skip (by kernel_rfl) s H
@[simp] theorem n20_31 (s : List V) (H : Heap) : evCode P Γ call n f m (cAt [1, 1, 1, 1, 0, 1, 0, 0, 1, 0, 1] B20) s H = some (.exit 0, s, H) := at_exit (by kernel_rfl) s H
@[simp] theorem n20_32 (s : List V) (H : Heap) : evCode P Γ call n f m (cAt [1, 1, 1, 1, 0, 1, 0, 0, 1, 1] B20) s H = seqNext P Γ call n f m (cAt [1, 1, 1, 1, 0, 1, 0, 0, 1, 1, 1] B20) (evCode P Γ call n f m (cAt [1, 1, 1, 1, 0, 1, 0, 0, 1, 1, 0] B20) s H) := at_seq (by kernel_rfl) rfl rfl s H
@[simp] theorem n20_33 (s : List V) (H : Heap) : evCode P Γ call n f m (cAt [1, 1, 1, 1, 0, 1, 0, 0, 1, 1, 0] B20) s H = blockNext 1 (evCode P Γ call n f m (cAt [1, 1, 1, 1, 0, 1, 0, 0, 1, 1, 0, 0] B20) s H) := at_block (by kernel_rfl) rfl s H
@[simp] theorem n20_34 (s : List V) (H : Heap) : evCode P Γ call n f m (cAt [1, 1, 1, 1, 0, 1, 0, 0, 1, 1, 0, 0] B20) s H = seqNext P Γ call n f m (cAt [1, 1, 1, 1, 0, 1, 0, 0, 1, 1, 0, 0, 1] B20) (evCode P Γ call n f m (cAt [1, 1, 1, 1, 0, 1, 0, 0, 1, 1, 0, 0, 0] B20) s H) := at_seq (by kernel_rfl) rfl rfl s H
noncomputable def r20_35 : {l : List Oper // opsOf (cAt [1, 1, 1, 1, 0, 1, 0, 0, 1, 1, 0, 0, 0] B20) = l} := by
  apply Subtype.mk
  dsimp only [opsOf, cAt, kids, B20, bodyOf, Try.f20, List.getD, List.getElem?_cons_zero, List.getElem?_cons_succ, Option.getD_some]
@[simp] theorem n20_35 (s : List V) (H : Heap) : evCode P Γ call n f m (cAt [1, 1, 1, 1, 0, 1, 0, 0, 1, 1, 0, 0, 0] B20) s H = regNext (evOpsGo P Γ call r20_35.1 r20_35.1 s H) := at_region (by kernel_rfl) r20_35.2 s H
attribute [simp] r20_35
@[simp] theorem n20_36 (s : List V) (H : Heap) : evCode P Γ call n f m (cAt [1, 1, 1, 1, 0, 1, 0, 0, 1, 1, 0, 0, 1] B20) s H = blockNext 2 (evCode P Γ call n f m (cAt [1, 1, 1, 1, 0, 1, 0, 0, 1, 1, 0, 0, 1, 0] B20) s H) := at_block (by kernel_rfl) rfl s H
@[simp] theorem n20_37 (s : List V) (H : Heap) : evCode P Γ call n f m (cAt [1, 1, 1, 1, 0, 1, 0, 0, 1, 1, 0, 0, 1, 0] B20) s H = seqNext P Γ call n f m (cAt [1, 1, 1, 1, 0, 1, 0, 0, 1, 1, 0, 0, 1, 0, 1] B20) (evCode P Γ call n f m (cAt [1, 1, 1, 1, 0, 1, 0, 0, 1, 1, 0, 0, 1, 0, 0] B20) s H) := at_seq (by kernel_rfl) rfl rfl s H
@[simp] theorem n20_38 (s : List V) (H : Heap) : evCode P Γ call n f m (cAt [1, 1, 1, 1, 0, 1, 0, 0, 1, 1, 0, 0, 1, 0, 0] B20) s H = seqNext P Γ call n f m (cAt [1, 1, 1, 1, 0, 1, 0, 0, 1, 1, 0, 0, 1, 0, 0, 1] B20) (evCode P Γ call n f m (cAt [1, 1, 1, 1, 0, 1, 0, 0, 1, 1, 0, 0, 1, 0, 0, 0] B20) s H) := at_seq (by kernel_rfl) rfl rfl s H
noncomputable def r20_39 : {l : List Oper // opsOf (cAt [1, 1, 1, 1, 0, 1, 0, 0, 1, 1, 0, 0, 1, 0, 0, 0] B20) = l} := by
  apply Subtype.mk
  dsimp only [opsOf, cAt, kids, B20, bodyOf, Try.f20, List.getD, List.getElem?_cons_zero, List.getElem?_cons_succ, Option.getD_some]
@[simp] theorem n20_39 (s : List V) (H : Heap) : evCode P Γ call n f m (cAt [1, 1, 1, 1, 0, 1, 0, 0, 1, 1, 0, 0, 1, 0, 0, 0] B20) s H = regNext (evOpsGo P Γ call r20_39.1 r20_39.1 s H) := at_region (by kernel_rfl) r20_39.2 s H
attribute [simp] r20_39
@[simp] theorem n20_40 (s : List V) (H : Heap) : evCode P Γ call n f m (cAt [1, 1, 1, 1, 0, 1, 0, 0, 1, 1, 0, 0, 1, 0, 0, 1] B20) s H = condW P Γ call n f m (cAt [1, 1, 1, 1, 0, 1, 0, 0, 1, 1, 0, 0, 1, 0, 0, 1, 0] B20) (cAt [1, 1, 1, 1, 0, 1, 0, 0, 1, 1, 0, 0, 1, 0, 0, 1, 1] B20) s H (evOperand Γ s (.tmp 32)) := at_cond (by kernel_rfl) (by kernel_rfl) rfl rfl s H
@[simp] theorem n20_41 (s : List V) (H : Heap) : evCode P Γ call n f m (cAt [1, 1, 1, 1, 0, 1, 0, 0, 1, 1, 0, 0, 1, 0, 0, 1, 0] B20) s H = some (.normal, s, H) := at_skip (by kernel_rfl) s H
@[simp] theorem n20_42 (s : List V) (H : Heap) : evCode P Γ call n f m (cAt [1, 1, 1, 1, 0, 1, 0, 0, 1, 1, 0, 0, 1, 0, 0, 1, 1] B20) s H = seqNext P Γ call n f m (cAt [1, 1, 1, 1, 0, 1, 0, 0, 1, 1, 0, 0, 1, 0, 0, 1, 1, 1] B20) (evCode P Γ call n f m (cAt [1, 1, 1, 1, 0, 1, 0, 0, 1, 1, 0, 0, 1, 0, 0, 1, 1, 0] B20) s H) := at_seq (by kernel_rfl) rfl rfl s H
noncomputable def r20_43 : {l : List Oper // opsOf (cAt [1, 1, 1, 1, 0, 1, 0, 0, 1, 1, 0, 0, 1, 0, 0, 1, 1, 0] B20) = l} := by
  apply Subtype.mk
  dsimp only [opsOf, cAt, kids, B20, bodyOf, Try.f20, List.getD, List.getElem?_cons_zero, List.getElem?_cons_succ, Option.getD_some]
@[simp] theorem n20_43 (s : List V) (H : Heap) : evCode P Γ call n f m (cAt [1, 1, 1, 1, 0, 1, 0, 0, 1, 1, 0, 0, 1, 0, 0, 1, 1, 0] B20) s H = regNext (evOpsGo P Γ call r20_43.1 r20_43.1 s H) := at_region (by kernel_rfl) r20_43.2 s H
attribute [simp] r20_43
@[simp] theorem n20_44 (s : List V) (H : Heap) : evCode P Γ call n f m (cAt [1, 1, 1, 1, 0, 1, 0, 0, 1, 1, 0, 0, 1, 0, 0, 1, 1, 1] B20) s H = condW P Γ call n f m (cAt [1, 1, 1, 1, 0, 1, 0, 0, 1, 1, 0, 0, 1, 0, 0, 1, 1, 1, 0] B20) (cAt [1, 1, 1, 1, 0, 1, 0, 0, 1, 1, 0, 0, 1, 0, 0, 1, 1, 1, 1] B20) s H (evOperand Γ s (.tmp 32)) := at_cond (by kernel_rfl) (by kernel_rfl) rfl rfl s H
@[simp] theorem n20_45 (s : List V) (H : Heap) : evCode P Γ call n f m (cAt [1, 1, 1, 1, 0, 1, 0, 0, 1, 1, 0, 0, 1, 0, 0, 1, 1, 1, 0] B20) s H = some (.normal, s, H) := at_skip (by kernel_rfl) s H
noncomputable def r20_46 : {l : List Oper // opsOf (cAt [1, 1, 1, 1, 0, 1, 0, 0, 1, 1, 0, 0, 1, 0, 0, 1, 1, 1, 1] B20) = l} := by
  apply Subtype.mk
  dsimp only [opsOf, cAt, kids, B20, bodyOf, Try.f20, List.getD, List.getElem?_cons_zero, List.getElem?_cons_succ, Option.getD_some]
@[simp] theorem n20_46 (s : List V) (H : Heap) : evCode P Γ call n f m (cAt [1, 1, 1, 1, 0, 1, 0, 0, 1, 1, 0, 0, 1, 0, 0, 1, 1, 1, 1] B20) s H = regNext (drawR P Γ call r20_46.1 [([], []), ([], []), ([], []), ([], []), ([7, 8, 9, 10, 11], [56, 57, 58, 59, 60]), ([7, 8, 9, 10, 11], [56, 57, 58, 59, 60]), ([7, 8, 9, 10, 11], [56, 57, 58, 59, 60]), ([4, 5, 6, 8], [53, 54, 55, 57]), ([4, 5, 6, 7], [53, 54, 55, 56]), ([4, 5, 6], [53, 54, 55]), ([4, 5, 6], [53, 54, 55]), ([4, 5, 6], [53, 54, 55]), ([], []), ([], []), ([], [])] s H) := at_drawT (by kernel_rfl) r20_46.2 (by kernel_rfl) s H
attribute [simp] r20_46
@[simp] theorem n20_47 (s : List V) (H : Heap) : evCode P Γ call n f m (cAt [1, 1, 1, 1, 0, 1, 0, 0, 1, 1, 0, 0, 1, 0, 1] B20) s H = condW P Γ call n f m (cAt [1, 1, 1, 1, 0, 1, 0, 0, 1, 1, 0, 0, 1, 0, 1, 0] B20) (cAt [1, 1, 1, 1, 0, 1, 0, 0, 1, 1, 0, 0, 1, 0, 1, 1] B20) s H (evOperand Γ s (.tmp 32)) := at_cond (by kernel_rfl) (by kernel_rfl) rfl rfl s H
@[simp] theorem n20_48 (s : List V) (H : Heap) : evCode P Γ call n f m (cAt [1, 1, 1, 1, 0, 1, 0, 0, 1, 1, 0, 0, 1, 0, 1, 0] B20) s H = seqNext P Γ call n f m (cAt [1, 1, 1, 1, 0, 1, 0, 0, 1, 1, 0, 0, 1, 0, 1, 0, 1] B20) (evCode P Γ call n f m (cAt [1, 1, 1, 1, 0, 1, 0, 0, 1, 1, 0, 0, 1, 0, 1, 0, 0] B20) s H) := at_seq (by kernel_rfl) rfl rfl s H
noncomputable def r20_49 : {l : List Oper // opsOf (cAt [1, 1, 1, 1, 0, 1, 0, 0, 1, 1, 0, 0, 1, 0, 1, 0, 0] B20) = l} := by
  apply Subtype.mk
  dsimp only [opsOf, cAt, kids, B20, bodyOf, Try.f20, List.getD, List.getElem?_cons_zero, List.getElem?_cons_succ, Option.getD_some]
@[simp] theorem n20_49 (s : List V) (H : Heap) : evCode P Γ call n f m (cAt [1, 1, 1, 1, 0, 1, 0, 0, 1, 1, 0, 0, 1, 0, 1, 0, 0] B20) s H = regNext (evOpsGo P Γ call r20_49.1 r20_49.1 s H) := at_region (by kernel_rfl) r20_49.2 s H
attribute [simp] r20_49
@[simp] theorem n20_50 (s : List V) (H : Heap) : evCode P Γ call n f m (cAt [1, 1, 1, 1, 0, 1, 0, 0, 1, 1, 0, 0, 1, 0, 1, 0, 1] B20) s H = some (.ret, s, H) := at_ret (by kernel_rfl) s H
@[simp] theorem n20_51 (s : List V) (H : Heap) : evCode P Γ call n f m (cAt [1, 1, 1, 1, 0, 1, 0, 0, 1, 1, 0, 0, 1, 0, 1, 1] B20) s H = some (.normal, s, H) := at_skip (by kernel_rfl) s H
noncomputable def r20_52 : {l : List Oper // opsOf (cAt [1, 1, 1, 1, 0, 1, 0, 0, 1, 1, 1] B20) = l} := by
  apply Subtype.mk
  dsimp only [opsOf, cAt, kids, B20, bodyOf, Try.f20, List.getD, List.getElem?_cons_zero, List.getElem?_cons_succ, Option.getD_some]
@[simp] theorem n20_52 (s : List V) (H : Heap) : evCode P Γ call n f m (cAt [1, 1, 1, 1, 0, 1, 0, 0, 1, 1, 1] B20) s H = regNext (evOpsGo P Γ call r20_52.1 r20_52.1 s H) := at_region (by kernel_rfl) r20_52.2 s H
attribute [simp] r20_52
@[simp] theorem n20_53 (s : List V) (H : Heap) : evCode P Γ call n f m (cAt [1, 1, 1, 1, 1] B20) s H = seqNext P Γ call n f m (cAt [1, 1, 1, 1, 1, 1] B20) (evCode P Γ call n f m (cAt [1, 1, 1, 1, 1, 0] B20) s H) := at_seq (by kernel_rfl) rfl rfl s H
noncomputable def r20_54 : {l : List Oper // opsOf (cAt [1, 1, 1, 1, 1, 0] B20) = l} := by
  apply Subtype.mk
  dsimp only [opsOf, cAt, kids, B20, bodyOf, Try.f20, List.getD, List.getElem?_cons_zero, List.getElem?_cons_succ, Option.getD_some]
@[simp] theorem n20_54 (s : List V) (H : Heap) : evCode P Γ call n f m (cAt [1, 1, 1, 1, 1, 0] B20) s H = regNext (evOpsGo P Γ call r20_54.1 r20_54.1 s H) := at_region (by kernel_rfl) r20_54.2 s H
attribute [simp] r20_54
@[simp] theorem n20_55 (s : List V) (H : Heap) : evCode P Γ call n f m (cAt [1, 1, 1, 1, 1, 1] B20) s H = some (.ret, s, H) := at_ret (by kernel_rfl) s H
theorem b20 {k : Nat} (ho : ∀ args H, Γ.orc 20 args H = none) (args : List V) (H : Heap) (ha : args.length ≤ 64) : evF Try.prog Γ (k + 1) 20 args H = bodyEnd Try.prog [.tmp 2] H.length (evCode Try.prog Γ (evF Try.prog Γ k) k 20 H.length (cAt [] B20) (mkL 64 V.undef (enumV 0 args)) H) := body_at Try.func20 (by decide) rfl ho rfl rfl args H ha
noncomputable def B21 : Code := bodyOf Try.f21
@[simp] theorem n21_1 (s : List V) (H : Heap) : evCode P Γ call n f m (cAt [] B21) s H = seqNext P Γ call n f m (cAt [1] B21) (evCode P Γ call n f m (cAt [0] B21) s H) := at_seq (by kernel_rfl) rfl rfl s H
noncomputable def r21_2 : {l : List Oper // opsOf (cAt [0] B21) = l} := by
  apply Subtype.mk
  dsimp only [opsOf, cAt, kids, B21, bodyOf, Try.f21, List.getD, List.getElem?_cons_zero, List.getElem?_cons_succ, Option.getD_some]
@[simp] theorem n21_2 (s : List V) (H : Heap) : evCode P Γ call n f m (cAt [0] B21) s H = regNext (evOpsGo P Γ call r21_2.1 r21_2.1 s H) := at_region (by kernel_rfl) r21_2.2 s H
attribute [simp] r21_2
@[simp] theorem n21_3 (s : List V) (H : Heap) : evCode P Γ call n f m (cAt [1] B21) s H = seqNext P Γ call n f m (cAt [1, 1] B21) (evCode P Γ call n f m (cAt [1, 0] B21) s H) := at_seq (by kernel_rfl) rfl rfl s H
noncomputable def r21_4 : {l : List Oper // opsOf (cAt [1, 0] B21) = l} := by
  apply Subtype.mk
  dsimp only [opsOf, cAt, kids, B21, bodyOf, Try.f21, List.getD, List.getElem?_cons_zero, List.getElem?_cons_succ, Option.getD_some]
@[simp] theorem n21_4 (s : List V) (H : Heap) : evCode P Γ call n f m (cAt [1, 0] B21) s H = regNext (evOpsGo P Γ call r21_4.1 r21_4.1 s H) := at_region (by kernel_rfl) r21_4.2 s H
attribute [simp] r21_4
@[simp] theorem n21_5 (s : List V) (H : Heap) : evCode P Γ call n f m (cAt [1, 1] B21) s H = seqNext P Γ call n f m (cAt [1, 1, 1] B21) (evCode P Γ call n f m (cAt [1, 1, 0] B21) s H) := at_seq (by kernel_rfl) rfl rfl s H
noncomputable def r21_6 : {l : List Oper // opsOf (cAt [1, 1, 0] B21) = l} := by
  apply Subtype.mk
  dsimp only [opsOf, cAt, kids, B21, bodyOf, Try.f21, List.getD, List.getElem?_cons_zero, List.getElem?_cons_succ, Option.getD_some]
@[simp] theorem n21_6 (s : List V) (H : Heap) : evCode P Γ call n f m (cAt [1, 1, 0] B21) s H = regNext (evOpsGo P Γ call r21_6.1 r21_6.1 s H) := at_region (by kernel_rfl) r21_6.2 s H
attribute [simp] r21_6
@[simp] theorem n21_7 (s : List V) (H : Heap) : evCode P Γ call n f m (cAt [1, 1, 1] B21) s H = some (.ret, s, H) := at_ret (by kernel_rfl) s H
theorem b21 {k : Nat} (ho : ∀ args H, Γ.orc 21 args H = none) (args : List V) (H : Heap) (ha : args.length ≤ 21) : evF Try.prog Γ (k + 1) 21 args H = bodyEnd Try.prog [.tmp 4, .tmp 5] H.length (evCode Try.prog Γ (evF Try.prog Γ k) k 21 H.length (cAt [] B21) (mkL 21 V.undef (enumV 0 args)) H) := body_at Try.func21 (by decide) rfl ho rfl rfl args H ha
noncomputable def B23 : Code := bodyOf Try.f23
@[simp] theorem n23_1 (s : List V) (H : Heap) : evCode P Γ call n f m (cAt [] B23) s H = seqNext P Γ call n f m (cAt [1] B23) (evCode P Γ call n f m (cAt [0] B23) s H) := at_seq (by kernel_rfl) rfl rfl s H
noncomputable def r23_2 : {l : List Oper // opsOf (cAt [0] B23) = l} := by
  apply Subtype.mk
  dsimp only [opsOf, cAt, kids, B23, bodyOf, Try.f23, List.getD, List.getElem?_cons_zero, List.getElem?_cons_succ, Option.getD_some]
@[simp] theorem n23_2 (s : List V) (H : Heap) : evCode P Γ call n f m (cAt [0] B23) s H = regNext (evOpsGo P Γ call r23_2.1 r23_2.1 s H) := at_region (by kernel_rfl) r23_2.2 s H
attribute [simp] r23_2
@[simp] theorem n23_3 (s : List V) (H : Heap) : evCode P Γ call n f m (cAt [1] B23) s H = seqNext P Γ call n f m (cAt [1, 1] B23) (evCode P Γ call n f m (cAt [1, 0] B23) s H) := at_seq (by kernel_rfl) rfl rfl s H
@[simp] theorem n23_4 (s : List V) (H : Heap) : evCode P Γ call n f m (cAt [1, 0] B23) s H = seqNext P Γ call n f m (cAt [1, 0, 1] B23) (evCode P Γ call n f m (cAt [1, 0, 0] B23) s H) := at_seq (by kernel_rfl) rfl rfl s H
noncomputable def r23_5 : {l : List Oper // opsOf (cAt [1, 0, 0] B23) = l} := by
  apply Subtype.mk
  dsimp only [opsOf, cAt, kids, B23, bodyOf, Try.f23, List.getD, List.getElem?_cons_zero, List.getElem?_cons_succ, Option.getD_some]
@[simp] theorem n23_5 (s : List V) (H : Heap) : evCode P Γ call n f m (cAt [1, 0, 0] B23) s H = regNext (evOpsGo P Γ call r23_5.1 r23_5.1 s H) := at_region (by kernel_rfl) r23_5.2 s H
attribute [simp] r23_5
@[simp] theorem n23_6 (s : List V) (H : Heap) : evCode P Γ call n f m (cAt [1, 0, 1] B23) s H = condW P Γ call n f m (cAt [1, 0, 1, 0] B23) (cAt [1, 0, 1, 1] B23) s H (evOperand Γ s (.tmp 6)) := at_cond (by kernel_rfl) (by kernel_rfl) rfl rfl s H
@[simp] theorem n23_7 (s : List V) (H : Heap) : evCode P Γ call n f m (cAt [1, 0, 1, 0] B23) s H = seqNext P Γ call n f m (cAt [1, 0, 1, 0, 1] B23) (evCode P Γ call n f m (cAt [1, 0, 1, 0, 0] B23) s H) := at_seq (by kernel_rfl) rfl rfl s H
@[simp] theorem n23_8 (s : List V) (H : Heap) : evCode P Γ call n f m (cAt [1, 0, 1, 0, 0] B23) s H = seqNext P Γ call n f m (cAt [1, 0, 1, 0, 0, 1] B23) (evCode P Γ call n f m (cAt [1, 0, 1, 0, 0, 0] B23) s H) := at_seq (by kernel_rfl) rfl rfl s H
noncomputable def r23_9 : {l : List Oper // opsOf (cAt [1, 0, 1, 0, 0, 0] B23) = l} := by
  apply Subtype.mk
  dsimp only [opsOf, cAt, kids, B23, bodyOf, Try.f23, List.getD, List.getElem?_cons_zero, List.getElem?_cons_succ, Option.getD_some]
@[simp] theorem n23_9 (s : List V) (H : Heap) : evCode P Γ call n f m (cAt [1, 0, 1, 0, 0, 0] B23) s H = regNext (evOpsGo P Γ call r23_9.1 r23_9.1 s H) := at_region (by kernel_rfl) r23_9.2 s H
attribute [simp] r23_9
@[simp] theorem n23_10 (s : List V) (H : Heap) : evCode P Γ call n f m (cAt [1, 0, 1, 0, 0, 1] B23) s H = condW P Γ call n f m (cAt [1, 0, 1, 0, 0, 1, 0] B23) (cAt [1, 0, 1, 0, 0, 1, 1] B23) s H (evOperand Γ s (.tmp 10)) := at_cond (by kernel_rfl) (by kernel_rfl) rfl rfl s H
@[simp] theorem n23_11 (s : List V) (H : Heap) : evCode P Γ call n f m (cAt [1, 0, 1, 0, 0, 1, 0] B23) s H = seqNext P Γ call n f m (cAt [1, 0, 1, 0, 0, 1, 0, 1] B23) (evCode P Γ call n f m (cAt [1, 0, 1, 0, 0, 1, 0, 0] B23) s H) := at_seq (by kernel_rfl) rfl rfl s H
noncomputable def r23_12 : {l : List Oper // opsOf (cAt [1, 0, 1, 0, 0, 1, 0, 0] B23) = l} := by
  apply Subtype.mk
  dsimp only [opsOf, cAt, kids, B23, bodyOf, Try.f23, List.getD, List.getElem?_cons_zero, List.getElem?_cons_succ, Option.getD_some]
@[simp] theorem n23_12 (s : List V) (H : Heap) : evCode P Γ call n f m (cAt [1, 0, 1, 0, 0, 1, 0, 0] B23) s H = regNext (evOpsGo P Γ call r23_12.1 r23_12.1 s H) := at_region (by kernel_rfl) r23_12.2 s H
attribute [simp] r23_12
@[simp] theorem n23_13 (s : List V) (H : Heap) : evCode P Γ call n f m (cAt [1, 0, 1, 0, 0, 1, 0, 1] B23) s H = some (.ret, s, H) := at_ret (by kernel_rfl) s H
@[simp] theorem n23_14 (s : List V) (H : Heap) : evCode P Γ call n f m (cAt [1, 0, 1, 0, 0, 1, 1] B23) s H = some (.normal, s, H) := at_skip (by kernel_rfl) s H
@[simp] theorem n23_15 (s : List V) (H : Heap) : evCode P Γ call n f m (cAt [1, 0, 1, 0, 1] B23) s H = seqNext P Γ call n f m (cAt [1, 0, 1, 0, 1, 1] B23) (evCode P Γ call n f m (cAt [1, 0, 1, 0, 1, 0] B23) s H) := at_seq (by kernel_rfl) rfl rfl s H
noncomputable def r23_16 : {l : List Oper // opsOf (cAt [1, 0, 1, 0, 1, 0] B23) = l} := by
  apply Subtype.mk
  dsimp only [opsOf, cAt, kids, B23, bodyOf, Try.f23, List.getD, List.getElem?_cons_zero, List.getElem?_cons_succ, Option.getD_some]
@[simp] theorem n23_16 (s : List V) (H : Heap) : evCode P Γ call n f m (cAt [1, 0, 1, 0, 1, 0] B23) s H = regNext (evOpsGo P Γ call r23_16.1 r23_16.1 s H) := at_region (by kernel_rfl) r23_16.2 s H
attribute [simp] r23_16
@[simp] theorem n23_17 (s : List V) (H : Heap) : evCode P Γ call n f m (cAt [1, 0, 1, 0, 1, 1] B23) s H = some (.ret, s, H) := at_ret (by kernel_rfl) s H
@[simp] theorem n23_18 (s : List V) (H : Heap) : evCode P Γ call n f m (cAt [1, 0, 1, 1] B23) s H = some (.normal, s, H) := at_skip (by kernel_rfl) s H
@[simp] theorem n23_19 (s : List V) (H : Heap) : evCode P Γ call n f m (cAt [1, 1] B23) s H = seqNext P Γ call n f m (cAt [1, 1, 1] B23) (evCode P Γ call n f m (cAt [1, 1, 0] B23) s H) := at_seq (by kernel_rfl) rfl rfl s H
noncomputable def r23_20 : {l : List Oper // opsOf (cAt [1, 1, 0] B23) = l} := by
  apply Subtype.mk
  dsimp only [opsOf, cAt, kids, B23, bodyOf, Try.f23, List.getD, List.getElem?_cons_zero, List.getElem?_cons_succ, Option.getD_some]
@[simp] theorem n23_20 (s : List V) (H : Heap) : evCode P Γ call n f m (cAt [1, 1, 0] B23) s H = regNext (evOpsGo P Γ call r23_20.1 r23_20.1 s H) := at_region (by kernel_rfl) r23_20.2 s H
attribute [simp] r23_20
@[simp] theorem n23_21 (s : List V) (H : Heap) : evCode P Γ call n f m (cAt [1, 1, 1] B23) s H = seqNext P Γ call n f m (cAt [1, 1, 1, 1] B23) (evCode P Γ call n f m (cAt [1, 1, 1, 0] B23) s H) := at_seq (by kernel_rfl) rfl rfl s H
@[simp] theorem n23_22 (s : List V) (H : Heap) : evCode P Γ call n f m (cAt [1, 1, 1, 0] B23) s H = blockNext 0 (evCode P Γ call n f m (cAt [1, 1, 1, 0, 0] B23) s H) := at_block (by kernel_rfl) rfl s H
@[simp] theorem n23_23 (s : List V) (H : Heap) : evCode P Γ call n f m (cAt [1, 1, 1, 0, 0] B23) s H = evLoopC P Γ call n f m (cAt [1, 1, 1, 0, 0, 0] B23) n s H := at_loop (by kernel_rfl) rfl s H
noncomputable abbrev L23_6 : Code := cAt [1, 1, 1, 0, 0, 0] B23
@[simp] theorem n23_23f : firstRegion (cAt [1, 1, 1, 0, 0, 0] B23) = 6 := by kernel_rfl
@[simp] theorem n23_24 (s : List V) (H : Heap) : evCode P Γ call n f m (cAt [1, 1, 1, 0, 0, 0] B23) s H = seqNext P Γ call n f m (cAt [1, 1, 1, 0, 0, 0, 1] B23) (evCode P Γ call n f m (cAt [1, 1, 1, 0, 0, 0, 0] B23) s H) := at_seq (by kernel_rfl) rfl rfl s H
@[simp] theorem n23_25 (s : List V) (H : Heap) : evCode P Γ call n f m (cAt [1, 1, 1, 0, 0, 0, 0] B23) s H = seqNext P Γ call n f m (cAt [1, 1, 1, 0, 0, 0, 0, 1] B23) (evCode P Γ call n f m (cAt [1, 1, 1, 0, 0, 0, 0, 0] B23) s H) := at_seq (by kernel_rfl) rfl rfl s H
noncomputable def r23_26 : {l : List Oper // opsOf (cAt [1, 1, 1, 0, 0, 0, 0, 0] B23) = l} := by
  apply Subtype.mk
  dsimp only [opsOf, cAt, kids, B23, bodyOf, Try.f23, List.getD, List.getElem?_cons_zero, List.getElem?_cons_succ, Option.getD_some]
@[simp] theorem n23_26 (s : List V) (H : Heap) : evCode P Γ call n f m (cAt [1, 1, 1, 0, 0, 0, 0, 0] B23) s H = regNext (evOpsGo P Γ call r23_26.1 r23_26.1 s H) := at_region (by kernel_rfl) r23_26.2 s H
attribute [simp] r23_26
@[simp] theorem n23_27 (s : List V) (H : Heap) : evCode P Γ call n f m (cAt [1, 1, 1, 0, 0, 0, 0, 1] B23) s H = condW P Γ call n f m (cAt [1, 1, 1, 0, 0, 0, 0, 1, 0] B23) (cAt [1, 1, 1, 0, 0, 0, 0, 1, 1] B23) s H (evOperand Γ s (.tmp 24)) := at_cond (by kernel_rfl) (by kernel_rfl) rfl rfl s H
@[simp] theorem n23_28 (s : List V) (H : Heap) : evCode P Γ call n f m (cAt [1, 1, 1, 0, 0, 0, 0, 1, 0] B23) s H = some (.normal, s, H) := at_skip (by kernel_rfl) s H
@[simp] theorem n23_29 (s : List V) (H : Heap) : evCode P Γ call n f m (cAt [1, 1, 1, 0, 0, 0, 0, 1, 1] B23) s H = some (.exit 0, s, H) := at_exit (by kernel_rfl) s H
@[simp] theorem n23_30 (s : List V) (H : Heap) : evCode P Γ call n f m (cAt [1, 1, 1, 0, 0, 0, 1] B23) s H = blockNext 1 (evCode P Γ call n f m (cAt [1, 1, 1, 0, 0, 0, 1, 0] B23) s H) := at_block (by kernel_rfl) rfl s H
noncomputable def r23_31 : {l : List Oper // opsOf (cAt [1, 1, 1, 0, 0, 0, 1, 0] B23) = l} := by
  apply Subtype.mk
  dsimp only [opsOf, cAt, kids, B23, bodyOf, Try.f23, List.getD, List.getElem?_cons_zero, List.getElem?_cons_succ, Option.getD_some]
@[simp] theorem n23_31 (s : List V) (H : Heap) : evCode P Γ call n f m (cAt [1, 1, 1, 0, 0, 0, 1, 0] B23) s H = regNext (evOpsGo P Γ call r23_31.1 r23_31.1 s H) := at_region (by kernel_rfl) r23_31.2 s H
attribute [simp] r23_31
@[simp] theorem n23_32 (s : List V) (H : Heap) : evCode P Γ call n f m (cAt [1, 1, 1, 1] B23) s H = seqNext P Γ call n f m (cAt [1, 1, 1, 1, 1] B23) (evCode P Γ call n f m (cAt [1, 1, 1, 1, 0] B23) s H) := at_seq (by kernel_rfl) rfl rfl s H
noncomputable def r23_33 : {l : List Oper // opsOf (cAt [1, 1, 1, 1, 0] B23) = l} := by
  apply Subtype.mk
  dsimp only [opsOf, cAt, kids, B23, bodyOf, Try.f23, List.getD, List.getElem?_cons_zero, List.getElem?_cons_succ, Option.getD_some]
@[simp] theorem n23_33 (s : List V) (H : Heap) : evCode P Γ call n f m (cAt [1, 1, 1, 1, 0] B23) s H = regNext (drawR P Γ call r23_33.1 [([1, 5, 6, 7], [28, 32, 33, 34]), ([0, 5, 6, 7], [27, 32, 33, 34]), ([5, 6, 7], [32, 33, 34]), ([5, 6, 7], [32, 33, 34]), ([5, 6, 7], [32, 33, 34]), ([0, 1, 2, 3, 4, 6], [27, 28, 29, 30, 31, 33]), ([0, 1, 2, 3, 4, 5], [27, 28, 29, 30, 31, 32]), ([0, 1, 2, 3, 4], [27, 28, 29, 30, 31]), ([], []), ([], []), ([], []), ([], []), ([], [])] s H) := at_drawT (by kernel_rfl) r23_33.2 (by kernel_rfl) s H
attribute [simp] r23_33
@[simp] theorem n23_34 (s : List V) (H : Heap) : evCode P Γ call n f m (cAt [1, 1, 1, 1, 1] B23) s H = some (.ret, s, H) := at_ret (by kernel_rfl) s H
theorem b23 {k : Nat} (ho : ∀ args H, Γ.orc 23 args H = none) (args : List V) (H : Heap) (ha : args.length ≤ 39) : evF Try.prog Γ (k + 1) 23 args H = bodyEnd Try.prog [.tmp 2] H.length (evCode Try.prog Γ (evF Try.prog Γ k) k 23 H.length (cAt [] B23) (mkL 39 V.undef (enumV 0 args)) H) := body_at Try.func23 (by decide) rfl ho rfl rfl args H ha
noncomputable def B45 : Code := bodyOf Try.f45
@[simp] theorem n45_1 (s : List V) (H : Heap) : evCode P Γ call n f m (cAt [] B45) s H = seqNext P Γ call n f m (cAt [1] B45) (evCode P Γ call n f m (cAt [0] B45) s H) := at_seq (by kernel_rfl) rfl rfl s H
noncomputable def r45_2 : {l : List Oper // opsOf (cAt [0] B45) = l} := by
  apply Subtype.mk
  dsimp only [opsOf, cAt, kids, B45, bodyOf, Try.f45, List.getD, List.getElem?_cons_zero, List.getElem?_cons_succ, Option.getD_some]
@[simp] theorem n45_2 (s : List V) (H : Heap) : evCode P Γ call n f m (cAt [0] B45) s H = regNext (evOpsGo P Γ call r45_2.1 r45_2.1 s H) := at_region (by kernel_rfl) r45_2.2 s H
attribute [simp] r45_2
@[simp] theorem n45_3 (s : List V) (H : Heap) : evCode P Γ call n f m (cAt [1] B45) s H = seqNext P Γ call n f m (cAt [1, 1] B45) (evCode P Γ call n f m (cAt [1, 0] B45) s H) := at_seq (by kernel_rfl) rfl rfl s H
noncomputable def r45_4 : {l : List Oper // opsOf (cAt [1, 0] B45) = l} := by
  apply Subtype.mk
  dsimp only [opsOf, cAt, kids, B45, bodyOf, Try.f45, List.getD, List.getElem?_cons_zero, List.getElem?_cons_succ, Option.getD_some]
@[simp] theorem n45_4 (s : List V) (H : Heap) : evCode P Γ call n f m (cAt [1, 0] B45) s H = regNext (evOpsGo P Γ call r45_4.1 r45_4.1 s H) := at_region (by kernel_rfl) r45_4.2 s H
attribute [simp] r45_4
@[simp] theorem n45_5 (s : List V) (H : Heap) : evCode P Γ call n f m (cAt [1, 1] B45) s H = seqNext P Γ call n f m (cAt [1, 1, 1] B45) (evCode P Γ call n f m (cAt [1, 1, 0] B45) s H) := at_seq (by kernel_rfl) rfl rfl s H
@[simp] theorem n45_6 (s : List V) (H : Heap) : evCode P Γ call n f m (cAt [1, 1, 0] B45) s H = blockNext 0 (evCode P Γ call n f m (cAt [1, 1, 0, 0] B45) s H) := at_block (by kernel_rfl) rfl s H
@[simp] theorem n45_7 (s : List V) (H : Heap) : evCode P Γ call n f m (cAt [1, 1, 0, 0] B45) s H = evLoopC P Γ call n f m (cAt [1, 1, 0, 0, 0] B45) n s H := at_loop (by kernel_rfl) rfl s H
noncomputable abbrev L45_2 : Code := cAt [1, 1, 0, 0, 0] B45
@[simp] theorem n45_7f : firstRegion (cAt [1, 1, 0, 0, 0] B45) = 2 := by kernel_rfl
@[simp] theorem n45_8 (s : List V) (H : Heap) : evCode P Γ call n f m (cAt [1, 1, 0, 0, 0] B45) s H = seqNext P Γ call n f m (cAt [1, 1, 0, 0, 0, 1] B45) (evCode P Γ call n f m (cAt [1, 1, 0, 0, 0, 0] B45) s H) := at_seq (by kernel_rfl) rfl rfl s H
@[simp] theorem n45_9 (s : List V) (H : Heap) : evCode P Γ call n f m (cAt [1, 1, 0, 0, 0, 0] B45) s H = seqNext P Γ call n f m (cAt [1, 1, 0, 0, 0, 0, 1] B45) (evCode P Γ call n f m (cAt [1, 1, 0, 0, 0, 0, 0] B45) s H) := at_seq (by kernel_rfl) rfl rfl s H
noncomputable def r45_10 : {l : List Oper // opsOf (cAt [1, 1, 0, 0, 0, 0, 0] B45) = l} := by
  apply Subtype.mk
  dsimp only [opsOf, cAt, kids, B45, bodyOf, Try.f45, List.getD, List.getElem?_cons_zero, List.getElem?_cons_succ, Option.getD_some]
@[simp] theorem n45_10 (s : List V) (H : Heap) : evCode P Γ call n f m (cAt [1, 1, 0, 0, 0, 0, 0] B45) s H = regNext (evOpsGo P Γ call r45_10.1 r45_10.1 s H) := at_region (by kernel_rfl) r45_10.2 s H
attribute [simp] r45_10
@[simp] theorem n45_11 (s : List V) (H : Heap) : evCode P Γ call n f m (cAt [1, 1, 0, 0, 0, 0, 1] B45) s H = condW P Γ call n f m (cAt [1, 1, 0, 0, 0, 0, 1, 0] B45) (cAt [1, 1, 0, 0, 0, 0, 1, 1] B45) s H (evOperand Γ s (.tmp 6)) := at_cond (by kernel_rfl) (by kernel_rfl) rfl rfl s H
@[simp] theorem n45_12 (s : List V) (H : Heap) : evCode P Γ call n f m (cAt [1, 1, 0, 0, 0, 0, 1, 0] B45) s H = some (.normal, s, H) := at_skip (by kernel_rfl) s H
@[simp] theorem n45_13 (s : List V) (H : Heap) : evCode P Γ call n f m (cAt [1, 1, 0, 0, 0, 0, 1, 1] B45) s H = some (.exit 0, s, H) := at_exit (by kernel_rfl) s H
@[simp] theorem n45_14 (s : List V) (H : Heap) : evCode P Γ call n f m (cAt [1, 1, 0, 0, 0, 1] B45) s H = blockNext 1 (evCode P Γ call n f m (cAt [1, 1, 0, 0, 0, 1, 0] B45) s H) := at_block (by kernel_rfl) rfl s H
@[simp] theorem n45_15 (s : List V) (H : Heap) : evCode P Γ call n f m (cAt [1, 1, 0, 0, 0, 1, 0] B45) s H = seqNext P Γ call n f m (cAt [1, 1, 0, 0, 0, 1, 0, 1] B45) (evCode P Γ call n f m (cAt [1, 1, 0, 0, 0, 1, 0, 0] B45) s H) := at_seq (by kernel_rfl) rfl rfl s H
noncomputable def r45_16 : {l : List Oper // opsOf (cAt [1, 1, 0, 0, 0, 1, 0, 0] B45) = l} := by
  apply Subtype.mk
  dsimp only [opsOf, cAt, kids, B45, bodyOf, Try.f45, List.getD, List.getElem?_cons_zero, List.getElem?_cons_succ, Option.getD_some]
@[simp] theorem n45_16 (s : List V) (H : Heap) : evCode P Γ call n f m (cAt [1, 1, 0, 0, 0, 1, 0, 0] B45) s H = regNext (evOpsGo P Γ call r45_16.1 r45_16.1 s H) := at_region (by kernel_rfl) r45_16.2 s H
attribute [simp] r45_16
noncomputable def r45_17 : {l : List Oper // opsOf (cAt [1, 1, 0, 0, 0, 1, 0, 1] B45) = l} := by
  apply Subtype.mk
  dsimp only [opsOf, cAt, kids, B45, bodyOf, Try.f45, List.getD, List.getElem?_cons_zero, List.getElem?_cons_succ, Option.getD_some]
@[simp] theorem n45_17 (s : List V) (H : Heap) : evCode P Γ call n f m (cAt [1, 1, 0, 0, 0, 1, 0, 1] B45) s H = regNext (evOpsGo P Γ call r45_17.1 r45_17.1 s H) := at_region (by kernel_rfl) r45_17.2 s H
attribute [simp] r45_17
@[simp] theorem n45_18 (s : List V) (H : Heap) : evCode P Γ call n f m (cAt [1, 1, 1] B45) s H = seqNext P Γ call n f m (cAt [1, 1, 1, 1] B45) (evCode P Γ call n f m (cAt [1, 1, 1, 0] B45) s H) := at_seq (by kernel_rfl) rfl rfl s H
noncomputable def r45_19 : {l : List Oper // opsOf (cAt [1, 1, 1, 0] B45) = l} := by
  apply Subtype.mk
  dsimp only [opsOf, cAt, kids, B45, bodyOf, Try.f45, List.getD, List.getElem?_cons_zero, List.getElem?_cons_succ, Option.getD_some]
@[simp] theorem n45_19 (s : List V) (H : Heap) : evCode P Γ call n f m (cAt [1, 1, 1, 0] B45) s H = regNext (evOpsGo P Γ call r45_19.1 r45_19.1 s H) := at_region (by kernel_rfl) r45_19.2 s H
attribute [simp] r45_19
@[simp] theorem n45_20 (s : List V) (H : Heap) : evCode P Γ call n f m (cAt [1, 1, 1, 1] B45) s H = some (.ret, s, H) := at_ret (by kernel_rfl) s H
theorem b45 {k : Nat} (ho : ∀ args H, Γ.orc 45 args H = none) (args : List V) (H : Heap) (ha : args.length ≤ 18) : evF Try.prog Γ (k + 1) 45 args H = bodyEnd Try.prog [.tmp 2] H.length (evCode Try.prog Γ (evF Try.prog Γ k) k 45 H.length (cAt [] B45) (mkL 18 V.undef (enumV 0 args)) H) := body_at Try.func45 (by decide) rfl ho rfl rfl args H ha
noncomputable def B46 : Code := bodyOf Try.f46
@[simp] theorem n46_1 (s : List V) (H : Heap) : evCode P Γ call n f m (cAt [] B46) s H = seqNext P Γ call n f m (cAt [1] B46) (evCode P Γ call n f m (cAt [0] B46) s H) := at_seq (by kernel_rfl) rfl rfl s H
noncomputable def r46_2 : {l : List Oper // opsOf (cAt [0] B46) = l} := by
  apply Subtype.mk
  dsimp only [opsOf, cAt, kids, B46, bodyOf, Try.f46, List.getD, List.getElem?_cons_zero, List.getElem?_cons_succ, Option.getD_some]
@[simp] theorem n46_2 (s : List V) (H : Heap) : evCode P Γ call n f m (cAt [0] B46) s H = regNext (evOpsGo P Γ call r46_2.1 r46_2.1 s H) := at_region (by kernel_rfl) r46_2.2 s H
attribute [simp] r46_2
@[simp] theorem n46_3 (s : List V) (H : Heap) : evCode P Γ call n f m (cAt [1] B46) s H = seqNext P Γ call n f m (cAt [1, 1] B46) (evCode P Γ call n f m (cAt [1, 0] B46) s H) := at_seq (by kernel_rfl) rfl rfl s H
noncomputable def r46_4 : {l : List Oper // opsOf (cAt [1, 0] B46) = l} := by
  apply Subtype.mk
  dsimp only [opsOf, cAt, kids, B46, bodyOf, Try.f46, List.getD, List.getElem?_cons_zero, List.getElem?_cons_succ, Option.getD_some]
@[simp] theorem n46_4 (s : List V) (H : Heap) : evCode P Γ call n f m (cAt [1, 0] B46) s H = regNext (evOpsGo P Γ call r46_4.1 r46_4.1 s H) := at_region (by kernel_rfl) r46_4.2 s H
attribute [simp] r46_4
@[simp] theorem n46_5 (s : List V) (H : Heap) : evCode P Γ call n f m (cAt [1, 1] B46) s H = seqNext P Γ call n f m (cAt [1, 1, 1] B46) (evCode P Γ call n f m (cAt [1, 1, 0] B46) s H) := at_seq (by kernel_rfl) rfl rfl s H
noncomputable def r46_6 : {l : List Oper // opsOf (cAt [1, 1, 0] B46) = l} := by
  apply Subtype.mk
  dsimp only [opsOf, cAt, kids, B46, bodyOf, Try.f46, List.getD, List.getElem?_cons_zero, List.getElem?_cons_succ, Option.getD_some]
@[simp] theorem n46_6 (s : List V) (H : Heap) : evCode P Γ call n f m (cAt [1, 1, 0] B46) s H = regNext (evOpsGo P Γ call r46_6.1 r46_6.1 s H) := at_region (by kernel_rfl) r46_6.2 s H
attribute [simp] r46_6
@[simp] theorem n46_7 (s : List V) (H : Heap) : evCode P Γ call n f m (cAt [1, 1, 1] B46) s H = seqNext P Γ call n f m (cAt [1, 1, 1, 1] B46) (evCode P Γ call n f m (cAt [1, 1, 1, 0] B46) s H) := at_seq (by kernel_rfl) rfl rfl s H
noncomputable def r46_8 : {l : List Oper // opsOf (cAt [1, 1, 1, 0] B46) = l} := by
  apply Subtype.mk
  dsimp only [opsOf, cAt, kids, B46, bodyOf, Try.f46, List.getD, List.getElem?_cons_zero, List.getElem?_cons_succ, Option.getD_some]
@[simp] theorem n46_8 (s : List V) (H : Heap) : evCode P Γ call n f m (cAt [1, 1, 1, 0] B46) s H = regNext (evOpsGo P Γ call r46_8.1 r46_8.1 s H) := at_region (by kernel_rfl) r46_8.2 s H
attribute [simp] r46_8
@[simp] theorem n46_9 (s : List V) (H : Heap) : evCode P Γ call n f m (cAt [1, 1, 1, 1] B46) s H = some (.ret, s, H) := at_ret (by kernel_rfl) s H
theorem b46 {k : Nat} (ho : ∀ args H, Γ.orc 46 args H = none) (args : List V) (H : Heap) (ha : args.length ≤ 6) : evF Try.prog Γ (k + 1) 46 args H = bodyEnd Try.prog [.tmp 0] H.length (evCode Try.prog Γ (evF Try.prog Γ k) k 46 H.length (cAt [] B46) (mkL 6 V.undef (enumV 0 args)) H) := body_at Try.func46 (by decide) rfl ho rfl rfl args H ha
noncomputable def B47 : Code := bodyOf Try.f47
@[simp] theorem n47_1 (s : List V) (H : Heap) : evCode P Γ call n f m (cAt [] B47) s H = seqNext P Γ call n f m (cAt [1] B47) (evCode P Γ call n f m (cAt [0] B47) s H) := at_seq (by kernel_rfl) rfl rfl s H
noncomputable def r47_2 : {l : List Oper // opsOf (cAt [0] B47) = l} := by
  apply Subtype.mk
  dsimp only [opsOf, cAt, kids, B47, bodyOf, Try.f47, List.getD, List.getElem?_cons_zero, List.getElem?_cons_succ, Option.getD_some]
@[simp] theorem n47_2 (s : List V) (H : Heap) : evCode P Γ call n f m (cAt [0] B47) s H = regNext (evOpsGo P Γ call r47_2.1 r47_2.1 s H) := at_region (by kernel_rfl) r47_2.2 s H
attribute [simp] r47_2
@[simp] theorem n47_3 (s : List V) (H : Heap) : evCode P Γ call n f m (cAt [1] B47) s H = seqNext P Γ call n f m (cAt [1, 1] B47) (evCode P Γ call n f m (cAt [1, 0] B47) s H) := at_seq (by kernel_rfl) rfl rfl s H
noncomputable def r47_4 : {l : List Oper // opsOf (cAt [1, 0] B47) = l} := by
  apply Subtype.mk
  dsimp only [opsOf, cAt, kids, B47, bodyOf, Try.f47, List.getD, List.getElem?_cons_zero, List.getElem?_cons_succ, Option.getD_some]
@[simp] theorem n47_4 (s : List V) (H : Heap) : evCode P Γ call n f m (cAt [1, 0] B47) s H = regNext (evOpsGo P Γ call r47_4.1 r47_4.1 s H) := at_region (by kernel_rfl) r47_4.2 s H
attribute [simp] r47_4
@[simp] theorem n47_5 (s : List V) (H : Heap) : evCode P Γ call n f m (cAt [1, 1] B47) s H = some (.ret, s, H) := at_ret (by kernel_rfl) s H
theorem b47 {k : Nat} (ho : ∀ args H, Γ.orc 47 args H = none) (args : List V) (H : Heap) (ha : args.length ≤ 26) : evF Try.prog Γ (k + 1) 47 args H = bodyEnd Try.prog [.tmp 4] H.length (evCode Try.prog Γ (evF Try.prog Γ k) k 47 H.length (cAt [] B47) (mkL 26 V.undef (enumV 0 args)) H) := body_at Try.func47 (by decide) rfl ho rfl rfl args H ha
end
end Go.Ev.Try
