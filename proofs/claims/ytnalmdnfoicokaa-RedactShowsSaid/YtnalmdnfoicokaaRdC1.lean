/-
  CODE BY NAMES, printed by wip/tools/codes.py (own work).
-/
import Derived.Test.YtnalmdnfoicokaaRdG
set_option maxRecDepth 100000
set_option linter.unusedVariables false
namespace Go.Ev.Try
open Go Go.Ev Go.Proofs
section
variable {P : Program} {Γ : Env} {call : CallF} {n f m : Nat}

noncomputable def B8 : Code := bodyOf Try.f8
@[simp] theorem n8_1 (s : List V) (H : Heap) : evCode P Γ call n f m (cAt [] B8) s H = seqNext P Γ call n f m (cAt [1] B8) (evCode P Γ call n f m (cAt [0] B8) s H) := at_seq (by kernel_rfl) rfl rfl s H
noncomputable def r8_2 : {l : List Oper // opsOf (cAt [0] B8) = l} := by
  apply Subtype.mk
  dsimp only [opsOf, cAt, kids, B8, bodyOf, Try.f8, List.getD, List.getElem?_cons_zero, List.getElem?_cons_succ, Option.getD_some]
@[simp] theorem n8_2 (s : List V) (H : Heap) : evCode P Γ call n f m (cAt [0] B8) s H = regNext (evOpsGo P Γ call r8_2.1 r8_2.1 s H) := at_region (by kernel_rfl) r8_2.2 s H
attribute [simp] r8_2
@[simp] theorem n8_3 (s : List V) (H : Heap) : evCode P Γ call n f m (cAt [1] B8) s H = seqNext P Γ call n f m (cAt [1, 1] B8) (evCode P Γ call n f m (cAt [1, 0] B8) s H) := at_seq (by kernel_rfl) rfl rfl s H
@[simp] theorem n8_4 (s : List V) (H : Heap) : evCode P Γ call n f m (cAt [1, 0] B8) s H = seqNext P Γ call n f m (cAt [1, 0, 1] B8) (evCode P Γ call n f m (cAt [1, 0, 0] B8) s H) := at_seq (by kernel_rfl) rfl rfl s H
noncomputable def r8_5 : {l : List Oper // opsOf (cAt [1, 0, 0] B8) = l} := by
  apply Subtype.mk
  dsimp only [opsOf, cAt, kids, B8, bodyOf, Try.f8, List.getD, List.getElem?_cons_zero, List.getElem?_cons_succ, Option.getD_some]
@[simp] theorem n8_5 (s : List V) (H : Heap) : evCode P Γ call n f m (cAt [1, 0, 0] B8) s H = regNext (evOpsGo P Γ call r8_5.1 r8_5.1 s H) := at_region (by kernel_rfl) r8_5.2 s H
attribute [simp] r8_5
@[simp] theorem n8_6 (s : List V) (H : Heap) : evCode P Γ call n f m (cAt [1, 0, 1] B8) s H = condW P Γ call n f m (cAt [1, 0, 1, 0] B8) (cAt [1, 0, 1, 1] B8) s H (evOperand Γ s (.tmp 20)) := at_cond (by kernel_rfl) (by kernel_rfl) rfl rfl s H
@[simp] theorem n8_7 (s : List V) (H : Heap) : evCode P Γ call n f m (cAt [1, 0, 1, 0] B8) s H = seqNext P Γ call n f m (cAt [1, 0, 1, 0, 1] B8) (evCode P Γ call n f m (cAt [1, 0, 1, 0, 0] B8) s H) := at_seq (by kernel_rfl) rfl rfl s H
noncomputable def r8_8 : {l : List Oper // opsOf (cAt [1, 0, 1, 0, 0] B8) = l} := by
  apply Subtype.mk
  dsimp only [opsOf, cAt, kids, B8, bodyOf, Try.f8, List.getD, List.getElem?_cons_zero, List.getElem?_cons_succ, Option.getD_some]
@[simp] theorem n8_8 (s : List V) (H : Heap) : evCode P Γ call n f m (cAt [1, 0, 1, 0, 0] B8) s H = regNext (evOpsGo P Γ call r8_8.1 r8_8.1 s H) := at_region (by kernel_rfl) r8_8.2 s H
attribute [simp] r8_8
@[simp] theorem n8_9 (s : List V) (H : Heap) : evCode P Γ call n f m (cAt [1, 0, 1, 0, 1] B8) s H = some (.ret, s, H) := at_ret (by kernel_rfl) s H
@[simp] theorem n8_10 (s : List V) (H : Heap) : evCode P Γ call n f m (cAt [1, 0, 1, 1] B8) s H = some (.normal, s, H) := at_skip (by kernel_rfl) s H
@[simp] theorem n8_11 (s : List V) (H : Heap) : evCode P Γ call n f m (cAt [1, 1] B8) s H = seqNext P Γ call n f m (cAt [1, 1, 1] B8) (evCode P Γ call n f m (cAt [1, 1, 0] B8) s H) := at_seq (by kernel_rfl) rfl rfl s H
@[simp] theorem n8_12 (s : List V) (H : Heap) : evCode P Γ call n f m (cAt [1, 1, 0] B8) s H = seqNext P Γ call n f m (cAt [1, 1, 0, 1] B8) (evCode P Γ call n f m (cAt [1, 1, 0, 0] B8) s H) := at_seq (by kernel_rfl) rfl rfl s H
noncomputable def r8_13 : {l : List Oper // opsOf (cAt [1, 1, 0, 0] B8) = l} := by
  apply Subtype.mk
  dsimp only [opsOf, cAt, kids, B8, bodyOf, Try.f8, List.getD, List.getElem?_cons_zero, List.getElem?_cons_succ, Option.getD_some]
@[simp] theorem n8_13 (s : List V) (H : Heap) : evCode P Γ call n f m (cAt [1, 1, 0, 0] B8) s H = regNext (evOpsGo P Γ call r8_13.1 r8_13.1 s H) := at_region (by kernel_rfl) r8_13.2 s H
attribute [simp] r8_13
@[simp] theorem n8_14 (s : List V) (H : Heap) : evCode P Γ call n f m (cAt [1, 1, 0, 1] B8) s H = blockNext 0 (evCode P Γ call n f m (cAt [1, 1, 0, 1, 0] B8) s H) := at_block (by kernel_rfl) rfl s H
@[simp] theorem n8_15 (s : List V) (H : Heap) : evCode P Γ call n f m (cAt [1, 1, 0, 1, 0] B8) s H = evLoopC P Γ call n f m (cAt [1, 1, 0, 1, 0, 0] B8) n s H := at_loop (by kernel_rfl) rfl s H
noncomputable abbrev L8_4 : Code := cAt [1, 1, 0, 1, 0, 0] B8
@[simp] theorem n8_15f : firstRegion (cAt [1, 1, 0, 1, 0, 0] B8) = 4 := by kernel_rfl
@[simp] theorem n8_16 (s : List V) (H : Heap) : evCode P Γ call n f m (cAt [1, 1, 0, 1, 0, 0] B8) s H = seqNext P Γ call n f m (cAt [1, 1, 0, 1, 0, 0, 1] B8) (evCode P Γ call n f m (cAt [1, 1, 0, 1, 0, 0, 0] B8) s H) := at_seq (by kernel_rfl) rfl rfl s H
noncomputable def r8_17 : {l : List Oper // opsOf (cAt [1, 1, 0, 1, 0, 0, 0] B8) = l} := by
  apply Subtype.mk
  dsimp only [opsOf, cAt, kids, B8, bodyOf, Try.f8, List.getD, List.getElem?_cons_zero, List.getElem?_cons_succ, Option.getD_some]
@[simp] theorem n8_17 (s : List V) (H : Heap) : evCode P Γ call n f m (cAt [1, 1, 0, 1, 0, 0, 0] B8) s H = regNext (evOpsGo P Γ call r8_17.1 r8_17.1 s H) := at_region (by kernel_rfl) r8_17.2 s H
attribute [simp] r8_17
@[simp] theorem n8_18 (s : List V) (H : Heap) : evCode P Γ call n f m (cAt [1, 1, 0, 1, 0, 0, 1] B8) s H = seqNext P Γ call n f m (cAt [1, 1, 0, 1, 0, 0, 1, 1] B8) (evCode P Γ call n f m (cAt [1, 1, 0, 1, 0, 0, 1, 0] B8) s H) := at_seq (by kernel_rfl) rfl rfl s H
@[simp] theorem n8_19 (s : List V) (H : Heap) : evCode P Γ call n f m (cAt [1, 1, 0, 1, 0, 0, 1, 0] B8) s H = condW P Γ call n f m (cAt [1, 1, 0, 1, 0, 0, 1, 0, 0] B8) (cAt [1, 1, 0, 1, 0, 0, 1, 0, 1] B8) s H (evOperand Γ s (.tmp 25)) := at_cond (by kernel_rfl) (by kernel_rfl) rfl rfl s H
@[simp] theorem n8_20 (s : List V) (H : Heap) : evCode P Γ call n f m (cAt [1, 1, 0, 1, 0, 0, 1, 0, 0] B8) s H = some (.normal, s, H) := at_skip (by kernel_rfl) s H
@[simp] theorem n8_21 (s : List V) (H : Heap) : evCode P Γ call n f m (cAt [1, 1, 0, 1, 0, 0, 1, 0, 1] B8) s H = some (.exit 0, s, H) := at_exit (by kernel_rfl) s H
@[simp] theorem n8_22 (s : List V) (H : Heap) : evCode P Γ call n f m (cAt [1, 1, 0, 1, 0, 0, 1, 1] B8) s H = seqNext P Γ call n f m (cAt [1, 1, 0, 1, 0, 0, 1, 1, 1] B8) (evCode P Γ call n f m (cAt [1, 1, 0, 1, 0, 0, 1, 1, 0] B8) s H) := at_seq (by kernel_rfl) rfl rfl s H
@[simp] theorem n8_23 (s : List V) (H : Heap) : evCode P Γ call n f m (cAt [1, 1, 0, 1, 0, 0, 1, 1, 0] B8) s H = blockNext 1 (evCode P Γ call n f m (cAt [1, 1, 0, 1, 0, 0, 1, 1, 0, 0] B8) s H) := at_block (by kernel_rfl) rfl s H
@[simp] theorem n8_24 (s : List V) (H : Heap) : evCode P Γ call n f m (cAt [1, 1, 0, 1, 0, 0, 1, 1, 0, 0] B8) s H = seqNext P Γ call n f m (cAt [1, 1, 0, 1, 0, 0, 1, 1, 0, 0, 1] B8) (evCode P Γ call n f m (cAt [1, 1, 0, 1, 0, 0, 1, 1, 0, 0, 0] B8) s H) := at_seq (by kernel_rfl) rfl rfl s H
noncomputable def r8_25 : {l : List Oper // opsOf (cAt [1, 1, 0, 1, 0, 0, 1, 1, 0, 0, 0] B8) = l} := by
  apply Subtype.mk
  dsimp only [opsOf, cAt, kids, B8, bodyOf, Try.f8, List.getD, List.getElem?_cons_zero, List.getElem?_cons_succ, Option.getD_some]
@[simp] theorem n8_25 (s : List V) (H : Heap) : evCode P Γ call n f m (cAt [1, 1, 0, 1, 0, 0, 1, 1, 0, 0, 0] B8) s H = regNext (evOpsGo P Γ call r8_25.1 r8_25.1 s H) := at_region (by kernel_rfl) r8_25.2 s H
attribute [simp] r8_25
@[simp] theorem n8_26 (s : List V) (H : Heap) : evCode P Γ call n f m (cAt [1, 1, 0, 1, 0, 0, 1, 1, 0, 0, 1] B8) s H = seqNext P Γ call n f m (cAt [1, 1, 0, 1, 0, 0, 1, 1, 0, 0, 1, 1] B8) (evCode P Γ call n f m (cAt [1, 1, 0, 1, 0, 0, 1, 1, 0, 0, 1, 0] B8) s H) := at_seq (by kernel_rfl) rfl rfl s H
noncomputable def r8_27 : {l : List Oper // opsOf (cAt [1, 1, 0, 1, 0, 0, 1, 1, 0, 0, 1, 0] B8) = l} := by
  apply Subtype.mk
  dsimp only [opsOf, cAt, kids, B8, bodyOf, Try.f8, List.getD, List.getElem?_cons_zero, List.getElem?_cons_succ, Option.getD_some]
@[simp] theorem n8_27 (s : List V) (H : Heap) : evCode P Γ call n f m (cAt [1, 1, 0, 1, 0, 0, 1, 1, 0, 0, 1, 0] B8) s H = regNext (evOpsGo P Γ call r8_27.1 r8_27.1 s H) := at_region (by kernel_rfl) r8_27.2 s H
attribute [simp] r8_27
@[simp] theorem n8_28 (s : List V) (H : Heap) : evCode P Γ call n f m (cAt [1, 1, 0, 1, 0, 0, 1, 1, 0, 0, 1, 1] B8) s H = condW P Γ call n f m (cAt [1, 1, 0, 1, 0, 0, 1, 1, 0, 0, 1, 1, 0] B8) (cAt [1, 1, 0, 1, 0, 0, 1, 1, 0, 0, 1, 1, 1] B8) s H (evOperand Γ s (.tmp 40)) := at_cond (by kernel_rfl) (by kernel_rfl) rfl rfl s H
@[simp] theorem n8_29 (s : List V) (H : Heap) : evCode P Γ call n f m (cAt [1, 1, 0, 1, 0, 0, 1, 1, 0, 0, 1, 1, 0] B8) s H = seqNext P Γ call n f m (cAt [1, 1, 0, 1, 0, 0, 1, 1, 0, 0, 1, 1, 0, 1] B8) (evCode P Γ call n f m (cAt [1, 1, 0, 1, 0, 0, 1, 1, 0, 0, 1, 1, 0, 0] B8) s H) := at_seq (by kernel_rfl) rfl rfl s H
noncomputable def r8_30 : {l : List Oper // opsOf (cAt [1, 1, 0, 1, 0, 0, 1, 1, 0, 0, 1, 1, 0, 0] B8) = l} := by
  apply Subtype.mk
  dsimp only [opsOf, cAt, kids, B8, bodyOf, Try.f8, List.getD, List.getElem?_cons_zero, List.getElem?_cons_succ, Option.getD_some]
@[simp] theorem n8_30 (s : List V) (H : Heap) : evCode P Γ call n f m (cAt [1, 1, 0, 1, 0, 0, 1, 1, 0, 0, 1, 1, 0, 0] B8) s H = regNext (evOpsGo P Γ call r8_30.1 r8_30.1 s H) := at_region (by kernel_rfl) r8_30.2 s H
attribute [simp] r8_30
@[simp] theorem n8_31 (s : List V) (H : Heap) : evCode P Γ call n f m (cAt [1, 1, 0, 1, 0, 0, 1, 1, 0, 0, 1, 1, 0, 1] B8) s H = some (.ret, s, H) := at_ret (by kernel_rfl) s H
@[simp] theorem n8_32 (s : List V) (H : Heap) : evCode P Γ call n f m (cAt [1, 1, 0, 1, 0, 0, 1, 1, 0, 0, 1, 1, 1] B8) s H = some (.normal, s, H) := at_skip (by kernel_rfl) s H
noncomputable def r8_33 : {l : List Oper // opsOf (cAt [1, 1, 0, 1, 0, 0, 1, 1, 1] B8) = l} := by
  apply Subtype.mk
  dsimp only [opsOf, cAt, kids, B8, bodyOf, Try.f8, List.getD, List.getElem?_cons_zero, List.getElem?_cons_succ, Option.getD_some]
@[simp] theorem n8_33 (s : List V) (H : Heap) : evCode P Γ call n f m (cAt [1, 1, 0, 1, 0, 0, 1, 1, 1] B8) s H = regNext (evOpsGo P Γ call r8_33.1 r8_33.1 s H) := at_region (by kernel_rfl) r8_33.2 s H
attribute [simp] r8_33
@[simp] theorem n8_34 (s : List V) (H : Heap) : evCode P Γ call n f m (cAt [1, 1, 1] B8) s H = seqNext P Γ call n f m (cAt [1, 1, 1, 1] B8) (evCode P Γ call n f m (cAt [1, 1, 1, 0] B8) s H) := at_seq (by kernel_rfl) rfl rfl s H
noncomputable def r8_35 : {l : List Oper // opsOf (cAt [1, 1, 1, 0] B8) = l} := by
  apply Subtype.mk
  dsimp only [opsOf, cAt, kids, B8, bodyOf, Try.f8, List.getD, List.getElem?_cons_zero, List.getElem?_cons_succ, Option.getD_some]
@[simp] theorem n8_35 (s : List V) (H : Heap) : evCode P Γ call n f m (cAt [1, 1, 1, 0] B8) s H = regNext (evOpsGo P Γ call r8_35.1 r8_35.1 s H) := at_region (by kernel_rfl) r8_35.2 s H
attribute [simp] r8_35
@[simp] theorem n8_36 (s : List V) (H : Heap) : evCode P Γ call n f m (cAt [1, 1, 1, 1] B8) s H = seqNext P Γ call n f m (cAt [1, 1, 1, 1, 1] B8) (evCode P Γ call n f m (cAt [1, 1, 1, 1, 0] B8) s H) := at_seq (by kernel_rfl) rfl rfl s H
noncomputable def r8_37 : {l : List Oper // opsOf (cAt [1, 1, 1, 1, 0] B8) = l} := by
  apply Subtype.mk
  dsimp only [opsOf, cAt, kids, B8, bodyOf, Try.f8, List.getD, List.getElem?_cons_zero, List.getElem?_cons_succ, Option.getD_some]
@[simp] theorem n8_37 (s : List V) (H : Heap) : evCode P Γ call n f m (cAt [1, 1, 1, 1, 0] B8) s H = regNext (evOpsGo P Γ call r8_37.1 r8_37.1 s H) := at_region (by kernel_rfl) r8_37.2 s H
attribute [simp] r8_37
@[simp] theorem n8_38 (s : List V) (H : Heap) : evCode P Γ call n f m (cAt [1, 1, 1, 1, 1] B8) s H = seqNext P Γ call n f m (cAt [1, 1, 1, 1, 1, 1] B8) (evCode P Γ call n f m (cAt [1, 1, 1, 1, 1, 0] B8) s H) := at_seq (by kernel_rfl) rfl rfl s H
@[simp] theorem n8_39 (s : List V) (H : Heap) : evCode P Γ call n f m (cAt [1, 1, 1, 1, 1, 0] B8) s H = seqNext P Γ call n f m (cAt [1, 1, 1, 1, 1, 0, 1] B8) (evCode P Γ call n f m (cAt [1, 1, 1, 1, 1, 0, 0] B8) s H) := at_seq (by kernel_rfl) rfl rfl s H
noncomputable def r8_40 : {l : List Oper // opsOf (cAt [1, 1, 1, 1, 1, 0, 0] B8) = l} := by
  apply Subtype.mk
  dsimp only [opsOf, cAt, kids, B8, bodyOf, Try.f8, List.getD, List.getElem?_cons_zero, List.getElem?_cons_succ, Option.getD_some]
@[simp] theorem n8_40 (s : List V) (H : Heap) : evCode P Γ call n f m (cAt [1, 1, 1, 1, 1, 0, 0] B8) s H = regNext (evOpsGo P Γ call r8_40.1 r8_40.1 s H) := at_region (by kernel_rfl) r8_40.2 s H
attribute [simp] r8_40
@[simp] theorem n8_41 (s : List V) (H : Heap) : evCode P Γ call n f m (cAt [1, 1, 1, 1, 1, 0, 1] B8) s H = blockNext 2 (evCode P Γ call n f m (cAt [1, 1, 1, 1, 1, 0, 1, 0] B8) s H) := at_block (by kernel_rfl) rfl s H
@[simp] theorem n8_42 (s : List V) (H : Heap) : evCode P Γ call n f m (cAt [1, 1, 1, 1, 1, 0, 1, 0] B8) s H = evLoopC P Γ call n f m (cAt [1, 1, 1, 1, 1, 0, 1, 0, 0] B8) n s H := at_loop (by kernel_rfl) rfl s H
noncomputable abbrev L8_12 : Code := cAt [1, 1, 1, 1, 1, 0, 1, 0, 0] B8
@[simp] theorem n8_42f : firstRegion (cAt [1, 1, 1, 1, 1, 0, 1, 0, 0] B8) = 12 := by kernel_rfl
@[simp] theorem n8_43 (s : List V) (H : Heap) : evCode P Γ call n f m (cAt [1, 1, 1, 1, 1, 0, 1, 0, 0] B8) s H = seqNext P Γ call n f m (cAt [1, 1, 1, 1, 1, 0, 1, 0, 0, 1] B8) (evCode P Γ call n f m (cAt [1, 1, 1, 1, 1, 0, 1, 0, 0, 0] B8) s H) := at_seq (by kernel_rfl) rfl rfl s H
noncomputable def r8_44 : {l : List Oper // opsOf (cAt [1, 1, 1, 1, 1, 0, 1, 0, 0, 0] B8) = l} := by
  apply Subtype.mk
  dsimp only [opsOf, cAt, kids, B8, bodyOf, Try.f8, List.getD, List.getElem?_cons_zero, List.getElem?_cons_succ, Option.getD_some]
@[simp] theorem n8_44 (s : List V) (H : Heap) : evCode P Γ call n f m (cAt [1, 1, 1, 1, 1, 0, 1, 0, 0, 0] B8) s H = regNext (evOpsGo P Γ call r8_44.1 r8_44.1 s H) := at_region (by kernel_rfl) r8_44.2 s H
attribute [simp] r8_44
@[simp] theorem n8_45 (s : List V) (H : Heap) : evCode P Γ call n f m (cAt [1, 1, 1, 1, 1, 0, 1, 0, 0, 1] B8) s H = seqNext P Γ call n f m (cAt [1, 1, 1, 1, 1, 0, 1, 0, 0, 1, 1] B8) (evCode P Γ call n f m (cAt [1, 1, 1, 1, 1, 0, 1, 0, 0, 1, 0] B8) s H) := at_seq (by kernel_rfl) rfl rfl s H
@[simp] theorem n8_46 (s : List V) (H : Heap) : evCode P Γ call n f m (cAt [1, 1, 1, 1, 1, 0, 1, 0, 0, 1, 0] B8) s H = condW P Γ call n f m (cAt [1, 1, 1, 1, 1, 0, 1, 0, 0, 1, 0, 0] B8) (cAt [1, 1, 1, 1, 1, 0, 1, 0, 0, 1, 0, 1] B8) s H (evOperand Γ s (.tmp 52)) := at_cond (by kernel_rfl) (by kernel_rfl) rfl rfl s H
@[simp] theorem n8_47 (s : List V) (H : Heap) : evCode P Γ call n f m (cAt [1, 1, 1, 1, 1, 0, 1, 0, 0, 1, 0, 0] B8) s H = some (.normal, s, H) := at_skip (by kernel_rfl) s H
@[simp] theorem n8_48 (s : List V) (H : Heap) : evCode P Γ call n f m (cAt [1, 1, 1, 1, 1, 0, 1, 0, 0, 1, 0, 1] B8) s H = some (.exit 2, s, H) := at_exit (by kernel_rfl) s H
@[simp] theorem n8_49 (s : List V) (H : Heap) : evCode P Γ call n f m (cAt [1, 1, 1, 1, 1, 0, 1, 0, 0, 1, 1] B8) s H = seqNext P Γ call n f m (cAt [1, 1, 1, 1, 1, 0, 1, 0, 0, 1, 1, 1] B8) (evCode P Γ call n f m (cAt [1, 1, 1, 1, 1, 0, 1, 0, 0, 1, 1, 0] B8) s H) := at_seq (by kernel_rfl) rfl rfl s H
@[simp] theorem n8_50 (s : List V) (H : Heap) : evCode P Γ call n f m (cAt [1, 1, 1, 1, 1, 0, 1, 0, 0, 1, 1, 0] B8) s H = blockNext 3 (evCode P Γ call n f m (cAt [1, 1, 1, 1, 1, 0, 1, 0, 0, 1, 1, 0, 0] B8) s H) := at_block (by kernel_rfl) rfl s H
@[simp] theorem n8_51 (s : List V) (H : Heap) : evCode P Γ call n f m (cAt [1, 1, 1, 1, 1, 0, 1, 0, 0, 1, 1, 0, 0] B8) s H = seqNext P Γ call n f m (cAt [1, 1, 1, 1, 1, 0, 1, 0, 0, 1, 1, 0, 0, 1] B8) (evCode P Γ call n f m (cAt [1, 1, 1, 1, 1, 0, 1, 0, 0, 1, 1, 0, 0, 0] B8) s H) := at_seq (by kernel_rfl) rfl rfl s H
noncomputable def r8_52 : {l : List Oper // opsOf (cAt [1, 1, 1, 1, 1, 0, 1, 0, 0, 1, 1, 0, 0, 0] B8) = l} := by
  apply Subtype.mk
  dsimp only [opsOf, cAt, kids, B8, bodyOf, Try.f8, List.getD, List.getElem?_cons_zero, List.getElem?_cons_succ, Option.getD_some]
@[simp] theorem n8_52 (s : List V) (H : Heap) : evCode P Γ call n f m (cAt [1, 1, 1, 1, 1, 0, 1, 0, 0, 1, 1, 0, 0, 0] B8) s H = regNext (evOpsGo P Γ call r8_52.1 r8_52.1 s H) := at_region (by kernel_rfl) r8_52.2 s H
attribute [simp] r8_52
@[simp] theorem n8_53 (s : List V) (H : Heap) : evCode P Γ call n f m (cAt [1, 1, 1, 1, 1, 0, 1, 0, 0, 1, 1, 0, 0, 1] B8) s H = seqNext P Γ call n f m (cAt [1, 1, 1, 1, 1, 0, 1, 0, 0, 1, 1, 0, 0, 1, 1] B8) (evCode P Γ call n f m (cAt [1, 1, 1, 1, 1, 0, 1, 0, 0, 1, 1, 0, 0, 1, 0] B8) s H) := at_seq (by kernel_rfl) rfl rfl s H
noncomputable def r8_54 : {l : List Oper // opsOf (cAt [1, 1, 1, 1, 1, 0, 1, 0, 0, 1, 1, 0, 0, 1, 0] B8) = l} := by
  apply Subtype.mk
  dsimp only [opsOf, cAt, kids, B8, bodyOf, Try.f8, List.getD, List.getElem?_cons_zero, List.getElem?_cons_succ, Option.getD_some]
@[simp] theorem n8_54 (s : List V) (H : Heap) : evCode P Γ call n f m (cAt [1, 1, 1, 1, 1, 0, 1, 0, 0, 1, 1, 0, 0, 1, 0] B8) s H = regNext (evOpsGo P Γ call r8_54.1 r8_54.1 s H) := at_region (by kernel_rfl) r8_54.2 s H
attribute [simp] r8_54
@[simp] theorem n8_55 (s : List V) (H : Heap) : evCode P Γ call n f m (cAt [1, 1, 1, 1, 1, 0, 1, 0, 0, 1, 1, 0, 0, 1, 1] B8) s H = seqNext P Γ call n f m (cAt [1, 1, 1, 1, 1, 0, 1, 0, 0, 1, 1, 0, 0, 1, 1, 1] B8) (evCode P Γ call n f m (cAt [1, 1, 1, 1, 1, 0, 1, 0, 0, 1, 1, 0, 0, 1, 1, 0] B8) s H) := at_seq (by kernel_rfl) rfl rfl s H
noncomputable def r8_56 : {l : List Oper // opsOf (cAt [1, 1, 1, 1, 1, 0, 1, 0, 0, 1, 1, 0, 0, 1, 1, 0] B8) = l} := by
  apply Subtype.mk
  dsimp only [opsOf, cAt, kids, B8, bodyOf, Try.f8, List.getD, List.getElem?_cons_zero, List.getElem?_cons_succ, Option.getD_some]
@[simp] theorem n8_56 (s : List V) (H : Heap) : evCode P Γ call n f m (cAt [1, 1, 1, 1, 1, 0, 1, 0, 0, 1, 1, 0, 0, 1, 1, 0] B8) s H = regNext (evOpsGo P Γ call r8_56.1 r8_56.1 s H) := at_region (by kernel_rfl) r8_56.2 s H
attribute [simp] r8_56
@[simp] theorem n8_57 (s : List V) (H : Heap) : evCode P Γ call n f m (cAt [1, 1, 1, 1, 1, 0, 1, 0, 0, 1, 1, 0, 0, 1, 1, 1] B8) s H = seqNext P Γ call n f m (cAt [1, 1, 1, 1, 1, 0, 1, 0, 0, 1, 1, 0, 0, 1, 1, 1, 1] B8) (evCode P Γ call n f m (cAt [1, 1, 1, 1, 1, 0, 1, 0, 0, 1, 1, 0, 0, 1, 1, 1, 0] B8) s H) := at_seq (by kernel_rfl) rfl rfl s H
noncomputable def r8_58 : {l : List Oper // opsOf (cAt [1, 1, 1, 1, 1, 0, 1, 0, 0, 1, 1, 0, 0, 1, 1, 1, 0] B8) = l} := by
  apply Subtype.mk
  dsimp only [opsOf, cAt, kids, B8, bodyOf, Try.f8, List.getD, List.getElem?_cons_zero, List.getElem?_cons_succ, Option.getD_some]
@[simp] theorem n8_58 (s : List V) (H : Heap) : evCode P Γ call n f m (cAt [1, 1, 1, 1, 1, 0, 1, 0, 0, 1, 1, 0, 0, 1, 1, 1, 0] B8) s H = regNext (evOpsGo P Γ call r8_58.1 r8_58.1 s H) := at_region (by kernel_rfl) r8_58.2 s H
attribute [simp] r8_58
@[simp] theorem n8_59 (s : List V) (H : Heap) : evCode P Γ call n f m (cAt [1, 1, 1, 1, 1, 0, 1, 0, 0, 1, 1, 0, 0, 1, 1, 1, 1] B8) s H = condW P Γ call n f m (cAt [1, 1, 1, 1, 1, 0, 1, 0, 0, 1, 1, 0, 0, 1, 1, 1, 1, 0] B8) (cAt [1, 1, 1, 1, 1, 0, 1, 0, 0, 1, 1, 0, 0, 1, 1, 1, 1, 1] B8) s H (evOperand Γ s (.tmp 72)) := at_cond (by kernel_rfl) (by kernel_rfl) rfl rfl s H
noncomputable def r8_60 : {l : List Oper // opsOf (cAt [1, 1, 1, 1, 1, 0, 1, 0, 0, 1, 1, 0, 0, 1, 1, 1, 1, 0] B8) = l} := by
  apply Subtype.mk
  dsimp only [opsOf, cAt, kids, B8, bodyOf, Try.f8, List.getD, List.getElem?_cons_zero, List.getElem?_cons_succ, Option.getD_some]
@[simp] theorem n8_60 (s : List V) (H : Heap) : evCode P Γ call n f m (cAt [1, 1, 1, 1, 1, 0, 1, 0, 0, 1, 1, 0, 0, 1, 1, 1, 1, 0] B8) s H = regNext (drawR P Γ call r8_60.1 [([2, 3, 4, 5], [75, 76, 77, 78]), ([2, 3, 4, 5], [75, 76, 77, 78]), ([0, 1], [73, 74]), ([0, 1], [73, 74]), ([0, 1], [73, 74]), ([0, 1], [73, 74]), ([], []), ([], []), ([], [])] s H) := at_drawT (by kernel_rfl) r8_60.2 (by kernel_rfl) s H
attribute [simp] r8_60
noncomputable def r8_61 : {l : List Oper // opsOf (cAt [1, 1, 1, 1, 1, 0, 1, 0, 0, 1, 1, 0, 0, 1, 1, 1, 1, 1] B8) = l} := by
  apply Subtype.mk
  dsimp only [opsOf, cAt, kids, B8, bodyOf, Try.f8, List.getD, List.getElem?_cons_zero, List.getElem?_cons_succ, Option.getD_some]
@[simp] theorem n8_61 (s : List V) (H : Heap) : evCode P Γ call n f m (cAt [1, 1, 1, 1, 1, 0, 1, 0, 0, 1, 1, 0, 0, 1, 1, 1, 1, 1] B8) s H = regNext (drawR P Γ call r8_61.1 [([2, 3, 4, 5], [83, 84, 85, 86]), ([2, 3, 4, 5], [83, 84, 85, 86]), ([0, 1], [81, 82]), ([0, 1], [81, 82]), ([0, 1], [81, 82]), ([0, 1], [81, 82]), ([], []), ([], []), ([], [])] s H) := at_drawT (by kernel_rfl) r8_61.2 (by kernel_rfl) s H
attribute [simp] r8_61
noncomputable def r8_62 : {l : List Oper // opsOf (cAt [1, 1, 1, 1, 1, 0, 1, 0, 0, 1, 1, 1] B8) = l} := by
  apply Subtype.mk
  dsimp only [opsOf, cAt, kids, B8, bodyOf, Try.f8, List.getD, List.getElem?_cons_zero, List.getElem?_cons_succ, Option.getD_some]
@[simp] theorem n8_62 (s : List V) (H : Heap) : evCode P Γ call n f m (cAt [1, 1, 1, 1, 1, 0, 1, 0, 0, 1, 1, 1] B8) s H = regNext (evOpsGo P Γ call r8_62.1 r8_62.1 s H) := at_region (by kernel_rfl) r8_62.2 s H
attribute [simp] r8_62
@[simp] theorem n8_63 (s : List V) (H : Heap) : evCode P Γ call n f m (cAt [1, 1, 1, 1, 1, 1] B8) s H = seqNext P Γ call n f m (cAt [1, 1, 1, 1, 1, 1, 1] B8) (evCode P Γ call n f m (cAt [1, 1, 1, 1, 1, 1, 0] B8) s H) := at_seq (by kernel_rfl) rfl rfl s H
noncomputable def r8_64 : {l : List Oper // opsOf (cAt [1, 1, 1, 1, 1, 1, 0] B8) = l} := by
  apply Subtype.mk
  dsimp only [opsOf, cAt, kids, B8, bodyOf, Try.f8, List.getD, List.getElem?_cons_zero, List.getElem?_cons_succ, Option.getD_some]
@[simp] theorem n8_64 (s : List V) (H : Heap) : evCode P Γ call n f m (cAt [1, 1, 1, 1, 1, 1, 0] B8) s H = regNext (evOpsGo P Γ call r8_64.1 r8_64.1 s H) := at_region (by kernel_rfl) r8_64.2 s H
attribute [simp] r8_64
@[simp] theorem n8_65 (s : List V) (H : Heap) : evCode P Γ call n f m (cAt [1, 1, 1, 1, 1, 1, 1] B8) s H = some (.ret, s, H) := at_ret (by kernel_rfl) s H
theorem b8 {k : Nat} (ho : ∀ args H, Γ.orc 8 args H = none) (args : List V) (H : Heap) (ha : args.length ≤ 91) : evF Try.prog Γ (k + 1) 8 args H = bodyEnd Try.prog [.cell 4 27, .tmp 5] H.length (evCode Try.prog Γ (evF Try.prog Γ k) k 8 H.length (cAt [] B8) (mkL 91 V.undef (enumV 0 args)) H) := body_at Try.func8 (by decide) rfl ho rfl rfl args H ha
noncomputable def B10 : Code := bodyOf Try.f10
@[simp] theorem n10_1 (s : List V) (H : Heap) : evCode P Γ call n f m (cAt [] B10) s H = seqNext P Γ call n f m (cAt [1] B10) (evCode P Γ call n f m (cAt [0] B10) s H) := at_seq (by kernel_rfl) rfl rfl s H
noncomputable def r10_2 : {l : List Oper // opsOf (cAt [0] B10) = l} := by
  apply Subtype.mk
  dsimp only [opsOf, cAt, kids, B10, bodyOf, Try.f10, List.getD, List.getElem?_cons_zero, List.getElem?_cons_succ, Option.getD_some]
@[simp] theorem n10_2 (s : List V) (H : Heap) : evCode P Γ call n f m (cAt [0] B10) s H = regNext (evOpsGo P Γ call r10_2.1 r10_2.1 s H) := at_region (by kernel_rfl) r10_2.2 s H
attribute [simp] r10_2
@[simp] theorem n10_3 (s : List V) (H : Heap) : evCode P Γ call n f m (cAt [1] B10) s H = seqNext P Γ call n f m (cAt [1, 1] B10) (evCode P Γ call n f m (cAt [1, 0] B10) s H) := at_seq (by kernel_rfl) rfl rfl s H
noncomputable def r10_4 : {l : List Oper // opsOf (cAt [1, 0] B10) = l} := by
  apply Subtype.mk
  dsimp only [opsOf, cAt, kids, B10, bodyOf, Try.f10, List.getD, List.getElem?_cons_zero, List.getElem?_cons_succ, Option.getD_some]
@[simp] theorem n10_4 (s : List V) (H : Heap) : evCode P Γ call n f m (cAt [1, 0] B10) s H = regNext (evOpsGo P Γ call r10_4.1 r10_4.1 s H) := at_region (by kernel_rfl) r10_4.2 s H
attribute [simp] r10_4
@[simp] theorem n10_5 (s : List V) (H : Heap) : evCode P Γ call n f m (cAt [1, 1] B10) s H = seqNext P Γ call n f m (cAt [1, 1, 1] B10) (evCode P Γ call n f m (cAt [1, 1, 0] B10) s H) := at_seq (by kernel_rfl) rfl rfl s H
@[simp] theorem n10_6 (s : List V) (H : Heap) : evCode P Γ call n f m (cAt [1, 1, 0] B10) s H = seqNext P Γ call n f m (cAt [1, 1, 0, 1] B10) (evCode P Γ call n f m (cAt [1, 1, 0, 0] B10) s H) := at_seq (by kernel_rfl) rfl rfl s H
noncomputable def r10_7 : {l : List Oper // opsOf (cAt [1, 1, 0, 0] B10) = l} := by
  apply Subtype.mk
  dsimp only [opsOf, cAt, kids, B10, bodyOf, Try.f10, List.getD, List.getElem?_cons_zero, List.getElem?_cons_succ, Option.getD_some]
@[simp] theorem n10_7 (s : List V) (H : Heap) : evCode P Γ call n f m (cAt [1, 1, 0, 0] B10) s H = regNext (evOpsGo P Γ call r10_7.1 r10_7.1 s H) := at_region (by kernel_rfl) r10_7.2 s H
attribute [simp] r10_7
@[simp] theorem n10_8 (s : List V) (H : Heap) : evCode P Γ call n f m (cAt [1, 1, 0, 1] B10) s H = condW P Γ call n f m (cAt [1, 1, 0, 1, 0] B10) (cAt [1, 1, 0, 1, 1] B10) s H (evOperand Γ s (.tmp 18)) := at_cond (by kernel_rfl) (by kernel_rfl) rfl rfl s H
@[simp] theorem n10_9 (s : List V) (H : Heap) : evCode P Γ call n f m (cAt [1, 1, 0, 1, 0] B10) s H = seqNext P Γ call n f m (cAt [1, 1, 0, 1, 0, 1] B10) (evCode P Γ call n f m (cAt [1, 1, 0, 1, 0, 0] B10) s H) := at_seq (by kernel_rfl) rfl rfl s H
noncomputable def r10_10 : {l : List Oper // opsOf (cAt [1, 1, 0, 1, 0, 0] B10) = l} := by
  apply Subtype.mk
  dsimp only [opsOf, cAt, kids, B10, bodyOf, Try.f10, List.getD, List.getElem?_cons_zero, List.getElem?_cons_succ, Option.getD_some]
@[simp] theorem n10_10 (s : List V) (H : Heap) : evCode P Γ call n f m (cAt [1, 1, 0, 1, 0, 0] B10) s H = regNext (evOpsGo P Γ call r10_10.1 r10_10.1 s H) := at_region (by kernel_rfl) r10_10.2 s H
attribute [simp] r10_10
@[simp] theorem n10_11 (s : List V) (H : Heap) : evCode P Γ call n f m (cAt [1, 1, 0, 1, 0, 1] B10) s H = some (.ret, s, H) := at_ret (by kernel_rfl) s H
@[simp] theorem n10_12 (s : List V) (H : Heap) : evCode P Γ call n f m (cAt [1, 1, 0, 1, 1] B10) s H = some (.normal, s, H) := at_skip (by kernel_rfl) s H
@[simp] theorem n10_13 (s : List V) (H : Heap) : evCode P Γ call n f m (cAt [1, 1, 1] B10) s H = seqNext P Γ call n f m (cAt [1, 1, 1, 1] B10) (evCode P Γ call n f m (cAt [1, 1, 1, 0] B10) s H) := at_seq (by kernel_rfl) rfl rfl s H
noncomputable def r10_14 : {l : List Oper // opsOf (cAt [1, 1, 1, 0] B10) = l} := by
  apply Subtype.mk
  dsimp only [opsOf, cAt, kids, B10, bodyOf, Try.f10, List.getD, List.getElem?_cons_zero, List.getElem?_cons_succ, Option.getD_some]
@[simp] theorem n10_14 (s : List V) (H : Heap) : evCode P Γ call n f m (cAt [1, 1, 1, 0] B10) s H = regNext (evOpsGo P Γ call r10_14.1 r10_14.1 s H) := at_region (by kernel_rfl) r10_14.2 s H
attribute [simp] r10_14
@[simp] theorem n10_15 (s : List V) (H : Heap) : evCode P Γ call n f m (cAt [1, 1, 1, 1] B10) s H = seqNext P Γ call n f m (cAt [1, 1, 1, 1, 1] B10) (evCode P Γ call n f m (cAt [1, 1, 1, 1, 0] B10) s H) := at_seq (by kernel_rfl) rfl rfl s H
@[simp] theorem n10_16 (s : List V) (H : Heap) : evCode P Γ call n f m (cAt [1, 1, 1, 1, 0] B10) s H = seqNext P Γ call n f m (cAt [1, 1, 1, 1, 0, 1] B10) (evCode P Γ call n f m (cAt [1, 1, 1, 1, 0, 0] B10) s H) := at_seq (by kernel_rfl) rfl rfl s H
noncomputable def r10_17 : {l : List Oper // opsOf (cAt [1, 1, 1, 1, 0, 0] B10) = l} := by
  apply Subtype.mk
  dsimp only [opsOf, cAt, kids, B10, bodyOf, Try.f10, List.getD, List.getElem?_cons_zero, List.getElem?_cons_succ, Option.getD_some]
@[simp] theorem n10_17 (s : List V) (H : Heap) : evCode P Γ call n f m (cAt [1, 1, 1, 1, 0, 0] B10) s H = regNext (evOpsGo P Γ call r10_17.1 r10_17.1 s H) := at_region (by kernel_rfl) r10_17.2 s H
attribute [simp] r10_17
@[simp] theorem n10_18 (s : List V) (H : Heap) : evCode P Γ call n f m (cAt [1, 1, 1, 1, 0, 1] B10) s H = condW P Γ call n f m (cAt [1, 1, 1, 1, 0, 1, 0] B10) (cAt [1, 1, 1, 1, 0, 1, 1] B10) s H (evOperand Γ s (.tmp 27)) := at_cond (by kernel_rfl) (by kernel_rfl) rfl rfl s H
@[simp] theorem n10_19 (s : List V) (H : Heap) : evCode P Γ call n f m (cAt [1, 1, 1, 1, 0, 1, 0] B10) s H = seqNext P Γ call n f m (cAt [1, 1, 1, 1, 0, 1, 0, 1] B10) (evCode P Γ call n f m (cAt [1, 1, 1, 1, 0, 1, 0, 0] B10) s H) := at_seq (by kernel_rfl) rfl rfl s H
noncomputable def r10_20 : {l : List Oper // opsOf (cAt [1, 1, 1, 1, 0, 1, 0, 0] B10) = l} := by
  apply Subtype.mk
  dsimp only [opsOf, cAt, kids, B10, bodyOf, Try.f10, List.getD, List.getElem?_cons_zero, List.getElem?_cons_succ, Option.getD_some]
@[simp] theorem n10_20 (s : List V) (H : Heap) : evCode P Γ call n f m (cAt [1, 1, 1, 1, 0, 1, 0, 0] B10) s H = regNext (evOpsGo P Γ call r10_20.1 r10_20.1 s H) := at_region (by kernel_rfl) r10_20.2 s H
attribute [simp] r10_20
@[simp] theorem n10_21 (s : List V) (H : Heap) : evCode P Γ call n f m (cAt [1, 1, 1, 1, 0, 1, 0, 1] B10) s H = some (.ret, s, H) := at_ret (by kernel_rfl) s H
@[simp] theorem n10_22 (s : List V) (H : Heap) : evCode P Γ call n f m (cAt [1, 1, 1, 1, 0, 1, 1] B10) s H = some (.normal, s, H) := at_skip (by kernel_rfl) s H
@[simp] theorem n10_23 (s : List V) (H : Heap) : evCode P Γ call n f m (cAt [1, 1, 1, 1, 1] B10) s H = seqNext P Γ call n f m (cAt [1, 1, 1, 1, 1, 1] B10) (evCode P Γ call n f m (cAt [1, 1, 1, 1, 1, 0] B10) s H) := at_seq (by kernel_rfl) rfl rfl s H
@[simp] theorem n10_24 (s : List V) (H : Heap) : evCode P Γ call n f m (cAt [1, 1, 1, 1, 1, 0] B10) s H = seqNext P Γ call n f m (cAt [1, 1, 1, 1, 1, 0, 1] B10) (evCode P Γ call n f m (cAt [1, 1, 1, 1, 1, 0, 0] B10) s H) := at_seq (by kernel_rfl) rfl rfl s H
noncomputable def r10_25 : {l : List Oper // opsOf (cAt [1, 1, 1, 1, 1, 0, 0] B10) = l} := by
  apply Subtype.mk
  dsimp only [opsOf, cAt, kids, B10, bodyOf, Try.f10, List.getD, List.getElem?_cons_zero, List.getElem?_cons_succ, Option.getD_some]
@[simp] theorem n10_25 (s : List V) (H : Heap) : evCode P Γ call n f m (cAt [1, 1, 1, 1, 1, 0, 0] B10) s H = regNext (evOpsGo P Γ call r10_25.1 r10_25.1 s H) := at_region (by kernel_rfl) r10_25.2 s H
attribute [simp] r10_25
@[simp] theorem n10_26 (s : List V) (H : Heap) : evCode P Γ call n f m (cAt [1, 1, 1, 1, 1, 0, 1] B10) s H = condW P Γ call n f m (cAt [1, 1, 1, 1, 1, 0, 1, 0] B10) (cAt [1, 1, 1, 1, 1, 0, 1, 1] B10) s H (evOperand Γ s (.tmp 39)) := at_cond (by kernel_rfl) (by kernel_rfl) rfl rfl s H
@[simp] theorem n10_27 (s : List V) (H : Heap) : evCode P Γ call n f m (cAt [1, 1, 1, 1, 1, 0, 1, 0] B10) s H = seqNext P Γ call n f m (cAt [1, 1, 1, 1, 1, 0, 1, 0, 1] B10) (evCode P Γ call n f m (cAt [1, 1, 1, 1, 1, 0, 1, 0, 0] B10) s H) := at_seq (by kernel_rfl) rfl rfl s H
noncomputable def r10_28 : {l : List Oper // opsOf (cAt [1, 1, 1, 1, 1, 0, 1, 0, 0] B10) = l} := by
  apply Subtype.mk
  dsimp only [opsOf, cAt, kids, B10, bodyOf, Try.f10, List.getD, List.getElem?_cons_zero, List.getElem?_cons_succ, Option.getD_some]
@[simp] theorem n10_28 (s : List V) (H : Heap) : evCode P Γ call n f m (cAt [1, 1, 1, 1, 1, 0, 1, 0, 0] B10) s H = regNext (evOpsGo P Γ call r10_28.1 r10_28.1 s H) := at_region (by kernel_rfl) r10_28.2 s H
attribute [simp] r10_28
@[simp] theorem n10_29 (s : List V) (H : Heap) : evCode P Γ call n f m (cAt [1, 1, 1, 1, 1, 0, 1, 0, 1] B10) s H = some (.ret, s, H) := at_ret (by kernel_rfl) s H
@[simp] theorem n10_30 (s : List V) (H : Heap) : evCode P Γ call n f m (cAt [1, 1, 1, 1, 1, 0, 1, 1] B10) s H = some (.normal, s, H) := at_skip (by kernel_rfl) s H
@[simp] theorem n10_31 (s : List V) (H : Heap) : evCode P Γ call n f m (cAt [1, 1, 1, 1, 1, 1] B10) s H = seqNext P Γ call n f m (cAt [1, 1, 1, 1, 1, 1, 1] B10) (evCode P Γ call n f m (cAt [1, 1, 1, 1, 1, 1, 0] B10) s H) := at_seq (by kernel_rfl) rfl rfl s H
noncomputable def r10_32 : {l : List Oper // opsOf (cAt [1, 1, 1, 1, 1, 1, 0] B10) = l} := by
  apply Subtype.mk
  dsimp only [opsOf, cAt, kids, B10, bodyOf, Try.f10, List.getD, List.getElem?_cons_zero, List.getElem?_cons_succ, Option.getD_some]
@[simp] theorem n10_32 (s : List V) (H : Heap) : evCode P Γ call n f m (cAt [1, 1, 1, 1, 1, 1, 0] B10) s H = regNext (evOpsGo P Γ call r10_32.1 r10_32.1 s H) := at_region (by kernel_rfl) r10_32.2 s H
attribute [simp] r10_32
@[simp] theorem n10_33 (s : List V) (H : Heap) : evCode P Γ call n f m (cAt [1, 1, 1, 1, 1, 1, 1] B10) s H = seqNext P Γ call n f m (cAt [1, 1, 1, 1, 1, 1, 1, 1] B10) (evCode P Γ call n f m (cAt [1, 1, 1, 1, 1, 1, 1, 0] B10) s H) := at_seq (by kernel_rfl) rfl rfl s H
@[simp] theorem n10_34 (s : List V) (H : Heap) : evCode P Γ call n f m (cAt [1, 1, 1, 1, 1, 1, 1, 0] B10) s H = seqNext P Γ call n f m (cAt [1, 1, 1, 1, 1, 1, 1, 0, 1] B10) (evCode P Γ call n f m (cAt [1, 1, 1, 1, 1, 1, 1, 0, 0] B10) s H) := at_seq (by kernel_rfl) rfl rfl s H
noncomputable def r10_35 : {l : List Oper // opsOf (cAt [1, 1, 1, 1, 1, 1, 1, 0, 0] B10) = l} := by
  apply Subtype.mk
  dsimp only [opsOf, cAt, kids, B10, bodyOf, Try.f10, List.getD, List.getElem?_cons_zero, List.getElem?_cons_succ, Option.getD_some]
@[simp] theorem n10_35 (s : List V) (H : Heap) : evCode P Γ call n f m (cAt [1, 1, 1, 1, 1, 1, 1, 0, 0] B10) s H = regNext (evOpsGo P Γ call r10_35.1 r10_35.1 s H) := at_region (by kernel_rfl) r10_35.2 s H
attribute [simp] r10_35
@[simp] theorem n10_36 (s : List V) (H : Heap) : evCode P Γ call n f m (cAt [1, 1, 1, 1, 1, 1, 1, 0, 1] B10) s H = blockNext 0 (evCode P Γ call n f m (cAt [1, 1, 1, 1, 1, 1, 1, 0, 1, 0] B10) s H) := at_block (by kernel_rfl) rfl s H
@[simp] theorem n10_37 (s : List V) (H : Heap) : evCode P Γ call n f m (cAt [1, 1, 1, 1, 1, 1, 1, 0, 1, 0] B10) s H = evLoopC P Γ call n f m (cAt [1, 1, 1, 1, 1, 1, 1, 0, 1, 0, 0] B10) n s H := at_loop (by kernel_rfl) rfl s H
noncomputable abbrev L10_11 : Code := cAt [1, 1, 1, 1, 1, 1, 1, 0, 1, 0, 0] B10
@[simp] theorem n10_37f : firstRegion (cAt [1, 1, 1, 1, 1, 1, 1, 0, 1, 0, 0] B10) = 11 := by kernel_rfl
@[simp] theorem n10_38 (s : List V) (H : Heap) : evCode P Γ call n f m (cAt [1, 1, 1, 1, 1, 1, 1, 0, 1, 0, 0] B10) s H = seqNext P Γ call n f m (cAt [1, 1, 1, 1, 1, 1, 1, 0, 1, 0, 0, 1] B10) (evCode P Γ call n f m (cAt [1, 1, 1, 1, 1, 1, 1, 0, 1, 0, 0, 0] B10) s H) := at_seq (by kernel_rfl) rfl rfl s H
noncomputable def r10_39 : {l : List Oper // opsOf (cAt [1, 1, 1, 1, 1, 1, 1, 0, 1, 0, 0, 0] B10) = l} := by
  apply Subtype.mk
  dsimp only [opsOf, cAt, kids, B10, bodyOf, Try.f10, List.getD, List.getElem?_cons_zero, List.getElem?_cons_succ, Option.getD_some]
@[simp] theorem n10_39 (s : List V) (H : Heap) : evCode P Γ call n f m (cAt [1, 1, 1, 1, 1, 1, 1, 0, 1, 0, 0, 0] B10) s H = regNext (evOpsGo P Γ call r10_39.1 r10_39.1 s H) := at_region (by kernel_rfl) r10_39.2 s H
attribute [simp] r10_39
@[simp] theorem n10_40 (s : List V) (H : Heap) : evCode P Γ call n f m (cAt [1, 1, 1, 1, 1, 1, 1, 0, 1, 0, 0, 1] B10) s H = seqNext P Γ call n f m (cAt [1, 1, 1, 1, 1, 1, 1, 0, 1, 0, 0, 1, 1] B10) (evCode P Γ call n f m (cAt [1, 1, 1, 1, 1, 1, 1, 0, 1, 0, 0, 1, 0] B10) s H) := at_seq (by kernel_rfl) rfl rfl s H
@[simp] theorem n10_41 (s : List V) (H : Heap) : evCode P Γ call n f m (cAt [1, 1, 1, 1, 1, 1, 1, 0, 1, 0, 0, 1, 0] B10) s H = condW P Γ call n f m (cAt [1, 1, 1, 1, 1, 1, 1, 0, 1, 0, 0, 1, 0, 0] B10) (cAt [1, 1, 1, 1, 1, 1, 1, 0, 1, 0, 0, 1, 0, 1] B10) s H (evOperand Γ s (.tmp 48)) := at_cond (by kernel_rfl) (by kernel_rfl) rfl rfl s H
@[simp] theorem n10_42 (s : List V) (H : Heap) : evCode P Γ call n f m (cAt [1, 1, 1, 1, 1, 1, 1, 0, 1, 0, 0, 1, 0, 0] B10) s H = some (.normal, s, H) := at_skip (by kernel_rfl) s H
@[simp] theorem n10_43 (s : List V) (H : Heap) : evCode P Γ call n f m (cAt [1, 1, 1, 1, 1, 1, 1, 0, 1, 0, 0, 1, 0, 1] B10) s H = some (.exit 0, s, H) := at_exit (by kernel_rfl) s H
@[simp] theorem n10_44 (s : List V) (H : Heap) : evCode P Γ call n f m (cAt [1, 1, 1, 1, 1, 1, 1, 0, 1, 0, 0, 1, 1] B10) s H = seqNext P Γ call n f m (cAt [1, 1, 1, 1, 1, 1, 1, 0, 1, 0, 0, 1, 1, 1] B10) (evCode P Γ call n f m (cAt [1, 1, 1, 1, 1, 1, 1, 0, 1, 0, 0, 1, 1, 0] B10) s H) := at_seq (by kernel_rfl) rfl rfl s H
@[simp] theorem n10_45 (s : List V) (H : Heap) : evCode P Γ call n f m (cAt [1, 1, 1, 1, 1, 1, 1, 0, 1, 0, 0, 1, 1, 0] B10) s H = blockNext 1 (evCode P Γ call n f m (cAt [1, 1, 1, 1, 1, 1, 1, 0, 1, 0, 0, 1, 1, 0, 0] B10) s H) := at_block (by kernel_rfl) rfl s H
@[simp] theorem n10_46 (s : List V) (H : Heap) : evCode P Γ call n f m (cAt [1, 1, 1, 1, 1, 1, 1, 0, 1, 0, 0, 1, 1, 0, 0] B10) s H = seqNext P Γ call n f m (cAt [1, 1, 1, 1, 1, 1, 1, 0, 1, 0, 0, 1, 1, 0, 0, 1] B10) (evCode P Γ call n f m (cAt [1, 1, 1, 1, 1, 1, 1, 0, 1, 0, 0, 1, 1, 0, 0, 0] B10) s H) := at_seq (by kernel_rfl) rfl rfl s H
noncomputable def r10_47 : {l : List Oper // opsOf (cAt [1, 1, 1, 1, 1, 1, 1, 0, 1, 0, 0, 1, 1, 0, 0, 0] B10) = l} := by
  apply Subtype.mk
  dsimp only [opsOf, cAt, kids, B10, bodyOf, Try.f10, List.getD, List.getElem?_cons_zero, List.getElem?_cons_succ, Option.getD_some]
@[simp] theorem n10_47 (s : List V) (H : Heap) : evCode P Γ call n f m (cAt [1, 1, 1, 1, 1, 1, 1, 0, 1, 0, 0, 1, 1, 0, 0, 0] B10) s H = regNext (evOpsGo P Γ call r10_47.1 r10_47.1 s H) := at_region (by kernel_rfl) r10_47.2 s H
attribute [simp] r10_47
@[simp] theorem n10_48 (s : List V) (H : Heap) : evCode P Γ call n f m (cAt [1, 1, 1, 1, 1, 1, 1, 0, 1, 0, 0, 1, 1, 0, 0, 1] B10) s H = seqNext P Γ call n f m (cAt [1, 1, 1, 1, 1, 1, 1, 0, 1, 0, 0, 1, 1, 0, 0, 1, 1] B10) (evCode P Γ call n f m (cAt [1, 1, 1, 1, 1, 1, 1, 0, 1, 0, 0, 1, 1, 0, 0, 1, 0] B10) s H) := at_seq (by kernel_rfl) rfl rfl s H
@[simp] theorem n10_49 (s : List V) (H : Heap) : evCode P Γ call n f m (cAt [1, 1, 1, 1, 1, 1, 1, 0, 1, 0, 0, 1, 1, 0, 0, 1, 0] B10) s H = seqNext P Γ call n f m (cAt [1, 1, 1, 1, 1, 1, 1, 0, 1, 0, 0, 1, 1, 0, 0, 1, 0, 1] B10) (evCode P Γ call n f m (cAt [1, 1, 1, 1, 1, 1, 1, 0, 1, 0, 0, 1, 1, 0, 0, 1, 0, 0] B10) s H) := at_seq (by kernel_rfl) rfl rfl s H
noncomputable def r10_50 : {l : List Oper // opsOf (cAt [1, 1, 1, 1, 1, 1, 1, 0, 1, 0, 0, 1, 1, 0, 0, 1, 0, 0] B10) = l} := by
  apply Subtype.mk
  dsimp only [opsOf, cAt, kids, B10, bodyOf, Try.f10, List.getD, List.getElem?_cons_zero, List.getElem?_cons_succ, Option.getD_some]
@[simp] theorem n10_50 (s : List V) (H : Heap) : evCode P Γ call n f m (cAt [1, 1, 1, 1, 1, 1, 1, 0, 1, 0, 0, 1, 1, 0, 0, 1, 0, 0] B10) s H = regNext (evOpsGo P Γ call r10_50.1 r10_50.1 s H) := at_region (by kernel_rfl) r10_50.2 s H
attribute [simp] r10_50
@[simp] theorem n10_51 (s : List V) (H : Heap) : evCode P Γ call n f m (cAt [1, 1, 1, 1, 1, 1, 1, 0, 1, 0, 0, 1, 1, 0, 0, 1, 0, 1] B10) s H = condW P Γ call n f m (cAt [1, 1, 1, 1, 1, 1, 1, 0, 1, 0, 0, 1, 1, 0, 0, 1, 0, 1, 0] B10) (cAt [1, 1, 1, 1, 1, 1, 1, 0, 1, 0, 0, 1, 1, 0, 0, 1, 0, 1, 1] B10) s H (evOperand Γ s (.tmp 53)) := at_cond (by kernel_rfl) (by kernel_rfl) rfl rfl s H
noncomputable def r10_52 : {l : List Oper // opsOf (cAt [1, 1, 1, 1, 1, 1, 1, 0, 1, 0, 0, 1, 1, 0, 0, 1, 0, 1, 0] B10) = l} := by
  apply Subtype.mk
  dsimp only [opsOf, cAt, kids, B10, bodyOf, Try.f10, List.getD, List.getElem?_cons_zero, List.getElem?_cons_succ, Option.getD_some]
@[simp] theorem n10_52 (s : List V) (H : Heap) : evCode P Γ call n f m (cAt [1, 1, 1, 1, 1, 1, 1, 0, 1, 0, 0, 1, 1, 0, 0, 1, 0, 1, 0] B10) s H = regNext (evOpsGo P Γ call r10_52.1 r10_52.1 s H) := at_region (by kernel_rfl) r10_52.2 s H
attribute [simp] r10_52
@[simp] theorem n10_53 (s : List V) (H : Heap) : evCode P Γ call n f m (cAt [1, 1, 1, 1, 1, 1, 1, 0, 1, 0, 0, 1, 1, 0, 0, 1, 0, 1, 1] B10) s H = some (.normal, s, H) := at_skip (by kernel_rfl) s H
@[simp] theorem n10_54 (s : List V) (H : Heap) : evCode P Γ call n f m (cAt [1, 1, 1, 1, 1, 1, 1, 0, 1, 0, 0, 1, 1, 0, 0, 1, 1] B10) s H = seqNext P Γ call n f m (cAt [1, 1, 1, 1, 1, 1, 1, 0, 1, 0, 0, 1, 1, 0, 0, 1, 1, 1] B10) (evCode P Γ call n f m (cAt [1, 1, 1, 1, 1, 1, 1, 0, 1, 0, 0, 1, 1, 0, 0, 1, 1, 0] B10) s H) := at_seq (by kernel_rfl) rfl rfl s H
noncomputable def r10_55 : {l : List Oper // opsOf (cAt [1, 1, 1, 1, 1, 1, 1, 0, 1, 0, 0, 1, 1, 0, 0, 1, 1, 0] B10) = l} := by
  apply Subtype.mk
  dsimp only [opsOf, cAt, kids, B10, bodyOf, Try.f10, List.getD, List.getElem?_cons_zero, List.getElem?_cons_succ, Option.getD_some]
@[simp] theorem n10_55 (s : List V) (H : Heap) : evCode P Γ call n f m (cAt [1, 1, 1, 1, 1, 1, 1, 0, 1, 0, 0, 1, 1, 0, 0, 1, 1, 0] B10) s H = regNext (evOpsGo P Γ call r10_55.1 r10_55.1 s H) := at_region (by kernel_rfl) r10_55.2 s H
attribute [simp] r10_55
noncomputable def r10_56 : {l : List Oper // opsOf (cAt [1, 1, 1, 1, 1, 1, 1, 0, 1, 0, 0, 1, 1, 0, 0, 1, 1, 1] B10) = l} := by
  apply Subtype.mk
  dsimp only [opsOf, cAt, kids, B10, bodyOf, Try.f10, List.getD, List.getElem?_cons_zero, List.getElem?_cons_succ, Option.getD_some]
@[simp] theorem n10_56 (s : List V) (H : Heap) : evCode P Γ call n f m (cAt [1, 1, 1, 1, 1, 1, 1, 0, 1, 0, 0, 1, 1, 0, 0, 1, 1, 1] B10) s H = regNext (evOpsGo P Γ call r10_56.1 r10_56.1 s H) := at_region (by kernel_rfl) r10_56.2 s H
attribute [simp] r10_56
noncomputable def r10_57 : {l : List Oper // opsOf (cAt [1, 1, 1, 1, 1, 1, 1, 0, 1, 0, 0, 1, 1, 1] B10) = l} := by
  apply Subtype.mk
  dsimp only [opsOf, cAt, kids, B10, bodyOf, Try.f10, List.getD, List.getElem?_cons_zero, List.getElem?_cons_succ, Option.getD_some]
@[simp] theorem n10_57 (s : List V) (H : Heap) : evCode P Γ call n f m (cAt [1, 1, 1, 1, 1, 1, 1, 0, 1, 0, 0, 1, 1, 1] B10) s H = regNext (evOpsGo P Γ call r10_57.1 r10_57.1 s H) := at_region (by kernel_rfl) r10_57.2 s H
attribute [simp] r10_57
@[simp] theorem n10_58 (s : List V) (H : Heap) : evCode P Γ call n f m (cAt [1, 1, 1, 1, 1, 1, 1, 1] B10) s H = seqNext P Γ call n f m (cAt [1, 1, 1, 1, 1, 1, 1, 1, 1] B10) (evCode P Γ call n f m (cAt [1, 1, 1, 1, 1, 1, 1, 1, 0] B10) s H) := at_seq (by kernel_rfl) rfl rfl s H
noncomputable def r10_59 : {l : List Oper // opsOf (cAt [1, 1, 1, 1, 1, 1, 1, 1, 0] B10) = l} := by
  apply Subtype.mk
  dsimp only [opsOf, cAt, kids, B10, bodyOf, Try.f10, List.getD, List.getElem?_cons_zero, List.getElem?_cons_succ, Option.getD_some]
@[simp] theorem n10_59 (s : List V) (H : Heap) : evCode P Γ call n f m (cAt [1, 1, 1, 1, 1, 1, 1, 1, 0] B10) s H = regNext (evOpsGo P Γ call r10_59.1 r10_59.1 s H) := at_region (by kernel_rfl) r10_59.2 s H
attribute [simp] r10_59
@[simp] theorem n10_60 (s : List V) (H : Heap) : evCode P Γ call n f m (cAt [1, 1, 1, 1, 1, 1, 1, 1, 1] B10) s H = some (.ret, s, H) := at_ret (by kernel_rfl) s H
theorem b10 {k : Nat} (ho : ∀ args H, Γ.orc 10 args H = none) (args : List V) (H : Heap) (ha : args.length ≤ 71) : evF Try.prog Γ (k + 1) 10 args H = bodyEnd Try.prog [.cell 4 27, .tmp 5] H.length (evCode Try.prog Γ (evF Try.prog Γ k) k 10 H.length (cAt [] B10) (mkL 71 V.undef (enumV 0 args)) H) := body_at Try.func10 (by decide) rfl ho rfl rfl args H ha
noncomputable def B12 : Code := bodyOf Try.f12
@[simp] theorem n12_1 (s : List V) (H : Heap) : evCode P Γ call n f m (cAt [] B12) s H = seqNext P Γ call n f m (cAt [1] B12) (evCode P Γ call n f m (cAt [0] B12) s H) := at_seq (by kernel_rfl) rfl rfl s H
noncomputable def r12_2 : {l : List Oper // opsOf (cAt [0] B12) = l} := by
  apply Subtype.mk
  dsimp only [opsOf, cAt, kids, B12, bodyOf, Try.f12, List.getD, List.getElem?_cons_zero, List.getElem?_cons_succ, Option.getD_some]
@[simp] theorem n12_2 (s : List V) (H : Heap) : evCode P Γ call n f m (cAt [0] B12) s H = regNext (evOpsGo P Γ call r12_2.1 r12_2.1 s H) := at_region (by kernel_rfl) r12_2.2 s H
attribute [simp] r12_2
@[simp] theorem n12_3 (s : List V) (H : Heap) : evCode P Γ call n f m (cAt [1] B12) s H = seqNext P Γ call n f m (cAt [1, 1] B12) (evCode P Γ call n f m (cAt [1, 0] B12) s H) := at_seq (by kernel_rfl) rfl rfl s H
noncomputable def r12_4 : {l : List Oper // opsOf (cAt [1, 0] B12) = l} := by
  apply Subtype.mk
  dsimp only [opsOf, cAt, kids, B12, bodyOf, Try.f12, List.getD, List.getElem?_cons_zero, List.getElem?_cons_succ, Option.getD_some]
@[simp] theorem n12_4 (s : List V) (H : Heap) : evCode P Γ call n f m (cAt [1, 0] B12) s H = regNext (evOpsGo P Γ call r12_4.1 r12_4.1 s H) := at_region (by kernel_rfl) r12_4.2 s H
attribute [simp] r12_4
@[simp] theorem n12_5 (s : List V) (H : Heap) : evCode P Γ call n f m (cAt [1, 1] B12) s H = some (.ret, s, H) := at_ret (by kernel_rfl) s H
theorem b12 {k : Nat} (ho : ∀ args H, Γ.orc 12 args H = none) (args : List V) (H : Heap) (ha : args.length ≤ 17) : evF Try.prog Γ (k + 1) 12 args H = bodyEnd Try.prog [.tmp 4] H.length (evCode Try.prog Γ (evF Try.prog Γ k) k 12 H.length (cAt [] B12) (mkL 17 V.undef (enumV 0 args)) H) := body_at Try.func12 (by decide) rfl ho rfl rfl args H ha
noncomputable def B18 : Code := bodyOf Try.f18
@[simp] theorem n18_1 (s : List V) (H : Heap) : evCode P Γ call n f m (cAt [] B18) s H = seqNext P Γ call n f m (cAt [1] B18) (evCode P Γ call n f m (cAt [0] B18) s H) := at_seq (by kernel_rfl) rfl rfl s H
noncomputable def r18_2 : {l : List Oper // opsOf (cAt [0] B18) = l} := by
  apply Subtype.mk
  dsimp only [opsOf, cAt, kids, B18, bodyOf, Try.f18, List.getD, List.getElem?_cons_zero, List.getElem?_cons_succ, Option.getD_some]
@[simp] theorem n18_2 (s : List V) (H : Heap) : evCode P Γ call n f m (cAt [0] B18) s H = regNext (evOpsGo P Γ call r18_2.1 r18_2.1 s H) := at_region (by kernel_rfl) r18_2.2 s H
attribute [simp] r18_2
@[simp] theorem n18_3 (s : List V) (H : Heap) : evCode P Γ call n f m (cAt [1] B18) s H = seqNext P Γ call n f m (cAt [1, 1] B18) (evCode P Γ call n f m (cAt [1, 0] B18) s H) := at_seq (by kernel_rfl) rfl rfl s H
@[simp] theorem n18_4 (s : List V) (H : Heap) : evCode P Γ call n f m (cAt [1, 0] B18) s H = seqNext P Γ call n f m (cAt [1, 0, 1] B18) (evCode P Γ call n f m (cAt [1, 0, 0] B18) s H) := at_seq (by kernel_rfl) rfl rfl s H
noncomputable def r18_5 : {l : List Oper // opsOf (cAt [1, 0, 0] B18) = l} := by
  apply Subtype.mk
  dsimp only [opsOf, cAt, kids, B18, bodyOf, Try.f18, List.getD, List.getElem?_cons_zero, List.getElem?_cons_succ, Option.getD_some]
@[simp] theorem n18_5 (s : List V) (H : Heap) : evCode P Γ call n f m (cAt [1, 0, 0] B18) s H = regNext (evOpsGo P Γ call r18_5.1 r18_5.1 s H) := at_region (by kernel_rfl) r18_5.2 s H
attribute [simp] r18_5
@[simp] theorem n18_6 (s : List V) (H : Heap) : evCode P Γ call n f m (cAt [1, 0, 1] B18) s H = seqNext P Γ call n f m (cAt [1, 0, 1, 1] B18) (evCode P Γ call n f m (cAt [1, 0, 1, 0] B18) s H) := at_seq (by kernel_rfl) rfl rfl s H
noncomputable def r18_7 : {l : List Oper // opsOf (cAt [1, 0, 1, 0] B18) = l} := by
  apply Subtype.mk
  dsimp only [opsOf, cAt, kids, B18, bodyOf, Try.f18, List.getD, List.getElem?_cons_zero, List.getElem?_cons_succ, Option.getD_some]
@[simp] theorem n18_7 (s : List V) (H : Heap) : evCode P Γ call n f m (cAt [1, 0, 1, 0] B18) s H = regNext (evOpsGo P Γ call r18_7.1 r18_7.1 s H) := at_region (by kernel_rfl) r18_7.2 s H
attribute [simp] r18_7
@[simp] theorem n18_8 (s : List V) (H : Heap) : evCode P Γ call n f m (cAt [1, 0, 1, 1] B18) s H = condW P Γ call n f m (cAt [1, 0, 1, 1, 0] B18) (cAt [1, 0, 1, 1, 1] B18) s H (evOperand Γ s (.tmp 13)) := at_cond (by kernel_rfl) (by kernel_rfl) rfl rfl s H
@[simp] theorem n18_9 (s : List V) (H : Heap) : evCode P Γ call n f m (cAt [1, 0, 1, 1, 0] B18) s H = seqNext P Γ call n f m (cAt [1, 0, 1, 1, 0, 1] B18) (evCode P Γ call n f m (cAt [1, 0, 1, 1, 0, 0] B18) s H) := at_seq (by kernel_rfl) rfl rfl s H
noncomputable def r18_10 : {l : List Oper // opsOf (cAt [1, 0, 1, 1, 0, 0] B18) = l} := by
  apply Subtype.mk
  dsimp only [opsOf, cAt, kids, B18, bodyOf, Try.f18, List.getD, List.getElem?_cons_zero, List.getElem?_cons_succ, Option.getD_some]
@[simp] theorem n18_10 (s : List V) (H : Heap) : evCode P Γ call n f m (cAt [1, 0, 1, 1, 0, 0] B18) s H = regNext (evOpsGo P Γ call r18_10.1 r18_10.1 s H) := at_region (by kernel_rfl) r18_10.2 s H
attribute [simp] r18_10
@[simp] theorem n18_11 (s : List V) (H : Heap) : evCode P Γ call n f m (cAt [1, 0, 1, 1, 0, 1] B18) s H = some (.ret, s, H) := at_ret (by kernel_rfl) s H
@[simp] theorem n18_12 (s : List V) (H : Heap) : evCode P Γ call n f m (cAt [1, 0, 1, 1, 1] B18) s H = some (.normal, s, H) := at_skip (by kernel_rfl) s H
@[simp] theorem n18_13 (s : List V) (H : Heap) : evCode P Γ call n f m (cAt [1, 1] B18) s H = seqNext P Γ call n f m (cAt [1, 1, 1] B18) (evCode P Γ call n f m (cAt [1, 1, 0] B18) s H) := at_seq (by kernel_rfl) rfl rfl s H
noncomputable def r18_14 : {l : List Oper // opsOf (cAt [1, 1, 0] B18) = l} := by
  apply Subtype.mk
  dsimp only [opsOf, cAt, kids, B18, bodyOf, Try.f18, List.getD, List.getElem?_cons_zero, List.getElem?_cons_succ, Option.getD_some]
@[simp] theorem n18_14 (s : List V) (H : Heap) : evCode P Γ call n f m (cAt [1, 1, 0] B18) s H = regNext (evOpsGo P Γ call r18_14.1 r18_14.1 s H) := at_region (by kernel_rfl) r18_14.2 s H
attribute [simp] r18_14
@[simp] theorem n18_15 (s : List V) (H : Heap) : evCode P Γ call n f m (cAt [1, 1, 1] B18) s H = seqNext P Γ call n f m (cAt [1, 1, 1, 1] B18) (evCode P Γ call n f m (cAt [1, 1, 1, 0] B18) s H) := at_seq (by kernel_rfl) rfl rfl s H
@[simp] theorem n18_16 (s : List V) (H : Heap) : evCode P Γ call n f m (cAt [1, 1, 1, 0] B18) s H = seqNext P Γ call n f m (cAt [1, 1, 1, 0, 1] B18) (evCode P Γ call n f m (cAt [1, 1, 1, 0, 0] B18) s H) := at_seq (by kernel_rfl) rfl rfl s H
noncomputable def r18_17 : {l : List Oper // opsOf (cAt [1, 1, 1, 0, 0] B18) = l} := by
  apply Subtype.mk
  dsimp only [opsOf, cAt, kids, B18, bodyOf, Try.f18, List.getD, List.getElem?_cons_zero, List.getElem?_cons_succ, Option.getD_some]
@[simp] theorem n18_17 (s : List V) (H : Heap) : evCode P Γ call n f m (cAt [1, 1, 1, 0, 0] B18) s H = regNext (evOpsGo P Γ call r18_17.1 r18_17.1 s H) := at_region (by kernel_rfl) r18_17.2 s H
attribute [simp] r18_17
@[simp] theorem n18_18 (s : List V) (H : Heap) : evCode P Γ call n f m (cAt [1, 1, 1, 0, 1] B18) s H = blockNext 0 (evCode P Γ call n f m (cAt [1, 1, 1, 0, 1, 0] B18) s H) := at_block (by kernel_rfl) rfl s H
@[simp] theorem n18_19 (s : List V) (H : Heap) : evCode P Γ call n f m (cAt [1, 1, 1, 0, 1, 0] B18) s H = evLoopC P Γ call n f m (cAt [1, 1, 1, 0, 1, 0, 0] B18) n s H := at_loop (by kernel_rfl) rfl s H
noncomputable abbrev L18_6 : Code := cAt [1, 1, 1, 0, 1, 0, 0] B18
@[simp] theorem n18_19f : firstRegion (cAt [1, 1, 1, 0, 1, 0, 0] B18) = 6 := by kernel_rfl
@[simp] theorem n18_20 (s : List V) (H : Heap) : evCode P Γ call n f m (cAt [1, 1, 1, 0, 1, 0, 0] B18) s H = seqNext P Γ call n f m (cAt [1, 1, 1, 0, 1, 0, 0, 1] B18) (evCode P Γ call n f m (cAt [1, 1, 1, 0, 1, 0, 0, 0] B18) s H) := at_seq (by kernel_rfl) rfl rfl s H
noncomputable def r18_21 : {l : List Oper // opsOf (cAt [1, 1, 1, 0, 1, 0, 0, 0] B18) = l} := by
  apply Subtype.mk
  dsimp only [opsOf, cAt, kids, B18, bodyOf, Try.f18, List.getD, List.getElem?_cons_zero, List.getElem?_cons_succ, Option.getD_some]
@[simp] theorem n18_21 (s : List V) (H : Heap) : evCode P Γ call n f m (cAt [1, 1, 1, 0, 1, 0, 0, 0] B18) s H = regNext (evOpsGo P Γ call r18_21.1 r18_21.1 s H) := at_region (by kernel_rfl) r18_21.2 s H
attribute [simp] r18_21
@[simp] theorem n18_22 (s : List V) (H : Heap) : evCode P Γ call n f m (cAt [1, 1, 1, 0, 1, 0, 0, 1] B18) s H = seqNext P Γ call n f m (cAt [1, 1, 1, 0, 1, 0, 0, 1, 1] B18) (evCode P Γ call n f m (cAt [1, 1, 1, 0, 1, 0, 0, 1, 0] B18) s H) := at_seq (by kernel_rfl) rfl rfl s H
@[simp] theorem n18_23 (s : List V) (H : Heap) : evCode P Γ call n f m (cAt [1, 1, 1, 0, 1, 0, 0, 1, 0] B18) s H = condW P Γ call n f m (cAt [1, 1, 1, 0, 1, 0, 0, 1, 0, 0] B18) (cAt [1, 1, 1, 0, 1, 0, 0, 1, 0, 1] B18) s H (evOperand Γ s (.tmp 19)) := at_cond (by kernel_rfl) (by kernel_rfl) rfl rfl s H
@[simp] theorem n18_24 (s : List V) (H : Heap) : evCode P Γ call n f m (cAt [1, 1, 1, 0, 1, 0, 0, 1, 0, 0] B18) s H = some (.normal, s, H) := at_skip (by kernel_rfl) s H
@[simp] theorem n18_25 (s : List V) (H : Heap) : evCode P Γ call n f m (cAt [1, 1, 1, 0, 1, 0, 0, 1, 0, 1] B18) s H = some (.exit 0, s, H) := at_exit (by kernel_rfl) s H
@[simp] theorem n18_26 (s : List V) (H : Heap) : evCode P Γ call n f m (cAt [1, 1, 1, 0, 1, 0, 0, 1, 1] B18) s H = seqNext P Γ call n f m (cAt [1, 1, 1, 0, 1, 0, 0, 1, 1, 1] B18) (evCode P Γ call n f m (cAt [1, 1, 1, 0, 1, 0, 0, 1, 1, 0] B18) s H) := at_seq (by kernel_rfl) rfl rfl s H
@[simp] theorem n18_27 (s : List V) (H : Heap) : evCode P Γ call n f m (cAt [1, 1, 1, 0, 1, 0, 0, 1, 1, 0] B18) s H = blockNext 1 (evCode P Γ call n f m (cAt [1, 1, 1, 0, 1, 0, 0, 1, 1, 0, 0] B18) s H) := at_block (by kernel_rfl) rfl s H
@[simp] theorem n18_28 (s : List V) (H : Heap) : evCode P Γ call n f m (cAt [1, 1, 1, 0, 1, 0, 0, 1, 1, 0, 0] B18) s H = seqNext P Γ call n f m (cAt [1, 1, 1, 0, 1, 0, 0, 1, 1, 0, 0, 1] B18) (evCode P Γ call n f m (cAt [1, 1, 1, 0, 1, 0, 0, 1, 1, 0, 0, 0] B18) s H) := at_seq (by kernel_rfl) rfl rfl s H
noncomputable def r18_29 : {l : List Oper // opsOf (cAt [1, 1, 1, 0, 1, 0, 0, 1, 1, 0, 0, 0] B18) = l} := by
  apply Subtype.mk
  dsimp only [opsOf, cAt, kids, B18, bodyOf, Try.f18, List.getD, List.getElem?_cons_zero, List.getElem?_cons_succ, Option.getD_some]
@[simp] theorem n18_29 (s : List V) (H : Heap) : evCode P Γ call n f m (cAt [1, 1, 1, 0, 1, 0, 0, 1, 1, 0, 0, 0] B18) s H = regNext (evOpsGo P Γ call r18_29.1 r18_29.1 s H) := at_region (by kernel_rfl) r18_29.2 s H
attribute [simp] r18_29
@[simp] theorem n18_30 (s : List V) (H : Heap) : evCode P Γ call n f m (cAt [1, 1, 1, 0, 1, 0, 0, 1, 1, 0, 0, 1] B18) s H = seqNext P Γ call n f m (cAt [1, 1, 1, 0, 1, 0, 0, 1, 1, 0, 0, 1, 1] B18) (evCode P Γ call n f m (cAt [1, 1, 1, 0, 1, 0, 0, 1, 1, 0, 0, 1, 0] B18) s H) := at_seq (by kernel_rfl) rfl rfl s H
@[simp] theorem n18_31 (s : List V) (H : Heap) : evCode P Γ call n f m (cAt [1, 1, 1, 0, 1, 0, 0, 1, 1, 0, 0, 1, 0] B18) s H = seqNext P Γ call n f m (cAt [1, 1, 1, 0, 1, 0, 0, 1, 1, 0, 0, 1, 0, 1] B18) (evCode P Γ call n f m (cAt [1, 1, 1, 0, 1, 0, 0, 1, 1, 0, 0, 1, 0, 0] B18) s H) := at_seq (by kernel_rfl) rfl rfl s H
noncomputable def r18_32 : {l : List Oper // opsOf (cAt [1, 1, 1, 0, 1, 0, 0, 1, 1, 0, 0, 1, 0, 0] B18) = l} := by
  apply Subtype.mk
  dsimp only [opsOf, cAt, kids, B18, bodyOf, Try.f18, List.getD, List.getElem?_cons_zero, List.getElem?_cons_succ, Option.getD_some]
@[simp] theorem n18_32 (s : List V) (H : Heap) : evCode P Γ call n f m (cAt [1, 1, 1, 0, 1, 0, 0, 1, 1, 0, 0, 1, 0, 0] B18) s H = regNext (evOpsGo P Γ call r18_32.1 r18_32.1 s H) := at_region (by kernel_rfl) r18_32.2 s H
attribute [simp] r18_32
@[simp] theorem n18_33 (s : List V) (H : Heap) : evCode P Γ call n f m (cAt [1, 1, 1, 0, 1, 0, 0, 1, 1, 0, 0, 1, 0, 1] B18) s H = condW P Γ call n f m (cAt [1, 1, 1, 0, 1, 0, 0, 1, 1, 0, 0, 1, 0, 1, 0] B18) (cAt [1, 1, 1, 0, 1, 0, 0, 1, 1, 0, 0, 1, 0, 1, 1] B18) s H (evOperand Γ s (.tmp 24)) := at_cond (by kernel_rfl) (by kernel_rfl) rfl rfl s H
noncomputable def r18_34 : {l : List Oper // opsOf (cAt [1, 1, 1, 0, 1, 0, 0, 1, 1, 0, 0, 1, 0, 1, 0] B18) = l} := by
  apply Subtype.mk
  dsimp only [opsOf, cAt, kids, B18, bodyOf, Try.f18, List.getD, List.getElem?_cons_zero, List.getElem?_cons_succ, Option.getD_some]
@[simp] theorem n18_34 (s : List V) (H : Heap) : evCode P Γ call n f m (cAt [1, 1, 1, 0, 1, 0, 0, 1, 1, 0, 0, 1, 0, 1, 0] B18) s H = regNext (evOpsGo P Γ call r18_34.1 r18_34.1 s H) := at_region (by kernel_rfl) r18_34.2 s H
attribute [simp] r18_34
@[simp] theorem n18_35 (s : List V) (H : Heap) : evCode P Γ call n f m (cAt [1, 1, 1, 0, 1, 0, 0, 1, 1, 0, 0, 1, 0, 1, 1] B18) s H = some (.normal, s, H) := at_skip (by kernel_rfl) s H
noncomputable def r18_36 : {l : List Oper // opsOf (cAt [1, 1, 1, 0, 1, 0, 0, 1, 1, 0, 0, 1, 1] B18) = l} := by
  apply Subtype.mk
  dsimp only [opsOf, cAt, kids, B18, bodyOf, Try.f18, List.getD, List.getElem?_cons_zero, List.getElem?_cons_succ, Option.getD_some]
@[simp] theorem n18_36 (s : List V) (H : Heap) : evCode P Γ call n f m (cAt [1, 1, 1, 0, 1, 0, 0, 1, 1, 0, 0, 1, 1] B18) s H = regNext (evOpsGo P Γ call r18_36.1 r18_36.1 s H) := at_region (by kernel_rfl) r18_36.2 s H
attribute [simp] r18_36
noncomputable def r18_37 : {l : List Oper // opsOf (cAt [1, 1, 1, 0, 1, 0, 0, 1, 1, 1] B18) = l} := by
  apply Subtype.mk
  dsimp only [opsOf, cAt, kids, B18, bodyOf, Try.f18, List.getD, List.getElem?_cons_zero, List.getElem?_cons_succ, Option.getD_some]
@[simp] theorem n18_37 (s : List V) (H : Heap) : evCode P Γ call n f m (cAt [1, 1, 1, 0, 1, 0, 0, 1, 1, 1] B18) s H = regNext (evOpsGo P Γ call r18_37.1 r18_37.1 s H) := at_region (by kernel_rfl) r18_37.2 s H
attribute [simp] r18_37
@[simp] theorem n18_38 (s : List V) (H : Heap) : evCode P Γ call n f m (cAt [1, 1, 1, 1] B18) s H = seqNext P Γ call n f m (cAt [1, 1, 1, 1, 1] B18) (evCode P Γ call n f m (cAt [1, 1, 1, 1, 0] B18) s H) := at_seq (by kernel_rfl) rfl rfl s H
@[simp] theorem n18_39 (s : List V) (H : Heap) : evCode P Γ call n f m (cAt [1, 1, 1, 1, 0] B18) s H = blockNext 2 (evCode P Γ call n f m (cAt [1, 1, 1, 1, 0, 0] B18) s H) := at_block (by kernel_rfl) rfl s H
@[simp] theorem n18_40 (s : List V) (H : Heap) : evCode P Γ call n f m (cAt [1, 1, 1, 1, 0, 0] B18) s H = evLoopC P Γ call n f m (cAt [1, 1, 1, 1, 0, 0, 0] B18) n s H := at_loop (by kernel_rfl) rfl s H
noncomputable abbrev L18_12 : Code := cAt [1, 1, 1, 1, 0, 0, 0] B18
@[simp] theorem n18_40f : firstRegion (cAt [1, 1, 1, 1, 0, 0, 0] B18) = 12 := by kernel_rfl
@[simp] theorem n18_41 (s : List V) (H : Heap) : evCode P Γ call n f m (cAt [1, 1, 1, 1, 0, 0, 0] B18) s H = seqNext P Γ call n f m (cAt [1, 1, 1, 1, 0, 0, 0, 1] B18) (evCode P Γ call n f m (cAt [1, 1, 1, 1, 0, 0, 0, 0] B18) s H) := at_seq (by kernel_rfl) rfl rfl s H
@[simp] theorem n18_42 (s : List V) (H : Heap) : evCode P Γ call n f m (cAt [1, 1, 1, 1, 0, 0, 0, 0] B18) s H = seqNext P Γ call n f m (cAt [1, 1, 1, 1, 0, 0, 0, 0, 1] B18) (evCode P Γ call n f m (cAt [1, 1, 1, 1, 0, 0, 0, 0, 0] B18) s H) := at_seq (by kernel_rfl) rfl rfl s H
noncomputable def r18_43 : {l : List Oper // opsOf (cAt [1, 1, 1, 1, 0, 0, 0, 0, 0] B18) = l} := by
  apply Subtype.mk
  dsimp only [opsOf, cAt, kids, B18, bodyOf, Try.f18, List.getD, List.getElem?_cons_zero, List.getElem?_cons_succ, Option.getD_some]
@[simp] theorem n18_43 (s : List V) (H : Heap) : evCode P Γ call n f m (cAt [1, 1, 1, 1, 0, 0, 0, 0, 0] B18) s H = regNext (evOpsGo P Γ call r18_43.1 r18_43.1 s H) := at_region (by kernel_rfl) r18_43.2 s H
attribute [simp] r18_43
@[simp] theorem n18_44 (s : List V) (H : Heap) : evCode P Γ call n f m (cAt [1, 1, 1, 1, 0, 0, 0, 0, 1] B18) s H = condW P Γ call n f m (cAt [1, 1, 1, 1, 0, 0, 0, 0, 1, 0] B18) (cAt [1, 1, 1, 1, 0, 0, 0, 0, 1, 1] B18) s H (evOperand Γ s (.tmp 37)) := at_cond (by kernel_rfl) (by kernel_rfl) rfl rfl s H
@[simp] theorem n18_45 (s : List V) (H : Heap) : evCode P Γ call n f m (cAt [1, 1, 1, 1, 0, 0, 0, 0, 1, 0] B18) s H = some (.normal, s, H) := at_skip (by kernel_rfl) s H
@[simp] theorem n18_46 (s : List V) (H : Heap) : evCode P Γ call n f m (cAt [1, 1, 1, 1, 0, 0, 0, 0, 1, 1] B18) s H = some (.exit 2, s, H) := at_exit (by kernel_rfl) s H
@[simp] theorem n18_47 (s : List V) (H : Heap) : evCode P Γ call n f m (cAt [1, 1, 1, 1, 0, 0, 0, 1] B18) s H = blockNext 3 (evCode P Γ call n f m (cAt [1, 1, 1, 1, 0, 0, 0, 1, 0] B18) s H) := at_block (by kernel_rfl) rfl s H
@[simp] theorem n18_48 (s : List V) (H : Heap) : evCode P Γ call n f m (cAt [1, 1, 1, 1, 0, 0, 0, 1, 0] B18) s H = seqNext P Γ call n f m (cAt [1, 1, 1, 1, 0, 0, 0, 1, 0, 1] B18) (evCode P Γ call n f m (cAt [1, 1, 1, 1, 0, 0, 0, 1, 0, 0] B18) s H) := at_seq (by kernel_rfl) rfl rfl s H
noncomputable def r18_49 : {l : List Oper // opsOf (cAt [1, 1, 1, 1, 0, 0, 0, 1, 0, 0] B18) = l} := by
  apply Subtype.mk
  dsimp only [opsOf, cAt, kids, B18, bodyOf, Try.f18, List.getD, List.getElem?_cons_zero, List.getElem?_cons_succ, Option.getD_some]
@[simp] theorem n18_49 (s : List V) (H : Heap) : evCode P Γ call n f m (cAt [1, 1, 1, 1, 0, 0, 0, 1, 0, 0] B18) s H = regNext (evOpsGo P Γ call r18_49.1 r18_49.1 s H) := at_region (by kernel_rfl) r18_49.2 s H
attribute [simp] r18_49
@[simp] theorem n18_50 (s : List V) (H : Heap) : evCode P Γ call n f m (cAt [1, 1, 1, 1, 0, 0, 0, 1, 0, 1] B18) s H = seqNext P Γ call n f m (cAt [1, 1, 1, 1, 0, 0, 0, 1, 0, 1, 1] B18) (evCode P Γ call n f m (cAt [1, 1, 1, 1, 0, 0, 0, 1, 0, 1, 0] B18) s H) := at_seq (by kernel_rfl) rfl rfl s H
@[simp] theorem n18_51 (s : List V) (H : Heap) : evCode P Γ call n f m (cAt [1, 1, 1, 1, 0, 0, 0, 1, 0, 1, 0] B18) s H = seqNext P Γ call n f m (cAt [1, 1, 1, 1, 0, 0, 0, 1, 0, 1, 0, 1] B18) (evCode P Γ call n f m (cAt [1, 1, 1, 1, 0, 0, 0, 1, 0, 1, 0, 0] B18) s H) := at_seq (by kernel_rfl) rfl rfl s H
noncomputable def r18_52 : {l : List Oper // opsOf (cAt [1, 1, 1, 1, 0, 0, 0, 1, 0, 1, 0, 0] B18) = l} := by
  apply Subtype.mk
  dsimp only [opsOf, cAt, kids, B18, bodyOf, Try.f18, List.getD, List.getElem?_cons_zero, List.getElem?_cons_succ, Option.getD_some]
@[simp] theorem n18_52 (s : List V) (H : Heap) : evCode P Γ call n f m (cAt [1, 1, 1, 1, 0, 0, 0, 1, 0, 1, 0, 0] B18) s H = regNext (evOpsGo P Γ call r18_52.1 r18_52.1 s H) := at_region (by kernel_rfl) r18_52.2 s H
attribute [simp] r18_52
@[simp] theorem n18_53 (s : List V) (H : Heap) : evCode P Γ call n f m (cAt [1, 1, 1, 1, 0, 0, 0, 1, 0, 1, 0, 1] B18) s H = blockNext 4 (evCode P Γ call n f m (cAt [1, 1, 1, 1, 0, 0, 0, 1, 0, 1, 0, 1, 0] B18) s H) := at_block (by kernel_rfl) rfl s H
@[simp] theorem n18_54 (s : List V) (H : Heap) : evCode P Γ call n f m (cAt [1, 1, 1, 1, 0, 0, 0, 1, 0, 1, 0, 1, 0] B18) s H = evLoopC P Γ call n f m (cAt [1, 1, 1, 1, 0, 0, 0, 1, 0, 1, 0, 1, 0, 0] B18) n s H := at_loop (by kernel_rfl) rfl s H
noncomputable abbrev L18_15 : Code := cAt [1, 1, 1, 1, 0, 0, 0, 1, 0, 1, 0, 1, 0, 0] B18
@[simp] theorem n18_54f : firstRegion (cAt [1, 1, 1, 1, 0, 0, 0, 1, 0, 1, 0, 1, 0, 0] B18) = 15 := by kernel_rfl
@[simp] theorem n18_55 (s : List V) (H : Heap) : evCode P Γ call n f m (cAt [1, 1, 1, 1, 0, 0, 0, 1, 0, 1, 0, 1, 0, 0] B18) s H = seqNext P Γ call n f m (cAt [1, 1, 1, 1, 0, 0, 0, 1, 0, 1, 0, 1, 0, 0, 1] B18) (evCode P Γ call n f m (cAt [1, 1, 1, 1, 0, 0, 0, 1, 0, 1, 0, 1, 0, 0, 0] B18) s H) := at_seq (by kernel_rfl) rfl rfl s H
@[simp] theorem n18_56 (s : List V) (H : Heap) : evCode P Γ call n f m (cAt [1, 1, 1, 1, 0, 0, 0, 1, 0, 1, 0, 1, 0, 0, 0] B18) s H = seqNext P Γ call n f m (cAt [1, 1, 1, 1, 0, 0, 0, 1, 0, 1, 0, 1, 0, 0, 0, 1] B18) (evCode P Γ call n f m (cAt [1, 1, 1, 1, 0, 0, 0, 1, 0, 1, 0, 1, 0, 0, 0, 0] B18) s H) := at_seq (by kernel_rfl) rfl rfl s H
noncomputable def r18_57 : {l : List Oper // opsOf (cAt [1, 1, 1, 1, 0, 0, 0, 1, 0, 1, 0, 1, 0, 0, 0, 0] B18) = l} := by
  apply Subtype.mk
  dsimp only [opsOf, cAt, kids, B18, bodyOf, Try.f18, List.getD, List.getElem?_cons_zero, List.getElem?_cons_succ, Option.getD_some]
@[simp] theorem n18_57 (s : List V) (H : Heap) : evCode P Γ call n f m (cAt [1, 1, 1, 1, 0, 0, 0, 1, 0, 1, 0, 1, 0, 0, 0, 0] B18) s H = regNext (evOpsGo P Γ call r18_57.1 r18_57.1 s H) := at_region (by kernel_rfl) r18_57.2 s H
attribute [simp] r18_57
@[simp] theorem n18_58 (s : List V) (H : Heap) : evCode P Γ call n f m (cAt [1, 1, 1, 1, 0, 0, 0, 1, 0, 1, 0, 1, 0, 0, 0, 1] B18) s H = condW P Γ call n f m (cAt [1, 1, 1, 1, 0, 0, 0, 1, 0, 1, 0, 1, 0, 0, 0, 1, 0] B18) (cAt [1, 1, 1, 1, 0, 0, 0, 1, 0, 1, 0, 1, 0, 0, 0, 1, 1] B18) s H (evOperand Γ s (.tmp 41)) := at_cond (by kernel_rfl) (by kernel_rfl) rfl rfl s H
@[simp] theorem n18_59 (s : List V) (H : Heap) : evCode P Γ call n f m (cAt [1, 1, 1, 1, 0, 0, 0, 1, 0, 1, 0, 1, 0, 0, 0, 1, 0] B18) s H = some (.normal, s, H) := at_skip (by kernel_rfl) s H
@[simp] theorem n18_60 (s : List V) (H : Heap) : evCode P Γ call n f m (cAt [1, 1, 1, 1, 0, 0, 0, 1, 0, 1, 0, 1, 0, 0, 0, 1, 1] B18) s H = some (.exit 4, s, H) := at_exit (by kernel_rfl) s H
@[simp] theorem n18_61 (s : List V) (H : Heap) : evCode P Γ call n f m (cAt [1, 1, 1, 1, 0, 0, 0, 1, 0, 1, 0, 1, 0, 0, 1] B18) s H = seqNext P Γ call n f m (cAt [1, 1, 1, 1, 0, 0, 0, 1, 0, 1, 0, 1, 0, 0, 1, 1] B18) (evCode P Γ call n f m (cAt [1, 1, 1, 1, 0, 0, 0, 1, 0, 1, 0, 1, 0, 0, 1, 0] B18) s H) := at_seq (by kernel_rfl) rfl rfl s H
@[simp] theorem n18_62 (s : List V) (H : Heap) : evCode P Γ call n f m (cAt [1, 1, 1, 1, 0, 0, 0, 1, 0, 1, 0, 1, 0, 0, 1, 0] B18) s H = blockNext 5 (evCode P Γ call n f m (cAt [1, 1, 1, 1, 0, 0, 0, 1, 0, 1, 0, 1, 0, 0, 1, 0, 0] B18) s H) := at_block (by kernel_rfl) rfl s H
@[simp] theorem n18_63 (s : List V) (H : Heap) : evCode P Γ call n f m (cAt [1, 1, 1, 1, 0, 0, 0, 1, 0, 1, 0, 1, 0, 0, 1, 0, 0] B18) s H = seqNext P Γ call n f m (cAt [1, 1, 1, 1, 0, 0, 0, 1, 0, 1, 0, 1, 0, 0, 1, 0, 0, 1] B18) (evCode P Γ call n f m (cAt [1, 1, 1, 1, 0, 0, 0, 1, 0, 1, 0, 1, 0, 0, 1, 0, 0, 0] B18) s H) := at_seq (by kernel_rfl) rfl rfl s H
@[simp] theorem n18_64 (s : List V) (H : Heap) : evCode P Γ call n f m (cAt [1, 1, 1, 1, 0, 0, 0, 1, 0, 1, 0, 1, 0, 0, 1, 0, 0, 0] B18) s H = seqNext P Γ call n f m (cAt [1, 1, 1, 1, 0, 0, 0, 1, 0, 1, 0, 1, 0, 0, 1, 0, 0, 0, 1] B18) (evCode P Γ call n f m (cAt [1, 1, 1, 1, 0, 0, 0, 1, 0, 1, 0, 1, 0, 0, 1, 0, 0, 0, 0] B18) s H) := at_seq (by kernel_rfl) rfl rfl s H
noncomputable def r18_65 : {l : List Oper // opsOf (cAt [1, 1, 1, 1, 0, 0, 0, 1, 0, 1, 0, 1, 0, 0, 1, 0, 0, 0, 0] B18) = l} := by
  apply Subtype.mk
  dsimp only [opsOf, cAt, kids, B18, bodyOf, Try.f18, List.getD, List.getElem?_cons_zero, List.getElem?_cons_succ, Option.getD_some]
@[simp] theorem n18_65 (s : List V) (H : Heap) : evCode P Γ call n f m (cAt [1, 1, 1, 1, 0, 0, 0, 1, 0, 1, 0, 1, 0, 0, 1, 0, 0, 0, 0] B18) s H = regNext (evOpsGo P Γ call r18_65.1 r18_65.1 s H) := at_region (by kernel_rfl) r18_65.2 s H
attribute [simp] r18_65
@[simp] theorem n18_66 (s : List V) (H : Heap) : evCode P Γ call n f m (cAt [1, 1, 1, 1, 0, 0, 0, 1, 0, 1, 0, 1, 0, 0, 1, 0, 0, 0, 1] B18) s H = condW P Γ call n f m (cAt [1, 1, 1, 1, 0, 0, 0, 1, 0, 1, 0, 1, 0, 0, 1, 0, 0, 0, 1, 0] B18) (cAt [1, 1, 1, 1, 0, 0, 0, 1, 0, 1, 0, 1, 0, 0, 1, 0, 0, 0, 1, 1] B18) s H (evOperand Γ s (.tmp 48)) := at_cond (by kernel_rfl) (by kernel_rfl) rfl rfl s H
@[simp] theorem n18_67 (s : List V) (H : Heap) : evCode P Γ call n f m (cAt [1, 1, 1, 1, 0, 0, 0, 1, 0, 1, 0, 1, 0, 0, 1, 0, 0, 0, 1, 0] B18) s H = seqNext P Γ call n f m (cAt [1, 1, 1, 1, 0, 0, 0, 1, 0, 1, 0, 1, 0, 0, 1, 0, 0, 0, 1, 0, 1] B18) (evCode P Γ call n f m (cAt [1, 1, 1, 1, 0, 0, 0, 1, 0, 1, 0, 1, 0, 0, 1, 0, 0, 0, 1, 0, 0] B18) s H) := at_seq (by kernel_rfl) rfl rfl s H
noncomputable def r18_68 : {l : List Oper // opsOf (cAt [1, 1, 1, 1, 0, 0, 0, 1, 0, 1, 0, 1, 0, 0, 1, 0, 0, 0, 1, 0, 0] B18) = l} := by
  apply Subtype.mk
  dsimp only [opsOf, cAt, kids, B18, bodyOf, Try.f18, List.getD, List.getElem?_cons_zero, List.getElem?_cons_succ, Option.getD_some]
@[simp] theorem n18_68 (s : List V) (H : Heap) : evCode P Γ call n f m (cAt [1, 1, 1, 1, 0, 0, 0, 1, 0, 1, 0, 1, 0, 0, 1, 0, 0, 0, 1, 0, 0] B18) s H = regNext (evOpsGo P Γ call r18_68.1 r18_68.1 s H) := at_region (by kernel_rfl) r18_68.2 s H
attribute [simp] r18_68
@[simp] theorem n18_69 (s : List V) (H : Heap) : evCode P Γ call n f m (cAt [1, 1, 1, 1, 0, 0, 0, 1, 0, 1, 0, 1, 0, 0, 1, 0, 0, 0, 1, 0, 1] B18) s H = some (.exit 5, s, H) := at_exit (by kernel_rfl) s H
@[simp] theorem n18_70 (s : List V) (H : Heap) : evCode P Γ call n f m (cAt [1, 1, 1, 1, 0, 0, 0, 1, 0, 1, 0, 1, 0, 0, 1, 0, 0, 0, 1, 1] B18) s H = some (.normal, s, H) := at_skip (by kernel_rfl) s H
noncomputable def r18_71 : {l : List Oper // opsOf (cAt [1, 1, 1, 1, 0, 0, 0, 1, 0, 1, 0, 1, 0, 0, 1, 0, 0, 1] B18) = l} := by
  apply Subtype.mk
  dsimp only [opsOf, cAt, kids, B18, bodyOf, Try.f18, List.getD, List.getElem?_cons_zero, List.getElem?_cons_succ, Option.getD_some]
@[simp] theorem n18_71 (s : List V) (H : Heap) : evCode P Γ call n f m (cAt [1, 1, 1, 1, 0, 0, 0, 1, 0, 1, 0, 1, 0, 0, 1, 0, 0, 1] B18) s H = regNext (drawR P Γ call r18_71.1 [([1, 2, 3, 4, 5, 6, 7, 8, 9, 10, 11, 12, 13, 14, 15], [57, 58, 59, 60, 61, 62, 63, 64, 65, 66, 67, 68, 69, 70, 71]), ([0, 2, 6, 7, 8, 9, 10], [56, 58, 62, 63, 64, 65, 66]), ([0, 1, 6, 7, 8, 9, 10], [56, 57, 62, 63, 64, 65, 66]), ([0, 6, 7, 8, 9, 10], [56, 62, 63, 64, 65, 66]), ([0, 6, 7, 8, 9, 10], [56, 62, 63, 64, 65, 66]), ([0, 6, 7, 8, 9, 10], [56, 62, 63, 64, 65, 66]), ([0, 1, 2, 3, 4, 5, 7, 8], [56, 57, 58, 59, 60, 61, 63, 64]), ([0, 1, 2, 3, 4, 5, 6], [56, 57, 58, 59, 60, 61, 62]), ([0, 1, 2, 3, 4, 5, 6], [56, 57, 58, 59, 60, 61, 62]), ([0, 1, 2, 3, 4, 5], [56, 57, 58, 59, 60, 61]), ([0, 1, 2, 3, 4, 5], [56, 57, 58, 59, 60, 61]), ([0], [56]), ([0], [56]), ([0], [56]), ([0], [56]), ([0], [56]), ([], []), ([], [])] s H) := at_drawT (by kernel_rfl) r18_71.2 (by kernel_rfl) s H
attribute [simp] r18_71
noncomputable def r18_72 : {l : List Oper // opsOf (cAt [1, 1, 1, 1, 0, 0, 0, 1, 0, 1, 0, 1, 0, 0, 1, 1] B18) = l} := by
  apply Subtype.mk
  dsimp only [opsOf, cAt, kids, B18, bodyOf, Try.f18, List.getD, List.getElem?_cons_zero, List.getElem?_cons_succ, Option.getD_some]
@[simp] theorem n18_72 (s : List V) (H : Heap) : evCode P Γ call n f m (cAt [1, 1, 1, 1, 0, 0, 0, 1, 0, 1, 0, 1, 0, 0, 1, 1] B18) s H = regNext (evOpsGo P Γ call r18_72.1 r18_72.1 s H) := at_region (by kernel_rfl) r18_72.2 s H
attribute [simp] r18_72
noncomputable def r18_73 : {l : List Oper // opsOf (cAt [1, 1, 1, 1, 0, 0, 0, 1, 0, 1, 1] B18) = l} := by
  apply Subtype.mk
  dsimp only [opsOf, cAt, kids, B18, bodyOf, Try.f18, List.getD, List.getElem?_cons_zero, List.getElem?_cons_succ, Option.getD_some]
@[simp] theorem n18_73 (s : List V) (H : Heap) : evCode P Γ call n f m (cAt [1, 1, 1, 1, 0, 0, 0, 1, 0, 1, 1] B18) s H = regNext (evOpsGo P Γ call r18_73.1 r18_73.1 s H) := at_region (by kernel_rfl) r18_73.2 s H
attribute [simp] r18_73
@[simp] theorem n18_74 (s : List V) (H : Heap) : evCode P Γ call n f m (cAt [1, 1, 1, 1, 1] B18) s H = seqNext P Γ call n f m (cAt [1, 1, 1, 1, 1, 1] B18) (evCode P Γ call n f m (cAt [1, 1, 1, 1, 1, 0] B18) s H) := at_seq (by kernel_rfl) rfl rfl s H
noncomputable def r18_75 : {l : List Oper // opsOf (cAt [1, 1, 1, 1, 1, 0] B18) = l} := by
  apply Subtype.mk
  dsimp only [opsOf, cAt, kids, B18, bodyOf, Try.f18, List.getD, List.getElem?_cons_zero, List.getElem?_cons_succ, Option.getD_some]
@[simp] theorem n18_75 (s : List V) (H : Heap) : evCode P Γ call n f m (cAt [1, 1, 1, 1, 1, 0] B18) s H = regNext (evOpsGo P Γ call r18_75.1 r18_75.1 s H) := at_region (by kernel_rfl) r18_75.2 s H
attribute [simp] r18_75
@[simp] theorem n18_76 (s : List V) (H : Heap) : evCode P Γ call n f m (cAt [1, 1, 1, 1, 1, 1] B18) s H = some (.ret, s, H) := at_ret (by kernel_rfl) s H
theorem b18 {k : Nat} (ho : ∀ args H, Γ.orc 18 args H = none) (args : List V) (H : Heap) (ha : args.length ≤ 77) : evF Try.prog Γ (k + 1) 18 args H = bodyEnd Try.prog [.tmp 2, .tmp 3] H.length (evCode Try.prog Γ (evF Try.prog Γ k) k 18 H.length (cAt [] B18) (mkL 77 V.undef (enumV 0 args)) H) := body_at Try.func18 (by decide) rfl ho rfl rfl args H ha
noncomputable def B22 : Code := bodyOf Try.f22
@[simp] theorem n22_1 (s : List V) (H : Heap) : evCode P Γ call n f m (cAt [] B22) s H = seqNext P Γ call n f m (cAt [1] B22) (evCode P Γ call n f m (cAt [0] B22) s H) := at_seq (by kernel_rfl) rfl rfl s H
noncomputable def r22_2 : {l : List Oper // opsOf (cAt [0] B22) = l} := by
  apply Subtype.mk
  dsimp only [opsOf, cAt, kids, B22, bodyOf, Try.f22, List.getD, List.getElem?_cons_zero, List.getElem?_cons_succ, Option.getD_some]
@[simp] theorem n22_2 (s : List V) (H : Heap) : evCode P Γ call n f m (cAt [0] B22) s H = regNext (evOpsGo P Γ call r22_2.1 r22_2.1 s H) := at_region (by kernel_rfl) r22_2.2 s H
attribute [simp] r22_2
@[simp] theorem n22_3 (s : List V) (H : Heap) : evCode P Γ call n f m (cAt [1] B22) s H = seqNext P Γ call n f m (cAt [1, 1] B22) (evCode P Γ call n f m (cAt [1, 0] B22) s H) := at_seq (by kernel_rfl) rfl rfl s H
@[simp] theorem n22_4 (s : List V) (H : Heap) : evCode P Γ call n f m (cAt [1, 0] B22) s H = seqNext P Γ call n f m (cAt [1, 0, 1] B22) (evCode P Γ call n f m (cAt [1, 0, 0] B22) s H) := at_seq (by kernel_rfl) rfl rfl s H
noncomputable def r22_5 : {l : List Oper // opsOf (cAt [1, 0, 0] B22) = l} := by
  apply Subtype.mk
  dsimp only [opsOf, cAt, kids, B22, bodyOf, Try.f22, List.getD, List.getElem?_cons_zero, List.getElem?_cons_succ, Option.getD_some]
@[simp] theorem n22_5 (s : List V) (H : Heap) : evCode P Γ call n f m (cAt [1, 0, 0] B22) s H = regNext (evOpsGo P Γ call r22_5.1 r22_5.1 s H) := at_region (by kernel_rfl) r22_5.2 s H
attribute [simp] r22_5
@[simp] theorem n22_6 (s : List V) (H : Heap) : evCode P Γ call n f m (cAt [1, 0, 1] B22) s H = condW P Γ call n f m (cAt [1, 0, 1, 0] B22) (cAt [1, 0, 1, 1] B22) s H (evOperand Γ s (.tmp 12)) := at_cond (by kernel_rfl) (by kernel_rfl) rfl rfl s H
@[simp] theorem n22_7 (s : List V) (H : Heap) : evCode P Γ call n f m (cAt [1, 0, 1, 0] B22) s H = seqNext P Γ call n f m (cAt [1, 0, 1, 0, 1] B22) (evCode P Γ call n f m (cAt [1, 0, 1, 0, 0] B22) s H) := at_seq (by kernel_rfl) rfl rfl s H
noncomputable def r22_8 : {l : List Oper // opsOf (cAt [1, 0, 1, 0, 0] B22) = l} := by
  apply Subtype.mk
  dsimp only [opsOf, cAt, kids, B22, bodyOf, Try.f22, List.getD, List.getElem?_cons_zero, List.getElem?_cons_succ, Option.getD_some]
@[simp] theorem n22_8 (s : List V) (H : Heap) : evCode P Γ call n f m (cAt [1, 0, 1, 0, 0] B22) s H = regNext (evOpsGo P Γ call r22_8.1 r22_8.1 s H) := at_region (by kernel_rfl) r22_8.2 s H
attribute [simp] r22_8
@[simp] theorem n22_9 (s : List V) (H : Heap) : evCode P Γ call n f m (cAt [1, 0, 1, 0, 1] B22) s H = some (.ret, s, H) := at_ret (by kernel_rfl) s H
@[simp] theorem n22_10 (s : List V) (H : Heap) : evCode P Γ call n f m (cAt [1, 0, 1, 1] B22) s H = some (.normal, s, H) := at_skip (by kernel_rfl) s H
@[simp] theorem n22_11 (s : List V) (H : Heap) : evCode P Γ call n f m (cAt [1, 1] B22) s H = seqNext P Γ call n f m (cAt [1, 1, 1] B22) (evCode P Γ call n f m (cAt [1, 1, 0] B22) s H) := at_seq (by kernel_rfl) rfl rfl s H
@[simp] theorem n22_12 (s : List V) (H : Heap) : evCode P Γ call n f m (cAt [1, 1, 0] B22) s H = seqNext P Γ call n f m (cAt [1, 1, 0, 1] B22) (evCode P Γ call n f m (cAt [1, 1, 0, 0] B22) s H) := at_seq (by kernel_rfl) rfl rfl s H
noncomputable def r22_13 : {l : List Oper // opsOf (cAt [1, 1, 0, 0] B22) = l} := by
  apply Subtype.mk
  dsimp only [opsOf, cAt, kids, B22, bodyOf, Try.f22, List.getD, List.getElem?_cons_zero, List.getElem?_cons_succ, Option.getD_some]
@[simp] theorem n22_13 (s : List V) (H : Heap) : evCode P Γ call n f m (cAt [1, 1, 0, 0] B22) s H = regNext (drawR P Γ call r22_13.1 [([3, 4, 5], [16, 17, 18]), ([3, 4, 5], [16, 17, 18]), ([3, 4, 5], [16, 17, 18]), ([0, 1, 2], [13, 14, 15]), ([0, 1, 2], [13, 14, 15]), ([0, 1, 2], [13, 14, 15]), ([], [])] s H) := at_drawT (by kernel_rfl) r22_13.2 (by kernel_rfl) s H
attribute [simp] r22_13
@[simp] theorem n22_14 (s : List V) (H : Heap) : evCode P Γ call n f m (cAt [1, 1, 0, 1] B22) s H = condW P Γ call n f m (cAt [1, 1, 0, 1, 0] B22) (cAt [1, 1, 0, 1, 1] B22) s H (evOperand Γ s (.tmp 19)) := at_cond (by kernel_rfl) (by kernel_rfl) rfl rfl s H
@[simp] theorem n22_15 (s : List V) (H : Heap) : evCode P Γ call n f m (cAt [1, 1, 0, 1, 0] B22) s H = seqNext P Γ call n f m (cAt [1, 1, 0, 1, 0, 1] B22) (evCode P Γ call n f m (cAt [1, 1, 0, 1, 0, 0] B22) s H) := at_seq (by kernel_rfl) rfl rfl s H
noncomputable def r22_16 : {l : List Oper // opsOf (cAt [1, 1, 0, 1, 0, 0] B22) = l} := by
  apply Subtype.mk
  dsimp only [opsOf, cAt, kids, B22, bodyOf, Try.f22, List.getD, List.getElem?_cons_zero, List.getElem?_cons_succ, Option.getD_some]
@[simp] theorem n22_16 (s : List V) (H : Heap) : evCode P Γ call n f m (cAt [1, 1, 0, 1, 0, 0] B22) s H = regNext (evOpsGo P Γ call r22_16.1 r22_16.1 s H) := at_region (by kernel_rfl) r22_16.2 s H
attribute [simp] r22_16
@[simp] theorem n22_17 (s : List V) (H : Heap) : evCode P Γ call n f m (cAt [1, 1, 0, 1, 0, 1] B22) s H = some (.ret, s, H) := at_ret (by kernel_rfl) s H
@[simp] theorem n22_18 (s : List V) (H : Heap) : evCode P Γ call n f m (cAt [1, 1, 0, 1, 1] B22) s H = some (.normal, s, H) := at_skip (by kernel_rfl) s H
@[simp] theorem n22_19 (s : List V) (H : Heap) : evCode P Γ call n f m (cAt [1, 1, 1] B22) s H = seqNext P Γ call n f m (cAt [1, 1, 1, 1] B22) (evCode P Γ call n f m (cAt [1, 1, 1, 0] B22) s H) := at_seq (by kernel_rfl) rfl rfl s H
@[simp] theorem n22_20 (s : List V) (H : Heap) : evCode P Γ call n f m (cAt [1, 1, 1, 0] B22) s H = seqNext P Γ call n f m (cAt [1, 1, 1, 0, 1] B22) (evCode P Γ call n f m (cAt [1, 1, 1, 0, 0] B22) s H) := at_seq (by kernel_rfl) rfl rfl s H
noncomputable def r22_21 : {l : List Oper // opsOf (cAt [1, 1, 1, 0, 0] B22) = l} := by
  apply Subtype.mk
  dsimp only [opsOf, cAt, kids, B22, bodyOf, Try.f22, List.getD, List.getElem?_cons_zero, List.getElem?_cons_succ, Option.getD_some]
@[simp] theorem n22_21 (s : List V) (H : Heap) : evCode P Γ call n f m (cAt [1, 1, 1, 0, 0] B22) s H = regNext (evOpsGo P Γ call r22_21.1 r22_21.1 s H) := at_region (by kernel_rfl) r22_21.2 s H
attribute [simp] r22_21
@[simp] theorem n22_22 (s : List V) (H : Heap) : evCode P Γ call n f m (cAt [1, 1, 1, 0, 1] B22) s H = blockNext 0 (evCode P Γ call n f m (cAt [1, 1, 1, 0, 1, 0] B22) s H) := at_block (by kernel_rfl) rfl s H
@[simp] theorem n22_23 (s : List V) (H : Heap) : evCode P Γ call n f m (cAt [1, 1, 1, 0, 1, 0] B22) s H = evLoopC P Γ call n f m (cAt [1, 1, 1, 0, 1, 0, 0] B22) n s H := at_loop (by kernel_rfl) rfl s H
noncomputable abbrev L22_6 : Code := cAt [1, 1, 1, 0, 1, 0, 0] B22
@[simp] theorem n22_23f : firstRegion (cAt [1, 1, 1, 0, 1, 0, 0] B22) = 6 := by kernel_rfl
@[simp] theorem n22_24 (s : List V) (H : Heap) : evCode P Γ call n f m (cAt [1, 1, 1, 0, 1, 0, 0] B22) s H = seqNext P Γ call n f m (cAt [1, 1, 1, 0, 1, 0, 0, 1] B22) (evCode P Γ call n f m (cAt [1, 1, 1, 0, 1, 0, 0, 0] B22) s H) := at_seq (by kernel_rfl) rfl rfl s H
noncomputable def r22_25 : {l : List Oper // opsOf (cAt [1, 1, 1, 0, 1, 0, 0, 0] B22) = l} := by
  apply Subtype.mk
  dsimp only [opsOf, cAt, kids, B22, bodyOf, Try.f22, List.getD, List.getElem?_cons_zero, List.getElem?_cons_succ, Option.getD_some]
@[simp] theorem n22_25 (s : List V) (H : Heap) : evCode P Γ call n f m (cAt [1, 1, 1, 0, 1, 0, 0, 0] B22) s H = regNext (evOpsGo P Γ call r22_25.1 r22_25.1 s H) := at_region (by kernel_rfl) r22_25.2 s H
attribute [simp] r22_25
@[simp] theorem n22_26 (s : List V) (H : Heap) : evCode P Γ call n f m (cAt [1, 1, 1, 0, 1, 0, 0, 1] B22) s H = seqNext P Γ call n f m (cAt [1, 1, 1, 0, 1, 0, 0, 1, 1] B22) (evCode P Γ call n f m (cAt [1, 1, 1, 0, 1, 0, 0, 1, 0] B22) s H) := at_seq (by kernel_rfl) rfl rfl s H
@[simp] theorem n22_27 (s : List V) (H : Heap) : evCode P Γ call n f m (cAt [1, 1, 1, 0, 1, 0, 0, 1, 0] B22) s H = condW P Γ call n f m (cAt [1, 1, 1, 0, 1, 0, 0, 1, 0, 0] B22) (cAt [1, 1, 1, 0, 1, 0, 0, 1, 0, 1] B22) s H (evOperand Γ s (.tmp 24)) := at_cond (by kernel_rfl) (by kernel_rfl) rfl rfl s H
@[simp] theorem n22_28 (s : List V) (H : Heap) : evCode P Γ call n f m (cAt [1, 1, 1, 0, 1, 0, 0, 1, 0, 0] B22) s H = some (.normal, s, H) := at_skip (by kernel_rfl) s H
@[simp] theorem n22_29 (s : List V) (H : Heap) : evCode P Γ call n f m (cAt [1, 1, 1, 0, 1, 0, 0, 1, 0, 1] B22) s H = some (.exit 0, s, H) := at_exit (by kernel_rfl) s H
@[simp] theorem n22_30 (s : List V) (H : Heap) : evCode P Γ call n f m (cAt [1, 1, 1, 0, 1, 0, 0, 1, 1] B22) s H = seqNext P Γ call n f m (cAt [1, 1, 1, 0, 1, 0, 0, 1, 1, 1] B22) (evCode P Γ call n f m (cAt [1, 1, 1, 0, 1, 0, 0, 1, 1, 0] B22) s H) := at_seq (by kernel_rfl) rfl rfl s H
@[simp] theorem n22_31 (s : List V) (H : Heap) : evCode P Γ call n f m (cAt [1, 1, 1, 0, 1, 0, 0, 1, 1, 0] B22) s H = blockNext 1 (evCode P Γ call n f m (cAt [1, 1, 1, 0, 1, 0, 0, 1, 1, 0, 0] B22) s H) := at_block (by kernel_rfl) rfl s H
@[simp] theorem n22_32 (s : List V) (H : Heap) : evCode P Γ call n f m (cAt [1, 1, 1, 0, 1, 0, 0, 1, 1, 0, 0] B22) s H = seqNext P Γ call n f m (cAt [1, 1, 1, 0, 1, 0, 0, 1, 1, 0, 0, 1] B22) (evCode P Γ call n f m (cAt [1, 1, 1, 0, 1, 0, 0, 1, 1, 0, 0, 0] B22) s H) := at_seq (by kernel_rfl) rfl rfl s H
noncomputable def r22_33 : {l : List Oper // opsOf (cAt [1, 1, 1, 0, 1, 0, 0, 1, 1, 0, 0, 0] B22) = l} := by
  apply Subtype.mk
  dsimp only [opsOf, cAt, kids, B22, bodyOf, Try.f22, List.getD, List.getElem?_cons_zero, List.getElem?_cons_succ, Option.getD_some]
@[simp] theorem n22_33 (s : List V) (H : Heap) : evCode P Γ call n f m (cAt [1, 1, 1, 0, 1, 0, 0, 1, 1, 0, 0, 0] B22) s H = regNext (evOpsGo P Γ call r22_33.1 r22_33.1 s H) := at_region (by kernel_rfl) r22_33.2 s H
attribute [simp] r22_33
@[simp] theorem n22_34 (s : List V) (H : Heap) : evCode P Γ call n f m (cAt [1, 1, 1, 0, 1, 0, 0, 1, 1, 0, 0, 1] B22) s H = seqNext P Γ call n f m (cAt [1, 1, 1, 0, 1, 0, 0, 1, 1, 0, 0, 1, 1] B22) (evCode P Γ call n f m (cAt [1, 1, 1, 0, 1, 0, 0, 1, 1, 0, 0, 1, 0] B22) s H) := at_seq (by kernel_rfl) rfl rfl s H
noncomputable def r22_35 : {l : List Oper // opsOf (cAt [1, 1, 1, 0, 1, 0, 0, 1, 1, 0, 0, 1, 0] B22) = l} := by
  apply Subtype.mk
  dsimp only [opsOf, cAt, kids, B22, bodyOf, Try.f22, List.getD, List.getElem?_cons_zero, List.getElem?_cons_succ, Option.getD_some]
@[simp] theorem n22_35 (s : List V) (H : Heap) : evCode P Γ call n f m (cAt [1, 1, 1, 0, 1, 0, 0, 1, 1, 0, 0, 1, 0] B22) s H = regNext (drawR P Γ call r22_35.1 [([], []), ([], []), ([], []), ([], []), ([], []), ([], []), ([], []), ([], []), ([], []), ([], []), ([], []), ([], []), ([], []), ([], []), ([], []), ([], []), ([], []), ([20, 21, 22, 23, 24], [48, 49, 50, 51, 52]), ([20, 21, 22, 23, 24], [48, 49, 50, 51, 52]), ([20, 21, 22, 23, 24], [48, 49, 50, 51, 52]), ([17, 18, 19, 22], [45, 46, 47, 50]), ([17, 18, 19, 22], [45, 46, 47, 50]), ([17, 18, 19, 20, 21], [45, 46, 47, 48, 49]), ([17, 18, 19], [45, 46, 47]), ([17, 18, 19], [45, 46, 47]), ([], []), ([], []), ([], []), ([], [])] s H) := at_drawT (by kernel_rfl) r22_35.2 (by kernel_rfl) s H
attribute [simp] r22_35
@[simp] theorem n22_36 (s : List V) (H : Heap) : evCode P Γ call n f m (cAt [1, 1, 1, 0, 1, 0, 0, 1, 1, 0, 0, 1, 1] B22) s H = condW P Γ call n f m (cAt [1, 1, 1, 0, 1, 0, 0, 1, 1, 0, 0, 1, 1, 0] B22) (cAt [1, 1, 1, 0, 1, 0, 0, 1, 1, 0, 0, 1, 1, 1] B22) s H (evOperand Γ s (.tmp 56)) := at_cond (by kernel_rfl) (by kernel_rfl) rfl rfl s H
@[simp] theorem n22_37 (s : List V) (H : Heap) : evCode P Γ call n f m (cAt [1, 1, 1, 0, 1, 0, 0, 1, 1, 0, 0, 1, 1, 0] B22) s H = seqNext P Γ call n f m (cAt [1, 1, 1, 0, 1, 0, 0, 1, 1, 0, 0, 1, 1, 0, 1] B22) (evCode P Γ call n f m (cAt [1, 1, 1, 0, 1, 0, 0, 1, 1, 0, 0, 1, 1, 0, 0] B22) s H) := at_seq (by kernel_rfl) rfl rfl s H
noncomputable def r22_38 : {l : List Oper // opsOf (cAt [1, 1, 1, 0, 1, 0, 0, 1, 1, 0, 0, 1, 1, 0, 0] B22) = l} := by
  apply Subtype.mk
  dsimp only [opsOf, cAt, kids, B22, bodyOf, Try.f22, List.getD, List.getElem?_cons_zero, List.getElem?_cons_succ, Option.getD_some]
@[simp] theorem n22_38 (s : List V) (H : Heap) : evCode P Γ call n f m (cAt [1, 1, 1, 0, 1, 0, 0, 1, 1, 0, 0, 1, 1, 0, 0] B22) s H = regNext (evOpsGo P Γ call r22_38.1 r22_38.1 s H) := at_region (by kernel_rfl) r22_38.2 s H
attribute [simp] r22_38
@[simp] theorem n22_39 (s : List V) (H : Heap) : evCode P Γ call n f m (cAt [1, 1, 1, 0, 1, 0, 0, 1, 1, 0, 0, 1, 1, 0, 1] B22) s H = some (.ret, s, H) := at_ret (by kernel_rfl) s H
@[simp] theorem n22_40 (s : List V) (H : Heap) : evCode P Γ call n f m (cAt [1, 1, 1, 0, 1, 0, 0, 1, 1, 0, 0, 1, 1, 1] B22) s H = some (.normal, s, H) := at_skip (by kernel_rfl) s H
noncomputable def r22_41 : {l : List Oper // opsOf (cAt [1, 1, 1, 0, 1, 0, 0, 1, 1, 1] B22) = l} := by
  apply Subtype.mk
  dsimp only [opsOf, cAt, kids, B22, bodyOf, Try.f22, List.getD, List.getElem?_cons_zero, List.getElem?_cons_succ, Option.getD_some]
@[simp] theorem n22_41 (s : List V) (H : Heap) : evCode P Γ call n f m (cAt [1, 1, 1, 0, 1, 0, 0, 1, 1, 1] B22) s H = regNext (evOpsGo P Γ call r22_41.1 r22_41.1 s H) := at_region (by kernel_rfl) r22_41.2 s H
attribute [simp] r22_41
@[simp] theorem n22_42 (s : List V) (H : Heap) : evCode P Γ call n f m (cAt [1, 1, 1, 1] B22) s H = seqNext P Γ call n f m (cAt [1, 1, 1, 1, 1] B22) (evCode P Γ call n f m (cAt [1, 1, 1, 1, 0] B22) s H) := at_seq (by kernel_rfl) rfl rfl s H
noncomputable def r22_43 : {l : List Oper // opsOf (cAt [1, 1, 1, 1, 0] B22) = l} := by
  apply Subtype.mk
  dsimp only [opsOf, cAt, kids, B22, bodyOf, Try.f22, List.getD, List.getElem?_cons_zero, List.getElem?_cons_succ, Option.getD_some]
@[simp] theorem n22_43 (s : List V) (H : Heap) : evCode P Γ call n f m (cAt [1, 1, 1, 1, 0] B22) s H = regNext (evOpsGo P Γ call r22_43.1 r22_43.1 s H) := at_region (by kernel_rfl) r22_43.2 s H
attribute [simp] r22_43
@[simp] theorem n22_44 (s : List V) (H : Heap) : evCode P Γ call n f m (cAt [1, 1, 1, 1, 1] B22) s H = some (.ret, s, H) := at_ret (by kernel_rfl) s H
theorem b22 {k : Nat} (ho : ∀ args H, Γ.orc 22 args H = none) (args : List V) (H : Heap) (ha : args.length ≤ 58) : evF Try.prog Γ (k + 1) 22 args H = bodyEnd Try.prog [.tmp 2] H.length (evCode Try.prog Γ (evF Try.prog Γ k) k 22 H.length (cAt [] B22) (mkL 58 V.undef (enumV 0 args)) H) := body_at Try.func22 (by decide) rfl ho rfl rfl args H ha
noncomputable def B43 : Code := bodyOf Try.f43
@[simp] theorem n43_1 (s : List V) (H : Heap) : evCode P Γ call n f m (cAt [] B43) s H = seqNext P Γ call n f m (cAt [1] B43) (evCode P Γ call n f m (cAt [0] B43) s H) := at_seq (by kernel_rfl) rfl rfl s H
noncomputable def r43_2 : {l : List Oper // opsOf (cAt [0] B43) = l} := by
  apply Subtype.mk
  dsimp only [opsOf, cAt, kids, B43, bodyOf, Try.f43, List.getD, List.getElem?_cons_zero, List.getElem?_cons_succ, Option.getD_some]
@[simp] theorem n43_2 (s : List V) (H : Heap) : evCode P Γ call n f m (cAt [0] B43) s H = regNext (evOpsGo P Γ call r43_2.1 r43_2.1 s H) := at_region (by kernel_rfl) r43_2.2 s H
attribute [simp] r43_2
@[simp] theorem n43_3 (s : List V) (H : Heap) : evCode P Γ call n f m (cAt [1] B43) s H = seqNext P Γ call n f m (cAt [1, 1] B43) (evCode P Γ call n f m (cAt [1, 0] B43) s H) := at_seq (by kernel_rfl) rfl rfl s H
@[simp] theorem n43_4 (s : List V) (H : Heap) : evCode P Γ call n f m (cAt [1, 0] B43) s H = seqNext P Γ call n f m (cAt [1, 0, 1] B43) (evCode P Γ call n f m (cAt [1, 0, 0] B43) s H) := at_seq (by kernel_rfl) rfl rfl s H
noncomputable def r43_5 : {l : List Oper // opsOf (cAt [1, 0, 0] B43) = l} := by
  apply Subtype.mk
  dsimp only [opsOf, cAt, kids, B43, bodyOf, Try.f43, List.getD, List.getElem?_cons_zero, List.getElem?_cons_succ, Option.getD_some]
@[simp] theorem n43_5 (s : List V) (H : Heap) : evCode P Γ call n f m (cAt [1, 0, 0] B43) s H = regNext (evOpsGo P Γ call r43_5.1 r43_5.1 s H) := at_region (by kernel_rfl) r43_5.2 s H
attribute [simp] r43_5
@[simp] theorem n43_6 (s : List V) (H : Heap) : evCode P Γ call n f m (cAt [1, 0, 1] B43) s H = condW P Γ call n f m (cAt [1, 0, 1, 0] B43) (cAt [1, 0, 1, 1] B43) s H (evOperand Γ s (.tmp 14)) := at_cond (by kernel_rfl) (by kernel_rfl) rfl rfl s H
@[simp] theorem n43_7 (s : List V) (H : Heap) : evCode P Γ call n f m (cAt [1, 0, 1, 0] B43) s H = seqNext P Γ call n f m (cAt [1, 0, 1, 0, 1] B43) (evCode P Γ call n f m (cAt [1, 0, 1, 0, 0] B43) s H) := at_seq (by kernel_rfl) rfl rfl s H
noncomputable def r43_8 : {l : List Oper // opsOf (cAt [1, 0, 1, 0, 0] B43) = l} := by
  apply Subtype.mk
  dsimp only [opsOf, cAt, kids, B43, bodyOf, Try.f43, List.getD, List.getElem?_cons_zero, List.getElem?_cons_succ, Option.getD_some]
@[simp] theorem n43_8 (s : List V) (H : Heap) : evCode P Γ call n f m (cAt [1, 0, 1, 0, 0] B43) s H = regNext (evOpsGo P Γ call r43_8.1 r43_8.1 s H) := at_region (by kernel_rfl) r43_8.2 s H
attribute [simp] r43_8
@[simp] theorem n43_9 (s : List V) (H : Heap) : evCode P Γ call n f m (cAt [1, 0, 1, 0, 1] B43) s H = some (.ret, s, H) := at_ret (by kernel_rfl) s H
@[simp] theorem n43_10 (s : List V) (H : Heap) : evCode P Γ call n f m (cAt [1, 0, 1, 1] B43) s H = some (.normal, s, H) := at_skip (by kernel_rfl) s H
@[simp] theorem n43_11 (s : List V) (H : Heap) : evCode P Γ call n f m (cAt [1, 1] B43) s H = seqNext P Γ call n f m (cAt [1, 1, 1] B43) (evCode P Γ call n f m (cAt [1, 1, 0] B43) s H) := at_seq (by kernel_rfl) rfl rfl s H
@[simp] theorem n43_12 (s : List V) (H : Heap) : evCode P Γ call n f m (cAt [1, 1, 0] B43) s H = seqNext P Γ call n f m (cAt [1, 1, 0, 1] B43) (evCode P Γ call n f m (cAt [1, 1, 0, 0] B43) s H) := at_seq (by kernel_rfl) rfl rfl s H
noncomputable def r43_13 : {l : List Oper // opsOf (cAt [1, 1, 0, 0] B43) = l} := by
  apply Subtype.mk
  dsimp only [opsOf, cAt, kids, B43, bodyOf, Try.f43, List.getD, List.getElem?_cons_zero, List.getElem?_cons_succ, Option.getD_some]
@[simp] theorem n43_13 (s : List V) (H : Heap) : evCode P Γ call n f m (cAt [1, 1, 0, 0] B43) s H = regNext (evOpsGo P Γ call r43_13.1 r43_13.1 s H) := at_region (by kernel_rfl) r43_13.2 s H
attribute [simp] r43_13
@[simp] theorem n43_14 (s : List V) (H : Heap) : evCode P Γ call n f m (cAt [1, 1, 0, 1] B43) s H = blockNext 0 (evCode P Γ call n f m (cAt [1, 1, 0, 1, 0] B43) s H) := at_block (by kernel_rfl) rfl s H
@[simp] theorem n43_15 (s : List V) (H : Heap) : evCode P Γ call n f m (cAt [1, 1, 0, 1, 0] B43) s H = evLoopC P Γ call n f m (cAt [1, 1, 0, 1, 0, 0] B43) n s H := at_loop (by kernel_rfl) rfl s H
noncomputable abbrev L43_4 : Code := cAt [1, 1, 0, 1, 0, 0] B43
@[simp] theorem n43_15f : firstRegion (cAt [1, 1, 0, 1, 0, 0] B43) = 4 := by kernel_rfl
@[simp] theorem n43_16 (s : List V) (H : Heap) : evCode P Γ call n f m (cAt [1, 1, 0, 1, 0, 0] B43) s H = seqNext P Γ call n f m (cAt [1, 1, 0, 1, 0, 0, 1] B43) (evCode P Γ call n f m (cAt [1, 1, 0, 1, 0, 0, 0] B43) s H) := at_seq (by kernel_rfl) rfl rfl s H
noncomputable def r43_17 : {l : List Oper // opsOf (cAt [1, 1, 0, 1, 0, 0, 0] B43) = l} := by
  apply Subtype.mk
  dsimp only [opsOf, cAt, kids, B43, bodyOf, Try.f43, List.getD, List.getElem?_cons_zero, List.getElem?_cons_succ, Option.getD_some]
@[simp] theorem n43_17 (s : List V) (H : Heap) : evCode P Γ call n f m (cAt [1, 1, 0, 1, 0, 0, 0] B43) s H = regNext (evOpsGo P Γ call r43_17.1 r43_17.1 s H) := at_region (by kernel_rfl) r43_17.2 s H
attribute [simp] r43_17
@[simp] theorem n43_18 (s : List V) (H : Heap) : evCode P Γ call n f m (cAt [1, 1, 0, 1, 0, 0, 1] B43) s H = seqNext P Γ call n f m (cAt [1, 1, 0, 1, 0, 0, 1, 1] B43) (evCode P Γ call n f m (cAt [1, 1, 0, 1, 0, 0, 1, 0] B43) s H) := at_seq (by kernel_rfl) rfl rfl s H
@[simp] theorem n43_19 (s : List V) (H : Heap) : evCode P Γ call n f m (cAt [1, 1, 0, 1, 0, 0, 1, 0] B43) s H = condW P Γ call n f m (cAt [1, 1, 0, 1, 0, 0, 1, 0, 0] B43) (cAt [1, 1, 0, 1, 0, 0, 1, 0, 1] B43) s H (evOperand Γ s (.tmp 18)) := at_cond (by kernel_rfl) (by kernel_rfl) rfl rfl s H
@[simp] theorem n43_20 (s : List V) (H : Heap) : evCode P Γ call n f m (cAt [1, 1, 0, 1, 0, 0, 1, 0, 0] B43) s H = some (.normal, s, H) := at_skip (by kernel_rfl) s H
@[simp] theorem n43_21 (s : List V) (H : Heap) : evCode P Γ call n f m (cAt [1, 1, 0, 1, 0, 0, 1, 0, 1] B43) s H = some (.exit 0, s, H) := at_exit (by kernel_rfl) s H
@[simp] theorem n43_22 (s : List V) (H : Heap) : evCode P Γ call n f m (cAt [1, 1, 0, 1, 0, 0, 1, 1] B43) s H = seqNext P Γ call n f m (cAt [1, 1, 0, 1, 0, 0, 1, 1, 1] B43) (evCode P Γ call n f m (cAt [1, 1, 0, 1, 0, 0, 1, 1, 0] B43) s H) := at_seq (by kernel_rfl) rfl rfl s H
@[simp] theorem n43_23 (s : List V) (H : Heap) : evCode P Γ call n f m (cAt [1, 1, 0, 1, 0, 0, 1, 1, 0] B43) s H = blockNext 1 (evCode P Γ call n f m (cAt [1, 1, 0, 1, 0, 0, 1, 1, 0, 0] B43) s H) := at_block (by kernel_rfl) rfl s H
@[simp] theorem n43_24 (s : List V) (H : Heap) : evCode P Γ call n f m (cAt [1, 1, 0, 1, 0, 0, 1, 1, 0, 0] B43) s H = seqNext P Γ call n f m (cAt [1, 1, 0, 1, 0, 0, 1, 1, 0, 0, 1] B43) (evCode P Γ call n f m (cAt [1, 1, 0, 1, 0, 0, 1, 1, 0, 0, 0] B43) s H) := at_seq (by kernel_rfl) rfl rfl s H
noncomputable def r43_25 : {l : List Oper // opsOf (cAt [1, 1, 0, 1, 0, 0, 1, 1, 0, 0, 0] B43) = l} := by
  apply Subtype.mk
  dsimp only [opsOf, cAt, kids, B43, bodyOf, Try.f43, List.getD, List.getElem?_cons_zero, List.getElem?_cons_succ, Option.getD_some]
@[simp] theorem n43_25 (s : List V) (H : Heap) : evCode P Γ call n f m (cAt [1, 1, 0, 1, 0, 0, 1, 1, 0, 0, 0] B43) s H = regNext (evOpsGo P Γ call r43_25.1 r43_25.1 s H) := at_region (by kernel_rfl) r43_25.2 s H
attribute [simp] r43_25
@[simp] theorem n43_26 (s : List V) (H : Heap) : evCode P Γ call n f m (cAt [1, 1, 0, 1, 0, 0, 1, 1, 0, 0, 1] B43) s H = seqNext P Γ call n f m (cAt [1, 1, 0, 1, 0, 0, 1, 1, 0, 0, 1, 1] B43) (evCode P Γ call n f m (cAt [1, 1, 0, 1, 0, 0, 1, 1, 0, 0, 1, 0] B43) s H) := at_seq (by kernel_rfl) rfl rfl s H
noncomputable def r43_27 : {l : List Oper // opsOf (cAt [1, 1, 0, 1, 0, 0, 1, 1, 0, 0, 1, 0] B43) = l} := by
  apply Subtype.mk
  dsimp only [opsOf, cAt, kids, B43, bodyOf, Try.f43, List.getD, List.getElem?_cons_zero, List.getElem?_cons_succ, Option.getD_some]
@[simp] theorem n43_27 (s : List V) (H : Heap) : evCode P Γ call n f m (cAt [1, 1, 0, 1, 0, 0, 1, 1, 0, 0, 1, 0] B43) s H = regNext (evOpsGo P Γ call r43_27.1 r43_27.1 s H) := at_region (by kernel_rfl) r43_27.2 s H
attribute [simp] r43_27
@[simp] theorem n43_28 (s : List V) (H : Heap) : evCode P Γ call n f m (cAt [1, 1, 0, 1, 0, 0, 1, 1, 0, 0, 1, 1] B43) s H = seqNext P Γ call n f m (cAt [1, 1, 0, 1, 0, 0, 1, 1, 0, 0, 1, 1, 1] B43) (evCode P Γ call n f m (cAt [1, 1, 0, 1, 0, 0, 1, 1, 0, 0, 1, 1, 0] B43) s H) := at_seq (by kernel_rfl) rfl rfl s H
noncomputable def r43_29 : {l : List Oper // opsOf (cAt [1, 1, 0, 1, 0, 0, 1, 1, 0, 0, 1, 1, 0] B43) = l} := by
  apply Subtype.mk
  dsimp only [opsOf, cAt, kids, B43, bodyOf, Try.f43, List.getD, List.getElem?_cons_zero, List.getElem?_cons_succ, Option.getD_some]
@[simp] theorem n43_29 (s : List V) (H : Heap) : evCode P Γ call n f m (cAt [1, 1, 0, 1, 0, 0, 1, 1, 0, 0, 1, 1, 0] B43) s H = regNext (evOpsGo P Γ call r43_29.1 r43_29.1 s H) := at_region (by kernel_rfl) r43_29.2 s H
attribute [simp] r43_29
@[simp] theorem n43_30 (s : List V) (H : Heap) : evCode P Γ call n f m (cAt [1, 1, 0, 1, 0, 0, 1, 1, 0, 0, 1, 1, 1] B43) s H = condW P Γ call n f m (cAt [1, 1, 0, 1, 0, 0, 1, 1, 0, 0, 1, 1, 1, 0] B43) (cAt [1, 1, 0, 1, 0, 0, 1, 1, 0, 0, 1, 1, 1, 1] B43) s H (evOperand Γ s (.tmp 30)) := at_cond (by kernel_rfl) (by kernel_rfl) rfl rfl s H
@[simp] theorem n43_31 (s : List V) (H : Heap) : evCode P Γ call n f m (cAt [1, 1, 0, 1, 0, 0, 1, 1, 0, 0, 1, 1, 1, 0] B43) s H = seqNext P Γ call n f m (cAt [1, 1, 0, 1, 0, 0, 1, 1, 0, 0, 1, 1, 1, 0, 1] B43) (evCode P Γ call n f m (cAt [1, 1, 0, 1, 0, 0, 1, 1, 0, 0, 1, 1, 1, 0, 0] B43) s H) := at_seq (by kernel_rfl) rfl rfl s H
noncomputable def r43_32 : {l : List Oper // opsOf (cAt [1, 1, 0, 1, 0, 0, 1, 1, 0, 0, 1, 1, 1, 0, 0] B43) = l} := by
  apply Subtype.mk
  dsimp only [opsOf, cAt, kids, B43, bodyOf, Try.f43, List.getD, List.getElem?_cons_zero, List.getElem?_cons_succ, Option.getD_some]
@[simp] theorem n43_32 (s : List V) (H : Heap) : evCode P Γ call n f m (cAt [1, 1, 0, 1, 0, 0, 1, 1, 0, 0, 1, 1, 1, 0, 0] B43) s H = regNext (evOpsGo P Γ call r43_32.1 r43_32.1 s H) := at_region (by kernel_rfl) r43_32.2 s H
attribute [simp] r43_32
@[simp] theorem n43_33 (s : List V) (H : Heap) : evCode P Γ call n f m (cAt [1, 1, 0, 1, 0, 0, 1, 1, 0, 0, 1, 1, 1, 0, 1] B43) s H = some (.ret, s, H) := at_ret (by kernel_rfl) s H
@[simp] theorem n43_34 (s : List V) (H : Heap) : evCode P Γ call n f m (cAt [1, 1, 0, 1, 0, 0, 1, 1, 0, 0, 1, 1, 1, 1] B43) s H = some (.normal, s, H) := at_skip (by kernel_rfl) s H
noncomputable def r43_35 : {l : List Oper // opsOf (cAt [1, 1, 0, 1, 0, 0, 1, 1, 1] B43) = l} := by
  apply Subtype.mk
  dsimp only [opsOf, cAt, kids, B43, bodyOf, Try.f43, List.getD, List.getElem?_cons_zero, List.getElem?_cons_succ, Option.getD_some]
@[simp] theorem n43_35 (s : List V) (H : Heap) : evCode P Γ call n f m (cAt [1, 1, 0, 1, 0, 0, 1, 1, 1] B43) s H = regNext (evOpsGo P Γ call r43_35.1 r43_35.1 s H) := at_region (by kernel_rfl) r43_35.2 s H
attribute [simp] r43_35
@[simp] theorem n43_36 (s : List V) (H : Heap) : evCode P Γ call n f m (cAt [1, 1, 1] B43) s H = seqNext P Γ call n f m (cAt [1, 1, 1, 1] B43) (evCode P Γ call n f m (cAt [1, 1, 1, 0] B43) s H) := at_seq (by kernel_rfl) rfl rfl s H
noncomputable def r43_37 : {l : List Oper // opsOf (cAt [1, 1, 1, 0] B43) = l} := by
  apply Subtype.mk
  dsimp only [opsOf, cAt, kids, B43, bodyOf, Try.f43, List.getD, List.getElem?_cons_zero, List.getElem?_cons_succ, Option.getD_some]
@[simp] theorem n43_37 (s : List V) (H : Heap) : evCode P Γ call n f m (cAt [1, 1, 1, 0] B43) s H = regNext (evOpsGo P Γ call r43_37.1 r43_37.1 s H) := at_region (by kernel_rfl) r43_37.2 s H
attribute [simp] r43_37
@[simp] theorem n43_38 (s : List V) (H : Heap) : evCode P Γ call n f m (cAt [1, 1, 1, 1] B43) s H = some (.ret, s, H) := at_ret (by kernel_rfl) s H
theorem b43 {k : Nat} (ho : ∀ args H, Γ.orc 43 args H = none) (args : List V) (H : Heap) (ha : args.length ≤ 32) : evF Try.prog Γ (k + 1) 43 args H = bodyEnd Try.prog [.tmp 6] H.length (evCode Try.prog Γ (evF Try.prog Γ k) k 43 H.length (cAt [] B43) (mkL 32 V.undef (enumV 0 args)) H) := body_at Try.func43 (by decide) rfl ho rfl rfl args H ha
noncomputable def B44 : Code := bodyOf Try.f44
@[simp] theorem n44_1 (s : List V) (H : Heap) : evCode P Γ call n f m (cAt [] B44) s H = seqNext P Γ call n f m (cAt [1] B44) (evCode P Γ call n f m (cAt [0] B44) s H) := at_seq (by kernel_rfl) rfl rfl s H
noncomputable def r44_2 : {l : List Oper // opsOf (cAt [0] B44) = l} := by
  apply Subtype.mk
  dsimp only [opsOf, cAt, kids, B44, bodyOf, Try.f44, List.getD, List.getElem?_cons_zero, List.getElem?_cons_succ, Option.getD_some]
@[simp] theorem n44_2 (s : List V) (H : Heap) : evCode P Γ call n f m (cAt [0] B44) s H = regNext (evOpsGo P Γ call r44_2.1 r44_2.1 s H) := at_region (by kernel_rfl) r44_2.2 s H
attribute [simp] r44_2
@[simp] theorem n44_3 (s : List V) (H : Heap) : evCode P Γ call n f m (cAt [1] B44) s H = seqNext P Γ call n f m (cAt [1, 1] B44) (evCode P Γ call n f m (cAt [1, 0] B44) s H) := at_seq (by kernel_rfl) rfl rfl s H
noncomputable def r44_4 : {l : List Oper // opsOf (cAt [1, 0] B44) = l} := by
  apply Subtype.mk
  dsimp only [opsOf, cAt, kids, B44, bodyOf, Try.f44, List.getD, List.getElem?_cons_zero, List.getElem?_cons_succ, Option.getD_some]
@[simp] theorem n44_4 (s : List V) (H : Heap) : evCode P Γ call n f m (cAt [1, 0] B44) s H = regNext (evOpsGo P Γ call r44_4.1 r44_4.1 s H) := at_region (by kernel_rfl) r44_4.2 s H
attribute [simp] r44_4
@[simp] theorem n44_5 (s : List V) (H : Heap) : evCode P Γ call n f m (cAt [1, 1] B44) s H = some (.ret, s, H) := at_ret (by kernel_rfl) s H
theorem b44 {k : Nat} (ho : ∀ args H, Γ.orc 44 args H = none) (args : List V) (H : Heap) (ha : args.length ≤ 24) : evF Try.prog Γ (k + 1) 44 args H = bodyEnd Try.prog [.tmp 4] H.length (evCode Try.prog Γ (evF Try.prog Γ k) k 44 H.length (cAt [] B44) (mkL 24 V.undef (enumV 0 args)) H) := body_at Try.func44 (by decide) rfl ho rfl rfl args H ha
noncomputable def B35 : Code := bodyOf Try.f35
@[simp] theorem n35_1 (s : List V) (H : Heap) : evCode P Γ call n f m (cAt [] B35) s H = seqNext P Γ call n f m (cAt [1] B35) (evCode P Γ call n f m (cAt [0] B35) s H) := at_seq (by kernel_rfl) rfl rfl s H
noncomputable def r35_2 : {l : List Oper // opsOf (cAt [0] B35) = l} := by
  apply Subtype.mk
  dsimp only [opsOf, cAt, kids, B35, bodyOf, Try.f35, List.getD, List.getElem?_cons_zero, List.getElem?_cons_succ, Option.getD_some]
@[simp] theorem n35_2 (s : List V) (H : Heap) : evCode P Γ call n f m (cAt [0] B35) s H = regNext (evOpsGo P Γ call r35_2.1 r35_2.1 s H) := at_region (by kernel_rfl) r35_2.2 s H
attribute [simp] r35_2
@[simp] theorem n35_3 (s : List V) (H : Heap) : evCode P Γ call n f m (cAt [1] B35) s H = seqNext P Γ call n f m (cAt [1, 1] B35) (evCode P Γ call n f m (cAt [1, 0] B35) s H) := at_seq (by kernel_rfl) rfl rfl s H
noncomputable def r35_4 : {l : List Oper // opsOf (cAt [1, 0] B35) = l} := by
  apply Subtype.mk
  dsimp only [opsOf, cAt, kids, B35, bodyOf, Try.f35, List.getD, List.getElem?_cons_zero, List.getElem?_cons_succ, Option.getD_some]
@[simp] theorem n35_4 (s : List V) (H : Heap) : evCode P Γ call n f m (cAt [1, 0] B35) s H = regNext (evOpsGo P Γ call r35_4.1 r35_4.1 s H) := at_region (by kernel_rfl) r35_4.2 s H
attribute [simp] r35_4
@[simp] theorem n35_5 (s : List V) (H : Heap) : evCode P Γ call n f m (cAt [1, 1] B35) s H = some (.ret, s, H) := at_ret (by kernel_rfl) s H
theorem b35 {k : Nat} (ho : ∀ args H, Γ.orc 35 args H = none) (args : List V) (H : Heap) (ha : args.length ≤ 10) : evF Try.prog Γ (k + 1) 35 args H = bodyEnd Try.prog [.tmp 4] H.length (evCode Try.prog Γ (evF Try.prog Γ k) k 35 H.length (cAt [] B35) (mkL 10 V.undef (enumV 0 args)) H) := body_at Try.func35 (by decide) rfl ho rfl rfl args H ha
noncomputable def B48 : Code := bodyOf Try.f48
@[simp] theorem n48_1 (s : List V) (H : Heap) : evCode P Γ call n f m (cAt [] B48) s H = seqNext P Γ call n f m (cAt [1] B48) (evCode P Γ call n f m (cAt [0] B48) s H) := at_seq (by kernel_rfl) rfl rfl s H
noncomputable def r48_2 : {l : List Oper // opsOf (cAt [0] B48) = l} := by
  apply Subtype.mk
  dsimp only [opsOf, cAt, kids, B48, bodyOf, Try.f48, List.getD, List.getElem?_cons_zero, List.getElem?_cons_succ, Option.getD_some]
@[simp] theorem n48_2 (s : List V) (H : Heap) : evCode P Γ call n f m (cAt [0] B48) s H = regNext (evOpsGo P Γ call r48_2.1 r48_2.1 s H) := at_region (by kernel_rfl) r48_2.2 s H
attribute [simp] r48_2
@[simp] theorem n48_3 (s : List V) (H : Heap) : evCode P Γ call n f m (cAt [1] B48) s H = seqNext P Γ call n f m (cAt [1, 1] B48) (evCode P Γ call n f m (cAt [1, 0] B48) s H) := at_seq (by kernel_rfl) rfl rfl s H
noncomputable def r48_4 : {l : List Oper // opsOf (cAt [1, 0] B48) = l} := by
  apply Subtype.mk
  dsimp only [opsOf, cAt, kids, B48, bodyOf, Try.f48, List.getD, List.getElem?_cons_zero, List.getElem?_cons_succ, Option.getD_some]
@[simp] theorem n48_4 (s : List V) (H : Heap) : evCode P Γ call n f m (cAt [1, 0] B48) s H = regNext (evOpsGo P Γ call r48_4.1 r48_4.1 s H) := at_region (by kernel_rfl) r48_4.2 s H
attribute [simp] r48_4
@[simp] theorem n48_5 (s : List V) (H : Heap) : evCode P Γ call n f m (cAt [1, 1] B48) s H = seqNext P Γ call n f m (cAt [1, 1, 1] B48) (evCode P Γ call n f m (cAt [1, 1, 0] B48) s H) := at_seq (by kernel_rfl) rfl rfl s H
@[simp] theorem n48_6 (s : List V) (H : Heap) : evCode P Γ call n f m (cAt [1, 1, 0] B48) s H = seqNext P Γ call n f m (cAt [1, 1, 0, 1] B48) (evCode P Γ call n f m (cAt [1, 1, 0, 0] B48) s H) := at_seq (by kernel_rfl) rfl rfl s H
noncomputable def r48_7 : {l : List Oper // opsOf (cAt [1, 1, 0, 0] B48) = l} := by
  apply Subtype.mk
  dsimp only [opsOf, cAt, kids, B48, bodyOf, Try.f48, List.getD, List.getElem?_cons_zero, List.getElem?_cons_succ, Option.getD_some]
@[simp] theorem n48_7 (s : List V) (H : Heap) : evCode P Γ call n f m (cAt [1, 1, 0, 0] B48) s H = regNext (evOpsGo P Γ call r48_7.1 r48_7.1 s H) := at_region (by kernel_rfl) r48_7.2 s H
attribute [simp] r48_7
@[simp] theorem n48_8 (s : List V) (H : Heap) : evCode P Γ call n f m (cAt [1, 1, 0, 1] B48) s H = blockNext 0 (evCode P Γ call n f m (cAt [1, 1, 0, 1, 0] B48) s H) := at_block (by kernel_rfl) rfl s H
@[simp] theorem n48_9 (s : List V) (H : Heap) : evCode P Γ call n f m (cAt [1, 1, 0, 1, 0] B48) s H = evLoopC P Γ call n f m (cAt [1, 1, 0, 1, 0, 0] B48) n s H := at_loop (by kernel_rfl) rfl s H
noncomputable abbrev L48_3 : Code := cAt [1, 1, 0, 1, 0, 0] B48
@[simp] theorem n48_9f : firstRegion (cAt [1, 1, 0, 1, 0, 0] B48) = 3 := by kernel_rfl
@[simp] theorem n48_10 (s : List V) (H : Heap) : evCode P Γ call n f m (cAt [1, 1, 0, 1, 0, 0] B48) s H = seqNext P Γ call n f m (cAt [1, 1, 0, 1, 0, 0, 1] B48) (evCode P Γ call n f m (cAt [1, 1, 0, 1, 0, 0, 0] B48) s H) := at_seq (by kernel_rfl) rfl rfl s H
noncomputable def r48_11 : {l : List Oper // opsOf (cAt [1, 1, 0, 1, 0, 0, 0] B48) = l} := by
  apply Subtype.mk
  dsimp only [opsOf, cAt, kids, B48, bodyOf, Try.f48, List.getD, List.getElem?_cons_zero, List.getElem?_cons_succ, Option.getD_some]
@[simp] theorem n48_11 (s : List V) (H : Heap) : evCode P Γ call n f m (cAt [1, 1, 0, 1, 0, 0, 0] B48) s H = regNext (evOpsGo P Γ call r48_11.1 r48_11.1 s H) := at_region (by kernel_rfl) r48_11.2 s H
attribute [simp] r48_11
@[simp] theorem n48_12 (s : List V) (H : Heap) : evCode P Γ call n f m (cAt [1, 1, 0, 1, 0, 0, 1] B48) s H = seqNext P Γ call n f m (cAt [1, 1, 0, 1, 0, 0, 1, 1] B48) (evCode P Γ call n f m (cAt [1, 1, 0, 1, 0, 0, 1, 0] B48) s H) := at_seq (by kernel_rfl) rfl rfl s H
@[simp] theorem n48_13 (s : List V) (H : Heap) : evCode P Γ call n f m (cAt [1, 1, 0, 1, 0, 0, 1, 0] B48) s H = condW P Γ call n f m (cAt [1, 1, 0, 1, 0, 0, 1, 0, 0] B48) (cAt [1, 1, 0, 1, 0, 0, 1, 0, 1] B48) s H (evOperand Γ s (.tmp 12)) := at_cond (by kernel_rfl) (by kernel_rfl) rfl rfl s H
@[simp] theorem n48_14 (s : List V) (H : Heap) : evCode P Γ call n f m (cAt [1, 1, 0, 1, 0, 0, 1, 0, 0] B48) s H = some (.normal, s, H) := at_skip (by kernel_rfl) s H
@[simp] theorem n48_15 (s : List V) (H : Heap) : evCode P Γ call n f m (cAt [1, 1, 0, 1, 0, 0, 1, 0, 1] B48) s H = some (.exit 0, s, H) := at_exit (by kernel_rfl) s H
@[simp] theorem n48_16 (s : List V) (H : Heap) : evCode P Γ call n f m (cAt [1, 1, 0, 1, 0, 0, 1, 1] B48) s H = seqNext P Γ call n f m (cAt [1, 1, 0, 1, 0, 0, 1, 1, 1] B48) (evCode P Γ call n f m (cAt [1, 1, 0, 1, 0, 0, 1, 1, 0] B48) s H) := at_seq (by kernel_rfl) rfl rfl s H
@[simp] theorem n48_17 (s : List V) (H : Heap) : evCode P Γ call n f m (cAt [1, 1, 0, 1, 0, 0, 1, 1, 0] B48) s H = blockNext 1 (evCode P Γ call n f m (cAt [1, 1, 0, 1, 0, 0, 1, 1, 0, 0] B48) s H) := at_block (by kernel_rfl) rfl s H
@[simp] theorem n48_18 (s : List V) (H : Heap) : evCode P Γ call n f m (cAt [1, 1, 0, 1, 0, 0, 1, 1, 0, 0] B48) s H = seqNext P Γ call n f m (cAt [1, 1, 0, 1, 0, 0, 1, 1, 0, 0, 1] B48) (evCode P Γ call n f m (cAt [1, 1, 0, 1, 0, 0, 1, 1, 0, 0, 0] B48) s H) := at_seq (by kernel_rfl) rfl rfl s H
noncomputable def r48_19 : {l : List Oper // opsOf (cAt [1, 1, 0, 1, 0, 0, 1, 1, 0, 0, 0] B48) = l} := by
  apply Subtype.mk
  dsimp only [opsOf, cAt, kids, B48, bodyOf, Try.f48, List.getD, List.getElem?_cons_zero, List.getElem?_cons_succ, Option.getD_some]
@[simp] theorem n48_19 (s : List V) (H : Heap) : evCode P Γ call n f m (cAt [1, 1, 0, 1, 0, 0, 1, 1, 0, 0, 0] B48) s H = regNext (evOpsGo P Γ call r48_19.1 r48_19.1 s H) := at_region (by kernel_rfl) r48_19.2 s H
attribute [simp] r48_19
@[simp] theorem n48_20 (s : List V) (H : Heap) : evCode P Γ call n f m (cAt [1, 1, 0, 1, 0, 0, 1, 1, 0, 0, 1] B48) s H = seqNext P Γ call n f m (cAt [1, 1, 0, 1, 0, 0, 1, 1, 0, 0, 1, 1] B48) (evCode P Γ call n f m (cAt [1, 1, 0, 1, 0, 0, 1, 1, 0, 0, 1, 0] B48) s H) := at_seq (by kernel_rfl) rfl rfl s H
noncomputable def r48_21 : {l : List Oper // opsOf (cAt [1, 1, 0, 1, 0, 0, 1, 1, 0, 0, 1, 0] B48) = l} := by
  apply Subtype.mk
  dsimp only [opsOf, cAt, kids, B48, bodyOf, Try.f48, List.getD, List.getElem?_cons_zero, List.getElem?_cons_succ, Option.getD_some]
@[simp] theorem n48_21 (s : List V) (H : Heap) : evCode P Γ call n f m (cAt [1, 1, 0, 1, 0, 0, 1, 1, 0, 0, 1, 0] B48) s H = regNext (evOpsGo P Γ call r48_21.1 r48_21.1 s H) := at_region (by kernel_rfl) r48_21.2 s H
attribute [simp] r48_21
@[simp] theorem n48_22 (s : List V) (H : Heap) : evCode P Γ call n f m (cAt [1, 1, 0, 1, 0, 0, 1, 1, 0, 0, 1, 1] B48) s H = seqNext P Γ call n f m (cAt [1, 1, 0, 1, 0, 0, 1, 1, 0, 0, 1, 1, 1] B48) (evCode P Γ call n f m (cAt [1, 1, 0, 1, 0, 0, 1, 1, 0, 0, 1, 1, 0] B48) s H) := at_seq (by kernel_rfl) rfl rfl s H
noncomputable def r48_23 : {l : List Oper // opsOf (cAt [1, 1, 0, 1, 0, 0, 1, 1, 0, 0, 1, 1, 0] B48) = l} := by
  apply Subtype.mk
  dsimp only [opsOf, cAt, kids, B48, bodyOf, Try.f48, List.getD, List.getElem?_cons_zero, List.getElem?_cons_succ, Option.getD_some]
@[simp] theorem n48_23 (s : List V) (H : Heap) : evCode P Γ call n f m (cAt [1, 1, 0, 1, 0, 0, 1, 1, 0, 0, 1, 1, 0] B48) s H = regNext (evOpsGo P Γ call r48_23.1 r48_23.1 s H) := at_region (by kernel_rfl) r48_23.2 s H
attribute [simp] r48_23
@[simp] theorem n48_24 (s : List V) (H : Heap) : evCode P Γ call n f m (cAt [1, 1, 0, 1, 0, 0, 1, 1, 0, 0, 1, 1, 1] B48) s H = condW P Γ call n f m (cAt [1, 1, 0, 1, 0, 0, 1, 1, 0, 0, 1, 1, 1, 0] B48) (cAt [1, 1, 0, 1, 0, 0, 1, 1, 0, 0, 1, 1, 1, 1] B48) s H (evOperand Γ s (.tmp 20)) := at_cond (by kernel_rfl) (by kernel_rfl) rfl rfl s H
noncomputable def r48_25 : {l : List Oper // opsOf (cAt [1, 1, 0, 1, 0, 0, 1, 1, 0, 0, 1, 1, 1, 0] B48) = l} := by
  apply Subtype.mk
  dsimp only [opsOf, cAt, kids, B48, bodyOf, Try.f48, List.getD, List.getElem?_cons_zero, List.getElem?_cons_succ, Option.getD_some]
@[simp] theorem n48_25 (s : List V) (H : Heap) : evCode P Γ call n f m (cAt [1, 1, 0, 1, 0, 0, 1, 1, 0, 0, 1, 1, 1, 0] B48) s H = regNext (evOpsGo P Γ call r48_25.1 r48_25.1 s H) := at_region (by kernel_rfl) r48_25.2 s H
attribute [simp] r48_25
@[simp] theorem n48_26 (s : List V) (H : Heap) : evCode P Γ call n f m (cAt [1, 1, 0, 1, 0, 0, 1, 1, 0, 0, 1, 1, 1, 1] B48) s H = some (.normal, s, H) := at_skip (by kernel_rfl) s H
noncomputable def r48_27 : {l : List Oper // opsOf (cAt [1, 1, 0, 1, 0, 0, 1, 1, 1] B48) = l} := by
  apply Subtype.mk
  dsimp only [opsOf, cAt, kids, B48, bodyOf, Try.f48, List.getD, List.getElem?_cons_zero, List.getElem?_cons_succ, Option.getD_some]
@[simp] theorem n48_27 (s : List V) (H : Heap) : evCode P Γ call n f m (cAt [1, 1, 0, 1, 0, 0, 1, 1, 1] B48) s H = regNext (evOpsGo P Γ call r48_27.1 r48_27.1 s H) := at_region (by kernel_rfl) r48_27.2 s H
attribute [simp] r48_27
@[simp] theorem n48_28 (s : List V) (H : Heap) : evCode P Γ call n f m (cAt [1, 1, 1] B48) s H = seqNext P Γ call n f m (cAt [1, 1, 1, 1] B48) (evCode P Γ call n f m (cAt [1, 1, 1, 0] B48) s H) := at_seq (by kernel_rfl) rfl rfl s H
noncomputable def r48_29 : {l : List Oper // opsOf (cAt [1, 1, 1, 0] B48) = l} := by
  apply Subtype.mk
  dsimp only [opsOf, cAt, kids, B48, bodyOf, Try.f48, List.getD, List.getElem?_cons_zero, List.getElem?_cons_succ, Option.getD_some]
@[simp] theorem n48_29 (s : List V) (H : Heap) : evCode P Γ call n f m (cAt [1, 1, 1, 0] B48) s H = regNext (evOpsGo P Γ call r48_29.1 r48_29.1 s H) := at_region (by kernel_rfl) r48_29.2 s H
attribute [simp] r48_29
@[simp] theorem n48_30 (s : List V) (H : Heap) : evCode P Γ call n f m (cAt [1, 1, 1, 1] B48) s H = seqNext P Γ call n f m (cAt [1, 1, 1, 1, 1] B48) (evCode P Γ call n f m (cAt [1, 1, 1, 1, 0] B48) s H) := at_seq (by kernel_rfl) rfl rfl s H
@[simp] theorem n48_31 (s : List V) (H : Heap) : evCode P Γ call n f m (cAt [1, 1, 1, 1, 0] B48) s H = seqNext P Γ call n f m (cAt [1, 1, 1, 1, 0, 1] B48) (evCode P Γ call n f m (cAt [1, 1, 1, 1, 0, 0] B48) s H) := at_seq (by kernel_rfl) rfl rfl s H
noncomputable def r48_32 : {l : List Oper // opsOf (cAt [1, 1, 1, 1, 0, 0] B48) = l} := by
  apply Subtype.mk
  dsimp only [opsOf, cAt, kids, B48, bodyOf, Try.f48, List.getD, List.getElem?_cons_zero, List.getElem?_cons_succ, Option.getD_some]
@[simp] theorem n48_32 (s : List V) (H : Heap) : evCode P Γ call n f m (cAt [1, 1, 1, 1, 0, 0] B48) s H = regNext (evOpsGo P Γ call r48_32.1 r48_32.1 s H) := at_region (by kernel_rfl) r48_32.2 s H
attribute [simp] r48_32
@[simp] theorem n48_33 (s : List V) (H : Heap) : evCode P Γ call n f m (cAt [1, 1, 1, 1, 0, 1] B48) s H = blockNext 2 (evCode P Γ call n f m (cAt [1, 1, 1, 1, 0, 1, 0] B48) s H) := at_block (by kernel_rfl) rfl s H
@[simp] theorem n48_34 (s : List V) (H : Heap) : evCode P Γ call n f m (cAt [1, 1, 1, 1, 0, 1, 0] B48) s H = evLoopC P Γ call n f m (cAt [1, 1, 1, 1, 0, 1, 0, 0] B48) n s H := at_loop (by kernel_rfl) rfl s H
noncomputable abbrev L48_11 : Code := cAt [1, 1, 1, 1, 0, 1, 0, 0] B48
@[simp] theorem n48_34f : firstRegion (cAt [1, 1, 1, 1, 0, 1, 0, 0] B48) = 11 := by kernel_rfl
@[simp] theorem n48_35 (s : List V) (H : Heap) : evCode P Γ call n f m (cAt [1, 1, 1, 1, 0, 1, 0, 0] B48) s H = seqNext P Γ call n f m (cAt [1, 1, 1, 1, 0, 1, 0, 0, 1] B48) (evCode P Γ call n f m (cAt [1, 1, 1, 1, 0, 1, 0, 0, 0] B48) s H) := at_seq (by kernel_rfl) rfl rfl s H
noncomputable def r48_36 : {l : List Oper // opsOf (cAt [1, 1, 1, 1, 0, 1, 0, 0, 0] B48) = l} := by
  apply Subtype.mk
  dsimp only [opsOf, cAt, kids, B48, bodyOf, Try.f48, List.getD, List.getElem?_cons_zero, List.getElem?_cons_succ, Option.getD_some]
@[simp] theorem n48_36 (s : List V) (H : Heap) : evCode P Γ call n f m (cAt [1, 1, 1, 1, 0, 1, 0, 0, 0] B48) s H = regNext (evOpsGo P Γ call r48_36.1 r48_36.1 s H) := at_region (by kernel_rfl) r48_36.2 s H
attribute [simp] r48_36
@[simp] theorem n48_37 (s : List V) (H : Heap) : evCode P Γ call n f m (cAt [1, 1, 1, 1, 0, 1, 0, 0, 1] B48) s H = seqNext P Γ call n f m (cAt [1, 1, 1, 1, 0, 1, 0, 0, 1, 1] B48) (evCode P Γ call n f m (cAt [1, 1, 1, 1, 0, 1, 0, 0, 1, 0] B48) s H) := at_seq (by kernel_rfl) rfl rfl s H
@[simp] theorem n48_38 (s : List V) (H : Heap) : evCode P Γ call n f m (cAt [1, 1, 1, 1, 0, 1, 0, 0, 1, 0] B48) s H = condW P Γ call n f m (cAt [1, 1, 1, 1, 0, 1, 0, 0, 1, 0, 0] B48) (cAt [1, 1, 1, 1, 0, 1, 0, 0, 1, 0, 1] B48) s H (evOperand Γ s (.tmp 28)) := at_cond (by kernel_rfl) (by kernel_rfl) rfl rfl s H
@[simp] theorem n48_39 (s : List V) (H : Heap) : evCode P Γ call n f m (cAt [1, 1, 1, 1, 0, 1, 0, 0, 1, 0, 0] B48) s H = some (.normal, s, H) := at_skip (by kernel_rfl) s H
@[simp] theorem n48_40 (s : List V) (H : Heap) : evCode P Γ call n f m (cAt [1, 1, 1, 1, 0, 1, 0, 0, 1, 0, 1] B48) s H = some (.exit 2, s, H) := at_exit (by kernel_rfl) s H
@[simp] theorem n48_41 (s : List V) (H : Heap) : evCode P Γ call n f m (cAt [1, 1, 1, 1, 0, 1, 0, 0, 1, 1] B48) s H = seqNext P Γ call n f m (cAt [1, 1, 1, 1, 0, 1, 0, 0, 1, 1, 1] B48) (evCode P Γ call n f m (cAt [1, 1, 1, 1, 0, 1, 0, 0, 1, 1, 0] B48) s H) := at_seq (by kernel_rfl) rfl rfl s H
@[simp] theorem n48_42 (s : List V) (H : Heap) : evCode P Γ call n f m (cAt [1, 1, 1, 1, 0, 1, 0, 0, 1, 1, 0] B48) s H = blockNext 3 (evCode P Γ call n f m (cAt [1, 1, 1, 1, 0, 1, 0, 0, 1, 1, 0, 0] B48) s H) := at_block (by kernel_rfl) rfl s H
@[simp] theorem n48_43 (s : List V) (H : Heap) : evCode P Γ call n f m (cAt [1, 1, 1, 1, 0, 1, 0, 0, 1, 1, 0, 0] B48) s H = seqNext P Γ call n f m (cAt [1, 1, 1, 1, 0, 1, 0, 0, 1, 1, 0, 0, 1] B48) (evCode P Γ call n f m (cAt [1, 1, 1, 1, 0, 1, 0, 0, 1, 1, 0, 0, 0] B48) s H) := at_seq (by kernel_rfl) rfl rfl s H
noncomputable def r48_44 : {l : List Oper // opsOf (cAt [1, 1, 1, 1, 0, 1, 0, 0, 1, 1, 0, 0, 0] B48) = l} := by
  apply Subtype.mk
  dsimp only [opsOf, cAt, kids, B48, bodyOf, Try.f48, List.getD, List.getElem?_cons_zero, List.getElem?_cons_succ, Option.getD_some]
@[simp] theorem n48_44 (s : List V) (H : Heap) : evCode P Γ call n f m (cAt [1, 1, 1, 1, 0, 1, 0, 0, 1, 1, 0, 0, 0] B48) s H = regNext (evOpsGo P Γ call r48_44.1 r48_44.1 s H) := at_region (by kernel_rfl) r48_44.2 s H
attribute [simp] r48_44
noncomputable def r48_45 : {l : List Oper // opsOf (cAt [1, 1, 1, 1, 0, 1, 0, 0, 1, 1, 0, 0, 1] B48) = l} := by
  apply Subtype.mk
  dsimp only [opsOf, cAt, kids, B48, bodyOf, Try.f48, List.getD, List.getElem?_cons_zero, List.getElem?_cons_succ, Option.getD_some]
@[simp] theorem n48_45 (s : List V) (H : Heap) : evCode P Γ call n f m (cAt [1, 1, 1, 1, 0, 1, 0, 0, 1, 1, 0, 0, 1] B48) s H = regNext (evOpsGo P Γ call r48_45.1 r48_45.1 s H) := at_region (by kernel_rfl) r48_45.2 s H
attribute [simp] r48_45
noncomputable def r48_46 : {l : List Oper // opsOf (cAt [1, 1, 1, 1, 0, 1, 0, 0, 1, 1, 1] B48) = l} := by
  apply Subtype.mk
  dsimp only [opsOf, cAt, kids, B48, bodyOf, Try.f48, List.getD, List.getElem?_cons_zero, List.getElem?_cons_succ, Option.getD_some]
@[simp] theorem n48_46 (s : List V) (H : Heap) : evCode P Γ call n f m (cAt [1, 1, 1, 1, 0, 1, 0, 0, 1, 1, 1] B48) s H = regNext (evOpsGo P Γ call r48_46.1 r48_46.1 s H) := at_region (by kernel_rfl) r48_46.2 s H
attribute [simp] r48_46
@[simp] theorem n48_47 (s : List V) (H : Heap) : evCode P Γ call n f m (cAt [1, 1, 1, 1, 1] B48) s H = seqNext P Γ call n f m (cAt [1, 1, 1, 1, 1, 1] B48) (evCode P Γ call n f m (cAt [1, 1, 1, 1, 1, 0] B48) s H) := at_seq (by kernel_rfl) rfl rfl s H
noncomputable def r48_48 : {l : List Oper // opsOf (cAt [1, 1, 1, 1, 1, 0] B48) = l} := by
  apply Subtype.mk
  dsimp only [opsOf, cAt, kids, B48, bodyOf, Try.f48, List.getD, List.getElem?_cons_zero, List.getElem?_cons_succ, Option.getD_some]
@[simp] theorem n48_48 (s : List V) (H : Heap) : evCode P Γ call n f m (cAt [1, 1, 1, 1, 1, 0] B48) s H = regNext (evOpsGo P Γ call r48_48.1 r48_48.1 s H) := at_region (by kernel_rfl) r48_48.2 s H
attribute [simp] r48_48
@[simp] theorem n48_49 (s : List V) (H : Heap) : evCode P Γ call n f m (cAt [1, 1, 1, 1, 1, 1] B48) s H = some (.ret, s, H) := at_ret (by kernel_rfl) s H
theorem b48 {k : Nat} (ho : ∀ args H, Γ.orc 48 args H = none) (args : List V) (H : Heap) (ha : args.length ≤ 36) : evF Try.prog Γ (k + 1) 48 args H = bodyEnd Try.prog [.tmp 2] H.length (evCode Try.prog Γ (evF Try.prog Γ k) k 48 H.length (cAt [] B48) (mkL 36 V.undef (enumV 0 args)) H) := body_at Try.func48 (by decide) rfl ho rfl rfl args H ha
noncomputable def B49 : Code := bodyOf Try.f49
@[simp] theorem n49_1 (s : List V) (H : Heap) : evCode P Γ call n f m (cAt [] B49) s H = seqNext P Γ call n f m (cAt [1] B49) (evCode P Γ call n f m (cAt [0] B49) s H) := at_seq (by kernel_rfl) rfl rfl s H
noncomputable def r49_2 : {l : List Oper // opsOf (cAt [0] B49) = l} := by
  apply Subtype.mk
  dsimp only [opsOf, cAt, kids, B49, bodyOf, Try.f49, List.getD, List.getElem?_cons_zero, List.getElem?_cons_succ, Option.getD_some]
@[simp] theorem n49_2 (s : List V) (H : Heap) : evCode P Γ call n f m (cAt [0] B49) s H = regNext (evOpsGo P Γ call r49_2.1 r49_2.1 s H) := at_region (by kernel_rfl) r49_2.2 s H
attribute [simp] r49_2
@[simp] theorem n49_3 (s : List V) (H : Heap) : evCode P Γ call n f m (cAt [1] B49) s H = seqNext P Γ call n f m (cAt [1, 1] B49) (evCode P Γ call n f m (cAt [1, 0] B49) s H) := at_seq (by kernel_rfl) rfl rfl s H
noncomputable def r49_4 : {l : List Oper // opsOf (cAt [1, 0] B49) = l} := by
  apply Subtype.mk
  dsimp only [opsOf, cAt, kids, B49, bodyOf, Try.f49, List.getD, List.getElem?_cons_zero, List.getElem?_cons_succ, Option.getD_some]
@[simp] theorem n49_4 (s : List V) (H : Heap) : evCode P Γ call n f m (cAt [1, 0] B49) s H = regNext (evOpsGo P Γ call r49_4.1 r49_4.1 s H) := at_region (by kernel_rfl) r49_4.2 s H
attribute [simp] r49_4
@[simp] theorem n49_5 (s : List V) (H : Heap) : evCode P Γ call n f m (cAt [1, 1] B49) s H = seqNext P Γ call n f m (cAt [1, 1, 1] B49) (evCode P Γ call n f m (cAt [1, 1, 0] B49) s H) := at_seq (by kernel_rfl) rfl rfl s H
@[simp] theorem n49_6 (s : List V) (H : Heap) : evCode P Γ call n f m (cAt [1, 1, 0] B49) s H = seqNext P Γ call n f m (cAt [1, 1, 0, 1] B49) (evCode P Γ call n f m (cAt [1, 1, 0, 0] B49) s H) := at_seq (by kernel_rfl) rfl rfl s H
noncomputable def r49_7 : {l : List Oper // opsOf (cAt [1, 1, 0, 0] B49) = l} := by
  apply Subtype.mk
  dsimp only [opsOf, cAt, kids, B49, bodyOf, Try.f49, List.getD, List.getElem?_cons_zero, List.getElem?_cons_succ, Option.getD_some]
@[simp] theorem n49_7 (s : List V) (H : Heap) : evCode P Γ call n f m (cAt [1, 1, 0, 0] B49) s H = regNext (evOpsGo P Γ call r49_7.1 r49_7.1 s H) := at_region (by kernel_rfl) r49_7.2 s H
attribute [simp] r49_7
@[simp] theorem n49_8 (s : List V) (H : Heap) : evCode P Γ call n f m (cAt [1, 1, 0, 1] B49) s H = blockNext 0 (evCode P Γ call n f m (cAt [1, 1, 0, 1, 0] B49) s H) := at_block (by kernel_rfl) rfl s H
@[simp] theorem n49_9 (s : List V) (H : Heap) : evCode P Γ call n f m (cAt [1, 1, 0, 1, 0] B49) s H = evLoopC P Γ call n f m (cAt [1, 1, 0, 1, 0, 0] B49) n s H := at_loop (by kernel_rfl) rfl s H
noncomputable abbrev L49_3 : Code := cAt [1, 1, 0, 1, 0, 0] B49
@[simp] theorem n49_9f : firstRegion (cAt [1, 1, 0, 1, 0, 0] B49) = 3 := by kernel_rfl
@[simp] theorem n49_10 (s : List V) (H : Heap) : evCode P Γ call n f m (cAt [1, 1, 0, 1, 0, 0] B49) s H = seqNext P Γ call n f m (cAt [1, 1, 0, 1, 0, 0, 1] B49) (evCode P Γ call n f m (cAt [1, 1, 0, 1, 0, 0, 0] B49) s H) := at_seq (by kernel_rfl) rfl rfl s H
noncomputable def r49_11 : {l : List Oper // opsOf (cAt [1, 1, 0, 1, 0, 0, 0] B49) = l} := by
  apply Subtype.mk
  dsimp only [opsOf, cAt, kids, B49, bodyOf, Try.f49, List.getD, List.getElem?_cons_zero, List.getElem?_cons_succ, Option.getD_some]
@[simp] theorem n49_11 (s : List V) (H : Heap) : evCode P Γ call n f m (cAt [1, 1, 0, 1, 0, 0, 0] B49) s H = regNext (evOpsGo P Γ call r49_11.1 r49_11.1 s H) := at_region (by kernel_rfl) r49_11.2 s H
attribute [simp] r49_11
@[simp] theorem n49_12 (s : List V) (H : Heap) : evCode P Γ call n f m (cAt [1, 1, 0, 1, 0, 0, 1] B49) s H = seqNext P Γ call n f m (cAt [1, 1, 0, 1, 0, 0, 1, 1] B49) (evCode P Γ call n f m (cAt [1, 1, 0, 1, 0, 0, 1, 0] B49) s H) := at_seq (by kernel_rfl) rfl rfl s H
@[simp] theorem n49_13 (s : List V) (H : Heap) : evCode P Γ call n f m (cAt [1, 1, 0, 1, 0, 0, 1, 0] B49) s H = condW P Γ call n f m (cAt [1, 1, 0, 1, 0, 0, 1, 0, 0] B49) (cAt [1, 1, 0, 1, 0, 0, 1, 0, 1] B49) s H (evOperand Γ s (.tmp 9)) := at_cond (by kernel_rfl) (by kernel_rfl) rfl rfl s H
@[simp] theorem n49_14 (s : List V) (H : Heap) : evCode P Γ call n f m (cAt [1, 1, 0, 1, 0, 0, 1, 0, 0] B49) s H = some (.normal, s, H) := at_skip (by kernel_rfl) s H
@[simp] theorem n49_15 (s : List V) (H : Heap) : evCode P Γ call n f m (cAt [1, 1, 0, 1, 0, 0, 1, 0, 1] B49) s H = some (.exit 0, s, H) := at_exit (by kernel_rfl) s H
@[simp] theorem n49_16 (s : List V) (H : Heap) : evCode P Γ call n f m (cAt [1, 1, 0, 1, 0, 0, 1, 1] B49) s H = seqNext P Γ call n f m (cAt [1, 1, 0, 1, 0, 0, 1, 1, 1] B49) (evCode P Γ call n f m (cAt [1, 1, 0, 1, 0, 0, 1, 1, 0] B49) s H) := at_seq (by kernel_rfl) rfl rfl s H
@[simp] theorem n49_17 (s : List V) (H : Heap) : evCode P Γ call n f m (cAt [1, 1, 0, 1, 0, 0, 1, 1, 0] B49) s H = blockNext 1 (evCode P Γ call n f m (cAt [1, 1, 0, 1, 0, 0, 1, 1, 0, 0] B49) s H) := at_block (by kernel_rfl) rfl s H
@[simp] theorem n49_18 (s : List V) (H : Heap) : evCode P Γ call n f m (cAt [1, 1, 0, 1, 0, 0, 1, 1, 0, 0] B49) s H = seqNext P Γ call n f m (cAt [1, 1, 0, 1, 0, 0, 1, 1, 0, 0, 1] B49) (evCode P Γ call n f m (cAt [1, 1, 0, 1, 0, 0, 1, 1, 0, 0, 0] B49) s H) := at_seq (by kernel_rfl) rfl rfl s H
noncomputable def r49_19 : {l : List Oper // opsOf (cAt [1, 1, 0, 1, 0, 0, 1, 1, 0, 0, 0] B49) = l} := by
  apply Subtype.mk
  dsimp only [opsOf, cAt, kids, B49, bodyOf, Try.f49, List.getD, List.getElem?_cons_zero, List.getElem?_cons_succ, Option.getD_some]
@[simp] theorem n49_19 (s : List V) (H : Heap) : evCode P Γ call n f m (cAt [1, 1, 0, 1, 0, 0, 1, 1, 0, 0, 0] B49) s H = regNext (evOpsGo P Γ call r49_19.1 r49_19.1 s H) := at_region (by kernel_rfl) r49_19.2 s H
attribute [simp] r49_19
noncomputable def r49_20 : {l : List Oper // opsOf (cAt [1, 1, 0, 1, 0, 0, 1, 1, 0, 0, 1] B49) = l} := by
  apply Subtype.mk
  dsimp only [opsOf, cAt, kids, B49, bodyOf, Try.f49, List.getD, List.getElem?_cons_zero, List.getElem?_cons_succ, Option.getD_some]
@[simp] theorem n49_20 (s : List V) (H : Heap) : evCode P Γ call n f m (cAt [1, 1, 0, 1, 0, 0, 1, 1, 0, 0, 1] B49) s H = regNext (evOpsGo P Γ call r49_20.1 r49_20.1 s H) := at_region (by kernel_rfl) r49_20.2 s H
attribute [simp] r49_20
noncomputable def r49_21 : {l : List Oper // opsOf (cAt [1, 1, 0, 1, 0, 0, 1, 1, 1] B49) = l} := by
  apply Subtype.mk
  dsimp only [opsOf, cAt, kids, B49, bodyOf, Try.f49, List.getD, List.getElem?_cons_zero, List.getElem?_cons_succ, Option.getD_some]
@[simp] theorem n49_21 (s : List V) (H : Heap) : evCode P Γ call n f m (cAt [1, 1, 0, 1, 0, 0, 1, 1, 1] B49) s H = regNext (evOpsGo P Γ call r49_21.1 r49_21.1 s H) := at_region (by kernel_rfl) r49_21.2 s H
attribute [simp] r49_21
@[simp] theorem n49_22 (s : List V) (H : Heap) : evCode P Γ call n f m (cAt [1, 1, 1] B49) s H = seqNext P Γ call n f m (cAt [1, 1, 1, 1] B49) (evCode P Γ call n f m (cAt [1, 1, 1, 0] B49) s H) := at_seq (by kernel_rfl) rfl rfl s H
noncomputable def r49_23 : {l : List Oper // opsOf (cAt [1, 1, 1, 0] B49) = l} := by
  apply Subtype.mk
  dsimp only [opsOf, cAt, kids, B49, bodyOf, Try.f49, List.getD, List.getElem?_cons_zero, List.getElem?_cons_succ, Option.getD_some]
@[simp] theorem n49_23 (s : List V) (H : Heap) : evCode P Γ call n f m (cAt [1, 1, 1, 0] B49) s H = regNext (evOpsGo P Γ call r49_23.1 r49_23.1 s H) := at_region (by kernel_rfl) r49_23.2 s H
attribute [simp] r49_23
@[simp] theorem n49_24 (s : List V) (H : Heap) : evCode P Γ call n f m (cAt [1, 1, 1, 1] B49) s H = some (.ret, s, H) := at_ret (by kernel_rfl) s H
theorem b49 {k : Nat} (ho : ∀ args H, Γ.orc 49 args H = none) (args : List V) (H : Heap) (ha : args.length ≤ 21) : evF Try.prog Γ (k + 1) 49 args H = bodyEnd Try.prog [.tmp 2] H.length (evCode Try.prog Γ (evF Try.prog Γ k) k 49 H.length (cAt [] B49) (mkL 21 V.undef (enumV 0 args)) H) := body_at Try.func49 (by decide) rfl ho rfl rfl args H ha
noncomputable def B58 : Code := bodyOf Try.f58
@[simp] theorem n58_1 (s : List V) (H : Heap) : evCode P Γ call n f m (cAt [] B58) s H = seqNext P Γ call n f m (cAt [1] B58) (evCode P Γ call n f m (cAt [0] B58) s H) := at_seq (by kernel_rfl) rfl rfl s H
noncomputable def r58_2 : {l : List Oper // opsOf (cAt [0] B58) = l} := by
  apply Subtype.mk
  dsimp only [opsOf, cAt, kids, B58, bodyOf, Try.f58, List.getD, List.getElem?_cons_zero, List.getElem?_cons_succ, Option.getD_some]
@[simp] theorem n58_2 (s : List V) (H : Heap) : evCode P Γ call n f m (cAt [0] B58) s H = regNext (evOpsGo P Γ call r58_2.1 r58_2.1 s H) := at_region (by kernel_rfl) r58_2.2 s H
attribute [simp] r58_2
@[simp] theorem n58_3 (s : List V) (H : Heap) : evCode P Γ call n f m (cAt [1] B58) s H = seqNext P Γ call n f m (cAt [1, 1] B58) (evCode P Γ call n f m (cAt [1, 0] B58) s H) := at_seq (by kernel_rfl) rfl rfl s H
@[simp] theorem n58_4 (s : List V) (H : Heap) : evCode P Γ call n f m (cAt [1, 0] B58) s H = seqNext P Γ call n f m (cAt [1, 0, 1] B58) (evCode P Γ call n f m (cAt [1, 0, 0] B58) s H) := at_seq (by kernel_rfl) rfl rfl s H
noncomputable def r58_5 : {l : List Oper // opsOf (cAt [1, 0, 0] B58) = l} := by
  apply Subtype.mk
  dsimp only [opsOf, cAt, kids, B58, bodyOf, Try.f58, List.getD, List.getElem?_cons_zero, List.getElem?_cons_succ, Option.getD_some]
@[simp] theorem n58_5 (s : List V) (H : Heap) : evCode P Γ call n f m (cAt [1, 0, 0] B58) s H = regNext (evOpsGo P Γ call r58_5.1 r58_5.1 s H) := at_region (by kernel_rfl) r58_5.2 s H
attribute [simp] r58_5
@[simp] theorem n58_6 (s : List V) (H : Heap) : evCode P Γ call n f m (cAt [1, 0, 1] B58) s H = condW P Γ call n f m (cAt [1, 0, 1, 0] B58) (cAt [1, 0, 1, 1] B58) s H (evOperand Γ s (.tmp 6)) := at_cond (by kernel_rfl) (by kernel_rfl) rfl rfl s H
noncomputable def r58_7 : {l : List Oper // opsOf (cAt [1, 0, 1, 0] B58) = l} := by
  apply Subtype.mk
  dsimp only [opsOf, cAt, kids, B58, bodyOf, Try.f58, List.getD, List.getElem?_cons_zero, List.getElem?_cons_succ, Option.getD_some]
@[simp] theorem n58_7 (s : List V) (H : Heap) : evCode P Γ call n f m (cAt [1, 0, 1, 0] B58) s H = regNext (evOpsGo P Γ call r58_7.1 r58_7.1 s H) := at_region (by kernel_rfl) r58_7.2 s H
attribute [simp] r58_7
@[simp] theorem n58_8 (s : List V) (H : Heap) : evCode P Γ call n f m (cAt [1, 0, 1, 1] B58) s H = some (.normal, s, H) := at_skip (by kernel_rfl) s H
@[simp] theorem n58_9 (s : List V) (H : Heap) : evCode P Γ call n f m (cAt [1, 1] B58) s H = seqNext P Γ call n f m (cAt [1, 1, 1] B58) (evCode P Γ call n f m (cAt [1, 1, 0] B58) s H) := at_seq (by kernel_rfl) rfl rfl s H
@[simp] theorem n58_10 (s : List V) (H : Heap) : evCode P Γ call n f m (cAt [1, 1, 0] B58) s H = seqNext P Γ call n f m (cAt [1, 1, 0, 1] B58) (evCode P Γ call n f m (cAt [1, 1, 0, 0] B58) s H) := at_seq (by kernel_rfl) rfl rfl s H
noncomputable def r58_11 : {l : List Oper // opsOf (cAt [1, 1, 0, 0] B58) = l} := by
  apply Subtype.mk
  dsimp only [opsOf, cAt, kids, B58, bodyOf, Try.f58, List.getD, List.getElem?_cons_zero, List.getElem?_cons_succ, Option.getD_some]
@[simp] theorem n58_11 (s : List V) (H : Heap) : evCode P Γ call n f m (cAt [1, 1, 0, 0] B58) s H = regNext (evOpsGo P Γ call r58_11.1 r58_11.1 s H) := at_region (by kernel_rfl) r58_11.2 s H
attribute [simp] r58_11
@[simp] theorem n58_12 (s : List V) (H : Heap) : evCode P Γ call n f m (cAt [1, 1, 0, 1] B58) s H = seqNext P Γ call n f m (cAt [1, 1, 0, 1, 1] B58) (evCode P Γ call n f m (cAt [1, 1, 0, 1, 0] B58) s H) := at_seq (by kernel_rfl) rfl rfl s H
noncomputable def r58_13 : {l : List Oper // opsOf (cAt [1, 1, 0, 1, 0] B58) = l} := by
  apply Subtype.mk
  dsimp only [opsOf, cAt, kids, B58, bodyOf, Try.f58, List.getD, List.getElem?_cons_zero, List.getElem?_cons_succ, Option.getD_some]
@[simp] theorem n58_13 (s : List V) (H : Heap) : evCode P Γ call n f m (cAt [1, 1, 0, 1, 0] B58) s H = regNext (evOpsGo P Γ call r58_13.1 r58_13.1 s H) := at_region (by kernel_rfl) r58_13.2 s H
attribute [simp] r58_13
@[simp] theorem n58_14 (s : List V) (H : Heap) : evCode P Γ call n f m (cAt [1, 1, 0, 1, 1] B58) s H = condW P Γ call n f m (cAt [1, 1, 0, 1, 1, 0] B58) (cAt [1, 1, 0, 1, 1, 1] B58) s H (evOperand Γ s (.tmp 16)) := at_cond (by kernel_rfl) (by kernel_rfl) rfl rfl s H
noncomputable def r58_15 : {l : List Oper // opsOf (cAt [1, 1, 0, 1, 1, 0] B58) = l} := by
  apply Subtype.mk
  dsimp only [opsOf, cAt, kids, B58, bodyOf, Try.f58, List.getD, List.getElem?_cons_zero, List.getElem?_cons_succ, Option.getD_some]
@[simp] theorem n58_15 (s : List V) (H : Heap) : evCode P Γ call n f m (cAt [1, 1, 0, 1, 1, 0] B58) s H = regNext (evOpsGo P Γ call r58_15.1 r58_15.1 s H) := at_region (by kernel_rfl) r58_15.2 s H
attribute [simp] r58_15
@[simp] theorem n58_16 (s : List V) (H : Heap) : evCode P Γ call n f m (cAt [1, 1, 0, 1, 1, 1] B58) s H = some (.normal, s, H) := at_skip (by kernel_rfl) s H
@[simp] theorem n58_17 (s : List V) (H : Heap) : evCode P Γ call n f m (cAt [1, 1, 1] B58) s H = seqNext P Γ call n f m (cAt [1, 1, 1, 1] B58) (evCode P Γ call n f m (cAt [1, 1, 1, 0] B58) s H) := at_seq (by kernel_rfl) rfl rfl s H
noncomputable def r58_18 : {l : List Oper // opsOf (cAt [1, 1, 1, 0] B58) = l} := by
  apply Subtype.mk
  dsimp only [opsOf, cAt, kids, B58, bodyOf, Try.f58, List.getD, List.getElem?_cons_zero, List.getElem?_cons_succ, Option.getD_some]
@[simp] theorem n58_18 (s : List V) (H : Heap) : evCode P Γ call n f m (cAt [1, 1, 1, 0] B58) s H = regNext (evOpsGo P Γ call r58_18.1 r58_18.1 s H) := at_region (by kernel_rfl) r58_18.2 s H
attribute [simp] r58_18
@[simp] theorem n58_19 (s : List V) (H : Heap) : evCode P Γ call n f m (cAt [1, 1, 1, 1] B58) s H = some (.ret, s, H) := at_ret (by kernel_rfl) s H
theorem b58 {k : Nat} (ho : ∀ args H, Γ.orc 58 args H = none) (args : List V) (H : Heap) (ha : args.length ≤ 27) : evF Try.prog Γ (k + 1) 58 args H = bodyEnd Try.prog [.tmp 4] H.length (evCode Try.prog Γ (evF Try.prog Γ k) k 58 H.length (cAt [] B58) (mkL 27 V.undef (enumV 0 args)) H) := body_at Try.func58 (by decide) rfl ho rfl rfl args H ha
end
end Go.Ev.Try
