/-
  CODE BY NAMES, printed by wip/tools/codes.py (own work).
-/
import Derived.Test.YtflmadkbppnmcaaCkG
set_option maxRecDepth 100000
set_option linter.unusedVariables false
namespace Go.Ev.Try
open Go Go.Ev Go.Proofs
section
variable {P : Program} {Γ : Env} {call : CallF} {n f m : Nat}

noncomputable def B14 : Code := bodyOf Try.f14
@[simp] theorem n14_1 (s : List V) (H : Heap) : evCode P Γ call n f m (cAt [] B14) s H = seqNext P Γ call n f m (cAt [1] B14) (evCode P Γ call n f m (cAt [0] B14) s H) := at_seq (by kernel_rfl) rfl rfl s H
noncomputable def r14_2 : {l : List Oper // opsOf (cAt [0] B14) = l} := by
  apply Subtype.mk
  dsimp only [opsOf, cAt, kids, B14, bodyOf, Try.f14, List.getD, List.getElem?_cons_zero, List.getElem?_cons_succ, Option.getD_some]
@[simp] theorem n14_2 (s : List V) (H : Heap) : evCode P Γ call n f m (cAt [0] B14) s H = regNext (evOpsGo P Γ call r14_2.1 r14_2.1 s H) := at_region (by kernel_rfl) r14_2.2 s H
attribute [simp] r14_2
@[simp] theorem n14_3 (s : List V) (H : Heap) : evCode P Γ call n f m (cAt [1] B14) s H = seqNext P Γ call n f m (cAt [1, 1] B14) (evCode P Γ call n f m (cAt [1, 0] B14) s H) := at_seq (by kernel_rfl) rfl rfl s H
@[simp] theorem n14_4 (s : List V) (H : Heap) : evCode P Γ call n f m (cAt [1, 0] B14) s H = seqNext P Γ call n f m (cAt [1, 0, 1] B14) (evCode P Γ call n f m (cAt [1, 0, 0] B14) s H) := at_seq (by kernel_rfl) rfl rfl s H
noncomputable def r14_5 : {l : List Oper // opsOf (cAt [1, 0, 0] B14) = l} := by
  apply Subtype.mk
  dsimp only [opsOf, cAt, kids, B14, bodyOf, Try.f14, List.getD, List.getElem?_cons_zero, List.getElem?_cons_succ, Option.getD_some]
@[simp] theorem n14_5 (s : List V) (H : Heap) : evCode P Γ call n f m (cAt [1, 0, 0] B14) s H = regNext (evOpsGo P Γ call r14_5.1 r14_5.1 s H) := at_region (by kernel_rfl) r14_5.2 s H
attribute [simp] r14_5
@[simp] theorem n14_6 (s : List V) (H : Heap) : evCode P Γ call n f m (cAt [1, 0, 1] B14) s H = seqNext P Γ call n f m (cAt [1, 0, 1, 1] B14) (evCode P Γ call n f m (cAt [1, 0, 1, 0] B14) s H) := at_seq (by kernel_rfl) rfl rfl s H
noncomputable def r14_7 : {l : List Oper // opsOf (cAt [1, 0, 1, 0] B14) = l} := by
  apply Subtype.mk
  dsimp only [opsOf, cAt, kids, B14, bodyOf, Try.f14, List.getD, List.getElem?_cons_zero, List.getElem?_cons_succ, Option.getD_some]
@[simp] theorem n14_7 (s : List V) (H : Heap) : evCode P Γ call n f m (cAt [1, 0, 1, 0] B14) s H = regNext (evOpsGo P Γ call r14_7.1 r14_7.1 s H) := at_region (by kernel_rfl) r14_7.2 s H
attribute [simp] r14_7
@[simp] theorem n14_8 (s : List V) (H : Heap) : evCode P Γ call n f m (cAt [1, 0, 1, 1] B14) s H = condW P Γ call n f m (cAt [1, 0, 1, 1, 0] B14) (cAt [1, 0, 1, 1, 1] B14) s H (evOperand Γ s (.tmp 21)) := at_cond (by kernel_rfl) (by kernel_rfl) rfl rfl s H
@[simp] theorem n14_9 (s : List V) (H : Heap) : evCode P Γ call n f m (cAt [1, 0, 1, 1, 0] B14) s H = seqNext P Γ call n f m (cAt [1, 0, 1, 1, 0, 1] B14) (evCode P Γ call n f m (cAt [1, 0, 1, 1, 0, 0] B14) s H) := at_seq (by kernel_rfl) rfl rfl s H
noncomputable def r14_10 : {l : List Oper // opsOf (cAt [1, 0, 1, 1, 0, 0] B14) = l} := by
  apply Subtype.mk
  dsimp only [opsOf, cAt, kids, B14, bodyOf, Try.f14, List.getD, List.getElem?_cons_zero, List.getElem?_cons_succ, Option.getD_some]
@[simp] theorem n14_10 (s : List V) (H : Heap) : evCode P Γ call n f m (cAt [1, 0, 1, 1, 0, 0] B14) s H = regNext (evOpsGo P Γ call r14_10.1 r14_10.1 s H) := at_region (by kernel_rfl) r14_10.2 s H
attribute [simp] r14_10
@[simp] theorem n14_11 (s : List V) (H : Heap) : evCode P Γ call n f m (cAt [1, 0, 1, 1, 0, 1] B14) s H = some (.ret, s, H) := at_ret (by kernel_rfl) s H
@[simp] theorem n14_12 (s : List V) (H : Heap) : evCode P Γ call n f m (cAt [1, 0, 1, 1, 1] B14) s H = some (.normal, s, H) := at_skip (by kernel_rfl) s H
@[simp] theorem n14_13 (s : List V) (H : Heap) : evCode P Γ call n f m (cAt [1, 1] B14) s H = seqNext P Γ call n f m (cAt [1, 1, 1] B14) (evCode P Γ call n f m (cAt [1, 1, 0] B14) s H) := at_seq (by kernel_rfl) rfl rfl s H
@[simp] theorem n14_14 (s : List V) (H : Heap) : evCode P Γ call n f m (cAt [1, 1, 0] B14) s H = seqNext P Γ call n f m (cAt [1, 1, 0, 1] B14) (evCode P Γ call n f m (cAt [1, 1, 0, 0] B14) s H) := at_seq (by kernel_rfl) rfl rfl s H
noncomputable def r14_15 : {l : List Oper // opsOf (cAt [1, 1, 0, 0] B14) = l} := by
  apply Subtype.mk
  dsimp only [opsOf, cAt, kids, B14, bodyOf, Try.f14, List.getD, List.getElem?_cons_zero, List.getElem?_cons_succ, Option.getD_some]
@[simp] theorem n14_15 (s : List V) (H : Heap) : evCode P Γ call n f m (cAt [1, 1, 0, 0] B14) s H = regNext (evOpsGo P Γ call r14_15.1 r14_15.1 s H) := at_region (by kernel_rfl) r14_15.2 s H
attribute [simp] r14_15
@[simp] theorem n14_16 (s : List V) (H : Heap) : evCode P Γ call n f m (cAt [1, 1, 0, 1] B14) s H = seqNext P Γ call n f m (cAt [1, 1, 0, 1, 1] B14) (evCode P Γ call n f m (cAt [1, 1, 0, 1, 0] B14) s H) := at_seq (by kernel_rfl) rfl rfl s H
noncomputable def r14_17 : {l : List Oper // opsOf (cAt [1, 1, 0, 1, 0] B14) = l} := by
  apply Subtype.mk
  dsimp only [opsOf, cAt, kids, B14, bodyOf, Try.f14, List.getD, List.getElem?_cons_zero, List.getElem?_cons_succ, Option.getD_some]
@[simp] theorem n14_17 (s : List V) (H : Heap) : evCode P Γ call n f m (cAt [1, 1, 0, 1, 0] B14) s H = regNext (evOpsGo P Γ call r14_17.1 r14_17.1 s H) := at_region (by kernel_rfl) r14_17.2 s H
attribute [simp] r14_17
@[simp] theorem n14_18 (s : List V) (H : Heap) : evCode P Γ call n f m (cAt [1, 1, 0, 1, 1] B14) s H = condW P Γ call n f m (cAt [1, 1, 0, 1, 1, 0] B14) (cAt [1, 1, 0, 1, 1, 1] B14) s H (evOperand Γ s (.tmp 29)) := at_cond (by kernel_rfl) (by kernel_rfl) rfl rfl s H
@[simp] theorem n14_19 (s : List V) (H : Heap) : evCode P Γ call n f m (cAt [1, 1, 0, 1, 1, 0] B14) s H = seqNext P Γ call n f m (cAt [1, 1, 0, 1, 1, 0, 1] B14) (evCode P Γ call n f m (cAt [1, 1, 0, 1, 1, 0, 0] B14) s H) := at_seq (by kernel_rfl) rfl rfl s H
noncomputable def r14_20 : {l : List Oper // opsOf (cAt [1, 1, 0, 1, 1, 0, 0] B14) = l} := by
  apply Subtype.mk
  dsimp only [opsOf, cAt, kids, B14, bodyOf, Try.f14, List.getD, List.getElem?_cons_zero, List.getElem?_cons_succ, Option.getD_some]
@[simp] theorem n14_20 (s : List V) (H : Heap) : evCode P Γ call n f m (cAt [1, 1, 0, 1, 1, 0, 0] B14) s H = regNext (evOpsGo P Γ call r14_20.1 r14_20.1 s H) := at_region (by kernel_rfl) r14_20.2 s H
attribute [simp] r14_20
@[simp] theorem n14_21 (s : List V) (H : Heap) : evCode P Γ call n f m (cAt [1, 1, 0, 1, 1, 0, 1] B14) s H = some (.ret, s, H) := at_ret (by kernel_rfl) s H
@[simp] theorem n14_22 (s : List V) (H : Heap) : evCode P Γ call n f m (cAt [1, 1, 0, 1, 1, 1] B14) s H = some (.normal, s, H) := at_skip (by kernel_rfl) s H
@[simp] theorem n14_23 (s : List V) (H : Heap) : evCode P Γ call n f m (cAt [1, 1, 1] B14) s H = seqNext P Γ call n f m (cAt [1, 1, 1, 1] B14) (evCode P Γ call n f m (cAt [1, 1, 1, 0] B14) s H) := at_seq (by kernel_rfl) rfl rfl s H
noncomputable def r14_24 : {l : List Oper // opsOf (cAt [1, 1, 1, 0] B14) = l} := by
  apply Subtype.mk
  dsimp only [opsOf, cAt, kids, B14, bodyOf, Try.f14, List.getD, List.getElem?_cons_zero, List.getElem?_cons_succ, Option.getD_some]
@[simp] theorem n14_24 (s : List V) (H : Heap) : evCode P Γ call n f m (cAt [1, 1, 1, 0] B14) s H = regNext (evOpsGo P Γ call r14_24.1 r14_24.1 s H) := at_region (by kernel_rfl) r14_24.2 s H
attribute [simp] r14_24
@[simp] theorem n14_25 (s : List V) (H : Heap) : evCode P Γ call n f m (cAt [1, 1, 1, 1] B14) s H = seqNext P Γ call n f m (cAt [1, 1, 1, 1, 1] B14) (evCode P Γ call n f m (cAt [1, 1, 1, 1, 0] B14) s H) := at_seq (by kernel_rfl) rfl rfl s H
@[simp] theorem n14_26 (s : List V) (H : Heap) : evCode P Γ call n f m (cAt [1, 1, 1, 1, 0] B14) s H = seqNext P Γ call n f m (cAt [1, 1, 1, 1, 0, 1] B14) (evCode P Γ call n f m (cAt [1, 1, 1, 1, 0, 0] B14) s H) := at_seq (by kernel_rfl) rfl rfl s H
noncomputable def r14_27 : {l : List Oper // opsOf (cAt [1, 1, 1, 1, 0, 0] B14) = l} := by
  apply Subtype.mk
  dsimp only [opsOf, cAt, kids, B14, bodyOf, Try.f14, List.getD, List.getElem?_cons_zero, List.getElem?_cons_succ, Option.getD_some]
@[simp] theorem n14_27 (s : List V) (H : Heap) : evCode P Γ call n f m (cAt [1, 1, 1, 1, 0, 0] B14) s H = regNext (evOpsGo P Γ call r14_27.1 r14_27.1 s H) := at_region (by kernel_rfl) r14_27.2 s H
attribute [simp] r14_27
@[simp] theorem n14_28 (s : List V) (H : Heap) : evCode P Γ call n f m (cAt [1, 1, 1, 1, 0, 1] B14) s H = blockNext 0 (evCode P Γ call n f m (cAt [1, 1, 1, 1, 0, 1, 0] B14) s H) := at_block (by kernel_rfl) rfl s H
@[simp] theorem n14_29 (s : List V) (H : Heap) : evCode P Γ call n f m (cAt [1, 1, 1, 1, 0, 1, 0] B14) s H = evLoopC P Γ call n f m (cAt [1, 1, 1, 1, 0, 1, 0, 0] B14) n s H := at_loop (by kernel_rfl) rfl s H
noncomputable abbrev L14_9 : Code := cAt [1, 1, 1, 1, 0, 1, 0, 0] B14
@[simp] theorem n14_29f : firstRegion (cAt [1, 1, 1, 1, 0, 1, 0, 0] B14) = 9 := by kernel_rfl
@[simp] theorem n14_30 (s : List V) (H : Heap) : evCode P Γ call n f m (cAt [1, 1, 1, 1, 0, 1, 0, 0] B14) s H = seqNext P Γ call n f m (cAt [1, 1, 1, 1, 0, 1, 0, 0, 1] B14) (evCode P Γ call n f m (cAt [1, 1, 1, 1, 0, 1, 0, 0, 0] B14) s H) := at_seq (by kernel_rfl) rfl rfl s H
noncomputable def r14_31 : {l : List Oper // opsOf (cAt [1, 1, 1, 1, 0, 1, 0, 0, 0] B14) = l} := by
  apply Subtype.mk
  dsimp only [opsOf, cAt, kids, B14, bodyOf, Try.f14, List.getD, List.getElem?_cons_zero, List.getElem?_cons_succ, Option.getD_some]
@[simp] theorem n14_31 (s : List V) (H : Heap) : evCode P Γ call n f m (cAt [1, 1, 1, 1, 0, 1, 0, 0, 0] B14) s H = regNext (evOpsGo P Γ call r14_31.1 r14_31.1 s H) := at_region (by kernel_rfl) r14_31.2 s H
attribute [simp] r14_31
@[simp] theorem n14_32 (s : List V) (H : Heap) : evCode P Γ call n f m (cAt [1, 1, 1, 1, 0, 1, 0, 0, 1] B14) s H = seqNext P Γ call n f m (cAt [1, 1, 1, 1, 0, 1, 0, 0, 1, 1] B14) (evCode P Γ call n f m (cAt [1, 1, 1, 1, 0, 1, 0, 0, 1, 0] B14) s H) := at_seq (by kernel_rfl) rfl rfl s H
@[simp] theorem n14_33 (s : List V) (H : Heap) : evCode P Γ call n f m (cAt [1, 1, 1, 1, 0, 1, 0, 0, 1, 0] B14) s H = condW P Γ call n f m (cAt [1, 1, 1, 1, 0, 1, 0, 0, 1, 0, 0] B14) (cAt [1, 1, 1, 1, 0, 1, 0, 0, 1, 0, 1] B14) s H (evOperand Γ s (.tmp 33)) := at_cond (by kernel_rfl) (by kernel_rfl) rfl rfl s H
@[simp] theorem n14_34 (s : List V) (H : Heap) : evCode P Γ call n f m (cAt [1, 1, 1, 1, 0, 1, 0, 0, 1, 0, 0] B14) s H = some (.normal, s, H) := at_skip (by kernel_rfl) s H
@[simp] theorem n14_35 (s : List V) (H : Heap) : evCode P Γ call n f m (cAt [1, 1, 1, 1, 0, 1, 0, 0, 1, 0, 1] B14) s H = some (.exit 0, s, H) := at_exit (by kernel_rfl) s H
@[simp] theorem n14_36 (s : List V) (H : Heap) : evCode P Γ call n f m (cAt [1, 1, 1, 1, 0, 1, 0, 0, 1, 1] B14) s H = seqNext P Γ call n f m (cAt [1, 1, 1, 1, 0, 1, 0, 0, 1, 1, 1] B14) (evCode P Γ call n f m (cAt [1, 1, 1, 1, 0, 1, 0, 0, 1, 1, 0] B14) s H) := at_seq (by kernel_rfl) rfl rfl s H
@[simp] theorem n14_37 (s : List V) (H : Heap) : evCode P Γ call n f m (cAt [1, 1, 1, 1, 0, 1, 0, 0, 1, 1, 0] B14) s H = blockNext 1 (evCode P Γ call n f m (cAt [1, 1, 1, 1, 0, 1, 0, 0, 1, 1, 0, 0] B14) s H) := at_block (by kernel_rfl) rfl s H
@[simp] theorem n14_38 (s : List V) (H : Heap) : evCode P Γ call n f m (cAt [1, 1, 1, 1, 0, 1, 0, 0, 1, 1, 0, 0] B14) s H = seqNext P Γ call n f m (cAt [1, 1, 1, 1, 0, 1, 0, 0, 1, 1, 0, 0, 1] B14) (evCode P Γ call n f m (cAt [1, 1, 1, 1, 0, 1, 0, 0, 1, 1, 0, 0, 0] B14) s H) := at_seq (by kernel_rfl) rfl rfl s H
noncomputable def r14_39 : {l : List Oper // opsOf (cAt [1, 1, 1, 1, 0, 1, 0, 0, 1, 1, 0, 0, 0] B14) = l} := by
  apply Subtype.mk
  dsimp only [opsOf, cAt, kids, B14, bodyOf, Try.f14, List.getD, List.getElem?_cons_zero, List.getElem?_cons_succ, Option.getD_some]
@[simp] theorem n14_39 (s : List V) (H : Heap) : evCode P Γ call n f m (cAt [1, 1, 1, 1, 0, 1, 0, 0, 1, 1, 0, 0, 0] B14) s H = regNext (evOpsGo P Γ call r14_39.1 r14_39.1 s H) := at_region (by kernel_rfl) r14_39.2 s H
attribute [simp] r14_39
noncomputable def r14_40 : {l : List Oper // opsOf (cAt [1, 1, 1, 1, 0, 1, 0, 0, 1, 1, 0, 0, 1] B14) = l} := by
  apply Subtype.mk
  dsimp only [opsOf, cAt, kids, B14, bodyOf, Try.f14, List.getD, List.getElem?_cons_zero, List.getElem?_cons_succ, Option.getD_some]
@[simp] theorem n14_40 (s : List V) (H : Heap) : evCode P Γ call n f m (cAt [1, 1, 1, 1, 0, 1, 0, 0, 1, 1, 0, 0, 1] B14) s H = regNext (evOpsGo P Γ call r14_40.1 r14_40.1 s H) := at_region (by kernel_rfl) r14_40.2 s H
attribute [simp] r14_40
noncomputable def r14_41 : {l : List Oper // opsOf (cAt [1, 1, 1, 1, 0, 1, 0, 0, 1, 1, 1] B14) = l} := by
  apply Subtype.mk
  dsimp only [opsOf, cAt, kids, B14, bodyOf, Try.f14, List.getD, List.getElem?_cons_zero, List.getElem?_cons_succ, Option.getD_some]
@[simp] theorem n14_41 (s : List V) (H : Heap) : evCode P Γ call n f m (cAt [1, 1, 1, 1, 0, 1, 0, 0, 1, 1, 1] B14) s H = regNext (evOpsGo P Γ call r14_41.1 r14_41.1 s H) := at_region (by kernel_rfl) r14_41.2 s H
attribute [simp] r14_41
@[simp] theorem n14_42 (s : List V) (H : Heap) : evCode P Γ call n f m (cAt [1, 1, 1, 1, 1] B14) s H = seqNext P Γ call n f m (cAt [1, 1, 1, 1, 1, 1] B14) (evCode P Γ call n f m (cAt [1, 1, 1, 1, 1, 0] B14) s H) := at_seq (by kernel_rfl) rfl rfl s H
@[simp] theorem n14_43 (s : List V) (H : Heap) : evCode P Γ call n f m (cAt [1, 1, 1, 1, 1, 0] B14) s H = seqNext P Γ call n f m (cAt [1, 1, 1, 1, 1, 0, 1] B14) (evCode P Γ call n f m (cAt [1, 1, 1, 1, 1, 0, 0] B14) s H) := at_seq (by kernel_rfl) rfl rfl s H
noncomputable def r14_44 : {l : List Oper // opsOf (cAt [1, 1, 1, 1, 1, 0, 0] B14) = l} := by
  apply Subtype.mk
  dsimp only [opsOf, cAt, kids, B14, bodyOf, Try.f14, List.getD, List.getElem?_cons_zero, List.getElem?_cons_succ, Option.getD_some]
@[simp] theorem n14_44 (s : List V) (H : Heap) : evCode P Γ call n f m (cAt [1, 1, 1, 1, 1, 0, 0] B14) s H = regNext (evOpsGo P Γ call r14_44.1 r14_44.1 s H) := at_region (by kernel_rfl) r14_44.2 s H
attribute [simp] r14_44
@[simp] theorem n14_45 (s : List V) (H : Heap) : evCode P Γ call n f m (cAt [1, 1, 1, 1, 1, 0, 1] B14) s H = blockNext 2 (evCode P Γ call n f m (cAt [1, 1, 1, 1, 1, 0, 1, 0] B14) s H) := at_block (by kernel_rfl) rfl s H
@[simp] theorem n14_46 (s : List V) (H : Heap) : evCode P Γ call n f m (cAt [1, 1, 1, 1, 1, 0, 1, 0] B14) s H = evLoopC P Γ call n f m (cAt [1, 1, 1, 1, 1, 0, 1, 0, 0] B14) n s H := at_loop (by kernel_rfl) rfl s H
noncomputable abbrev L14_14 : Code := cAt [1, 1, 1, 1, 1, 0, 1, 0, 0] B14
@[simp] theorem n14_46f : firstRegion (cAt [1, 1, 1, 1, 1, 0, 1, 0, 0] B14) = 14 := by kernel_rfl
@[simp] theorem n14_47 (s : List V) (H : Heap) : evCode P Γ call n f m (cAt [1, 1, 1, 1, 1, 0, 1, 0, 0] B14) s H = seqNext P Γ call n f m (cAt [1, 1, 1, 1, 1, 0, 1, 0, 0, 1] B14) (evCode P Γ call n f m (cAt [1, 1, 1, 1, 1, 0, 1, 0, 0, 0] B14) s H) := at_seq (by kernel_rfl) rfl rfl s H
@[simp] theorem n14_48 (s : List V) (H : Heap) : evCode P Γ call n f m (cAt [1, 1, 1, 1, 1, 0, 1, 0, 0, 0] B14) s H = seqNext P Γ call n f m (cAt [1, 1, 1, 1, 1, 0, 1, 0, 0, 0, 1] B14) (evCode P Γ call n f m (cAt [1, 1, 1, 1, 1, 0, 1, 0, 0, 0, 0] B14) s H) := at_seq (by kernel_rfl) rfl rfl s H
noncomputable def r14_49 : {l : List Oper // opsOf (cAt [1, 1, 1, 1, 1, 0, 1, 0, 0, 0, 0] B14) = l} := by
  apply Subtype.mk
  dsimp only [opsOf, cAt, kids, B14, bodyOf, Try.f14, List.getD, List.getElem?_cons_zero, List.getElem?_cons_succ, Option.getD_some]
@[simp] theorem n14_49 (s : List V) (H : Heap) : evCode P Γ call n f m (cAt [1, 1, 1, 1, 1, 0, 1, 0, 0, 0, 0] B14) s H = regNext (evOpsGo P Γ call r14_49.1 r14_49.1 s H) := at_region (by kernel_rfl) r14_49.2 s H
attribute [simp] r14_49
@[simp] theorem n14_50 (s : List V) (H : Heap) : evCode P Γ call n f m (cAt [1, 1, 1, 1, 1, 0, 1, 0, 0, 0, 1] B14) s H = condW P Γ call n f m (cAt [1, 1, 1, 1, 1, 0, 1, 0, 0, 0, 1, 0] B14) (cAt [1, 1, 1, 1, 1, 0, 1, 0, 0, 0, 1, 1] B14) s H (evOperand Γ s (.tmp 43)) := at_cond (by kernel_rfl) (by kernel_rfl) rfl rfl s H
@[simp] theorem n14_51 (s : List V) (H : Heap) : evCode P Γ call n f m (cAt [1, 1, 1, 1, 1, 0, 1, 0, 0, 0, 1, 0] B14) s H = some (.normal, s, H) := at_skip (by kernel_rfl) s H
@[simp] theorem n14_52 (s : List V) (H : Heap) : evCode P Γ call n f m (cAt [1, 1, 1, 1, 1, 0, 1, 0, 0, 0, 1, 1] B14) s H = some (.exit 2, s, H) := at_exit (by kernel_rfl) s H
@[simp] theorem n14_53 (s : List V) (H : Heap) : evCode P Γ call n f m (cAt [1, 1, 1, 1, 1, 0, 1, 0, 0, 1] B14) s H = blockNext 3 (evCode P Γ call n f m (cAt [1, 1, 1, 1, 1, 0, 1, 0, 0, 1, 0] B14) s H) := at_block (by kernel_rfl) rfl s H
@[simp] theorem n14_54 (s : List V) (H : Heap) : evCode P Γ call n f m (cAt [1, 1, 1, 1, 1, 0, 1, 0, 0, 1, 0] B14) s H = seqNext P Γ call n f m (cAt [1, 1, 1, 1, 1, 0, 1, 0, 0, 1, 0, 1] B14) (evCode P Γ call n f m (cAt [1, 1, 1, 1, 1, 0, 1, 0, 0, 1, 0, 0] B14) s H) := at_seq (by kernel_rfl) rfl rfl s H
noncomputable def r14_55 : {l : List Oper // opsOf (cAt [1, 1, 1, 1, 1, 0, 1, 0, 0, 1, 0, 0] B14) = l} := by
  apply Subtype.mk
  dsimp only [opsOf, cAt, kids, B14, bodyOf, Try.f14, List.getD, List.getElem?_cons_zero, List.getElem?_cons_succ, Option.getD_some]
@[simp] theorem n14_55 (s : List V) (H : Heap) : evCode P Γ call n f m (cAt [1, 1, 1, 1, 1, 0, 1, 0, 0, 1, 0, 0] B14) s H = regNext (evOpsGo P Γ call r14_55.1 r14_55.1 s H) := at_region (by kernel_rfl) r14_55.2 s H
attribute [simp] r14_55
@[simp] theorem n14_56 (s : List V) (H : Heap) : evCode P Γ call n f m (cAt [1, 1, 1, 1, 1, 0, 1, 0, 0, 1, 0, 1] B14) s H = seqNext P Γ call n f m (cAt [1, 1, 1, 1, 1, 0, 1, 0, 0, 1, 0, 1, 1] B14) (evCode P Γ call n f m (cAt [1, 1, 1, 1, 1, 0, 1, 0, 0, 1, 0, 1, 0] B14) s H) := at_seq (by kernel_rfl) rfl rfl s H
@[simp] theorem n14_57 (s : List V) (H : Heap) : evCode P Γ call n f m (cAt [1, 1, 1, 1, 1, 0, 1, 0, 0, 1, 0, 1, 0] B14) s H = seqNext P Γ call n f m (cAt [1, 1, 1, 1, 1, 0, 1, 0, 0, 1, 0, 1, 0, 1] B14) (evCode P Γ call n f m (cAt [1, 1, 1, 1, 1, 0, 1, 0, 0, 1, 0, 1, 0, 0] B14) s H) := at_seq (by kernel_rfl) rfl rfl s H
noncomputable def r14_58 : {l : List Oper // opsOf (cAt [1, 1, 1, 1, 1, 0, 1, 0, 0, 1, 0, 1, 0, 0] B14) = l} := by
  apply Subtype.mk
  dsimp only [opsOf, cAt, kids, B14, bodyOf, Try.f14, List.getD, List.getElem?_cons_zero, List.getElem?_cons_succ, Option.getD_some]
@[simp] theorem n14_58 (s : List V) (H : Heap) : evCode P Γ call n f m (cAt [1, 1, 1, 1, 1, 0, 1, 0, 0, 1, 0, 1, 0, 0] B14) s H = regNext (evOpsGo P Γ call r14_58.1 r14_58.1 s H) := at_region (by kernel_rfl) r14_58.2 s H
attribute [simp] r14_58
@[simp] theorem n14_59 (s : List V) (H : Heap) : evCode P Γ call n f m (cAt [1, 1, 1, 1, 1, 0, 1, 0, 0, 1, 0, 1, 0, 1] B14) s H = blockNext 4 (evCode P Γ call n f m (cAt [1, 1, 1, 1, 1, 0, 1, 0, 0, 1, 0, 1, 0, 1, 0] B14) s H) := at_block (by kernel_rfl) rfl s H
@[simp] theorem n14_60 (s : List V) (H : Heap) : evCode P Γ call n f m (cAt [1, 1, 1, 1, 1, 0, 1, 0, 0, 1, 0, 1, 0, 1, 0] B14) s H = evLoopC P Γ call n f m (cAt [1, 1, 1, 1, 1, 0, 1, 0, 0, 1, 0, 1, 0, 1, 0, 0] B14) n s H := at_loop (by kernel_rfl) rfl s H
noncomputable abbrev L14_17 : Code := cAt [1, 1, 1, 1, 1, 0, 1, 0, 0, 1, 0, 1, 0, 1, 0, 0] B14
@[simp] theorem n14_60f : firstRegion (cAt [1, 1, 1, 1, 1, 0, 1, 0, 0, 1, 0, 1, 0, 1, 0, 0] B14) = 17 := by kernel_rfl
@[simp] theorem n14_61 (s : List V) (H : Heap) : evCode P Γ call n f m (cAt [1, 1, 1, 1, 1, 0, 1, 0, 0, 1, 0, 1, 0, 1, 0, 0] B14) s H = seqNext P Γ call n f m (cAt [1, 1, 1, 1, 1, 0, 1, 0, 0, 1, 0, 1, 0, 1, 0, 0, 1] B14) (evCode P Γ call n f m (cAt [1, 1, 1, 1, 1, 0, 1, 0, 0, 1, 0, 1, 0, 1, 0, 0, 0] B14) s H) := at_seq (by kernel_rfl) rfl rfl s H
noncomputable def r14_62 : {l : List Oper // opsOf (cAt [1, 1, 1, 1, 1, 0, 1, 0, 0, 1, 0, 1, 0, 1, 0, 0, 0] B14) = l} := by
  apply Subtype.mk
  dsimp only [opsOf, cAt, kids, B14, bodyOf, Try.f14, List.getD, List.getElem?_cons_zero, List.getElem?_cons_succ, Option.getD_some]
@[simp] theorem n14_62 (s : List V) (H : Heap) : evCode P Γ call n f m (cAt [1, 1, 1, 1, 1, 0, 1, 0, 0, 1, 0, 1, 0, 1, 0, 0, 0] B14) s H = regNext (evOpsGo P Γ call r14_62.1 r14_62.1 s H) := at_region (by kernel_rfl) r14_62.2 s H
attribute [simp] r14_62
@[simp] theorem n14_63 (s : List V) (H : Heap) : evCode P Γ call n f m (cAt [1, 1, 1, 1, 1, 0, 1, 0, 0, 1, 0, 1, 0, 1, 0, 0, 1] B14) s H = seqNext P Γ call n f m (cAt [1, 1, 1, 1, 1, 0, 1, 0, 0, 1, 0, 1, 0, 1, 0, 0, 1, 1] B14) (evCode P Γ call n f m (cAt [1, 1, 1, 1, 1, 0, 1, 0, 0, 1, 0, 1, 0, 1, 0, 0, 1, 0] B14) s H) := at_seq (by kernel_rfl) rfl rfl s H
@[simp] theorem n14_64 (s : List V) (H : Heap) : evCode P Γ call n f m (cAt [1, 1, 1, 1, 1, 0, 1, 0, 0, 1, 0, 1, 0, 1, 0, 0, 1, 0] B14) s H = condW P Γ call n f m (cAt [1, 1, 1, 1, 1, 0, 1, 0, 0, 1, 0, 1, 0, 1, 0, 0, 1, 0, 0] B14) (cAt [1, 1, 1, 1, 1, 0, 1, 0, 0, 1, 0, 1, 0, 1, 0, 0, 1, 0, 1] B14) s H (evOperand Γ s (.tmp 47)) := at_cond (by kernel_rfl) (by kernel_rfl) rfl rfl s H
@[simp] theorem n14_65 (s : List V) (H : Heap) : evCode P Γ call n f m (cAt [1, 1, 1, 1, 1, 0, 1, 0, 0, 1, 0, 1, 0, 1, 0, 0, 1, 0, 0] B14) s H = some (.normal, s, H) := at_skip (by kernel_rfl) s H
@[simp] theorem n14_66 (s : List V) (H : Heap) : evCode P Γ call n f m (cAt [1, 1, 1, 1, 1, 0, 1, 0, 0, 1, 0, 1, 0, 1, 0, 0, 1, 0, 1] B14) s H = some (.exit 4, s, H) := at_exit (by kernel_rfl) s H
@[simp] theorem n14_67 (s : List V) (H : Heap) : evCode P Γ call n f m (cAt [1, 1, 1, 1, 1, 0, 1, 0, 0, 1, 0, 1, 0, 1, 0, 0, 1, 1] B14) s H = seqNext P Γ call n f m (cAt [1, 1, 1, 1, 1, 0, 1, 0, 0, 1, 0, 1, 0, 1, 0, 0, 1, 1, 1] B14) (evCode P Γ call n f m (cAt [1, 1, 1, 1, 1, 0, 1, 0, 0, 1, 0, 1, 0, 1, 0, 0, 1, 1, 0] B14) s H) := at_seq (by kernel_rfl) rfl rfl s H
@[simp] theorem n14_68 (s : List V) (H : Heap) : evCode P Γ call n f m (cAt [1, 1, 1, 1, 1, 0, 1, 0, 0, 1, 0, 1, 0, 1, 0, 0, 1, 1, 0] B14) s H = blockNext 5 (evCode P Γ call n f m (cAt [1, 1, 1, 1, 1, 0, 1, 0, 0, 1, 0, 1, 0, 1, 0, 0, 1, 1, 0, 0] B14) s H) := at_block (by kernel_rfl) rfl s H
@[simp] theorem n14_69 (s : List V) (H : Heap) : evCode P Γ call n f m (cAt [1, 1, 1, 1, 1, 0, 1, 0, 0, 1, 0, 1, 0, 1, 0, 0, 1, 1, 0, 0] B14) s H = seqNext P Γ call n f m (cAt [1, 1, 1, 1, 1, 0, 1, 0, 0, 1, 0, 1, 0, 1, 0, 0, 1, 1, 0, 0, 1] B14) (evCode P Γ call n f m (cAt [1, 1, 1, 1, 1, 0, 1, 0, 0, 1, 0, 1, 0, 1, 0, 0, 1, 1, 0, 0, 0] B14) s H) := at_seq (by kernel_rfl) rfl rfl s H
noncomputable def r14_70 : {l : List Oper // opsOf (cAt [1, 1, 1, 1, 1, 0, 1, 0, 0, 1, 0, 1, 0, 1, 0, 0, 1, 1, 0, 0, 0] B14) = l} := by
  apply Subtype.mk
  dsimp only [opsOf, cAt, kids, B14, bodyOf, Try.f14, List.getD, List.getElem?_cons_zero, List.getElem?_cons_succ, Option.getD_some]
@[simp] theorem n14_70 (s : List V) (H : Heap) : evCode P Γ call n f m (cAt [1, 1, 1, 1, 1, 0, 1, 0, 0, 1, 0, 1, 0, 1, 0, 0, 1, 1, 0, 0, 0] B14) s H = regNext (evOpsGo P Γ call r14_70.1 r14_70.1 s H) := at_region (by kernel_rfl) r14_70.2 s H
attribute [simp] r14_70
@[simp] theorem n14_71 (s : List V) (H : Heap) : evCode P Γ call n f m (cAt [1, 1, 1, 1, 1, 0, 1, 0, 0, 1, 0, 1, 0, 1, 0, 0, 1, 1, 0, 0, 1] B14) s H = seqNext P Γ call n f m (cAt [1, 1, 1, 1, 1, 0, 1, 0, 0, 1, 0, 1, 0, 1, 0, 0, 1, 1, 0, 0, 1, 1] B14) (evCode P Γ call n f m (cAt [1, 1, 1, 1, 1, 0, 1, 0, 0, 1, 0, 1, 0, 1, 0, 0, 1, 1, 0, 0, 1, 0] B14) s H) := at_seq (by kernel_rfl) rfl rfl s H
noncomputable def r14_72 : {l : List Oper // opsOf (cAt [1, 1, 1, 1, 1, 0, 1, 0, 0, 1, 0, 1, 0, 1, 0, 0, 1, 1, 0, 0, 1, 0] B14) = l} := by
  apply Subtype.mk
  dsimp only [opsOf, cAt, kids, B14, bodyOf, Try.f14, List.getD, List.getElem?_cons_zero, List.getElem?_cons_succ, Option.getD_some]
@[simp] theorem n14_72 (s : List V) (H : Heap) : evCode P Γ call n f m (cAt [1, 1, 1, 1, 1, 0, 1, 0, 0, 1, 0, 1, 0, 1, 0, 0, 1, 1, 0, 0, 1, 0] B14) s H = regNext (evOpsGo P Γ call r14_72.1 r14_72.1 s H) := at_region (by kernel_rfl) r14_72.2 s H
attribute [simp] r14_72
@[simp] theorem n14_73 (s : List V) (H : Heap) : evCode P Γ call n f m (cAt [1, 1, 1, 1, 1, 0, 1, 0, 0, 1, 0, 1, 0, 1, 0, 0, 1, 1, 0, 0, 1, 1] B14) s H = condW P Γ call n f m (cAt [1, 1, 1, 1, 1, 0, 1, 0, 0, 1, 0, 1, 0, 1, 0, 0, 1, 1, 0, 0, 1, 1, 0] B14) (cAt [1, 1, 1, 1, 1, 0, 1, 0, 0, 1, 0, 1, 0, 1, 0, 0, 1, 1, 0, 0, 1, 1, 1] B14) s H (evOperand Γ s (.tmp 53)) := at_cond (by kernel_rfl) (by kernel_rfl) rfl rfl s H
noncomputable def r14_74 : {l : List Oper // opsOf (cAt [1, 1, 1, 1, 1, 0, 1, 0, 0, 1, 0, 1, 0, 1, 0, 0, 1, 1, 0, 0, 1, 1, 0] B14) = l} := by
  apply Subtype.mk
  dsimp only [opsOf, cAt, kids, B14, bodyOf, Try.f14, List.getD, List.getElem?_cons_zero, List.getElem?_cons_succ, Option.getD_some]
@[simp] theorem n14_74 (s : List V) (H : Heap) : evCode P Γ call n f m (cAt [1, 1, 1, 1, 1, 0, 1, 0, 0, 1, 0, 1, 0, 1, 0, 0, 1, 1, 0, 0, 1, 1, 0] B14) s H = regNext (evOpsGo P Γ call r14_74.1 r14_74.1 s H) := at_region (by kernel_rfl) r14_74.2 s H
attribute [simp] r14_74
@[simp] theorem n14_75 (s : List V) (H : Heap) : evCode P Γ call n f m (cAt [1, 1, 1, 1, 1, 0, 1, 0, 0, 1, 0, 1, 0, 1, 0, 0, 1, 1, 0, 0, 1, 1, 1] B14) s H = some (.normal, s, H) := at_skip (by kernel_rfl) s H
noncomputable def r14_76 : {l : List Oper // opsOf (cAt [1, 1, 1, 1, 1, 0, 1, 0, 0, 1, 0, 1, 0, 1, 0, 0, 1, 1, 1] B14) = l} := by
  apply Subtype.mk
  dsimp only [opsOf, cAt, kids, B14, bodyOf, Try.f14, List.getD, List.getElem?_cons_zero, List.getElem?_cons_succ, Option.getD_some]
@[simp] theorem n14_76 (s : List V) (H : Heap) : evCode P Γ call n f m (cAt [1, 1, 1, 1, 1, 0, 1, 0, 0, 1, 0, 1, 0, 1, 0, 0, 1, 1, 1] B14) s H = regNext (evOpsGo P Γ call r14_76.1 r14_76.1 s H) := at_region (by kernel_rfl) r14_76.2 s H
attribute [simp] r14_76
@[simp] theorem n14_77 (s : List V) (H : Heap) : evCode P Γ call n f m (cAt [1, 1, 1, 1, 1, 0, 1, 0, 0, 1, 0, 1, 1] B14) s H = seqNext P Γ call n f m (cAt [1, 1, 1, 1, 1, 0, 1, 0, 0, 1, 0, 1, 1, 1] B14) (evCode P Γ call n f m (cAt [1, 1, 1, 1, 1, 0, 1, 0, 0, 1, 0, 1, 1, 0] B14) s H) := at_seq (by kernel_rfl) rfl rfl s H
noncomputable def r14_78 : {l : List Oper // opsOf (cAt [1, 1, 1, 1, 1, 0, 1, 0, 0, 1, 0, 1, 1, 0] B14) = l} := by
  apply Subtype.mk
  dsimp only [opsOf, cAt, kids, B14, bodyOf, Try.f14, List.getD, List.getElem?_cons_zero, List.getElem?_cons_succ, Option.getD_some]
@[simp] theorem n14_78 (s : List V) (H : Heap) : evCode P Γ call n f m (cAt [1, 1, 1, 1, 1, 0, 1, 0, 0, 1, 0, 1, 1, 0] B14) s H = regNext (evOpsGo P Γ call r14_78.1 r14_78.1 s H) := at_region (by kernel_rfl) r14_78.2 s H
attribute [simp] r14_78
@[simp] theorem n14_79 (s : List V) (H : Heap) : evCode P Γ call n f m (cAt [1, 1, 1, 1, 1, 0, 1, 0, 0, 1, 0, 1, 1, 1] B14) s H = seqNext P Γ call n f m (cAt [1, 1, 1, 1, 1, 0, 1, 0, 0, 1, 0, 1, 1, 1, 1] B14) (evCode P Γ call n f m (cAt [1, 1, 1, 1, 1, 0, 1, 0, 0, 1, 0, 1, 1, 1, 0] B14) s H) := at_seq (by kernel_rfl) rfl rfl s H
noncomputable def r14_80 : {l : List Oper // opsOf (cAt [1, 1, 1, 1, 1, 0, 1, 0, 0, 1, 0, 1, 1, 1, 0] B14) = l} := by
  apply Subtype.mk
  dsimp only [opsOf, cAt, kids, B14, bodyOf, Try.f14, List.getD, List.getElem?_cons_zero, List.getElem?_cons_succ, Option.getD_some]
@[simp] theorem n14_80 (s : List V) (H : Heap) : evCode P Γ call n f m (cAt [1, 1, 1, 1, 1, 0, 1, 0, 0, 1, 0, 1, 1, 1, 0] B14) s H = regNext (evOpsGo P Γ call r14_80.1 r14_80.1 s H) := at_region (by kernel_rfl) r14_80.2 s H
attribute [simp] r14_80
@[simp] theorem n14_81 (s : List V) (H : Heap) : evCode P Γ call n f m (cAt [1, 1, 1, 1, 1, 0, 1, 0, 0, 1, 0, 1, 1, 1, 1] B14) s H = condW P Γ call n f m (cAt [1, 1, 1, 1, 1, 0, 1, 0, 0, 1, 0, 1, 1, 1, 1, 0] B14) (cAt [1, 1, 1, 1, 1, 0, 1, 0, 0, 1, 0, 1, 1, 1, 1, 1] B14) s H (evOperand Γ s (.tmp 68)) := at_cond (by kernel_rfl) (by kernel_rfl) rfl rfl s H
noncomputable def r14_82 : {l : List Oper // opsOf (cAt [1, 1, 1, 1, 1, 0, 1, 0, 0, 1, 0, 1, 1, 1, 1, 0] B14) = l} := by
  apply Subtype.mk
  dsimp only [opsOf, cAt, kids, B14, bodyOf, Try.f14, List.getD, List.getElem?_cons_zero, List.getElem?_cons_succ, Option.getD_some]
@[simp] theorem n14_82 (s : List V) (H : Heap) : evCode P Γ call n f m (cAt [1, 1, 1, 1, 1, 0, 1, 0, 0, 1, 0, 1, 1, 1, 1, 0] B14) s H = regNext (evOpsGo P Γ call r14_82.1 r14_82.1 s H) := at_region (by kernel_rfl) r14_82.2 s H
attribute [simp] r14_82
noncomputable def r14_83 : {l : List Oper // opsOf (cAt [1, 1, 1, 1, 1, 0, 1, 0, 0, 1, 0, 1, 1, 1, 1, 1] B14) = l} := by
  apply Subtype.mk
  dsimp only [opsOf, cAt, kids, B14, bodyOf, Try.f14, List.getD, List.getElem?_cons_zero, List.getElem?_cons_succ, Option.getD_some]
@[simp] theorem n14_83 (s : List V) (H : Heap) : evCode P Γ call n f m (cAt [1, 1, 1, 1, 1, 0, 1, 0, 0, 1, 0, 1, 1, 1, 1, 1] B14) s H = regNext (evOpsGo P Γ call r14_83.1 r14_83.1 s H) := at_region (by kernel_rfl) r14_83.2 s H
attribute [simp] r14_83
@[simp] theorem n14_84 (s : List V) (H : Heap) : evCode P Γ call n f m (cAt [1, 1, 1, 1, 1, 1] B14) s H = seqNext P Γ call n f m (cAt [1, 1, 1, 1, 1, 1, 1] B14) (evCode P Γ call n f m (cAt [1, 1, 1, 1, 1, 1, 0] B14) s H) := at_seq (by kernel_rfl) rfl rfl s H
noncomputable def r14_85 : {l : List Oper // opsOf (cAt [1, 1, 1, 1, 1, 1, 0] B14) = l} := by
  apply Subtype.mk
  dsimp only [opsOf, cAt, kids, B14, bodyOf, Try.f14, List.getD, List.getElem?_cons_zero, List.getElem?_cons_succ, Option.getD_some]
@[simp] theorem n14_85 (s : List V) (H : Heap) : evCode P Γ call n f m (cAt [1, 1, 1, 1, 1, 1, 0] B14) s H = regNext (evOpsGo P Γ call r14_85.1 r14_85.1 s H) := at_region (by kernel_rfl) r14_85.2 s H
attribute [simp] r14_85
@[simp] theorem n14_86 (s : List V) (H : Heap) : evCode P Γ call n f m (cAt [1, 1, 1, 1, 1, 1, 1] B14) s H = some (.ret, s, H) := at_ret (by kernel_rfl) s H
theorem b14 {k : Nat} (ho : ∀ args H, Γ.orc 14 args H = none) (args : List V) (H : Heap) (ha : args.length ≤ 77) : evF Try.prog Γ (k + 1) 14 args H = bodyEnd Try.prog [.tmp 4, .tmp 5] H.length (evCode Try.prog Γ (evF Try.prog Γ k) k 14 H.length (cAt [] B14) (mkL 77 V.undef (enumV 0 args)) H) := body_at Try.func14 (by decide) rfl ho rfl rfl args H ha
noncomputable def B37 : Code := bodyOf Try.f37
@[simp] theorem n37_1 (s : List V) (H : Heap) : evCode P Γ call n f m (cAt [] B37) s H = seqNext P Γ call n f m (cAt [1] B37) (evCode P Γ call n f m (cAt [0] B37) s H) := at_seq (by kernel_rfl) rfl rfl s H
noncomputable def r37_2 : {l : List Oper // opsOf (cAt [0] B37) = l} := by
  apply Subtype.mk
  dsimp only [opsOf, cAt, kids, B37, bodyOf, Try.f37, List.getD, List.getElem?_cons_zero, List.getElem?_cons_succ, Option.getD_some]
@[simp] theorem n37_2 (s : List V) (H : Heap) : evCode P Γ call n f m (cAt [0] B37) s H = regNext (evOpsGo P Γ call r37_2.1 r37_2.1 s H) := at_region (by kernel_rfl) r37_2.2 s H
attribute [simp] r37_2
@[simp] theorem n37_3 (s : List V) (H : Heap) : evCode P Γ call n f m (cAt [1] B37) s H = seqNext P Γ call n f m (cAt [1, 1] B37) (evCode P Γ call n f m (cAt [1, 0] B37) s H) := at_seq (by kernel_rfl) rfl rfl s H
noncomputable def r37_4 : {l : List Oper // opsOf (cAt [1, 0] B37) = l} := by
  apply Subtype.mk
  dsimp only [opsOf, cAt, kids, B37, bodyOf, Try.f37, List.getD, List.getElem?_cons_zero, List.getElem?_cons_succ, Option.getD_some]
@[simp] theorem n37_4 (s : List V) (H : Heap) : evCode P Γ call n f m (cAt [1, 0] B37) s H = regNext (evOpsGo P Γ call r37_4.1 r37_4.1 s H) := at_region (by kernel_rfl) r37_4.2 s H
attribute [simp] r37_4
@[simp] theorem n37_5 (s : List V) (H : Heap) : evCode P Γ call n f m (cAt [1, 1] B37) s H = seqNext P Γ call n f m (cAt [1, 1, 1] B37) (evCode P Γ call n f m (cAt [1, 1, 0] B37) s H) := at_seq (by kernel_rfl) rfl rfl s H
@[simp] theorem n37_6 (s : List V) (H : Heap) : evCode P Γ call n f m (cAt [1, 1, 0] B37) s H = seqNext P Γ call n f m (cAt [1, 1, 0, 1] B37) (evCode P Γ call n f m (cAt [1, 1, 0, 0] B37) s H) := at_seq (by kernel_rfl) rfl rfl s H
noncomputable def r37_7 : {l : List Oper // opsOf (cAt [1, 1, 0, 0] B37) = l} := by
  apply Subtype.mk
  dsimp only [opsOf, cAt, kids, B37, bodyOf, Try.f37, List.getD, List.getElem?_cons_zero, List.getElem?_cons_succ, Option.getD_some]
@[simp] theorem n37_7 (s : List V) (H : Heap) : evCode P Γ call n f m (cAt [1, 1, 0, 0] B37) s H = regNext (evOpsGo P Γ call r37_7.1 r37_7.1 s H) := at_region (by kernel_rfl) r37_7.2 s H
attribute [simp] r37_7
@[simp] theorem n37_8 (s : List V) (H : Heap) : evCode P Γ call n f m (cAt [1, 1, 0, 1] B37) s H = condW P Γ call n f m (cAt [1, 1, 0, 1, 0] B37) (cAt [1, 1, 0, 1, 1] B37) s H (evOperand Γ s (.tmp 16)) := at_cond (by kernel_rfl) (by kernel_rfl) rfl rfl s H
@[simp] theorem n37_9 (s : List V) (H : Heap) : evCode P Γ call n f m (cAt [1, 1, 0, 1, 0] B37) s H = seqNext P Γ call n f m (cAt [1, 1, 0, 1, 0, 1] B37) (evCode P Γ call n f m (cAt [1, 1, 0, 1, 0, 0] B37) s H) := at_seq (by kernel_rfl) rfl rfl s H
noncomputable def r37_10 : {l : List Oper // opsOf (cAt [1, 1, 0, 1, 0, 0] B37) = l} := by
  apply Subtype.mk
  dsimp only [opsOf, cAt, kids, B37, bodyOf, Try.f37, List.getD, List.getElem?_cons_zero, List.getElem?_cons_succ, Option.getD_some]
@[simp] theorem n37_10 (s : List V) (H : Heap) : evCode P Γ call n f m (cAt [1, 1, 0, 1, 0, 0] B37) s H = regNext (evOpsGo P Γ call r37_10.1 r37_10.1 s H) := at_region (by kernel_rfl) r37_10.2 s H
attribute [simp] r37_10
@[simp] theorem n37_11 (s : List V) (H : Heap) : evCode P Γ call n f m (cAt [1, 1, 0, 1, 0, 1] B37) s H = some (.ret, s, H) := at_ret (by kernel_rfl) s H
@[simp] theorem n37_12 (s : List V) (H : Heap) : evCode P Γ call n f m (cAt [1, 1, 0, 1, 1] B37) s H = some (.normal, s, H) := at_skip (by kernel_rfl) s H
@[simp] theorem n37_13 (s : List V) (H : Heap) : evCode P Γ call n f m (cAt [1, 1, 1] B37) s H = seqNext P Γ call n f m (cAt [1, 1, 1, 1] B37) (evCode P Γ call n f m (cAt [1, 1, 1, 0] B37) s H) := at_seq (by kernel_rfl) rfl rfl s H
noncomputable def r37_14 : {l : List Oper // opsOf (cAt [1, 1, 1, 0] B37) = l} := by
  apply Subtype.mk
  dsimp only [opsOf, cAt, kids, B37, bodyOf, Try.f37, List.getD, List.getElem?_cons_zero, List.getElem?_cons_succ, Option.getD_some]
@[simp] theorem n37_14 (s : List V) (H : Heap) : evCode P Γ call n f m (cAt [1, 1, 1, 0] B37) s H = regNext (evOpsGo P Γ call r37_14.1 r37_14.1 s H) := at_region (by kernel_rfl) r37_14.2 s H
attribute [simp] r37_14
@[simp] theorem n37_15 (s : List V) (H : Heap) : evCode P Γ call n f m (cAt [1, 1, 1, 1] B37) s H = seqNext P Γ call n f m (cAt [1, 1, 1, 1, 1] B37) (evCode P Γ call n f m (cAt [1, 1, 1, 1, 0] B37) s H) := at_seq (by kernel_rfl) rfl rfl s H
noncomputable def r37_16 : {l : List Oper // opsOf (cAt [1, 1, 1, 1, 0] B37) = l} := by
  apply Subtype.mk
  dsimp only [opsOf, cAt, kids, B37, bodyOf, Try.f37, List.getD, List.getElem?_cons_zero, List.getElem?_cons_succ, Option.getD_some]
@[simp] theorem n37_16 (s : List V) (H : Heap) : evCode P Γ call n f m (cAt [1, 1, 1, 1, 0] B37) s H = regNext (drawR P Γ call r37_16.1 [([1, 3, 4, 5], [21, 23, 24, 25]), ([0, 3, 4, 5], [20, 23, 24, 25]), ([3, 4, 5], [23, 24, 25]), ([0, 1, 2, 4], [20, 21, 22, 24]), ([0, 1, 2, 3], [20, 21, 22, 23]), ([0, 1, 2], [20, 21, 22]), ([], []), ([], [])] s H) := at_drawT (by kernel_rfl) r37_16.2 (by kernel_rfl) s H
attribute [simp] r37_16
@[simp] theorem n37_17 (s : List V) (H : Heap) : evCode P Γ call n f m (cAt [1, 1, 1, 1, 1] B37) s H = seqNext P Γ call n f m (cAt [1, 1, 1, 1, 1, 1] B37) (evCode P Γ call n f m (cAt [1, 1, 1, 1, 1, 0] B37) s H) := at_seq (by kernel_rfl) rfl rfl s H
noncomputable def r37_18 : {l : List Oper // opsOf (cAt [1, 1, 1, 1, 1, 0] B37) = l} := by
  apply Subtype.mk
  dsimp only [opsOf, cAt, kids, B37, bodyOf, Try.f37, List.getD, List.getElem?_cons_zero, List.getElem?_cons_succ, Option.getD_some]
@[simp] theorem n37_18 (s : List V) (H : Heap) : evCode P Γ call n f m (cAt [1, 1, 1, 1, 1, 0] B37) s H = regNext (evOpsGo P Γ call r37_18.1 r37_18.1 s H) := at_region (by kernel_rfl) r37_18.2 s H
attribute [simp] r37_18
@[simp] theorem n37_19 (s : List V) (H : Heap) : evCode P Γ call n f m (cAt [1, 1, 1, 1, 1, 1] B37) s H = seqNext P Γ call n f m (cAt [1, 1, 1, 1, 1, 1, 1] B37) (evCode P Γ call n f m (cAt [1, 1, 1, 1, 1, 1, 0] B37) s H) := at_seq (by kernel_rfl) rfl rfl s H
noncomputable def r37_20 : {l : List Oper // opsOf (cAt [1, 1, 1, 1, 1, 1, 0] B37) = l} := by
  apply Subtype.mk
  dsimp only [opsOf, cAt, kids, B37, bodyOf, Try.f37, List.getD, List.getElem?_cons_zero, List.getElem?_cons_succ, Option.getD_some]
@[simp] theorem n37_20 (s : List V) (H : Heap) : evCode P Γ call n f m (cAt [1, 1, 1, 1, 1, 1, 0] B37) s H = regNext (evOpsGo P Γ call r37_20.1 r37_20.1 s H) := at_region (by kernel_rfl) r37_20.2 s H
attribute [simp] r37_20
@[simp] theorem n37_21 (s : List V) (H : Heap) : evCode P Γ call n f m (cAt [1, 1, 1, 1, 1, 1, 1] B37) s H = some (.ret, s, H) := at_ret (by kernel_rfl) s H
theorem b37 {k : Nat} (ho : ∀ args H, Γ.orc 37 args H = none) (args : List V) (H : Heap) (ha : args.length ≤ 33) : evF Try.prog Γ (k + 1) 37 args H = bodyEnd Try.prog [.tmp 6] H.length (evCode Try.prog Γ (evF Try.prog Γ k) k 37 H.length (cAt [] B37) (mkL 33 V.undef (enumV 0 args)) H) := body_at Try.func37 (by decide) rfl ho rfl rfl args H ha
noncomputable def B17 : Code := bodyOf Try.f17
@[simp] theorem n17_1 (s : List V) (H : Heap) : evCode P Γ call n f m (cAt [] B17) s H = seqNext P Γ call n f m (cAt [1] B17) (evCode P Γ call n f m (cAt [0] B17) s H) := at_seq (by kernel_rfl) rfl rfl s H
noncomputable def r17_2 : {l : List Oper // opsOf (cAt [0] B17) = l} := by
  apply Subtype.mk
  dsimp only [opsOf, cAt, kids, B17, bodyOf, Try.f17, List.getD, List.getElem?_cons_zero, List.getElem?_cons_succ, Option.getD_some]
@[simp] theorem n17_2 (s : List V) (H : Heap) : evCode P Γ call n f m (cAt [0] B17) s H = regNext (evOpsGo P Γ call r17_2.1 r17_2.1 s H) := at_region (by kernel_rfl) r17_2.2 s H
attribute [simp] r17_2
@[simp] theorem n17_3 (s : List V) (H : Heap) : evCode P Γ call n f m (cAt [1] B17) s H = seqNext P Γ call n f m (cAt [1, 1] B17) (evCode P Γ call n f m (cAt [1, 0] B17) s H) := at_seq (by kernel_rfl) rfl rfl s H
noncomputable def r17_4 : {l : List Oper // opsOf (cAt [1, 0] B17) = l} := by
  apply Subtype.mk
  dsimp only [opsOf, cAt, kids, B17, bodyOf, Try.f17, List.getD, List.getElem?_cons_zero, List.getElem?_cons_succ, Option.getD_some]
@[simp] theorem n17_4 (s : List V) (H : Heap) : evCode P Γ call n f m (cAt [1, 0] B17) s H = regNext (evOpsGo P Γ call r17_4.1 r17_4.1 s H) := at_region (by kernel_rfl) r17_4.2 s H
attribute [simp] r17_4
@[simp] theorem n17_5 (s : List V) (H : Heap) : evCode P Γ call n f m (cAt [1, 1] B17) s H = seqNext P Γ call n f m (cAt [1, 1, 1] B17) (evCode P Γ call n f m (cAt [1, 1, 0] B17) s H) := at_seq (by kernel_rfl) rfl rfl s H
@[simp] theorem n17_6 (s : List V) (H : Heap) : evCode P Γ call n f m (cAt [1, 1, 0] B17) s H = seqNext P Γ call n f m (cAt [1, 1, 0, 1] B17) (evCode P Γ call n f m (cAt [1, 1, 0, 0] B17) s H) := at_seq (by kernel_rfl) rfl rfl s H
noncomputable def r17_7 : {l : List Oper // opsOf (cAt [1, 1, 0, 0] B17) = l} := by
  apply Subtype.mk
  dsimp only [opsOf, cAt, kids, B17, bodyOf, Try.f17, List.getD, List.getElem?_cons_zero, List.getElem?_cons_succ, Option.getD_some]
@[simp] theorem n17_7 (s : List V) (H : Heap) : evCode P Γ call n f m (cAt [1, 1, 0, 0] B17) s H = regNext (evOpsGo P Γ call r17_7.1 r17_7.1 s H) := at_region (by kernel_rfl) r17_7.2 s H
attribute [simp] r17_7
@[simp] theorem n17_8 (s : List V) (H : Heap) : evCode P Γ call n f m (cAt [1, 1, 0, 1] B17) s H = blockNext 0 (evCode P Γ call n f m (cAt [1, 1, 0, 1, 0] B17) s H) := at_block (by kernel_rfl) rfl s H
@[simp] theorem n17_9 (s : List V) (H : Heap) : evCode P Γ call n f m (cAt [1, 1, 0, 1, 0] B17) s H = evLoopC P Γ call n f m (cAt [1, 1, 0, 1, 0, 0] B17) n s H := at_loop (by kernel_rfl) rfl s H
noncomputable abbrev L17_3 : Code := cAt [1, 1, 0, 1, 0, 0] B17
@[simp] theorem n17_9f : firstRegion (cAt [1, 1, 0, 1, 0, 0] B17) = 3 := by kernel_rfl
@[simp] theorem n17_10 (s : List V) (H : Heap) : evCode P Γ call n f m (cAt [1, 1, 0, 1, 0, 0] B17) s H = seqNext P Γ call n f m (cAt [1, 1, 0, 1, 0, 0, 1] B17) (evCode P Γ call n f m (cAt [1, 1, 0, 1, 0, 0, 0] B17) s H) := at_seq (by kernel_rfl) rfl rfl s H
noncomputable def r17_11 : {l : List Oper // opsOf (cAt [1, 1, 0, 1, 0, 0, 0] B17) = l} := by
  apply Subtype.mk
  dsimp only [opsOf, cAt, kids, B17, bodyOf, Try.f17, List.getD, List.getElem?_cons_zero, List.getElem?_cons_succ, Option.getD_some]
@[simp] theorem n17_11 (s : List V) (H : Heap) : evCode P Γ call n f m (cAt [1, 1, 0, 1, 0, 0, 0] B17) s H = regNext (evOpsGo P Γ call r17_11.1 r17_11.1 s H) := at_region (by kernel_rfl) r17_11.2 s H
attribute [simp] r17_11
@[simp] theorem n17_12 (s : List V) (H : Heap) : evCode P Γ call n f m (cAt [1, 1, 0, 1, 0, 0, 1] B17) s H = seqNext P Γ call n f m (cAt [1, 1, 0, 1, 0, 0, 1, 1] B17) (evCode P Γ call n f m (cAt [1, 1, 0, 1, 0, 0, 1, 0] B17) s H) := at_seq (by kernel_rfl) rfl rfl s H
@[simp] theorem n17_13 (s : List V) (H : Heap) : evCode P Γ call n f m (cAt [1, 1, 0, 1, 0, 0, 1, 0] B17) s H = condW P Γ call n f m (cAt [1, 1, 0, 1, 0, 0, 1, 0, 0] B17) (cAt [1, 1, 0, 1, 0, 0, 1, 0, 1] B17) s H (evOperand Γ s (.tmp 21)) := at_cond (by kernel_rfl) (by kernel_rfl) rfl rfl s H
@[simp] theorem n17_14 (s : List V) (H : Heap) : evCode P Γ call n f m (cAt [1, 1, 0, 1, 0, 0, 1, 0, 0] B17) s H = some (.normal, s, H) := at_skip (by kernel_rfl) s H
@[simp] theorem n17_15 (s : List V) (H : Heap) : evCode P Γ call n f m (cAt [1, 1, 0, 1, 0, 0, 1, 0, 1] B17) s H = some (.exit 0, s, H) := at_exit (by kernel_rfl) s H
@[simp] theorem n17_16 (s : List V) (H : Heap) : evCode P Γ call n f m (cAt [1, 1, 0, 1, 0, 0, 1, 1] B17) s H = seqNext P Γ call n f m (cAt [1, 1, 0, 1, 0, 0, 1, 1, 1] B17) (evCode P Γ call n f m (cAt [1, 1, 0, 1, 0, 0, 1, 1, 0] B17) s H) := at_seq (by kernel_rfl) rfl rfl s H
@[simp] theorem n17_17 (s : List V) (H : Heap) : evCode P Γ call n f m (cAt [1, 1, 0, 1, 0, 0, 1, 1, 0] B17) s H = blockNext 1 (evCode P Γ call n f m (cAt [1, 1, 0, 1, 0, 0, 1, 1, 0, 0] B17) s H) := at_block (by kernel_rfl) rfl s H
@[simp] theorem n17_18 (s : List V) (H : Heap) : evCode P Γ call n f m (cAt [1, 1, 0, 1, 0, 0, 1, 1, 0, 0] B17) s H = seqNext P Γ call n f m (cAt [1, 1, 0, 1, 0, 0, 1, 1, 0, 0, 1] B17) (evCode P Γ call n f m (cAt [1, 1, 0, 1, 0, 0, 1, 1, 0, 0, 0] B17) s H) := at_seq (by kernel_rfl) rfl rfl s H
noncomputable def r17_19 : {l : List Oper // opsOf (cAt [1, 1, 0, 1, 0, 0, 1, 1, 0, 0, 0] B17) = l} := by
  apply Subtype.mk
  dsimp only [opsOf, cAt, kids, B17, bodyOf, Try.f17, List.getD, List.getElem?_cons_zero, List.getElem?_cons_succ, Option.getD_some]
@[simp] theorem n17_19 (s : List V) (H : Heap) : evCode P Γ call n f m (cAt [1, 1, 0, 1, 0, 0, 1, 1, 0, 0, 0] B17) s H = regNext (evOpsGo P Γ call r17_19.1 r17_19.1 s H) := at_region (by kernel_rfl) r17_19.2 s H
attribute [simp] r17_19
@[simp] theorem n17_20 (s : List V) (H : Heap) : evCode P Γ call n f m (cAt [1, 1, 0, 1, 0, 0, 1, 1, 0, 0, 1] B17) s H = seqNext P Γ call n f m (cAt [1, 1, 0, 1, 0, 0, 1, 1, 0, 0, 1, 1] B17) (evCode P Γ call n f m (cAt [1, 1, 0, 1, 0, 0, 1, 1, 0, 0, 1, 0] B17) s H) := at_seq (by kernel_rfl) rfl rfl s H
noncomputable def r17_21 : {l : List Oper // opsOf (cAt [1, 1, 0, 1, 0, 0, 1, 1, 0, 0, 1, 0] B17) = l} := by
  apply Subtype.mk
  dsimp only [opsOf, cAt, kids, B17, bodyOf, Try.f17, List.getD, List.getElem?_cons_zero, List.getElem?_cons_succ, Option.getD_some]
@[simp] theorem n17_21 (s : List V) (H : Heap) : evCode P Γ call n f m (cAt [1, 1, 0, 1, 0, 0, 1, 1, 0, 0, 1, 0] B17) s H = regNext (evOpsGo P Γ call r17_21.1 r17_21.1 s H) := at_region (by kernel_rfl) r17_21.2 s H
attribute [simp] r17_21
@[simp] theorem n17_22 (s : List V) (H : Heap) : evCode P Γ call n f m (cAt [1, 1, 0, 1, 0, 0, 1, 1, 0, 0, 1, 1] B17) s H = seqNext P Γ call n f m (cAt [1, 1, 0, 1, 0, 0, 1, 1, 0, 0, 1, 1, 1] B17) (evCode P Γ call n f m (cAt [1, 1, 0, 1, 0, 0, 1, 1, 0, 0, 1, 1, 0] B17) s H) := at_seq (by kernel_rfl) rfl rfl s H
@[simp] theorem n17_23 (s : List V) (H : Heap) : evCode P Γ call n f m (cAt [1, 1, 0, 1, 0, 0, 1, 1, 0, 0, 1, 1, 0] B17) s H = seqNext P Γ call n f m (cAt [1, 1, 0, 1, 0, 0, 1, 1, 0, 0, 1, 1, 0, 1] B17) (evCode P Γ call n f m (cAt [1, 1, 0, 1, 0, 0, 1, 1, 0, 0, 1, 1, 0, 0] B17) s H) := at_seq (by kernel_rfl) rfl rfl s H
noncomputable def r17_24 : {l : List Oper // opsOf (cAt [1, 1, 0, 1, 0, 0, 1, 1, 0, 0, 1, 1, 0, 0] B17) = l} := by
  apply Subtype.mk
  dsimp only [opsOf, cAt, kids, B17, bodyOf, Try.f17, List.getD, List.getElem?_cons_zero, List.getElem?_cons_succ, Option.getD_some]
@[simp] theorem n17_24 (s : List V) (H : Heap) : evCode P Γ call n f m (cAt [1, 1, 0, 1, 0, 0, 1, 1, 0, 0, 1, 1, 0, 0] B17) s H = regNext (evOpsGo P Γ call r17_24.1 r17_24.1 s H) := at_region (by kernel_rfl) r17_24.2 s H
attribute [simp] r17_24
@[simp] theorem n17_25 (s : List V) (H : Heap) : evCode P Γ call n f m (cAt [1, 1, 0, 1, 0, 0, 1, 1, 0, 0, 1, 1, 0, 1] B17) s H = blockNext 2 (evCode P Γ call n f m (cAt [1, 1, 0, 1, 0, 0, 1, 1, 0, 0, 1, 1, 0, 1, 0] B17) s H) := at_block (by kernel_rfl) rfl s H
@[simp] theorem n17_26 (s : List V) (H : Heap) : evCode P Γ call n f m (cAt [1, 1, 0, 1, 0, 0, 1, 1, 0, 0, 1, 1, 0, 1, 0] B17) s H = evLoopC P Γ call n f m (cAt [1, 1, 0, 1, 0, 0, 1, 1, 0, 0, 1, 1, 0, 1, 0, 0] B17) n s H := at_loop (by kernel_rfl) rfl s H
noncomputable abbrev L17_7 : Code := cAt [1, 1, 0, 1, 0, 0, 1, 1, 0, 0, 1, 1, 0, 1, 0, 0] B17
@[simp] theorem n17_26f : firstRegion (cAt [1, 1, 0, 1, 0, 0, 1, 1, 0, 0, 1, 1, 0, 1, 0, 0] B17) = 7 := by kernel_rfl
@[simp] theorem n17_27 (s : List V) (H : Heap) : evCode P Γ call n f m (cAt [1, 1, 0, 1, 0, 0, 1, 1, 0, 0, 1, 1, 0, 1, 0, 0] B17) s H = seqNext P Γ call n f m (cAt [1, 1, 0, 1, 0, 0, 1, 1, 0, 0, 1, 1, 0, 1, 0, 0, 1] B17) (evCode P Γ call n f m (cAt [1, 1, 0, 1, 0, 0, 1, 1, 0, 0, 1, 1, 0, 1, 0, 0, 0] B17) s H) := at_seq (by kernel_rfl) rfl rfl s H
noncomputable def r17_28 : {l : List Oper // opsOf (cAt [1, 1, 0, 1, 0, 0, 1, 1, 0, 0, 1, 1, 0, 1, 0, 0, 0] B17) = l} := by
  apply Subtype.mk
  dsimp only [opsOf, cAt, kids, B17, bodyOf, Try.f17, List.getD, List.getElem?_cons_zero, List.getElem?_cons_succ, Option.getD_some]
@[simp] theorem n17_28 (s : List V) (H : Heap) : evCode P Γ call n f m (cAt [1, 1, 0, 1, 0, 0, 1, 1, 0, 0, 1, 1, 0, 1, 0, 0, 0] B17) s H = regNext (evOpsGo P Γ call r17_28.1 r17_28.1 s H) := at_region (by kernel_rfl) r17_28.2 s H
attribute [simp] r17_28
@[simp] theorem n17_29 (s : List V) (H : Heap) : evCode P Γ call n f m (cAt [1, 1, 0, 1, 0, 0, 1, 1, 0, 0, 1, 1, 0, 1, 0, 0, 1] B17) s H = seqNext P Γ call n f m (cAt [1, 1, 0, 1, 0, 0, 1, 1, 0, 0, 1, 1, 0, 1, 0, 0, 1, 1] B17) (evCode P Γ call n f m (cAt [1, 1, 0, 1, 0, 0, 1, 1, 0, 0, 1, 1, 0, 1, 0, 0, 1, 0] B17) s H) := at_seq (by kernel_rfl) rfl rfl s H
@[simp] theorem n17_30 (s : List V) (H : Heap) : evCode P Γ call n f m (cAt [1, 1, 0, 1, 0, 0, 1, 1, 0, 0, 1, 1, 0, 1, 0, 0, 1, 0] B17) s H = condW P Γ call n f m (cAt [1, 1, 0, 1, 0, 0, 1, 1, 0, 0, 1, 1, 0, 1, 0, 0, 1, 0, 0] B17) (cAt [1, 1, 0, 1, 0, 0, 1, 1, 0, 0, 1, 1, 0, 1, 0, 0, 1, 0, 1] B17) s H (evOperand Γ s (.tmp 26)) := at_cond (by kernel_rfl) (by kernel_rfl) rfl rfl s H
@[simp] theorem n17_31 (s : List V) (H : Heap) : evCode P Γ call n f m (cAt [1, 1, 0, 1, 0, 0, 1, 1, 0, 0, 1, 1, 0, 1, 0, 0, 1, 0, 0] B17) s H = some (.normal, s, H) := at_skip (by kernel_rfl) s H
@[simp] theorem n17_32 (s : List V) (H : Heap) : evCode P Γ call n f m (cAt [1, 1, 0, 1, 0, 0, 1, 1, 0, 0, 1, 1, 0, 1, 0, 0, 1, 0, 1] B17) s H = some (.exit 2, s, H) := at_exit (by kernel_rfl) s H
@[simp] theorem n17_33 (s : List V) (H : Heap) : evCode P Γ call n f m (cAt [1, 1, 0, 1, 0, 0, 1, 1, 0, 0, 1, 1, 0, 1, 0, 0, 1, 1] B17) s H = seqNext P Γ call n f m (cAt [1, 1, 0, 1, 0, 0, 1, 1, 0, 0, 1, 1, 0, 1, 0, 0, 1, 1, 1] B17) (evCode P Γ call n f m (cAt [1, 1, 0, 1, 0, 0, 1, 1, 0, 0, 1, 1, 0, 1, 0, 0, 1, 1, 0] B17) s H) := at_seq (by kernel_rfl) rfl rfl s H
@[simp] theorem n17_34 (s : List V) (H : Heap) : evCode P Γ call n f m (cAt [1, 1, 0, 1, 0, 0, 1, 1, 0, 0, 1, 1, 0, 1, 0, 0, 1, 1, 0] B17) s H = blockNext 3 (evCode P Γ call n f m (cAt [1, 1, 0, 1, 0, 0, 1, 1, 0, 0, 1, 1, 0, 1, 0, 0, 1, 1, 0, 0] B17) s H) := at_block (by kernel_rfl) rfl s H
@[simp] theorem n17_35 (s : List V) (H : Heap) : evCode P Γ call n f m (cAt [1, 1, 0, 1, 0, 0, 1, 1, 0, 0, 1, 1, 0, 1, 0, 0, 1, 1, 0, 0] B17) s H = seqNext P Γ call n f m (cAt [1, 1, 0, 1, 0, 0, 1, 1, 0, 0, 1, 1, 0, 1, 0, 0, 1, 1, 0, 0, 1] B17) (evCode P Γ call n f m (cAt [1, 1, 0, 1, 0, 0, 1, 1, 0, 0, 1, 1, 0, 1, 0, 0, 1, 1, 0, 0, 0] B17) s H) := at_seq (by kernel_rfl) rfl rfl s H
noncomputable def r17_36 : {l : List Oper // opsOf (cAt [1, 1, 0, 1, 0, 0, 1, 1, 0, 0, 1, 1, 0, 1, 0, 0, 1, 1, 0, 0, 0] B17) = l} := by
  apply Subtype.mk
  dsimp only [opsOf, cAt, kids, B17, bodyOf, Try.f17, List.getD, List.getElem?_cons_zero, List.getElem?_cons_succ, Option.getD_some]
@[simp] theorem n17_36 (s : List V) (H : Heap) : evCode P Γ call n f m (cAt [1, 1, 0, 1, 0, 0, 1, 1, 0, 0, 1, 1, 0, 1, 0, 0, 1, 1, 0, 0, 0] B17) s H = regNext (evOpsGo P Γ call r17_36.1 r17_36.1 s H) := at_region (by kernel_rfl) r17_36.2 s H
attribute [simp] r17_36
@[simp] theorem n17_37 (s : List V) (H : Heap) : evCode P Γ call n f m (cAt [1, 1, 0, 1, 0, 0, 1, 1, 0, 0, 1, 1, 0, 1, 0, 0, 1, 1, 0, 0, 1] B17) s H = seqNext P Γ call n f m (cAt [1, 1, 0, 1, 0, 0, 1, 1, 0, 0, 1, 1, 0, 1, 0, 0, 1, 1, 0, 0, 1, 1] B17) (evCode P Γ call n f m (cAt [1, 1, 0, 1, 0, 0, 1, 1, 0, 0, 1, 1, 0, 1, 0, 0, 1, 1, 0, 0, 1, 0] B17) s H) := at_seq (by kernel_rfl) rfl rfl s H
noncomputable def r17_38 : {l : List Oper // opsOf (cAt [1, 1, 0, 1, 0, 0, 1, 1, 0, 0, 1, 1, 0, 1, 0, 0, 1, 1, 0, 0, 1, 0] B17) = l} := by
  apply Subtype.mk
  dsimp only [opsOf, cAt, kids, B17, bodyOf, Try.f17, List.getD, List.getElem?_cons_zero, List.getElem?_cons_succ, Option.getD_some]
@[simp] theorem n17_38 (s : List V) (H : Heap) : evCode P Γ call n f m (cAt [1, 1, 0, 1, 0, 0, 1, 1, 0, 0, 1, 1, 0, 1, 0, 0, 1, 1, 0, 0, 1, 0] B17) s H = regNext (evOpsGo P Γ call r17_38.1 r17_38.1 s H) := at_region (by kernel_rfl) r17_38.2 s H
attribute [simp] r17_38
@[simp] theorem n17_39 (s : List V) (H : Heap) : evCode P Γ call n f m (cAt [1, 1, 0, 1, 0, 0, 1, 1, 0, 0, 1, 1, 0, 1, 0, 0, 1, 1, 0, 0, 1, 1] B17) s H = condW P Γ call n f m (cAt [1, 1, 0, 1, 0, 0, 1, 1, 0, 0, 1, 1, 0, 1, 0, 0, 1, 1, 0, 0, 1, 1, 0] B17) (cAt [1, 1, 0, 1, 0, 0, 1, 1, 0, 0, 1, 1, 0, 1, 0, 0, 1, 1, 0, 0, 1, 1, 1] B17) s H (evOperand Γ s (.tmp 39)) := at_cond (by kernel_rfl) (by kernel_rfl) rfl rfl s H
noncomputable def r17_40 : {l : List Oper // opsOf (cAt [1, 1, 0, 1, 0, 0, 1, 1, 0, 0, 1, 1, 0, 1, 0, 0, 1, 1, 0, 0, 1, 1, 0] B17) = l} := by
  apply Subtype.mk
  dsimp only [opsOf, cAt, kids, B17, bodyOf, Try.f17, List.getD, List.getElem?_cons_zero, List.getElem?_cons_succ, Option.getD_some]
@[simp] theorem n17_40 (s : List V) (H : Heap) : evCode P Γ call n f m (cAt [1, 1, 0, 1, 0, 0, 1, 1, 0, 0, 1, 1, 0, 1, 0, 0, 1, 1, 0, 0, 1, 1, 0] B17) s H = regNext (evOpsGo P Γ call r17_40.1 r17_40.1 s H) := at_region (by kernel_rfl) r17_40.2 s H
attribute [simp] r17_40
@[simp] theorem n17_41 (s : List V) (H : Heap) : evCode P Γ call n f m (cAt [1, 1, 0, 1, 0, 0, 1, 1, 0, 0, 1, 1, 0, 1, 0, 0, 1, 1, 0, 0, 1, 1, 1] B17) s H = some (.normal, s, H) := at_skip (by kernel_rfl) s H
noncomputable def r17_42 : {l : List Oper // opsOf (cAt [1, 1, 0, 1, 0, 0, 1, 1, 0, 0, 1, 1, 0, 1, 0, 0, 1, 1, 1] B17) = l} := by
  apply Subtype.mk
  dsimp only [opsOf, cAt, kids, B17, bodyOf, Try.f17, List.getD, List.getElem?_cons_zero, List.getElem?_cons_succ, Option.getD_some]
@[simp] theorem n17_42 (s : List V) (H : Heap) : evCode P Γ call n f m (cAt [1, 1, 0, 1, 0, 0, 1, 1, 0, 0, 1, 1, 0, 1, 0, 0, 1, 1, 1] B17) s H = regNext (evOpsGo P Γ call r17_42.1 r17_42.1 s H) := at_region (by kernel_rfl) r17_42.2 s H
attribute [simp] r17_42
@[simp] theorem n17_43 (s : List V) (H : Heap) : evCode P Γ call n f m (cAt [1, 1, 0, 1, 0, 0, 1, 1, 0, 0, 1, 1, 1] B17) s H = seqNext P Γ call n f m (cAt [1, 1, 0, 1, 0, 0, 1, 1, 0, 0, 1, 1, 1, 1] B17) (evCode P Γ call n f m (cAt [1, 1, 0, 1, 0, 0, 1, 1, 0, 0, 1, 1, 1, 0] B17) s H) := at_seq (by kernel_rfl) rfl rfl s H
noncomputable def r17_44 : {l : List Oper // opsOf (cAt [1, 1, 0, 1, 0, 0, 1, 1, 0, 0, 1, 1, 1, 0] B17) = l} := by
  apply Subtype.mk
  dsimp only [opsOf, cAt, kids, B17, bodyOf, Try.f17, List.getD, List.getElem?_cons_zero, List.getElem?_cons_succ, Option.getD_some]
@[simp] theorem n17_44 (s : List V) (H : Heap) : evCode P Γ call n f m (cAt [1, 1, 0, 1, 0, 0, 1, 1, 0, 0, 1, 1, 1, 0] B17) s H = regNext (evOpsGo P Γ call r17_44.1 r17_44.1 s H) := at_region (by kernel_rfl) r17_44.2 s H
attribute [simp] r17_44
noncomputable def r17_45 : {l : List Oper // opsOf (cAt [1, 1, 0, 1, 0, 0, 1, 1, 0, 0, 1, 1, 1, 1] B17) = l} := by
  apply Subtype.mk
  dsimp only [opsOf, cAt, kids, B17, bodyOf, Try.f17, List.getD, List.getElem?_cons_zero, List.getElem?_cons_succ, Option.getD_some]
@[simp] theorem n17_45 (s : List V) (H : Heap) : evCode P Γ call n f m (cAt [1, 1, 0, 1, 0, 0, 1, 1, 0, 0, 1, 1, 1, 1] B17) s H = regNext (evOpsGo P Γ call r17_45.1 r17_45.1 s H) := at_region (by kernel_rfl) r17_45.2 s H
attribute [simp] r17_45
noncomputable def r17_46 : {l : List Oper // opsOf (cAt [1, 1, 0, 1, 0, 0, 1, 1, 1] B17) = l} := by
  apply Subtype.mk
  dsimp only [opsOf, cAt, kids, B17, bodyOf, Try.f17, List.getD, List.getElem?_cons_zero, List.getElem?_cons_succ, Option.getD_some]
@[simp] theorem n17_46 (s : List V) (H : Heap) : evCode P Γ call n f m (cAt [1, 1, 0, 1, 0, 0, 1, 1, 1] B17) s H = regNext (evOpsGo P Γ call r17_46.1 r17_46.1 s H) := at_region (by kernel_rfl) r17_46.2 s H
attribute [simp] r17_46
@[simp] theorem n17_47 (s : List V) (H : Heap) : evCode P Γ call n f m (cAt [1, 1, 1] B17) s H = seqNext P Γ call n f m (cAt [1, 1, 1, 1] B17) (evCode P Γ call n f m (cAt [1, 1, 1, 0] B17) s H) := at_seq (by kernel_rfl) rfl rfl s H
noncomputable def r17_48 : {l : List Oper // opsOf (cAt [1, 1, 1, 0] B17) = l} := by
  apply Subtype.mk
  dsimp only [opsOf, cAt, kids, B17, bodyOf, Try.f17, List.getD, List.getElem?_cons_zero, List.getElem?_cons_succ, Option.getD_some]
@[simp] theorem n17_48 (s : List V) (H : Heap) : evCode P Γ call n f m (cAt [1, 1, 1, 0] B17) s H = regNext (evOpsGo P Γ call r17_48.1 r17_48.1 s H) := at_region (by kernel_rfl) r17_48.2 s H
attribute [simp] r17_48
@[simp] theorem n17_49 (s : List V) (H : Heap) : evCode P Γ call n f m (cAt [1, 1, 1, 1] B17) s H = seqNext P Γ call n f m (cAt [1, 1, 1, 1, 1] B17) (evCode P Γ call n f m (cAt [1, 1, 1, 1, 0] B17) s H) := at_seq (by kernel_rfl) rfl rfl s H
@[simp] theorem n17_50 (s : List V) (H : Heap) : evCode P Γ call n f m (cAt [1, 1, 1, 1, 0] B17) s H = seqNext P Γ call n f m (cAt [1, 1, 1, 1, 0, 1] B17) (evCode P Γ call n f m (cAt [1, 1, 1, 1, 0, 0] B17) s H) := at_seq (by kernel_rfl) rfl rfl s H
noncomputable def r17_51 : {l : List Oper // opsOf (cAt [1, 1, 1, 1, 0, 0] B17) = l} := by
  apply Subtype.mk
  dsimp only [opsOf, cAt, kids, B17, bodyOf, Try.f17, List.getD, List.getElem?_cons_zero, List.getElem?_cons_succ, Option.getD_some]
@[simp] theorem n17_51 (s : List V) (H : Heap) : evCode P Γ call n f m (cAt [1, 1, 1, 1, 0, 0] B17) s H = regNext (evOpsGo P Γ call r17_51.1 r17_51.1 s H) := at_region (by kernel_rfl) r17_51.2 s H
attribute [simp] r17_51
@[simp] theorem n17_52 (s : List V) (H : Heap) : evCode P Γ call n f m (cAt [1, 1, 1, 1, 0, 1] B17) s H = blockNext 4 (evCode P Γ call n f m (cAt [1, 1, 1, 1, 0, 1, 0] B17) s H) := at_block (by kernel_rfl) rfl s H
@[simp] theorem n17_53 (s : List V) (H : Heap) : evCode P Γ call n f m (cAt [1, 1, 1, 1, 0, 1, 0] B17) s H = evLoopC P Γ call n f m (cAt [1, 1, 1, 1, 0, 1, 0, 0] B17) n s H := at_loop (by kernel_rfl) rfl s H
noncomputable abbrev L17_17 : Code := cAt [1, 1, 1, 1, 0, 1, 0, 0] B17
@[simp] theorem n17_53f : firstRegion (cAt [1, 1, 1, 1, 0, 1, 0, 0] B17) = 17 := by kernel_rfl
@[simp] theorem n17_54 (s : List V) (H : Heap) : evCode P Γ call n f m (cAt [1, 1, 1, 1, 0, 1, 0, 0] B17) s H = seqNext P Γ call n f m (cAt [1, 1, 1, 1, 0, 1, 0, 0, 1] B17) (evCode P Γ call n f m (cAt [1, 1, 1, 1, 0, 1, 0, 0, 0] B17) s H) := at_seq (by kernel_rfl) rfl rfl s H
noncomputable def r17_55 : {l : List Oper // opsOf (cAt [1, 1, 1, 1, 0, 1, 0, 0, 0] B17) = l} := by
  apply Subtype.mk
  dsimp only [opsOf, cAt, kids, B17, bodyOf, Try.f17, List.getD, List.getElem?_cons_zero, List.getElem?_cons_succ, Option.getD_some]
@[simp] theorem n17_55 (s : List V) (H : Heap) : evCode P Γ call n f m (cAt [1, 1, 1, 1, 0, 1, 0, 0, 0] B17) s H = regNext (evOpsGo P Γ call r17_55.1 r17_55.1 s H) := at_region (by kernel_rfl) r17_55.2 s H
attribute [simp] r17_55
@[simp] theorem n17_56 (s : List V) (H : Heap) : evCode P Γ call n f m (cAt [1, 1, 1, 1, 0, 1, 0, 0, 1] B17) s H = seqNext P Γ call n f m (cAt [1, 1, 1, 1, 0, 1, 0, 0, 1, 1] B17) (evCode P Γ call n f m (cAt [1, 1, 1, 1, 0, 1, 0, 0, 1, 0] B17) s H) := at_seq (by kernel_rfl) rfl rfl s H
@[simp] theorem n17_57 (s : List V) (H : Heap) : evCode P Γ call n f m (cAt [1, 1, 1, 1, 0, 1, 0, 0, 1, 0] B17) s H = condW P Γ call n f m (cAt [1, 1, 1, 1, 0, 1, 0, 0, 1, 0, 0] B17) (cAt [1, 1, 1, 1, 0, 1, 0, 0, 1, 0, 1] B17) s H (evOperand Γ s (.tmp 60)) := at_cond (by kernel_rfl) (by kernel_rfl) rfl rfl s H
@[simp] theorem n17_58 (s : List V) (H : Heap) : evCode P Γ call n f m (cAt [1, 1, 1, 1, 0, 1, 0, 0, 1, 0, 0] B17) s H = some (.normal, s, H) := at_skip (by kernel_rfl) s H
@[simp] theorem n17_59 (s : List V) (H : Heap) : evCode P Γ call n f m (cAt [1, 1, 1, 1, 0, 1, 0, 0, 1, 0, 1] B17) s H = some (.exit 4, s, H) := at_exit (by kernel_rfl) s H
@[simp] theorem n17_60 (s : List V) (H : Heap) : evCode P Γ call n f m (cAt [1, 1, 1, 1, 0, 1, 0, 0, 1, 1] B17) s H = seqNext P Γ call n f m (cAt [1, 1, 1, 1, 0, 1, 0, 0, 1, 1, 1] B17) (evCode P Γ call n f m (cAt [1, 1, 1, 1, 0, 1, 0, 0, 1, 1, 0] B17) s H) := at_seq (by kernel_rfl) rfl rfl s H
@[simp] theorem n17_61 (s : List V) (H : Heap) : evCode P Γ call n f m (cAt [1, 1, 1, 1, 0, 1, 0, 0, 1, 1, 0] B17) s H = blockNext 5 (evCode P Γ call n f m (cAt [1, 1, 1, 1, 0, 1, 0, 0, 1, 1, 0, 0] B17) s H) := at_block (by kernel_rfl) rfl s H
@[simp] theorem n17_62 (s : List V) (H : Heap) : evCode P Γ call n f m (cAt [1, 1, 1, 1, 0, 1, 0, 0, 1, 1, 0, 0] B17) s H = seqNext P Γ call n f m (cAt [1, 1, 1, 1, 0, 1, 0, 0, 1, 1, 0, 0, 1] B17) (evCode P Γ call n f m (cAt [1, 1, 1, 1, 0, 1, 0, 0, 1, 1, 0, 0, 0] B17) s H) := at_seq (by kernel_rfl) rfl rfl s H
noncomputable def r17_63 : {l : List Oper // opsOf (cAt [1, 1, 1, 1, 0, 1, 0, 0, 1, 1, 0, 0, 0] B17) = l} := by
  apply Subtype.mk
  dsimp only [opsOf, cAt, kids, B17, bodyOf, Try.f17, List.getD, List.getElem?_cons_zero, List.getElem?_cons_succ, Option.getD_some]
@[simp] theorem n17_63 (s : List V) (H : Heap) : evCode P Γ call n f m (cAt [1, 1, 1, 1, 0, 1, 0, 0, 1, 1, 0, 0, 0] B17) s H = regNext (evOpsGo P Γ call r17_63.1 r17_63.1 s H) := at_region (by kernel_rfl) r17_63.2 s H
attribute [simp] r17_63
@[simp] theorem n17_64 (s : List V) (H : Heap) : evCode P Γ call n f m (cAt [1, 1, 1, 1, 0, 1, 0, 0, 1, 1, 0, 0, 1] B17) s H = seqNext P Γ call n f m (cAt [1, 1, 1, 1, 0, 1, 0, 0, 1, 1, 0, 0, 1, 1] B17) (evCode P Γ call n f m (cAt [1, 1, 1, 1, 0, 1, 0, 0, 1, 1, 0, 0, 1, 0] B17) s H) := at_seq (by kernel_rfl) rfl rfl s H
noncomputable def r17_65 : {l : List Oper // opsOf (cAt [1, 1, 1, 1, 0, 1, 0, 0, 1, 1, 0, 0, 1, 0] B17) = l} := by
  apply Subtype.mk
  dsimp only [opsOf, cAt, kids, B17, bodyOf, Try.f17, List.getD, List.getElem?_cons_zero, List.getElem?_cons_succ, Option.getD_some]
@[simp] theorem n17_65 (s : List V) (H : Heap) : evCode P Γ call n f m (cAt [1, 1, 1, 1, 0, 1, 0, 0, 1, 1, 0, 0, 1, 0] B17) s H = regNext (evOpsGo P Γ call r17_65.1 r17_65.1 s H) := at_region (by kernel_rfl) r17_65.2 s H
attribute [simp] r17_65
@[simp] theorem n17_66 (s : List V) (H : Heap) : evCode P Γ call n f m (cAt [1, 1, 1, 1, 0, 1, 0, 0, 1, 1, 0, 0, 1, 1] B17) s H = condW P Γ call n f m (cAt [1, 1, 1, 1, 0, 1, 0, 0, 1, 1, 0, 0, 1, 1, 0] B17) (cAt [1, 1, 1, 1, 0, 1, 0, 0, 1, 1, 0, 0, 1, 1, 1] B17) s H (evOperand Γ s (.tmp 65)) := at_cond (by kernel_rfl) (by kernel_rfl) rfl rfl s H
noncomputable def r17_67 : {l : List Oper // opsOf (cAt [1, 1, 1, 1, 0, 1, 0, 0, 1, 1, 0, 0, 1, 1, 0] B17) = l} := by
  apply Subtype.mk
  dsimp only [opsOf, cAt, kids, B17, bodyOf, Try.f17, List.getD, List.getElem?_cons_zero, List.getElem?_cons_succ, Option.getD_some]
@[simp] theorem n17_67 (s : List V) (H : Heap) : evCode P Γ call n f m (cAt [1, 1, 1, 1, 0, 1, 0, 0, 1, 1, 0, 0, 1, 1, 0] B17) s H = regNext (evOpsGo P Γ call r17_67.1 r17_67.1 s H) := at_region (by kernel_rfl) r17_67.2 s H
attribute [simp] r17_67
@[simp] theorem n17_68 (s : List V) (H : Heap) : evCode P Γ call n f m (cAt [1, 1, 1, 1, 0, 1, 0, 0, 1, 1, 0, 0, 1, 1, 1] B17) s H = some (.normal, s, H) := at_skip (by kernel_rfl) s H
noncomputable def r17_69 : {l : List Oper // opsOf (cAt [1, 1, 1, 1, 0, 1, 0, 0, 1, 1, 1] B17) = l} := by
  apply Subtype.mk
  dsimp only [opsOf, cAt, kids, B17, bodyOf, Try.f17, List.getD, List.getElem?_cons_zero, List.getElem?_cons_succ, Option.getD_some]
@[simp] theorem n17_69 (s : List V) (H : Heap) : evCode P Γ call n f m (cAt [1, 1, 1, 1, 0, 1, 0, 0, 1, 1, 1] B17) s H = regNext (evOpsGo P Γ call r17_69.1 r17_69.1 s H) := at_region (by kernel_rfl) r17_69.2 s H
attribute [simp] r17_69
@[simp] theorem n17_70 (s : List V) (H : Heap) : evCode P Γ call n f m (cAt [1, 1, 1, 1, 1] B17) s H = seqNext P Γ call n f m (cAt [1, 1, 1, 1, 1, 1] B17) (evCode P Γ call n f m (cAt [1, 1, 1, 1, 1, 0] B17) s H) := at_seq (by kernel_rfl) rfl rfl s H
noncomputable def r17_71 : {l : List Oper // opsOf (cAt [1, 1, 1, 1, 1, 0] B17) = l} := by
  apply Subtype.mk
  dsimp only [opsOf, cAt, kids, B17, bodyOf, Try.f17, List.getD, List.getElem?_cons_zero, List.getElem?_cons_succ, Option.getD_some]
@[simp] theorem n17_71 (s : List V) (H : Heap) : evCode P Γ call n f m (cAt [1, 1, 1, 1, 1, 0] B17) s H = regNext (evOpsGo P Γ call r17_71.1 r17_71.1 s H) := at_region (by kernel_rfl) r17_71.2 s H
attribute [simp] r17_71
@[simp] theorem n17_72 (s : List V) (H : Heap) : evCode P Γ call n f m (cAt [1, 1, 1, 1, 1, 1] B17) s H = some (.ret, s, H) := at_ret (by kernel_rfl) s H
theorem b17 {k : Nat} (ho : ∀ args H, Γ.orc 17 args H = none) (args : List V) (H : Heap) (ha : args.length ≤ 72) : evF Try.prog Γ (k + 1) 17 args H = bodyEnd Try.prog [.tmp 4] H.length (evCode Try.prog Γ (evF Try.prog Γ k) k 17 H.length (cAt [] B17) (mkL 72 V.undef (enumV 0 args)) H) := body_at Try.func17 (by decide) rfl ho rfl rfl args H ha
noncomputable def B16 : Code := bodyOf Try.f16
@[simp] theorem n16_1 (s : List V) (H : Heap) : evCode P Γ call n f m (cAt [] B16) s H = seqNext P Γ call n f m (cAt [1] B16) (evCode P Γ call n f m (cAt [0] B16) s H) := at_seq (by kernel_rfl) rfl rfl s H
noncomputable def r16_2 : {l : List Oper // opsOf (cAt [0] B16) = l} := by
  apply Subtype.mk
  dsimp only [opsOf, cAt, kids, B16, bodyOf, Try.f16, List.getD, List.getElem?_cons_zero, List.getElem?_cons_succ, Option.getD_some]
@[simp] theorem n16_2 (s : List V) (H : Heap) : evCode P Γ call n f m (cAt [0] B16) s H = regNext (evOpsGo P Γ call r16_2.1 r16_2.1 s H) := at_region (by kernel_rfl) r16_2.2 s H
attribute [simp] r16_2
@[simp] theorem n16_3 (s : List V) (H : Heap) : evCode P Γ call n f m (cAt [1] B16) s H = seqNext P Γ call n f m (cAt [1, 1] B16) (evCode P Γ call n f m (cAt [1, 0] B16) s H) := at_seq (by kernel_rfl) rfl rfl s H
@[simp] theorem n16_4 (s : List V) (H : Heap) : evCode P Γ call n f m (cAt [1, 0] B16) s H = seqNext P Γ call n f m (cAt [1, 0, 1] B16) (evCode P Γ call n f m (cAt [1, 0, 0] B16) s H) := at_seq (by kernel_rfl) rfl rfl s H
noncomputable def r16_5 : {l : List Oper // opsOf (cAt [1, 0, 0] B16) = l} := by
  apply Subtype.mk
  dsimp only [opsOf, cAt, kids, B16, bodyOf, Try.f16, List.getD, List.getElem?_cons_zero, List.getElem?_cons_succ, Option.getD_some]
@[simp] theorem n16_5 (s : List V) (H : Heap) : evCode P Γ call n f m (cAt [1, 0, 0] B16) s H = regNext (evOpsGo P Γ call r16_5.1 r16_5.1 s H) := at_region (by kernel_rfl) r16_5.2 s H
attribute [simp] r16_5
@[simp] theorem n16_6 (s : List V) (H : Heap) : evCode P Γ call n f m (cAt [1, 0, 1] B16) s H = condW P Γ call n f m (cAt [1, 0, 1, 0] B16) (cAt [1, 0, 1, 1] B16) s H (evOperand Γ s (.tmp 10)) := at_cond (by kernel_rfl) (by kernel_rfl) rfl rfl s H
@[simp] theorem n16_7 (s : List V) (H : Heap) : evCode P Γ call n f m (cAt [1, 0, 1, 0] B16) s H = seqNext P Γ call n f m (cAt [1, 0, 1, 0, 1] B16) (evCode P Γ call n f m (cAt [1, 0, 1, 0, 0] B16) s H) := at_seq (by kernel_rfl) rfl rfl s H
noncomputable def r16_8 : {l : List Oper // opsOf (cAt [1, 0, 1, 0, 0] B16) = l} := by
  apply Subtype.mk
  dsimp only [opsOf, cAt, kids, B16, bodyOf, Try.f16, List.getD, List.getElem?_cons_zero, List.getElem?_cons_succ, Option.getD_some]
@[simp] theorem n16_8 (s : List V) (H : Heap) : evCode P Γ call n f m (cAt [1, 0, 1, 0, 0] B16) s H = regNext (evOpsGo P Γ call r16_8.1 r16_8.1 s H) := at_region (by kernel_rfl) r16_8.2 s H
attribute [simp] r16_8
@[simp] theorem n16_9 (s : List V) (H : Heap) : evCode P Γ call n f m (cAt [1, 0, 1, 0, 1] B16) s H = some (.ret, s, H) := at_ret (by kernel_rfl) s H
@[simp] theorem n16_10 (s : List V) (H : Heap) : evCode P Γ call n f m (cAt [1, 0, 1, 1] B16) s H = some (.normal, s, H) := at_skip (by kernel_rfl) s H
@[simp] theorem n16_11 (s : List V) (H : Heap) : evCode P Γ call n f m (cAt [1, 1] B16) s H = seqNext P Γ call n f m (cAt [1, 1, 1] B16) (evCode P Γ call n f m (cAt [1, 1, 0] B16) s H) := at_seq (by kernel_rfl) rfl rfl s H
@[simp] theorem n16_12 (s : List V) (H : Heap) : evCode P Γ call n f m (cAt [1, 1, 0] B16) s H = seqNext P Γ call n f m (cAt [1, 1, 0, 1] B16) (evCode P Γ call n f m (cAt [1, 1, 0, 0] B16) s H) := at_seq (by kernel_rfl) rfl rfl s H
noncomputable def r16_13 : {l : List Oper // opsOf (cAt [1, 1, 0, 0] B16) = l} := by
  apply Subtype.mk
  dsimp only [opsOf, cAt, kids, B16, bodyOf, Try.f16, List.getD, List.getElem?_cons_zero, List.getElem?_cons_succ, Option.getD_some]
@[simp] theorem n16_13 (s : List V) (H : Heap) : evCode P Γ call n f m (cAt [1, 1, 0, 0] B16) s H = regNext (evOpsGo P Γ call r16_13.1 r16_13.1 s H) := at_region (by kernel_rfl) r16_13.2 s H
attribute [simp] r16_13
@[simp] theorem n16_14 (s : List V) (H : Heap) : evCode P Γ call n f m (cAt [1, 1, 0, 1] B16) s H = blockNext 0 (evCode P Γ call n f m (cAt [1, 1, 0, 1, 0] B16) s H) := at_block (by kernel_rfl) rfl s H
@[simp] theorem n16_15 (s : List V) (H : Heap) : evCode P Γ call n f m (cAt [1, 1, 0, 1, 0] B16) s H = evLoopC P Γ call n f m (cAt [1, 1, 0, 1, 0, 0] B16) n s H := at_loop (by kernel_rfl) rfl s H
noncomputable abbrev L16_4 : Code := cAt [1, 1, 0, 1, 0, 0] B16
@[simp] theorem n16_15f : firstRegion (cAt [1, 1, 0, 1, 0, 0] B16) = 4 := by kernel_rfl
@[simp] theorem n16_16 (s : List V) (H : Heap) : evCode P Γ call n f m (cAt [1, 1, 0, 1, 0, 0] B16) s H = seqNext P Γ call n f m (cAt [1, 1, 0, 1, 0, 0, 1] B16) (evCode P Γ call n f m (cAt [1, 1, 0, 1, 0, 0, 0] B16) s H) := at_seq (by kernel_rfl) rfl rfl s H
noncomputable def r16_17 : {l : List Oper // opsOf (cAt [1, 1, 0, 1, 0, 0, 0] B16) = l} := by
  apply Subtype.mk
  dsimp only [opsOf, cAt, kids, B16, bodyOf, Try.f16, List.getD, List.getElem?_cons_zero, List.getElem?_cons_succ, Option.getD_some]
@[simp] theorem n16_17 (s : List V) (H : Heap) : evCode P Γ call n f m (cAt [1, 1, 0, 1, 0, 0, 0] B16) s H = regNext (evOpsGo P Γ call r16_17.1 r16_17.1 s H) := at_region (by kernel_rfl) r16_17.2 s H
attribute [simp] r16_17
@[simp] theorem n16_18 (s : List V) (H : Heap) : evCode P Γ call n f m (cAt [1, 1, 0, 1, 0, 0, 1] B16) s H = seqNext P Γ call n f m (cAt [1, 1, 0, 1, 0, 0, 1, 1] B16) (evCode P Γ call n f m (cAt [1, 1, 0, 1, 0, 0, 1, 0] B16) s H) := at_seq (by kernel_rfl) rfl rfl s H
@[simp] theorem n16_19 (s : List V) (H : Heap) : evCode P Γ call n f m (cAt [1, 1, 0, 1, 0, 0, 1, 0] B16) s H = condW P Γ call n f m (cAt [1, 1, 0, 1, 0, 0, 1, 0, 0] B16) (cAt [1, 1, 0, 1, 0, 0, 1, 0, 1] B16) s H (evOperand Γ s (.tmp 14)) := at_cond (by kernel_rfl) (by kernel_rfl) rfl rfl s H
@[simp] theorem n16_20 (s : List V) (H : Heap) : evCode P Γ call n f m (cAt [1, 1, 0, 1, 0, 0, 1, 0, 0] B16) s H = some (.normal, s, H) := at_skip (by kernel_rfl) s H
@[simp] theorem n16_21 (s : List V) (H : Heap) : evCode P Γ call n f m (cAt [1, 1, 0, 1, 0, 0, 1, 0, 1] B16) s H = some (.exit 0, s, H) := at_exit (by kernel_rfl) s H
@[simp] theorem n16_22 (s : List V) (H : Heap) : evCode P Γ call n f m (cAt [1, 1, 0, 1, 0, 0, 1, 1] B16) s H = seqNext P Γ call n f m (cAt [1, 1, 0, 1, 0, 0, 1, 1, 1] B16) (evCode P Γ call n f m (cAt [1, 1, 0, 1, 0, 0, 1, 1, 0] B16) s H) := at_seq (by kernel_rfl) rfl rfl s H
@[simp] theorem n16_23 (s : List V) (H : Heap) : evCode P Γ call n f m (cAt [1, 1, 0, 1, 0, 0, 1, 1, 0] B16) s H = blockNext 1 (evCode P Γ call n f m (cAt [1, 1, 0, 1, 0, 0, 1, 1, 0, 0] B16) s H) := at_block (by kernel_rfl) rfl s H
@[simp] theorem n16_24 (s : List V) (H : Heap) : evCode P Γ call n f m (cAt [1, 1, 0, 1, 0, 0, 1, 1, 0, 0] B16) s H = seqNext P Γ call n f m (cAt [1, 1, 0, 1, 0, 0, 1, 1, 0, 0, 1] B16) (evCode P Γ call n f m (cAt [1, 1, 0, 1, 0, 0, 1, 1, 0, 0, 0] B16) s H) := at_seq (by kernel_rfl) rfl rfl s H
noncomputable def r16_25 : {l : List Oper // opsOf (cAt [1, 1, 0, 1, 0, 0, 1, 1, 0, 0, 0] B16) = l} := by
  apply Subtype.mk
  dsimp only [opsOf, cAt, kids, B16, bodyOf, Try.f16, List.getD, List.getElem?_cons_zero, List.getElem?_cons_succ, Option.getD_some]
@[simp] theorem n16_25 (s : List V) (H : Heap) : evCode P Γ call n f m (cAt [1, 1, 0, 1, 0, 0, 1, 1, 0, 0, 0] B16) s H = regNext (evOpsGo P Γ call r16_25.1 r16_25.1 s H) := at_region (by kernel_rfl) r16_25.2 s H
attribute [simp] r16_25
@[simp] theorem n16_26 (s : List V) (H : Heap) : evCode P Γ call n f m (cAt [1, 1, 0, 1, 0, 0, 1, 1, 0, 0, 1] B16) s H = seqNext P Γ call n f m (cAt [1, 1, 0, 1, 0, 0, 1, 1, 0, 0, 1, 1] B16) (evCode P Γ call n f m (cAt [1, 1, 0, 1, 0, 0, 1, 1, 0, 0, 1, 0] B16) s H) := at_seq (by kernel_rfl) rfl rfl s H
noncomputable def r16_27 : {l : List Oper // opsOf (cAt [1, 1, 0, 1, 0, 0, 1, 1, 0, 0, 1, 0] B16) = l} := by
  apply Subtype.mk
  dsimp only [opsOf, cAt, kids, B16, bodyOf, Try.f16, List.getD, List.getElem?_cons_zero, List.getElem?_cons_succ, Option.getD_some]
@[simp] theorem n16_27 (s : List V) (H : Heap) : evCode P Γ call n f m (cAt [1, 1, 0, 1, 0, 0, 1, 1, 0, 0, 1, 0] B16) s H = regNext (drawR P Γ call r16_27.1 [([1, 4, 5, 6, 7], [17, 20, 21, 22, 23]), ([0, 4, 5, 6, 7], [16, 20, 21, 22, 23]), ([4, 5, 6, 7], [20, 21, 22, 23]), ([4, 5, 6, 7], [20, 21, 22, 23]), ([0, 1, 2, 3, 5], [16, 17, 18, 19, 21]), ([0, 1, 2, 3, 4], [16, 17, 18, 19, 20]), ([0, 1, 2, 3], [16, 17, 18, 19]), ([0, 1, 2, 3], [16, 17, 18, 19]), ([], [])] s H) := at_drawT (by kernel_rfl) r16_27.2 (by kernel_rfl) s H
attribute [simp] r16_27
@[simp] theorem n16_28 (s : List V) (H : Heap) : evCode P Γ call n f m (cAt [1, 1, 0, 1, 0, 0, 1, 1, 0, 0, 1, 1] B16) s H = condW P Γ call n f m (cAt [1, 1, 0, 1, 0, 0, 1, 1, 0, 0, 1, 1, 0] B16) (cAt [1, 1, 0, 1, 0, 0, 1, 1, 0, 0, 1, 1, 1] B16) s H (evOperand Γ s (.tmp 24)) := at_cond (by kernel_rfl) (by kernel_rfl) rfl rfl s H
@[simp] theorem n16_29 (s : List V) (H : Heap) : evCode P Γ call n f m (cAt [1, 1, 0, 1, 0, 0, 1, 1, 0, 0, 1, 1, 0] B16) s H = seqNext P Γ call n f m (cAt [1, 1, 0, 1, 0, 0, 1, 1, 0, 0, 1, 1, 0, 1] B16) (evCode P Γ call n f m (cAt [1, 1, 0, 1, 0, 0, 1, 1, 0, 0, 1, 1, 0, 0] B16) s H) := at_seq (by kernel_rfl) rfl rfl s H
noncomputable def r16_30 : {l : List Oper // opsOf (cAt [1, 1, 0, 1, 0, 0, 1, 1, 0, 0, 1, 1, 0, 0] B16) = l} := by
  apply Subtype.mk
  dsimp only [opsOf, cAt, kids, B16, bodyOf, Try.f16, List.getD, List.getElem?_cons_zero, List.getElem?_cons_succ, Option.getD_some]
@[simp] theorem n16_30 (s : List V) (H : Heap) : evCode P Γ call n f m (cAt [1, 1, 0, 1, 0, 0, 1, 1, 0, 0, 1, 1, 0, 0] B16) s H = regNext (evOpsGo P Γ call r16_30.1 r16_30.1 s H) := at_region (by kernel_rfl) r16_30.2 s H
attribute [simp] r16_30
@[simp] theorem n16_31 (s : List V) (H : Heap) : evCode P Γ call n f m (cAt [1, 1, 0, 1, 0, 0, 1, 1, 0, 0, 1, 1, 0, 1] B16) s H = some (.ret, s, H) := at_ret (by kernel_rfl) s H
@[simp] theorem n16_32 (s : List V) (H : Heap) : evCode P Γ call n f m (cAt [1, 1, 0, 1, 0, 0, 1, 1, 0, 0, 1, 1, 1] B16) s H = some (.normal, s, H) := at_skip (by kernel_rfl) s H
noncomputable def r16_33 : {l : List Oper // opsOf (cAt [1, 1, 0, 1, 0, 0, 1, 1, 1] B16) = l} := by
  apply Subtype.mk
  dsimp only [opsOf, cAt, kids, B16, bodyOf, Try.f16, List.getD, List.getElem?_cons_zero, List.getElem?_cons_succ, Option.getD_some]
@[simp] theorem n16_33 (s : List V) (H : Heap) : evCode P Γ call n f m (cAt [1, 1, 0, 1, 0, 0, 1, 1, 1] B16) s H = regNext (evOpsGo P Γ call r16_33.1 r16_33.1 s H) := at_region (by kernel_rfl) r16_33.2 s H
attribute [simp] r16_33
@[simp] theorem n16_34 (s : List V) (H : Heap) : evCode P Γ call n f m (cAt [1, 1, 1] B16) s H = seqNext P Γ call n f m (cAt [1, 1, 1, 1] B16) (evCode P Γ call n f m (cAt [1, 1, 1, 0] B16) s H) := at_seq (by kernel_rfl) rfl rfl s H
noncomputable def r16_35 : {l : List Oper // opsOf (cAt [1, 1, 1, 0] B16) = l} := by
  apply Subtype.mk
  dsimp only [opsOf, cAt, kids, B16, bodyOf, Try.f16, List.getD, List.getElem?_cons_zero, List.getElem?_cons_succ, Option.getD_some]
@[simp] theorem n16_35 (s : List V) (H : Heap) : evCode P Γ call n f m (cAt [1, 1, 1, 0] B16) s H = regNext (evOpsGo P Γ call r16_35.1 r16_35.1 s H) := at_region (by kernel_rfl) r16_35.2 s H
attribute [simp] r16_35
@[simp] theorem n16_36 (s : List V) (H : Heap) : evCode P Γ call n f m (cAt [1, 1, 1, 1] B16) s H = some (.ret, s, H) := at_ret (by kernel_rfl) s H
theorem b16 {k : Nat} (ho : ∀ args H, Γ.orc 16 args H = none) (args : List V) (H : Heap) (ha : args.length ≤ 26) : evF Try.prog Γ (k + 1) 16 args H = bodyEnd Try.prog [.tmp 4] H.length (evCode Try.prog Γ (evF Try.prog Γ k) k 16 H.length (cAt [] B16) (mkL 26 V.undef (enumV 0 args)) H) := body_at Try.func16 (by decide) rfl ho rfl rfl args H ha
noncomputable def B4 : Code := bodyOf Try.f4
@[simp] theorem n4_1 (s : List V) (H : Heap) : evCode P Γ call n f m (cAt [] B4) s H = seqNext P Γ call n f m (cAt [1] B4) (evCode P Γ call n f m (cAt [0] B4) s H) := at_seq (by kernel_rfl) rfl rfl s H
noncomputable def r4_2 : {l : List Oper // opsOf (cAt [0] B4) = l} := by
  apply Subtype.mk
  dsimp only [opsOf, cAt, kids, B4, bodyOf, Try.f4, List.getD, List.getElem?_cons_zero, List.getElem?_cons_succ, Option.getD_some]
@[simp] theorem n4_2 (s : List V) (H : Heap) : evCode P Γ call n f m (cAt [0] B4) s H = regNext (evOpsGo P Γ call r4_2.1 r4_2.1 s H) := at_region (by kernel_rfl) r4_2.2 s H
attribute [simp] r4_2
@[simp] theorem n4_3 (s : List V) (H : Heap) : evCode P Γ call n f m (cAt [1] B4) s H = seqNext P Γ call n f m (cAt [1, 1] B4) (evCode P Γ call n f m (cAt [1, 0] B4) s H) := at_seq (by kernel_rfl) rfl rfl s H
noncomputable def r4_4 : {l : List Oper // opsOf (cAt [1, 0] B4) = l} := by
  apply Subtype.mk
  dsimp only [opsOf, cAt, kids, B4, bodyOf, Try.f4, List.getD, List.getElem?_cons_zero, List.getElem?_cons_succ, Option.getD_some]
@[simp] theorem n4_4 (s : List V) (H : Heap) : evCode P Γ call n f m (cAt [1, 0] B4) s H = regNext (evOpsGo P Γ call r4_4.1 r4_4.1 s H) := at_region (by kernel_rfl) r4_4.2 s H
attribute [simp] r4_4
@[simp] theorem n4_5 (s : List V) (H : Heap) : evCode P Γ call n f m (cAt [1, 1] B4) s H = seqNext P Γ call n f m (cAt [1, 1, 1] B4) (evCode P Γ call n f m (cAt [1, 1, 0] B4) s H) := at_seq (by kernel_rfl) rfl rfl s H
@[simp] theorem n4_6 (s : List V) (H : Heap) : evCode P Γ call n f m (cAt [1, 1, 0] B4) s H = seqNext P Γ call n f m (cAt [1, 1, 0, 1] B4) (evCode P Γ call n f m (cAt [1, 1, 0, 0] B4) s H) := at_seq (by kernel_rfl) rfl rfl s H
noncomputable def r4_7 : {l : List Oper // opsOf (cAt [1, 1, 0, 0] B4) = l} := by
  apply Subtype.mk
  dsimp only [opsOf, cAt, kids, B4, bodyOf, Try.f4, List.getD, List.getElem?_cons_zero, List.getElem?_cons_succ, Option.getD_some]
@[simp] theorem n4_7 (s : List V) (H : Heap) : evCode P Γ call n f m (cAt [1, 1, 0, 0] B4) s H = regNext (evOpsGo P Γ call r4_7.1 r4_7.1 s H) := at_region (by kernel_rfl) r4_7.2 s H
attribute [simp] r4_7
@[simp] theorem n4_8 (s : List V) (H : Heap) : evCode P Γ call n f m (cAt [1, 1, 0, 1] B4) s H = seqNext P Γ call n f m (cAt [1, 1, 0, 1, 1] B4) (evCode P Γ call n f m (cAt [1, 1, 0, 1, 0] B4) s H) := at_seq (by kernel_rfl) rfl rfl s H
noncomputable def r4_9 : {l : List Oper // opsOf (cAt [1, 1, 0, 1, 0] B4) = l} := by
  apply Subtype.mk
  dsimp only [opsOf, cAt, kids, B4, bodyOf, Try.f4, List.getD, List.getElem?_cons_zero, List.getElem?_cons_succ, Option.getD_some]
@[simp] theorem n4_9 (s : List V) (H : Heap) : evCode P Γ call n f m (cAt [1, 1, 0, 1, 0] B4) s H = regNext (evOpsGo P Γ call r4_9.1 r4_9.1 s H) := at_region (by kernel_rfl) r4_9.2 s H
attribute [simp] r4_9
@[simp] theorem n4_10 (s : List V) (H : Heap) : evCode P Γ call n f m (cAt [1, 1, 0, 1, 1] B4) s H = condW P Γ call n f m (cAt [1, 1, 0, 1, 1, 0] B4) (cAt [1, 1, 0, 1, 1, 1] B4) s H (evOperand Γ s (.tmp 20)) := at_cond (by kernel_rfl) (by kernel_rfl) rfl rfl s H
@[simp] theorem n4_11 (s : List V) (H : Heap) : evCode P Γ call n f m (cAt [1, 1, 0, 1, 1, 0] B4) s H = seqNext P Γ call n f m (cAt [1, 1, 0, 1, 1, 0, 1] B4) (evCode P Γ call n f m (cAt [1, 1, 0, 1, 1, 0, 0] B4) s H) := at_seq (by kernel_rfl) rfl rfl s H
noncomputable def r4_12 : {l : List Oper // opsOf (cAt [1, 1, 0, 1, 1, 0, 0] B4) = l} := by
  apply Subtype.mk
  dsimp only [opsOf, cAt, kids, B4, bodyOf, Try.f4, List.getD, List.getElem?_cons_zero, List.getElem?_cons_succ, Option.getD_some]
@[simp] theorem n4_12 (s : List V) (H : Heap) : evCode P Γ call n f m (cAt [1, 1, 0, 1, 1, 0, 0] B4) s H = regNext (evOpsGo P Γ call r4_12.1 r4_12.1 s H) := at_region (by kernel_rfl) r4_12.2 s H
attribute [simp] r4_12
@[simp] theorem n4_13 (s : List V) (H : Heap) : evCode P Γ call n f m (cAt [1, 1, 0, 1, 1, 0, 1] B4) s H = some (.ret, s, H) := at_ret (by kernel_rfl) s H
@[simp] theorem n4_14 (s : List V) (H : Heap) : evCode P Γ call n f m (cAt [1, 1, 0, 1, 1, 1] B4) s H = some (.normal, s, H) := at_skip (by kernel_rfl) s H
@[simp] theorem n4_15 (s : List V) (H : Heap) : evCode P Γ call n f m (cAt [1, 1, 1] B4) s H = seqNext P Γ call n f m (cAt [1, 1, 1, 1] B4) (evCode P Γ call n f m (cAt [1, 1, 1, 0] B4) s H) := at_seq (by kernel_rfl) rfl rfl s H
@[simp] theorem n4_16 (s : List V) (H : Heap) : evCode P Γ call n f m (cAt [1, 1, 1, 0] B4) s H = seqNext P Γ call n f m (cAt [1, 1, 1, 0, 1] B4) (evCode P Γ call n f m (cAt [1, 1, 1, 0, 0] B4) s H) := at_seq (by kernel_rfl) rfl rfl s H
noncomputable def r4_17 : {l : List Oper // opsOf (cAt [1, 1, 1, 0, 0] B4) = l} := by
  apply Subtype.mk
  dsimp only [opsOf, cAt, kids, B4, bodyOf, Try.f4, List.getD, List.getElem?_cons_zero, List.getElem?_cons_succ, Option.getD_some]
@[simp] theorem n4_17 (s : List V) (H : Heap) : evCode P Γ call n f m (cAt [1, 1, 1, 0, 0] B4) s H = regNext (evOpsGo P Γ call r4_17.1 r4_17.1 s H) := at_region (by kernel_rfl) r4_17.2 s H
attribute [simp] r4_17
@[simp] theorem n4_18 (s : List V) (H : Heap) : evCode P Γ call n f m (cAt [1, 1, 1, 0, 1] B4) s H = seqNext P Γ call n f m (cAt [1, 1, 1, 0, 1, 1] B4) (evCode P Γ call n f m (cAt [1, 1, 1, 0, 1, 0] B4) s H) := at_seq (by kernel_rfl) rfl rfl s H
noncomputable def r4_19 : {l : List Oper // opsOf (cAt [1, 1, 1, 0, 1, 0] B4) = l} := by
  apply Subtype.mk
  dsimp only [opsOf, cAt, kids, B4, bodyOf, Try.f4, List.getD, List.getElem?_cons_zero, List.getElem?_cons_succ, Option.getD_some]
@[simp] theorem n4_19 (s : List V) (H : Heap) : evCode P Γ call n f m (cAt [1, 1, 1, 0, 1, 0] B4) s H = regNext (evOpsGo P Γ call r4_19.1 r4_19.1 s H) := at_region (by kernel_rfl) r4_19.2 s H
attribute [simp] r4_19
@[simp] theorem n4_20 (s : List V) (H : Heap) : evCode P Γ call n f m (cAt [1, 1, 1, 0, 1, 1] B4) s H = condW P Γ call n f m (cAt [1, 1, 1, 0, 1, 1, 0] B4) (cAt [1, 1, 1, 0, 1, 1, 1] B4) s H (evOperand Γ s (.tmp 38)) := at_cond (by kernel_rfl) (by kernel_rfl) rfl rfl s H
@[simp] theorem n4_21 (s : List V) (H : Heap) : evCode P Γ call n f m (cAt [1, 1, 1, 0, 1, 1, 0] B4) s H = seqNext P Γ call n f m (cAt [1, 1, 1, 0, 1, 1, 0, 1] B4) (evCode P Γ call n f m (cAt [1, 1, 1, 0, 1, 1, 0, 0] B4) s H) := at_seq (by kernel_rfl) rfl rfl s H
noncomputable def r4_22 : {l : List Oper // opsOf (cAt [1, 1, 1, 0, 1, 1, 0, 0] B4) = l} := by
  apply Subtype.mk
  dsimp only [opsOf, cAt, kids, B4, bodyOf, Try.f4, List.getD, List.getElem?_cons_zero, List.getElem?_cons_succ, Option.getD_some]
@[simp] theorem n4_22 (s : List V) (H : Heap) : evCode P Γ call n f m (cAt [1, 1, 1, 0, 1, 1, 0, 0] B4) s H = regNext (evOpsGo P Γ call r4_22.1 r4_22.1 s H) := at_region (by kernel_rfl) r4_22.2 s H
attribute [simp] r4_22
@[simp] theorem n4_23 (s : List V) (H : Heap) : evCode P Γ call n f m (cAt [1, 1, 1, 0, 1, 1, 0, 1] B4) s H = some (.ret, s, H) := at_ret (by kernel_rfl) s H
@[simp] theorem n4_24 (s : List V) (H : Heap) : evCode P Γ call n f m (cAt [1, 1, 1, 0, 1, 1, 1] B4) s H = some (.normal, s, H) := at_skip (by kernel_rfl) s H
@[simp] theorem n4_25 (s : List V) (H : Heap) : evCode P Γ call n f m (cAt [1, 1, 1, 1] B4) s H = seqNext P Γ call n f m (cAt [1, 1, 1, 1, 1] B4) (evCode P Γ call n f m (cAt [1, 1, 1, 1, 0] B4) s H) := at_seq (by kernel_rfl) rfl rfl s H
noncomputable def r4_26 : {l : List Oper // opsOf (cAt [1, 1, 1, 1, 0] B4) = l} := by
  apply Subtype.mk
  dsimp only [opsOf, cAt, kids, B4, bodyOf, Try.f4, List.getD, List.getElem?_cons_zero, List.getElem?_cons_succ, Option.getD_some]
@[simp] theorem n4_26 (s : List V) (H : Heap) : evCode P Γ call n f m (cAt [1, 1, 1, 1, 0] B4) s H = regNext (evOpsGo P Γ call r4_26.1 r4_26.1 s H) := at_region (by kernel_rfl) r4_26.2 s H
attribute [simp] r4_26
@[simp] theorem n4_27 (s : List V) (H : Heap) : evCode P Γ call n f m (cAt [1, 1, 1, 1, 1] B4) s H = some (.ret, s, H) := at_ret (by kernel_rfl) s H
theorem b4 {k : Nat} (ho : ∀ args H, Γ.orc 4 args H = none) (args : List V) (H : Heap) (ha : args.length ≤ 61) : evF Try.prog Γ (k + 1) 4 args H = bodyEnd Try.prog [.tmp 4] H.length (evCode Try.prog Γ (evF Try.prog Γ k) k 4 H.length (cAt [] B4) (mkL 61 V.undef (enumV 0 args)) H) := body_at Try.func4 (by decide) rfl ho rfl rfl args H ha
end
end Go.Ev.Try
