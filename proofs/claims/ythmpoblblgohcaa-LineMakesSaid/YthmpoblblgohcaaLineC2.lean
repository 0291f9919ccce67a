/-
  CODE BY NAMES, printed by wip/tools/codes.py (own work).
-/
import Derived.Test.YthmpoblblgohcaaLineG
set_option maxRecDepth 100000
set_option linter.unusedVariables false
namespace Go.Ev.Try
open Go Go.Ev Go.Proofs
section
variable {P : Program} {Γ : Env} {call : CallF} {n f m : Nat}

noncomputable def B6 : Code := bodyOf Try.f6
@[simp] theorem n6_1 (s : List V) (H : Heap) : evCode P Γ call n f m (cAt [] B6) s H = seqNext P Γ call n f m (cAt [1] B6) (evCode P Γ call n f m (cAt [0] B6) s H) := at_seq (by kernel_rfl) rfl rfl s H
noncomputable def r6_2 : {l : List Oper // opsOf (cAt [0] B6) = l} := by
  apply Subtype.mk
  dsimp only [opsOf, cAt, kids, B6, bodyOf, Try.f6, List.getD, List.getElem?_cons_zero, List.getElem?_cons_succ, Option.getD_some]
@[simp] theorem n6_2 (s : List V) (H : Heap) : evCode P Γ call n f m (cAt [0] B6) s H = regNext (evOpsGo P Γ call r6_2.1 r6_2.1 s H) := at_region (by kernel_rfl) r6_2.2 s H
attribute [simp] r6_2
@[simp] theorem n6_3 (s : List V) (H : Heap) : evCode P Γ call n f m (cAt [1] B6) s H = seqNext P Γ call n f m (cAt [1, 1] B6) (evCode P Γ call n f m (cAt [1, 0] B6) s H) := at_seq (by kernel_rfl) rfl rfl s H
noncomputable def r6_4 : {l : List Oper // opsOf (cAt [1, 0] B6) = l} := by
  apply Subtype.mk
  dsimp only [opsOf, cAt, kids, B6, bodyOf, Try.f6, List.getD, List.getElem?_cons_zero, List.getElem?_cons_succ, Option.getD_some]
@[simp] theorem n6_4 (s : List V) (H : Heap) : evCode P Γ call n f m (cAt [1, 0] B6) s H = regNext (evOpsGo P Γ call r6_4.1 r6_4.1 s H) := at_region (by kernel_rfl) r6_4.2 s H
attribute [simp] r6_4
@[simp] theorem n6_5 (s : List V) (H : Heap) : evCode P Γ call n f m (cAt [1, 1] B6) s H = seqNext P Γ call n f m (cAt [1, 1, 1] B6) (evCode P Γ call n f m (cAt [1, 1, 0] B6) s H) := at_seq (by kernel_rfl) rfl rfl s H
noncomputable def r6_6 : {l : List Oper // opsOf (cAt [1, 1, 0] B6) = l} := by
  apply Subtype.mk
  dsimp only [opsOf, cAt, kids, B6, bodyOf, Try.f6, List.getD, List.getElem?_cons_zero, List.getElem?_cons_succ, Option.getD_some]
@[simp] theorem n6_6 (s : List V) (H : Heap) : evCode P Γ call n f m (cAt [1, 1, 0] B6) s H = regNext (evOpsGo P Γ call r6_6.1 r6_6.1 s H) := at_region (by kernel_rfl) r6_6.2 s H
attribute [simp] r6_6
@[simp] theorem n6_7 (s : List V) (H : Heap) : evCode P Γ call n f m (cAt [1, 1, 1] B6) s H = seqNext P Γ call n f m (cAt [1, 1, 1, 1] B6) (evCode P Γ call n f m (cAt [1, 1, 1, 0] B6) s H) := at_seq (by kernel_rfl) rfl rfl s H
@[simp] theorem n6_8 (s : List V) (H : Heap) : evCode P Γ call n f m (cAt [1, 1, 1, 0] B6) s H = seqNext P Γ call n f m (cAt [1, 1, 1, 0, 1] B6) (evCode P Γ call n f m (cAt [1, 1, 1, 0, 0] B6) s H) := at_seq (by kernel_rfl) rfl rfl s H
noncomputable def r6_9 : {l : List Oper // opsOf (cAt [1, 1, 1, 0, 0] B6) = l} := by
  apply Subtype.mk
  dsimp only [opsOf, cAt, kids, B6, bodyOf, Try.f6, List.getD, List.getElem?_cons_zero, List.getElem?_cons_succ, Option.getD_some]
@[simp] theorem n6_9 (s : List V) (H : Heap) : evCode P Γ call n f m (cAt [1, 1, 1, 0, 0] B6) s H = regNext (evOpsGo P Γ call r6_9.1 r6_9.1 s H) := at_region (by kernel_rfl) r6_9.2 s H
attribute [simp] r6_9
@[simp] theorem n6_10 (s : List V) (H : Heap) : evCode P Γ call n f m (cAt [1, 1, 1, 0, 1] B6) s H = condW P Γ call n f m (cAt [1, 1, 1, 0, 1, 0] B6) (cAt [1, 1, 1, 0, 1, 1] B6) s H (evOperand Γ s (.tmp 44)) := at_cond (by kernel_rfl) (by kernel_rfl) rfl rfl s H
@[simp] theorem n6_11 (s : List V) (H : Heap) : evCode P Γ call n f m (cAt [1, 1, 1, 0, 1, 0] B6) s H = seqNext P Γ call n f m (cAt [1, 1, 1, 0, 1, 0, 1] B6) (evCode P Γ call n f m (cAt [1, 1, 1, 0, 1, 0, 0] B6) s H) := at_seq (by kernel_rfl) rfl rfl s H
noncomputable def r6_12 : {l : List Oper // opsOf (cAt [1, 1, 1, 0, 1, 0, 0] B6) = l} := by
  apply Subtype.mk
  dsimp only [opsOf, cAt, kids, B6, bodyOf, Try.f6, List.getD, List.getElem?_cons_zero, List.getElem?_cons_succ, Option.getD_some]
@[simp] theorem n6_12 (s : List V) (H : Heap) : evCode P Γ call n f m (cAt [1, 1, 1, 0, 1, 0, 0] B6) s H = regNext (evOpsGo P Γ call r6_12.1 r6_12.1 s H) := at_region (by kernel_rfl) r6_12.2 s H
attribute [simp] r6_12
@[simp] theorem n6_13 (s : List V) (H : Heap) : evCode P Γ call n f m (cAt [1, 1, 1, 0, 1, 0, 1] B6) s H = some (.ret, s, H) := at_ret (by kernel_rfl) s H
@[simp] theorem n6_14 (s : List V) (H : Heap) : evCode P Γ call n f m (cAt [1, 1, 1, 0, 1, 1] B6) s H = some (.normal, s, H) := at_skip (by kernel_rfl) s H
@[simp] theorem n6_15 (s : List V) (H : Heap) : evCode P Γ call n f m (cAt [1, 1, 1, 1] B6) s H = seqNext P Γ call n f m (cAt [1, 1, 1, 1, 1] B6) (evCode P Γ call n f m (cAt [1, 1, 1, 1, 0] B6) s H) := at_seq (by kernel_rfl) rfl rfl s H
@[simp] theorem n6_16 (s : List V) (H : Heap) : evCode P Γ call n f m (cAt [1, 1, 1, 1, 0] B6) s H = seqNext P Γ call n f m (cAt [1, 1, 1, 1, 0, 1] B6) (evCode P Γ call n f m (cAt [1, 1, 1, 1, 0, 0] B6) s H) := at_seq (by kernel_rfl) rfl rfl s H
noncomputable def r6_17 : {l : List Oper // opsOf (cAt [1, 1, 1, 1, 0, 0] B6) = l} := by
  apply Subtype.mk
  dsimp only [opsOf, cAt, kids, B6, bodyOf, Try.f6, List.getD, List.getElem?_cons_zero, List.getElem?_cons_succ, Option.getD_some]
@[simp] theorem n6_17 (s : List V) (H : Heap) : evCode P Γ call n f m (cAt [1, 1, 1, 1, 0, 0] B6) s H = regNext (evOpsGo P Γ call r6_17.1 r6_17.1 s H) := at_region (by kernel_rfl) r6_17.2 s H
attribute [simp] r6_17
@[simp] theorem n6_18 (s : List V) (H : Heap) : evCode P Γ call n f m (cAt [1, 1, 1, 1, 0, 1] B6) s H = blockNext 0 (evCode P Γ call n f m (cAt [1, 1, 1, 1, 0, 1, 0] B6) s H) := at_block (by kernel_rfl) rfl s H
@[simp] theorem n6_19 (s : List V) (H : Heap) : evCode P Γ call n f m (cAt [1, 1, 1, 1, 0, 1, 0] B6) s H = evLoopC P Γ call n f m (cAt [1, 1, 1, 1, 0, 1, 0, 0] B6) n s H := at_loop (by kernel_rfl) rfl s H
noncomputable abbrev L6_6 : Code := cAt [1, 1, 1, 1, 0, 1, 0, 0] B6
@[simp] theorem n6_19f : firstRegion (cAt [1, 1, 1, 1, 0, 1, 0, 0] B6) = 6 := by kernel_rfl
@[simp] theorem n6_20 (s : List V) (H : Heap) : evCode P Γ call n f m (cAt [1, 1, 1, 1, 0, 1, 0, 0] B6) s H = seqNext P Γ call n f m (cAt [1, 1, 1, 1, 0, 1, 0, 0, 1] B6) (evCode P Γ call n f m (cAt [1, 1, 1, 1, 0, 1, 0, 0, 0] B6) s H) := at_seq (by kernel_rfl) rfl rfl s H
noncomputable def r6_21 : {l : List Oper // opsOf (cAt [1, 1, 1, 1, 0, 1, 0, 0, 0] B6) = l} := by
  apply Subtype.mk
  dsimp only [opsOf, cAt, kids, B6, bodyOf, Try.f6, List.getD, List.getElem?_cons_zero, List.getElem?_cons_succ, Option.getD_some]
@[simp] theorem n6_21 (s : List V) (H : Heap) : evCode P Γ call n f m (cAt [1, 1, 1, 1, 0, 1, 0, 0, 0] B6) s H = regNext (evOpsGo P Γ call r6_21.1 r6_21.1 s H) := at_region (by kernel_rfl) r6_21.2 s H
attribute [simp] r6_21
@[simp] theorem n6_22 (s : List V) (H : Heap) : evCode P Γ call n f m (cAt [1, 1, 1, 1, 0, 1, 0, 0, 1] B6) s H = seqNext P Γ call n f m (cAt [1, 1, 1, 1, 0, 1, 0, 0, 1, 1] B6) (evCode P Γ call n f m (cAt [1, 1, 1, 1, 0, 1, 0, 0, 1, 0] B6) s H) := at_seq (by kernel_rfl) rfl rfl s H
@[simp] theorem n6_23 (s : List V) (H : Heap) : evCode P Γ call n f m (cAt [1, 1, 1, 1, 0, 1, 0, 0, 1, 0] B6) s H = condW P Γ call n f m (cAt [1, 1, 1, 1, 0, 1, 0, 0, 1, 0, 0] B6) (cAt [1, 1, 1, 1, 0, 1, 0, 0, 1, 0, 1] B6) s H (evOperand Γ s (.tmp 48)) := at_cond (by kernel_rfl) (by kernel_rfl) rfl rfl s H
@[simp] theorem n6_24 (s : List V) (H : Heap) : evCode P Γ call n f m (cAt [1, 1, 1, 1, 0, 1, 0, 0, 1, 0, 0] B6) s H = some (.normal, s, H) := at_skip (by kernel_rfl) s H
@[simp] theorem n6_25 (s : List V) (H : Heap) : evCode P Γ call n f m (cAt [1, 1, 1, 1, 0, 1, 0, 0, 1, 0, 1] B6) s H = some (.exit 0, s, H) := at_exit (by kernel_rfl) s H
@[simp] theorem n6_26 (s : List V) (H : Heap) : evCode P Γ call n f m (cAt [1, 1, 1, 1, 0, 1, 0, 0, 1, 1] B6) s H = seqNext P Γ call n f m (cAt [1, 1, 1, 1, 0, 1, 0, 0, 1, 1, 1] B6) (evCode P Γ call n f m (cAt [1, 1, 1, 1, 0, 1, 0, 0, 1, 1, 0] B6) s H) := at_seq (by kernel_rfl) rfl rfl s H
@[simp] theorem n6_27 (s : List V) (H : Heap) : evCode P Γ call n f m (cAt [1, 1, 1, 1, 0, 1, 0, 0, 1, 1, 0] B6) s H = blockNext 1 (evCode P Γ call n f m (cAt [1, 1, 1, 1, 0, 1, 0, 0, 1, 1, 0, 0] B6) s H) := at_block (by kernel_rfl) rfl s H
@[simp] theorem n6_28 (s : List V) (H : Heap) : evCode P Γ call n f m (cAt [1, 1, 1, 1, 0, 1, 0, 0, 1, 1, 0, 0] B6) s H = seqNext P Γ call n f m (cAt [1, 1, 1, 1, 0, 1, 0, 0, 1, 1, 0, 0, 1] B6) (evCode P Γ call n f m (cAt [1, 1, 1, 1, 0, 1, 0, 0, 1, 1, 0, 0, 0] B6) s H) := at_seq (by kernel_rfl) rfl rfl s H
noncomputable def r6_29 : {l : List Oper // opsOf (cAt [1, 1, 1, 1, 0, 1, 0, 0, 1, 1, 0, 0, 0] B6) = l} := by
  apply Subtype.mk
  dsimp only [opsOf, cAt, kids, B6, bodyOf, Try.f6, List.getD, List.getElem?_cons_zero, List.getElem?_cons_succ, Option.getD_some]
@[simp] theorem n6_29 (s : List V) (H : Heap) : evCode P Γ call n f m (cAt [1, 1, 1, 1, 0, 1, 0, 0, 1, 1, 0, 0, 0] B6) s H = regNext (evOpsGo P Γ call r6_29.1 r6_29.1 s H) := at_region (by kernel_rfl) r6_29.2 s H
attribute [simp] r6_29
@[simp] theorem n6_30 (s : List V) (H : Heap) : evCode P Γ call n f m (cAt [1, 1, 1, 1, 0, 1, 0, 0, 1, 1, 0, 0, 1] B6) s H = seqNext P Γ call n f m (cAt [1, 1, 1, 1, 0, 1, 0, 0, 1, 1, 0, 0, 1, 1] B6) (evCode P Γ call n f m (cAt [1, 1, 1, 1, 0, 1, 0, 0, 1, 1, 0, 0, 1, 0] B6) s H) := at_seq (by kernel_rfl) rfl rfl s H
noncomputable def r6_31 : {l : List Oper // opsOf (cAt [1, 1, 1, 1, 0, 1, 0, 0, 1, 1, 0, 0, 1, 0] B6) = l} := by
  apply Subtype.mk
  dsimp only [opsOf, cAt, kids, B6, bodyOf, Try.f6, List.getD, List.getElem?_cons_zero, List.getElem?_cons_succ, Option.getD_some]
@[simp] theorem n6_31 (s : List V) (H : Heap) : evCode P Γ call n f m (cAt [1, 1, 1, 1, 0, 1, 0, 0, 1, 1, 0, 0, 1, 0] B6) s H = regNext (drawR P Γ call r6_31.1 [([1], [53]), ([0], [52]), ([], []), ([], []), ([], []), ([], []), ([], []), ([], []), ([9, 10, 14, 15], [61, 62, 66, 67]), ([8, 14, 15], [60, 66, 67]), ([8, 14, 15], [60, 66, 67]), ([14, 15], [66, 67]), ([14, 15], [66, 67]), ([14, 15], [66, 67]), ([8, 9, 10, 11, 12, 13], [60, 61, 62, 63, 64, 65]), ([8, 9, 10, 11, 12, 13], [60, 61, 62, 63, 64, 65]), ([], []), ([], []), ([], [])] s H) := at_drawT (by kernel_rfl) r6_31.2 (by kernel_rfl) s H
attribute [simp] r6_31
@[simp] theorem n6_32 (s : List V) (H : Heap) : evCode P Γ call n f m (cAt [1, 1, 1, 1, 0, 1, 0, 0, 1, 1, 0, 0, 1, 1] B6) s H = condW P Γ call n f m (cAt [1, 1, 1, 1, 0, 1, 0, 0, 1, 1, 0, 0, 1, 1, 0] B6) (cAt [1, 1, 1, 1, 0, 1, 0, 0, 1, 1, 0, 0, 1, 1, 1] B6) s H (evOperand Γ s (.tmp 70)) := at_cond (by kernel_rfl) (by kernel_rfl) rfl rfl s H
@[simp] theorem n6_33 (s : List V) (H : Heap) : evCode P Γ call n f m (cAt [1, 1, 1, 1, 0, 1, 0, 0, 1, 1, 0, 0, 1, 1, 0] B6) s H = seqNext P Γ call n f m (cAt [1, 1, 1, 1, 0, 1, 0, 0, 1, 1, 0, 0, 1, 1, 0, 1] B6) (evCode P Γ call n f m (cAt [1, 1, 1, 1, 0, 1, 0, 0, 1, 1, 0, 0, 1, 1, 0, 0] B6) s H) := at_seq (by kernel_rfl) rfl rfl s H
noncomputable def r6_34 : {l : List Oper // opsOf (cAt [1, 1, 1, 1, 0, 1, 0, 0, 1, 1, 0, 0, 1, 1, 0, 0] B6) = l} := by
  apply Subtype.mk
  dsimp only [opsOf, cAt, kids, B6, bodyOf, Try.f6, List.getD, List.getElem?_cons_zero, List.getElem?_cons_succ, Option.getD_some]
@[simp] theorem n6_34 (s : List V) (H : Heap) : evCode P Γ call n f m (cAt [1, 1, 1, 1, 0, 1, 0, 0, 1, 1, 0, 0, 1, 1, 0, 0] B6) s H = regNext (evOpsGo P Γ call r6_34.1 r6_34.1 s H) := at_region (by kernel_rfl) r6_34.2 s H
attribute [simp] r6_34
@[simp] theorem n6_35 (s : List V) (H : Heap) : evCode P Γ call n f m (cAt [1, 1, 1, 1, 0, 1, 0, 0, 1, 1, 0, 0, 1, 1, 0, 1] B6) s H = some (.ret, s, H) := at_ret (by kernel_rfl) s H
@[simp] theorem n6_36 (s : List V) (H : Heap) : evCode P Γ call n f m (cAt [1, 1, 1, 1, 0, 1, 0, 0, 1, 1, 0, 0, 1, 1, 1] B6) s H = some (.normal, s, H) := at_skip (by kernel_rfl) s H
noncomputable def r6_37 : {l : List Oper // opsOf (cAt [1, 1, 1, 1, 0, 1, 0, 0, 1, 1, 1] B6) = l} := by
  apply Subtype.mk
  dsimp only [opsOf, cAt, kids, B6, bodyOf, Try.f6, List.getD, List.getElem?_cons_zero, List.getElem?_cons_succ, Option.getD_some]
@[simp] theorem n6_37 (s : List V) (H : Heap) : evCode P Γ call n f m (cAt [1, 1, 1, 1, 0, 1, 0, 0, 1, 1, 1] B6) s H = regNext (evOpsGo P Γ call r6_37.1 r6_37.1 s H) := at_region (by kernel_rfl) r6_37.2 s H
attribute [simp] r6_37
@[simp] theorem n6_38 (s : List V) (H : Heap) : evCode P Γ call n f m (cAt [1, 1, 1, 1, 1] B6) s H = seqNext P Γ call n f m (cAt [1, 1, 1, 1, 1, 1] B6) (evCode P Γ call n f m (cAt [1, 1, 1, 1, 1, 0] B6) s H) := at_seq (by kernel_rfl) rfl rfl s H
noncomputable def r6_39 : {l : List Oper // opsOf (cAt [1, 1, 1, 1, 1, 0] B6) = l} := by
  apply Subtype.mk
  dsimp only [opsOf, cAt, kids, B6, bodyOf, Try.f6, List.getD, List.getElem?_cons_zero, List.getElem?_cons_succ, Option.getD_some]
@[simp] theorem n6_39 (s : List V) (H : Heap) : evCode P Γ call n f m (cAt [1, 1, 1, 1, 1, 0] B6) s H = regNext (evOpsGo P Γ call r6_39.1 r6_39.1 s H) := at_region (by kernel_rfl) r6_39.2 s H
attribute [simp] r6_39
@[simp] theorem n6_40 (s : List V) (H : Heap) : evCode P Γ call n f m (cAt [1, 1, 1, 1, 1, 1] B6) s H = seqNext P Γ call n f m (cAt [1, 1, 1, 1, 1, 1, 1] B6) (evCode P Γ call n f m (cAt [1, 1, 1, 1, 1, 1, 0] B6) s H) := at_seq (by kernel_rfl) rfl rfl s H
noncomputable def r6_41 : {l : List Oper // opsOf (cAt [1, 1, 1, 1, 1, 1, 0] B6) = l} := by
  apply Subtype.mk
  dsimp only [opsOf, cAt, kids, B6, bodyOf, Try.f6, List.getD, List.getElem?_cons_zero, List.getElem?_cons_succ, Option.getD_some]
@[simp] theorem n6_41 (s : List V) (H : Heap) : evCode P Γ call n f m (cAt [1, 1, 1, 1, 1, 1, 0] B6) s H = regNext (evOpsGo P Γ call r6_41.1 r6_41.1 s H) := at_region (by kernel_rfl) r6_41.2 s H
attribute [simp] r6_41
@[simp] theorem n6_42 (s : List V) (H : Heap) : evCode P Γ call n f m (cAt [1, 1, 1, 1, 1, 1, 1] B6) s H = seqNext P Γ call n f m (cAt [1, 1, 1, 1, 1, 1, 1, 1] B6) (evCode P Γ call n f m (cAt [1, 1, 1, 1, 1, 1, 1, 0] B6) s H) := at_seq (by kernel_rfl) rfl rfl s H
@[simp] theorem n6_43 (s : List V) (H : Heap) : evCode P Γ call n f m (cAt [1, 1, 1, 1, 1, 1, 1, 0] B6) s H = seqNext P Γ call n f m (cAt [1, 1, 1, 1, 1, 1, 1, 0, 1] B6) (evCode P Γ call n f m (cAt [1, 1, 1, 1, 1, 1, 1, 0, 0] B6) s H) := at_seq (by kernel_rfl) rfl rfl s H
noncomputable def r6_44 : {l : List Oper // opsOf (cAt [1, 1, 1, 1, 1, 1, 1, 0, 0] B6) = l} := by
  apply Subtype.mk
  dsimp only [opsOf, cAt, kids, B6, bodyOf, Try.f6, List.getD, List.getElem?_cons_zero, List.getElem?_cons_succ, Option.getD_some]
@[simp] theorem n6_44 (s : List V) (H : Heap) : evCode P Γ call n f m (cAt [1, 1, 1, 1, 1, 1, 1, 0, 0] B6) s H = regNext (evOpsGo P Γ call r6_44.1 r6_44.1 s H) := at_region (by kernel_rfl) r6_44.2 s H
attribute [simp] r6_44
@[simp] theorem n6_45 (s : List V) (H : Heap) : evCode P Γ call n f m (cAt [1, 1, 1, 1, 1, 1, 1, 0, 1] B6) s H = blockNext 2 (evCode P Γ call n f m (cAt [1, 1, 1, 1, 1, 1, 1, 0, 1, 0] B6) s H) := at_block (by kernel_rfl) rfl s H
@[simp] theorem n6_46 (s : List V) (H : Heap) : evCode P Γ call n f m (cAt [1, 1, 1, 1, 1, 1, 1, 0, 1, 0] B6) s H = evLoopC P Γ call n f m (cAt [1, 1, 1, 1, 1, 1, 1, 0, 1, 0, 0] B6) n s H := at_loop (by kernel_rfl) rfl s H
noncomputable abbrev L6_14 : Code := cAt [1, 1, 1, 1, 1, 1, 1, 0, 1, 0, 0] B6
@[simp] theorem n6_46f : firstRegion (cAt [1, 1, 1, 1, 1, 1, 1, 0, 1, 0, 0] B6) = 14 := by kernel_rfl
@[simp] theorem n6_47 (s : List V) (H : Heap) : evCode P Γ call n f m (cAt [1, 1, 1, 1, 1, 1, 1, 0, 1, 0, 0] B6) s H = seqNext P Γ call n f m (cAt [1, 1, 1, 1, 1, 1, 1, 0, 1, 0, 0, 1] B6) (evCode P Γ call n f m (cAt [1, 1, 1, 1, 1, 1, 1, 0, 1, 0, 0, 0] B6) s H) := at_seq (by kernel_rfl) rfl rfl s H
noncomputable def r6_48 : {l : List Oper // opsOf (cAt [1, 1, 1, 1, 1, 1, 1, 0, 1, 0, 0, 0] B6) = l} := by
  apply Subtype.mk
  dsimp only [opsOf, cAt, kids, B6, bodyOf, Try.f6, List.getD, List.getElem?_cons_zero, List.getElem?_cons_succ, Option.getD_some]
@[simp] theorem n6_48 (s : List V) (H : Heap) : evCode P Γ call n f m (cAt [1, 1, 1, 1, 1, 1, 1, 0, 1, 0, 0, 0] B6) s H = regNext (evOpsGo P Γ call r6_48.1 r6_48.1 s H) := at_region (by kernel_rfl) r6_48.2 s H
attribute [simp] r6_48
@[simp] theorem n6_49 (s : List V) (H : Heap) : evCode P Γ call n f m (cAt [1, 1, 1, 1, 1, 1, 1, 0, 1, 0, 0, 1] B6) s H = seqNext P Γ call n f m (cAt [1, 1, 1, 1, 1, 1, 1, 0, 1, 0, 0, 1, 1] B6) (evCode P Γ call n f m (cAt [1, 1, 1, 1, 1, 1, 1, 0, 1, 0, 0, 1, 0] B6) s H) := at_seq (by kernel_rfl) rfl rfl s H
@[simp] theorem n6_50 (s : List V) (H : Heap) : evCode P Γ call n f m (cAt [1, 1, 1, 1, 1, 1, 1, 0, 1, 0, 0, 1, 0] B6) s H = condW P Γ call n f m (cAt [1, 1, 1, 1, 1, 1, 1, 0, 1, 0, 0, 1, 0, 0] B6) (cAt [1, 1, 1, 1, 1, 1, 1, 0, 1, 0, 0, 1, 0, 1] B6) s H (evOperand Γ s (.tmp 78)) := at_cond (by kernel_rfl) (by kernel_rfl) rfl rfl s H
@[simp] theorem n6_51 (s : List V) (H : Heap) : evCode P Γ call n f m (cAt [1, 1, 1, 1, 1, 1, 1, 0, 1, 0, 0, 1, 0, 0] B6) s H = some (.normal, s, H) := at_skip (by kernel_rfl) s H
@[simp] theorem n6_52 (s : List V) (H : Heap) : evCode P Γ call n f m (cAt [1, 1, 1, 1, 1, 1, 1, 0, 1, 0, 0, 1, 0, 1] B6) s H = some (.exit 2, s, H) := at_exit (by kernel_rfl) s H
@[simp] theorem n6_53 (s : List V) (H : Heap) : evCode P Γ call n f m (cAt [1, 1, 1, 1, 1, 1, 1, 0, 1, 0, 0, 1, 1] B6) s H = seqNext P Γ call n f m (cAt [1, 1, 1, 1, 1, 1, 1, 0, 1, 0, 0, 1, 1, 1] B6) (evCode P Γ call n f m (cAt [1, 1, 1, 1, 1, 1, 1, 0, 1, 0, 0, 1, 1, 0] B6) s H) := at_seq (by kernel_rfl) rfl rfl s H
@[simp] theorem n6_54 (s : List V) (H : Heap) : evCode P Γ call n f m (cAt [1, 1, 1, 1, 1, 1, 1, 0, 1, 0, 0, 1, 1, 0] B6) s H = blockNext 3 (evCode P Γ call n f m (cAt [1, 1, 1, 1, 1, 1, 1, 0, 1, 0, 0, 1, 1, 0, 0] B6) s H) := at_block (by kernel_rfl) rfl s H
@[simp] theorem n6_55 (s : List V) (H : Heap) : evCode P Γ call n f m (cAt [1, 1, 1, 1, 1, 1, 1, 0, 1, 0, 0, 1, 1, 0, 0] B6) s H = seqNext P Γ call n f m (cAt [1, 1, 1, 1, 1, 1, 1, 0, 1, 0, 0, 1, 1, 0, 0, 1] B6) (evCode P Γ call n f m (cAt [1, 1, 1, 1, 1, 1, 1, 0, 1, 0, 0, 1, 1, 0, 0, 0] B6) s H) := at_seq (by kernel_rfl) rfl rfl s H
noncomputable def r6_56 : {l : List Oper // opsOf (cAt [1, 1, 1, 1, 1, 1, 1, 0, 1, 0, 0, 1, 1, 0, 0, 0] B6) = l} := by
  apply Subtype.mk
  dsimp only [opsOf, cAt, kids, B6, bodyOf, Try.f6, List.getD, List.getElem?_cons_zero, List.getElem?_cons_succ, Option.getD_some]
@[simp] theorem n6_56 (s : List V) (H : Heap) : evCode P Γ call n f m (cAt [1, 1, 1, 1, 1, 1, 1, 0, 1, 0, 0, 1, 1, 0, 0, 0] B6) s H = regNext (evOpsGo P Γ call r6_56.1 r6_56.1 s H) := at_region (by kernel_rfl) r6_56.2 s H
attribute [simp] r6_56
@[simp] theorem n6_57 (s : List V) (H : Heap) : evCode P Γ call n f m (cAt [1, 1, 1, 1, 1, 1, 1, 0, 1, 0, 0, 1, 1, 0, 0, 1] B6) s H = seqNext P Γ call n f m (cAt [1, 1, 1, 1, 1, 1, 1, 0, 1, 0, 0, 1, 1, 0, 0, 1, 1] B6) (evCode P Γ call n f m (cAt [1, 1, 1, 1, 1, 1, 1, 0, 1, 0, 0, 1, 1, 0, 0, 1, 0] B6) s H) := at_seq (by kernel_rfl) rfl rfl s H
noncomputable def r6_58 : {l : List Oper // opsOf (cAt [1, 1, 1, 1, 1, 1, 1, 0, 1, 0, 0, 1, 1, 0, 0, 1, 0] B6) = l} := by
  apply Subtype.mk
  dsimp only [opsOf, cAt, kids, B6, bodyOf, Try.f6, List.getD, List.getElem?_cons_zero, List.getElem?_cons_succ, Option.getD_some]
@[simp] theorem n6_58 (s : List V) (H : Heap) : evCode P Γ call n f m (cAt [1, 1, 1, 1, 1, 1, 1, 0, 1, 0, 0, 1, 1, 0, 0, 1, 0] B6) s H = regNext (evOpsGo P Γ call r6_58.1 r6_58.1 s H) := at_region (by kernel_rfl) r6_58.2 s H
attribute [simp] r6_58
@[simp] theorem n6_59 (s : List V) (H : Heap) : evCode P Γ call n f m (cAt [1, 1, 1, 1, 1, 1, 1, 0, 1, 0, 0, 1, 1, 0, 0, 1, 1] B6) s H = condW P Γ call n f m (cAt [1, 1, 1, 1, 1, 1, 1, 0, 1, 0, 0, 1, 1, 0, 0, 1, 1, 0] B6) (cAt [1, 1, 1, 1, 1, 1, 1, 0, 1, 0, 0, 1, 1, 0, 0, 1, 1, 1] B6) s H (evOperand Γ s (.tmp 89)) := at_cond (by kernel_rfl) (by kernel_rfl) rfl rfl s H
noncomputable def r6_60 : {l : List Oper // opsOf (cAt [1, 1, 1, 1, 1, 1, 1, 0, 1, 0, 0, 1, 1, 0, 0, 1, 1, 0] B6) = l} := by
  apply Subtype.mk
  dsimp only [opsOf, cAt, kids, B6, bodyOf, Try.f6, List.getD, List.getElem?_cons_zero, List.getElem?_cons_succ, Option.getD_some]
@[simp] theorem n6_60 (s : List V) (H : Heap) : evCode P Γ call n f m (cAt [1, 1, 1, 1, 1, 1, 1, 0, 1, 0, 0, 1, 1, 0, 0, 1, 1, 0] B6) s H = regNext (evOpsGo P Γ call r6_60.1 r6_60.1 s H) := at_region (by kernel_rfl) r6_60.2 s H
attribute [simp] r6_60
@[simp] theorem n6_61 (s : List V) (H : Heap) : evCode P Γ call n f m (cAt [1, 1, 1, 1, 1, 1, 1, 0, 1, 0, 0, 1, 1, 0, 0, 1, 1, 1] B6) s H = some (.normal, s, H) := at_skip (by kernel_rfl) s H
noncomputable def r6_62 : {l : List Oper // opsOf (cAt [1, 1, 1, 1, 1, 1, 1, 0, 1, 0, 0, 1, 1, 1] B6) = l} := by
  apply Subtype.mk
  dsimp only [opsOf, cAt, kids, B6, bodyOf, Try.f6, List.getD, List.getElem?_cons_zero, List.getElem?_cons_succ, Option.getD_some]
@[simp] theorem n6_62 (s : List V) (H : Heap) : evCode P Γ call n f m (cAt [1, 1, 1, 1, 1, 1, 1, 0, 1, 0, 0, 1, 1, 1] B6) s H = regNext (evOpsGo P Γ call r6_62.1 r6_62.1 s H) := at_region (by kernel_rfl) r6_62.2 s H
attribute [simp] r6_62
@[simp] theorem n6_63 (s : List V) (H : Heap) : evCode P Γ call n f m (cAt [1, 1, 1, 1, 1, 1, 1, 1] B6) s H = seqNext P Γ call n f m (cAt [1, 1, 1, 1, 1, 1, 1, 1, 1] B6) (evCode P Γ call n f m (cAt [1, 1, 1, 1, 1, 1, 1, 1, 0] B6) s H) := at_seq (by kernel_rfl) rfl rfl s H
noncomputable def r6_64 : {l : List Oper // opsOf (cAt [1, 1, 1, 1, 1, 1, 1, 1, 0] B6) = l} := by
  apply Subtype.mk
  dsimp only [opsOf, cAt, kids, B6, bodyOf, Try.f6, List.getD, List.getElem?_cons_zero, List.getElem?_cons_succ, Option.getD_some]
@[simp] theorem n6_64 (s : List V) (H : Heap) : evCode P Γ call n f m (cAt [1, 1, 1, 1, 1, 1, 1, 1, 0] B6) s H = regNext (evOpsGo P Γ call r6_64.1 r6_64.1 s H) := at_region (by kernel_rfl) r6_64.2 s H
attribute [simp] r6_64
@[simp] theorem n6_65 (s : List V) (H : Heap) : evCode P Γ call n f m (cAt [1, 1, 1, 1, 1, 1, 1, 1, 1] B6) s H = some (.ret, s, H) := at_ret (by kernel_rfl) s H
theorem b6 {k : Nat} (ho : ∀ args H, Γ.orc 6 args H = none) (args : List V) (H : Heap) (ha : args.length ≤ 100) : evF Try.prog Γ (k + 1) 6 args H = bodyEnd Try.prog [.tmp 4] H.length (evCode Try.prog Γ (evF Try.prog Γ k) k 6 H.length (cAt [] B6) (mkL 100 V.undef (enumV 0 args)) H) := body_at Try.func6 (by decide) rfl ho rfl rfl args H ha
end
end Go.Ev.Try
