/-
  CODE BY NAMES, printed by wip/tools/codes.py (own work).
-/
import Derived.Test.YthmpoblblgohcaaLineG
set_option maxRecDepth 100000
set_option linter.unusedVariables false
namespace Go.Ev.Try
open Go Go.Ev Go.Proofs
section
variable {P : Program} {Γ : Env} {call : CallF} {n f m : Nat}

noncomputable def B6 : Code := bodyOf Try.f6
@[simp] theorem n6_1 (s : List V) (H : Heap) : evCode P Γ call n f m (cAt [] B6) s H = seqNext P Γ call n f m (cAt [1] B6) (evCode P Γ call n f m (cAt [0] B6) s H) := at_seq (by kernel_rfl) rfl rfl s H
noncomputable def r6_2 : {l : List Oper // opsOf (cAt [0] B6) = l} := by
  apply Subtype.mk
  dsimp only [opsOf, cAt, kids, B6, bodyOf, Try.f6, List.getD, List.getElem?_cons_zero, List.getElem?_cons_succ, Option.getD_some]
@[simp] theorem n6_2 (s : List V) (H : Heap) : evCode P Γ call n f m (cAt [0] B6) s H = regNext (evOpsGo P Γ call r6_2.1 r6_2.1 s H) := at_region (by kernel_rfl) r6_2.2 s H
attribute [simp] r6_2
@[simp] theorem n6_3 (s : List V) (H : Heap) : evCode P Γ call n f m (cAt [1] B6) s H = seqNext P Γ call n f m (cAt [1, 1] B6) (evCode P Γ call n f m (cAt [1, 0] B6) s H) := at_seq (by kernel_rfl) rfl rfl s H
noncomputable def r6_4 : {l : List Oper // opsOf (cAt [1, 0] B6) = l} := by
  apply Subtype.mk
  dsimp only [opsOf, cAt, kids, B6, bodyOf, Try.f6, List.getD, List.getElem?_cons_zero, List.getElem?_cons_succ, Option.getD_some]
@[simp] theorem n6_4 (s : List V) (H : Heap) : evCode P Γ call n f m (cAt [1, 0] B6) s H = regNext (evOpsGo P Γ call r6_4.1 r6_4.1 s H) := at_region (by kernel_rfl) r6_4.2 s H
attribute [simp] r6_4
@[simp] theorem n6_5 (s : List V) (H : Heap) : evCode P Γ call n f m (cAt [1, 1] B6) s H = seqNext P Γ call n f m (cAt [1, 1, 1] B6) (evCode P Γ call n f m (cAt [1, 1, 0] B6) s H) := at_seq (by kernel_rfl) rfl rfl s H
noncomputable def r6_6 : {l : List Oper // opsOf (cAt [1, 1, 0] B6) = l} := by
  apply Subtype.mk
  dsimp only [opsOf, cAt, kids, B6, bodyOf, Try.f6, List.getD, List.getElem?_cons_zero, List.getElem?_cons_succ, Option.getD_some]
@[simp] theorem n6_6 (s : List V) (H : Heap) : evCode P Γ call n f m (cAt [1, 1, 0] B6) s H = regNext (evOpsGo P Γ call r6_6.1 r6_6.1 s H) := at_region (by kernel_rfl) r6_6.2 s H
attribute [simp] r6_6
@[simp] theorem n6_7 (s : List V) (H : Heap) : evCode P Γ call n f m (cAt [1, 1, 1] B6) s H = seqNext P Γ call n f m (cAt [1, 1, 1, 1] B6) (evCode P Γ call n f m (cAt [1, 1, 1, 0] B6) s H) := at_seq (by kernel_rfl) rfl rfl s H
@[simp] theorem n6_8 (s : List V) (H : Heap) : evCode P Γ call n f m (cAt [1, 1, 1, 0] B6) s H = seqNext P Γ call n f m (cAt [1, 1, 1, 0, 1] B6) (evCode P Γ call n f m (cAt [1, 1, 1, 0, 0] B6) s H) := at_seq (by kernel_rfl) rfl rfl s H
noncomputable def r6_9 : {l : List Oper // opsOf (cAt [1, 1, 1, 0, 0] B6) = l} := by
  apply Subtype.mk
  dsimp only [opsOf, cAt, kids, B6, bodyOf, Try.f6, List.getD, List.getElem?_cons_zero, List.getElem?_cons_succ, Option.getD_some]
@[simp] theorem n6_9 (s : List V) (H : Heap) : evCode P Γ call n f m (cAt [1, 1, 1, 0, 0] B6) s H = regNext (evOpsGo P Γ call r6_9.1 r6_9.1 s H) := at_region (by kernel_rfl) r6_9.2 s H
attribute [simp] r6_9
@[simp] theorem n6_10 (s : List V) (H : Heap) : evCode P Γ call n f m (cAt [1, 1, 1, 0, 1] B6) s H = condW P Γ call n f m (cAt [1, 1, 1, 0, 1, 0] B6) (cAt [1, 1, 1, 0, 1, 1] B6) s H (evOperand Γ s (.tmp 44)) := at_cond (by kernel_rfl) (by kernel_rfl) rfl rfl s H
@[simp] theorem n6_11 (s : List V) (H : Heap) : evCode P Γ call n f m (cAt [1, 1, 1, 0, 1, 0] B6) s H = seqNext P Γ call n f m (cAt [1, 1, 1, 0, 1, 0, 1] B6) (evCode P Γ call n f m (cAt [1, 1, 1, 0, 1, 0, 0] B6) s H) := at_seq (by kernel_rfl) rfl rfl s H
noncomputable def r6_12 : {l : List Oper // opsOf (cAt [1, 1, 1, 0, 1, 0, 0] B6) = l} := by
  apply Subtype.mk
  dsimp only [opsOf, cAt, kids, B6, bodyOf, Try.f6, List.getD, List.getElem?_cons_zero, List.getElem?_cons_succ, Option.getD_some]
@[simp] theorem n6_12 (s : List V) (H : Heap) : evCode P Γ call n f m (cAt [1, 1, 1, 0, 1, 0, 0] B6) s H = regNext (evOpsGo P Γ call r6_12.1 r6_12.1 s H) := at_region (by kernel_rfl) r6_12.2 s H
attribute [simp] r6_12
@[simp] theorem n6_13 (s : List V) (H : Heap) : evCode P Γ call n f m (cAt [1, 1, 1, 0, 1, 0, 1] B6) s H = some (.ret, s, H) := at_ret (by kernel_rfl) s H
@[simp] theorem n6_14 (s : List V) (H : Heap) : evCode P Γ call n f m (cAt [1, 1, 1, 0, 1, 1] B6) s H = some (.normal, s, H) := at_skip (by kernel_rfl) s H
@[simp] theorem n6_15 (s : List V) (H : Heap) : evCode P Γ call n f m (cAt [1, 1, 1, 1] B6) s H = seqNext P Γ call n f m (cAt [1, 1, 1, 1, 1] B6) (evCode P Γ call n f m (cAt [1, 1, 1, 1, 0] B6) s H) := at_seq (by kernel_rfl) rfl rfl s H
@[simp] theorem n6_16 (s : List V) (H : Heap) : evCode P Γ call n f m (cAt [1, 1, 1, 1, 0] B6) s H = seqNext P Γ call n f m (cAt [1, 1, 1, 1, 0, 1] B6) (evCode P Γ call n f m (cAt [1, 1, 1, 1, 0, 0] B6) s H) := at_seq (by kernel_rfl) rfl rfl s H
noncomputable def r6_17 : {l : List Oper // opsOf (cAt [1, 1, 1, 1, 0, 0] B6) = l} := by
  apply Subtype.mk
  dsimp only [opsOf, cAt, kids, B6, bodyOf, Try.f6, List.getD, List.getElem?_cons_zero, List.getElem?_cons_succ, Option.getD_some]
@[simp] theorem n6_17 (s : List V) (H : Heap) : evCode P Γ call n f m (cAt [1, 1, 1, 1, 0, 0] B6) s H = regNext (evOpsGo P Γ call r6_17.1 r6_17.1 s H) := at_region (by kernel_rfl) r6_17.2 s H
attribute [simp] r6_17
@[simp] theorem n6_18 (s : List V) (H : Heap) : evCode P Γ call n f m (cAt [1, 1, 1, 1, 0, 1] B6) s H = blockNext 0 (evCode P Γ call n f m (cAt [1, 1, 1, 1, 0, 1, 0] B6) s H) := at_block (by kernel_rfl) rfl s H
@[simp] theorem n6_19 (s : List V) (H : Heap) : evCode P Γ call n f m (cAt [1, 1, 1, 1, 0, 1, 0] B6) s H = evLoopC P Γ call n f m (cAt [1, 1, 1, 1, 0, 1, 0, 0] B6) n s H := at_loop (by kernel_rfl) rfl s H
noncomputable abbrev L6_6 : Code := cAt [1, 1, 1, 1, 0, 1, 0, 0] B6
@[simp] theorem n6_19f : firstRegion (cAt [1, 1, 1, 1, 0, 1, 0, 0] B6) = 6 := by kernel_rfl
@[simp] theorem n6_20 (s : List V) (H : Heap) : evCode P Γ call n f m (cAt [1, 1, 1, 1, 0, 1, 0, 0] B6) s H = seqNext P Γ call n f m (cAt [1, 1, 1, 1, 0, 1, 0, 0, 1] B6) (evCode P Γ call n f m (cAt [1, 1, 1, 1, 0, 1, 0, 0, 0] B6) s H) := at_seq (by kernel_rfl) rfl rfl s H
noncomputable def r6_21 : {l : List Oper // opsOf (cAt [1, 1, 1, 1, 0, 1, 0, 0, 0] B6) = l} := by
  apply Subtype.mk
  dsimp only [opsOf, cAt, kids, B6, bodyOf, Try.f6, List.getD, List.getElem?_cons_zero, List.getElem?_cons_succ, Option.getD_some]
@[simp] theorem n6_21 (s : List V) (H : Heap) : evCode P Γ call n f m (cAt [1, 1, 1, 1, 0, 1, 0, 0, 0] B6) s H = regNext (evOpsGo P Γ call r6_21.1 r6_21.1 s H) := at_region (by kernel_rfl) r6_21.2 s H
attribute [simp] r6_21
@[simp] theorem n6_22 (s : List V) (H : Heap) : evCode P Γ call n f m (cAt [1, 1, 1, 1, 0, 1, 0, 0, 1] B6) s H = seqNext P Γ call n f m (cAt [1, 1, 1, 1, 0, 1, 0, 0, 1, 1] B6) (evCode P Γ call n f m (cAt [1, 1, 1, 1, 0, 1, 0, 0, 1, 0] B6) s H) := at_seq (by kernel_rfl) rfl rfl s H
@[simp] theorem n6_23 (s : List V) (H : Heap) : evCode P Γ call n f m (cAt [1, 1, 1, 1, 0, 1, 0, 0, 1, 0] B6) s H = condW P Γ call n f m (cAt [1, 1, 1, 1, 0, 1, 0, 0, 1, 0, 0] B6) (cAt [1, 1, 1, 1, 0, 1, 0, 0, 1, 0, 1] B6) s H (evOperand Γ s (.tmp 48)) := at_cond (by kernel_rfl) (by kernel_rfl) rfl rfl s H
@[simp] theorem n6_24 (s : List V) (H : Heap) : evCode P Γ call n f m (cAt [1, 1, 1, 1, 0, 1, 0, 0, 1, 0, 0] B6) s H = some (.normal, s, H) := at_skip (by kernel_rfl) s H
@[simp] theorem n6_25 (s : List V) (H : Heap) : evCode P Γ call n f m (cAt [1, 1, 1, 1, 0, 1, 0, 0, 1, 0, 1] B6) s H = some (.exit 0, s, H) := at_exit (by kernel_rfl) s H
@[simp] theorem n6_26 (s : List V) (H : Heap) : evCode P Γ call n f m (cAt [1, 1, 1, 1, 0, 1, 0, 0, 1, 1] B6) s H = seqNext P Γ call n f m (cAt [1, 1, 1, 1, 0, 1, 0, 0, 1, 1, 1] B6) (evCode P Γ call n f m (cAt [1, 1, 1, 1, 0, 1, 0, 0, 1, 1, 0] B6) s H) := at_seq (by kernel_rfl) rfl rfl s H
@[simp] theorem n6_27 (s : List V) (H : Heap) : evCode P Γ call n f m (cAt [1, 1, 1, 1, 0, 1, 0, 0, 1, 1, 0] B6) s H = blockNext 1 (evCode P Γ call n f m (cAt [1, 1, 1, 1, 0, 1, 0, 0, 1, 1, 0, 0] B6) s H) := at_block (by kernel_rfl) rfl s H
@[simp] theorem n6_28 (s : List V) (H : Heap) : evCode P Γ call n f m (cAt [1, 1, 1, 1, 0, 1, 0, 0, 1, 1, 0, 0] B6) s H = seqNext P Γ call n f m (cAt [1, 1, 1, 1, 0, 1, 0, 0, 1, 1, 0, 0, 1] B6) (evCode P Γ call n f m (cAt [1, 1, 1, 1, 0, 1, 0, 0, 1, 1, 0, 0, 0] B6) s H) := at_seq (by kernel_rfl) rfl rfl s H
noncomputable def r6_29 : {l : List Oper // opsOf (cAt [1, 1, 1, 1, 0, 1, 0, 0, 1, 1, 0, 0, 0] B6) = l} := by
  apply Subtype.mk
  dsimp only [opsOf, cAt, kids, B6, bodyOf, Try.f6, List.getD, List.getElem?_cons_zero, List.getElem?_cons_succ, Option.getD_some]
@[simp] theorem n6_29 (s : List V) (H : Heap) : evCode P Γ call n f m (cAt [1, 1, 1, 1, 0, 1, 0, 0, 1, 1, 0, 0, 0] B6) s H = regNext (evOpsGo P Γ call r6_29.1 r6_29.1 s H) := at_region (by kernel_rfl) r6_29.2 s H
attribute [simp] r6_29
@[simp] theorem n6_30 (s : List V) (H : Heap) : evCode P Γ call n f m (cAt [1, 1, 1, 1, 0, 1, 0, 0, 1, 1, 0, 0, 1] B6) s H = seqNext P Γ call n f m (cAt [1, 1, 1, 1, 0, 1, 0, 0, 1, 1, 0, 0, 1, 1] B6) (evCode P Γ call n f m (cAt [1, 1, 1, 1, 0, 1, 0, 0, 1, 1, 0, 0, 1, 0] B6) s H) := at_seq (by kernel_rfl) rfl rfl s H
noncomputable def r6_31 : {l : List Oper // opsOf (cAt [1, 1, 1, 1, 0, 1, 0, 0, 1, 1, 0, 0, 1, 0] B6) = l} := by
  apply Subtype.mk
  dsimp only [opsOf, cAt, kids, B6, bodyOf, Try.f6, List.getD, List.getElem?_cons_zero, List.getElem?_cons_succ, Option.getD_some]
@[simp] theorem n6_31 (s : List V) (H : Heap) : evCode P Γ call n f m (cAt [1, 1, 1, 1, 0, 1, 0, 0, 1, 1, 0, 0, 1, 0] B6) s H = regNext (drawR P Γ call r6_31.1 [([1], [53]), ([0], [52]), ([], []), ([], []), ([], []), ([], []), ([], []), ([], []), ([9, 10, 14, 15], [61, 62, 66, 67]), ([8, 14, 15], [60, 66, 67]), ([8, 14, 15], [60, 66, 67]), ([14, 15], [66, 67]), ([14, 15], [66, 67]), ([14, 15], [66, 67]), ([8, 9, 10, 11, 12, 13], [60, 61, 62, 63, 64, 65]), ([8, 9, 10, 11, 12, 13], [60, 61, 62, 63, 64, 65]), ([], []), ([], []), ([], [])] s H) := at_drawT (by kernel_rfl) r6_31.2 (by kernel_rfl) s H
attribute [simp] r6_31
@[simp] theorem n6_32 (s : List V) (H : Heap) : evCode P Γ call n f m (cAt [1, 1, 1, 1, 0, 1, 0, 0, 1, 1, 0, 0, 1, 1] B6) s H = condW P Γ call n f m (cAt [1, 1, 1, 1, 0, 1, 0, 0, 1, 1, 0, 0, 1, 1, 0] B6) (cAt [1, 1, 1, 1, 0, 1, 0, 0, 1, 1, 0, 0, 1, 1, 1] B6) s H (evOperand Γ s (.tmp 70)) := at_cond (by kernel_rfl) (by kernel_rfl) rfl rfl s H
@[simp] theorem n6_33 (s : List V) (H : Heap) : evCode P Γ call n f m (cAt [1, 1, 1, 1, 0, 1, 0, 0, 1, 1, 0, 0, 1, 1, 0] B6) s H = seqNext P Γ call n f m (cAt [1, 1, 1, 1, 0, 1, 0, 0, 1, 1, 0, 0, 1, 1, 0, 1] B6) (evCode P Γ call n f m (cAt [1, 1, 1, 1, 0, 1, 0, 0, 1, 1, 0, 0, 1, 1, 0, 0] B6) s H) := at_seq (by kernel_rfl) rfl rfl s H
noncomputable def r6_34 : {l : List Oper // opsOf (cAt [1, 1, 1, 1, 0, 1, 0, 0, 1, 1, 0, 0, 1, 1, 0, 0] B6) = l} := by
  apply Subtype.mk
  dsimp only [opsOf, cAt, kids, B6, bodyOf, Try.f6, List.getD, List.getElem?_cons_zero, List.getElem?_cons_succ, Option.getD_some]
@[simp] theorem n6_34 (s : List V) (H : Heap) : evCode P Γ call n f m (cAt [1, 1, 1, 1, 0, 1, 0, 0, 1, 1, 0, 0, 1, 1, 0, 0] B6) s H = regNext (evOpsGo P Γ call r6_34.1 r6_34.1 s H) := at_region (by kernel_rfl) r6_34.2 s H
attribute [simp] r6_34
@[simp] theorem n6_35 (s : List V) (H : Heap) : evCode P Γ call n f m (cAt [1, 1, 1, 1, 0, 1, 0, 0, 1, 1, 0, 0, 1, 1, 0, 1] B6) s H = some (.ret, s, H) := at_ret (by kernel_rfl) s H
@[simp] theorem n6_36 (s : List V) (H : Heap) : evCode P Γ call n f m (cAt [1, 1, 1, 1, 0, 1, 0, 0, 1, 1, 0, 0, 1, 1, 1] B6) s H = some (.normal, s, H) := at_skip (by kernel_rfl) s H
noncomputable def r6_37 : {l : List Oper // opsOf (cAt [1, 1, 1, 1, 0, 1, 0, 0, 1, 1, 1] B6) = l} := by
  apply Subtype.mk
  dsimp only [opsOf, cAt, kids, B6, bodyOf, Try.f6, List.getD, List.getElem?_cons_zero, List.getElem?_cons_succ, Option.getD_some]
@[simp] theorem n6_37 (s : List V) (H : Heap) : evCode P Γ call n f m (cAt [1, 1, 1, 1, 0, 1, 0, 0, 1, 1, 1] B6) s H = regNext (evOpsGo P Γ call r6_37.1 r6_37.1 s H) := at_region (by kernel_rfl) r6_37.2 s H
attribute [simp] r6_37
@[simp] theorem n6_38 (s : List V) (H : Heap) : evCode P Γ call n f m (cAt [1, 1, 1, 1, 1] B6) s H = seqNext P Γ call n f m (cAt [1, 1, 1, 1, 1, 1] B6) (evCode P Γ call n f m (cAt [1, 1, 1, 1, 1, 0] B6) s H) := at_seq (by kernel_rfl) rfl rfl s H
noncomputable def r6_39 : {l : List Oper // opsOf (cAt [1, 1, 1, 1, 1, 0] B6) = l} := by
  apply Subtype.mk
  dsimp only [opsOf, cAt, kids, B6, bodyOf, Try.f6, List.getD, List.getElem?_cons_zero, List.getElem?_cons_succ, Option.getD_some]
@[simp] theorem n6_39 (s : List V) (H : Heap) : evCode P Γ call n f m (cAt [1, 1, 1, 1, 1, 0] B6) s H = regNext (evOpsGo P Γ call r6_39.1 r6_39.1 s H) := at_region (by kernel_rfl) r6_39.2 s H
attribute [simp] r6_39
@[simp] theorem n6_40 (s : List V) (H : Heap) : evCode P Γ call n f m (cAt [1, 1, 1, 1, 1, 1] B6) s H = seqNext P Γ call n f m (cAt [1, 1, 1, 1, 1, 1, 1] B6) (evCode P Γ call n f m (cAt [1, 1, 1, 1, 1, 1, 0] B6) s H) := at_seq (by kernel_rfl) rfl rfl s H
noncomputable def r6_41 : {l : List Oper // opsOf (cAt [1, 1, 1, 1, 1, 1, 0] B6) = l} := by
  apply Subtype.mk
  dsimp only [opsOf, cAt, kids, B6, bodyOf, Try.f6, List.getD, List.getElem?_cons_zero, List.getElem?_cons_succ, Option.getD_some]
@[simp] theorem n6_41 (s : List V) (H : Heap) : evCode P Γ call n f m (cAt [1, 1, 1, 1, 1, 1, 0] B6) s H = regNext (evOpsGo P Γ call r6_41.1 r6_41.1 s H) := at_region (by kernel_rfl) r6_41.2 s H
attribute [simp] r6_41
@[simp] theorem n6_42 (s : List V) (H : Heap) : evCode P Γ call n f m (cAt [1, 1, 1, 1, 1, 1, 1] B6) s H = seqNext P Γ call n f m (cAt [1, 1, 1, 1, 1, 1, 1, 1] B6) (evCode P Γ call n f m (cAt [1, 1, 1, 1, 1, 1, 1, 0] B6) s H) := at_seq (by kernel_rfl) rfl rfl s H
@[simp] theorem n6_43 (s : List V) (H : Heap) : evCode P Γ call n f m (cAt [1, 1, 1, 1, 1, 1, 1, 0] B6) s H = seqNext P Γ call n f m (cAt [1, 1, 1, 1, 1, 1, 1, 0, 1] B6) (evCode P Γ call n f m (cAt [1, 1, 1, 1, 1, 1, 1, 0, 0] B6) s H) := at_seq (by kernel_rfl) rfl rfl s H
noncomputable def r6_44 : {l : List Oper // opsOf (cAt [1, 1, 1, 1, 1, 1, 1, 0, 0] B6) = l} := by
  apply Subtype.mk
  dsimp only [opsOf, cAt, kids, B6, bodyOf, Try.f6, List.getD, List.getElem?_cons_zero, List.getElem?_cons_succ, Option.getD_some]
@[simp] theorem n6_44 (s : List V) (H : Heap) : evCode P Γ call n f m (cAt [1, 1, 1, 1, 1, 1, 1, 0, 0] B6) s H = regNext (evOpsGo P Γ call r6_44.1 r6_44.1 s H) := at_region (by kernel_rfl) r6_44.2 s H
attribute [simp] r6_44
@[simp] theorem n6_45 (s : List V) (H : Heap) : evCode P Γ call n f m (cAt [1, 1, 1, 1, 1, 1, 1, 0, 1] B6) s H = blockNext 2 (evCode P Γ call n f m (cAt [1, 1, 1, 1, 1, 1, 1, 0, 1, 0] B6) s H) := at_block (by kernel_rfl) rfl s H
@[simp] theorem n6_46 (s : List V) (H : Heap) : evCode P Γ call n f m (cAt [1, 1, 1, 1, 1, 1, 1, 0, 1, 0] B6) s H = evLoopC P Γ call n f m (cAt [1, 1, 1, 1, 1, 1, 1, 0, 1, 0, 0] B6) n s H := at_loop (by kernel_rfl) rfl s H
noncomputable abbrev L6_14 : Code := cAt [1, 1, 1, 1, 1, 1, 1, 0, 1, 0, 0] B6
@[simp] theorem n6_46f : firstRegion (cAt [1, 1, 1, 1, 1, 1, 1, 0, 1, 0, 0] B6) = 14 := by kernel_rfl
@[simp] theorem n6_47 (s : List V) (H : Heap) : evCode P Γ call n f m (cAt [1, 1, 1, 1, 1, 1, 1, 0, 1, 0, 0] B6) s H = seqNext P Γ call n f m (cAt [1, 1, 1, 1, 1, 1, 1, 0, 1, 0, 0, 1] B6) (evCode P Γ call n f m (cAt [1, 1, 1, 1, 1, 1, 1, 0, 1, 0, 0, 0] B6) s H) := at_seq (by kernel_rfl) rfl rfl s H
noncomputable def r6_48 : {l : List Oper // opsOf (cAt [1, 1, 1, 1, 1, 1, 1, 0, 1, 0, 0, 0] B6) = l} := by
  apply Subtype.mk
  dsimp only [opsOf, cAt, kids, B6, bodyOf, Try.f6, List.getD, List.getElem?_cons_zero, List.getElem?_cons_succ, Option.getD_some]
@[simp] theorem n6_48 (s : List V) (H : Heap) : evCode P Γ call n f m (cAt [1, 1, 1, 1, 1, 1, 1, 0, 1, 0, 0, 0] B6) s H = regNext (evOpsGo P Γ call r6_48.1 r6_48.1 s H) := at_region (by kernel_rfl) r6_48.2 s H
attribute [simp] r6_48
@[simp] theorem n6_49 (s : List V) (H : Heap) : evCode P Γ call n f m (cAt [1, 1, 1, 1, 1, 1, 1, 0, 1, 0, 0, 1] B6) s H = seqNext P Γ call n f m (cAt [1, 1, 1, 1, 1, 1, 1, 0, 1, 0, 0, 1, 1] B6) (evCode P Γ call n f m (cAt [1, 1, 1, 1, 1, 1, 1, 0, 1, 0, 0, 1, 0] B6) s H) := at_seq (by kernel_rfl) rfl rfl s H
@[simp] theorem n6_50 (s : List V) (H : Heap) : evCode P Γ call n f m (cAt [1, 1, 1, 1, 1, 1, 1, 0, 1, 0, 0, 1, 0] B6) s H = condW P Γ call n f m (cAt [1, 1, 1, 1, 1, 1, 1, 0, 1, 0, 0, 1, 0, 0] B6) (cAt [1, 1, 1, 1, 1, 1, 1, 0, 1, 0, 0, 1, 0, 1] B6) s H (evOperand Γ s (.tmp 78)) := at_cond (by kernel_rfl) (by kernel_rfl) rfl rfl s H
@[simp] theorem n6_51 (s : List V) (H : Heap) : evCode P Γ call n f m (cAt [1, 1, 1, 1, 1, 1, 1, 0, 1, 0, 0, 1, 0, 0] B6) s H = some (.normal, s, H) := at_skip (by kernel_rfl) s H
@[simp] theorem n6_52 (s : List V) (H : Heap) : evCode P Γ call n f m (cAt [1, 1, 1, 1, 1, 1, 1, 0, 1, 0, 0, 1, 0, 1] B6) s H = some (.exit 2, s, H) := at_exit (by kernel_rfl) s H
@[simp] theorem n6_53 (s : List V) (H : Heap) : evCode P Γ call n f m (cAt [1, 1, 1, 1, 1, 1, 1, 0, 1, 0, 0, 1, 1] B6) s H = seqNext P Γ call n f m (cAt [1, 1, 1, 1, 1, 1, 1, 0, 1, 0, 0, 1, 1, 1] B6) (evCode P Γ call n f m (cAt [1, 1, 1, 1, 1, 1, 1, 0, 1, 0, 0, 1, 1, 0] B6) s H) := at_seq (by kernel_rfl) rfl rfl s H
@[simp] theorem n6_54 (s : List V) (H : Heap) : evCode P Γ call n f m (cAt [1, 1, 1, 1, 1, 1, 1, 0, 1, 0, 0, 1, 1, 0] B6) s H = blockNext 3 (evCode P Γ call n f m (cAt [1, 1, 1, 1, 1, 1, 1, 0, 1, 0, 0, 1, 1, 0, 0] B6) s H) := at_block (by kernel_rfl) rfl s H
@[simp] theorem n6_55 (s : List V) (H : Heap) : evCode P Γ call n f m (cAt [1, 1, 1, 1, 1, 1, 1, 0, 1, 0, 0, 1, 1, 0, 0] B6) s H = seqNext P Γ call n f m (cAt [1, 1, 1, 1, 1, 1, 1, 0, 1, 0, 0, 1, 1, 0, 0, 1] B6) (evCode P Γ call n f m (cAt [1, 1, 1, 1, 1, 1, 1, 0, 1, 0, 0, 1, 1, 0, 0, 0] B6) s H) := at_seq (by kernel_rfl) rfl rfl s H
noncomputable def r6_56 : {l : List Oper // opsOf (cAt [1, 1, 1, 1, 1, 1, 1, 0, 1, 0, 0, 1, 1, 0, 0, 0] B6) = l} := by
  apply Subtype.mk
  dsimp only [opsOf, cAt, kids, B6, bodyOf, Try.f6, List.getD, List.getElem?_cons_zero, List.getElem?_cons_succ, Option.getD_some]
@[simp] theorem n6_56 (s : List V) (H : Heap) : evCode P Γ call n f m (cAt [1, 1, 1, 1, 1, 1, 1, 0, 1, 0, 0, 1, 1, 0, 0, 0] B6) s H = regNext (evOpsGo P Γ call r6_56.1 r6_56.1 s H) := at_region (by kernel_rfl) r6_56.2 s H
attribute [simp] r6_56
@[simp] theorem n6_57 (s : List V) (H : Heap) : evCode P Γ call n f m (cAt [1, 1, 1, 1, 1, 1, 1, 0, 1, 0, 0, 1, 1, 0, 0, 1] B6) s H = seqNext P Γ call n f m (cAt [1, 1, 1, 1, 1, 1, 1, 0, 1, 0, 0, 1, 1, 0, 0, 1, 1] B6) (evCode P Γ call n f m (cAt [1, 1, 1, 1, 1, 1, 1, 0, 1, 0, 0, 1, 1, 0, 0, 1, 0] B6) s H) := at_seq (by kernel_rfl) rfl rfl s H
noncomputable def r6_58 : {l : List Oper // opsOf (cAt [1, 1, 1, 1, 1, 1, 1, 0, 1, 0, 0, 1, 1, 0, 0, 1, 0] B6) = l} := by
  apply Subtype.mk
  dsimp only [opsOf, cAt, kids, B6, bodyOf, Try.f6, List.getD, List.getElem?_cons_zero, List.getElem?_cons_succ, Option.getD_some]
@[simp] theorem n6_58 (s : List V) (H : Heap) : evCode P Γ call n f m (cAt [1, 1, 1, 1, 1, 1, 1, 0, 1, 0, 0, 1, 1, 0, 0, 1, 0] B6) s H = regNext (evOpsGo P Γ call r6_58.1 r6_58.1 s H) := at_region (by kernel_rfl) r6_58.2 s H
attribute [simp] r6_58
@[simp] theorem n6_59 (s : List V) (H : Heap) : evCode P Γ call n f m (cAt [1, 1, 1, 1, 1, 1, 1, 0, 1, 0, 0, 1, 1, 0, 0, 1, 1] B6) s H = condW P Γ call n f m (cAt [1, 1, 1, 1, 1, 1, 1, 0, 1, 0, 0, 1, 1, 0, 0, 1, 1, 0] B6) (cAt [1, 1, 1, 1, 1, 1, 1, 0, 1, 0, 0, 1, 1, 0, 0, 1, 1, 1] B6) s H (evOperand Γ s (.tmp 89)) := at_cond (by kernel_rfl) (by kernel_rfl) rfl rfl s H
noncomputable def r6_60 : {l : List Oper // opsOf (cAt [1, 1, 1, 1, 1, 1, 1, 0, 1, 0, 0, 1, 1, 0, 0, 1, 1, 0] B6) = l} := by
  apply Subtype.mk
  dsimp only [opsOf, cAt, kids, B6, bodyOf, Try.f6, List.getD, List.getElem?_cons_zero, List.getElem?_cons_succ, Option.getD_some]
@[simp] theorem n6_60 (s : List V) (H : Heap) : evCode P Γ call n f m (cAt [1, 1, 1, 1, 1, 1, 1, 0, 1, 0, 0, 1, 1, 0, 0, 1, 1, 0] B6) s H = regNext (evOpsGo P Γ call r6_60.1 r6_60.1 s H) := at_region (by kernel_rfl) r6_60.2 s H
attribute [simp] r6_60
@[simp] theorem n6_61 (s : List V) (H : Heap) : evCode P Γ call n f m (cAt [1, 1, 1, 1, 1, 1, 1, 0, 1, 0, 0, 1, 1, 0, 0, 1, 1, 1] B6) s H = some (.normal, s, H) := at_skip (by kernel_rfl) s H
noncomputable def r6_62 : {l : List Oper // opsOf (cAt [1, 1, 1, 1, 1, 1, 1, 0, 1, 0, 0, 1, 1, 1] B6) = l} := by
  apply Subtype.mk
  dsimp only [opsOf, cAt, kids, B6, bodyOf, Try.f6, List.getD, List.getElem?_cons_zero, List.getElem?_cons_succ, Option.getD_some]
@[simp] theorem n6_62 (s : List V) (H : Heap) : evCode P Γ call n f m (cAt [1, 1, 1, 1, 1, 1, 1, 0, 1, 0, 0, 1, 1, 1] B6) s H = regNext (evOpsGo P Γ call r6_62.1 r6_62.1 s H) := at_region (by kernel_rfl) r6_62.2 s H
attribute [simp] r6_62
@[simp] theorem n6_63 (s : List V) (H : Heap) : evCode P Γ call n f m (cAt [1, 1, 1, 1, 1, 1, 1, 1] B6) s H = seqNext P Γ call n f m (cAt [1, 1, 1, 1, 1, 1, 1, 1, 1] B6) (evCode P Γ call n f m (cAt [1, 1, 1, 1, 1, 1, 1, 1, 0] B6) s H) := at_seq (by kernel_rfl) rfl rfl s H
noncomputable def r6_64 : {l : List Oper // opsOf (cAt [1, 1, 1, 1, 1, 1, 1, 1, 0] B6) = l} := by
  apply Subtype.mk
  dsimp only [opsOf, cAt, kids, B6, bodyOf, Try.f6, List.getD, List.getElem?_cons_zero, List.getElem?_cons_succ, Option.getD_some]
@[simp] theorem n6_64 (s : List V) (H : Heap) : evCode P Γ call n f m (cAt [1, 1, 1, 1, 1, 1, 1, 1, 0] B6) s H = regNext (evOpsGo P Γ call r6_64.1 r6_64.1 s H) := at_region (by kernel_rfl) r6_64.2 s H
attribute [simp] r6_64
@[simp] theorem n6_65 (s : List V) (H : Heap) : evCode P Γ call n f m (cAt [1, 1, 1, 1, 1, 1, 1, 1, 1] B6) s H = some (.ret, s, H) := at_ret (by kernel_rfl) s H
theorem b6 {k : Nat} (ho : ∀ args H, Γ.orc 6 args H = none) (args : List V) (H : Heap) (ha : args.length ≤ 100) : evF Try.prog Γ (k + 1) 6 args H = bodyEnd Try.prog [.tmp 4] H.length (evCode Try.prog Γ (evF Try.prog Γ k) k 6 H.length (cAt [] B6) (mkL 100 V.undef (enumV 0 args)) H) := body_at Try.func6 (by decide) rfl ho rfl rfl args H ha
noncomputable def B27 : Code := bodyOf Try.f27
@[simp] theorem n27_1 (s : List V) (H : Heap) : evCode P Γ call n f m (cAt [] B27) s H = seqNext P Γ call n f m (cAt [1] B27) (evCode P Γ call n f m (cAt [0] B27) s H) := at_seq (by kernel_rfl) rfl rfl s H
noncomputable def r27_2 : {l : List Oper // opsOf (cAt [0] B27) = l} := by
  apply Subtype.mk
  dsimp only [opsOf, cAt, kids, B27, bodyOf, Try.f27, List.getD, List.getElem?_cons_zero, List.getElem?_cons_succ, Option.getD_some]
@[simp] theorem n27_2 (s : List V) (H : Heap) : evCode P Γ call n f m (cAt [0] B27) s H = regNext (evOpsGo P Γ call r27_2.1 r27_2.1 s H) := at_region (by kernel_rfl) r27_2.2 s H
attribute [simp] r27_2
@[simp] theorem n27_3 (s : List V) (H : Heap) : evCode P Γ call n f m (cAt [1] B27) s H = seqNext P Γ call n f m (cAt [1, 1] B27) (evCode P Γ call n f m (cAt [1, 0] B27) s H) := at_seq (by kernel_rfl) rfl rfl s H
@[simp] theorem n27_4 (s : List V) (H : Heap) : evCode P Γ call n f m (cAt [1, 0] B27) s H = seqNext P Γ call n f m (cAt [1, 0, 1] B27) (evCode P Γ call n f m (cAt [1, 0, 0] B27) s H) := at_seq (by kernel_rfl) rfl rfl s H
noncomputable def r27_5 : {l : List Oper // opsOf (cAt [1, 0, 0] B27) = l} := by
  apply Subtype.mk
  dsimp only [opsOf, cAt, kids, B27, bodyOf, Try.f27, List.getD, List.getElem?_cons_zero, List.getElem?_cons_succ, Option.getD_some]
@[simp] theorem n27_5 (s : List V) (H : Heap) : evCode P Γ call n f m (cAt [1, 0, 0] B27) s H = regNext (evOpsGo P Γ call r27_5.1 r27_5.1 s H) := at_region (by kernel_rfl) r27_5.2 s H
attribute [simp] r27_5
@[simp] theorem n27_6 (s : List V) (H : Heap) : evCode P Γ call n f m (cAt [1, 0, 1] B27) s H = seqNext P Γ call n f m (cAt [1, 0, 1, 1] B27) (evCode P Γ call n f m (cAt [1, 0, 1, 0] B27) s H) := at_seq (by kernel_rfl) rfl rfl s H
noncomputable def r27_7 : {l : List Oper // opsOf (cAt [1, 0, 1, 0] B27) = l} := by
  apply Subtype.mk
  dsimp only [opsOf, cAt, kids, B27, bodyOf, Try.f27, List.getD, List.getElem?_cons_zero, List.getElem?_cons_succ, Option.getD_some]
@[simp] theorem n27_7 (s : List V) (H : Heap) : evCode P Γ call n f m (cAt [1, 0, 1, 0] B27) s H = regNext (evOpsGo P Γ call r27_7.1 r27_7.1 s H) := at_region (by kernel_rfl) r27_7.2 s H
attribute [simp] r27_7
@[simp] theorem n27_8 (s : List V) (H : Heap) : evCode P Γ call n f m (cAt [1, 0, 1, 1] B27) s H = condW P Γ call n f m (cAt [1, 0, 1, 1, 0] B27) (cAt [1, 0, 1, 1, 1] B27) s H (evOperand Γ s (.tmp 12)) := at_cond (by kernel_rfl) (by kernel_rfl) rfl rfl s H
@[simp] theorem n27_9 (s : List V) (H : Heap) : evCode P Γ call n f m (cAt [1, 0, 1, 1, 0] B27) s H = seqNext P Γ call n f m (cAt [1, 0, 1, 1, 0, 1] B27) (evCode P Γ call n f m (cAt [1, 0, 1, 1, 0, 0] B27) s H) := at_seq (by kernel_rfl) rfl rfl s H
noncomputable def r27_10 : {l : List Oper // opsOf (cAt [1, 0, 1, 1, 0, 0] B27) = l} := by
  apply Subtype.mk
  dsimp only [opsOf, cAt, kids, B27, bodyOf, Try.f27, List.getD, List.getElem?_cons_zero, List.getElem?_cons_succ, Option.getD_some]
@[simp] theorem n27_10 (s : List V) (H : Heap) : evCode P Γ call n f m (cAt [1, 0, 1, 1, 0, 0] B27) s H = regNext (evOpsGo P Γ call r27_10.1 r27_10.1 s H) := at_region (by kernel_rfl) r27_10.2 s H
attribute [simp] r27_10
@[simp] theorem n27_11 (s : List V) (H : Heap) : evCode P Γ call n f m (cAt [1, 0, 1, 1, 0, 1] B27) s H = some (.ret, s, H) := at_ret (by kernel_rfl) s H
@[simp] theorem n27_12 (s : List V) (H : Heap) : evCode P Γ call n f m (cAt [1, 0, 1, 1, 1] B27) s H = some (.normal, s, H) := at_skip (by kernel_rfl) s H
@[simp] theorem n27_13 (s : List V) (H : Heap) : evCode P Γ call n f m (cAt [1, 1] B27) s H = seqNext P Γ call n f m (cAt [1, 1, 1] B27) (evCode P Γ call n f m (cAt [1, 1, 0] B27) s H) := at_seq (by kernel_rfl) rfl rfl s H
noncomputable def r27_14 : {l : List Oper // opsOf (cAt [1, 1, 0] B27) = l} := by
  apply Subtype.mk
  dsimp only [opsOf, cAt, kids, B27, bodyOf, Try.f27, List.getD, List.getElem?_cons_zero, List.getElem?_cons_succ, Option.getD_some]
@[simp] theorem n27_14 (s : List V) (H : Heap) : evCode P Γ call n f m (cAt [1, 1, 0] B27) s H = regNext (evOpsGo P Γ call r27_14.1 r27_14.1 s H) := at_region (by kernel_rfl) r27_14.2 s H
attribute [simp] r27_14
@[simp] theorem n27_15 (s : List V) (H : Heap) : evCode P Γ call n f m (cAt [1, 1, 1] B27) s H = seqNext P Γ call n f m (cAt [1, 1, 1, 1] B27) (evCode P Γ call n f m (cAt [1, 1, 1, 0] B27) s H) := at_seq (by kernel_rfl) rfl rfl s H
noncomputable def r27_16 : {l : List Oper // opsOf (cAt [1, 1, 1, 0] B27) = l} := by
  apply Subtype.mk
  dsimp only [opsOf, cAt, kids, B27, bodyOf, Try.f27, List.getD, List.getElem?_cons_zero, List.getElem?_cons_succ, Option.getD_some]
@[simp] theorem n27_16 (s : List V) (H : Heap) : evCode P Γ call n f m (cAt [1, 1, 1, 0] B27) s H = regNext (evOpsGo P Γ call r27_16.1 r27_16.1 s H) := at_region (by kernel_rfl) r27_16.2 s H
attribute [simp] r27_16
@[simp] theorem n27_17 (s : List V) (H : Heap) : evCode P Γ call n f m (cAt [1, 1, 1, 1] B27) s H = seqNext P Γ call n f m (cAt [1, 1, 1, 1, 1] B27) (evCode P Γ call n f m (cAt [1, 1, 1, 1, 0] B27) s H) := at_seq (by kernel_rfl) rfl rfl s H
noncomputable def r27_18 : {l : List Oper // opsOf (cAt [1, 1, 1, 1, 0] B27) = l} := by
  apply Subtype.mk
  dsimp only [opsOf, cAt, kids, B27, bodyOf, Try.f27, List.getD, List.getElem?_cons_zero, List.getElem?_cons_succ, Option.getD_some]
@[simp] theorem n27_18 (s : List V) (H : Heap) : evCode P Γ call n f m (cAt [1, 1, 1, 1, 0] B27) s H = regNext (evOpsGo P Γ call r27_18.1 r27_18.1 s H) := at_region (by kernel_rfl) r27_18.2 s H
attribute [simp] r27_18
@[simp] theorem n27_19 (s : List V) (H : Heap) : evCode P Γ call n f m (cAt [1, 1, 1, 1, 1] B27) s H = seqNext P Γ call n f m (cAt [1, 1, 1, 1, 1, 1] B27) (evCode P Γ call n f m (cAt [1, 1, 1, 1, 1, 0] B27) s H) := at_seq (by kernel_rfl) rfl rfl s H
@[simp] theorem n27_20 (s : List V) (H : Heap) : evCode P Γ call n f m (cAt [1, 1, 1, 1, 1, 0] B27) s H = seqNext P Γ call n f m (cAt [1, 1, 1, 1, 1, 0, 1] B27) (evCode P Γ call n f m (cAt [1, 1, 1, 1, 1, 0, 0] B27) s H) := at_seq (by kernel_rfl) rfl rfl s H
noncomputable def r27_21 : {l : List Oper // opsOf (cAt [1, 1, 1, 1, 1, 0, 0] B27) = l} := by
  apply Subtype.mk
  dsimp only [opsOf, cAt, kids, B27, bodyOf, Try.f27, List.getD, List.getElem?_cons_zero, List.getElem?_cons_succ, Option.getD_some]
@[simp] theorem n27_21 (s : List V) (H : Heap) : evCode P Γ call n f m (cAt [1, 1, 1, 1, 1, 0, 0] B27) s H = regNext (evOpsGo P Γ call r27_21.1 r27_21.1 s H) := at_region (by kernel_rfl) r27_21.2 s H
attribute [simp] r27_21
@[simp] theorem n27_22 (s : List V) (H : Heap) : evCode P Γ call n f m (cAt [1, 1, 1, 1, 1, 0, 1] B27) s H = blockNext 0 (evCode P Γ call n f m (cAt [1, 1, 1, 1, 1, 0, 1, 0] B27) s H) := at_block (by kernel_rfl) rfl s H
@[simp] theorem n27_23 (s : List V) (H : Heap) : evCode P Γ call n f m (cAt [1, 1, 1, 1, 1, 0, 1, 0] B27) s H = evLoopC P Γ call n f m (cAt [1, 1, 1, 1, 1, 0, 1, 0, 0] B27) n s H := at_loop (by kernel_rfl) rfl s H
noncomputable abbrev L27_8 : Code := cAt [1, 1, 1, 1, 1, 0, 1, 0, 0] B27
@[simp] theorem n27_23f : firstRegion (cAt [1, 1, 1, 1, 1, 0, 1, 0, 0] B27) = 8 := by kernel_rfl
@[simp] theorem n27_24 (s : List V) (H : Heap) : evCode P Γ call n f m (cAt [1, 1, 1, 1, 1, 0, 1, 0, 0] B27) s H = seqNext P Γ call n f m (cAt [1, 1, 1, 1, 1, 0, 1, 0, 0, 1] B27) (evCode P Γ call n f m (cAt [1, 1, 1, 1, 1, 0, 1, 0, 0, 0] B27) s H) := at_seq (by kernel_rfl) rfl rfl s H
noncomputable def r27_25 : {l : List Oper // opsOf (cAt [1, 1, 1, 1, 1, 0, 1, 0, 0, 0] B27) = l} := by
  apply Subtype.mk
  dsimp only [opsOf, cAt, kids, B27, bodyOf, Try.f27, List.getD, List.getElem?_cons_zero, List.getElem?_cons_succ, Option.getD_some]
@[simp] theorem n27_25 (s : List V) (H : Heap) : evCode P Γ call n f m (cAt [1, 1, 1, 1, 1, 0, 1, 0, 0, 0] B27) s H = regNext (evOpsGo P Γ call r27_25.1 r27_25.1 s H) := at_region (by kernel_rfl) r27_25.2 s H
attribute [simp] r27_25
@[simp] theorem n27_26 (s : List V) (H : Heap) : evCode P Γ call n f m (cAt [1, 1, 1, 1, 1, 0, 1, 0, 0, 1] B27) s H = seqNext P Γ call n f m (cAt [1, 1, 1, 1, 1, 0, 1, 0, 0, 1, 1] B27) (evCode P Γ call n f m (cAt [1, 1, 1, 1, 1, 0, 1, 0, 0, 1, 0] B27) s H) := at_seq (by kernel_rfl) rfl rfl s H
@[simp] theorem n27_27 (s : List V) (H : Heap) : evCode P Γ call n f m (cAt [1, 1, 1, 1, 1, 0, 1, 0, 0, 1, 0] B27) s H = condW P Γ call n f m (cAt [1, 1, 1, 1, 1, 0, 1, 0, 0, 1, 0, 0] B27) (cAt [1, 1, 1, 1, 1, 0, 1, 0, 0, 1, 0, 1] B27) s H (evOperand Γ s (.tmp 21)) := at_cond (by kernel_rfl) (by kernel_rfl) rfl rfl s H
@[simp] theorem n27_28 (s : List V) (H : Heap) : evCode P Γ call n f m (cAt [1, 1, 1, 1, 1, 0, 1, 0, 0, 1, 0, 0] B27) s H = some (.normal, s, H) := at_skip (by kernel_rfl) s H
@[simp] theorem n27_29 (s : List V) (H : Heap) : evCode P Γ call n f m (cAt [1, 1, 1, 1, 1, 0, 1, 0, 0, 1, 0, 1] B27) s H = some (.exit 0, s, H) := at_exit (by kernel_rfl) s H
@[simp] theorem n27_30 (s : List V) (H : Heap) : evCode P Γ call n f m (cAt [1, 1, 1, 1, 1, 0, 1, 0, 0, 1, 1] B27) s H = seqNext P Γ call n f m (cAt [1, 1, 1, 1, 1, 0, 1, 0, 0, 1, 1, 1] B27) (evCode P Γ call n f m (cAt [1, 1, 1, 1, 1, 0, 1, 0, 0, 1, 1, 0] B27) s H) := at_seq (by kernel_rfl) rfl rfl s H
@[simp] theorem n27_31 (s : List V) (H : Heap) : evCode P Γ call n f m (cAt [1, 1, 1, 1, 1, 0, 1, 0, 0, 1, 1, 0] B27) s H = blockNext 1 (evCode P Γ call n f m (cAt [1, 1, 1, 1, 1, 0, 1, 0, 0, 1, 1, 0, 0] B27) s H) := at_block (by kernel_rfl) rfl s H
@[simp] theorem n27_32 (s : List V) (H : Heap) : evCode P Γ call n f m (cAt [1, 1, 1, 1, 1, 0, 1, 0, 0, 1, 1, 0, 0] B27) s H = seqNext P Γ call n f m (cAt [1, 1, 1, 1, 1, 0, 1, 0, 0, 1, 1, 0, 0, 1] B27) (evCode P Γ call n f m (cAt [1, 1, 1, 1, 1, 0, 1, 0, 0, 1, 1, 0, 0, 0] B27) s H) := at_seq (by kernel_rfl) rfl rfl s H
noncomputable def r27_33 : {l : List Oper // opsOf (cAt [1, 1, 1, 1, 1, 0, 1, 0, 0, 1, 1, 0, 0, 0] B27) = l} := by
  apply Subtype.mk
  dsimp only [opsOf, cAt, kids, B27, bodyOf, Try.f27, List.getD, List.getElem?_cons_zero, List.getElem?_cons_succ, Option.getD_some]
@[simp] theorem n27_33 (s : List V) (H : Heap) : evCode P Γ call n f m (cAt [1, 1, 1, 1, 1, 0, 1, 0, 0, 1, 1, 0, 0, 0] B27) s H = regNext (evOpsGo P Γ call r27_33.1 r27_33.1 s H) := at_region (by kernel_rfl) r27_33.2 s H
attribute [simp] r27_33
@[simp] theorem n27_34 (s : List V) (H : Heap) : evCode P Γ call n f m (cAt [1, 1, 1, 1, 1, 0, 1, 0, 0, 1, 1, 0, 0, 1] B27) s H = seqNext P Γ call n f m (cAt [1, 1, 1, 1, 1, 0, 1, 0, 0, 1, 1, 0, 0, 1, 1] B27) (evCode P Γ call n f m (cAt [1, 1, 1, 1, 1, 0, 1, 0, 0, 1, 1, 0, 0, 1, 0] B27) s H) := at_seq (by kernel_rfl) rfl rfl s H
noncomputable def r27_35 : {l : List Oper // opsOf (cAt [1, 1, 1, 1, 1, 0, 1, 0, 0, 1, 1, 0, 0, 1, 0] B27) = l} := by
  apply Subtype.mk
  dsimp only [opsOf, cAt, kids, B27, bodyOf, Try.f27, List.getD, List.getElem?_cons_zero, List.getElem?_cons_succ, Option.getD_some]
@[simp] theorem n27_35 (s : List V) (H : Heap) : evCode P Γ call n f m (cAt [1, 1, 1, 1, 1, 0, 1, 0, 0, 1, 1, 0, 0, 1, 0] B27) s H = regNext (drawR P Γ call r27_35.1 [([], []), ([], []), ([], []), ([], []), ([5, 6, 7, 11, 12], [29, 30, 31, 35, 36]), ([4, 11, 12], [28, 35, 36]), ([4, 11, 12], [28, 35, 36]), ([4, 11, 12], [28, 35, 36]), ([11, 12], [35, 36]), ([11, 12], [35, 36]), ([11, 12], [35, 36]), ([4, 5, 6, 7, 8, 9, 10], [28, 29, 30, 31, 32, 33, 34]), ([4, 5, 6, 7, 8, 9, 10], [28, 29, 30, 31, 32, 33, 34]), ([], []), ([], [])] s H) := at_drawT (by kernel_rfl) r27_35.2 (by kernel_rfl) s H
attribute [simp] r27_35
@[simp] theorem n27_36 (s : List V) (H : Heap) : evCode P Γ call n f m (cAt [1, 1, 1, 1, 1, 0, 1, 0, 0, 1, 1, 0, 0, 1, 1] B27) s H = condW P Γ call n f m (cAt [1, 1, 1, 1, 1, 0, 1, 0, 0, 1, 1, 0, 0, 1, 1, 0] B27) (cAt [1, 1, 1, 1, 1, 0, 1, 0, 0, 1, 1, 0, 0, 1, 1, 1] B27) s H (evOperand Γ s (.tmp 38)) := at_cond (by kernel_rfl) (by kernel_rfl) rfl rfl s H
noncomputable def r27_37 : {l : List Oper // opsOf (cAt [1, 1, 1, 1, 1, 0, 1, 0, 0, 1, 1, 0, 0, 1, 1, 0] B27) = l} := by
  apply Subtype.mk
  dsimp only [opsOf, cAt, kids, B27, bodyOf, Try.f27, List.getD, List.getElem?_cons_zero, List.getElem?_cons_succ, Option.getD_some]
@[simp] theorem n27_37 (s : List V) (H : Heap) : evCode P Γ call n f m (cAt [1, 1, 1, 1, 1, 0, 1, 0, 0, 1, 1, 0, 0, 1, 1, 0] B27) s H = regNext (evOpsGo P Γ call r27_37.1 r27_37.1 s H) := at_region (by kernel_rfl) r27_37.2 s H
attribute [simp] r27_37
@[simp] theorem n27_38 (s : List V) (H : Heap) : evCode P Γ call n f m (cAt [1, 1, 1, 1, 1, 0, 1, 0, 0, 1, 1, 0, 0, 1, 1, 1] B27) s H = some (.normal, s, H) := at_skip (by kernel_rfl) s H
noncomputable def r27_39 : {l : List Oper // opsOf (cAt [1, 1, 1, 1, 1, 0, 1, 0, 0, 1, 1, 1] B27) = l} := by
  apply Subtype.mk
  dsimp only [opsOf, cAt, kids, B27, bodyOf, Try.f27, List.getD, List.getElem?_cons_zero, List.getElem?_cons_succ, Option.getD_some]
@[simp] theorem n27_39 (s : List V) (H : Heap) : evCode P Γ call n f m (cAt [1, 1, 1, 1, 1, 0, 1, 0, 0, 1, 1, 1] B27) s H = regNext (evOpsGo P Γ call r27_39.1 r27_39.1 s H) := at_region (by kernel_rfl) r27_39.2 s H
attribute [simp] r27_39
@[simp] theorem n27_40 (s : List V) (H : Heap) : evCode P Γ call n f m (cAt [1, 1, 1, 1, 1, 1] B27) s H = seqNext P Γ call n f m (cAt [1, 1, 1, 1, 1, 1, 1] B27) (evCode P Γ call n f m (cAt [1, 1, 1, 1, 1, 1, 0] B27) s H) := at_seq (by kernel_rfl) rfl rfl s H
noncomputable def r27_41 : {l : List Oper // opsOf (cAt [1, 1, 1, 1, 1, 1, 0] B27) = l} := by
  apply Subtype.mk
  dsimp only [opsOf, cAt, kids, B27, bodyOf, Try.f27, List.getD, List.getElem?_cons_zero, List.getElem?_cons_succ, Option.getD_some]
@[simp] theorem n27_41 (s : List V) (H : Heap) : evCode P Γ call n f m (cAt [1, 1, 1, 1, 1, 1, 0] B27) s H = regNext (evOpsGo P Γ call r27_41.1 r27_41.1 s H) := at_region (by kernel_rfl) r27_41.2 s H
attribute [simp] r27_41
@[simp] theorem n27_42 (s : List V) (H : Heap) : evCode P Γ call n f m (cAt [1, 1, 1, 1, 1, 1, 1] B27) s H = some (.ret, s, H) := at_ret (by kernel_rfl) s H
theorem b27 {k : Nat} (ho : ∀ args H, Γ.orc 27 args H = none) (args : List V) (H : Heap) (ha : args.length ≤ 45) : evF Try.prog Γ (k + 1) 27 args H = bodyEnd Try.prog [.tmp 2, .tmp 3] H.length (evCode Try.prog Γ (evF Try.prog Γ k) k 27 H.length (cAt [] B27) (mkL 45 V.undef (enumV 0 args)) H) := body_at Try.func27 (by decide) rfl ho rfl rfl args H ha
noncomputable def B29 : Code := bodyOf Try.f29
@[simp] theorem n29_1 (s : List V) (H : Heap) : evCode P Γ call n f m (cAt [] B29) s H = seqNext P Γ call n f m (cAt [1] B29) (evCode P Γ call n f m (cAt [0] B29) s H) := at_seq (by kernel_rfl) rfl rfl s H
noncomputable def r29_2 : {l : List Oper // opsOf (cAt [0] B29) = l} := by
  apply Subtype.mk
  dsimp only [opsOf, cAt, kids, B29, bodyOf, Try.f29, List.getD, List.getElem?_cons_zero, List.getElem?_cons_succ, Option.getD_some]
@[simp] theorem n29_2 (s : List V) (H : Heap) : evCode P Γ call n f m (cAt [0] B29) s H = regNext (evOpsGo P Γ call r29_2.1 r29_2.1 s H) := at_region (by kernel_rfl) r29_2.2 s H
attribute [simp] r29_2
@[simp] theorem n29_3 (s : List V) (H : Heap) : evCode P Γ call n f m (cAt [1] B29) s H = seqNext P Γ call n f m (cAt [1, 1] B29) (evCode P Γ call n f m (cAt [1, 0] B29) s H) := at_seq (by kernel_rfl) rfl rfl s H
noncomputable def r29_4 : {l : List Oper // opsOf (cAt [1, 0] B29) = l} := by
  apply Subtype.mk
  dsimp only [opsOf, cAt, kids, B29, bodyOf, Try.f29, List.getD, List.getElem?_cons_zero, List.getElem?_cons_succ, Option.getD_some]
@[simp] theorem n29_4 (s : List V) (H : Heap) : evCode P Γ call n f m (cAt [1, 0] B29) s H = regNext (evOpsGo P Γ call r29_4.1 r29_4.1 s H) := at_region (by kernel_rfl) r29_4.2 s H
attribute [simp] r29_4
@[simp] theorem n29_5 (s : List V) (H : Heap) : evCode P Γ call n f m (cAt [1, 1] B29) s H = some (.ret, s, H) := at_ret (by kernel_rfl) s H
theorem b29 {k : Nat} (ho : ∀ args H, Γ.orc 29 args H = none) (args : List V) (H : Heap) (ha : args.length ≤ 16) : evF Try.prog Γ (k + 1) 29 args H = bodyEnd Try.prog [.tmp 3] H.length (evCode Try.prog Γ (evF Try.prog Γ k) k 29 H.length (cAt [] B29) (mkL 16 V.undef (enumV 0 args)) H) := body_at Try.func29 (by decide) rfl ho rfl rfl args H ha
noncomputable def B47 : Code := bodyOf Try.f47
noncomputable def r47_1 : {l : List Oper // opsOf (cAt [] B47) = l} := by
  apply Subtype.mk
  dsimp only [opsOf, cAt, kids, B47, bodyOf, Try.f47, List.getD, List.getElem?_cons_zero, List.getElem?_cons_succ, Option.getD_some]
@[simp] theorem n47_1 (s : List V) (H : Heap) : evCode P Γ call n f m (cAt [] B47) s H = regNext (evOpsGo P Γ call r47_1.1 r47_1.1 s H) := at_region (by kernel_rfl) r47_1.2 s H
attribute [simp] r47_1
theorem b47 {k : Nat} (ho : ∀ args H, Γ.orc 47 args H = none) (args : List V) (H : Heap) (ha : args.length ≤ 9) : evF Try.prog Γ (k + 1) 47 args H = bodyEnd Try.prog [] H.length (evCode Try.prog Γ (evF Try.prog Γ k) k 47 H.length (cAt [] B47) (mkL 9 V.undef (enumV 0 args)) H) := body_at Try.func47 (by decide) rfl ho rfl rfl args H ha
noncomputable def B48 : Code := bodyOf Try.f48
@[simp] theorem n48_1 (s : List V) (H : Heap) : evCode P Γ call n f m (cAt [] B48) s H = seqNext P Γ call n f m (cAt [1] B48) (evCode P Γ call n f m (cAt [0] B48) s H) := at_seq (by kernel_rfl) rfl rfl s H
noncomputable def r48_2 : {l : List Oper // opsOf (cAt [0] B48) = l} := by
  apply Subtype.mk
  dsimp only [opsOf, cAt, kids, B48, bodyOf, Try.f48, List.getD, List.getElem?_cons_zero, List.getElem?_cons_succ, Option.getD_some]
@[simp] theorem n48_2 (s : List V) (H : Heap) : evCode P Γ call n f m (cAt [0] B48) s H = regNext (evOpsGo P Γ call r48_2.1 r48_2.1 s H) := at_region (by kernel_rfl) r48_2.2 s H
attribute [simp] r48_2
@[simp] theorem n48_3 (s : List V) (H : Heap) : evCode P Γ call n f m (cAt [1] B48) s H = seqNext P Γ call n f m (cAt [1, 1] B48) (evCode P Γ call n f m (cAt [1, 0] B48) s H) := at_seq (by kernel_rfl) rfl rfl s H
noncomputable def r48_4 : {l : List Oper // opsOf (cAt [1, 0] B48) = l} := by
  apply Subtype.mk
  dsimp only [opsOf, cAt, kids, B48, bodyOf, Try.f48, List.getD, List.getElem?_cons_zero, List.getElem?_cons_succ, Option.getD_some]
@[simp] theorem n48_4 (s : List V) (H : Heap) : evCode P Γ call n f m (cAt [1, 0] B48) s H = regNext (evOpsGo P Γ call r48_4.1 r48_4.1 s H) := at_region (by kernel_rfl) r48_4.2 s H
attribute [simp] r48_4
@[simp] theorem n48_5 (s : List V) (H : Heap) : evCode P Γ call n f m (cAt [1, 1] B48) s H = some (.ret, s, H) := at_ret (by kernel_rfl) s H
theorem b48 {k : Nat} (ho : ∀ args H, Γ.orc 48 args H = none) (args : List V) (H : Heap) (ha : args.length ≤ 10) : evF Try.prog Γ (k + 1) 48 args H = bodyEnd Try.prog [.tmp 4] H.length (evCode Try.prog Γ (evF Try.prog Γ k) k 48 H.length (cAt [] B48) (mkL 10 V.undef (enumV 0 args)) H) := body_at Try.func48 (by decide) rfl ho rfl rfl args H ha
noncomputable def B56 : Code := bodyOf Try.f56
@[simp] theorem n56_1 (s : List V) (H : Heap) : evCode P Γ call n f m (cAt [] B56) s H = seqNext P Γ call n f m (cAt [1] B56) (evCode P Γ call n f m (cAt [0] B56) s H) := at_seq (by kernel_rfl) rfl rfl s H
noncomputable def r56_2 : {l : List Oper // opsOf (cAt [0] B56) = l} := by
  apply Subtype.mk
  dsimp only [opsOf, cAt, kids, B56, bodyOf, Try.f56, List.getD, List.getElem?_cons_zero, List.getElem?_cons_succ, Option.getD_some]
@[simp] theorem n56_2 (s : List V) (H : Heap) : evCode P Γ call n f m (cAt [0] B56) s H = regNext (evOpsGo P Γ call r56_2.1 r56_2.1 s H) := at_region (by kernel_rfl) r56_2.2 s H
attribute [simp] r56_2
@[simp] theorem n56_3 (s : List V) (H : Heap) : evCode P Γ call n f m (cAt [1] B56) s H = seqNext P Γ call n f m (cAt [1, 1] B56) (evCode P Γ call n f m (cAt [1, 0] B56) s H) := at_seq (by kernel_rfl) rfl rfl s H
noncomputable def r56_4 : {l : List Oper // opsOf (cAt [1, 0] B56) = l} := by
  apply Subtype.mk
  dsimp only [opsOf, cAt, kids, B56, bodyOf, Try.f56, List.getD, List.getElem?_cons_zero, List.getElem?_cons_succ, Option.getD_some]
@[simp] theorem n56_4 (s : List V) (H : Heap) : evCode P Γ call n f m (cAt [1, 0] B56) s H = regNext (evOpsGo P Γ call r56_4.1 r56_4.1 s H) := at_region (by kernel_rfl) r56_4.2 s H
attribute [simp] r56_4
@[simp] theorem n56_5 (s : List V) (H : Heap) : evCode P Γ call n f m (cAt [1, 1] B56) s H = seqNext P Γ call n f m (cAt [1, 1, 1] B56) (evCode P Γ call n f m (cAt [1, 1, 0] B56) s H) := at_seq (by kernel_rfl) rfl rfl s H
@[simp] theorem n56_6 (s : List V) (H : Heap) : evCode P Γ call n f m (cAt [1, 1, 0] B56) s H = blockNext 0 (evCode P Γ call n f m (cAt [1, 1, 0, 0] B56) s H) := at_block (by kernel_rfl) rfl s H
@[simp] theorem n56_7 (s : List V) (H : Heap) : evCode P Γ call n f m (cAt [1, 1, 0, 0] B56) s H = evLoopC P Γ call n f m (cAt [1, 1, 0, 0, 0] B56) n s H := at_loop (by kernel_rfl) rfl s H
noncomputable abbrev L56_2 : Code := cAt [1, 1, 0, 0, 0] B56
@[simp] theorem n56_7f : firstRegion (cAt [1, 1, 0, 0, 0] B56) = 2 := by kernel_rfl
@[simp] theorem n56_8 (s : List V) (H : Heap) : evCode P Γ call n f m (cAt [1, 1, 0, 0, 0] B56) s H = seqNext P Γ call n f m (cAt [1, 1, 0, 0, 0, 1] B56) (evCode P Γ call n f m (cAt [1, 1, 0, 0, 0, 0] B56) s H) := at_seq (by kernel_rfl) rfl rfl s H
@[simp] theorem n56_9 (s : List V) (H : Heap) : evCode P Γ call n f m (cAt [1, 1, 0, 0, 0, 0] B56) s H = seqNext P Γ call n f m (cAt [1, 1, 0, 0, 0, 0, 1] B56) (evCode P Γ call n f m (cAt [1, 1, 0, 0, 0, 0, 0] B56) s H) := at_seq (by kernel_rfl) rfl rfl s H
noncomputable def r56_10 : {l : List Oper // opsOf (cAt [1, 1, 0, 0, 0, 0, 0] B56) = l} := by
  apply Subtype.mk
  dsimp only [opsOf, cAt, kids, B56, bodyOf, Try.f56, List.getD, List.getElem?_cons_zero, List.getElem?_cons_succ, Option.getD_some]
@[simp] theorem n56_10 (s : List V) (H : Heap) : evCode P Γ call n f m (cAt [1, 1, 0, 0, 0, 0, 0] B56) s H = regNext (evOpsGo P Γ call r56_10.1 r56_10.1 s H) := at_region (by kernel_rfl) r56_10.2 s H
attribute [simp] r56_10
@[simp] theorem n56_11 (s : List V) (H : Heap) : evCode P Γ call n f m (cAt [1, 1, 0, 0, 0, 0, 1] B56) s H = condW P Γ call n f m (cAt [1, 1, 0, 0, 0, 0, 1, 0] B56) (cAt [1, 1, 0, 0, 0, 0, 1, 1] B56) s H (evOperand Γ s (.tmp 13)) := at_cond (by kernel_rfl) (by kernel_rfl) rfl rfl s H
@[simp] theorem n56_12 (s : List V) (H : Heap) : evCode P Γ call n f m (cAt [1, 1, 0, 0, 0, 0, 1, 0] B56) s H = some (.normal, s, H) := at_skip (by kernel_rfl) s H
@[simp] theorem n56_13 (s : List V) (H : Heap) : evCode P Γ call n f m (cAt [1, 1, 0, 0, 0, 0, 1, 1] B56) s H = some (.exit 0, s, H) := at_exit (by kernel_rfl) s H
@[simp] theorem n56_14 (s : List V) (H : Heap) : evCode P Γ call n f m (cAt [1, 1, 0, 0, 0, 1] B56) s H = blockNext 1 (evCode P Γ call n f m (cAt [1, 1, 0, 0, 0, 1, 0] B56) s H) := at_block (by kernel_rfl) rfl s H
@[simp] theorem n56_15 (s : List V) (H : Heap) : evCode P Γ call n f m (cAt [1, 1, 0, 0, 0, 1, 0] B56) s H = seqNext P Γ call n f m (cAt [1, 1, 0, 0, 0, 1, 0, 1] B56) (evCode P Γ call n f m (cAt [1, 1, 0, 0, 0, 1, 0, 0] B56) s H) := at_seq (by kernel_rfl) rfl rfl s H
noncomputable def r56_16 : {l : List Oper // opsOf (cAt [1, 1, 0, 0, 0, 1, 0, 0] B56) = l} := by
  apply Subtype.mk
  dsimp only [opsOf, cAt, kids, B56, bodyOf, Try.f56, List.getD, List.getElem?_cons_zero, List.getElem?_cons_succ, Option.getD_some]
@[simp] theorem n56_16 (s : List V) (H : Heap) : evCode P Γ call n f m (cAt [1, 1, 0, 0, 0, 1, 0, 0] B56) s H = regNext (evOpsGo P Γ call r56_16.1 r56_16.1 s H) := at_region (by kernel_rfl) r56_16.2 s H
attribute [simp] r56_16
@[simp] theorem n56_17 (s : List V) (H : Heap) : evCode P Γ call n f m (cAt [1, 1, 0, 0, 0, 1, 0, 1] B56) s H = seqNext P Γ call n f m (cAt [1, 1, 0, 0, 0, 1, 0, 1, 1] B56) (evCode P Γ call n f m (cAt [1, 1, 0, 0, 0, 1, 0, 1, 0] B56) s H) := at_seq (by kernel_rfl) rfl rfl s H
noncomputable def r56_18 : {l : List Oper // opsOf (cAt [1, 1, 0, 0, 0, 1, 0, 1, 0] B56) = l} := by
  apply Subtype.mk
  dsimp only [opsOf, cAt, kids, B56, bodyOf, Try.f56, List.getD, List.getElem?_cons_zero, List.getElem?_cons_succ, Option.getD_some]
@[simp] theorem n56_18 (s : List V) (H : Heap) : evCode P Γ call n f m (cAt [1, 1, 0, 0, 0, 1, 0, 1, 0] B56) s H = regNext (evOpsGo P Γ call r56_18.1 r56_18.1 s H) := at_region (by kernel_rfl) r56_18.2 s H
attribute [simp] r56_18
noncomputable def r56_19 : {l : List Oper // opsOf (cAt [1, 1, 0, 0, 0, 1, 0, 1, 1] B56) = l} := by
  apply Subtype.mk
  dsimp only [opsOf, cAt, kids, B56, bodyOf, Try.f56, List.getD, List.getElem?_cons_zero, List.getElem?_cons_succ, Option.getD_some]
@[simp] theorem n56_19 (s : List V) (H : Heap) : evCode P Γ call n f m (cAt [1, 1, 0, 0, 0, 1, 0, 1, 1] B56) s H = regNext (evOpsGo P Γ call r56_19.1 r56_19.1 s H) := at_region (by kernel_rfl) r56_19.2 s H
attribute [simp] r56_19
@[simp] theorem n56_20 (s : List V) (H : Heap) : evCode P Γ call n f m (cAt [1, 1, 1] B56) s H = seqNext P Γ call n f m (cAt [1, 1, 1, 1] B56) (evCode P Γ call n f m (cAt [1, 1, 1, 0] B56) s H) := at_seq (by kernel_rfl) rfl rfl s H
noncomputable def r56_21 : {l : List Oper // opsOf (cAt [1, 1, 1, 0] B56) = l} := by
  apply Subtype.mk
  dsimp only [opsOf, cAt, kids, B56, bodyOf, Try.f56, List.getD, List.getElem?_cons_zero, List.getElem?_cons_succ, Option.getD_some]
@[simp] theorem n56_21 (s : List V) (H : Heap) : evCode P Γ call n f m (cAt [1, 1, 1, 0] B56) s H = regNext (evOpsGo P Γ call r56_21.1 r56_21.1 s H) := at_region (by kernel_rfl) r56_21.2 s H
attribute [simp] r56_21
@[simp] theorem n56_22 (s : List V) (H : Heap) : evCode P Γ call n f m (cAt [1, 1, 1, 1] B56) s H = blockNext 2 (evCode P Γ call n f m (cAt [1, 1, 1, 1, 0] B56) s H) := at_block (by kernel_rfl) rfl s H
@[simp] theorem n56_23 (s : List V) (H : Heap) : evCode P Γ call n f m (cAt [1, 1, 1, 1, 0] B56) s H = evLoopC P Γ call n f m (cAt [1, 1, 1, 1, 0, 0] B56) n s H := at_loop (by kernel_rfl) rfl s H
noncomputable abbrev L56_7 : Code := cAt [1, 1, 1, 1, 0, 0] B56
@[simp] theorem n56_23f : firstRegion (cAt [1, 1, 1, 1, 0, 0] B56) = 7 := by kernel_rfl
@[simp] theorem n56_24 (s : List V) (H : Heap) : evCode P Γ call n f m (cAt [1, 1, 1, 1, 0, 0] B56) s H = seqNext P Γ call n f m (cAt [1, 1, 1, 1, 0, 0, 1] B56) (evCode P Γ call n f m (cAt [1, 1, 1, 1, 0, 0, 0] B56) s H) := at_seq (by kernel_rfl) rfl rfl s H
@[simp] theorem n56_25 (s : List V) (H : Heap) : evCode P Γ call n f m (cAt [1, 1, 1, 1, 0, 0, 0] B56) s H = seqNext P Γ call n f m (cAt [1, 1, 1, 1, 0, 0, 0, 1] B56) (evCode P Γ call n f m (cAt [1, 1, 1, 1, 0, 0, 0, 0] B56) s H) := at_seq (by kernel_rfl) rfl rfl s H
noncomputable def r56_26 : {l : List Oper // opsOf (cAt [1, 1, 1, 1, 0, 0, 0, 0] B56) = l} := by
  apply Subtype.mk
  dsimp only [opsOf, cAt, kids, B56, bodyOf, Try.f56, List.getD, List.getElem?_cons_zero, List.getElem?_cons_succ, Option.getD_some]
@[simp] theorem n56_26 (s : List V) (H : Heap) : evCode P Γ call n f m (cAt [1, 1, 1, 1, 0, 0, 0, 0] B56) s H = regNext (evOpsGo P Γ call r56_26.1 r56_26.1 s H) := at_region (by kernel_rfl) r56_26.2 s H
attribute [simp] r56_26
@[simp] theorem n56_27 (s : List V) (H : Heap) : evCode P Γ call n f m (cAt [1, 1, 1, 1, 0, 0, 0, 1] B56) s H = condW P Γ call n f m (cAt [1, 1, 1, 1, 0, 0, 0, 1, 0] B56) (cAt [1, 1, 1, 1, 0, 0, 0, 1, 1] B56) s H (evOperand Γ s (.tmp 30)) := at_cond (by kernel_rfl) (by kernel_rfl) rfl rfl s H
@[simp] theorem n56_28 (s : List V) (H : Heap) : evCode P Γ call n f m (cAt [1, 1, 1, 1, 0, 0, 0, 1, 0] B56) s H = some (.normal, s, H) := at_skip (by kernel_rfl) s H
@[simp] theorem n56_29 (s : List V) (H : Heap) : evCode P Γ call n f m (cAt [1, 1, 1, 1, 0, 0, 0, 1, 1] B56) s H = some (.exit 2, s, H) := at_exit (by kernel_rfl) s H
@[simp] theorem n56_30 (s : List V) (H : Heap) : evCode P Γ call n f m (cAt [1, 1, 1, 1, 0, 0, 1] B56) s H = blockNext 3 (evCode P Γ call n f m (cAt [1, 1, 1, 1, 0, 0, 1, 0] B56) s H) := at_block (by kernel_rfl) rfl s H
@[simp] theorem n56_31 (s : List V) (H : Heap) : evCode P Γ call n f m (cAt [1, 1, 1, 1, 0, 0, 1, 0] B56) s H = seqNext P Γ call n f m (cAt [1, 1, 1, 1, 0, 0, 1, 0, 1] B56) (evCode P Γ call n f m (cAt [1, 1, 1, 1, 0, 0, 1, 0, 0] B56) s H) := at_seq (by kernel_rfl) rfl rfl s H
noncomputable def r56_32 : {l : List Oper // opsOf (cAt [1, 1, 1, 1, 0, 0, 1, 0, 0] B56) = l} := by
  apply Subtype.mk
  dsimp only [opsOf, cAt, kids, B56, bodyOf, Try.f56, List.getD, List.getElem?_cons_zero, List.getElem?_cons_succ, Option.getD_some]
@[simp] theorem n56_32 (s : List V) (H : Heap) : evCode P Γ call n f m (cAt [1, 1, 1, 1, 0, 0, 1, 0, 0] B56) s H = regNext (evOpsGo P Γ call r56_32.1 r56_32.1 s H) := at_region (by kernel_rfl) r56_32.2 s H
attribute [simp] r56_32
@[simp] theorem n56_33 (s : List V) (H : Heap) : evCode P Γ call n f m (cAt [1, 1, 1, 1, 0, 0, 1, 0, 1] B56) s H = seqNext P Γ call n f m (cAt [1, 1, 1, 1, 0, 0, 1, 0, 1, 1] B56) (evCode P Γ call n f m (cAt [1, 1, 1, 1, 0, 0, 1, 0, 1, 0] B56) s H) := at_seq (by kernel_rfl) rfl rfl s H
@[simp] theorem n56_34 (s : List V) (H : Heap) : evCode P Γ call n f m (cAt [1, 1, 1, 1, 0, 0, 1, 0, 1, 0] B56) s H = blockNext 4 (evCode P Γ call n f m (cAt [1, 1, 1, 1, 0, 0, 1, 0, 1, 0, 0] B56) s H) := at_block (by kernel_rfl) rfl s H
@[simp] theorem n56_35 (s : List V) (H : Heap) : evCode P Γ call n f m (cAt [1, 1, 1, 1, 0, 0, 1, 0, 1, 0, 0] B56) s H = evLoopC P Γ call n f m (cAt [1, 1, 1, 1, 0, 0, 1, 0, 1, 0, 0, 0] B56) n s H := at_loop (by kernel_rfl) rfl s H
noncomputable abbrev L56_9 : Code := cAt [1, 1, 1, 1, 0, 0, 1, 0, 1, 0, 0, 0] B56
@[simp] theorem n56_35f : firstRegion (cAt [1, 1, 1, 1, 0, 0, 1, 0, 1, 0, 0, 0] B56) = 9 := by kernel_rfl
@[simp] theorem n56_36 (s : List V) (H : Heap) : evCode P Γ call n f m (cAt [1, 1, 1, 1, 0, 0, 1, 0, 1, 0, 0, 0] B56) s H = seqNext P Γ call n f m (cAt [1, 1, 1, 1, 0, 0, 1, 0, 1, 0, 0, 0, 1] B56) (evCode P Γ call n f m (cAt [1, 1, 1, 1, 0, 0, 1, 0, 1, 0, 0, 0, 0] B56) s H) := at_seq (by kernel_rfl) rfl rfl s H
@[simp] theorem n56_37 (s : List V) (H : Heap) : evCode P Γ call n f m (cAt [1, 1, 1, 1, 0, 0, 1, 0, 1, 0, 0, 0, 0] B56) s H = seqNext P Γ call n f m (cAt [1, 1, 1, 1, 0, 0, 1, 0, 1, 0, 0, 0, 0, 1] B56) (evCode P Γ call n f m (cAt [1, 1, 1, 1, 0, 0, 1, 0, 1, 0, 0, 0, 0, 0] B56) s H) := at_seq (by kernel_rfl) rfl rfl s H
noncomputable def r56_38 : {l : List Oper // opsOf (cAt [1, 1, 1, 1, 0, 0, 1, 0, 1, 0, 0, 0, 0, 0] B56) = l} := by
  apply Subtype.mk
  dsimp only [opsOf, cAt, kids, B56, bodyOf, Try.f56, List.getD, List.getElem?_cons_zero, List.getElem?_cons_succ, Option.getD_some]
@[simp] theorem n56_38 (s : List V) (H : Heap) : evCode P Γ call n f m (cAt [1, 1, 1, 1, 0, 0, 1, 0, 1, 0, 0, 0, 0, 0] B56) s H = regNext (evOpsGo P Γ call r56_38.1 r56_38.1 s H) := at_region (by kernel_rfl) r56_38.2 s H
attribute [simp] r56_38
@[simp] theorem n56_39 (s : List V) (H : Heap) : evCode P Γ call n f m (cAt [1, 1, 1, 1, 0, 0, 1, 0, 1, 0, 0, 0, 0, 1] B56) s H = condW P Γ call n f m (cAt [1, 1, 1, 1, 0, 0, 1, 0, 1, 0, 0, 0, 0, 1, 0] B56) (cAt [1, 1, 1, 1, 0, 0, 1, 0, 1, 0, 0, 0, 0, 1, 1] B56) s H (evOperand Γ s (.tmp 35)) := at_cond (by kernel_rfl) (by kernel_rfl) rfl rfl s H
@[simp] theorem n56_40 (s : List V) (H : Heap) : evCode P Γ call n f m (cAt [1, 1, 1, 1, 0, 0, 1, 0, 1, 0, 0, 0, 0, 1, 0] B56) s H = some (.normal, s, H) := at_skip (by kernel_rfl) s H
@[simp] theorem n56_41 (s : List V) (H : Heap) : evCode P Γ call n f m (cAt [1, 1, 1, 1, 0, 0, 1, 0, 1, 0, 0, 0, 0, 1, 1] B56) s H = some (.exit 4, s, H) := at_exit (by kernel_rfl) s H
@[simp] theorem n56_42 (s : List V) (H : Heap) : evCode P Γ call n f m (cAt [1, 1, 1, 1, 0, 0, 1, 0, 1, 0, 0, 0, 1] B56) s H = blockNext 5 (evCode P Γ call n f m (cAt [1, 1, 1, 1, 0, 0, 1, 0, 1, 0, 0, 0, 1, 0] B56) s H) := at_block (by kernel_rfl) rfl s H
@[simp] theorem n56_43 (s : List V) (H : Heap) : evCode P Γ call n f m (cAt [1, 1, 1, 1, 0, 0, 1, 0, 1, 0, 0, 0, 1, 0] B56) s H = seqNext P Γ call n f m (cAt [1, 1, 1, 1, 0, 0, 1, 0, 1, 0, 0, 0, 1, 0, 1] B56) (evCode P Γ call n f m (cAt [1, 1, 1, 1, 0, 0, 1, 0, 1, 0, 0, 0, 1, 0, 0] B56) s H) := at_seq (by kernel_rfl) rfl rfl s H
noncomputable def r56_44 : {l : List Oper // opsOf (cAt [1, 1, 1, 1, 0, 0, 1, 0, 1, 0, 0, 0, 1, 0, 0] B56) = l} := by
  apply Subtype.mk
  dsimp only [opsOf, cAt, kids, B56, bodyOf, Try.f56, List.getD, List.getElem?_cons_zero, List.getElem?_cons_succ, Option.getD_some]
@[simp] theorem n56_44 (s : List V) (H : Heap) : evCode P Γ call n f m (cAt [1, 1, 1, 1, 0, 0, 1, 0, 1, 0, 0, 0, 1, 0, 0] B56) s H = regNext (evOpsGo P Γ call r56_44.1 r56_44.1 s H) := at_region (by kernel_rfl) r56_44.2 s H
attribute [simp] r56_44
@[simp] theorem n56_45 (s : List V) (H : Heap) : evCode P Γ call n f m (cAt [1, 1, 1, 1, 0, 0, 1, 0, 1, 0, 0, 0, 1, 0, 1] B56) s H = seqNext P Γ call n f m (cAt [1, 1, 1, 1, 0, 0, 1, 0, 1, 0, 0, 0, 1, 0, 1, 1] B56) (evCode P Γ call n f m (cAt [1, 1, 1, 1, 0, 0, 1, 0, 1, 0, 0, 0, 1, 0, 1, 0] B56) s H) := at_seq (by kernel_rfl) rfl rfl s H
noncomputable def r56_46 : {l : List Oper // opsOf (cAt [1, 1, 1, 1, 0, 0, 1, 0, 1, 0, 0, 0, 1, 0, 1, 0] B56) = l} := by
  apply Subtype.mk
  dsimp only [opsOf, cAt, kids, B56, bodyOf, Try.f56, List.getD, List.getElem?_cons_zero, List.getElem?_cons_succ, Option.getD_some]
@[simp] theorem n56_46 (s : List V) (H : Heap) : evCode P Γ call n f m (cAt [1, 1, 1, 1, 0, 0, 1, 0, 1, 0, 0, 0, 1, 0, 1, 0] B56) s H = regNext (evOpsGo P Γ call r56_46.1 r56_46.1 s H) := at_region (by kernel_rfl) r56_46.2 s H
attribute [simp] r56_46
noncomputable def r56_47 : {l : List Oper // opsOf (cAt [1, 1, 1, 1, 0, 0, 1, 0, 1, 0, 0, 0, 1, 0, 1, 1] B56) = l} := by
  apply Subtype.mk
  dsimp only [opsOf, cAt, kids, B56, bodyOf, Try.f56, List.getD, List.getElem?_cons_zero, List.getElem?_cons_succ, Option.getD_some]
@[simp] theorem n56_47 (s : List V) (H : Heap) : evCode P Γ call n f m (cAt [1, 1, 1, 1, 0, 0, 1, 0, 1, 0, 0, 0, 1, 0, 1, 1] B56) s H = regNext (evOpsGo P Γ call r56_47.1 r56_47.1 s H) := at_region (by kernel_rfl) r56_47.2 s H
attribute [simp] r56_47
@[simp] theorem n56_48 (s : List V) (H : Heap) : evCode P Γ call n f m (cAt [1, 1, 1, 1, 0, 0, 1, 0, 1, 1] B56) s H = seqNext P Γ call n f m (cAt [1, 1, 1, 1, 0, 0, 1, 0, 1, 1, 1] B56) (evCode P Γ call n f m (cAt [1, 1, 1, 1, 0, 0, 1, 0, 1, 1, 0] B56) s H) := at_seq (by kernel_rfl) rfl rfl s H
@[simp] theorem n56_49 (s : List V) (H : Heap) : evCode P Γ call n f m (cAt [1, 1, 1, 1, 0, 0, 1, 0, 1, 1, 0] B56) s H = seqNext P Γ call n f m (cAt [1, 1, 1, 1, 0, 0, 1, 0, 1, 1, 0, 1] B56) (evCode P Γ call n f m (cAt [1, 1, 1, 1, 0, 0, 1, 0, 1, 1, 0, 0] B56) s H) := at_seq (by kernel_rfl) rfl rfl s H
noncomputable def r56_50 : {l : List Oper // opsOf (cAt [1, 1, 1, 1, 0, 0, 1, 0, 1, 1, 0, 0] B56) = l} := by
  apply Subtype.mk
  dsimp only [opsOf, cAt, kids, B56, bodyOf, Try.f56, List.getD, List.getElem?_cons_zero, List.getElem?_cons_succ, Option.getD_some]
@[simp] theorem n56_50 (s : List V) (H : Heap) : evCode P Γ call n f m (cAt [1, 1, 1, 1, 0, 0, 1, 0, 1, 1, 0, 0] B56) s H = regNext (evOpsGo P Γ call r56_50.1 r56_50.1 s H) := at_region (by kernel_rfl) r56_50.2 s H
attribute [simp] r56_50
@[simp] theorem n56_51 (s : List V) (H : Heap) : evCode P Γ call n f m (cAt [1, 1, 1, 1, 0, 0, 1, 0, 1, 1, 0, 1] B56) s H = seqNext P Γ call n f m (cAt [1, 1, 1, 1, 0, 0, 1, 0, 1, 1, 0, 1, 1] B56) (evCode P Γ call n f m (cAt [1, 1, 1, 1, 0, 0, 1, 0, 1, 1, 0, 1, 0] B56) s H) := at_seq (by kernel_rfl) rfl rfl s H
noncomputable def r56_52 : {l : List Oper // opsOf (cAt [1, 1, 1, 1, 0, 0, 1, 0, 1, 1, 0, 1, 0] B56) = l} := by
  apply Subtype.mk
  dsimp only [opsOf, cAt, kids, B56, bodyOf, Try.f56, List.getD, List.getElem?_cons_zero, List.getElem?_cons_succ, Option.getD_some]
@[simp] theorem n56_52 (s : List V) (H : Heap) : evCode P Γ call n f m (cAt [1, 1, 1, 1, 0, 0, 1, 0, 1, 1, 0, 1, 0] B56) s H = regNext (evOpsGo P Γ call r56_52.1 r56_52.1 s H) := at_region (by kernel_rfl) r56_52.2 s H
attribute [simp] r56_52
@[simp] theorem n56_53 (s : List V) (H : Heap) : evCode P Γ call n f m (cAt [1, 1, 1, 1, 0, 0, 1, 0, 1, 1, 0, 1, 1] B56) s H = condW P Γ call n f m (cAt [1, 1, 1, 1, 0, 0, 1, 0, 1, 1, 0, 1, 1, 0] B56) (cAt [1, 1, 1, 1, 0, 0, 1, 0, 1, 1, 0, 1, 1, 1] B56) s H (evOperand Γ s (.tmp 54)) := at_cond (by kernel_rfl) (by kernel_rfl) rfl rfl s H
noncomputable def r56_54 : {l : List Oper // opsOf (cAt [1, 1, 1, 1, 0, 0, 1, 0, 1, 1, 0, 1, 1, 0] B56) = l} := by
  apply Subtype.mk
  dsimp only [opsOf, cAt, kids, B56, bodyOf, Try.f56, List.getD, List.getElem?_cons_zero, List.getElem?_cons_succ, Option.getD_some]
@[simp] theorem n56_54 (s : List V) (H : Heap) : evCode P Γ call n f m (cAt [1, 1, 1, 1, 0, 0, 1, 0, 1, 1, 0, 1, 1, 0] B56) s H = regNext (evOpsGo P Γ call r56_54.1 r56_54.1 s H) := at_region (by kernel_rfl) r56_54.2 s H
attribute [simp] r56_54
@[simp] theorem n56_55 (s : List V) (H : Heap) : evCode P Γ call n f m (cAt [1, 1, 1, 1, 0, 0, 1, 0, 1, 1, 0, 1, 1, 1] B56) s H = some (.normal, s, H) := at_skip (by kernel_rfl) s H
noncomputable def r56_56 : {l : List Oper // opsOf (cAt [1, 1, 1, 1, 0, 0, 1, 0, 1, 1, 1] B56) = l} := by
  apply Subtype.mk
  dsimp only [opsOf, cAt, kids, B56, bodyOf, Try.f56, List.getD, List.getElem?_cons_zero, List.getElem?_cons_succ, Option.getD_some]
@[simp] theorem n56_56 (s : List V) (H : Heap) : evCode P Γ call n f m (cAt [1, 1, 1, 1, 0, 0, 1, 0, 1, 1, 1] B56) s H = regNext (evOpsGo P Γ call r56_56.1 r56_56.1 s H) := at_region (by kernel_rfl) r56_56.2 s H
attribute [simp] r56_56
theorem b56 {k : Nat} (ho : ∀ args H, Γ.orc 56 args H = none) (args : List V) (H : Heap) (ha : args.length ≤ 63) : evF Try.prog Γ (k + 1) 56 args H = bodyEnd Try.prog [] H.length (evCode Try.prog Γ (evF Try.prog Γ k) k 56 H.length (cAt [] B56) (mkL 63 V.undef (enumV 0 args)) H) := body_at Try.func56 (by decide) rfl ho rfl rfl args H ha
end
end Go.Ev.Try
