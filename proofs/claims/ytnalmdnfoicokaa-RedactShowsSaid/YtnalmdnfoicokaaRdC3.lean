/-
  CODE BY NAMES, printed by wip/tools/codes.py (own work).
-/
import Derived.Test.YtnalmdnfoicokaaRdG
set_option maxRecDepth 100000
set_option linter.unusedVariables false
namespace Go.Ev.Try
open Go Go.Ev Go.Proofs
section
variable {P : Program} {Γ : Env} {call : CallF} {n f m : Nat}

noncomputable def B24 : Code := bodyOf Try.f24
@[simp] theorem n24_1 (s : List V) (H : Heap) : evCode P Γ call n f m (cAt [] B24) s H = seqNext P Γ call n f m (cAt [1] B24) (evCode P Γ call n f m (cAt [0] B24) s H) := at_seq (by kernel_rfl) rfl rfl s H
noncomputable def r24_2 : {l : List Oper // opsOf (cAt [0] B24) = l} := by
  apply Subtype.mk
  dsimp only [opsOf, cAt, kids, B24, bodyOf, Try.f24, List.getD, List.getElem?_cons_zero, List.getElem?_cons_succ, Option.getD_some]
@[simp] theorem n24_2 (s : List V) (H : Heap) : evCode P Γ call n f m (cAt [0] B24) s H = regNext (evOpsGo P Γ call r24_2.1 r24_2.1 s H) := at_region (by kernel_rfl) r24_2.2 s H
attribute [simp] r24_2
@[simp] theorem n24_3 (s : List V) (H : Heap) : evCode P Γ call n f m (cAt [1] B24) s H = seqNext P Γ call n f m (cAt [1, 1] B24) (evCode P Γ call n f m (cAt [1, 0] B24) s H) := at_seq (by kernel_rfl) rfl rfl s H
@[simp] theorem n24_4 (s : List V) (H : Heap) : evCode P Γ call n f m (cAt [1, 0] B24) s H = seqNext P Γ call n f m (cAt [1, 0, 1] B24) (evCode P Γ call n f m (cAt [1, 0, 0] B24) s H) := at_seq (by kernel_rfl) rfl rfl s H
noncomputable def r24_5 : {l : List Oper // opsOf (cAt [1, 0, 0] B24) = l} := by
  apply Subtype.mk
  dsimp only [opsOf, cAt, kids, B24, bodyOf, Try.f24, List.getD, List.getElem?_cons_zero, List.getElem?_cons_succ, Option.getD_some]
@[simp] theorem n24_5 (s : List V) (H : Heap) : evCode P Γ call n f m (cAt [1, 0, 0] B24) s H = regNext (evOpsGo P Γ call r24_5.1 r24_5.1 s H) := at_region (by kernel_rfl) r24_5.2 s H
attribute [simp] r24_5
@[simp] theorem n24_6 (s : List V) (H : Heap) : evCode P Γ call n f m (cAt [1, 0, 1] B24) s H = seqNext P Γ call n f m (cAt [1, 0, 1, 1] B24) (evCode P Γ call n f m (cAt [1, 0, 1, 0] B24) s H) := at_seq (by kernel_rfl) rfl rfl s H
noncomputable def r24_7 : {l : List Oper // opsOf (cAt [1, 0, 1, 0] B24) = l} := by
  apply Subtype.mk
  dsimp only [opsOf, cAt, kids, B24, bodyOf, Try.f24, List.getD, List.getElem?_cons_zero, List.getElem?_cons_succ, Option.getD_some]
@[simp] theorem n24_7 (s : List V) (H : Heap) : evCode P Γ call n f m (cAt [1, 0, 1, 0] B24) s H = regNext (evOpsGo P Γ call r24_7.1 r24_7.1 s H) := at_region (by kernel_rfl) r24_7.2 s H
attribute [simp] r24_7
@[simp] theorem n24_8 (s : List V) (H : Heap) : evCode P Γ call n f m (cAt [1, 0, 1, 1] B24) s H = condW P Γ call n f m (cAt [1, 0, 1, 1, 0] B24) (cAt [1, 0, 1, 1, 1] B24) s H (evOperand Γ s (.tmp 16)) := at_cond (by kernel_rfl) (by kernel_rfl) rfl rfl s H
@[simp] theorem n24_9 (s : List V) (H : Heap) : evCode P Γ call n f m (cAt [1, 0, 1, 1, 0] B24) s H = seqNext P Γ call n f m (cAt [1, 0, 1, 1, 0, 1] B24) (evCode P Γ call n f m (cAt [1, 0, 1, 1, 0, 0] B24) s H) := at_seq (by kernel_rfl) rfl rfl s H
noncomputable def r24_10 : {l : List Oper // opsOf (cAt [1, 0, 1, 1, 0, 0] B24) = l} := by
  apply Subtype.mk
  dsimp only [opsOf, cAt, kids, B24, bodyOf, Try.f24, List.getD, List.getElem?_cons_zero, List.getElem?_cons_succ, Option.getD_some]
@[simp] theorem n24_10 (s : List V) (H : Heap) : evCode P Γ call n f m (cAt [1, 0, 1, 1, 0, 0] B24) s H = regNext (evOpsGo P Γ call r24_10.1 r24_10.1 s H) := at_region (by kernel_rfl) r24_10.2 s H
attribute [simp] r24_10
@[simp] theorem n24_11 (s : List V) (H : Heap) : evCode P Γ call n f m (cAt [1, 0, 1, 1, 0, 1] B24) s H = some (.ret, s, H) := at_ret (by kernel_rfl) s H
@[simp] theorem n24_12 (s : List V) (H : Heap) : evCode P Γ call n f m (cAt [1, 0, 1, 1, 1] B24) s H = some (.normal, s, H) := at_skip (by kernel_rfl) s H
@[simp] theorem n24_13 (s : List V) (H : Heap) : evCode P Γ call n f m (cAt [1, 1] B24) s H = seqNext P Γ call n f m (cAt [1, 1, 1] B24) (evCode P Γ call n f m (cAt [1, 1, 0] B24) s H) := at_seq (by kernel_rfl) rfl rfl s H
@[simp] theorem n24_14 (s : List V) (H : Heap) : evCode P Γ call n f m (cAt [1, 1, 0] B24) s H = seqNext P Γ call n f m (cAt [1, 1, 0, 1] B24) (evCode P Γ call n f m (cAt [1, 1, 0, 0] B24) s H) := at_seq (by kernel_rfl) rfl rfl s H
noncomputable def r24_15 : {l : List Oper // opsOf (cAt [1, 1, 0, 0] B24) = l} := by
  apply Subtype.mk
  dsimp only [opsOf, cAt, kids, B24, bodyOf, Try.f24, List.getD, List.getElem?_cons_zero, List.getElem?_cons_succ, Option.getD_some]
@[simp] theorem n24_15 (s : List V) (H : Heap) : evCode P Γ call n f m (cAt [1, 1, 0, 0] B24) s H = regNext (evOpsGo P Γ call r24_15.1 r24_15.1 s H) := at_region (by kernel_rfl) r24_15.2 s H
attribute [simp] r24_15
@[simp] theorem n24_16 (s : List V) (H : Heap) : evCode P Γ call n f m (cAt [1, 1, 0, 1] B24) s H = condW P Γ call n f m (cAt [1, 1, 0, 1, 0] B24) (cAt [1, 1, 0, 1, 1] B24) s H (evOperand Γ s (.tmp 21)) := at_cond (by kernel_rfl) (by kernel_rfl) rfl rfl s H
@[simp] theorem n24_17 (s : List V) (H : Heap) : evCode P Γ call n f m (cAt [1, 1, 0, 1, 0] B24) s H = seqNext P Γ call n f m (cAt [1, 1, 0, 1, 0, 1] B24) (evCode P Γ call n f m (cAt [1, 1, 0, 1, 0, 0] B24) s H) := at_seq (by kernel_rfl) rfl rfl s H
noncomputable def r24_18 : {l : List Oper // opsOf (cAt [1, 1, 0, 1, 0, 0] B24) = l} := by
  apply Subtype.mk
  dsimp only [opsOf, cAt, kids, B24, bodyOf, Try.f24, List.getD, List.getElem?_cons_zero, List.getElem?_cons_succ, Option.getD_some]
@[simp] theorem n24_18 (s : List V) (H : Heap) : evCode P Γ call n f m (cAt [1, 1, 0, 1, 0, 0] B24) s H = regNext (evOpsGo P Γ call r24_18.1 r24_18.1 s H) := at_region (by kernel_rfl) r24_18.2 s H
attribute [simp] r24_18
@[simp] theorem n24_19 (s : List V) (H : Heap) : evCode P Γ call n f m (cAt [1, 1, 0, 1, 0, 1] B24) s H = some (.ret, s, H) := at_ret (by kernel_rfl) s H
@[simp] theorem n24_20 (s : List V) (H : Heap) : evCode P Γ call n f m (cAt [1, 1, 0, 1, 1] B24) s H = some (.normal, s, H) := at_skip (by kernel_rfl) s H
@[simp] theorem n24_21 (s : List V) (H : Heap) : evCode P Γ call n f m (cAt [1, 1, 1] B24) s H = seqNext P Γ call n f m (cAt [1, 1, 1, 1] B24) (evCode P Γ call n f m (cAt [1, 1, 1, 0] B24) s H) := at_seq (by kernel_rfl) rfl rfl s H
@[simp] theorem n24_22 (s : List V) (H : Heap) : evCode P Γ call n f m (cAt [1, 1, 1, 0] B24) s H = seqNext P Γ call n f m (cAt [1, 1, 1, 0, 1] B24) (evCode P Γ call n f m (cAt [1, 1, 1, 0, 0] B24) s H) := at_seq (by kernel_rfl) rfl rfl s H
noncomputable def r24_23 : {l : List Oper // opsOf (cAt [1, 1, 1, 0, 0] B24) = l} := by
  apply Subtype.mk
  dsimp only [opsOf, cAt, kids, B24, bodyOf, Try.f24, List.getD, List.getElem?_cons_zero, List.getElem?_cons_succ, Option.getD_some]
@[simp] theorem n24_23 (s : List V) (H : Heap) : evCode P Γ call n f m (cAt [1, 1, 1, 0, 0] B24) s H = regNext (evOpsGo P Γ call r24_23.1 r24_23.1 s H) := at_region (by kernel_rfl) r24_23.2 s H
attribute [simp] r24_23
@[simp] theorem n24_24 (s : List V) (H : Heap) : evCode P Γ call n f m (cAt [1, 1, 1, 0, 1] B24) s H = blockNext 0 (evCode P Γ call n f m (cAt [1, 1, 1, 0, 1, 0] B24) s H) := at_block (by kernel_rfl) rfl s H
@[simp] theorem n24_25 (s : List V) (H : Heap) : evCode P Γ call n f m (cAt [1, 1, 1, 0, 1, 0] B24) s H = evLoopC P Γ call n f m (cAt [1, 1, 1, 0, 1, 0, 0] B24) n s H := at_loop (by kernel_rfl) rfl s H
noncomputable abbrev L24_7 : Code := cAt [1, 1, 1, 0, 1, 0, 0] B24
@[simp] theorem n24_25f : firstRegion (cAt [1, 1, 1, 0, 1, 0, 0] B24) = 7 := by kernel_rfl
@[simp] theorem n24_26 (s : List V) (H : Heap) : evCode P Γ call n f m (cAt [1, 1, 1, 0, 1, 0, 0] B24) s H = seqNext P Γ call n f m (cAt [1, 1, 1, 0, 1, 0, 0, 1] B24) (evCode P Γ call n f m (cAt [1, 1, 1, 0, 1, 0, 0, 0] B24) s H) := at_seq (by kernel_rfl) rfl rfl s H
noncomputable def r24_27 : {l : List Oper // opsOf (cAt [1, 1, 1, 0, 1, 0, 0, 0] B24) = l} := by
  apply Subtype.mk
  dsimp only [opsOf, cAt, kids, B24, bodyOf, Try.f24, List.getD, List.getElem?_cons_zero, List.getElem?_cons_succ, Option.getD_some]
@[simp] theorem n24_27 (s : List V) (H : Heap) : evCode P Γ call n f m (cAt [1, 1, 1, 0, 1, 0, 0, 0] B24) s H = regNext (evOpsGo P Γ call r24_27.1 r24_27.1 s H) := at_region (by kernel_rfl) r24_27.2 s H
attribute [simp] r24_27
@[simp] theorem n24_28 (s : List V) (H : Heap) : evCode P Γ call n f m (cAt [1, 1, 1, 0, 1, 0, 0, 1] B24) s H = seqNext P Γ call n f m (cAt [1, 1, 1, 0, 1, 0, 0, 1, 1] B24) (evCode P Γ call n f m (cAt [1, 1, 1, 0, 1, 0, 0, 1, 0] B24) s H) := at_seq (by kernel_rfl) rfl rfl s H
@[simp] theorem n24_29 (s : List V) (H : Heap) : evCode P Γ call n f m (cAt [1, 1, 1, 0, 1, 0, 0, 1, 0] B24) s H = condW P Γ call n f m (cAt [1, 1, 1, 0, 1, 0, 0, 1, 0, 0] B24) (cAt [1, 1, 1, 0, 1, 0, 0, 1, 0, 1] B24) s H (evOperand Γ s (.tmp 26)) := at_cond (by kernel_rfl) (by kernel_rfl) rfl rfl s H
@[simp] theorem n24_30 (s : List V) (H : Heap) : evCode P Γ call n f m (cAt [1, 1, 1, 0, 1, 0, 0, 1, 0, 0] B24) s H = some (.normal, s, H) := at_skip (by kernel_rfl) s H
@[simp] theorem n24_31 (s : List V) (H : Heap) : evCode P Γ call n f m (cAt [1, 1, 1, 0, 1, 0, 0, 1, 0, 1] B24) s H = some (.exit 0, s, H) := at_exit (by kernel_rfl) s H
@[simp] theorem n24_32 (s : List V) (H : Heap) : evCode P Γ call n f m (cAt [1, 1, 1, 0, 1, 0, 0, 1, 1] B24) s H = seqNext P Γ call n f m (cAt [1, 1, 1, 0, 1, 0, 0, 1, 1, 1] B24) (evCode P Γ call n f m (cAt [1, 1, 1, 0, 1, 0, 0, 1, 1, 0] B24) s H) := at_seq (by kernel_rfl) rfl rfl s H
@[simp] theorem n24_33 (s : List V) (H : Heap) : evCode P Γ call n f m (cAt [1, 1, 1, 0, 1, 0, 0, 1, 1, 0] B24) s H = blockNext 1 (evCode P Γ call n f m (cAt [1, 1, 1, 0, 1, 0, 0, 1, 1, 0, 0] B24) s H) := at_block (by kernel_rfl) rfl s H
@[simp] theorem n24_34 (s : List V) (H : Heap) : evCode P Γ call n f m (cAt [1, 1, 1, 0, 1, 0, 0, 1, 1, 0, 0] B24) s H = seqNext P Γ call n f m (cAt [1, 1, 1, 0, 1, 0, 0, 1, 1, 0, 0, 1] B24) (evCode P Γ call n f m (cAt [1, 1, 1, 0, 1, 0, 0, 1, 1, 0, 0, 0] B24) s H) := at_seq (by kernel_rfl) rfl rfl s H
noncomputable def r24_35 : {l : List Oper // opsOf (cAt [1, 1, 1, 0, 1, 0, 0, 1, 1, 0, 0, 0] B24) = l} := by
  apply Subtype.mk
  dsimp only [opsOf, cAt, kids, B24, bodyOf, Try.f24, List.getD, List.getElem?_cons_zero, List.getElem?_cons_succ, Option.getD_some]
@[simp] theorem n24_35 (s : List V) (H : Heap) : evCode P Γ call n f m (cAt [1, 1, 1, 0, 1, 0, 0, 1, 1, 0, 0, 0] B24) s H = regNext (evOpsGo P Γ call r24_35.1 r24_35.1 s H) := at_region (by kernel_rfl) r24_35.2 s H
attribute [simp] r24_35
@[simp] theorem n24_36 (s : List V) (H : Heap) : evCode P Γ call n f m (cAt [1, 1, 1, 0, 1, 0, 0, 1, 1, 0, 0, 1] B24) s H = seqNext P Γ call n f m (cAt [1, 1, 1, 0, 1, 0, 0, 1, 1, 0, 0, 1, 1] B24) (evCode P Γ call n f m (cAt [1, 1, 1, 0, 1, 0, 0, 1, 1, 0, 0, 1, 0] B24) s H) := at_seq (by kernel_rfl) rfl rfl s H
noncomputable def r24_37 : {l : List Oper // opsOf (cAt [1, 1, 1, 0, 1, 0, 0, 1, 1, 0, 0, 1, 0] B24) = l} := by
  apply Subtype.mk
  dsimp only [opsOf, cAt, kids, B24, bodyOf, Try.f24, List.getD, List.getElem?_cons_zero, List.getElem?_cons_succ, Option.getD_some]
@[simp] theorem n24_37 (s : List V) (H : Heap) : evCode P Γ call n f m (cAt [1, 1, 1, 0, 1, 0, 0, 1, 1, 0, 0, 1, 0] B24) s H = regNext (evOpsGo P Γ call r24_37.1 r24_37.1 s H) := at_region (by kernel_rfl) r24_37.2 s H
attribute [simp] r24_37
@[simp] theorem n24_38 (s : List V) (H : Heap) : evCode P Γ call n f m (cAt [1, 1, 1, 0, 1, 0, 0, 1, 1, 0, 0, 1, 1] B24) s H = condW P Γ call n f m (cAt [1, 1, 1, 0, 1, 0, 0, 1, 1, 0, 0, 1, 1, 0] B24) (cAt [1, 1, 1, 0, 1, 0, 0, 1, 1, 0, 0, 1, 1, 1] B24) s H (evOperand Γ s (.tmp 41)) := at_cond (by kernel_rfl) (by kernel_rfl) rfl rfl s H
@[simp] theorem n24_39 (s : List V) (H : Heap) : evCode P Γ call n f m (cAt [1, 1, 1, 0, 1, 0, 0, 1, 1, 0, 0, 1, 1, 0] B24) s H = seqNext P Γ call n f m (cAt [1, 1, 1, 0, 1, 0, 0, 1, 1, 0, 0, 1, 1, 0, 1] B24) (evCode P Γ call n f m (cAt [1, 1, 1, 0, 1, 0, 0, 1, 1, 0, 0, 1, 1, 0, 0] B24) s H) := at_seq (by kernel_rfl) rfl rfl s H
noncomputable def r24_40 : {l : List Oper // opsOf (cAt [1, 1, 1, 0, 1, 0, 0, 1, 1, 0, 0, 1, 1, 0, 0] B24) = l} := by
  apply Subtype.mk
  dsimp only [opsOf, cAt, kids, B24, bodyOf, Try.f24, List.getD, List.getElem?_cons_zero, List.getElem?_cons_succ, Option.getD_some]
@[simp] theorem n24_40 (s : List V) (H : Heap) : evCode P Γ call n f m (cAt [1, 1, 1, 0, 1, 0, 0, 1, 1, 0, 0, 1, 1, 0, 0] B24) s H = regNext (evOpsGo P Γ call r24_40.1 r24_40.1 s H) := at_region (by kernel_rfl) r24_40.2 s H
attribute [simp] r24_40
@[simp] theorem n24_41 (s : List V) (H : Heap) : evCode P Γ call n f m (cAt [1, 1, 1, 0, 1, 0, 0, 1, 1, 0, 0, 1, 1, 0, 1] B24) s H = some (.ret, s, H) := at_ret (by kernel_rfl) s H
@[simp] theorem n24_42 (s : List V) (H : Heap) : evCode P Γ call n f m (cAt [1, 1, 1, 0, 1, 0, 0, 1, 1, 0, 0, 1, 1, 1] B24) s H = some (.normal, s, H) := at_skip (by kernel_rfl) s H
noncomputable def r24_43 : {l : List Oper // opsOf (cAt [1, 1, 1, 0, 1, 0, 0, 1, 1, 1] B24) = l} := by
  apply Subtype.mk
  dsimp only [opsOf, cAt, kids, B24, bodyOf, Try.f24, List.getD, List.getElem?_cons_zero, List.getElem?_cons_succ, Option.getD_some]
@[simp] theorem n24_43 (s : List V) (H : Heap) : evCode P Γ call n f m (cAt [1, 1, 1, 0, 1, 0, 0, 1, 1, 1] B24) s H = regNext (evOpsGo P Γ call r24_43.1 r24_43.1 s H) := at_region (by kernel_rfl) r24_43.2 s H
attribute [simp] r24_43
@[simp] theorem n24_44 (s : List V) (H : Heap) : evCode P Γ call n f m (cAt [1, 1, 1, 1] B24) s H = seqNext P Γ call n f m (cAt [1, 1, 1, 1, 1] B24) (evCode P Γ call n f m (cAt [1, 1, 1, 1, 0] B24) s H) := at_seq (by kernel_rfl) rfl rfl s H
noncomputable def r24_45 : {l : List Oper // opsOf (cAt [1, 1, 1, 1, 0] B24) = l} := by
  apply Subtype.mk
  dsimp only [opsOf, cAt, kids, B24, bodyOf, Try.f24, List.getD, List.getElem?_cons_zero, List.getElem?_cons_succ, Option.getD_some]
@[simp] theorem n24_45 (s : List V) (H : Heap) : evCode P Γ call n f m (cAt [1, 1, 1, 1, 0] B24) s H = regNext (evOpsGo P Γ call r24_45.1 r24_45.1 s H) := at_region (by kernel_rfl) r24_45.2 s H
attribute [simp] r24_45
@[simp] theorem n24_46 (s : List V) (H : Heap) : evCode P Γ call n f m (cAt [1, 1, 1, 1, 1] B24) s H = seqNext P Γ call n f m (cAt [1, 1, 1, 1, 1, 1] B24) (evCode P Γ call n f m (cAt [1, 1, 1, 1, 1, 0] B24) s H) := at_seq (by kernel_rfl) rfl rfl s H
noncomputable def r24_47 : {l : List Oper // opsOf (cAt [1, 1, 1, 1, 1, 0] B24) = l} := by
  apply Subtype.mk
  dsimp only [opsOf, cAt, kids, B24, bodyOf, Try.f24, List.getD, List.getElem?_cons_zero, List.getElem?_cons_succ, Option.getD_some]
@[simp] theorem n24_47 (s : List V) (H : Heap) : evCode P Γ call n f m (cAt [1, 1, 1, 1, 1, 0] B24) s H = regNext (evOpsGo P Γ call r24_47.1 r24_47.1 s H) := at_region (by kernel_rfl) r24_47.2 s H
attribute [simp] r24_47
@[simp] theorem n24_48 (s : List V) (H : Heap) : evCode P Γ call n f m (cAt [1, 1, 1, 1, 1, 1] B24) s H = seqNext P Γ call n f m (cAt [1, 1, 1, 1, 1, 1, 1] B24) (evCode P Γ call n f m (cAt [1, 1, 1, 1, 1, 1, 0] B24) s H) := at_seq (by kernel_rfl) rfl rfl s H
@[simp] theorem n24_49 (s : List V) (H : Heap) : evCode P Γ call n f m (cAt [1, 1, 1, 1, 1, 1, 0] B24) s H = seqNext P Γ call n f m (cAt [1, 1, 1, 1, 1, 1, 0, 1] B24) (evCode P Γ call n f m (cAt [1, 1, 1, 1, 1, 1, 0, 0] B24) s H) := at_seq (by kernel_rfl) rfl rfl s H
noncomputable def r24_50 : {l : List Oper // opsOf (cAt [1, 1, 1, 1, 1, 1, 0, 0] B24) = l} := by
  apply Subtype.mk
  dsimp only [opsOf, cAt, kids, B24, bodyOf, Try.f24, List.getD, List.getElem?_cons_zero, List.getElem?_cons_succ, Option.getD_some]
@[simp] theorem n24_50 (s : List V) (H : Heap) : evCode P Γ call n f m (cAt [1, 1, 1, 1, 1, 1, 0, 0] B24) s H = regNext (evOpsGo P Γ call r24_50.1 r24_50.1 s H) := at_region (by kernel_rfl) r24_50.2 s H
attribute [simp] r24_50
@[simp] theorem n24_51 (s : List V) (H : Heap) : evCode P Γ call n f m (cAt [1, 1, 1, 1, 1, 1, 0, 1] B24) s H = blockNext 2 (evCode P Γ call n f m (cAt [1, 1, 1, 1, 1, 1, 0, 1, 0] B24) s H) := at_block (by kernel_rfl) rfl s H
@[simp] theorem n24_52 (s : List V) (H : Heap) : evCode P Γ call n f m (cAt [1, 1, 1, 1, 1, 1, 0, 1, 0] B24) s H = evLoopC P Γ call n f m (cAt [1, 1, 1, 1, 1, 1, 0, 1, 0, 0] B24) n s H := at_loop (by kernel_rfl) rfl s H
noncomputable abbrev L24_15 : Code := cAt [1, 1, 1, 1, 1, 1, 0, 1, 0, 0] B24
@[simp] theorem n24_52f : firstRegion (cAt [1, 1, 1, 1, 1, 1, 0, 1, 0, 0] B24) = 15 := by kernel_rfl
@[simp] theorem n24_53 (s : List V) (H : Heap) : evCode P Γ call n f m (cAt [1, 1, 1, 1, 1, 1, 0, 1, 0, 0] B24) s H = seqNext P Γ call n f m (cAt [1, 1, 1, 1, 1, 1, 0, 1, 0, 0, 1] B24) (evCode P Γ call n f m (cAt [1, 1, 1, 1, 1, 1, 0, 1, 0, 0, 0] B24) s H) := at_seq (by kernel_rfl) rfl rfl s H
noncomputable def r24_54 : {l : List Oper // opsOf (cAt [1, 1, 1, 1, 1, 1, 0, 1, 0, 0, 0] B24) = l} := by
  apply Subtype.mk
  dsimp only [opsOf, cAt, kids, B24, bodyOf, Try.f24, List.getD, List.getElem?_cons_zero, List.getElem?_cons_succ, Option.getD_some]
@[simp] theorem n24_54 (s : List V) (H : Heap) : evCode P Γ call n f m (cAt [1, 1, 1, 1, 1, 1, 0, 1, 0, 0, 0] B24) s H = regNext (evOpsGo P Γ call r24_54.1 r24_54.1 s H) := at_region (by kernel_rfl) r24_54.2 s H
attribute [simp] r24_54
@[simp] theorem n24_55 (s : List V) (H : Heap) : evCode P Γ call n f m (cAt [1, 1, 1, 1, 1, 1, 0, 1, 0, 0, 1] B24) s H = seqNext P Γ call n f m (cAt [1, 1, 1, 1, 1, 1, 0, 1, 0, 0, 1, 1] B24) (evCode P Γ call n f m (cAt [1, 1, 1, 1, 1, 1, 0, 1, 0, 0, 1, 0] B24) s H) := at_seq (by kernel_rfl) rfl rfl s H
@[simp] theorem n24_56 (s : List V) (H : Heap) : evCode P Γ call n f m (cAt [1, 1, 1, 1, 1, 1, 0, 1, 0, 0, 1, 0] B24) s H = condW P Γ call n f m (cAt [1, 1, 1, 1, 1, 1, 0, 1, 0, 0, 1, 0, 0] B24) (cAt [1, 1, 1, 1, 1, 1, 0, 1, 0, 0, 1, 0, 1] B24) s H (evOperand Γ s (.tmp 53)) := at_cond (by kernel_rfl) (by kernel_rfl) rfl rfl s H
@[simp] theorem n24_57 (s : List V) (H : Heap) : evCode P Γ call n f m (cAt [1, 1, 1, 1, 1, 1, 0, 1, 0, 0, 1, 0, 0] B24) s H = some (.normal, s, H) := at_skip (by kernel_rfl) s H
@[simp] theorem n24_58 (s : List V) (H : Heap) : evCode P Γ call n f m (cAt [1, 1, 1, 1, 1, 1, 0, 1, 0, 0, 1, 0, 1] B24) s H = some (.exit 2, s, H) := at_exit (by kernel_rfl) s H
@[simp] theorem n24_59 (s : List V) (H : Heap) : evCode P Γ call n f m (cAt [1, 1, 1, 1, 1, 1, 0, 1, 0, 0, 1, 1] B24) s H = seqNext P Γ call n f m (cAt [1, 1, 1, 1, 1, 1, 0, 1, 0, 0, 1, 1, 1] B24) (evCode P Γ call n f m (cAt [1, 1, 1, 1, 1, 1, 0, 1, 0, 0, 1, 1, 0] B24) s H) := at_seq (by kernel_rfl) rfl rfl s H
@[simp] theorem n24_60 (s : List V) (H : Heap) : evCode P Γ call n f m (cAt [1, 1, 1, 1, 1, 1, 0, 1, 0, 0, 1, 1, 0] B24) s H = blockNext 3 (evCode P Γ call n f m (cAt [1, 1, 1, 1, 1, 1, 0, 1, 0, 0, 1, 1, 0, 0] B24) s H) := at_block (by kernel_rfl) rfl s H
@[simp] theorem n24_61 (s : List V) (H : Heap) : evCode P Γ call n f m (cAt [1, 1, 1, 1, 1, 1, 0, 1, 0, 0, 1, 1, 0, 0] B24) s H = seqNext P Γ call n f m (cAt [1, 1, 1, 1, 1, 1, 0, 1, 0, 0, 1, 1, 0, 0, 1] B24) (evCode P Γ call n f m (cAt [1, 1, 1, 1, 1, 1, 0, 1, 0, 0, 1, 1, 0, 0, 0] B24) s H) := at_seq (by kernel_rfl) rfl rfl s H
noncomputable def r24_62 : {l : List Oper // opsOf (cAt [1, 1, 1, 1, 1, 1, 0, 1, 0, 0, 1, 1, 0, 0, 0] B24) = l} := by
  apply Subtype.mk
  dsimp only [opsOf, cAt, kids, B24, bodyOf, Try.f24, List.getD, List.getElem?_cons_zero, List.getElem?_cons_succ, Option.getD_some]
@[simp] theorem n24_62 (s : List V) (H : Heap) : evCode P Γ call n f m (cAt [1, 1, 1, 1, 1, 1, 0, 1, 0, 0, 1, 1, 0, 0, 0] B24) s H = regNext (evOpsGo P Γ call r24_62.1 r24_62.1 s H) := at_region (by kernel_rfl) r24_62.2 s H
attribute [simp] r24_62
@[simp] theorem n24_63 (s : List V) (H : Heap) : evCode P Γ call n f m (cAt [1, 1, 1, 1, 1, 1, 0, 1, 0, 0, 1, 1, 0, 0, 1] B24) s H = seqNext P Γ call n f m (cAt [1, 1, 1, 1, 1, 1, 0, 1, 0, 0, 1, 1, 0, 0, 1, 1] B24) (evCode P Γ call n f m (cAt [1, 1, 1, 1, 1, 1, 0, 1, 0, 0, 1, 1, 0, 0, 1, 0] B24) s H) := at_seq (by kernel_rfl) rfl rfl s H
@[simp] theorem n24_64 (s : List V) (H : Heap) : evCode P Γ call n f m (cAt [1, 1, 1, 1, 1, 1, 0, 1, 0, 0, 1, 1, 0, 0, 1, 0] B24) s H = seqNext P Γ call n f m (cAt [1, 1, 1, 1, 1, 1, 0, 1, 0, 0, 1, 1, 0, 0, 1, 0, 1] B24) (evCode P Γ call n f m (cAt [1, 1, 1, 1, 1, 1, 0, 1, 0, 0, 1, 1, 0, 0, 1, 0, 0] B24) s H) := at_seq (by kernel_rfl) rfl rfl s H
noncomputable def r24_65 : {l : List Oper // opsOf (cAt [1, 1, 1, 1, 1, 1, 0, 1, 0, 0, 1, 1, 0, 0, 1, 0, 0] B24) = l} := by
  apply Subtype.mk
  dsimp only [opsOf, cAt, kids, B24, bodyOf, Try.f24, List.getD, List.getElem?_cons_zero, List.getElem?_cons_succ, Option.getD_some]
@[simp] theorem n24_65 (s : List V) (H : Heap) : evCode P Γ call n f m (cAt [1, 1, 1, 1, 1, 1, 0, 1, 0, 0, 1, 1, 0, 0, 1, 0, 0] B24) s H = regNext (evOpsGo P Γ call r24_65.1 r24_65.1 s H) := at_region (by kernel_rfl) r24_65.2 s H
attribute [simp] r24_65
@[simp] theorem n24_66 (s : List V) (H : Heap) : evCode P Γ call n f m (cAt [1, 1, 1, 1, 1, 1, 0, 1, 0, 0, 1, 1, 0, 0, 1, 0, 1] B24) s H = condW P Γ call n f m (cAt [1, 1, 1, 1, 1, 1, 0, 1, 0, 0, 1, 1, 0, 0, 1, 0, 1, 0] B24) (cAt [1, 1, 1, 1, 1, 1, 0, 1, 0, 0, 1, 1, 0, 0, 1, 0, 1, 1] B24) s H (evOperand Γ s (.tmp 70)) := at_cond (by kernel_rfl) (by kernel_rfl) rfl rfl s H
noncomputable def r24_67 : {l : List Oper // opsOf (cAt [1, 1, 1, 1, 1, 1, 0, 1, 0, 0, 1, 1, 0, 0, 1, 0, 1, 0] B24) = l} := by
  apply Subtype.mk
  dsimp only [opsOf, cAt, kids, B24, bodyOf, Try.f24, List.getD, List.getElem?_cons_zero, List.getElem?_cons_succ, Option.getD_some]
@[simp] theorem n24_67 (s : List V) (H : Heap) : evCode P Γ call n f m (cAt [1, 1, 1, 1, 1, 1, 0, 1, 0, 0, 1, 1, 0, 0, 1, 0, 1, 0] B24) s H = regNext (evOpsGo P Γ call r24_67.1 r24_67.1 s H) := at_region (by kernel_rfl) r24_67.2 s H
attribute [simp] r24_67
@[simp] theorem n24_68 (s : List V) (H : Heap) : evCode P Γ call n f m (cAt [1, 1, 1, 1, 1, 1, 0, 1, 0, 0, 1, 1, 0, 0, 1, 0, 1, 1] B24) s H = some (.normal, s, H) := at_skip (by kernel_rfl) s H
@[simp] theorem n24_69 (s : List V) (H : Heap) : evCode P Γ call n f m (cAt [1, 1, 1, 1, 1, 1, 0, 1, 0, 0, 1, 1, 0, 0, 1, 1] B24) s H = seqNext P Γ call n f m (cAt [1, 1, 1, 1, 1, 1, 0, 1, 0, 0, 1, 1, 0, 0, 1, 1, 1] B24) (evCode P Γ call n f m (cAt [1, 1, 1, 1, 1, 1, 0, 1, 0, 0, 1, 1, 0, 0, 1, 1, 0] B24) s H) := at_seq (by kernel_rfl) rfl rfl s H
noncomputable def r24_70 : {l : List Oper // opsOf (cAt [1, 1, 1, 1, 1, 1, 0, 1, 0, 0, 1, 1, 0, 0, 1, 1, 0] B24) = l} := by
  apply Subtype.mk
  dsimp only [opsOf, cAt, kids, B24, bodyOf, Try.f24, List.getD, List.getElem?_cons_zero, List.getElem?_cons_succ, Option.getD_some]
@[simp] theorem n24_70 (s : List V) (H : Heap) : evCode P Γ call n f m (cAt [1, 1, 1, 1, 1, 1, 0, 1, 0, 0, 1, 1, 0, 0, 1, 1, 0] B24) s H = regNext (evOpsGo P Γ call r24_70.1 r24_70.1 s H) := at_region (by kernel_rfl) r24_70.2 s H
attribute [simp] r24_70
noncomputable def r24_71 : {l : List Oper // opsOf (cAt [1, 1, 1, 1, 1, 1, 0, 1, 0, 0, 1, 1, 0, 0, 1, 1, 1] B24) = l} := by
  apply Subtype.mk
  dsimp only [opsOf, cAt, kids, B24, bodyOf, Try.f24, List.getD, List.getElem?_cons_zero, List.getElem?_cons_succ, Option.getD_some]
@[simp] theorem n24_71 (s : List V) (H : Heap) : evCode P Γ call n f m (cAt [1, 1, 1, 1, 1, 1, 0, 1, 0, 0, 1, 1, 0, 0, 1, 1, 1] B24) s H = regNext (evOpsGo P Γ call r24_71.1 r24_71.1 s H) := at_region (by kernel_rfl) r24_71.2 s H
attribute [simp] r24_71
noncomputable def r24_72 : {l : List Oper // opsOf (cAt [1, 1, 1, 1, 1, 1, 0, 1, 0, 0, 1, 1, 1] B24) = l} := by
  apply Subtype.mk
  dsimp only [opsOf, cAt, kids, B24, bodyOf, Try.f24, List.getD, List.getElem?_cons_zero, List.getElem?_cons_succ, Option.getD_some]
@[simp] theorem n24_72 (s : List V) (H : Heap) : evCode P Γ call n f m (cAt [1, 1, 1, 1, 1, 1, 0, 1, 0, 0, 1, 1, 1] B24) s H = regNext (evOpsGo P Γ call r24_72.1 r24_72.1 s H) := at_region (by kernel_rfl) r24_72.2 s H
attribute [simp] r24_72
@[simp] theorem n24_73 (s : List V) (H : Heap) : evCode P Γ call n f m (cAt [1, 1, 1, 1, 1, 1, 1] B24) s H = seqNext P Γ call n f m (cAt [1, 1, 1, 1, 1, 1, 1, 1] B24) (evCode P Γ call n f m (cAt [1, 1, 1, 1, 1, 1, 1, 0] B24) s H) := at_seq (by kernel_rfl) rfl rfl s H
noncomputable def r24_74 : {l : List Oper // opsOf (cAt [1, 1, 1, 1, 1, 1, 1, 0] B24) = l} := by
  apply Subtype.mk
  dsimp only [opsOf, cAt, kids, B24, bodyOf, Try.f24, List.getD, List.getElem?_cons_zero, List.getElem?_cons_succ, Option.getD_some]
@[simp] theorem n24_74 (s : List V) (H : Heap) : evCode P Γ call n f m (cAt [1, 1, 1, 1, 1, 1, 1, 0] B24) s H = regNext (evOpsGo P Γ call r24_74.1 r24_74.1 s H) := at_region (by kernel_rfl) r24_74.2 s H
attribute [simp] r24_74
@[simp] theorem n24_75 (s : List V) (H : Heap) : evCode P Γ call n f m (cAt [1, 1, 1, 1, 1, 1, 1, 1] B24) s H = some (.ret, s, H) := at_ret (by kernel_rfl) s H
theorem b24 {k : Nat} (ho : ∀ args H, Γ.orc 24 args H = none) (args : List V) (H : Heap) (ha : args.length ≤ 87) : evF Try.prog Γ (k + 1) 24 args H = bodyEnd Try.prog [.cell 4 27, .tmp 5] H.length (evCode Try.prog Γ (evF Try.prog Γ k) k 24 H.length (cAt [] B24) (mkL 87 V.undef (enumV 0 args)) H) := body_at Try.func24 (by decide) rfl ho rfl rfl args H ha
noncomputable def B25 : Code := bodyOf Try.f25
@[simp] theorem n25_1 (s : List V) (H : Heap) : evCode P Γ call n f m (cAt [] B25) s H = seqNext P Γ call n f m (cAt [1] B25) (evCode P Γ call n f m (cAt [0] B25) s H) := at_seq (by kernel_rfl) rfl rfl s H
noncomputable def r25_2 : {l : List Oper // opsOf (cAt [0] B25) = l} := by
  apply Subtype.mk
  dsimp only [opsOf, cAt, kids, B25, bodyOf, Try.f25, List.getD, List.getElem?_cons_zero, List.getElem?_cons_succ, Option.getD_some]
@[simp] theorem n25_2 (s : List V) (H : Heap) : evCode P Γ call n f m (cAt [0] B25) s H = regNext (evOpsGo P Γ call r25_2.1 r25_2.1 s H) := at_region (by kernel_rfl) r25_2.2 s H
attribute [simp] r25_2
@[simp] theorem n25_3 (s : List V) (H : Heap) : evCode P Γ call n f m (cAt [1] B25) s H = seqNext P Γ call n f m (cAt [1, 1] B25) (evCode P Γ call n f m (cAt [1, 0] B25) s H) := at_seq (by kernel_rfl) rfl rfl s H
noncomputable def r25_4 : {l : List Oper // opsOf (cAt [1, 0] B25) = l} := by
  apply Subtype.mk
  dsimp only [opsOf, cAt, kids, B25, bodyOf, Try.f25, List.getD, List.getElem?_cons_zero, List.getElem?_cons_succ, Option.getD_some]
@[simp] theorem n25_4 (s : List V) (H : Heap) : evCode P Γ call n f m (cAt [1, 0] B25) s H = regNext (evOpsGo P Γ call r25_4.1 r25_4.1 s H) := at_region (by kernel_rfl) r25_4.2 s H
attribute [simp] r25_4
@[simp] theorem n25_5 (s : List V) (H : Heap) : evCode P Γ call n f m (cAt [1, 1] B25) s H = seqNext P Γ call n f m (cAt [1, 1, 1] B25) (evCode P Γ call n f m (cAt [1, 1, 0] B25) s H) := at_seq (by kernel_rfl) rfl rfl s H
@[simp] theorem n25_6 (s : List V) (H : Heap) : evCode P Γ call n f m (cAt [1, 1, 0] B25) s H = seqNext P Γ call n f m (cAt [1, 1, 0, 1] B25) (evCode P Γ call n f m (cAt [1, 1, 0, 0] B25) s H) := at_seq (by kernel_rfl) rfl rfl s H
noncomputable def r25_7 : {l : List Oper // opsOf (cAt [1, 1, 0, 0] B25) = l} := by
  apply Subtype.mk
  dsimp only [opsOf, cAt, kids, B25, bodyOf, Try.f25, List.getD, List.getElem?_cons_zero, List.getElem?_cons_succ, Option.getD_some]
@[simp] theorem n25_7 (s : List V) (H : Heap) : evCode P Γ call n f m (cAt [1, 1, 0, 0] B25) s H = regNext (evOpsGo P Γ call r25_7.1 r25_7.1 s H) := at_region (by kernel_rfl) r25_7.2 s H
attribute [simp] r25_7
@[simp] theorem n25_8 (s : List V) (H : Heap) : evCode P Γ call n f m (cAt [1, 1, 0, 1] B25) s H = blockNext 0 (evCode P Γ call n f m (cAt [1, 1, 0, 1, 0] B25) s H) := at_block (by kernel_rfl) rfl s H
@[simp] theorem n25_9 (s : List V) (H : Heap) : evCode P Γ call n f m (cAt [1, 1, 0, 1, 0] B25) s H = evLoopC P Γ call n f m (cAt [1, 1, 0, 1, 0, 0] B25) n s H := at_loop (by kernel_rfl) rfl s H
noncomputable abbrev L25_3 : Code := cAt [1, 1, 0, 1, 0, 0] B25
@[simp] theorem n25_9f : firstRegion (cAt [1, 1, 0, 1, 0, 0] B25) = 3 := by kernel_rfl
@[simp] theorem n25_10 (s : List V) (H : Heap) : evCode P Γ call n f m (cAt [1, 1, 0, 1, 0, 0] B25) s H = seqNext P Γ call n f m (cAt [1, 1, 0, 1, 0, 0, 1] B25) (evCode P Γ call n f m (cAt [1, 1, 0, 1, 0, 0, 0] B25) s H) := at_seq (by kernel_rfl) rfl rfl s H
noncomputable def r25_11 : {l : List Oper // opsOf (cAt [1, 1, 0, 1, 0, 0, 0] B25) = l} := by
  apply Subtype.mk
  dsimp only [opsOf, cAt, kids, B25, bodyOf, Try.f25, List.getD, List.getElem?_cons_zero, List.getElem?_cons_succ, Option.getD_some]
@[simp] theorem n25_11 (s : List V) (H : Heap) : evCode P Γ call n f m (cAt [1, 1, 0, 1, 0, 0, 0] B25) s H = regNext (evOpsGo P Γ call r25_11.1 r25_11.1 s H) := at_region (by kernel_rfl) r25_11.2 s H
attribute [simp] r25_11
@[simp] theorem n25_12 (s : List V) (H : Heap) : evCode P Γ call n f m (cAt [1, 1, 0, 1, 0, 0, 1] B25) s H = seqNext P Γ call n f m (cAt [1, 1, 0, 1, 0, 0, 1, 1] B25) (evCode P Γ call n f m (cAt [1, 1, 0, 1, 0, 0, 1, 0] B25) s H) := at_seq (by kernel_rfl) rfl rfl s H
@[simp] theorem n25_13 (s : List V) (H : Heap) : evCode P Γ call n f m (cAt [1, 1, 0, 1, 0, 0, 1, 0] B25) s H = condW P Γ call n f m (cAt [1, 1, 0, 1, 0, 0, 1, 0, 0] B25) (cAt [1, 1, 0, 1, 0, 0, 1, 0, 1] B25) s H (evOperand Γ s (.tmp 12)) := at_cond (by kernel_rfl) (by kernel_rfl) rfl rfl s H
@[simp] theorem n25_14 (s : List V) (H : Heap) : evCode P Γ call n f m (cAt [1, 1, 0, 1, 0, 0, 1, 0, 0] B25) s H = some (.normal, s, H) := at_skip (by kernel_rfl) s H
@[simp] theorem n25_15 (s : List V) (H : Heap) : evCode P Γ call n f m (cAt [1, 1, 0, 1, 0, 0, 1, 0, 1] B25) s H = some (.exit 0, s, H) := at_exit (by kernel_rfl) s H
@[simp] theorem n25_16 (s : List V) (H : Heap) : evCode P Γ call n f m (cAt [1, 1, 0, 1, 0, 0, 1, 1] B25) s H = seqNext P Γ call n f m (cAt [1, 1, 0, 1, 0, 0, 1, 1, 1] B25) (evCode P Γ call n f m (cAt [1, 1, 0, 1, 0, 0, 1, 1, 0] B25) s H) := at_seq (by kernel_rfl) rfl rfl s H
@[simp] theorem n25_17 (s : List V) (H : Heap) : evCode P Γ call n f m (cAt [1, 1, 0, 1, 0, 0, 1, 1, 0] B25) s H = blockNext 1 (evCode P Γ call n f m (cAt [1, 1, 0, 1, 0, 0, 1, 1, 0, 0] B25) s H) := at_block (by kernel_rfl) rfl s H
@[simp] theorem n25_18 (s : List V) (H : Heap) : evCode P Γ call n f m (cAt [1, 1, 0, 1, 0, 0, 1, 1, 0, 0] B25) s H = seqNext P Γ call n f m (cAt [1, 1, 0, 1, 0, 0, 1, 1, 0, 0, 1] B25) (evCode P Γ call n f m (cAt [1, 1, 0, 1, 0, 0, 1, 1, 0, 0, 0] B25) s H) := at_seq (by kernel_rfl) rfl rfl s H
noncomputable def r25_19 : {l : List Oper // opsOf (cAt [1, 1, 0, 1, 0, 0, 1, 1, 0, 0, 0] B25) = l} := by
  apply Subtype.mk
  dsimp only [opsOf, cAt, kids, B25, bodyOf, Try.f25, List.getD, List.getElem?_cons_zero, List.getElem?_cons_succ, Option.getD_some]
@[simp] theorem n25_19 (s : List V) (H : Heap) : evCode P Γ call n f m (cAt [1, 1, 0, 1, 0, 0, 1, 1, 0, 0, 0] B25) s H = regNext (evOpsGo P Γ call r25_19.1 r25_19.1 s H) := at_region (by kernel_rfl) r25_19.2 s H
attribute [simp] r25_19
@[simp] theorem n25_20 (s : List V) (H : Heap) : evCode P Γ call n f m (cAt [1, 1, 0, 1, 0, 0, 1, 1, 0, 0, 1] B25) s H = seqNext P Γ call n f m (cAt [1, 1, 0, 1, 0, 0, 1, 1, 0, 0, 1, 1] B25) (evCode P Γ call n f m (cAt [1, 1, 0, 1, 0, 0, 1, 1, 0, 0, 1, 0] B25) s H) := at_seq (by kernel_rfl) rfl rfl s H
noncomputable def r25_21 : {l : List Oper // opsOf (cAt [1, 1, 0, 1, 0, 0, 1, 1, 0, 0, 1, 0] B25) = l} := by
  apply Subtype.mk
  dsimp only [opsOf, cAt, kids, B25, bodyOf, Try.f25, List.getD, List.getElem?_cons_zero, List.getElem?_cons_succ, Option.getD_some]
@[simp] theorem n25_21 (s : List V) (H : Heap) : evCode P Γ call n f m (cAt [1, 1, 0, 1, 0, 0, 1, 1, 0, 0, 1, 0] B25) s H = regNext (evOpsGo P Γ call r25_21.1 r25_21.1 s H) := at_region (by kernel_rfl) r25_21.2 s H
attribute [simp] r25_21
@[simp] theorem n25_22 (s : List V) (H : Heap) : evCode P Γ call n f m (cAt [1, 1, 0, 1, 0, 0, 1, 1, 0, 0, 1, 1] B25) s H = seqNext P Γ call n f m (cAt [1, 1, 0, 1, 0, 0, 1, 1, 0, 0, 1, 1, 1] B25) (evCode P Γ call n f m (cAt [1, 1, 0, 1, 0, 0, 1, 1, 0, 0, 1, 1, 0] B25) s H) := at_seq (by kernel_rfl) rfl rfl s H
noncomputable def r25_23 : {l : List Oper // opsOf (cAt [1, 1, 0, 1, 0, 0, 1, 1, 0, 0, 1, 1, 0] B25) = l} := by
  apply Subtype.mk
  dsimp only [opsOf, cAt, kids, B25, bodyOf, Try.f25, List.getD, List.getElem?_cons_zero, List.getElem?_cons_succ, Option.getD_some]
@[simp] theorem n25_23 (s : List V) (H : Heap) : evCode P Γ call n f m (cAt [1, 1, 0, 1, 0, 0, 1, 1, 0, 0, 1, 1, 0] B25) s H = regNext (evOpsGo P Γ call r25_23.1 r25_23.1 s H) := at_region (by kernel_rfl) r25_23.2 s H
attribute [simp] r25_23
@[simp] theorem n25_24 (s : List V) (H : Heap) : evCode P Γ call n f m (cAt [1, 1, 0, 1, 0, 0, 1, 1, 0, 0, 1, 1, 1] B25) s H = condW P Γ call n f m (cAt [1, 1, 0, 1, 0, 0, 1, 1, 0, 0, 1, 1, 1, 0] B25) (cAt [1, 1, 0, 1, 0, 0, 1, 1, 0, 0, 1, 1, 1, 1] B25) s H (evOperand Γ s (.tmp 20)) := at_cond (by kernel_rfl) (by kernel_rfl) rfl rfl s H
noncomputable def r25_25 : {l : List Oper // opsOf (cAt [1, 1, 0, 1, 0, 0, 1, 1, 0, 0, 1, 1, 1, 0] B25) = l} := by
  apply Subtype.mk
  dsimp only [opsOf, cAt, kids, B25, bodyOf, Try.f25, List.getD, List.getElem?_cons_zero, List.getElem?_cons_succ, Option.getD_some]
@[simp] theorem n25_25 (s : List V) (H : Heap) : evCode P Γ call n f m (cAt [1, 1, 0, 1, 0, 0, 1, 1, 0, 0, 1, 1, 1, 0] B25) s H = regNext (evOpsGo P Γ call r25_25.1 r25_25.1 s H) := at_region (by kernel_rfl) r25_25.2 s H
attribute [simp] r25_25
@[simp] theorem n25_26 (s : List V) (H : Heap) : evCode P Γ call n f m (cAt [1, 1, 0, 1, 0, 0, 1, 1, 0, 0, 1, 1, 1, 1] B25) s H = some (.normal, s, H) := at_skip (by kernel_rfl) s H
noncomputable def r25_27 : {l : List Oper // opsOf (cAt [1, 1, 0, 1, 0, 0, 1, 1, 1] B25) = l} := by
  apply Subtype.mk
  dsimp only [opsOf, cAt, kids, B25, bodyOf, Try.f25, List.getD, List.getElem?_cons_zero, List.getElem?_cons_succ, Option.getD_some]
@[simp] theorem n25_27 (s : List V) (H : Heap) : evCode P Γ call n f m (cAt [1, 1, 0, 1, 0, 0, 1, 1, 1] B25) s H = regNext (evOpsGo P Γ call r25_27.1 r25_27.1 s H) := at_region (by kernel_rfl) r25_27.2 s H
attribute [simp] r25_27
@[simp] theorem n25_28 (s : List V) (H : Heap) : evCode P Γ call n f m (cAt [1, 1, 1] B25) s H = seqNext P Γ call n f m (cAt [1, 1, 1, 1] B25) (evCode P Γ call n f m (cAt [1, 1, 1, 0] B25) s H) := at_seq (by kernel_rfl) rfl rfl s H
noncomputable def r25_29 : {l : List Oper // opsOf (cAt [1, 1, 1, 0] B25) = l} := by
  apply Subtype.mk
  dsimp only [opsOf, cAt, kids, B25, bodyOf, Try.f25, List.getD, List.getElem?_cons_zero, List.getElem?_cons_succ, Option.getD_some]
@[simp] theorem n25_29 (s : List V) (H : Heap) : evCode P Γ call n f m (cAt [1, 1, 1, 0] B25) s H = regNext (evOpsGo P Γ call r25_29.1 r25_29.1 s H) := at_region (by kernel_rfl) r25_29.2 s H
attribute [simp] r25_29
@[simp] theorem n25_30 (s : List V) (H : Heap) : evCode P Γ call n f m (cAt [1, 1, 1, 1] B25) s H = seqNext P Γ call n f m (cAt [1, 1, 1, 1, 1] B25) (evCode P Γ call n f m (cAt [1, 1, 1, 1, 0] B25) s H) := at_seq (by kernel_rfl) rfl rfl s H
@[simp] theorem n25_31 (s : List V) (H : Heap) : evCode P Γ call n f m (cAt [1, 1, 1, 1, 0] B25) s H = seqNext P Γ call n f m (cAt [1, 1, 1, 1, 0, 1] B25) (evCode P Γ call n f m (cAt [1, 1, 1, 1, 0, 0] B25) s H) := at_seq (by kernel_rfl) rfl rfl s H
noncomputable def r25_32 : {l : List Oper // opsOf (cAt [1, 1, 1, 1, 0, 0] B25) = l} := by
  apply Subtype.mk
  dsimp only [opsOf, cAt, kids, B25, bodyOf, Try.f25, List.getD, List.getElem?_cons_zero, List.getElem?_cons_succ, Option.getD_some]
@[simp] theorem n25_32 (s : List V) (H : Heap) : evCode P Γ call n f m (cAt [1, 1, 1, 1, 0, 0] B25) s H = regNext (evOpsGo P Γ call r25_32.1 r25_32.1 s H) := at_region (by kernel_rfl) r25_32.2 s H
attribute [simp] r25_32
@[simp] theorem n25_33 (s : List V) (H : Heap) : evCode P Γ call n f m (cAt [1, 1, 1, 1, 0, 1] B25) s H = blockNext 2 (evCode P Γ call n f m (cAt [1, 1, 1, 1, 0, 1, 0] B25) s H) := at_block (by kernel_rfl) rfl s H
@[simp] theorem n25_34 (s : List V) (H : Heap) : evCode P Γ call n f m (cAt [1, 1, 1, 1, 0, 1, 0] B25) s H = evLoopC P Γ call n f m (cAt [1, 1, 1, 1, 0, 1, 0, 0] B25) n s H := at_loop (by kernel_rfl) rfl s H
noncomputable abbrev L25_11 : Code := cAt [1, 1, 1, 1, 0, 1, 0, 0] B25
@[simp] theorem n25_34f : firstRegion (cAt [1, 1, 1, 1, 0, 1, 0, 0] B25) = 11 := by kernel_rfl
@[simp] theorem n25_35 (s : List V) (H : Heap) : evCode P Γ call n f m (cAt [1, 1, 1, 1, 0, 1, 0, 0] B25) s H = seqNext P Γ call n f m (cAt [1, 1, 1, 1, 0, 1, 0, 0, 1] B25) (evCode P Γ call n f m (cAt [1, 1, 1, 1, 0, 1, 0, 0, 0] B25) s H) := at_seq (by kernel_rfl) rfl rfl s H
noncomputable def r25_36 : {l : List Oper // opsOf (cAt [1, 1, 1, 1, 0, 1, 0, 0, 0] B25) = l} := by
  apply Subtype.mk
  dsimp only [opsOf, cAt, kids, B25, bodyOf, Try.f25, List.getD, List.getElem?_cons_zero, List.getElem?_cons_succ, Option.getD_some]
@[simp] theorem n25_36 (s : List V) (H : Heap) : evCode P Γ call n f m (cAt [1, 1, 1, 1, 0, 1, 0, 0, 0] B25) s H = regNext (evOpsGo P Γ call r25_36.1 r25_36.1 s H) := at_region (by kernel_rfl) r25_36.2 s H
attribute [simp] r25_36
@[simp] theorem n25_37 (s : List V) (H : Heap) : evCode P Γ call n f m (cAt [1, 1, 1, 1, 0, 1, 0, 0, 1] B25) s H = seqNext P Γ call n f m (cAt [1, 1, 1, 1, 0, 1, 0, 0, 1, 1] B25) (evCode P Γ call n f m (cAt [1, 1, 1, 1, 0, 1, 0, 0, 1, 0] B25) s H) := at_seq (by kernel_rfl) rfl rfl s H
@[simp] theorem n25_38 (s : List V) (H : Heap) : evCode P Γ call n f m (cAt [1, 1, 1, 1, 0, 1, 0, 0, 1, 0] B25) s H = condW P Γ call n f m (cAt [1, 1, 1, 1, 0, 1, 0, 0, 1, 0, 0] B25) (cAt [1, 1, 1, 1, 0, 1, 0, 0, 1, 0, 1] B25) s H (evOperand Γ s (.tmp 28)) := at_cond (by kernel_rfl) (by kernel_rfl) rfl rfl s H
@[simp] theorem n25_39 (s : List V) (H : Heap) : evCode P Γ call n f m (cAt [1, 1, 1, 1, 0, 1, 0, 0, 1, 0, 0] B25) s H = some (.normal, s, H) := at_skip (by kernel_rfl) s H
@[simp] theorem n25_40 (s : List V) (H : Heap) : evCode P Γ call n f m (cAt [1, 1, 1, 1, 0, 1, 0, 0, 1, 0, 1] B25) s H = some (.exit 2, s, H) := at_exit (by kernel_rfl) s H
@[simp] theorem n25_41 (s : List V) (H : Heap) : evCode P Γ call n f m (cAt [1, 1, 1, 1, 0, 1, 0, 0, 1, 1] B25) s H = seqNext P Γ call n f m (cAt [1, 1, 1, 1, 0, 1, 0, 0, 1, 1, 1] B25) (evCode P Γ call n f m (cAt [1, 1, 1, 1, 0, 1, 0, 0, 1, 1, 0] B25) s H) := at_seq (by kernel_rfl) rfl rfl s H
@[simp] theorem n25_42 (s : List V) (H : Heap) : evCode P Γ call n f m (cAt [1, 1, 1, 1, 0, 1, 0, 0, 1, 1, 0] B25) s H = blockNext 3 (evCode P Γ call n f m (cAt [1, 1, 1, 1, 0, 1, 0, 0, 1, 1, 0, 0] B25) s H) := at_block (by kernel_rfl) rfl s H
@[simp] theorem n25_43 (s : List V) (H : Heap) : evCode P Γ call n f m (cAt [1, 1, 1, 1, 0, 1, 0, 0, 1, 1, 0, 0] B25) s H = seqNext P Γ call n f m (cAt [1, 1, 1, 1, 0, 1, 0, 0, 1, 1, 0, 0, 1] B25) (evCode P Γ call n f m (cAt [1, 1, 1, 1, 0, 1, 0, 0, 1, 1, 0, 0, 0] B25) s H) := at_seq (by kernel_rfl) rfl rfl s H
noncomputable def r25_44 : {l : List Oper // opsOf (cAt [1, 1, 1, 1, 0, 1, 0, 0, 1, 1, 0, 0, 0] B25) = l} := by
  apply Subtype.mk
  dsimp only [opsOf, cAt, kids, B25, bodyOf, Try.f25, List.getD, List.getElem?_cons_zero, List.getElem?_cons_succ, Option.getD_some]
@[simp] theorem n25_44 (s : List V) (H : Heap) : evCode P Γ call n f m (cAt [1, 1, 1, 1, 0, 1, 0, 0, 1, 1, 0, 0, 0] B25) s H = regNext (evOpsGo P Γ call r25_44.1 r25_44.1 s H) := at_region (by kernel_rfl) r25_44.2 s H
attribute [simp] r25_44
noncomputable def r25_45 : {l : List Oper // opsOf (cAt [1, 1, 1, 1, 0, 1, 0, 0, 1, 1, 0, 0, 1] B25) = l} := by
  apply Subtype.mk
  dsimp only [opsOf, cAt, kids, B25, bodyOf, Try.f25, List.getD, List.getElem?_cons_zero, List.getElem?_cons_succ, Option.getD_some]
@[simp] theorem n25_45 (s : List V) (H : Heap) : evCode P Γ call n f m (cAt [1, 1, 1, 1, 0, 1, 0, 0, 1, 1, 0, 0, 1] B25) s H = regNext (evOpsGo P Γ call r25_45.1 r25_45.1 s H) := at_region (by kernel_rfl) r25_45.2 s H
attribute [simp] r25_45
noncomputable def r25_46 : {l : List Oper // opsOf (cAt [1, 1, 1, 1, 0, 1, 0, 0, 1, 1, 1] B25) = l} := by
  apply Subtype.mk
  dsimp only [opsOf, cAt, kids, B25, bodyOf, Try.f25, List.getD, List.getElem?_cons_zero, List.getElem?_cons_succ, Option.getD_some]
@[simp] theorem n25_46 (s : List V) (H : Heap) : evCode P Γ call n f m (cAt [1, 1, 1, 1, 0, 1, 0, 0, 1, 1, 1] B25) s H = regNext (evOpsGo P Γ call r25_46.1 r25_46.1 s H) := at_region (by kernel_rfl) r25_46.2 s H
attribute [simp] r25_46
@[simp] theorem n25_47 (s : List V) (H : Heap) : evCode P Γ call n f m (cAt [1, 1, 1, 1, 1] B25) s H = seqNext P Γ call n f m (cAt [1, 1, 1, 1, 1, 1] B25) (evCode P Γ call n f m (cAt [1, 1, 1, 1, 1, 0] B25) s H) := at_seq (by kernel_rfl) rfl rfl s H
noncomputable def r25_48 : {l : List Oper // opsOf (cAt [1, 1, 1, 1, 1, 0] B25) = l} := by
  apply Subtype.mk
  dsimp only [opsOf, cAt, kids, B25, bodyOf, Try.f25, List.getD, List.getElem?_cons_zero, List.getElem?_cons_succ, Option.getD_some]
@[simp] theorem n25_48 (s : List V) (H : Heap) : evCode P Γ call n f m (cAt [1, 1, 1, 1, 1, 0] B25) s H = regNext (evOpsGo P Γ call r25_48.1 r25_48.1 s H) := at_region (by kernel_rfl) r25_48.2 s H
attribute [simp] r25_48
@[simp] theorem n25_49 (s : List V) (H : Heap) : evCode P Γ call n f m (cAt [1, 1, 1, 1, 1, 1] B25) s H = some (.ret, s, H) := at_ret (by kernel_rfl) s H
theorem b25 {k : Nat} (ho : ∀ args H, Γ.orc 25 args H = none) (args : List V) (H : Heap) (ha : args.length ≤ 36) : evF Try.prog Γ (k + 1) 25 args H = bodyEnd Try.prog [.tmp 2] H.length (evCode Try.prog Γ (evF Try.prog Γ k) k 25 H.length (cAt [] B25) (mkL 36 V.undef (enumV 0 args)) H) := body_at Try.func25 (by decide) rfl ho rfl rfl args H ha
noncomputable def B27 : Code := bodyOf Try.f27
@[simp] theorem n27_1 (s : List V) (H : Heap) : evCode P Γ call n f m (cAt [] B27) s H = seqNext P Γ call n f m (cAt [1] B27) (evCode P Γ call n f m (cAt [0] B27) s H) := at_seq (by kernel_rfl) rfl rfl s H
noncomputable def r27_2 : {l : List Oper // opsOf (cAt [0] B27) = l} := by
  apply Subtype.mk
  dsimp only [opsOf, cAt, kids, B27, bodyOf, Try.f27, List.getD, List.getElem?_cons_zero, List.getElem?_cons_succ, Option.getD_some]
@[simp] theorem n27_2 (s : List V) (H : Heap) : evCode P Γ call n f m (cAt [0] B27) s H = regNext (evOpsGo P Γ call r27_2.1 r27_2.1 s H) := at_region (by kernel_rfl) r27_2.2 s H
attribute [simp] r27_2
@[simp] theorem n27_3 (s : List V) (H : Heap) : evCode P Γ call n f m (cAt [1] B27) s H = seqNext P Γ call n f m (cAt [1, 1] B27) (evCode P Γ call n f m (cAt [1, 0] B27) s H) := at_seq (by kernel_rfl) rfl rfl s H
@[simp] theorem n27_4 (s : List V) (H : Heap) : evCode P Γ call n f m (cAt [1, 0] B27) s H = seqNext P Γ call n f m (cAt [1, 0, 1] B27) (evCode P Γ call n f m (cAt [1, 0, 0] B27) s H) := at_seq (by kernel_rfl) rfl rfl s H
noncomputable def r27_5 : {l : List Oper // opsOf (cAt [1, 0, 0] B27) = l} := by
  apply Subtype.mk
  dsimp only [opsOf, cAt, kids, B27, bodyOf, Try.f27, List.getD, List.getElem?_cons_zero, List.getElem?_cons_succ, Option.getD_some]
@[simp] theorem n27_5 (s : List V) (H : Heap) : evCode P Γ call n f m (cAt [1, 0, 0] B27) s H = regNext (evOpsGo P Γ call r27_5.1 r27_5.1 s H) := at_region (by kernel_rfl) r27_5.2 s H
attribute [simp] r27_5
@[simp] theorem n27_6 (s : List V) (H : Heap) : evCode P Γ call n f m (cAt [1, 0, 1] B27) s H = seqNext P Γ call n f m (cAt [1, 0, 1, 1] B27) (evCode P Γ call n f m (cAt [1, 0, 1, 0] B27) s H) := at_seq (by kernel_rfl) rfl rfl s H
noncomputable def r27_7 : {l : List Oper // opsOf (cAt [1, 0, 1, 0] B27) = l} := by
  apply Subtype.mk
  dsimp only [opsOf, cAt, kids, B27, bodyOf, Try.f27, List.getD, List.getElem?_cons_zero, List.getElem?_cons_succ, Option.getD_some]
@[simp] theorem n27_7 (s : List V) (H : Heap) : evCode P Γ call n f m (cAt [1, 0, 1, 0] B27) s H = regNext (evOpsGo P Γ call r27_7.1 r27_7.1 s H) := at_region (by kernel_rfl) r27_7.2 s H
attribute [simp] r27_7
@[simp] theorem n27_8 (s : List V) (H : Heap) : evCode P Γ call n f m (cAt [1, 0, 1, 1] B27) s H = condW P Γ call n f m (cAt [1, 0, 1, 1, 0] B27) (cAt [1, 0, 1, 1, 1] B27) s H (evOperand Γ s (.tmp 13)) := at_cond (by kernel_rfl) (by kernel_rfl) rfl rfl s H
@[simp] theorem n27_9 (s : List V) (H : Heap) : evCode P Γ call n f m (cAt [1, 0, 1, 1, 0] B27) s H = seqNext P Γ call n f m (cAt [1, 0, 1, 1, 0, 1] B27) (evCode P Γ call n f m (cAt [1, 0, 1, 1, 0, 0] B27) s H) := at_seq (by kernel_rfl) rfl rfl s H
noncomputable def r27_10 : {l : List Oper // opsOf (cAt [1, 0, 1, 1, 0, 0] B27) = l} := by
  apply Subtype.mk
  dsimp only [opsOf, cAt, kids, B27, bodyOf, Try.f27, List.getD, List.getElem?_cons_zero, List.getElem?_cons_succ, Option.getD_some]
@[simp] theorem n27_10 (s : List V) (H : Heap) : evCode P Γ call n f m (cAt [1, 0, 1, 1, 0, 0] B27) s H = regNext (evOpsGo P Γ call r27_10.1 r27_10.1 s H) := at_region (by kernel_rfl) r27_10.2 s H
attribute [simp] r27_10
@[simp] theorem n27_11 (s : List V) (H : Heap) : evCode P Γ call n f m (cAt [1, 0, 1, 1, 0, 1] B27) s H = some (.ret, s, H) := at_ret (by kernel_rfl) s H
@[simp] theorem n27_12 (s : List V) (H : Heap) : evCode P Γ call n f m (cAt [1, 0, 1, 1, 1] B27) s H = some (.normal, s, H) := at_skip (by kernel_rfl) s H
@[simp] theorem n27_13 (s : List V) (H : Heap) : evCode P Γ call n f m (cAt [1, 1] B27) s H = seqNext P Γ call n f m (cAt [1, 1, 1] B27) (evCode P Γ call n f m (cAt [1, 1, 0] B27) s H) := at_seq (by kernel_rfl) rfl rfl s H
@[simp] theorem n27_14 (s : List V) (H : Heap) : evCode P Γ call n f m (cAt [1, 1, 0] B27) s H = seqNext P Γ call n f m (cAt [1, 1, 0, 1] B27) (evCode P Γ call n f m (cAt [1, 1, 0, 0] B27) s H) := at_seq (by kernel_rfl) rfl rfl s H
noncomputable def r27_15 : {l : List Oper // opsOf (cAt [1, 1, 0, 0] B27) = l} := by
  apply Subtype.mk
  dsimp only [opsOf, cAt, kids, B27, bodyOf, Try.f27, List.getD, List.getElem?_cons_zero, List.getElem?_cons_succ, Option.getD_some]
@[simp] theorem n27_15 (s : List V) (H : Heap) : evCode P Γ call n f m (cAt [1, 1, 0, 0] B27) s H = regNext (evOpsGo P Γ call r27_15.1 r27_15.1 s H) := at_region (by kernel_rfl) r27_15.2 s H
attribute [simp] r27_15
@[simp] theorem n27_16 (s : List V) (H : Heap) : evCode P Γ call n f m (cAt [1, 1, 0, 1] B27) s H = condW P Γ call n f m (cAt [1, 1, 0, 1, 0] B27) (cAt [1, 1, 0, 1, 1] B27) s H (evOperand Γ s (.tmp 27)) := at_cond (by kernel_rfl) (by kernel_rfl) rfl rfl s H
@[simp] theorem n27_17 (s : List V) (H : Heap) : evCode P Γ call n f m (cAt [1, 1, 0, 1, 0] B27) s H = seqNext P Γ call n f m (cAt [1, 1, 0, 1, 0, 1] B27) (evCode P Γ call n f m (cAt [1, 1, 0, 1, 0, 0] B27) s H) := at_seq (by kernel_rfl) rfl rfl s H
noncomputable def r27_18 : {l : List Oper // opsOf (cAt [1, 1, 0, 1, 0, 0] B27) = l} := by
  apply Subtype.mk
  dsimp only [opsOf, cAt, kids, B27, bodyOf, Try.f27, List.getD, List.getElem?_cons_zero, List.getElem?_cons_succ, Option.getD_some]
@[simp] theorem n27_18 (s : List V) (H : Heap) : evCode P Γ call n f m (cAt [1, 1, 0, 1, 0, 0] B27) s H = regNext (evOpsGo P Γ call r27_18.1 r27_18.1 s H) := at_region (by kernel_rfl) r27_18.2 s H
attribute [simp] r27_18
@[simp] theorem n27_19 (s : List V) (H : Heap) : evCode P Γ call n f m (cAt [1, 1, 0, 1, 0, 1] B27) s H = some (.ret, s, H) := at_ret (by kernel_rfl) s H
@[simp] theorem n27_20 (s : List V) (H : Heap) : evCode P Γ call n f m (cAt [1, 1, 0, 1, 1] B27) s H = some (.normal, s, H) := at_skip (by kernel_rfl) s H
@[simp] theorem n27_21 (s : List V) (H : Heap) : evCode P Γ call n f m (cAt [1, 1, 1] B27) s H = seqNext P Γ call n f m (cAt [1, 1, 1, 1] B27) (evCode P Γ call n f m (cAt [1, 1, 1, 0] B27) s H) := at_seq (by kernel_rfl) rfl rfl s H
noncomputable def r27_22 : {l : List Oper // opsOf (cAt [1, 1, 1, 0] B27) = l} := by
  apply Subtype.mk
  dsimp only [opsOf, cAt, kids, B27, bodyOf, Try.f27, List.getD, List.getElem?_cons_zero, List.getElem?_cons_succ, Option.getD_some]
@[simp] theorem n27_22 (s : List V) (H : Heap) : evCode P Γ call n f m (cAt [1, 1, 1, 0] B27) s H = regNext (evOpsGo P Γ call r27_22.1 r27_22.1 s H) := at_region (by kernel_rfl) r27_22.2 s H
attribute [simp] r27_22
@[simp] theorem n27_23 (s : List V) (H : Heap) : evCode P Γ call n f m (cAt [1, 1, 1, 1] B27) s H = seqNext P Γ call n f m (cAt [1, 1, 1, 1, 1] B27) (evCode P Γ call n f m (cAt [1, 1, 1, 1, 0] B27) s H) := at_seq (by kernel_rfl) rfl rfl s H
@[simp] theorem n27_24 (s : List V) (H : Heap) : evCode P Γ call n f m (cAt [1, 1, 1, 1, 0] B27) s H = seqNext P Γ call n f m (cAt [1, 1, 1, 1, 0, 1] B27) (evCode P Γ call n f m (cAt [1, 1, 1, 1, 0, 0] B27) s H) := at_seq (by kernel_rfl) rfl rfl s H
noncomputable def r27_25 : {l : List Oper // opsOf (cAt [1, 1, 1, 1, 0, 0] B27) = l} := by
  apply Subtype.mk
  dsimp only [opsOf, cAt, kids, B27, bodyOf, Try.f27, List.getD, List.getElem?_cons_zero, List.getElem?_cons_succ, Option.getD_some]
@[simp] theorem n27_25 (s : List V) (H : Heap) : evCode P Γ call n f m (cAt [1, 1, 1, 1, 0, 0] B27) s H = regNext (evOpsGo P Γ call r27_25.1 r27_25.1 s H) := at_region (by kernel_rfl) r27_25.2 s H
attribute [simp] r27_25
@[simp] theorem n27_26 (s : List V) (H : Heap) : evCode P Γ call n f m (cAt [1, 1, 1, 1, 0, 1] B27) s H = blockNext 0 (evCode P Γ call n f m (cAt [1, 1, 1, 1, 0, 1, 0] B27) s H) := at_block (by kernel_rfl) rfl s H
@[simp] theorem n27_27 (s : List V) (H : Heap) : evCode P Γ call n f m (cAt [1, 1, 1, 1, 0, 1, 0] B27) s H = evLoopC P Γ call n f m (cAt [1, 1, 1, 1, 0, 1, 0, 0] B27) n s H := at_loop (by kernel_rfl) rfl s H
noncomputable abbrev L27_8 : Code := cAt [1, 1, 1, 1, 0, 1, 0, 0] B27
@[simp] theorem n27_27f : firstRegion (cAt [1, 1, 1, 1, 0, 1, 0, 0] B27) = 8 := by kernel_rfl
@[simp] theorem n27_28 (s : List V) (H : Heap) : evCode P Γ call n f m (cAt [1, 1, 1, 1, 0, 1, 0, 0] B27) s H = seqNext P Γ call n f m (cAt [1, 1, 1, 1, 0, 1, 0, 0, 1] B27) (evCode P Γ call n f m (cAt [1, 1, 1, 1, 0, 1, 0, 0, 0] B27) s H) := at_seq (by kernel_rfl) rfl rfl s H
@[simp] theorem n27_29 (s : List V) (H : Heap) : evCode P Γ call n f m (cAt [1, 1, 1, 1, 0, 1, 0, 0, 0] B27) s H = seqNext P Γ call n f m (cAt [1, 1, 1, 1, 0, 1, 0, 0, 0, 1] B27) (evCode P Γ call n f m (cAt [1, 1, 1, 1, 0, 1, 0, 0, 0, 0] B27) s H) := at_seq (by kernel_rfl) rfl rfl s H
noncomputable def r27_30 : {l : List Oper // opsOf (cAt [1, 1, 1, 1, 0, 1, 0, 0, 0, 0] B27) = l} := by
  apply Subtype.mk
  dsimp only [opsOf, cAt, kids, B27, bodyOf, Try.f27, List.getD, List.getElem?_cons_zero, List.getElem?_cons_succ, Option.getD_some]
@[simp] theorem n27_30 (s : List V) (H : Heap) : evCode P Γ call n f m (cAt [1, 1, 1, 1, 0, 1, 0, 0, 0, 0] B27) s H = regNext (evOpsGo P Γ call r27_30.1 r27_30.1 s H) := at_region (by kernel_rfl) r27_30.2 s H
attribute [simp] r27_30
@[simp] theorem n27_31 (s : List V) (H : Heap) : evCode P Γ call n f m (cAt [1, 1, 1, 1, 0, 1, 0, 0, 0, 1] B27) s H = condW P Γ call n f m (cAt [1, 1, 1, 1, 0, 1, 0, 0, 0, 1, 0] B27) (cAt [1, 1, 1, 1, 0, 1, 0, 0, 0, 1, 1] B27) s H (evOperand Γ s (.tmp 36)) := at_cond (by kernel_rfl) (by kernel_rfl) rfl rfl s H
@[simp] theorem n27_32 (s : List V) (H : Heap) : evCode P Γ call n f m (cAt [1, 1, 1, 1, 0, 1, 0, 0, 0, 1, 0] B27) s H = some (.normal, s, H) := at_skip (by kernel_rfl) s H
@[simp] theorem n27_33 (s : List V) (H : Heap) : evCode P Γ call n f m (cAt [1, 1, 1, 1, 0, 1, 0, 0, 0, 1, 1] B27) s H = some (.exit 0, s, H) := at_exit (by kernel_rfl) s H
@[simp] theorem n27_34 (s : List V) (H : Heap) : evCode P Γ call n f m (cAt [1, 1, 1, 1, 0, 1, 0, 0, 1] B27) s H = seqNext P Γ call n f m (cAt [1, 1, 1, 1, 0, 1, 0, 0, 1, 1] B27) (evCode P Γ call n f m (cAt [1, 1, 1, 1, 0, 1, 0, 0, 1, 0] B27) s H) := at_seq (by kernel_rfl) rfl rfl s H
@[simp] theorem n27_35 (s : List V) (H : Heap) : evCode P Γ call n f m (cAt [1, 1, 1, 1, 0, 1, 0, 0, 1, 0] B27) s H = blockNext 1 (evCode P Γ call n f m (cAt [1, 1, 1, 1, 0, 1, 0, 0, 1, 0, 0] B27) s H) := at_block (by kernel_rfl) rfl s H
@[simp] theorem n27_36 (s : List V) (H : Heap) : evCode P Γ call n f m (cAt [1, 1, 1, 1, 0, 1, 0, 0, 1, 0, 0] B27) s H = seqNext P Γ call n f m (cAt [1, 1, 1, 1, 0, 1, 0, 0, 1, 0, 0, 1] B27) (evCode P Γ call n f m (cAt [1, 1, 1, 1, 0, 1, 0, 0, 1, 0, 0, 0] B27) s H) := at_seq (by kernel_rfl) rfl rfl s H
noncomputable def r27_37 : {l : List Oper // opsOf (cAt [1, 1, 1, 1, 0, 1, 0, 0, 1, 0, 0, 0] B27) = l} := by
  apply Subtype.mk
  dsimp only [opsOf, cAt, kids, B27, bodyOf, Try.f27, List.getD, List.getElem?_cons_zero, List.getElem?_cons_succ, Option.getD_some]
@[simp] theorem n27_37 (s : List V) (H : Heap) : evCode P Γ call n f m (cAt [1, 1, 1, 1, 0, 1, 0, 0, 1, 0, 0, 0] B27) s H = regNext (evOpsGo P Γ call r27_37.1 r27_37.1 s H) := at_region (by kernel_rfl) r27_37.2 s H
attribute [simp] r27_37
@[simp] theorem n27_38 (s : List V) (H : Heap) : evCode P Γ call n f m (cAt [1, 1, 1, 1, 0, 1, 0, 0, 1, 0, 0, 1] B27) s H = seqNext P Γ call n f m (cAt [1, 1, 1, 1, 0, 1, 0, 0, 1, 0, 0, 1, 1] B27) (evCode P Γ call n f m (cAt [1, 1, 1, 1, 0, 1, 0, 0, 1, 0, 0, 1, 0] B27) s H) := at_seq (by kernel_rfl) rfl rfl s H
@[simp] theorem n27_39 (s : List V) (H : Heap) : evCode P Γ call n f m (cAt [1, 1, 1, 1, 0, 1, 0, 0, 1, 0, 0, 1, 0] B27) s H = seqNext P Γ call n f m (cAt [1, 1, 1, 1, 0, 1, 0, 0, 1, 0, 0, 1, 0, 1] B27) (evCode P Γ call n f m (cAt [1, 1, 1, 1, 0, 1, 0, 0, 1, 0, 0, 1, 0, 0] B27) s H) := at_seq (by kernel_rfl) rfl rfl s H
noncomputable def r27_40 : {l : List Oper // opsOf (cAt [1, 1, 1, 1, 0, 1, 0, 0, 1, 0, 0, 1, 0, 0] B27) = l} := by
  apply Subtype.mk
  dsimp only [opsOf, cAt, kids, B27, bodyOf, Try.f27, List.getD, List.getElem?_cons_zero, List.getElem?_cons_succ, Option.getD_some]
@[simp] theorem n27_40 (s : List V) (H : Heap) : evCode P Γ call n f m (cAt [1, 1, 1, 1, 0, 1, 0, 0, 1, 0, 0, 1, 0, 0] B27) s H = regNext (evOpsGo P Γ call r27_40.1 r27_40.1 s H) := at_region (by kernel_rfl) r27_40.2 s H
attribute [simp] r27_40
@[simp] theorem n27_41 (s : List V) (H : Heap) : evCode P Γ call n f m (cAt [1, 1, 1, 1, 0, 1, 0, 0, 1, 0, 0, 1, 0, 1] B27) s H = condW P Γ call n f m (cAt [1, 1, 1, 1, 0, 1, 0, 0, 1, 0, 0, 1, 0, 1, 0] B27) (cAt [1, 1, 1, 1, 0, 1, 0, 0, 1, 0, 0, 1, 0, 1, 1] B27) s H (evOperand Γ s (.tmp 46)) := at_cond (by kernel_rfl) (by kernel_rfl) rfl rfl s H
@[simp] theorem n27_42 (s : List V) (H : Heap) : evCode P Γ call n f m (cAt [1, 1, 1, 1, 0, 1, 0, 0, 1, 0, 0, 1, 0, 1, 0] B27) s H = seqNext P Γ call n f m (cAt [1, 1, 1, 1, 0, 1, 0, 0, 1, 0, 0, 1, 0, 1, 0, 1] B27) (evCode P Γ call n f m (cAt [1, 1, 1, 1, 0, 1, 0, 0, 1, 0, 0, 1, 0, 1, 0, 0] B27) s H) := at_seq (by kernel_rfl) rfl rfl s H
noncomputable def r27_43 : {l : List Oper // opsOf (cAt [1, 1, 1, 1, 0, 1, 0, 0, 1, 0, 0, 1, 0, 1, 0, 0] B27) = l} := by
  apply Subtype.mk
  dsimp only [opsOf, cAt, kids, B27, bodyOf, Try.f27, List.getD, List.getElem?_cons_zero, List.getElem?_cons_succ, Option.getD_some]
@[simp] theorem n27_43 (s : List V) (H : Heap) : evCode P Γ call n f m (cAt [1, 1, 1, 1, 0, 1, 0, 0, 1, 0, 0, 1, 0, 1, 0, 0] B27) s H = regNext (evOpsGo P Γ call r27_43.1 r27_43.1 s H) := at_region (by kernel_rfl) r27_43.2 s H
attribute [simp] r27_43
@[simp] theorem n27_44 (s : List V) (H : Heap) : evCode P Γ call n f m (cAt [1, 1, 1, 1, 0, 1, 0, 0, 1, 0, 0, 1, 0, 1, 0, 1] B27) s H = some (.ret, s, H) := at_ret (by kernel_rfl) s H
@[simp] theorem n27_45 (s : List V) (H : Heap) : evCode P Γ call n f m (cAt [1, 1, 1, 1, 0, 1, 0, 0, 1, 0, 0, 1, 0, 1, 1] B27) s H = some (.normal, s, H) := at_skip (by kernel_rfl) s H
noncomputable def r27_46 : {l : List Oper // opsOf (cAt [1, 1, 1, 1, 0, 1, 0, 0, 1, 0, 0, 1, 1] B27) = l} := by
  apply Subtype.mk
  dsimp only [opsOf, cAt, kids, B27, bodyOf, Try.f27, List.getD, List.getElem?_cons_zero, List.getElem?_cons_succ, Option.getD_some]
@[simp] theorem n27_46 (s : List V) (H : Heap) : evCode P Γ call n f m (cAt [1, 1, 1, 1, 0, 1, 0, 0, 1, 0, 0, 1, 1] B27) s H = regNext (evOpsGo P Γ call r27_46.1 r27_46.1 s H) := at_region (by kernel_rfl) r27_46.2 s H
attribute [simp] r27_46
noncomputable def r27_47 : {l : List Oper // opsOf (cAt [1, 1, 1, 1, 0, 1, 0, 0, 1, 1] B27) = l} := by
  apply Subtype.mk
  dsimp only [opsOf, cAt, kids, B27, bodyOf, Try.f27, List.getD, List.getElem?_cons_zero, List.getElem?_cons_succ, Option.getD_some]
@[simp] theorem n27_47 (s : List V) (H : Heap) : evCode P Γ call n f m (cAt [1, 1, 1, 1, 0, 1, 0, 0, 1, 1] B27) s H = regNext (evOpsGo P Γ call r27_47.1 r27_47.1 s H) := at_region (by kernel_rfl) r27_47.2 s H
attribute [simp] r27_47
@[simp] theorem n27_48 (s : List V) (H : Heap) : evCode P Γ call n f m (cAt [1, 1, 1, 1, 1] B27) s H = seqNext P Γ call n f m (cAt [1, 1, 1, 1, 1, 1] B27) (evCode P Γ call n f m (cAt [1, 1, 1, 1, 1, 0] B27) s H) := at_seq (by kernel_rfl) rfl rfl s H
noncomputable def r27_49 : {l : List Oper // opsOf (cAt [1, 1, 1, 1, 1, 0] B27) = l} := by
  apply Subtype.mk
  dsimp only [opsOf, cAt, kids, B27, bodyOf, Try.f27, List.getD, List.getElem?_cons_zero, List.getElem?_cons_succ, Option.getD_some]
@[simp] theorem n27_49 (s : List V) (H : Heap) : evCode P Γ call n f m (cAt [1, 1, 1, 1, 1, 0] B27) s H = regNext (evOpsGo P Γ call r27_49.1 r27_49.1 s H) := at_region (by kernel_rfl) r27_49.2 s H
attribute [simp] r27_49
@[simp] theorem n27_50 (s : List V) (H : Heap) : evCode P Γ call n f m (cAt [1, 1, 1, 1, 1, 1] B27) s H = some (.ret, s, H) := at_ret (by kernel_rfl) s H
theorem b27 {k : Nat} (ho : ∀ args H, Γ.orc 27 args H = none) (args : List V) (H : Heap) (ha : args.length ≤ 57) : evF Try.prog Γ (k + 1) 27 args H = bodyEnd Try.prog [.tmp 4, .tmp 5] H.length (evCode Try.prog Γ (evF Try.prog Γ k) k 27 H.length (cAt [] B27) (mkL 57 V.undef (enumV 0 args)) H) := body_at Try.func27 (by decide) rfl ho rfl rfl args H ha
noncomputable def B51 : Code := bodyOf Try.f51
@[simp] theorem n51_1 (s : List V) (H : Heap) : evCode P Γ call n f m (cAt [] B51) s H = seqNext P Γ call n f m (cAt [1] B51) (evCode P Γ call n f m (cAt [0] B51) s H) := at_seq (by kernel_rfl) rfl rfl s H
noncomputable def r51_2 : {l : List Oper // opsOf (cAt [0] B51) = l} := by
  apply Subtype.mk
  dsimp only [opsOf, cAt, kids, B51, bodyOf, Try.f51, List.getD, List.getElem?_cons_zero, List.getElem?_cons_succ, Option.getD_some]
@[simp] theorem n51_2 (s : List V) (H : Heap) : evCode P Γ call n f m (cAt [0] B51) s H = regNext (evOpsGo P Γ call r51_2.1 r51_2.1 s H) := at_region (by kernel_rfl) r51_2.2 s H
attribute [simp] r51_2
@[simp] theorem n51_3 (s : List V) (H : Heap) : evCode P Γ call n f m (cAt [1] B51) s H = seqNext P Γ call n f m (cAt [1, 1] B51) (evCode P Γ call n f m (cAt [1, 0] B51) s H) := at_seq (by kernel_rfl) rfl rfl s H
@[simp] theorem n51_4 (s : List V) (H : Heap) : evCode P Γ call n f m (cAt [1, 0] B51) s H = seqNext P Γ call n f m (cAt [1, 0, 1] B51) (evCode P Γ call n f m (cAt [1, 0, 0] B51) s H) := at_seq (by kernel_rfl) rfl rfl s H
noncomputable def r51_5 : {l : List Oper // opsOf (cAt [1, 0, 0] B51) = l} := by
  apply Subtype.mk
  dsimp only [opsOf, cAt, kids, B51, bodyOf, Try.f51, List.getD, List.getElem?_cons_zero, List.getElem?_cons_succ, Option.getD_some]
@[simp] theorem n51_5 (s : List V) (H : Heap) : evCode P Γ call n f m (cAt [1, 0, 0] B51) s H = regNext (evOpsGo P Γ call r51_5.1 r51_5.1 s H) := at_region (by kernel_rfl) r51_5.2 s H
attribute [simp] r51_5
@[simp] theorem n51_6 (s : List V) (H : Heap) : evCode P Γ call n f m (cAt [1, 0, 1] B51) s H = condW P Γ call n f m (cAt [1, 0, 1, 0] B51) (cAt [1, 0, 1, 1] B51) s H (evOperand Γ s (.tmp 6)) := at_cond (by kernel_rfl) (by kernel_rfl) rfl rfl s H
noncomputable def r51_7 : {l : List Oper // opsOf (cAt [1, 0, 1, 0] B51) = l} := by
  apply Subtype.mk
  dsimp only [opsOf, cAt, kids, B51, bodyOf, Try.f51, List.getD, List.getElem?_cons_zero, List.getElem?_cons_succ, Option.getD_some]
@[simp] theorem n51_7 (s : List V) (H : Heap) : evCode P Γ call n f m (cAt [1, 0, 1, 0] B51) s H = regNext (evOpsGo P Γ call r51_7.1 r51_7.1 s H) := at_region (by kernel_rfl) r51_7.2 s H
attribute [simp] r51_7
@[simp] theorem n51_8 (s : List V) (H : Heap) : evCode P Γ call n f m (cAt [1, 0, 1, 1] B51) s H = some (.normal, s, H) := at_skip (by kernel_rfl) s H
@[simp] theorem n51_9 (s : List V) (H : Heap) : evCode P Γ call n f m (cAt [1, 1] B51) s H = seqNext P Γ call n f m (cAt [1, 1, 1] B51) (evCode P Γ call n f m (cAt [1, 1, 0] B51) s H) := at_seq (by kernel_rfl) rfl rfl s H
@[simp] theorem n51_10 (s : List V) (H : Heap) : evCode P Γ call n f m (cAt [1, 1, 0] B51) s H = seqNext P Γ call n f m (cAt [1, 1, 0, 1] B51) (evCode P Γ call n f m (cAt [1, 1, 0, 0] B51) s H) := at_seq (by kernel_rfl) rfl rfl s H
noncomputable def r51_11 : {l : List Oper // opsOf (cAt [1, 1, 0, 0] B51) = l} := by
  apply Subtype.mk
  dsimp only [opsOf, cAt, kids, B51, bodyOf, Try.f51, List.getD, List.getElem?_cons_zero, List.getElem?_cons_succ, Option.getD_some]
@[simp] theorem n51_11 (s : List V) (H : Heap) : evCode P Γ call n f m (cAt [1, 1, 0, 0] B51) s H = regNext (evOpsGo P Γ call r51_11.1 r51_11.1 s H) := at_region (by kernel_rfl) r51_11.2 s H
attribute [simp] r51_11
@[simp] theorem n51_12 (s : List V) (H : Heap) : evCode P Γ call n f m (cAt [1, 1, 0, 1] B51) s H = seqNext P Γ call n f m (cAt [1, 1, 0, 1, 1] B51) (evCode P Γ call n f m (cAt [1, 1, 0, 1, 0] B51) s H) := at_seq (by kernel_rfl) rfl rfl s H
noncomputable def r51_13 : {l : List Oper // opsOf (cAt [1, 1, 0, 1, 0] B51) = l} := by
  apply Subtype.mk
  dsimp only [opsOf, cAt, kids, B51, bodyOf, Try.f51, List.getD, List.getElem?_cons_zero, List.getElem?_cons_succ, Option.getD_some]
@[simp] theorem n51_13 (s : List V) (H : Heap) : evCode P Γ call n f m (cAt [1, 1, 0, 1, 0] B51) s H = regNext (evOpsGo P Γ call r51_13.1 r51_13.1 s H) := at_region (by kernel_rfl) r51_13.2 s H
attribute [simp] r51_13
@[simp] theorem n51_14 (s : List V) (H : Heap) : evCode P Γ call n f m (cAt [1, 1, 0, 1, 1] B51) s H = condW P Γ call n f m (cAt [1, 1, 0, 1, 1, 0] B51) (cAt [1, 1, 0, 1, 1, 1] B51) s H (evOperand Γ s (.tmp 16)) := at_cond (by kernel_rfl) (by kernel_rfl) rfl rfl s H
noncomputable def r51_15 : {l : List Oper // opsOf (cAt [1, 1, 0, 1, 1, 0] B51) = l} := by
  apply Subtype.mk
  dsimp only [opsOf, cAt, kids, B51, bodyOf, Try.f51, List.getD, List.getElem?_cons_zero, List.getElem?_cons_succ, Option.getD_some]
@[simp] theorem n51_15 (s : List V) (H : Heap) : evCode P Γ call n f m (cAt [1, 1, 0, 1, 1, 0] B51) s H = regNext (evOpsGo P Γ call r51_15.1 r51_15.1 s H) := at_region (by kernel_rfl) r51_15.2 s H
attribute [simp] r51_15
@[simp] theorem n51_16 (s : List V) (H : Heap) : evCode P Γ call n f m (cAt [1, 1, 0, 1, 1, 1] B51) s H = some (.normal, s, H) := at_skip (by kernel_rfl) s H
@[simp] theorem n51_17 (s : List V) (H : Heap) : evCode P Γ call n f m (cAt [1, 1, 1] B51) s H = seqNext P Γ call n f m (cAt [1, 1, 1, 1] B51) (evCode P Γ call n f m (cAt [1, 1, 1, 0] B51) s H) := at_seq (by kernel_rfl) rfl rfl s H
noncomputable def r51_18 : {l : List Oper // opsOf (cAt [1, 1, 1, 0] B51) = l} := by
  apply Subtype.mk
  dsimp only [opsOf, cAt, kids, B51, bodyOf, Try.f51, List.getD, List.getElem?_cons_zero, List.getElem?_cons_succ, Option.getD_some]
@[simp] theorem n51_18 (s : List V) (H : Heap) : evCode P Γ call n f m (cAt [1, 1, 1, 0] B51) s H = regNext (evOpsGo P Γ call r51_18.1 r51_18.1 s H) := at_region (by kernel_rfl) r51_18.2 s H
attribute [simp] r51_18
@[simp] theorem n51_19 (s : List V) (H : Heap) : evCode P Γ call n f m (cAt [1, 1, 1, 1] B51) s H = some (.ret, s, H) := at_ret (by kernel_rfl) s H
theorem b51 {k : Nat} (ho : ∀ args H, Γ.orc 51 args H = none) (args : List V) (H : Heap) (ha : args.length ≤ 27) : evF Try.prog Γ (k + 1) 51 args H = bodyEnd Try.prog [.tmp 4] H.length (evCode Try.prog Γ (evF Try.prog Γ k) k 51 H.length (cAt [] B51) (mkL 27 V.undef (enumV 0 args)) H) := body_at Try.func51 (by decide) rfl ho rfl rfl args H ha
end
end Go.Ev.Try
