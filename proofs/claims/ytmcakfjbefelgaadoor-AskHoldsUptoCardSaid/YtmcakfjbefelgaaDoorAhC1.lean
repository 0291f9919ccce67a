/-
  CODE BY NAMES, printed by wip/tools/codes.py (own work).
-/
import Derived.Test.YtmcakfjbefelgaaDoorAhG
set_option maxRecDepth 100000
set_option linter.unusedVariables false
namespace Go.Ev.Tryd
open Go Go.Ev Go.Proofs
section
variable {P : Program} {Γ : Env} {call : CallF} {n f m : Nat}

noncomputable def B12 : Code := bodyOf Tryd.f12
@[simp] theorem n12_1 (s : List V) (H : Heap) : evCode P Γ call n f m (cAt [] B12) s H = seqNext P Γ call n f m (cAt [1] B12) (evCode P Γ call n f m (cAt [0] B12) s H) := at_seq (by kernel_rfl) rfl rfl s H
noncomputable def r12_2 : {l : List Oper // opsOf (cAt [0] B12) = l} := by
  apply Subtype.mk
  dsimp only [opsOf, cAt, kids, B12, bodyOf, Tryd.f12, List.getD, List.getElem?_cons_zero, List.getElem?_cons_succ, Option.getD_some]
@[simp] theorem n12_2 (s : List V) (H : Heap) : evCode P Γ call n f m (cAt [0] B12) s H = regNext (evOpsGo P Γ call r12_2.1 r12_2.1 s H) := at_region (by kernel_rfl) r12_2.2 s H
attribute [simp] r12_2
@[simp] theorem n12_3 (s : List V) (H : Heap) : evCode P Γ call n f m (cAt [1] B12) s H = seqNext P Γ call n f m (cAt [1, 1] B12) (evCode P Γ call n f m (cAt [1, 0] B12) s H) := at_seq (by kernel_rfl) rfl rfl s H
noncomputable def r12_4 : {l : List Oper // opsOf (cAt [1, 0] B12) = l} := by
  apply Subtype.mk
  dsimp only [opsOf, cAt, kids, B12, bodyOf, Tryd.f12, List.getD, List.getElem?_cons_zero, List.getElem?_cons_succ, Option.getD_some]
@[simp] theorem n12_4 (s : List V) (H : Heap) : evCode P Γ call n f m (cAt [1, 0] B12) s H = regNext (evOpsGo P Γ call r12_4.1 r12_4.1 s H) := at_region (by kernel_rfl) r12_4.2 s H
attribute [simp] r12_4
@[simp] theorem n12_5 (s : List V) (H : Heap) : evCode P Γ call n f m (cAt [1, 1] B12) s H = seqNext P Γ call n f m (cAt [1, 1, 1] B12) (evCode P Γ call n f m (cAt [1, 1, 0] B12) s H) := at_seq (by kernel_rfl) rfl rfl s H
@[simp] theorem n12_6 (s : List V) (H : Heap) : evCode P Γ call n f m (cAt [1, 1, 0] B12) s H = seqNext P Γ call n f m (cAt [1, 1, 0, 1] B12) (evCode P Γ call n f m (cAt [1, 1, 0, 0] B12) s H) := at_seq (by kernel_rfl) rfl rfl s H
noncomputable def r12_7 : {l : List Oper // opsOf (cAt [1, 1, 0, 0] B12) = l} := by
  apply Subtype.mk
  dsimp only [opsOf, cAt, kids, B12, bodyOf, Tryd.f12, List.getD, List.getElem?_cons_zero, List.getElem?_cons_succ, Option.getD_some]
@[simp] theorem n12_7 (s : List V) (H : Heap) : evCode P Γ call n f m (cAt [1, 1, 0, 0] B12) s H = regNext (evOpsGo P Γ call r12_7.1 r12_7.1 s H) := at_region (by kernel_rfl) r12_7.2 s H
attribute [simp] r12_7
@[simp] theorem n12_8 (s : List V) (H : Heap) : evCode P Γ call n f m (cAt [1, 1, 0, 1] B12) s H = blockNext 0 (evCode P Γ call n f m (cAt [1, 1, 0, 1, 0] B12) s H) := at_block (by kernel_rfl) rfl s H
@[simp] theorem n12_9 (s : List V) (H : Heap) : evCode P Γ call n f m (cAt [1, 1, 0, 1, 0] B12) s H = seqNext P Γ call n f m (cAt [1, 1, 0, 1, 0, 1] B12) (evCode P Γ call n f m (cAt [1, 1, 0, 1, 0, 0] B12) s H) := at_seq (by kernel_rfl) rfl rfl s H
noncomputable def r12_10 : {l : List Oper // opsOf (cAt [1, 1, 0, 1, 0, 0] B12) = l} := by
  apply Subtype.mk
  dsimp only [opsOf, cAt, kids, B12, bodyOf, Tryd.f12, List.getD, List.getElem?_cons_zero, List.getElem?_cons_succ, Option.getD_some]
@[simp] theorem n12_10 (s : List V) (H : Heap) : evCode P Γ call n f m (cAt [1, 1, 0, 1, 0, 0] B12) s H = regNext (evOpsGo P Γ call r12_10.1 r12_10.1 s H) := at_region (by kernel_rfl) r12_10.2 s H
attribute [simp] r12_10
@[simp] theorem n12_11 (s : List V) (H : Heap) : evCode P Γ call n f m (cAt [1, 1, 0, 1, 0, 1] B12) s H = condW P Γ call n f m (cAt [1, 1, 0, 1, 0, 1, 0] B12) (cAt [1, 1, 0, 1, 0, 1, 1] B12) s H (evOperand Γ s (.tmp 9)) := at_cond (by kernel_rfl) (by kernel_rfl) rfl rfl s H
@[simp] theorem n12_12 (s : List V) (H : Heap) : evCode P Γ call n f m (cAt [1, 1, 0, 1, 0, 1, 0] B12) s H = seqNext P Γ call n f m (cAt [1, 1, 0, 1, 0, 1, 0, 1] B12) (evCode P Γ call n f m (cAt [1, 1, 0, 1, 0, 1, 0, 0] B12) s H) := at_seq (by kernel_rfl) rfl rfl s H
noncomputable def r12_13 : {l : List Oper // opsOf (cAt [1, 1, 0, 1, 0, 1, 0, 0] B12) = l} := by
  apply Subtype.mk
  dsimp only [opsOf, cAt, kids, B12, bodyOf, Tryd.f12, List.getD, List.getElem?_cons_zero, List.getElem?_cons_succ, Option.getD_some]
@[simp] theorem n12_13 (s : List V) (H : Heap) : evCode P Γ call n f m (cAt [1, 1, 0, 1, 0, 1, 0, 0] B12) s H = regNext (evOpsGo P Γ call r12_13.1 r12_13.1 s H) := at_region (by kernel_rfl) r12_13.2 s H
attribute [simp] r12_13
@[simp] theorem n12_14 (s : List V) (H : Heap) : evCode P Γ call n f m (cAt [1, 1, 0, 1, 0, 1, 0, 1] B12) s H = some (.ret, s, H) := at_ret (by kernel_rfl) s H
@[simp] theorem n12_15 (s : List V) (H : Heap) : evCode P Γ call n f m (cAt [1, 1, 0, 1, 0, 1, 1] B12) s H = seqNext P Γ call n f m (cAt [1, 1, 0, 1, 0, 1, 1, 1] B12) (evCode P Γ call n f m (cAt [1, 1, 0, 1, 0, 1, 1, 0] B12) s H) := at_seq (by kernel_rfl) rfl rfl s H
noncomputable def r12_16 : {l : List Oper // opsOf (cAt [1, 1, 0, 1, 0, 1, 1, 0] B12) = l} := by
  apply Subtype.mk
  dsimp only [opsOf, cAt, kids, B12, bodyOf, Tryd.f12, List.getD, List.getElem?_cons_zero, List.getElem?_cons_succ, Option.getD_some]
@[simp] theorem n12_16 (s : List V) (H : Heap) : evCode P Γ call n f m (cAt [1, 1, 0, 1, 0, 1, 1, 0] B12) s H = regNext (evOpsGo P Γ call r12_16.1 r12_16.1 s H) := at_region (by kernel_rfl) r12_16.2 s H
attribute [simp] r12_16
@[simp] theorem n12_17 (s : List V) (H : Heap) : evCode P Γ call n f m (cAt [1, 1, 0, 1, 0, 1, 1, 1] B12) s H = condW P Γ call n f m (cAt [1, 1, 0, 1, 0, 1, 1, 1, 0] B12) (cAt [1, 1, 0, 1, 0, 1, 1, 1, 1] B12) s H (evOperand Γ s (.tmp 11)) := at_cond (by kernel_rfl) (by kernel_rfl) rfl rfl s H
@[simp] theorem n12_18 (s : List V) (H : Heap) : evCode P Γ call n f m (cAt [1, 1, 0, 1, 0, 1, 1, 1, 0] B12) s H = seqNext P Γ call n f m (cAt [1, 1, 0, 1, 0, 1, 1, 1, 0, 1] B12) (evCode P Γ call n f m (cAt [1, 1, 0, 1, 0, 1, 1, 1, 0, 0] B12) s H) := at_seq (by kernel_rfl) rfl rfl s H
noncomputable def r12_19 : {l : List Oper // opsOf (cAt [1, 1, 0, 1, 0, 1, 1, 1, 0, 0] B12) = l} := by
  apply Subtype.mk
  dsimp only [opsOf, cAt, kids, B12, bodyOf, Tryd.f12, List.getD, List.getElem?_cons_zero, List.getElem?_cons_succ, Option.getD_some]
@[simp] theorem n12_19 (s : List V) (H : Heap) : evCode P Γ call n f m (cAt [1, 1, 0, 1, 0, 1, 1, 1, 0, 0] B12) s H = regNext (evOpsGo P Γ call r12_19.1 r12_19.1 s H) := at_region (by kernel_rfl) r12_19.2 s H
attribute [simp] r12_19
@[simp] theorem n12_20 (s : List V) (H : Heap) : evCode P Γ call n f m (cAt [1, 1, 0, 1, 0, 1, 1, 1, 0, 1] B12) s H = some (.ret, s, H) := at_ret (by kernel_rfl) s H
@[simp] theorem n12_21 (s : List V) (H : Heap) : evCode P Γ call n f m (cAt [1, 1, 0, 1, 0, 1, 1, 1, 1] B12) s H = seqNext P Γ call n f m (cAt [1, 1, 0, 1, 0, 1, 1, 1, 1, 1] B12) (evCode P Γ call n f m (cAt [1, 1, 0, 1, 0, 1, 1, 1, 1, 0] B12) s H) := at_seq (by kernel_rfl) rfl rfl s H
noncomputable def r12_22 : {l : List Oper // opsOf (cAt [1, 1, 0, 1, 0, 1, 1, 1, 1, 0] B12) = l} := by
  apply Subtype.mk
  dsimp only [opsOf, cAt, kids, B12, bodyOf, Tryd.f12, List.getD, List.getElem?_cons_zero, List.getElem?_cons_succ, Option.getD_some]
@[simp] theorem n12_22 (s : List V) (H : Heap) : evCode P Γ call n f m (cAt [1, 1, 0, 1, 0, 1, 1, 1, 1, 0] B12) s H = regNext (evOpsGo P Γ call r12_22.1 r12_22.1 s H) := at_region (by kernel_rfl) r12_22.2 s H
attribute [simp] r12_22
@[simp] theorem n12_23 (s : List V) (H : Heap) : evCode P Γ call n f m (cAt [1, 1, 0, 1, 0, 1, 1, 1, 1, 1] B12) s H = condW P Γ call n f m (cAt [1, 1, 0, 1, 0, 1, 1, 1, 1, 1, 0] B12) (cAt [1, 1, 0, 1, 0, 1, 1, 1, 1, 1, 1] B12) s H (evOperand Γ s (.tmp 18)) := at_cond (by kernel_rfl) (by kernel_rfl) rfl rfl s H
@[simp] theorem n12_24 (s : List V) (H : Heap) : evCode P Γ call n f m (cAt [1, 1, 0, 1, 0, 1, 1, 1, 1, 1, 0] B12) s H = seqNext P Γ call n f m (cAt [1, 1, 0, 1, 0, 1, 1, 1, 1, 1, 0, 1] B12) (evCode P Γ call n f m (cAt [1, 1, 0, 1, 0, 1, 1, 1, 1, 1, 0, 0] B12) s H) := at_seq (by kernel_rfl) rfl rfl s H
noncomputable def r12_25 : {l : List Oper // opsOf (cAt [1, 1, 0, 1, 0, 1, 1, 1, 1, 1, 0, 0] B12) = l} := by
  apply Subtype.mk
  dsimp only [opsOf, cAt, kids, B12, bodyOf, Tryd.f12, List.getD, List.getElem?_cons_zero, List.getElem?_cons_succ, Option.getD_some]
@[simp] theorem n12_25 (s : List V) (H : Heap) : evCode P Γ call n f m (cAt [1, 1, 0, 1, 0, 1, 1, 1, 1, 1, 0, 0] B12) s H = regNext (drawR P Γ call r12_25.1 [([3, 4], [23, 24]), ([3, 4], [23, 24]), ([3, 4], [23, 24]), ([0, 1, 2], [20, 21, 22]), ([0, 1, 2], [20, 21, 22]), ([], []), ([], [])] s H) := at_drawT (by kernel_rfl) r12_25.2 (by kernel_rfl) s H
attribute [simp] r12_25
@[simp] theorem n12_26 (s : List V) (H : Heap) : evCode P Γ call n f m (cAt [1, 1, 0, 1, 0, 1, 1, 1, 1, 1, 0, 1] B12) s H = some (.ret, s, H) := at_ret (by kernel_rfl) s H
@[simp] theorem n12_27 (s : List V) (H : Heap) : evCode P Γ call n f m (cAt [1, 1, 0, 1, 0, 1, 1, 1, 1, 1, 1] B12) s H = seqNext P Γ call n f m (cAt [1, 1, 0, 1, 0, 1, 1, 1, 1, 1, 1, 1] B12) (evCode P Γ call n f m (cAt [1, 1, 0, 1, 0, 1, 1, 1, 1, 1, 1, 0] B12) s H) := at_seq (by kernel_rfl) rfl rfl s H
noncomputable def r12_28 : {l : List Oper // opsOf (cAt [1, 1, 0, 1, 0, 1, 1, 1, 1, 1, 1, 0] B12) = l} := by
  apply Subtype.mk
  dsimp only [opsOf, cAt, kids, B12, bodyOf, Tryd.f12, List.getD, List.getElem?_cons_zero, List.getElem?_cons_succ, Option.getD_some]
@[simp] theorem n12_28 (s : List V) (H : Heap) : evCode P Γ call n f m (cAt [1, 1, 0, 1, 0, 1, 1, 1, 1, 1, 1, 0] B12) s H = regNext (evOpsGo P Γ call r12_28.1 r12_28.1 s H) := at_region (by kernel_rfl) r12_28.2 s H
attribute [simp] r12_28
@[simp] theorem n12_29 (s : List V) (H : Heap) : evCode P Γ call n f m (cAt [1, 1, 0, 1, 0, 1, 1, 1, 1, 1, 1, 1] B12) s H = condW P Γ call n f m (cAt [1, 1, 0, 1, 0, 1, 1, 1, 1, 1, 1, 1, 0] B12) (cAt [1, 1, 0, 1, 0, 1, 1, 1, 1, 1, 1, 1, 1] B12) s H (evOperand Γ s (.tmp 26)) := at_cond (by kernel_rfl) (by kernel_rfl) rfl rfl s H
@[simp] theorem n12_30 (s : List V) (H : Heap) : evCode P Γ call n f m (cAt [1, 1, 0, 1, 0, 1, 1, 1, 1, 1, 1, 1, 0] B12) s H = seqNext P Γ call n f m (cAt [1, 1, 0, 1, 0, 1, 1, 1, 1, 1, 1, 1, 0, 1] B12) (evCode P Γ call n f m (cAt [1, 1, 0, 1, 0, 1, 1, 1, 1, 1, 1, 1, 0, 0] B12) s H) := at_seq (by kernel_rfl) rfl rfl s H
noncomputable def r12_31 : {l : List Oper // opsOf (cAt [1, 1, 0, 1, 0, 1, 1, 1, 1, 1, 1, 1, 0, 0] B12) = l} := by
  apply Subtype.mk
  dsimp only [opsOf, cAt, kids, B12, bodyOf, Tryd.f12, List.getD, List.getElem?_cons_zero, List.getElem?_cons_succ, Option.getD_some]
@[simp] theorem n12_31 (s : List V) (H : Heap) : evCode P Γ call n f m (cAt [1, 1, 0, 1, 0, 1, 1, 1, 1, 1, 1, 1, 0, 0] B12) s H = regNext (evOpsGo P Γ call r12_31.1 r12_31.1 s H) := at_region (by kernel_rfl) r12_31.2 s H
attribute [simp] r12_31
@[simp] theorem n12_32 (s : List V) (H : Heap) : evCode P Γ call n f m (cAt [1, 1, 0, 1, 0, 1, 1, 1, 1, 1, 1, 1, 0, 1] B12) s H = some (.ret, s, H) := at_ret (by kernel_rfl) s H
@[simp] theorem n12_33 (s : List V) (H : Heap) : evCode P Γ call n f m (cAt [1, 1, 0, 1, 0, 1, 1, 1, 1, 1, 1, 1, 1] B12) s H = seqNext P Γ call n f m (cAt [1, 1, 0, 1, 0, 1, 1, 1, 1, 1, 1, 1, 1, 1] B12) (evCode P Γ call n f m (cAt [1, 1, 0, 1, 0, 1, 1, 1, 1, 1, 1, 1, 1, 0] B12) s H) := at_seq (by kernel_rfl) rfl rfl s H
noncomputable def r12_34 : {l : List Oper // opsOf (cAt [1, 1, 0, 1, 0, 1, 1, 1, 1, 1, 1, 1, 1, 0] B12) = l} := by
  apply Subtype.mk
  dsimp only [opsOf, cAt, kids, B12, bodyOf, Tryd.f12, List.getD, List.getElem?_cons_zero, List.getElem?_cons_succ, Option.getD_some]
@[simp] theorem n12_34 (s : List V) (H : Heap) : evCode P Γ call n f m (cAt [1, 1, 0, 1, 0, 1, 1, 1, 1, 1, 1, 1, 1, 0] B12) s H = regNext (evOpsGo P Γ call r12_34.1 r12_34.1 s H) := at_region (by kernel_rfl) r12_34.2 s H
attribute [simp] r12_34
@[simp] theorem n12_35 (s : List V) (H : Heap) : evCode P Γ call n f m (cAt [1, 1, 0, 1, 0, 1, 1, 1, 1, 1, 1, 1, 1, 1] B12) s H = condW P Γ call n f m (cAt [1, 1, 0, 1, 0, 1, 1, 1, 1, 1, 1, 1, 1, 1, 0] B12) (cAt [1, 1, 0, 1, 0, 1, 1, 1, 1, 1, 1, 1, 1, 1, 1] B12) s H (evOperand Γ s (.tmp 34)) := at_cond (by kernel_rfl) (by kernel_rfl) rfl rfl s H
@[simp] theorem n12_36 (s : List V) (H : Heap) : evCode P Γ call n f m (cAt [1, 1, 0, 1, 0, 1, 1, 1, 1, 1, 1, 1, 1, 1, 0] B12) s H = seqNext P Γ call n f m (cAt [1, 1, 0, 1, 0, 1, 1, 1, 1, 1, 1, 1, 1, 1, 0, 1] B12) (evCode P Γ call n f m (cAt [1, 1, 0, 1, 0, 1, 1, 1, 1, 1, 1, 1, 1, 1, 0, 0] B12) s H) := at_seq (by kernel_rfl) rfl rfl s H
noncomputable def r12_37 : {l : List Oper // opsOf (cAt [1, 1, 0, 1, 0, 1, 1, 1, 1, 1, 1, 1, 1, 1, 0, 0] B12) = l} := by
  apply Subtype.mk
  dsimp only [opsOf, cAt, kids, B12, bodyOf, Tryd.f12, List.getD, List.getElem?_cons_zero, List.getElem?_cons_succ, Option.getD_some]
@[simp] theorem n12_37 (s : List V) (H : Heap) : evCode P Γ call n f m (cAt [1, 1, 0, 1, 0, 1, 1, 1, 1, 1, 1, 1, 1, 1, 0, 0] B12) s H = regNext (evOpsGo P Γ call r12_37.1 r12_37.1 s H) := at_region (by kernel_rfl) r12_37.2 s H
attribute [simp] r12_37
@[simp] theorem n12_38 (s : List V) (H : Heap) : evCode P Γ call n f m (cAt [1, 1, 0, 1, 0, 1, 1, 1, 1, 1, 1, 1, 1, 1, 0, 1] B12) s H = some (.ret, s, H) := at_ret (by kernel_rfl) s H
@[simp] theorem n12_39 (s : List V) (H : Heap) : evCode P Γ call n f m (cAt [1, 1, 0, 1, 0, 1, 1, 1, 1, 1, 1, 1, 1, 1, 1] B12) s H = seqNext P Γ call n f m (cAt [1, 1, 0, 1, 0, 1, 1, 1, 1, 1, 1, 1, 1, 1, 1, 1] B12) (evCode P Γ call n f m (cAt [1, 1, 0, 1, 0, 1, 1, 1, 1, 1, 1, 1, 1, 1, 1, 0] B12) s H) := at_seq (by kernel_rfl) rfl rfl s H
noncomputable def r12_40 : {l : List Oper // opsOf (cAt [1, 1, 0, 1, 0, 1, 1, 1, 1, 1, 1, 1, 1, 1, 1, 0] B12) = l} := by
  apply Subtype.mk
  dsimp only [opsOf, cAt, kids, B12, bodyOf, Tryd.f12, List.getD, List.getElem?_cons_zero, List.getElem?_cons_succ, Option.getD_some]
@[simp] theorem n12_40 (s : List V) (H : Heap) : evCode P Γ call n f m (cAt [1, 1, 0, 1, 0, 1, 1, 1, 1, 1, 1, 1, 1, 1, 1, 0] B12) s H = regNext (evOpsGo P Γ call r12_40.1 r12_40.1 s H) := at_region (by kernel_rfl) r12_40.2 s H
attribute [simp] r12_40
@[simp] theorem n12_41 (s : List V) (H : Heap) : evCode P Γ call n f m (cAt [1, 1, 0, 1, 0, 1, 1, 1, 1, 1, 1, 1, 1, 1, 1, 1] B12) s H = condW P Γ call n f m (cAt [1, 1, 0, 1, 0, 1, 1, 1, 1, 1, 1, 1, 1, 1, 1, 1, 0] B12) (cAt [1, 1, 0, 1, 0, 1, 1, 1, 1, 1, 1, 1, 1, 1, 1, 1, 1] B12) s H (evOperand Γ s (.tmp 48)) := at_cond (by kernel_rfl) (by kernel_rfl) rfl rfl s H
@[simp] theorem n12_42 (s : List V) (H : Heap) : evCode P Γ call n f m (cAt [1, 1, 0, 1, 0, 1, 1, 1, 1, 1, 1, 1, 1, 1, 1, 1, 0] B12) s H = seqNext P Γ call n f m (cAt [1, 1, 0, 1, 0, 1, 1, 1, 1, 1, 1, 1, 1, 1, 1, 1, 0, 1] B12) (evCode P Γ call n f m (cAt [1, 1, 0, 1, 0, 1, 1, 1, 1, 1, 1, 1, 1, 1, 1, 1, 0, 0] B12) s H) := at_seq (by kernel_rfl) rfl rfl s H
noncomputable def r12_43 : {l : List Oper // opsOf (cAt [1, 1, 0, 1, 0, 1, 1, 1, 1, 1, 1, 1, 1, 1, 1, 1, 0, 0] B12) = l} := by
  apply Subtype.mk
  dsimp only [opsOf, cAt, kids, B12, bodyOf, Tryd.f12, List.getD, List.getElem?_cons_zero, List.getElem?_cons_succ, Option.getD_some]
@[simp] theorem n12_43 (s : List V) (H : Heap) : evCode P Γ call n f m (cAt [1, 1, 0, 1, 0, 1, 1, 1, 1, 1, 1, 1, 1, 1, 1, 1, 0, 0] B12) s H = regNext (evOpsGo P Γ call r12_43.1 r12_43.1 s H) := at_region (by kernel_rfl) r12_43.2 s H
attribute [simp] r12_43
@[simp] theorem n12_44 (s : List V) (H : Heap) : evCode P Γ call n f m (cAt [1, 1, 0, 1, 0, 1, 1, 1, 1, 1, 1, 1, 1, 1, 1, 1, 0, 1] B12) s H = some (.ret, s, H) := at_ret (by kernel_rfl) s H
@[simp] theorem n12_45 (s : List V) (H : Heap) : evCode P Γ call n f m (cAt [1, 1, 0, 1, 0, 1, 1, 1, 1, 1, 1, 1, 1, 1, 1, 1, 1] B12) s H = seqNext P Γ call n f m (cAt [1, 1, 0, 1, 0, 1, 1, 1, 1, 1, 1, 1, 1, 1, 1, 1, 1, 1] B12) (evCode P Γ call n f m (cAt [1, 1, 0, 1, 0, 1, 1, 1, 1, 1, 1, 1, 1, 1, 1, 1, 1, 0] B12) s H) := at_seq (by kernel_rfl) rfl rfl s H
noncomputable def r12_46 : {l : List Oper // opsOf (cAt [1, 1, 0, 1, 0, 1, 1, 1, 1, 1, 1, 1, 1, 1, 1, 1, 1, 0] B12) = l} := by
  apply Subtype.mk
  dsimp only [opsOf, cAt, kids, B12, bodyOf, Tryd.f12, List.getD, List.getElem?_cons_zero, List.getElem?_cons_succ, Option.getD_some]
@[simp] theorem n12_46 (s : List V) (H : Heap) : evCode P Γ call n f m (cAt [1, 1, 0, 1, 0, 1, 1, 1, 1, 1, 1, 1, 1, 1, 1, 1, 1, 0] B12) s H = regNext (evOpsGo P Γ call r12_46.1 r12_46.1 s H) := at_region (by kernel_rfl) r12_46.2 s H
attribute [simp] r12_46
@[simp] theorem n12_47 (s : List V) (H : Heap) : evCode P Γ call n f m (cAt [1, 1, 0, 1, 0, 1, 1, 1, 1, 1, 1, 1, 1, 1, 1, 1, 1, 1] B12) s H = condW P Γ call n f m (cAt [1, 1, 0, 1, 0, 1, 1, 1, 1, 1, 1, 1, 1, 1, 1, 1, 1, 1, 0] B12) (cAt [1, 1, 0, 1, 0, 1, 1, 1, 1, 1, 1, 1, 1, 1, 1, 1, 1, 1, 1] B12) s H (evOperand Γ s (.tmp 55)) := at_cond (by kernel_rfl) (by kernel_rfl) rfl rfl s H
@[simp] theorem n12_48 (s : List V) (H : Heap) : evCode P Γ call n f m (cAt [1, 1, 0, 1, 0, 1, 1, 1, 1, 1, 1, 1, 1, 1, 1, 1, 1, 1, 0] B12) s H = seqNext P Γ call n f m (cAt [1, 1, 0, 1, 0, 1, 1, 1, 1, 1, 1, 1, 1, 1, 1, 1, 1, 1, 0, 1] B12) (evCode P Γ call n f m (cAt [1, 1, 0, 1, 0, 1, 1, 1, 1, 1, 1, 1, 1, 1, 1, 1, 1, 1, 0, 0] B12) s H) := at_seq (by kernel_rfl) rfl rfl s H
noncomputable def r12_49 : {l : List Oper // opsOf (cAt [1, 1, 0, 1, 0, 1, 1, 1, 1, 1, 1, 1, 1, 1, 1, 1, 1, 1, 0, 0] B12) = l} := by
  apply Subtype.mk
  dsimp only [opsOf, cAt, kids, B12, bodyOf, Tryd.f12, List.getD, List.getElem?_cons_zero, List.getElem?_cons_succ, Option.getD_some]
@[simp] theorem n12_49 (s : List V) (H : Heap) : evCode P Γ call n f m (cAt [1, 1, 0, 1, 0, 1, 1, 1, 1, 1, 1, 1, 1, 1, 1, 1, 1, 1, 0, 0] B12) s H = regNext (evOpsGo P Γ call r12_49.1 r12_49.1 s H) := at_region (by kernel_rfl) r12_49.2 s H
attribute [simp] r12_49
@[simp] theorem n12_50 (s : List V) (H : Heap) : evCode P Γ call n f m (cAt [1, 1, 0, 1, 0, 1, 1, 1, 1, 1, 1, 1, 1, 1, 1, 1, 1, 1, 0, 1] B12) s H = some (.ret, s, H) := at_ret (by kernel_rfl) s H
@[simp] theorem n12_51 (s : List V) (H : Heap) : evCode P Γ call n f m (cAt [1, 1, 0, 1, 0, 1, 1, 1, 1, 1, 1, 1, 1, 1, 1, 1, 1, 1, 1] B12) s H = seqNext P Γ call n f m (cAt [1, 1, 0, 1, 0, 1, 1, 1, 1, 1, 1, 1, 1, 1, 1, 1, 1, 1, 1, 1] B12) (evCode P Γ call n f m (cAt [1, 1, 0, 1, 0, 1, 1, 1, 1, 1, 1, 1, 1, 1, 1, 1, 1, 1, 1, 0] B12) s H) := at_seq (by kernel_rfl) rfl rfl s H
noncomputable def r12_52 : {l : List Oper // opsOf (cAt [1, 1, 0, 1, 0, 1, 1, 1, 1, 1, 1, 1, 1, 1, 1, 1, 1, 1, 1, 0] B12) = l} := by
  apply Subtype.mk
  dsimp only [opsOf, cAt, kids, B12, bodyOf, Tryd.f12, List.getD, List.getElem?_cons_zero, List.getElem?_cons_succ, Option.getD_some]
@[simp] theorem n12_52 (s : List V) (H : Heap) : evCode P Γ call n f m (cAt [1, 1, 0, 1, 0, 1, 1, 1, 1, 1, 1, 1, 1, 1, 1, 1, 1, 1, 1, 0] B12) s H = regNext (evOpsGo P Γ call r12_52.1 r12_52.1 s H) := at_region (by kernel_rfl) r12_52.2 s H
attribute [simp] r12_52
@[simp] theorem n12_53 (s : List V) (H : Heap) : evCode P Γ call n f m (cAt [1, 1, 0, 1, 0, 1, 1, 1, 1, 1, 1, 1, 1, 1, 1, 1, 1, 1, 1, 1] B12) s H = condW P Γ call n f m (cAt [1, 1, 0, 1, 0, 1, 1, 1, 1, 1, 1, 1, 1, 1, 1, 1, 1, 1, 1, 1, 0] B12) (cAt [1, 1, 0, 1, 0, 1, 1, 1, 1, 1, 1, 1, 1, 1, 1, 1, 1, 1, 1, 1, 1] B12) s H (evOperand Γ s (.tmp 62)) := at_cond (by kernel_rfl) (by kernel_rfl) rfl rfl s H
@[simp] theorem n12_54 (s : List V) (H : Heap) : evCode P Γ call n f m (cAt [1, 1, 0, 1, 0, 1, 1, 1, 1, 1, 1, 1, 1, 1, 1, 1, 1, 1, 1, 1, 0] B12) s H = seqNext P Γ call n f m (cAt [1, 1, 0, 1, 0, 1, 1, 1, 1, 1, 1, 1, 1, 1, 1, 1, 1, 1, 1, 1, 0, 1] B12) (evCode P Γ call n f m (cAt [1, 1, 0, 1, 0, 1, 1, 1, 1, 1, 1, 1, 1, 1, 1, 1, 1, 1, 1, 1, 0, 0] B12) s H) := at_seq (by kernel_rfl) rfl rfl s H
noncomputable def r12_55 : {l : List Oper // opsOf (cAt [1, 1, 0, 1, 0, 1, 1, 1, 1, 1, 1, 1, 1, 1, 1, 1, 1, 1, 1, 1, 0, 0] B12) = l} := by
  apply Subtype.mk
  dsimp only [opsOf, cAt, kids, B12, bodyOf, Tryd.f12, List.getD, List.getElem?_cons_zero, List.getElem?_cons_succ, Option.getD_some]
@[simp] theorem n12_55 (s : List V) (H : Heap) : evCode P Γ call n f m (cAt [1, 1, 0, 1, 0, 1, 1, 1, 1, 1, 1, 1, 1, 1, 1, 1, 1, 1, 1, 1, 0, 0] B12) s H = regNext (evOpsGo P Γ call r12_55.1 r12_55.1 s H) := at_region (by kernel_rfl) r12_55.2 s H
attribute [simp] r12_55
@[simp] theorem n12_56 (s : List V) (H : Heap) : evCode P Γ call n f m (cAt [1, 1, 0, 1, 0, 1, 1, 1, 1, 1, 1, 1, 1, 1, 1, 1, 1, 1, 1, 1, 0, 1] B12) s H = some (.ret, s, H) := at_ret (by kernel_rfl) s H
@[simp] theorem n12_57 (s : List V) (H : Heap) : evCode P Γ call n f m (cAt [1, 1, 0, 1, 0, 1, 1, 1, 1, 1, 1, 1, 1, 1, 1, 1, 1, 1, 1, 1, 1] B12) s H = some (.normal, s, H) := at_skip (by kernel_rfl) s H
@[simp] theorem n12_58 (s : List V) (H : Heap) : evCode P Γ call n f m (cAt [1, 1, 1] B12) s H = seqNext P Γ call n f m (cAt [1, 1, 1, 1] B12) (evCode P Γ call n f m (cAt [1, 1, 1, 0] B12) s H) := at_seq (by kernel_rfl) rfl rfl s H
noncomputable def r12_59 : {l : List Oper // opsOf (cAt [1, 1, 1, 0] B12) = l} := by
  apply Subtype.mk
  dsimp only [opsOf, cAt, kids, B12, bodyOf, Tryd.f12, List.getD, List.getElem?_cons_zero, List.getElem?_cons_succ, Option.getD_some]
@[simp] theorem n12_59 (s : List V) (H : Heap) : evCode P Γ call n f m (cAt [1, 1, 1, 0] B12) s H = regNext (evOpsGo P Γ call r12_59.1 r12_59.1 s H) := at_region (by kernel_rfl) r12_59.2 s H
attribute [simp] r12_59
@[simp] theorem n12_60 (s : List V) (H : Heap) : evCode P Γ call n f m (cAt [1, 1, 1, 1] B12) s H = some (.ret, s, H) := at_ret (by kernel_rfl) s H
theorem b12 {k : Nat} (ho : ∀ args H, Γ.orc 12 args H = none) (args : List V) (H : Heap) (ha : args.length ≤ 68) : evF Tryd.prog Γ (k + 1) 12 args H = bodyEnd Tryd.prog [.tmp 4] H.length (evCode Tryd.prog Γ (evF Tryd.prog Γ k) k 12 H.length (cAt [] B12) (mkL 68 V.undef (enumV 0 args)) H) := body_at Tryd.func12 (by decide) rfl ho rfl rfl args H ha
noncomputable def B13 : Code := bodyOf Tryd.f13
@[simp] theorem n13_1 (s : List V) (H : Heap) : evCode P Γ call n f m (cAt [] B13) s H = seqNext P Γ call n f m (cAt [1] B13) (evCode P Γ call n f m (cAt [0] B13) s H) := at_seq (by kernel_rfl) rfl rfl s H
noncomputable def r13_2 : {l : List Oper // opsOf (cAt [0] B13) = l} := by
  apply Subtype.mk
  dsimp only [opsOf, cAt, kids, B13, bodyOf, Tryd.f13, List.getD, List.getElem?_cons_zero, List.getElem?_cons_succ, Option.getD_some]
@[simp] theorem n13_2 (s : List V) (H : Heap) : evCode P Γ call n f m (cAt [0] B13) s H = regNext (evOpsGo P Γ call r13_2.1 r13_2.1 s H) := at_region (by kernel_rfl) r13_2.2 s H
attribute [simp] r13_2
@[simp] theorem n13_3 (s : List V) (H : Heap) : evCode P Γ call n f m (cAt [1] B13) s H = seqNext P Γ call n f m (cAt [1, 1] B13) (evCode P Γ call n f m (cAt [1, 0] B13) s H) := at_seq (by kernel_rfl) rfl rfl s H
noncomputable def r13_4 : {l : List Oper // opsOf (cAt [1, 0] B13) = l} := by
  apply Subtype.mk
  dsimp only [opsOf, cAt, kids, B13, bodyOf, Tryd.f13, List.getD, List.getElem?_cons_zero, List.getElem?_cons_succ, Option.getD_some]
@[simp] theorem n13_4 (s : List V) (H : Heap) : evCode P Γ call n f m (cAt [1, 0] B13) s H = regNext (evOpsGo P Γ call r13_4.1 r13_4.1 s H) := at_region (by kernel_rfl) r13_4.2 s H
attribute [simp] r13_4
@[simp] theorem n13_5 (s : List V) (H : Heap) : evCode P Γ call n f m (cAt [1, 1] B13) s H = seqNext P Γ call n f m (cAt [1, 1, 1] B13) (evCode P Γ call n f m (cAt [1, 1, 0] B13) s H) := at_seq (by kernel_rfl) rfl rfl s H
@[simp] theorem n13_6 (s : List V) (H : Heap) : evCode P Γ call n f m (cAt [1, 1, 0] B13) s H = seqNext P Γ call n f m (cAt [1, 1, 0, 1] B13) (evCode P Γ call n f m (cAt [1, 1, 0, 0] B13) s H) := at_seq (by kernel_rfl) rfl rfl s H
noncomputable def r13_7 : {l : List Oper // opsOf (cAt [1, 1, 0, 0] B13) = l} := by
  apply Subtype.mk
  dsimp only [opsOf, cAt, kids, B13, bodyOf, Tryd.f13, List.getD, List.getElem?_cons_zero, List.getElem?_cons_succ, Option.getD_some]
@[simp] theorem n13_7 (s : List V) (H : Heap) : evCode P Γ call n f m (cAt [1, 1, 0, 0] B13) s H = regNext (evOpsGo P Γ call r13_7.1 r13_7.1 s H) := at_region (by kernel_rfl) r13_7.2 s H
attribute [simp] r13_7
@[simp] theorem n13_8 (s : List V) (H : Heap) : evCode P Γ call n f m (cAt [1, 1, 0, 1] B13) s H = blockNext 0 (evCode P Γ call n f m (cAt [1, 1, 0, 1, 0] B13) s H) := at_block (by kernel_rfl) rfl s H
@[simp] theorem n13_9 (s : List V) (H : Heap) : evCode P Γ call n f m (cAt [1, 1, 0, 1, 0] B13) s H = evLoopC P Γ call n f m (cAt [1, 1, 0, 1, 0, 0] B13) n s H := at_loop (by kernel_rfl) rfl s H
noncomputable abbrev L13_3 : Code := cAt [1, 1, 0, 1, 0, 0] B13
@[simp] theorem n13_9f : firstRegion (cAt [1, 1, 0, 1, 0, 0] B13) = 3 := by kernel_rfl
@[simp] theorem n13_10 (s : List V) (H : Heap) : evCode P Γ call n f m (cAt [1, 1, 0, 1, 0, 0] B13) s H = seqNext P Γ call n f m (cAt [1, 1, 0, 1, 0, 0, 1] B13) (evCode P Γ call n f m (cAt [1, 1, 0, 1, 0, 0, 0] B13) s H) := at_seq (by kernel_rfl) rfl rfl s H
noncomputable def r13_11 : {l : List Oper // opsOf (cAt [1, 1, 0, 1, 0, 0, 0] B13) = l} := by
  apply Subtype.mk
  dsimp only [opsOf, cAt, kids, B13, bodyOf, Tryd.f13, List.getD, List.getElem?_cons_zero, List.getElem?_cons_succ, Option.getD_some]
@[simp] theorem n13_11 (s : List V) (H : Heap) : evCode P Γ call n f m (cAt [1, 1, 0, 1, 0, 0, 0] B13) s H = regNext (evOpsGo P Γ call r13_11.1 r13_11.1 s H) := at_region (by kernel_rfl) r13_11.2 s H
attribute [simp] r13_11
@[simp] theorem n13_12 (s : List V) (H : Heap) : evCode P Γ call n f m (cAt [1, 1, 0, 1, 0, 0, 1] B13) s H = seqNext P Γ call n f m (cAt [1, 1, 0, 1, 0, 0, 1, 1] B13) (evCode P Γ call n f m (cAt [1, 1, 0, 1, 0, 0, 1, 0] B13) s H) := at_seq (by kernel_rfl) rfl rfl s H
@[simp] theorem n13_13 (s : List V) (H : Heap) : evCode P Γ call n f m (cAt [1, 1, 0, 1, 0, 0, 1, 0] B13) s H = condW P Γ call n f m (cAt [1, 1, 0, 1, 0, 0, 1, 0, 0] B13) (cAt [1, 1, 0, 1, 0, 0, 1, 0, 1] B13) s H (evOperand Γ s (.tmp 13)) := at_cond (by kernel_rfl) (by kernel_rfl) rfl rfl s H
@[simp] theorem n13_14 (s : List V) (H : Heap) : evCode P Γ call n f m (cAt [1, 1, 0, 1, 0, 0, 1, 0, 0] B13) s H = some (.normal, s, H) := at_skip (by kernel_rfl) s H
@[simp] theorem n13_15 (s : List V) (H : Heap) : evCode P Γ call n f m (cAt [1, 1, 0, 1, 0, 0, 1, 0, 1] B13) s H = some (.exit 0, s, H) := at_exit (by kernel_rfl) s H
@[simp] theorem n13_16 (s : List V) (H : Heap) : evCode P Γ call n f m (cAt [1, 1, 0, 1, 0, 0, 1, 1] B13) s H = seqNext P Γ call n f m (cAt [1, 1, 0, 1, 0, 0, 1, 1, 1] B13) (evCode P Γ call n f m (cAt [1, 1, 0, 1, 0, 0, 1, 1, 0] B13) s H) := at_seq (by kernel_rfl) rfl rfl s H
@[simp] theorem n13_17 (s : List V) (H : Heap) : evCode P Γ call n f m (cAt [1, 1, 0, 1, 0, 0, 1, 1, 0] B13) s H = blockNext 1 (evCode P Γ call n f m (cAt [1, 1, 0, 1, 0, 0, 1, 1, 0, 0] B13) s H) := at_block (by kernel_rfl) rfl s H
@[simp] theorem n13_18 (s : List V) (H : Heap) : evCode P Γ call n f m (cAt [1, 1, 0, 1, 0, 0, 1, 1, 0, 0] B13) s H = seqNext P Γ call n f m (cAt [1, 1, 0, 1, 0, 0, 1, 1, 0, 0, 1] B13) (evCode P Γ call n f m (cAt [1, 1, 0, 1, 0, 0, 1, 1, 0, 0, 0] B13) s H) := at_seq (by kernel_rfl) rfl rfl s H
noncomputable def r13_19 : {l : List Oper // opsOf (cAt [1, 1, 0, 1, 0, 0, 1, 1, 0, 0, 0] B13) = l} := by
  apply Subtype.mk
  dsimp only [opsOf, cAt, kids, B13, bodyOf, Tryd.f13, List.getD, List.getElem?_cons_zero, List.getElem?_cons_succ, Option.getD_some]
@[simp] theorem n13_19 (s : List V) (H : Heap) : evCode P Γ call n f m (cAt [1, 1, 0, 1, 0, 0, 1, 1, 0, 0, 0] B13) s H = regNext (evOpsGo P Γ call r13_19.1 r13_19.1 s H) := at_region (by kernel_rfl) r13_19.2 s H
attribute [simp] r13_19
@[simp] theorem n13_20 (s : List V) (H : Heap) : evCode P Γ call n f m (cAt [1, 1, 0, 1, 0, 0, 1, 1, 0, 0, 1] B13) s H = seqNext P Γ call n f m (cAt [1, 1, 0, 1, 0, 0, 1, 1, 0, 0, 1, 1] B13) (evCode P Γ call n f m (cAt [1, 1, 0, 1, 0, 0, 1, 1, 0, 0, 1, 0] B13) s H) := at_seq (by kernel_rfl) rfl rfl s H
noncomputable def r13_21 : {l : List Oper // opsOf (cAt [1, 1, 0, 1, 0, 0, 1, 1, 0, 0, 1, 0] B13) = l} := by
  apply Subtype.mk
  dsimp only [opsOf, cAt, kids, B13, bodyOf, Tryd.f13, List.getD, List.getElem?_cons_zero, List.getElem?_cons_succ, Option.getD_some]
@[simp] theorem n13_21 (s : List V) (H : Heap) : evCode P Γ call n f m (cAt [1, 1, 0, 1, 0, 0, 1, 1, 0, 0, 1, 0] B13) s H = regNext (evOpsGo P Γ call r13_21.1 r13_21.1 s H) := at_region (by kernel_rfl) r13_21.2 s H
attribute [simp] r13_21
@[simp] theorem n13_22 (s : List V) (H : Heap) : evCode P Γ call n f m (cAt [1, 1, 0, 1, 0, 0, 1, 1, 0, 0, 1, 1] B13) s H = condW P Γ call n f m (cAt [1, 1, 0, 1, 0, 0, 1, 1, 0, 0, 1, 1, 0] B13) (cAt [1, 1, 0, 1, 0, 0, 1, 1, 0, 0, 1, 1, 1] B13) s H (evOperand Γ s (.tmp 18)) := at_cond (by kernel_rfl) (by kernel_rfl) rfl rfl s H
noncomputable def r13_23 : {l : List Oper // opsOf (cAt [1, 1, 0, 1, 0, 0, 1, 1, 0, 0, 1, 1, 0] B13) = l} := by
  apply Subtype.mk
  dsimp only [opsOf, cAt, kids, B13, bodyOf, Tryd.f13, List.getD, List.getElem?_cons_zero, List.getElem?_cons_succ, Option.getD_some]
@[simp] theorem n13_23 (s : List V) (H : Heap) : evCode P Γ call n f m (cAt [1, 1, 0, 1, 0, 0, 1, 1, 0, 0, 1, 1, 0] B13) s H = regNext (evOpsGo P Γ call r13_23.1 r13_23.1 s H) := at_region (by kernel_rfl) r13_23.2 s H
attribute [simp] r13_23
@[simp] theorem n13_24 (s : List V) (H : Heap) : evCode P Γ call n f m (cAt [1, 1, 0, 1, 0, 0, 1, 1, 0, 0, 1, 1, 1] B13) s H = some (.normal, s, H) := at_skip (by kernel_rfl) s H
noncomputable def r13_25 : {l : List Oper // opsOf (cAt [1, 1, 0, 1, 0, 0, 1, 1, 1] B13) = l} := by
  apply Subtype.mk
  dsimp only [opsOf, cAt, kids, B13, bodyOf, Tryd.f13, List.getD, List.getElem?_cons_zero, List.getElem?_cons_succ, Option.getD_some]
@[simp] theorem n13_25 (s : List V) (H : Heap) : evCode P Γ call n f m (cAt [1, 1, 0, 1, 0, 0, 1, 1, 1] B13) s H = regNext (evOpsGo P Γ call r13_25.1 r13_25.1 s H) := at_region (by kernel_rfl) r13_25.2 s H
attribute [simp] r13_25
@[simp] theorem n13_26 (s : List V) (H : Heap) : evCode P Γ call n f m (cAt [1, 1, 1] B13) s H = seqNext P Γ call n f m (cAt [1, 1, 1, 1] B13) (evCode P Γ call n f m (cAt [1, 1, 1, 0] B13) s H) := at_seq (by kernel_rfl) rfl rfl s H
@[simp] theorem n13_27 (s : List V) (H : Heap) : evCode P Γ call n f m (cAt [1, 1, 1, 0] B13) s H = seqNext P Γ call n f m (cAt [1, 1, 1, 0, 1] B13) (evCode P Γ call n f m (cAt [1, 1, 1, 0, 0] B13) s H) := at_seq (by kernel_rfl) rfl rfl s H
noncomputable def r13_28 : {l : List Oper // opsOf (cAt [1, 1, 1, 0, 0] B13) = l} := by
  apply Subtype.mk
  dsimp only [opsOf, cAt, kids, B13, bodyOf, Tryd.f13, List.getD, List.getElem?_cons_zero, List.getElem?_cons_succ, Option.getD_some]
@[simp] theorem n13_28 (s : List V) (H : Heap) : evCode P Γ call n f m (cAt [1, 1, 1, 0, 0] B13) s H = regNext (evOpsGo P Γ call r13_28.1 r13_28.1 s H) := at_region (by kernel_rfl) r13_28.2 s H
attribute [simp] r13_28
@[simp] theorem n13_29 (s : List V) (H : Heap) : evCode P Γ call n f m (cAt [1, 1, 1, 0, 1] B13) s H = blockNext 2 (evCode P Γ call n f m (cAt [1, 1, 1, 0, 1, 0] B13) s H) := at_block (by kernel_rfl) rfl s H
@[simp] theorem n13_30 (s : List V) (H : Heap) : evCode P Γ call n f m (cAt [1, 1, 1, 0, 1, 0] B13) s H = seqNext P Γ call n f m (cAt [1, 1, 1, 0, 1, 0, 1] B13) (evCode P Γ call n f m (cAt [1, 1, 1, 0, 1, 0, 0] B13) s H) := at_seq (by kernel_rfl) rfl rfl s H
noncomputable def r13_31 : {l : List Oper // opsOf (cAt [1, 1, 1, 0, 1, 0, 0] B13) = l} := by
  apply Subtype.mk
  dsimp only [opsOf, cAt, kids, B13, bodyOf, Tryd.f13, List.getD, List.getElem?_cons_zero, List.getElem?_cons_succ, Option.getD_some]
@[simp] theorem n13_31 (s : List V) (H : Heap) : evCode P Γ call n f m (cAt [1, 1, 1, 0, 1, 0, 0] B13) s H = regNext (evOpsGo P Γ call r13_31.1 r13_31.1 s H) := at_region (by kernel_rfl) r13_31.2 s H
attribute [simp] r13_31
@[simp] theorem n13_32 (s : List V) (H : Heap) : evCode P Γ call n f m (cAt [1, 1, 1, 0, 1, 0, 1] B13) s H = condW P Γ call n f m (cAt [1, 1, 1, 0, 1, 0, 1, 0] B13) (cAt [1, 1, 1, 0, 1, 0, 1, 1] B13) s H (evOperand Γ s (.tmp 24)) := at_cond (by kernel_rfl) (by kernel_rfl) rfl rfl s H
@[simp] theorem n13_33 (s : List V) (H : Heap) : evCode P Γ call n f m (cAt [1, 1, 1, 0, 1, 0, 1, 0] B13) s H = seqNext P Γ call n f m (cAt [1, 1, 1, 0, 1, 0, 1, 0, 1] B13) (evCode P Γ call n f m (cAt [1, 1, 1, 0, 1, 0, 1, 0, 0] B13) s H) := at_seq (by kernel_rfl) rfl rfl s H
noncomputable def r13_34 : {l : List Oper // opsOf (cAt [1, 1, 1, 0, 1, 0, 1, 0, 0] B13) = l} := by
  apply Subtype.mk
  dsimp only [opsOf, cAt, kids, B13, bodyOf, Tryd.f13, List.getD, List.getElem?_cons_zero, List.getElem?_cons_succ, Option.getD_some]
@[simp] theorem n13_34 (s : List V) (H : Heap) : evCode P Γ call n f m (cAt [1, 1, 1, 0, 1, 0, 1, 0, 0] B13) s H = regNext (evOpsGo P Γ call r13_34.1 r13_34.1 s H) := at_region (by kernel_rfl) r13_34.2 s H
attribute [simp] r13_34
@[simp] theorem n13_35 (s : List V) (H : Heap) : evCode P Γ call n f m (cAt [1, 1, 1, 0, 1, 0, 1, 0, 1] B13) s H = some (.ret, s, H) := at_ret (by kernel_rfl) s H
@[simp] theorem n13_36 (s : List V) (H : Heap) : evCode P Γ call n f m (cAt [1, 1, 1, 0, 1, 0, 1, 1] B13) s H = seqNext P Γ call n f m (cAt [1, 1, 1, 0, 1, 0, 1, 1, 1] B13) (evCode P Γ call n f m (cAt [1, 1, 1, 0, 1, 0, 1, 1, 0] B13) s H) := at_seq (by kernel_rfl) rfl rfl s H
noncomputable def r13_37 : {l : List Oper // opsOf (cAt [1, 1, 1, 0, 1, 0, 1, 1, 0] B13) = l} := by
  apply Subtype.mk
  dsimp only [opsOf, cAt, kids, B13, bodyOf, Tryd.f13, List.getD, List.getElem?_cons_zero, List.getElem?_cons_succ, Option.getD_some]
@[simp] theorem n13_37 (s : List V) (H : Heap) : evCode P Γ call n f m (cAt [1, 1, 1, 0, 1, 0, 1, 1, 0] B13) s H = regNext (evOpsGo P Γ call r13_37.1 r13_37.1 s H) := at_region (by kernel_rfl) r13_37.2 s H
attribute [simp] r13_37
@[simp] theorem n13_38 (s : List V) (H : Heap) : evCode P Γ call n f m (cAt [1, 1, 1, 0, 1, 0, 1, 1, 1] B13) s H = condW P Γ call n f m (cAt [1, 1, 1, 0, 1, 0, 1, 1, 1, 0] B13) (cAt [1, 1, 1, 0, 1, 0, 1, 1, 1, 1] B13) s H (evOperand Γ s (.tmp 26)) := at_cond (by kernel_rfl) (by kernel_rfl) rfl rfl s H
@[simp] theorem n13_39 (s : List V) (H : Heap) : evCode P Γ call n f m (cAt [1, 1, 1, 0, 1, 0, 1, 1, 1, 0] B13) s H = seqNext P Γ call n f m (cAt [1, 1, 1, 0, 1, 0, 1, 1, 1, 0, 1] B13) (evCode P Γ call n f m (cAt [1, 1, 1, 0, 1, 0, 1, 1, 1, 0, 0] B13) s H) := at_seq (by kernel_rfl) rfl rfl s H
noncomputable def r13_40 : {l : List Oper // opsOf (cAt [1, 1, 1, 0, 1, 0, 1, 1, 1, 0, 0] B13) = l} := by
  apply Subtype.mk
  dsimp only [opsOf, cAt, kids, B13, bodyOf, Tryd.f13, List.getD, List.getElem?_cons_zero, List.getElem?_cons_succ, Option.getD_some]
@[simp] theorem n13_40 (s : List V) (H : Heap) : evCode P Γ call n f m (cAt [1, 1, 1, 0, 1, 0, 1, 1, 1, 0, 0] B13) s H = regNext (evOpsGo P Γ call r13_40.1 r13_40.1 s H) := at_region (by kernel_rfl) r13_40.2 s H
attribute [simp] r13_40
@[simp] theorem n13_41 (s : List V) (H : Heap) : evCode P Γ call n f m (cAt [1, 1, 1, 0, 1, 0, 1, 1, 1, 0, 1] B13) s H = some (.ret, s, H) := at_ret (by kernel_rfl) s H
@[simp] theorem n13_42 (s : List V) (H : Heap) : evCode P Γ call n f m (cAt [1, 1, 1, 0, 1, 0, 1, 1, 1, 1] B13) s H = seqNext P Γ call n f m (cAt [1, 1, 1, 0, 1, 0, 1, 1, 1, 1, 1] B13) (evCode P Γ call n f m (cAt [1, 1, 1, 0, 1, 0, 1, 1, 1, 1, 0] B13) s H) := at_seq (by kernel_rfl) rfl rfl s H
noncomputable def r13_43 : {l : List Oper // opsOf (cAt [1, 1, 1, 0, 1, 0, 1, 1, 1, 1, 0] B13) = l} := by
  apply Subtype.mk
  dsimp only [opsOf, cAt, kids, B13, bodyOf, Tryd.f13, List.getD, List.getElem?_cons_zero, List.getElem?_cons_succ, Option.getD_some]
@[simp] theorem n13_43 (s : List V) (H : Heap) : evCode P Γ call n f m (cAt [1, 1, 1, 0, 1, 0, 1, 1, 1, 1, 0] B13) s H = regNext (evOpsGo P Γ call r13_43.1 r13_43.1 s H) := at_region (by kernel_rfl) r13_43.2 s H
attribute [simp] r13_43
@[simp] theorem n13_44 (s : List V) (H : Heap) : evCode P Γ call n f m (cAt [1, 1, 1, 0, 1, 0, 1, 1, 1, 1, 1] B13) s H = condW P Γ call n f m (cAt [1, 1, 1, 0, 1, 0, 1, 1, 1, 1, 1, 0] B13) (cAt [1, 1, 1, 0, 1, 0, 1, 1, 1, 1, 1, 1] B13) s H (evOperand Γ s (.tmp 33)) := at_cond (by kernel_rfl) (by kernel_rfl) rfl rfl s H
@[simp] theorem n13_45 (s : List V) (H : Heap) : evCode P Γ call n f m (cAt [1, 1, 1, 0, 1, 0, 1, 1, 1, 1, 1, 0] B13) s H = seqNext P Γ call n f m (cAt [1, 1, 1, 0, 1, 0, 1, 1, 1, 1, 1, 0, 1] B13) (evCode P Γ call n f m (cAt [1, 1, 1, 0, 1, 0, 1, 1, 1, 1, 1, 0, 0] B13) s H) := at_seq (by kernel_rfl) rfl rfl s H
noncomputable def r13_46 : {l : List Oper // opsOf (cAt [1, 1, 1, 0, 1, 0, 1, 1, 1, 1, 1, 0, 0] B13) = l} := by
  apply Subtype.mk
  dsimp only [opsOf, cAt, kids, B13, bodyOf, Tryd.f13, List.getD, List.getElem?_cons_zero, List.getElem?_cons_succ, Option.getD_some]
@[simp] theorem n13_46 (s : List V) (H : Heap) : evCode P Γ call n f m (cAt [1, 1, 1, 0, 1, 0, 1, 1, 1, 1, 1, 0, 0] B13) s H = regNext (evOpsGo P Γ call r13_46.1 r13_46.1 s H) := at_region (by kernel_rfl) r13_46.2 s H
attribute [simp] r13_46
@[simp] theorem n13_47 (s : List V) (H : Heap) : evCode P Γ call n f m (cAt [1, 1, 1, 0, 1, 0, 1, 1, 1, 1, 1, 0, 1] B13) s H = some (.ret, s, H) := at_ret (by kernel_rfl) s H
@[simp] theorem n13_48 (s : List V) (H : Heap) : evCode P Γ call n f m (cAt [1, 1, 1, 0, 1, 0, 1, 1, 1, 1, 1, 1] B13) s H = seqNext P Γ call n f m (cAt [1, 1, 1, 0, 1, 0, 1, 1, 1, 1, 1, 1, 1] B13) (evCode P Γ call n f m (cAt [1, 1, 1, 0, 1, 0, 1, 1, 1, 1, 1, 1, 0] B13) s H) := at_seq (by kernel_rfl) rfl rfl s H
noncomputable def r13_49 : {l : List Oper // opsOf (cAt [1, 1, 1, 0, 1, 0, 1, 1, 1, 1, 1, 1, 0] B13) = l} := by
  apply Subtype.mk
  dsimp only [opsOf, cAt, kids, B13, bodyOf, Tryd.f13, List.getD, List.getElem?_cons_zero, List.getElem?_cons_succ, Option.getD_some]
@[simp] theorem n13_49 (s : List V) (H : Heap) : evCode P Γ call n f m (cAt [1, 1, 1, 0, 1, 0, 1, 1, 1, 1, 1, 1, 0] B13) s H = regNext (evOpsGo P Γ call r13_49.1 r13_49.1 s H) := at_region (by kernel_rfl) r13_49.2 s H
attribute [simp] r13_49
@[simp] theorem n13_50 (s : List V) (H : Heap) : evCode P Γ call n f m (cAt [1, 1, 1, 0, 1, 0, 1, 1, 1, 1, 1, 1, 1] B13) s H = condW P Γ call n f m (cAt [1, 1, 1, 0, 1, 0, 1, 1, 1, 1, 1, 1, 1, 0] B13) (cAt [1, 1, 1, 0, 1, 0, 1, 1, 1, 1, 1, 1, 1, 1] B13) s H (evOperand Γ s (.tmp 55)) := at_cond (by kernel_rfl) (by kernel_rfl) rfl rfl s H
@[simp] theorem n13_51 (s : List V) (H : Heap) : evCode P Γ call n f m (cAt [1, 1, 1, 0, 1, 0, 1, 1, 1, 1, 1, 1, 1, 0] B13) s H = seqNext P Γ call n f m (cAt [1, 1, 1, 0, 1, 0, 1, 1, 1, 1, 1, 1, 1, 0, 1] B13) (evCode P Γ call n f m (cAt [1, 1, 1, 0, 1, 0, 1, 1, 1, 1, 1, 1, 1, 0, 0] B13) s H) := at_seq (by kernel_rfl) rfl rfl s H
@[simp] theorem n13_52 (s : List V) (H : Heap) : evCode P Γ call n f m (cAt [1, 1, 1, 0, 1, 0, 1, 1, 1, 1, 1, 1, 1, 0, 0] B13) s H = seqNext P Γ call n f m (cAt [1, 1, 1, 0, 1, 0, 1, 1, 1, 1, 1, 1, 1, 0, 0, 1] B13) (evCode P Γ call n f m (cAt [1, 1, 1, 0, 1, 0, 1, 1, 1, 1, 1, 1, 1, 0, 0, 0] B13) s H) := at_seq (by kernel_rfl) rfl rfl s H
noncomputable def r13_53 : {l : List Oper // opsOf (cAt [1, 1, 1, 0, 1, 0, 1, 1, 1, 1, 1, 1, 1, 0, 0, 0] B13) = l} := by
  apply Subtype.mk
  dsimp only [opsOf, cAt, kids, B13, bodyOf, Tryd.f13, List.getD, List.getElem?_cons_zero, List.getElem?_cons_succ, Option.getD_some]
@[simp] theorem n13_53 (s : List V) (H : Heap) : evCode P Γ call n f m (cAt [1, 1, 1, 0, 1, 0, 1, 1, 1, 1, 1, 1, 1, 0, 0, 0] B13) s H = regNext (evOpsGo P Γ call r13_53.1 r13_53.1 s H) := at_region (by kernel_rfl) r13_53.2 s H
attribute [simp] r13_53
@[simp] theorem n13_54 (s : List V) (H : Heap) : evCode P Γ call n f m (cAt [1, 1, 1, 0, 1, 0, 1, 1, 1, 1, 1, 1, 1, 0, 0, 1] B13) s H = blockNext 3 (evCode P Γ call n f m (cAt [1, 1, 1, 0, 1, 0, 1, 1, 1, 1, 1, 1, 1, 0, 0, 1, 0] B13) s H) := at_block (by kernel_rfl) rfl s H
@[simp] theorem n13_55 (s : List V) (H : Heap) : evCode P Γ call n f m (cAt [1, 1, 1, 0, 1, 0, 1, 1, 1, 1, 1, 1, 1, 0, 0, 1, 0] B13) s H = evLoopC P Γ call n f m (cAt [1, 1, 1, 0, 1, 0, 1, 1, 1, 1, 1, 1, 1, 0, 0, 1, 0, 0] B13) n s H := at_loop (by kernel_rfl) rfl s H
noncomputable abbrev L13_17 : Code := cAt [1, 1, 1, 0, 1, 0, 1, 1, 1, 1, 1, 1, 1, 0, 0, 1, 0, 0] B13
@[simp] theorem n13_55f : firstRegion (cAt [1, 1, 1, 0, 1, 0, 1, 1, 1, 1, 1, 1, 1, 0, 0, 1, 0, 0] B13) = 17 := by kernel_rfl
@[simp] theorem n13_56 (s : List V) (H : Heap) : evCode P Γ call n f m (cAt [1, 1, 1, 0, 1, 0, 1, 1, 1, 1, 1, 1, 1, 0, 0, 1, 0, 0] B13) s H = seqNext P Γ call n f m (cAt [1, 1, 1, 0, 1, 0, 1, 1, 1, 1, 1, 1, 1, 0, 0, 1, 0, 0, 1] B13) (evCode P Γ call n f m (cAt [1, 1, 1, 0, 1, 0, 1, 1, 1, 1, 1, 1, 1, 0, 0, 1, 0, 0, 0] B13) s H) := at_seq (by kernel_rfl) rfl rfl s H
@[simp] theorem n13_57 (s : List V) (H : Heap) : evCode P Γ call n f m (cAt [1, 1, 1, 0, 1, 0, 1, 1, 1, 1, 1, 1, 1, 0, 0, 1, 0, 0, 0] B13) s H = seqNext P Γ call n f m (cAt [1, 1, 1, 0, 1, 0, 1, 1, 1, 1, 1, 1, 1, 0, 0, 1, 0, 0, 0, 1] B13) (evCode P Γ call n f m (cAt [1, 1, 1, 0, 1, 0, 1, 1, 1, 1, 1, 1, 1, 0, 0, 1, 0, 0, 0, 0] B13) s H) := at_seq (by kernel_rfl) rfl rfl s H
noncomputable def r13_58 : {l : List Oper // opsOf (cAt [1, 1, 1, 0, 1, 0, 1, 1, 1, 1, 1, 1, 1, 0, 0, 1, 0, 0, 0, 0] B13) = l} := by
  apply Subtype.mk
  dsimp only [opsOf, cAt, kids, B13, bodyOf, Tryd.f13, List.getD, List.getElem?_cons_zero, List.getElem?_cons_succ, Option.getD_some]
@[simp] theorem n13_58 (s : List V) (H : Heap) : evCode P Γ call n f m (cAt [1, 1, 1, 0, 1, 0, 1, 1, 1, 1, 1, 1, 1, 0, 0, 1, 0, 0, 0, 0] B13) s H = regNext (evOpsGo P Γ call r13_58.1 r13_58.1 s H) := at_region (by kernel_rfl) r13_58.2 s H
attribute [simp] r13_58
@[simp] theorem n13_59 (s : List V) (H : Heap) : evCode P Γ call n f m (cAt [1, 1, 1, 0, 1, 0, 1, 1, 1, 1, 1, 1, 1, 0, 0, 1, 0, 0, 0, 1] B13) s H = condW P Γ call n f m (cAt [1, 1, 1, 0, 1, 0, 1, 1, 1, 1, 1, 1, 1, 0, 0, 1, 0, 0, 0, 1, 0] B13) (cAt [1, 1, 1, 0, 1, 0, 1, 1, 1, 1, 1, 1, 1, 0, 0, 1, 0, 0, 0, 1, 1] B13) s H (evOperand Γ s (.tmp 65)) := at_cond (by kernel_rfl) (by kernel_rfl) rfl rfl s H
@[simp] theorem n13_60 (s : List V) (H : Heap) : evCode P Γ call n f m (cAt [1, 1, 1, 0, 1, 0, 1, 1, 1, 1, 1, 1, 1, 0, 0, 1, 0, 0, 0, 1, 0] B13) s H = some (.normal, s, H) := at_skip (by kernel_rfl) s H
@[simp] theorem n13_61 (s : List V) (H : Heap) : evCode P Γ call n f m (cAt [1, 1, 1, 0, 1, 0, 1, 1, 1, 1, 1, 1, 1, 0, 0, 1, 0, 0, 0, 1, 1] B13) s H = some (.exit 3, s, H) := at_exit (by kernel_rfl) s H
@[simp] theorem n13_62 (s : List V) (H : Heap) : evCode P Γ call n f m (cAt [1, 1, 1, 0, 1, 0, 1, 1, 1, 1, 1, 1, 1, 0, 0, 1, 0, 0, 1] B13) s H = seqNext P Γ call n f m (cAt [1, 1, 1, 0, 1, 0, 1, 1, 1, 1, 1, 1, 1, 0, 0, 1, 0, 0, 1, 1] B13) (evCode P Γ call n f m (cAt [1, 1, 1, 0, 1, 0, 1, 1, 1, 1, 1, 1, 1, 0, 0, 1, 0, 0, 1, 0] B13) s H) := at_seq (by kernel_rfl) rfl rfl s H
@[simp] theorem n13_63 (s : List V) (H : Heap) : evCode P Γ call n f m (cAt [1, 1, 1, 0, 1, 0, 1, 1, 1, 1, 1, 1, 1, 0, 0, 1, 0, 0, 1, 0] B13) s H = blockNext 4 (evCode P Γ call n f m (cAt [1, 1, 1, 0, 1, 0, 1, 1, 1, 1, 1, 1, 1, 0, 0, 1, 0, 0, 1, 0, 0] B13) s H) := at_block (by kernel_rfl) rfl s H
@[simp] theorem n13_64 (s : List V) (H : Heap) : evCode P Γ call n f m (cAt [1, 1, 1, 0, 1, 0, 1, 1, 1, 1, 1, 1, 1, 0, 0, 1, 0, 0, 1, 0, 0] B13) s H = seqNext P Γ call n f m (cAt [1, 1, 1, 0, 1, 0, 1, 1, 1, 1, 1, 1, 1, 0, 0, 1, 0, 0, 1, 0, 0, 1] B13) (evCode P Γ call n f m (cAt [1, 1, 1, 0, 1, 0, 1, 1, 1, 1, 1, 1, 1, 0, 0, 1, 0, 0, 1, 0, 0, 0] B13) s H) := at_seq (by kernel_rfl) rfl rfl s H
noncomputable def r13_65 : {l : List Oper // opsOf (cAt [1, 1, 1, 0, 1, 0, 1, 1, 1, 1, 1, 1, 1, 0, 0, 1, 0, 0, 1, 0, 0, 0] B13) = l} := by
  apply Subtype.mk
  dsimp only [opsOf, cAt, kids, B13, bodyOf, Tryd.f13, List.getD, List.getElem?_cons_zero, List.getElem?_cons_succ, Option.getD_some]
@[simp] theorem n13_65 (s : List V) (H : Heap) : evCode P Γ call n f m (cAt [1, 1, 1, 0, 1, 0, 1, 1, 1, 1, 1, 1, 1, 0, 0, 1, 0, 0, 1, 0, 0, 0] B13) s H = regNext (drawR P Γ call r13_65.1 [([2, 3, 4, 5, 6, 7, 10, 11], [70, 71, 72, 73, 74, 75, 78, 79]), ([2, 3, 4, 5, 6, 7, 10, 11], [70, 71, 72, 73, 74, 75, 78, 79]), ([0, 1, 3, 4, 5, 6, 7, 10, 11], [68, 69, 71, 72, 73, 74, 75, 78, 79]), ([0, 1, 2, 4, 5, 6, 10, 11], [68, 69, 70, 72, 73, 74, 78, 79]), ([0, 1, 2, 3, 10, 11], [68, 69, 70, 71, 78, 79]), ([0, 1, 2, 3, 10, 11], [68, 69, 70, 71, 78, 79]), ([0, 1, 2, 3, 10, 11], [68, 69, 70, 71, 78, 79]), ([0, 1, 2, 10, 11], [68, 69, 70, 78, 79]), ([10, 11], [78, 79]), ([10, 11], [78, 79]), ([0, 1, 2, 3, 4, 5, 6, 7, 8, 9], [68, 69, 70, 71, 72, 73, 74, 75, 76, 77]), ([0, 1, 2, 3, 4, 5, 6, 7, 8, 9], [68, 69, 70, 71, 72, 73, 74, 75, 76, 77]), ([], [])] s H) := at_drawT (by kernel_rfl) r13_65.2 (by kernel_rfl) s H
attribute [simp] r13_65
@[simp] theorem n13_66 (s : List V) (H : Heap) : evCode P Γ call n f m (cAt [1, 1, 1, 0, 1, 0, 1, 1, 1, 1, 1, 1, 1, 0, 0, 1, 0, 0, 1, 0, 0, 1] B13) s H = condW P Γ call n f m (cAt [1, 1, 1, 0, 1, 0, 1, 1, 1, 1, 1, 1, 1, 0, 0, 1, 0, 0, 1, 0, 0, 1, 0] B13) (cAt [1, 1, 1, 0, 1, 0, 1, 1, 1, 1, 1, 1, 1, 0, 0, 1, 0, 0, 1, 0, 0, 1, 1] B13) s H (evOperand Γ s (.tmp 80)) := at_cond (by kernel_rfl) (by kernel_rfl) rfl rfl s H
@[simp] theorem n13_67 (s : List V) (H : Heap) : evCode P Γ call n f m (cAt [1, 1, 1, 0, 1, 0, 1, 1, 1, 1, 1, 1, 1, 0, 0, 1, 0, 0, 1, 0, 0, 1, 0] B13) s H = seqNext P Γ call n f m (cAt [1, 1, 1, 0, 1, 0, 1, 1, 1, 1, 1, 1, 1, 0, 0, 1, 0, 0, 1, 0, 0, 1, 0, 1] B13) (evCode P Γ call n f m (cAt [1, 1, 1, 0, 1, 0, 1, 1, 1, 1, 1, 1, 1, 0, 0, 1, 0, 0, 1, 0, 0, 1, 0, 0] B13) s H) := at_seq (by kernel_rfl) rfl rfl s H
noncomputable def r13_68 : {l : List Oper // opsOf (cAt [1, 1, 1, 0, 1, 0, 1, 1, 1, 1, 1, 1, 1, 0, 0, 1, 0, 0, 1, 0, 0, 1, 0, 0] B13) = l} := by
  apply Subtype.mk
  dsimp only [opsOf, cAt, kids, B13, bodyOf, Tryd.f13, List.getD, List.getElem?_cons_zero, List.getElem?_cons_succ, Option.getD_some]
@[simp] theorem n13_68 (s : List V) (H : Heap) : evCode P Γ call n f m (cAt [1, 1, 1, 0, 1, 0, 1, 1, 1, 1, 1, 1, 1, 0, 0, 1, 0, 0, 1, 0, 0, 1, 0, 0] B13) s H = regNext (evOpsGo P Γ call r13_68.1 r13_68.1 s H) := at_region (by kernel_rfl) r13_68.2 s H
attribute [simp] r13_68
@[simp] theorem n13_69 (s : List V) (H : Heap) : evCode P Γ call n f m (cAt [1, 1, 1, 0, 1, 0, 1, 1, 1, 1, 1, 1, 1, 0, 0, 1, 0, 0, 1, 0, 0, 1, 0, 1] B13) s H = some (.ret, s, H) := at_ret (by kernel_rfl) s H
@[simp] theorem n13_70 (s : List V) (H : Heap) : evCode P Γ call n f m (cAt [1, 1, 1, 0, 1, 0, 1, 1, 1, 1, 1, 1, 1, 0, 0, 1, 0, 0, 1, 0, 0, 1, 1] B13) s H = some (.normal, s, H) := at_skip (by kernel_rfl) s H
noncomputable def r13_71 : {l : List Oper // opsOf (cAt [1, 1, 1, 0, 1, 0, 1, 1, 1, 1, 1, 1, 1, 0, 0, 1, 0, 0, 1, 1] B13) = l} := by
  apply Subtype.mk
  dsimp only [opsOf, cAt, kids, B13, bodyOf, Tryd.f13, List.getD, List.getElem?_cons_zero, List.getElem?_cons_succ, Option.getD_some]
@[simp] theorem n13_71 (s : List V) (H : Heap) : evCode P Γ call n f m (cAt [1, 1, 1, 0, 1, 0, 1, 1, 1, 1, 1, 1, 1, 0, 0, 1, 0, 0, 1, 1] B13) s H = regNext (evOpsGo P Γ call r13_71.1 r13_71.1 s H) := at_region (by kernel_rfl) r13_71.2 s H
attribute [simp] r13_71
@[simp] theorem n13_72 (s : List V) (H : Heap) : evCode P Γ call n f m (cAt [1, 1, 1, 0, 1, 0, 1, 1, 1, 1, 1, 1, 1, 0, 1] B13) s H = seqNext P Γ call n f m (cAt [1, 1, 1, 0, 1, 0, 1, 1, 1, 1, 1, 1, 1, 0, 1, 1] B13) (evCode P Γ call n f m (cAt [1, 1, 1, 0, 1, 0, 1, 1, 1, 1, 1, 1, 1, 0, 1, 0] B13) s H) := at_seq (by kernel_rfl) rfl rfl s H
noncomputable def r13_73 : {l : List Oper // opsOf (cAt [1, 1, 1, 0, 1, 0, 1, 1, 1, 1, 1, 1, 1, 0, 1, 0] B13) = l} := by
  apply Subtype.mk
  dsimp only [opsOf, cAt, kids, B13, bodyOf, Tryd.f13, List.getD, List.getElem?_cons_zero, List.getElem?_cons_succ, Option.getD_some]
@[simp] theorem n13_73 (s : List V) (H : Heap) : evCode P Γ call n f m (cAt [1, 1, 1, 0, 1, 0, 1, 1, 1, 1, 1, 1, 1, 0, 1, 0] B13) s H = regNext (evOpsGo P Γ call r13_73.1 r13_73.1 s H) := at_region (by kernel_rfl) r13_73.2 s H
attribute [simp] r13_73
@[simp] theorem n13_74 (s : List V) (H : Heap) : evCode P Γ call n f m (cAt [1, 1, 1, 0, 1, 0, 1, 1, 1, 1, 1, 1, 1, 0, 1, 1] B13) s H = some (.ret, s, H) := at_ret (by kernel_rfl) s H
@[simp] theorem n13_75 (s : List V) (H : Heap) : evCode P Γ call n f m (cAt [1, 1, 1, 0, 1, 0, 1, 1, 1, 1, 1, 1, 1, 1] B13) s H = seqNext P Γ call n f m (cAt [1, 1, 1, 0, 1, 0, 1, 1, 1, 1, 1, 1, 1, 1, 1] B13) (evCode P Γ call n f m (cAt [1, 1, 1, 0, 1, 0, 1, 1, 1, 1, 1, 1, 1, 1, 0] B13) s H) := at_seq (by kernel_rfl) rfl rfl s H
noncomputable def r13_76 : {l : List Oper // opsOf (cAt [1, 1, 1, 0, 1, 0, 1, 1, 1, 1, 1, 1, 1, 1, 0] B13) = l} := by
  apply Subtype.mk
  dsimp only [opsOf, cAt, kids, B13, bodyOf, Tryd.f13, List.getD, List.getElem?_cons_zero, List.getElem?_cons_succ, Option.getD_some]
@[simp] theorem n13_76 (s : List V) (H : Heap) : evCode P Γ call n f m (cAt [1, 1, 1, 0, 1, 0, 1, 1, 1, 1, 1, 1, 1, 1, 0] B13) s H = regNext (evOpsGo P Γ call r13_76.1 r13_76.1 s H) := at_region (by kernel_rfl) r13_76.2 s H
attribute [simp] r13_76
@[simp] theorem n13_77 (s : List V) (H : Heap) : evCode P Γ call n f m (cAt [1, 1, 1, 0, 1, 0, 1, 1, 1, 1, 1, 1, 1, 1, 1] B13) s H = condW P Γ call n f m (cAt [1, 1, 1, 0, 1, 0, 1, 1, 1, 1, 1, 1, 1, 1, 1, 0] B13) (cAt [1, 1, 1, 0, 1, 0, 1, 1, 1, 1, 1, 1, 1, 1, 1, 1] B13) s H (evOperand Γ s (.tmp 81)) := at_cond (by kernel_rfl) (by kernel_rfl) rfl rfl s H
@[simp] theorem n13_78 (s : List V) (H : Heap) : evCode P Γ call n f m (cAt [1, 1, 1, 0, 1, 0, 1, 1, 1, 1, 1, 1, 1, 1, 1, 0] B13) s H = seqNext P Γ call n f m (cAt [1, 1, 1, 0, 1, 0, 1, 1, 1, 1, 1, 1, 1, 1, 1, 0, 1] B13) (evCode P Γ call n f m (cAt [1, 1, 1, 0, 1, 0, 1, 1, 1, 1, 1, 1, 1, 1, 1, 0, 0] B13) s H) := at_seq (by kernel_rfl) rfl rfl s H
noncomputable def r13_79 : {l : List Oper // opsOf (cAt [1, 1, 1, 0, 1, 0, 1, 1, 1, 1, 1, 1, 1, 1, 1, 0, 0] B13) = l} := by
  apply Subtype.mk
  dsimp only [opsOf, cAt, kids, B13, bodyOf, Tryd.f13, List.getD, List.getElem?_cons_zero, List.getElem?_cons_succ, Option.getD_some]
@[simp] theorem n13_79 (s : List V) (H : Heap) : evCode P Γ call n f m (cAt [1, 1, 1, 0, 1, 0, 1, 1, 1, 1, 1, 1, 1, 1, 1, 0, 0] B13) s H = regNext (evOpsGo P Γ call r13_79.1 r13_79.1 s H) := at_region (by kernel_rfl) r13_79.2 s H
attribute [simp] r13_79
@[simp] theorem n13_80 (s : List V) (H : Heap) : evCode P Γ call n f m (cAt [1, 1, 1, 0, 1, 0, 1, 1, 1, 1, 1, 1, 1, 1, 1, 0, 1] B13) s H = some (.ret, s, H) := at_ret (by kernel_rfl) s H
@[simp] theorem n13_81 (s : List V) (H : Heap) : evCode P Γ call n f m (cAt [1, 1, 1, 0, 1, 0, 1, 1, 1, 1, 1, 1, 1, 1, 1, 1] B13) s H = seqNext P Γ call n f m (cAt [1, 1, 1, 0, 1, 0, 1, 1, 1, 1, 1, 1, 1, 1, 1, 1, 1] B13) (evCode P Γ call n f m (cAt [1, 1, 1, 0, 1, 0, 1, 1, 1, 1, 1, 1, 1, 1, 1, 1, 0] B13) s H) := at_seq (by kernel_rfl) rfl rfl s H
noncomputable def r13_82 : {l : List Oper // opsOf (cAt [1, 1, 1, 0, 1, 0, 1, 1, 1, 1, 1, 1, 1, 1, 1, 1, 0] B13) = l} := by
  apply Subtype.mk
  dsimp only [opsOf, cAt, kids, B13, bodyOf, Tryd.f13, List.getD, List.getElem?_cons_zero, List.getElem?_cons_succ, Option.getD_some]
@[simp] theorem n13_82 (s : List V) (H : Heap) : evCode P Γ call n f m (cAt [1, 1, 1, 0, 1, 0, 1, 1, 1, 1, 1, 1, 1, 1, 1, 1, 0] B13) s H = regNext (evOpsGo P Γ call r13_82.1 r13_82.1 s H) := at_region (by kernel_rfl) r13_82.2 s H
attribute [simp] r13_82
@[simp] theorem n13_83 (s : List V) (H : Heap) : evCode P Γ call n f m (cAt [1, 1, 1, 0, 1, 0, 1, 1, 1, 1, 1, 1, 1, 1, 1, 1, 1] B13) s H = condW P Γ call n f m (cAt [1, 1, 1, 0, 1, 0, 1, 1, 1, 1, 1, 1, 1, 1, 1, 1, 1, 0] B13) (cAt [1, 1, 1, 0, 1, 0, 1, 1, 1, 1, 1, 1, 1, 1, 1, 1, 1, 1] B13) s H (evOperand Γ s (.tmp 96)) := at_cond (by kernel_rfl) (by kernel_rfl) rfl rfl s H
@[simp] theorem n13_84 (s : List V) (H : Heap) : evCode P Γ call n f m (cAt [1, 1, 1, 0, 1, 0, 1, 1, 1, 1, 1, 1, 1, 1, 1, 1, 1, 0] B13) s H = seqNext P Γ call n f m (cAt [1, 1, 1, 0, 1, 0, 1, 1, 1, 1, 1, 1, 1, 1, 1, 1, 1, 0, 1] B13) (evCode P Γ call n f m (cAt [1, 1, 1, 0, 1, 0, 1, 1, 1, 1, 1, 1, 1, 1, 1, 1, 1, 0, 0] B13) s H) := at_seq (by kernel_rfl) rfl rfl s H
noncomputable def r13_85 : {l : List Oper // opsOf (cAt [1, 1, 1, 0, 1, 0, 1, 1, 1, 1, 1, 1, 1, 1, 1, 1, 1, 0, 0] B13) = l} := by
  apply Subtype.mk
  dsimp only [opsOf, cAt, kids, B13, bodyOf, Tryd.f13, List.getD, List.getElem?_cons_zero, List.getElem?_cons_succ, Option.getD_some]
@[simp] theorem n13_85 (s : List V) (H : Heap) : evCode P Γ call n f m (cAt [1, 1, 1, 0, 1, 0, 1, 1, 1, 1, 1, 1, 1, 1, 1, 1, 1, 0, 0] B13) s H = regNext (evOpsGo P Γ call r13_85.1 r13_85.1 s H) := at_region (by kernel_rfl) r13_85.2 s H
attribute [simp] r13_85
@[simp] theorem n13_86 (s : List V) (H : Heap) : evCode P Γ call n f m (cAt [1, 1, 1, 0, 1, 0, 1, 1, 1, 1, 1, 1, 1, 1, 1, 1, 1, 0, 1] B13) s H = some (.ret, s, H) := at_ret (by kernel_rfl) s H
@[simp] theorem n13_87 (s : List V) (H : Heap) : evCode P Γ call n f m (cAt [1, 1, 1, 0, 1, 0, 1, 1, 1, 1, 1, 1, 1, 1, 1, 1, 1, 1] B13) s H = seqNext P Γ call n f m (cAt [1, 1, 1, 0, 1, 0, 1, 1, 1, 1, 1, 1, 1, 1, 1, 1, 1, 1, 1] B13) (evCode P Γ call n f m (cAt [1, 1, 1, 0, 1, 0, 1, 1, 1, 1, 1, 1, 1, 1, 1, 1, 1, 1, 0] B13) s H) := at_seq (by kernel_rfl) rfl rfl s H
noncomputable def r13_88 : {l : List Oper // opsOf (cAt [1, 1, 1, 0, 1, 0, 1, 1, 1, 1, 1, 1, 1, 1, 1, 1, 1, 1, 0] B13) = l} := by
  apply Subtype.mk
  dsimp only [opsOf, cAt, kids, B13, bodyOf, Tryd.f13, List.getD, List.getElem?_cons_zero, List.getElem?_cons_succ, Option.getD_some]
@[simp] theorem n13_88 (s : List V) (H : Heap) : evCode P Γ call n f m (cAt [1, 1, 1, 0, 1, 0, 1, 1, 1, 1, 1, 1, 1, 1, 1, 1, 1, 1, 0] B13) s H = regNext (evOpsGo P Γ call r13_88.1 r13_88.1 s H) := at_region (by kernel_rfl) r13_88.2 s H
attribute [simp] r13_88
@[simp] theorem n13_89 (s : List V) (H : Heap) : evCode P Γ call n f m (cAt [1, 1, 1, 0, 1, 0, 1, 1, 1, 1, 1, 1, 1, 1, 1, 1, 1, 1, 1] B13) s H = condW P Γ call n f m (cAt [1, 1, 1, 0, 1, 0, 1, 1, 1, 1, 1, 1, 1, 1, 1, 1, 1, 1, 1, 0] B13) (cAt [1, 1, 1, 0, 1, 0, 1, 1, 1, 1, 1, 1, 1, 1, 1, 1, 1, 1, 1, 1] B13) s H (evOperand Γ s (.tmp 100)) := at_cond (by kernel_rfl) (by kernel_rfl) rfl rfl s H
@[simp] theorem n13_90 (s : List V) (H : Heap) : evCode P Γ call n f m (cAt [1, 1, 1, 0, 1, 0, 1, 1, 1, 1, 1, 1, 1, 1, 1, 1, 1, 1, 1, 0] B13) s H = seqNext P Γ call n f m (cAt [1, 1, 1, 0, 1, 0, 1, 1, 1, 1, 1, 1, 1, 1, 1, 1, 1, 1, 1, 0, 1] B13) (evCode P Γ call n f m (cAt [1, 1, 1, 0, 1, 0, 1, 1, 1, 1, 1, 1, 1, 1, 1, 1, 1, 1, 1, 0, 0] B13) s H) := at_seq (by kernel_rfl) rfl rfl s H
noncomputable def r13_91 : {l : List Oper // opsOf (cAt [1, 1, 1, 0, 1, 0, 1, 1, 1, 1, 1, 1, 1, 1, 1, 1, 1, 1, 1, 0, 0] B13) = l} := by
  apply Subtype.mk
  dsimp only [opsOf, cAt, kids, B13, bodyOf, Tryd.f13, List.getD, List.getElem?_cons_zero, List.getElem?_cons_succ, Option.getD_some]
@[simp] theorem n13_91 (s : List V) (H : Heap) : evCode P Γ call n f m (cAt [1, 1, 1, 0, 1, 0, 1, 1, 1, 1, 1, 1, 1, 1, 1, 1, 1, 1, 1, 0, 0] B13) s H = regNext (evOpsGo P Γ call r13_91.1 r13_91.1 s H) := at_region (by kernel_rfl) r13_91.2 s H
attribute [simp] r13_91
@[simp] theorem n13_92 (s : List V) (H : Heap) : evCode P Γ call n f m (cAt [1, 1, 1, 0, 1, 0, 1, 1, 1, 1, 1, 1, 1, 1, 1, 1, 1, 1, 1, 0, 1] B13) s H = some (.ret, s, H) := at_ret (by kernel_rfl) s H
@[simp] theorem n13_93 (s : List V) (H : Heap) : evCode P Γ call n f m (cAt [1, 1, 1, 0, 1, 0, 1, 1, 1, 1, 1, 1, 1, 1, 1, 1, 1, 1, 1, 1] B13) s H = seqNext P Γ call n f m (cAt [1, 1, 1, 0, 1, 0, 1, 1, 1, 1, 1, 1, 1, 1, 1, 1, 1, 1, 1, 1, 1] B13) (evCode P Γ call n f m (cAt [1, 1, 1, 0, 1, 0, 1, 1, 1, 1, 1, 1, 1, 1, 1, 1, 1, 1, 1, 1, 0] B13) s H) := at_seq (by kernel_rfl) rfl rfl s H
noncomputable def r13_94 : {l : List Oper // opsOf (cAt [1, 1, 1, 0, 1, 0, 1, 1, 1, 1, 1, 1, 1, 1, 1, 1, 1, 1, 1, 1, 0] B13) = l} := by
  apply Subtype.mk
  dsimp only [opsOf, cAt, kids, B13, bodyOf, Tryd.f13, List.getD, List.getElem?_cons_zero, List.getElem?_cons_succ, Option.getD_some]
@[simp] theorem n13_94 (s : List V) (H : Heap) : evCode P Γ call n f m (cAt [1, 1, 1, 0, 1, 0, 1, 1, 1, 1, 1, 1, 1, 1, 1, 1, 1, 1, 1, 1, 0] B13) s H = regNext (evOpsGo P Γ call r13_94.1 r13_94.1 s H) := at_region (by kernel_rfl) r13_94.2 s H
attribute [simp] r13_94
@[simp] theorem n13_95 (s : List V) (H : Heap) : evCode P Γ call n f m (cAt [1, 1, 1, 0, 1, 0, 1, 1, 1, 1, 1, 1, 1, 1, 1, 1, 1, 1, 1, 1, 1] B13) s H = condW P Γ call n f m (cAt [1, 1, 1, 0, 1, 0, 1, 1, 1, 1, 1, 1, 1, 1, 1, 1, 1, 1, 1, 1, 1, 0] B13) (cAt [1, 1, 1, 0, 1, 0, 1, 1, 1, 1, 1, 1, 1, 1, 1, 1, 1, 1, 1, 1, 1, 1] B13) s H (evOperand Γ s (.tmp 107)) := at_cond (by kernel_rfl) (by kernel_rfl) rfl rfl s H
@[simp] theorem n13_96 (s : List V) (H : Heap) : evCode P Γ call n f m (cAt [1, 1, 1, 0, 1, 0, 1, 1, 1, 1, 1, 1, 1, 1, 1, 1, 1, 1, 1, 1, 1, 0] B13) s H = seqNext P Γ call n f m (cAt [1, 1, 1, 0, 1, 0, 1, 1, 1, 1, 1, 1, 1, 1, 1, 1, 1, 1, 1, 1, 1, 0, 1] B13) (evCode P Γ call n f m (cAt [1, 1, 1, 0, 1, 0, 1, 1, 1, 1, 1, 1, 1, 1, 1, 1, 1, 1, 1, 1, 1, 0, 0] B13) s H) := at_seq (by kernel_rfl) rfl rfl s H
noncomputable def r13_97 : {l : List Oper // opsOf (cAt [1, 1, 1, 0, 1, 0, 1, 1, 1, 1, 1, 1, 1, 1, 1, 1, 1, 1, 1, 1, 1, 0, 0] B13) = l} := by
  apply Subtype.mk
  dsimp only [opsOf, cAt, kids, B13, bodyOf, Tryd.f13, List.getD, List.getElem?_cons_zero, List.getElem?_cons_succ, Option.getD_some]
@[simp] theorem n13_97 (s : List V) (H : Heap) : evCode P Γ call n f m (cAt [1, 1, 1, 0, 1, 0, 1, 1, 1, 1, 1, 1, 1, 1, 1, 1, 1, 1, 1, 1, 1, 0, 0] B13) s H = regNext (evOpsGo P Γ call r13_97.1 r13_97.1 s H) := at_region (by kernel_rfl) r13_97.2 s H
attribute [simp] r13_97
@[simp] theorem n13_98 (s : List V) (H : Heap) : evCode P Γ call n f m (cAt [1, 1, 1, 0, 1, 0, 1, 1, 1, 1, 1, 1, 1, 1, 1, 1, 1, 1, 1, 1, 1, 0, 1] B13) s H = some (.ret, s, H) := at_ret (by kernel_rfl) s H
@[simp] theorem n13_99 (s : List V) (H : Heap) : evCode P Γ call n f m (cAt [1, 1, 1, 0, 1, 0, 1, 1, 1, 1, 1, 1, 1, 1, 1, 1, 1, 1, 1, 1, 1, 1] B13) s H = some (.normal, s, H) := at_skip (by kernel_rfl) s H
@[simp] theorem n13_100 (s : List V) (H : Heap) : evCode P Γ call n f m (cAt [1, 1, 1, 1] B13) s H = seqNext P Γ call n f m (cAt [1, 1, 1, 1, 1] B13) (evCode P Γ call n f m (cAt [1, 1, 1, 1, 0] B13) s H) := at_seq (by kernel_rfl) rfl rfl s H
noncomputable def r13_101 : {l : List Oper // opsOf (cAt [1, 1, 1, 1, 0] B13) = l} := by
  apply Subtype.mk
  dsimp only [opsOf, cAt, kids, B13, bodyOf, Tryd.f13, List.getD, List.getElem?_cons_zero, List.getElem?_cons_succ, Option.getD_some]
@[simp] theorem n13_101 (s : List V) (H : Heap) : evCode P Γ call n f m (cAt [1, 1, 1, 1, 0] B13) s H = regNext (evOpsGo P Γ call r13_101.1 r13_101.1 s H) := at_region (by kernel_rfl) r13_101.2 s H
attribute [simp] r13_101
@[simp] theorem n13_102 (s : List V) (H : Heap) : evCode P Γ call n f m (cAt [1, 1, 1, 1, 1] B13) s H = some (.ret, s, H) := at_ret (by kernel_rfl) s H
theorem b13 {k : Nat} (ho : ∀ args H, Γ.orc 13 args H = none) (args : List V) (H : Heap) (ha : args.length ≤ 111) : evF Tryd.prog Γ (k + 1) 13 args H = bodyEnd Tryd.prog [.tmp 4] H.length (evCode Tryd.prog Γ (evF Tryd.prog Γ k) k 13 H.length (cAt [] B13) (mkL 111 V.undef (enumV 0 args)) H) := body_at Tryd.func13 (by decide) rfl ho rfl rfl args H ha
noncomputable def B14 : Code := bodyOf Tryd.f14
@[simp] theorem n14_1 (s : List V) (H : Heap) : evCode P Γ call n f m (cAt [] B14) s H = seqNext P Γ call n f m (cAt [1] B14) (evCode P Γ call n f m (cAt [0] B14) s H) := at_seq (by kernel_rfl) rfl rfl s H
noncomputable def r14_2 : {l : List Oper // opsOf (cAt [0] B14) = l} := by
  apply Subtype.mk
  dsimp only [opsOf, cAt, kids, B14, bodyOf, Tryd.f14, List.getD, List.getElem?_cons_zero, List.getElem?_cons_succ, Option.getD_some]
@[simp] theorem n14_2 (s : List V) (H : Heap) : evCode P Γ call n f m (cAt [0] B14) s H = regNext (evOpsGo P Γ call r14_2.1 r14_2.1 s H) := at_region (by kernel_rfl) r14_2.2 s H
attribute [simp] r14_2
@[simp] theorem n14_3 (s : List V) (H : Heap) : evCode P Γ call n f m (cAt [1] B14) s H = seqNext P Γ call n f m (cAt [1, 1] B14) (evCode P Γ call n f m (cAt [1, 0] B14) s H) := at_seq (by kernel_rfl) rfl rfl s H
@[simp] theorem n14_4 (s : List V) (H : Heap) : evCode P Γ call n f m (cAt [1, 0] B14) s H = seqNext P Γ call n f m (cAt [1, 0, 1] B14) (evCode P Γ call n f m (cAt [1, 0, 0] B14) s H) := at_seq (by kernel_rfl) rfl rfl s H
noncomputable def r14_5 : {l : List Oper // opsOf (cAt [1, 0, 0] B14) = l} := by
  apply Subtype.mk
  dsimp only [opsOf, cAt, kids, B14, bodyOf, Tryd.f14, List.getD, List.getElem?_cons_zero, List.getElem?_cons_succ, Option.getD_some]
@[simp] theorem n14_5 (s : List V) (H : Heap) : evCode P Γ call n f m (cAt [1, 0, 0] B14) s H = regNext (evOpsGo P Γ call r14_5.1 r14_5.1 s H) := at_region (by kernel_rfl) r14_5.2 s H
attribute [simp] r14_5
@[simp] theorem n14_6 (s : List V) (H : Heap) : evCode P Γ call n f m (cAt [1, 0, 1] B14) s H = blockNext 0 (evCode P Γ call n f m (cAt [1, 0, 1, 0] B14) s H) := at_block (by kernel_rfl) rfl s H
@[simp] theorem n14_7 (s : List V) (H : Heap) : evCode P Γ call n f m (cAt [1, 0, 1, 0] B14) s H = seqNext P Γ call n f m (cAt [1, 0, 1, 0, 1] B14) (evCode P Γ call n f m (cAt [1, 0, 1, 0, 0] B14) s H) := at_seq (by kernel_rfl) rfl rfl s H
noncomputable def r14_8 : {l : List Oper // opsOf (cAt [1, 0, 1, 0, 0] B14) = l} := by
  apply Subtype.mk
  dsimp only [opsOf, cAt, kids, B14, bodyOf, Tryd.f14, List.getD, List.getElem?_cons_zero, List.getElem?_cons_succ, Option.getD_some]
@[simp] theorem n14_8 (s : List V) (H : Heap) : evCode P Γ call n f m (cAt [1, 0, 1, 0, 0] B14) s H = regNext (evOpsGo P Γ call r14_8.1 r14_8.1 s H) := at_region (by kernel_rfl) r14_8.2 s H
attribute [simp] r14_8
@[simp] theorem n14_9 (s : List V) (H : Heap) : evCode P Γ call n f m (cAt [1, 0, 1, 0, 1] B14) s H = condW P Γ call n f m (cAt [1, 0, 1, 0, 1, 0] B14) (cAt [1, 0, 1, 0, 1, 1] B14) s H (evOperand Γ s (.tmp 9)) := at_cond (by kernel_rfl) (by kernel_rfl) rfl rfl s H
@[simp] theorem n14_10 (s : List V) (H : Heap) : evCode P Γ call n f m (cAt [1, 0, 1, 0, 1, 0] B14) s H = seqNext P Γ call n f m (cAt [1, 0, 1, 0, 1, 0, 1] B14) (evCode P Γ call n f m (cAt [1, 0, 1, 0, 1, 0, 0] B14) s H) := at_seq (by kernel_rfl) rfl rfl s H
noncomputable def r14_11 : {l : List Oper // opsOf (cAt [1, 0, 1, 0, 1, 0, 0] B14) = l} := by
  apply Subtype.mk
  dsimp only [opsOf, cAt, kids, B14, bodyOf, Tryd.f14, List.getD, List.getElem?_cons_zero, List.getElem?_cons_succ, Option.getD_some]
@[simp] theorem n14_11 (s : List V) (H : Heap) : evCode P Γ call n f m (cAt [1, 0, 1, 0, 1, 0, 0] B14) s H = regNext (evOpsGo P Γ call r14_11.1 r14_11.1 s H) := at_region (by kernel_rfl) r14_11.2 s H
attribute [simp] r14_11
@[simp] theorem n14_12 (s : List V) (H : Heap) : evCode P Γ call n f m (cAt [1, 0, 1, 0, 1, 0, 1] B14) s H = some (.ret, s, H) := at_ret (by kernel_rfl) s H
@[simp] theorem n14_13 (s : List V) (H : Heap) : evCode P Γ call n f m (cAt [1, 0, 1, 0, 1, 1] B14) s H = seqNext P Γ call n f m (cAt [1, 0, 1, 0, 1, 1, 1] B14) (evCode P Γ call n f m (cAt [1, 0, 1, 0, 1, 1, 0] B14) s H) := at_seq (by kernel_rfl) rfl rfl s H
noncomputable def r14_14 : {l : List Oper // opsOf (cAt [1, 0, 1, 0, 1, 1, 0] B14) = l} := by
  apply Subtype.mk
  dsimp only [opsOf, cAt, kids, B14, bodyOf, Tryd.f14, List.getD, List.getElem?_cons_zero, List.getElem?_cons_succ, Option.getD_some]
@[simp] theorem n14_14 (s : List V) (H : Heap) : evCode P Γ call n f m (cAt [1, 0, 1, 0, 1, 1, 0] B14) s H = regNext (evOpsGo P Γ call r14_14.1 r14_14.1 s H) := at_region (by kernel_rfl) r14_14.2 s H
attribute [simp] r14_14
@[simp] theorem n14_15 (s : List V) (H : Heap) : evCode P Γ call n f m (cAt [1, 0, 1, 0, 1, 1, 1] B14) s H = condW P Γ call n f m (cAt [1, 0, 1, 0, 1, 1, 1, 0] B14) (cAt [1, 0, 1, 0, 1, 1, 1, 1] B14) s H (evOperand Γ s (.tmp 16)) := at_cond (by kernel_rfl) (by kernel_rfl) rfl rfl s H
@[simp] theorem n14_16 (s : List V) (H : Heap) : evCode P Γ call n f m (cAt [1, 0, 1, 0, 1, 1, 1, 0] B14) s H = seqNext P Γ call n f m (cAt [1, 0, 1, 0, 1, 1, 1, 0, 1] B14) (evCode P Γ call n f m (cAt [1, 0, 1, 0, 1, 1, 1, 0, 0] B14) s H) := at_seq (by kernel_rfl) rfl rfl s H
noncomputable def r14_17 : {l : List Oper // opsOf (cAt [1, 0, 1, 0, 1, 1, 1, 0, 0] B14) = l} := by
  apply Subtype.mk
  dsimp only [opsOf, cAt, kids, B14, bodyOf, Tryd.f14, List.getD, List.getElem?_cons_zero, List.getElem?_cons_succ, Option.getD_some]
@[simp] theorem n14_17 (s : List V) (H : Heap) : evCode P Γ call n f m (cAt [1, 0, 1, 0, 1, 1, 1, 0, 0] B14) s H = regNext (evOpsGo P Γ call r14_17.1 r14_17.1 s H) := at_region (by kernel_rfl) r14_17.2 s H
attribute [simp] r14_17
@[simp] theorem n14_18 (s : List V) (H : Heap) : evCode P Γ call n f m (cAt [1, 0, 1, 0, 1, 1, 1, 0, 1] B14) s H = some (.ret, s, H) := at_ret (by kernel_rfl) s H
@[simp] theorem n14_19 (s : List V) (H : Heap) : evCode P Γ call n f m (cAt [1, 0, 1, 0, 1, 1, 1, 1] B14) s H = seqNext P Γ call n f m (cAt [1, 0, 1, 0, 1, 1, 1, 1, 1] B14) (evCode P Γ call n f m (cAt [1, 0, 1, 0, 1, 1, 1, 1, 0] B14) s H) := at_seq (by kernel_rfl) rfl rfl s H
noncomputable def r14_20 : {l : List Oper // opsOf (cAt [1, 0, 1, 0, 1, 1, 1, 1, 0] B14) = l} := by
  apply Subtype.mk
  dsimp only [opsOf, cAt, kids, B14, bodyOf, Tryd.f14, List.getD, List.getElem?_cons_zero, List.getElem?_cons_succ, Option.getD_some]
@[simp] theorem n14_20 (s : List V) (H : Heap) : evCode P Γ call n f m (cAt [1, 0, 1, 0, 1, 1, 1, 1, 0] B14) s H = regNext (evOpsGo P Γ call r14_20.1 r14_20.1 s H) := at_region (by kernel_rfl) r14_20.2 s H
attribute [simp] r14_20
@[simp] theorem n14_21 (s : List V) (H : Heap) : evCode P Γ call n f m (cAt [1, 0, 1, 0, 1, 1, 1, 1, 1] B14) s H = condW P Γ call n f m (cAt [1, 0, 1, 0, 1, 1, 1, 1, 1, 0] B14) (cAt [1, 0, 1, 0, 1, 1, 1, 1, 1, 1] B14) s H (evOperand Γ s (.tmp 23)) := at_cond (by kernel_rfl) (by kernel_rfl) rfl rfl s H
@[simp] theorem n14_22 (s : List V) (H : Heap) : evCode P Γ call n f m (cAt [1, 0, 1, 0, 1, 1, 1, 1, 1, 0] B14) s H = seqNext P Γ call n f m (cAt [1, 0, 1, 0, 1, 1, 1, 1, 1, 0, 1] B14) (evCode P Γ call n f m (cAt [1, 0, 1, 0, 1, 1, 1, 1, 1, 0, 0] B14) s H) := at_seq (by kernel_rfl) rfl rfl s H
noncomputable def r14_23 : {l : List Oper // opsOf (cAt [1, 0, 1, 0, 1, 1, 1, 1, 1, 0, 0] B14) = l} := by
  apply Subtype.mk
  dsimp only [opsOf, cAt, kids, B14, bodyOf, Tryd.f14, List.getD, List.getElem?_cons_zero, List.getElem?_cons_succ, Option.getD_some]
@[simp] theorem n14_23 (s : List V) (H : Heap) : evCode P Γ call n f m (cAt [1, 0, 1, 0, 1, 1, 1, 1, 1, 0, 0] B14) s H = regNext (evOpsGo P Γ call r14_23.1 r14_23.1 s H) := at_region (by kernel_rfl) r14_23.2 s H
attribute [simp] r14_23
@[simp] theorem n14_24 (s : List V) (H : Heap) : evCode P Γ call n f m (cAt [1, 0, 1, 0, 1, 1, 1, 1, 1, 0, 1] B14) s H = seqNext P Γ call n f m (cAt [1, 0, 1, 0, 1, 1, 1, 1, 1, 0, 1, 1] B14) (evCode P Γ call n f m (cAt [1, 0, 1, 0, 1, 1, 1, 1, 1, 0, 1, 0] B14) s H) := at_seq (by kernel_rfl) rfl rfl s H
noncomputable def r14_25 : {l : List Oper // opsOf (cAt [1, 0, 1, 0, 1, 1, 1, 1, 1, 0, 1, 0] B14) = l} := by
  apply Subtype.mk
  dsimp only [opsOf, cAt, kids, B14, bodyOf, Tryd.f14, List.getD, List.getElem?_cons_zero, List.getElem?_cons_succ, Option.getD_some]
@[simp] theorem n14_25 (s : List V) (H : Heap) : evCode P Γ call n f m (cAt [1, 0, 1, 0, 1, 1, 1, 1, 1, 0, 1, 0] B14) s H = regNext (evOpsGo P Γ call r14_25.1 r14_25.1 s H) := at_region (by kernel_rfl) r14_25.2 s H
attribute [simp] r14_25
@[simp] theorem n14_26 (s : List V) (H : Heap) : evCode P Γ call n f m (cAt [1, 0, 1, 0, 1, 1, 1, 1, 1, 0, 1, 1] B14) s H = some (.ret, s, H) := at_ret (by kernel_rfl) s H
@[simp] theorem n14_27 (s : List V) (H : Heap) : evCode P Γ call n f m (cAt [1, 0, 1, 0, 1, 1, 1, 1, 1, 1] B14) s H = seqNext P Γ call n f m (cAt [1, 0, 1, 0, 1, 1, 1, 1, 1, 1, 1] B14) (evCode P Γ call n f m (cAt [1, 0, 1, 0, 1, 1, 1, 1, 1, 1, 0] B14) s H) := at_seq (by kernel_rfl) rfl rfl s H
noncomputable def r14_28 : {l : List Oper // opsOf (cAt [1, 0, 1, 0, 1, 1, 1, 1, 1, 1, 0] B14) = l} := by
  apply Subtype.mk
  dsimp only [opsOf, cAt, kids, B14, bodyOf, Tryd.f14, List.getD, List.getElem?_cons_zero, List.getElem?_cons_succ, Option.getD_some]
@[simp] theorem n14_28 (s : List V) (H : Heap) : evCode P Γ call n f m (cAt [1, 0, 1, 0, 1, 1, 1, 1, 1, 1, 0] B14) s H = regNext (evOpsGo P Γ call r14_28.1 r14_28.1 s H) := at_region (by kernel_rfl) r14_28.2 s H
attribute [simp] r14_28
@[simp] theorem n14_29 (s : List V) (H : Heap) : evCode P Γ call n f m (cAt [1, 0, 1, 0, 1, 1, 1, 1, 1, 1, 1] B14) s H = condW P Γ call n f m (cAt [1, 0, 1, 0, 1, 1, 1, 1, 1, 1, 1, 0] B14) (cAt [1, 0, 1, 0, 1, 1, 1, 1, 1, 1, 1, 1] B14) s H (evOperand Γ s (.tmp 33)) := at_cond (by kernel_rfl) (by kernel_rfl) rfl rfl s H
@[simp] theorem n14_30 (s : List V) (H : Heap) : evCode P Γ call n f m (cAt [1, 0, 1, 0, 1, 1, 1, 1, 1, 1, 1, 0] B14) s H = seqNext P Γ call n f m (cAt [1, 0, 1, 0, 1, 1, 1, 1, 1, 1, 1, 0, 1] B14) (evCode P Γ call n f m (cAt [1, 0, 1, 0, 1, 1, 1, 1, 1, 1, 1, 0, 0] B14) s H) := at_seq (by kernel_rfl) rfl rfl s H
noncomputable def r14_31 : {l : List Oper // opsOf (cAt [1, 0, 1, 0, 1, 1, 1, 1, 1, 1, 1, 0, 0] B14) = l} := by
  apply Subtype.mk
  dsimp only [opsOf, cAt, kids, B14, bodyOf, Tryd.f14, List.getD, List.getElem?_cons_zero, List.getElem?_cons_succ, Option.getD_some]
@[simp] theorem n14_31 (s : List V) (H : Heap) : evCode P Γ call n f m (cAt [1, 0, 1, 0, 1, 1, 1, 1, 1, 1, 1, 0, 0] B14) s H = regNext (evOpsGo P Γ call r14_31.1 r14_31.1 s H) := at_region (by kernel_rfl) r14_31.2 s H
attribute [simp] r14_31
@[simp] theorem n14_32 (s : List V) (H : Heap) : evCode P Γ call n f m (cAt [1, 0, 1, 0, 1, 1, 1, 1, 1, 1, 1, 0, 1] B14) s H = some (.ret, s, H) := at_ret (by kernel_rfl) s H
@[simp] theorem n14_33 (s : List V) (H : Heap) : evCode P Γ call n f m (cAt [1, 0, 1, 0, 1, 1, 1, 1, 1, 1, 1, 1] B14) s H = some (.normal, s, H) := at_skip (by kernel_rfl) s H
@[simp] theorem n14_34 (s : List V) (H : Heap) : evCode P Γ call n f m (cAt [1, 1] B14) s H = seqNext P Γ call n f m (cAt [1, 1, 1] B14) (evCode P Γ call n f m (cAt [1, 1, 0] B14) s H) := at_seq (by kernel_rfl) rfl rfl s H
noncomputable def r14_35 : {l : List Oper // opsOf (cAt [1, 1, 0] B14) = l} := by
  apply Subtype.mk
  dsimp only [opsOf, cAt, kids, B14, bodyOf, Tryd.f14, List.getD, List.getElem?_cons_zero, List.getElem?_cons_succ, Option.getD_some]
@[simp] theorem n14_35 (s : List V) (H : Heap) : evCode P Γ call n f m (cAt [1, 1, 0] B14) s H = regNext (evOpsGo P Γ call r14_35.1 r14_35.1 s H) := at_region (by kernel_rfl) r14_35.2 s H
attribute [simp] r14_35
@[simp] theorem n14_36 (s : List V) (H : Heap) : evCode P Γ call n f m (cAt [1, 1, 1] B14) s H = some (.ret, s, H) := at_ret (by kernel_rfl) s H
theorem b14 {k : Nat} (ho : ∀ args H, Γ.orc 14 args H = none) (args : List V) (H : Heap) (ha : args.length ≤ 47) : evF Tryd.prog Γ (k + 1) 14 args H = bodyEnd Tryd.prog [.tmp 6] H.length (evCode Tryd.prog Γ (evF Tryd.prog Γ k) k 14 H.length (cAt [] B14) (mkL 47 V.undef (enumV 0 args)) H) := body_at Tryd.func14 (by decide) rfl ho rfl rfl args H ha
noncomputable def B15 : Code := bodyOf Tryd.f15
@[simp] theorem n15_1 (s : List V) (H : Heap) : evCode P Γ call n f m (cAt [] B15) s H = seqNext P Γ call n f m (cAt [1] B15) (evCode P Γ call n f m (cAt [0] B15) s H) := at_seq (by kernel_rfl) rfl rfl s H
noncomputable def r15_2 : {l : List Oper // opsOf (cAt [0] B15) = l} := by
  apply Subtype.mk
  dsimp only [opsOf, cAt, kids, B15, bodyOf, Tryd.f15, List.getD, List.getElem?_cons_zero, List.getElem?_cons_succ, Option.getD_some]
@[simp] theorem n15_2 (s : List V) (H : Heap) : evCode P Γ call n f m (cAt [0] B15) s H = regNext (evOpsGo P Γ call r15_2.1 r15_2.1 s H) := at_region (by kernel_rfl) r15_2.2 s H
attribute [simp] r15_2
@[simp] theorem n15_3 (s : List V) (H : Heap) : evCode P Γ call n f m (cAt [1] B15) s H = seqNext P Γ call n f m (cAt [1, 1] B15) (evCode P Γ call n f m (cAt [1, 0] B15) s H) := at_seq (by kernel_rfl) rfl rfl s H
noncomputable def r15_4 : {l : List Oper // opsOf (cAt [1, 0] B15) = l} := by
  apply Subtype.mk
  dsimp only [opsOf, cAt, kids, B15, bodyOf, Tryd.f15, List.getD, List.getElem?_cons_zero, List.getElem?_cons_succ, Option.getD_some]
@[simp] theorem n15_4 (s : List V) (H : Heap) : evCode P Γ call n f m (cAt [1, 0] B15) s H = regNext (evOpsGo P Γ call r15_4.1 r15_4.1 s H) := at_region (by kernel_rfl) r15_4.2 s H
attribute [simp] r15_4
@[simp] theorem n15_5 (s : List V) (H : Heap) : evCode P Γ call n f m (cAt [1, 1] B15) s H = seqNext P Γ call n f m (cAt [1, 1, 1] B15) (evCode P Γ call n f m (cAt [1, 1, 0] B15) s H) := at_seq (by kernel_rfl) rfl rfl s H
@[simp] theorem n15_6 (s : List V) (H : Heap) : evCode P Γ call n f m (cAt [1, 1, 0] B15) s H = seqNext P Γ call n f m (cAt [1, 1, 0, 1] B15) (evCode P Γ call n f m (cAt [1, 1, 0, 0] B15) s H) := at_seq (by kernel_rfl) rfl rfl s H
noncomputable def r15_7 : {l : List Oper // opsOf (cAt [1, 1, 0, 0] B15) = l} := by
  apply Subtype.mk
  dsimp only [opsOf, cAt, kids, B15, bodyOf, Tryd.f15, List.getD, List.getElem?_cons_zero, List.getElem?_cons_succ, Option.getD_some]
@[simp] theorem n15_7 (s : List V) (H : Heap) : evCode P Γ call n f m (cAt [1, 1, 0, 0] B15) s H = regNext (evOpsGo P Γ call r15_7.1 r15_7.1 s H) := at_region (by kernel_rfl) r15_7.2 s H
attribute [simp] r15_7
@[simp] theorem n15_8 (s : List V) (H : Heap) : evCode P Γ call n f m (cAt [1, 1, 0, 1] B15) s H = blockNext 0 (evCode P Γ call n f m (cAt [1, 1, 0, 1, 0] B15) s H) := at_block (by kernel_rfl) rfl s H
@[simp] theorem n15_9 (s : List V) (H : Heap) : evCode P Γ call n f m (cAt [1, 1, 0, 1, 0] B15) s H = evLoopC P Γ call n f m (cAt [1, 1, 0, 1, 0, 0] B15) n s H := at_loop (by kernel_rfl) rfl s H
noncomputable abbrev L15_3 : Code := cAt [1, 1, 0, 1, 0, 0] B15
@[simp] theorem n15_9f : firstRegion (cAt [1, 1, 0, 1, 0, 0] B15) = 3 := by kernel_rfl
@[simp] theorem n15_10 (s : List V) (H : Heap) : evCode P Γ call n f m (cAt [1, 1, 0, 1, 0, 0] B15) s H = seqNext P Γ call n f m (cAt [1, 1, 0, 1, 0, 0, 1] B15) (evCode P Γ call n f m (cAt [1, 1, 0, 1, 0, 0, 0] B15) s H) := at_seq (by kernel_rfl) rfl rfl s H
noncomputable def r15_11 : {l : List Oper // opsOf (cAt [1, 1, 0, 1, 0, 0, 0] B15) = l} := by
  apply Subtype.mk
  dsimp only [opsOf, cAt, kids, B15, bodyOf, Tryd.f15, List.getD, List.getElem?_cons_zero, List.getElem?_cons_succ, Option.getD_some]
@[simp] theorem n15_11 (s : List V) (H : Heap) : evCode P Γ call n f m (cAt [1, 1, 0, 1, 0, 0, 0] B15) s H = regNext (evOpsGo P Γ call r15_11.1 r15_11.1 s H) := at_region (by kernel_rfl) r15_11.2 s H
attribute [simp] r15_11
@[simp] theorem n15_12 (s : List V) (H : Heap) : evCode P Γ call n f m (cAt [1, 1, 0, 1, 0, 0, 1] B15) s H = seqNext P Γ call n f m (cAt [1, 1, 0, 1, 0, 0, 1, 1] B15) (evCode P Γ call n f m (cAt [1, 1, 0, 1, 0, 0, 1, 0] B15) s H) := at_seq (by kernel_rfl) rfl rfl s H
@[simp] theorem n15_13 (s : List V) (H : Heap) : evCode P Γ call n f m (cAt [1, 1, 0, 1, 0, 0, 1, 0] B15) s H = condW P Γ call n f m (cAt [1, 1, 0, 1, 0, 0, 1, 0, 0] B15) (cAt [1, 1, 0, 1, 0, 0, 1, 0, 1] B15) s H (evOperand Γ s (.tmp 30)) := at_cond (by kernel_rfl) (by kernel_rfl) rfl rfl s H
@[simp] theorem n15_14 (s : List V) (H : Heap) : evCode P Γ call n f m (cAt [1, 1, 0, 1, 0, 0, 1, 0, 0] B15) s H = some (.normal, s, H) := at_skip (by kernel_rfl) s H
@[simp] theorem n15_15 (s : List V) (H : Heap) : evCode P Γ call n f m (cAt [1, 1, 0, 1, 0, 0, 1, 0, 1] B15) s H = some (.exit 0, s, H) := at_exit (by kernel_rfl) s H
@[simp] theorem n15_16 (s : List V) (H : Heap) : evCode P Γ call n f m (cAt [1, 1, 0, 1, 0, 0, 1, 1] B15) s H = seqNext P Γ call n f m (cAt [1, 1, 0, 1, 0, 0, 1, 1, 1] B15) (evCode P Γ call n f m (cAt [1, 1, 0, 1, 0, 0, 1, 1, 0] B15) s H) := at_seq (by kernel_rfl) rfl rfl s H
@[simp] theorem n15_17 (s : List V) (H : Heap) : evCode P Γ call n f m (cAt [1, 1, 0, 1, 0, 0, 1, 1, 0] B15) s H = blockNext 1 (evCode P Γ call n f m (cAt [1, 1, 0, 1, 0, 0, 1, 1, 0, 0] B15) s H) := at_block (by kernel_rfl) rfl s H
@[simp] theorem n15_18 (s : List V) (H : Heap) : evCode P Γ call n f m (cAt [1, 1, 0, 1, 0, 0, 1, 1, 0, 0] B15) s H = seqNext P Γ call n f m (cAt [1, 1, 0, 1, 0, 0, 1, 1, 0, 0, 1] B15) (evCode P Γ call n f m (cAt [1, 1, 0, 1, 0, 0, 1, 1, 0, 0, 0] B15) s H) := at_seq (by kernel_rfl) rfl rfl s H
noncomputable def r15_19 : {l : List Oper // opsOf (cAt [1, 1, 0, 1, 0, 0, 1, 1, 0, 0, 0] B15) = l} := by
  apply Subtype.mk
  dsimp only [opsOf, cAt, kids, B15, bodyOf, Tryd.f15, List.getD, List.getElem?_cons_zero, List.getElem?_cons_succ, Option.getD_some]
@[simp] theorem n15_19 (s : List V) (H : Heap) : evCode P Γ call n f m (cAt [1, 1, 0, 1, 0, 0, 1, 1, 0, 0, 0] B15) s H = regNext (evOpsGo P Γ call r15_19.1 r15_19.1 s H) := at_region (by kernel_rfl) r15_19.2 s H
attribute [simp] r15_19
noncomputable def r15_20 : {l : List Oper // opsOf (cAt [1, 1, 0, 1, 0, 0, 1, 1, 0, 0, 1] B15) = l} := by
  apply Subtype.mk
  dsimp only [opsOf, cAt, kids, B15, bodyOf, Tryd.f15, List.getD, List.getElem?_cons_zero, List.getElem?_cons_succ, Option.getD_some]
@[simp] theorem n15_20 (s : List V) (H : Heap) : evCode P Γ call n f m (cAt [1, 1, 0, 1, 0, 0, 1, 1, 0, 0, 1] B15) s H = regNext (drawR P Γ call r15_20.1 [([], []), ([], []), ([4, 7, 8, 9, 10, 11], [36, 39, 40, 41, 42, 43]), ([4, 7, 8, 9, 10, 11], [36, 39, 40, 41, 42, 43]), ([2, 3, 7, 8, 9, 10, 11], [34, 35, 39, 40, 41, 42, 43]), ([7, 8, 9, 10, 11], [39, 40, 41, 42, 43]), ([7, 8, 9, 10, 11], [39, 40, 41, 42, 43]), ([2, 3, 4, 5, 6, 9], [34, 35, 36, 37, 38, 41]), ([2, 3, 4, 5, 6, 9], [34, 35, 36, 37, 38, 41]), ([2, 3, 4, 5, 6, 7, 8], [34, 35, 36, 37, 38, 39, 40]), ([2, 3, 4, 5, 6], [34, 35, 36, 37, 38]), ([2, 3, 4, 5, 6], [34, 35, 36, 37, 38]), ([], []), ([], []), ([], [])] s H) := at_drawT (by kernel_rfl) r15_20.2 (by kernel_rfl) s H
attribute [simp] r15_20
noncomputable def r15_21 : {l : List Oper // opsOf (cAt [1, 1, 0, 1, 0, 0, 1, 1, 1] B15) = l} := by
  apply Subtype.mk
  dsimp only [opsOf, cAt, kids, B15, bodyOf, Tryd.f15, List.getD, List.getElem?_cons_zero, List.getElem?_cons_succ, Option.getD_some]
@[simp] theorem n15_21 (s : List V) (H : Heap) : evCode P Γ call n f m (cAt [1, 1, 0, 1, 0, 0, 1, 1, 1] B15) s H = regNext (evOpsGo P Γ call r15_21.1 r15_21.1 s H) := at_region (by kernel_rfl) r15_21.2 s H
attribute [simp] r15_21
@[simp] theorem n15_22 (s : List V) (H : Heap) : evCode P Γ call n f m (cAt [1, 1, 1] B15) s H = seqNext P Γ call n f m (cAt [1, 1, 1, 1] B15) (evCode P Γ call n f m (cAt [1, 1, 1, 0] B15) s H) := at_seq (by kernel_rfl) rfl rfl s H
@[simp] theorem n15_23 (s : List V) (H : Heap) : evCode P Γ call n f m (cAt [1, 1, 1, 0] B15) s H = seqNext P Γ call n f m (cAt [1, 1, 1, 0, 1] B15) (evCode P Γ call n f m (cAt [1, 1, 1, 0, 0] B15) s H) := at_seq (by kernel_rfl) rfl rfl s H
noncomputable def r15_24 : {l : List Oper // opsOf (cAt [1, 1, 1, 0, 0] B15) = l} := by
  apply Subtype.mk
  dsimp only [opsOf, cAt, kids, B15, bodyOf, Tryd.f15, List.getD, List.getElem?_cons_zero, List.getElem?_cons_succ, Option.getD_some]
@[simp] theorem n15_24 (s : List V) (H : Heap) : evCode P Γ call n f m (cAt [1, 1, 1, 0, 0] B15) s H = regNext (evOpsGo P Γ call r15_24.1 r15_24.1 s H) := at_region (by kernel_rfl) r15_24.2 s H
attribute [simp] r15_24
@[simp] theorem n15_25 (s : List V) (H : Heap) : evCode P Γ call n f m (cAt [1, 1, 1, 0, 1] B15) s H = blockNext 2 (evCode P Γ call n f m (cAt [1, 1, 1, 0, 1, 0] B15) s H) := at_block (by kernel_rfl) rfl s H
@[simp] theorem n15_26 (s : List V) (H : Heap) : evCode P Γ call n f m (cAt [1, 1, 1, 0, 1, 0] B15) s H = seqNext P Γ call n f m (cAt [1, 1, 1, 0, 1, 0, 1] B15) (evCode P Γ call n f m (cAt [1, 1, 1, 0, 1, 0, 0] B15) s H) := at_seq (by kernel_rfl) rfl rfl s H
noncomputable def r15_27 : {l : List Oper // opsOf (cAt [1, 1, 1, 0, 1, 0, 0] B15) = l} := by
  apply Subtype.mk
  dsimp only [opsOf, cAt, kids, B15, bodyOf, Tryd.f15, List.getD, List.getElem?_cons_zero, List.getElem?_cons_succ, Option.getD_some]
@[simp] theorem n15_27 (s : List V) (H : Heap) : evCode P Γ call n f m (cAt [1, 1, 1, 0, 1, 0, 0] B15) s H = regNext (evOpsGo P Γ call r15_27.1 r15_27.1 s H) := at_region (by kernel_rfl) r15_27.2 s H
attribute [simp] r15_27
@[simp] theorem n15_28 (s : List V) (H : Heap) : evCode P Γ call n f m (cAt [1, 1, 1, 0, 1, 0, 1] B15) s H = condW P Γ call n f m (cAt [1, 1, 1, 0, 1, 0, 1, 0] B15) (cAt [1, 1, 1, 0, 1, 0, 1, 1] B15) s H (evOperand Γ s (.tmp 48)) := at_cond (by kernel_rfl) (by kernel_rfl) rfl rfl s H
@[simp] theorem n15_29 (s : List V) (H : Heap) : evCode P Γ call n f m (cAt [1, 1, 1, 0, 1, 0, 1, 0] B15) s H = seqNext P Γ call n f m (cAt [1, 1, 1, 0, 1, 0, 1, 0, 1] B15) (evCode P Γ call n f m (cAt [1, 1, 1, 0, 1, 0, 1, 0, 0] B15) s H) := at_seq (by kernel_rfl) rfl rfl s H
noncomputable def r15_30 : {l : List Oper // opsOf (cAt [1, 1, 1, 0, 1, 0, 1, 0, 0] B15) = l} := by
  apply Subtype.mk
  dsimp only [opsOf, cAt, kids, B15, bodyOf, Tryd.f15, List.getD, List.getElem?_cons_zero, List.getElem?_cons_succ, Option.getD_some]
@[simp] theorem n15_30 (s : List V) (H : Heap) : evCode P Γ call n f m (cAt [1, 1, 1, 0, 1, 0, 1, 0, 0] B15) s H = regNext (evOpsGo P Γ call r15_30.1 r15_30.1 s H) := at_region (by kernel_rfl) r15_30.2 s H
attribute [simp] r15_30
@[simp] theorem n15_31 (s : List V) (H : Heap) : evCode P Γ call n f m (cAt [1, 1, 1, 0, 1, 0, 1, 0, 1] B15) s H = some (.ret, s, H) := at_ret (by kernel_rfl) s H
@[simp] theorem n15_32 (s : List V) (H : Heap) : evCode P Γ call n f m (cAt [1, 1, 1, 0, 1, 0, 1, 1] B15) s H = seqNext P Γ call n f m (cAt [1, 1, 1, 0, 1, 0, 1, 1, 1] B15) (evCode P Γ call n f m (cAt [1, 1, 1, 0, 1, 0, 1, 1, 0] B15) s H) := at_seq (by kernel_rfl) rfl rfl s H
noncomputable def r15_33 : {l : List Oper // opsOf (cAt [1, 1, 1, 0, 1, 0, 1, 1, 0] B15) = l} := by
  apply Subtype.mk
  dsimp only [opsOf, cAt, kids, B15, bodyOf, Tryd.f15, List.getD, List.getElem?_cons_zero, List.getElem?_cons_succ, Option.getD_some]
@[simp] theorem n15_33 (s : List V) (H : Heap) : evCode P Γ call n f m (cAt [1, 1, 1, 0, 1, 0, 1, 1, 0] B15) s H = regNext (evOpsGo P Γ call r15_33.1 r15_33.1 s H) := at_region (by kernel_rfl) r15_33.2 s H
attribute [simp] r15_33
@[simp] theorem n15_34 (s : List V) (H : Heap) : evCode P Γ call n f m (cAt [1, 1, 1, 0, 1, 0, 1, 1, 1] B15) s H = condW P Γ call n f m (cAt [1, 1, 1, 0, 1, 0, 1, 1, 1, 0] B15) (cAt [1, 1, 1, 0, 1, 0, 1, 1, 1, 1] B15) s H (evOperand Γ s (.tmp 51)) := at_cond (by kernel_rfl) (by kernel_rfl) rfl rfl s H
@[simp] theorem n15_35 (s : List V) (H : Heap) : evCode P Γ call n f m (cAt [1, 1, 1, 0, 1, 0, 1, 1, 1, 0] B15) s H = seqNext P Γ call n f m (cAt [1, 1, 1, 0, 1, 0, 1, 1, 1, 0, 1] B15) (evCode P Γ call n f m (cAt [1, 1, 1, 0, 1, 0, 1, 1, 1, 0, 0] B15) s H) := at_seq (by kernel_rfl) rfl rfl s H
noncomputable def r15_36 : {l : List Oper // opsOf (cAt [1, 1, 1, 0, 1, 0, 1, 1, 1, 0, 0] B15) = l} := by
  apply Subtype.mk
  dsimp only [opsOf, cAt, kids, B15, bodyOf, Tryd.f15, List.getD, List.getElem?_cons_zero, List.getElem?_cons_succ, Option.getD_some]
@[simp] theorem n15_36 (s : List V) (H : Heap) : evCode P Γ call n f m (cAt [1, 1, 1, 0, 1, 0, 1, 1, 1, 0, 0] B15) s H = regNext (evOpsGo P Γ call r15_36.1 r15_36.1 s H) := at_region (by kernel_rfl) r15_36.2 s H
attribute [simp] r15_36
@[simp] theorem n15_37 (s : List V) (H : Heap) : evCode P Γ call n f m (cAt [1, 1, 1, 0, 1, 0, 1, 1, 1, 0, 1] B15) s H = some (.ret, s, H) := at_ret (by kernel_rfl) s H
@[simp] theorem n15_38 (s : List V) (H : Heap) : evCode P Γ call n f m (cAt [1, 1, 1, 0, 1, 0, 1, 1, 1, 1] B15) s H = seqNext P Γ call n f m (cAt [1, 1, 1, 0, 1, 0, 1, 1, 1, 1, 1] B15) (evCode P Γ call n f m (cAt [1, 1, 1, 0, 1, 0, 1, 1, 1, 1, 0] B15) s H) := at_seq (by kernel_rfl) rfl rfl s H
noncomputable def r15_39 : {l : List Oper // opsOf (cAt [1, 1, 1, 0, 1, 0, 1, 1, 1, 1, 0] B15) = l} := by
  apply Subtype.mk
  dsimp only [opsOf, cAt, kids, B15, bodyOf, Tryd.f15, List.getD, List.getElem?_cons_zero, List.getElem?_cons_succ, Option.getD_some]
@[simp] theorem n15_39 (s : List V) (H : Heap) : evCode P Γ call n f m (cAt [1, 1, 1, 0, 1, 0, 1, 1, 1, 1, 0] B15) s H = regNext (evOpsGo P Γ call r15_39.1 r15_39.1 s H) := at_region (by kernel_rfl) r15_39.2 s H
attribute [simp] r15_39
@[simp] theorem n15_40 (s : List V) (H : Heap) : evCode P Γ call n f m (cAt [1, 1, 1, 0, 1, 0, 1, 1, 1, 1, 1] B15) s H = condW P Γ call n f m (cAt [1, 1, 1, 0, 1, 0, 1, 1, 1, 1, 1, 0] B15) (cAt [1, 1, 1, 0, 1, 0, 1, 1, 1, 1, 1, 1] B15) s H (evOperand Γ s (.tmp 58)) := at_cond (by kernel_rfl) (by kernel_rfl) rfl rfl s H
@[simp] theorem n15_41 (s : List V) (H : Heap) : evCode P Γ call n f m (cAt [1, 1, 1, 0, 1, 0, 1, 1, 1, 1, 1, 0] B15) s H = seqNext P Γ call n f m (cAt [1, 1, 1, 0, 1, 0, 1, 1, 1, 1, 1, 0, 1] B15) (evCode P Γ call n f m (cAt [1, 1, 1, 0, 1, 0, 1, 1, 1, 1, 1, 0, 0] B15) s H) := at_seq (by kernel_rfl) rfl rfl s H
noncomputable def r15_42 : {l : List Oper // opsOf (cAt [1, 1, 1, 0, 1, 0, 1, 1, 1, 1, 1, 0, 0] B15) = l} := by
  apply Subtype.mk
  dsimp only [opsOf, cAt, kids, B15, bodyOf, Tryd.f15, List.getD, List.getElem?_cons_zero, List.getElem?_cons_succ, Option.getD_some]
@[simp] theorem n15_42 (s : List V) (H : Heap) : evCode P Γ call n f m (cAt [1, 1, 1, 0, 1, 0, 1, 1, 1, 1, 1, 0, 0] B15) s H = regNext (evOpsGo P Γ call r15_42.1 r15_42.1 s H) := at_region (by kernel_rfl) r15_42.2 s H
attribute [simp] r15_42
@[simp] theorem n15_43 (s : List V) (H : Heap) : evCode P Γ call n f m (cAt [1, 1, 1, 0, 1, 0, 1, 1, 1, 1, 1, 0, 1] B15) s H = seqNext P Γ call n f m (cAt [1, 1, 1, 0, 1, 0, 1, 1, 1, 1, 1, 0, 1, 1] B15) (evCode P Γ call n f m (cAt [1, 1, 1, 0, 1, 0, 1, 1, 1, 1, 1, 0, 1, 0] B15) s H) := at_seq (by kernel_rfl) rfl rfl s H
@[simp] theorem n15_44 (s : List V) (H : Heap) : evCode P Γ call n f m (cAt [1, 1, 1, 0, 1, 0, 1, 1, 1, 1, 1, 0, 1, 0] B15) s H = seqNext P Γ call n f m (cAt [1, 1, 1, 0, 1, 0, 1, 1, 1, 1, 1, 0, 1, 0, 1] B15) (evCode P Γ call n f m (cAt [1, 1, 1, 0, 1, 0, 1, 1, 1, 1, 1, 0, 1, 0, 0] B15) s H) := at_seq (by kernel_rfl) rfl rfl s H
noncomputable def r15_45 : {l : List Oper // opsOf (cAt [1, 1, 1, 0, 1, 0, 1, 1, 1, 1, 1, 0, 1, 0, 0] B15) = l} := by
  apply Subtype.mk
  dsimp only [opsOf, cAt, kids, B15, bodyOf, Tryd.f15, List.getD, List.getElem?_cons_zero, List.getElem?_cons_succ, Option.getD_some]
@[simp] theorem n15_45 (s : List V) (H : Heap) : evCode P Γ call n f m (cAt [1, 1, 1, 0, 1, 0, 1, 1, 1, 1, 1, 0, 1, 0, 0] B15) s H = regNext (evOpsGo P Γ call r15_45.1 r15_45.1 s H) := at_region (by kernel_rfl) r15_45.2 s H
attribute [simp] r15_45
@[simp] theorem n15_46 (s : List V) (H : Heap) : evCode P Γ call n f m (cAt [1, 1, 1, 0, 1, 0, 1, 1, 1, 1, 1, 0, 1, 0, 1] B15) s H = blockNext 3 (evCode P Γ call n f m (cAt [1, 1, 1, 0, 1, 0, 1, 1, 1, 1, 1, 0, 1, 0, 1, 0] B15) s H) := at_block (by kernel_rfl) rfl s H
@[simp] theorem n15_47 (s : List V) (H : Heap) : evCode P Γ call n f m (cAt [1, 1, 1, 0, 1, 0, 1, 1, 1, 1, 1, 0, 1, 0, 1, 0] B15) s H = evLoopC P Γ call n f m (cAt [1, 1, 1, 0, 1, 0, 1, 1, 1, 1, 1, 0, 1, 0, 1, 0, 0] B15) n s H := at_loop (by kernel_rfl) rfl s H
noncomputable abbrev L15_15 : Code := cAt [1, 1, 1, 0, 1, 0, 1, 1, 1, 1, 1, 0, 1, 0, 1, 0, 0] B15
@[simp] theorem n15_47f : firstRegion (cAt [1, 1, 1, 0, 1, 0, 1, 1, 1, 1, 1, 0, 1, 0, 1, 0, 0] B15) = 15 := by kernel_rfl
@[simp] theorem n15_48 (s : List V) (H : Heap) : evCode P Γ call n f m (cAt [1, 1, 1, 0, 1, 0, 1, 1, 1, 1, 1, 0, 1, 0, 1, 0, 0] B15) s H = seqNext P Γ call n f m (cAt [1, 1, 1, 0, 1, 0, 1, 1, 1, 1, 1, 0, 1, 0, 1, 0, 0, 1] B15) (evCode P Γ call n f m (cAt [1, 1, 1, 0, 1, 0, 1, 1, 1, 1, 1, 0, 1, 0, 1, 0, 0, 0] B15) s H) := at_seq (by kernel_rfl) rfl rfl s H
noncomputable def r15_49 : {l : List Oper // opsOf (cAt [1, 1, 1, 0, 1, 0, 1, 1, 1, 1, 1, 0, 1, 0, 1, 0, 0, 0] B15) = l} := by
  apply Subtype.mk
  dsimp only [opsOf, cAt, kids, B15, bodyOf, Tryd.f15, List.getD, List.getElem?_cons_zero, List.getElem?_cons_succ, Option.getD_some]
@[simp] theorem n15_49 (s : List V) (H : Heap) : evCode P Γ call n f m (cAt [1, 1, 1, 0, 1, 0, 1, 1, 1, 1, 1, 0, 1, 0, 1, 0, 0, 0] B15) s H = regNext (evOpsGo P Γ call r15_49.1 r15_49.1 s H) := at_region (by kernel_rfl) r15_49.2 s H
attribute [simp] r15_49
@[simp] theorem n15_50 (s : List V) (H : Heap) : evCode P Γ call n f m (cAt [1, 1, 1, 0, 1, 0, 1, 1, 1, 1, 1, 0, 1, 0, 1, 0, 0, 1] B15) s H = seqNext P Γ call n f m (cAt [1, 1, 1, 0, 1, 0, 1, 1, 1, 1, 1, 0, 1, 0, 1, 0, 0, 1, 1] B15) (evCode P Γ call n f m (cAt [1, 1, 1, 0, 1, 0, 1, 1, 1, 1, 1, 0, 1, 0, 1, 0, 0, 1, 0] B15) s H) := at_seq (by kernel_rfl) rfl rfl s H
@[simp] theorem n15_51 (s : List V) (H : Heap) : evCode P Γ call n f m (cAt [1, 1, 1, 0, 1, 0, 1, 1, 1, 1, 1, 0, 1, 0, 1, 0, 0, 1, 0] B15) s H = condW P Γ call n f m (cAt [1, 1, 1, 0, 1, 0, 1, 1, 1, 1, 1, 0, 1, 0, 1, 0, 0, 1, 0, 0] B15) (cAt [1, 1, 1, 0, 1, 0, 1, 1, 1, 1, 1, 0, 1, 0, 1, 0, 0, 1, 0, 1] B15) s H (evOperand Γ s (.tmp 67)) := at_cond (by kernel_rfl) (by kernel_rfl) rfl rfl s H
@[simp] theorem n15_52 (s : List V) (H : Heap) : evCode P Γ call n f m (cAt [1, 1, 1, 0, 1, 0, 1, 1, 1, 1, 1, 0, 1, 0, 1, 0, 0, 1, 0, 0] B15) s H = some (.normal, s, H) := at_skip (by kernel_rfl) s H
@[simp] theorem n15_53 (s : List V) (H : Heap) : evCode P Γ call n f m (cAt [1, 1, 1, 0, 1, 0, 1, 1, 1, 1, 1, 0, 1, 0, 1, 0, 0, 1, 0, 1] B15) s H = some (.exit 3, s, H) := at_exit (by kernel_rfl) s H
@[simp] theorem n15_54 (s : List V) (H : Heap) : evCode P Γ call n f m (cAt [1, 1, 1, 0, 1, 0, 1, 1, 1, 1, 1, 0, 1, 0, 1, 0, 0, 1, 1] B15) s H = seqNext P Γ call n f m (cAt [1, 1, 1, 0, 1, 0, 1, 1, 1, 1, 1, 0, 1, 0, 1, 0, 0, 1, 1, 1] B15) (evCode P Γ call n f m (cAt [1, 1, 1, 0, 1, 0, 1, 1, 1, 1, 1, 0, 1, 0, 1, 0, 0, 1, 1, 0] B15) s H) := at_seq (by kernel_rfl) rfl rfl s H
@[simp] theorem n15_55 (s : List V) (H : Heap) : evCode P Γ call n f m (cAt [1, 1, 1, 0, 1, 0, 1, 1, 1, 1, 1, 0, 1, 0, 1, 0, 0, 1, 1, 0] B15) s H = blockNext 4 (evCode P Γ call n f m (cAt [1, 1, 1, 0, 1, 0, 1, 1, 1, 1, 1, 0, 1, 0, 1, 0, 0, 1, 1, 0, 0] B15) s H) := at_block (by kernel_rfl) rfl s H
@[simp] theorem n15_56 (s : List V) (H : Heap) : evCode P Γ call n f m (cAt [1, 1, 1, 0, 1, 0, 1, 1, 1, 1, 1, 0, 1, 0, 1, 0, 0, 1, 1, 0, 0] B15) s H = seqNext P Γ call n f m (cAt [1, 1, 1, 0, 1, 0, 1, 1, 1, 1, 1, 0, 1, 0, 1, 0, 0, 1, 1, 0, 0, 1] B15) (evCode P Γ call n f m (cAt [1, 1, 1, 0, 1, 0, 1, 1, 1, 1, 1, 0, 1, 0, 1, 0, 0, 1, 1, 0, 0, 0] B15) s H) := at_seq (by kernel_rfl) rfl rfl s H
noncomputable def r15_57 : {l : List Oper // opsOf (cAt [1, 1, 1, 0, 1, 0, 1, 1, 1, 1, 1, 0, 1, 0, 1, 0, 0, 1, 1, 0, 0, 0] B15) = l} := by
  apply Subtype.mk
  dsimp only [opsOf, cAt, kids, B15, bodyOf, Tryd.f15, List.getD, List.getElem?_cons_zero, List.getElem?_cons_succ, Option.getD_some]
@[simp] theorem n15_57 (s : List V) (H : Heap) : evCode P Γ call n f m (cAt [1, 1, 1, 0, 1, 0, 1, 1, 1, 1, 1, 0, 1, 0, 1, 0, 0, 1, 1, 0, 0, 0] B15) s H = regNext (evOpsGo P Γ call r15_57.1 r15_57.1 s H) := at_region (by kernel_rfl) r15_57.2 s H
attribute [simp] r15_57
noncomputable def r15_58 : {l : List Oper // opsOf (cAt [1, 1, 1, 0, 1, 0, 1, 1, 1, 1, 1, 0, 1, 0, 1, 0, 0, 1, 1, 0, 0, 1] B15) = l} := by
  apply Subtype.mk
  dsimp only [opsOf, cAt, kids, B15, bodyOf, Tryd.f15, List.getD, List.getElem?_cons_zero, List.getElem?_cons_succ, Option.getD_some]
@[simp] theorem n15_58 (s : List V) (H : Heap) : evCode P Γ call n f m (cAt [1, 1, 1, 0, 1, 0, 1, 1, 1, 1, 1, 0, 1, 0, 1, 0, 0, 1, 1, 0, 0, 1] B15) s H = regNext (evOpsGo P Γ call r15_58.1 r15_58.1 s H) := at_region (by kernel_rfl) r15_58.2 s H
attribute [simp] r15_58
noncomputable def r15_59 : {l : List Oper // opsOf (cAt [1, 1, 1, 0, 1, 0, 1, 1, 1, 1, 1, 0, 1, 0, 1, 0, 0, 1, 1, 1] B15) = l} := by
  apply Subtype.mk
  dsimp only [opsOf, cAt, kids, B15, bodyOf, Tryd.f15, List.getD, List.getElem?_cons_zero, List.getElem?_cons_succ, Option.getD_some]
@[simp] theorem n15_59 (s : List V) (H : Heap) : evCode P Γ call n f m (cAt [1, 1, 1, 0, 1, 0, 1, 1, 1, 1, 1, 0, 1, 0, 1, 0, 0, 1, 1, 1] B15) s H = regNext (evOpsGo P Γ call r15_59.1 r15_59.1 s H) := at_region (by kernel_rfl) r15_59.2 s H
attribute [simp] r15_59
@[simp] theorem n15_60 (s : List V) (H : Heap) : evCode P Γ call n f m (cAt [1, 1, 1, 0, 1, 0, 1, 1, 1, 1, 1, 0, 1, 1] B15) s H = seqNext P Γ call n f m (cAt [1, 1, 1, 0, 1, 0, 1, 1, 1, 1, 1, 0, 1, 1, 1] B15) (evCode P Γ call n f m (cAt [1, 1, 1, 0, 1, 0, 1, 1, 1, 1, 1, 0, 1, 1, 0] B15) s H) := at_seq (by kernel_rfl) rfl rfl s H
noncomputable def r15_61 : {l : List Oper // opsOf (cAt [1, 1, 1, 0, 1, 0, 1, 1, 1, 1, 1, 0, 1, 1, 0] B15) = l} := by
  apply Subtype.mk
  dsimp only [opsOf, cAt, kids, B15, bodyOf, Tryd.f15, List.getD, List.getElem?_cons_zero, List.getElem?_cons_succ, Option.getD_some]
@[simp] theorem n15_61 (s : List V) (H : Heap) : evCode P Γ call n f m (cAt [1, 1, 1, 0, 1, 0, 1, 1, 1, 1, 1, 0, 1, 1, 0] B15) s H = regNext (evOpsGo P Γ call r15_61.1 r15_61.1 s H) := at_region (by kernel_rfl) r15_61.2 s H
attribute [simp] r15_61
@[simp] theorem n15_62 (s : List V) (H : Heap) : evCode P Γ call n f m (cAt [1, 1, 1, 0, 1, 0, 1, 1, 1, 1, 1, 0, 1, 1, 1] B15) s H = blockNext 5 (evCode P Γ call n f m (cAt [1, 1, 1, 0, 1, 0, 1, 1, 1, 1, 1, 0, 1, 1, 1, 0] B15) s H) := at_block (by kernel_rfl) rfl s H
@[simp] theorem n15_63 (s : List V) (H : Heap) : evCode P Γ call n f m (cAt [1, 1, 1, 0, 1, 0, 1, 1, 1, 1, 1, 0, 1, 1, 1, 0] B15) s H = evLoopC P Γ call n f m (cAt [1, 1, 1, 0, 1, 0, 1, 1, 1, 1, 1, 0, 1, 1, 1, 0, 0] B15) n s H := at_loop (by kernel_rfl) rfl s H
noncomputable abbrev L15_20 : Code := cAt [1, 1, 1, 0, 1, 0, 1, 1, 1, 1, 1, 0, 1, 1, 1, 0, 0] B15
@[simp] theorem n15_63f : firstRegion (cAt [1, 1, 1, 0, 1, 0, 1, 1, 1, 1, 1, 0, 1, 1, 1, 0, 0] B15) = 20 := by kernel_rfl
@[simp] theorem n15_64 (s : List V) (H : Heap) : evCode P Γ call n f m (cAt [1, 1, 1, 0, 1, 0, 1, 1, 1, 1, 1, 0, 1, 1, 1, 0, 0] B15) s H = seqNext P Γ call n f m (cAt [1, 1, 1, 0, 1, 0, 1, 1, 1, 1, 1, 0, 1, 1, 1, 0, 0, 1] B15) (evCode P Γ call n f m (cAt [1, 1, 1, 0, 1, 0, 1, 1, 1, 1, 1, 0, 1, 1, 1, 0, 0, 0] B15) s H) := at_seq (by kernel_rfl) rfl rfl s H
noncomputable def r15_65 : {l : List Oper // opsOf (cAt [1, 1, 1, 0, 1, 0, 1, 1, 1, 1, 1, 0, 1, 1, 1, 0, 0, 0] B15) = l} := by
  apply Subtype.mk
  dsimp only [opsOf, cAt, kids, B15, bodyOf, Tryd.f15, List.getD, List.getElem?_cons_zero, List.getElem?_cons_succ, Option.getD_some]
@[simp] theorem n15_65 (s : List V) (H : Heap) : evCode P Γ call n f m (cAt [1, 1, 1, 0, 1, 0, 1, 1, 1, 1, 1, 0, 1, 1, 1, 0, 0, 0] B15) s H = regNext (evOpsGo P Γ call r15_65.1 r15_65.1 s H) := at_region (by kernel_rfl) r15_65.2 s H
attribute [simp] r15_65
@[simp] theorem n15_66 (s : List V) (H : Heap) : evCode P Γ call n f m (cAt [1, 1, 1, 0, 1, 0, 1, 1, 1, 1, 1, 0, 1, 1, 1, 0, 0, 1] B15) s H = seqNext P Γ call n f m (cAt [1, 1, 1, 0, 1, 0, 1, 1, 1, 1, 1, 0, 1, 1, 1, 0, 0, 1, 1] B15) (evCode P Γ call n f m (cAt [1, 1, 1, 0, 1, 0, 1, 1, 1, 1, 1, 0, 1, 1, 1, 0, 0, 1, 0] B15) s H) := at_seq (by kernel_rfl) rfl rfl s H
@[simp] theorem n15_67 (s : List V) (H : Heap) : evCode P Γ call n f m (cAt [1, 1, 1, 0, 1, 0, 1, 1, 1, 1, 1, 0, 1, 1, 1, 0, 0, 1, 0] B15) s H = condW P Γ call n f m (cAt [1, 1, 1, 0, 1, 0, 1, 1, 1, 1, 1, 0, 1, 1, 1, 0, 0, 1, 0, 0] B15) (cAt [1, 1, 1, 0, 1, 0, 1, 1, 1, 1, 1, 0, 1, 1, 1, 0, 0, 1, 0, 1] B15) s H (evOperand Γ s (.tmp 80)) := at_cond (by kernel_rfl) (by kernel_rfl) rfl rfl s H
@[simp] theorem n15_68 (s : List V) (H : Heap) : evCode P Γ call n f m (cAt [1, 1, 1, 0, 1, 0, 1, 1, 1, 1, 1, 0, 1, 1, 1, 0, 0, 1, 0, 0] B15) s H = some (.normal, s, H) := at_skip (by kernel_rfl) s H
@[simp] theorem n15_69 (s : List V) (H : Heap) : evCode P Γ call n f m (cAt [1, 1, 1, 0, 1, 0, 1, 1, 1, 1, 1, 0, 1, 1, 1, 0, 0, 1, 0, 1] B15) s H = some (.exit 5, s, H) := at_exit (by kernel_rfl) s H
@[simp] theorem n15_70 (s : List V) (H : Heap) : evCode P Γ call n f m (cAt [1, 1, 1, 0, 1, 0, 1, 1, 1, 1, 1, 0, 1, 1, 1, 0, 0, 1, 1] B15) s H = seqNext P Γ call n f m (cAt [1, 1, 1, 0, 1, 0, 1, 1, 1, 1, 1, 0, 1, 1, 1, 0, 0, 1, 1, 1] B15) (evCode P Γ call n f m (cAt [1, 1, 1, 0, 1, 0, 1, 1, 1, 1, 1, 0, 1, 1, 1, 0, 0, 1, 1, 0] B15) s H) := at_seq (by kernel_rfl) rfl rfl s H
@[simp] theorem n15_71 (s : List V) (H : Heap) : evCode P Γ call n f m (cAt [1, 1, 1, 0, 1, 0, 1, 1, 1, 1, 1, 0, 1, 1, 1, 0, 0, 1, 1, 0] B15) s H = blockNext 6 (evCode P Γ call n f m (cAt [1, 1, 1, 0, 1, 0, 1, 1, 1, 1, 1, 0, 1, 1, 1, 0, 0, 1, 1, 0, 0] B15) s H) := at_block (by kernel_rfl) rfl s H
@[simp] theorem n15_72 (s : List V) (H : Heap) : evCode P Γ call n f m (cAt [1, 1, 1, 0, 1, 0, 1, 1, 1, 1, 1, 0, 1, 1, 1, 0, 0, 1, 1, 0, 0] B15) s H = seqNext P Γ call n f m (cAt [1, 1, 1, 0, 1, 0, 1, 1, 1, 1, 1, 0, 1, 1, 1, 0, 0, 1, 1, 0, 0, 1] B15) (evCode P Γ call n f m (cAt [1, 1, 1, 0, 1, 0, 1, 1, 1, 1, 1, 0, 1, 1, 1, 0, 0, 1, 1, 0, 0, 0] B15) s H) := at_seq (by kernel_rfl) rfl rfl s H
noncomputable def r15_73 : {l : List Oper // opsOf (cAt [1, 1, 1, 0, 1, 0, 1, 1, 1, 1, 1, 0, 1, 1, 1, 0, 0, 1, 1, 0, 0, 0] B15) = l} := by
  apply Subtype.mk
  dsimp only [opsOf, cAt, kids, B15, bodyOf, Tryd.f15, List.getD, List.getElem?_cons_zero, List.getElem?_cons_succ, Option.getD_some]
@[simp] theorem n15_73 (s : List V) (H : Heap) : evCode P Γ call n f m (cAt [1, 1, 1, 0, 1, 0, 1, 1, 1, 1, 1, 0, 1, 1, 1, 0, 0, 1, 1, 0, 0, 0] B15) s H = regNext (evOpsGo P Γ call r15_73.1 r15_73.1 s H) := at_region (by kernel_rfl) r15_73.2 s H
attribute [simp] r15_73
@[simp] theorem n15_74 (s : List V) (H : Heap) : evCode P Γ call n f m (cAt [1, 1, 1, 0, 1, 0, 1, 1, 1, 1, 1, 0, 1, 1, 1, 0, 0, 1, 1, 0, 0, 1] B15) s H = seqNext P Γ call n f m (cAt [1, 1, 1, 0, 1, 0, 1, 1, 1, 1, 1, 0, 1, 1, 1, 0, 0, 1, 1, 0, 0, 1, 1] B15) (evCode P Γ call n f m (cAt [1, 1, 1, 0, 1, 0, 1, 1, 1, 1, 1, 0, 1, 1, 1, 0, 0, 1, 1, 0, 0, 1, 0] B15) s H) := at_seq (by kernel_rfl) rfl rfl s H
noncomputable def r15_75 : {l : List Oper // opsOf (cAt [1, 1, 1, 0, 1, 0, 1, 1, 1, 1, 1, 0, 1, 1, 1, 0, 0, 1, 1, 0, 0, 1, 0] B15) = l} := by
  apply Subtype.mk
  dsimp only [opsOf, cAt, kids, B15, bodyOf, Tryd.f15, List.getD, List.getElem?_cons_zero, List.getElem?_cons_succ, Option.getD_some]
@[simp] theorem n15_75 (s : List V) (H : Heap) : evCode P Γ call n f m (cAt [1, 1, 1, 0, 1, 0, 1, 1, 1, 1, 1, 0, 1, 1, 1, 0, 0, 1, 1, 0, 0, 1, 0] B15) s H = regNext (evOpsGo P Γ call r15_75.1 r15_75.1 s H) := at_region (by kernel_rfl) r15_75.2 s H
attribute [simp] r15_75
@[simp] theorem n15_76 (s : List V) (H : Heap) : evCode P Γ call n f m (cAt [1, 1, 1, 0, 1, 0, 1, 1, 1, 1, 1, 0, 1, 1, 1, 0, 0, 1, 1, 0, 0, 1, 1] B15) s H = condW P Γ call n f m (cAt [1, 1, 1, 0, 1, 0, 1, 1, 1, 1, 1, 0, 1, 1, 1, 0, 0, 1, 1, 0, 0, 1, 1, 0] B15) (cAt [1, 1, 1, 0, 1, 0, 1, 1, 1, 1, 1, 0, 1, 1, 1, 0, 0, 1, 1, 0, 0, 1, 1, 1] B15) s H (evOperand Γ s (.tmp 85)) := at_cond (by kernel_rfl) (by kernel_rfl) rfl rfl s H
@[simp] theorem n15_77 (s : List V) (H : Heap) : evCode P Γ call n f m (cAt [1, 1, 1, 0, 1, 0, 1, 1, 1, 1, 1, 0, 1, 1, 1, 0, 0, 1, 1, 0, 0, 1, 1, 0] B15) s H = seqNext P Γ call n f m (cAt [1, 1, 1, 0, 1, 0, 1, 1, 1, 1, 1, 0, 1, 1, 1, 0, 0, 1, 1, 0, 0, 1, 1, 0, 1] B15) (evCode P Γ call n f m (cAt [1, 1, 1, 0, 1, 0, 1, 1, 1, 1, 1, 0, 1, 1, 1, 0, 0, 1, 1, 0, 0, 1, 1, 0, 0] B15) s H) := at_seq (by kernel_rfl) rfl rfl s H
noncomputable def r15_78 : {l : List Oper // opsOf (cAt [1, 1, 1, 0, 1, 0, 1, 1, 1, 1, 1, 0, 1, 1, 1, 0, 0, 1, 1, 0, 0, 1, 1, 0, 0] B15) = l} := by
  apply Subtype.mk
  dsimp only [opsOf, cAt, kids, B15, bodyOf, Tryd.f15, List.getD, List.getElem?_cons_zero, List.getElem?_cons_succ, Option.getD_some]
@[simp] theorem n15_78 (s : List V) (H : Heap) : evCode P Γ call n f m (cAt [1, 1, 1, 0, 1, 0, 1, 1, 1, 1, 1, 0, 1, 1, 1, 0, 0, 1, 1, 0, 0, 1, 1, 0, 0] B15) s H = regNext (evOpsGo P Γ call r15_78.1 r15_78.1 s H) := at_region (by kernel_rfl) r15_78.2 s H
attribute [simp] r15_78
@[simp] theorem n15_79 (s : List V) (H : Heap) : evCode P Γ call n f m (cAt [1, 1, 1, 0, 1, 0, 1, 1, 1, 1, 1, 0, 1, 1, 1, 0, 0, 1, 1, 0, 0, 1, 1, 0, 1] B15) s H = some (.ret, s, H) := at_ret (by kernel_rfl) s H
@[simp] theorem n15_80 (s : List V) (H : Heap) : evCode P Γ call n f m (cAt [1, 1, 1, 0, 1, 0, 1, 1, 1, 1, 1, 0, 1, 1, 1, 0, 0, 1, 1, 0, 0, 1, 1, 1] B15) s H = some (.normal, s, H) := at_skip (by kernel_rfl) s H
noncomputable def r15_81 : {l : List Oper // opsOf (cAt [1, 1, 1, 0, 1, 0, 1, 1, 1, 1, 1, 0, 1, 1, 1, 0, 0, 1, 1, 1] B15) = l} := by
  apply Subtype.mk
  dsimp only [opsOf, cAt, kids, B15, bodyOf, Tryd.f15, List.getD, List.getElem?_cons_zero, List.getElem?_cons_succ, Option.getD_some]
@[simp] theorem n15_81 (s : List V) (H : Heap) : evCode P Γ call n f m (cAt [1, 1, 1, 0, 1, 0, 1, 1, 1, 1, 1, 0, 1, 1, 1, 0, 0, 1, 1, 1] B15) s H = regNext (evOpsGo P Γ call r15_81.1 r15_81.1 s H) := at_region (by kernel_rfl) r15_81.2 s H
attribute [simp] r15_81
@[simp] theorem n15_82 (s : List V) (H : Heap) : evCode P Γ call n f m (cAt [1, 1, 1, 0, 1, 0, 1, 1, 1, 1, 1, 1] B15) s H = seqNext P Γ call n f m (cAt [1, 1, 1, 0, 1, 0, 1, 1, 1, 1, 1, 1, 1] B15) (evCode P Γ call n f m (cAt [1, 1, 1, 0, 1, 0, 1, 1, 1, 1, 1, 1, 0] B15) s H) := at_seq (by kernel_rfl) rfl rfl s H
noncomputable def r15_83 : {l : List Oper // opsOf (cAt [1, 1, 1, 0, 1, 0, 1, 1, 1, 1, 1, 1, 0] B15) = l} := by
  apply Subtype.mk
  dsimp only [opsOf, cAt, kids, B15, bodyOf, Tryd.f15, List.getD, List.getElem?_cons_zero, List.getElem?_cons_succ, Option.getD_some]
@[simp] theorem n15_83 (s : List V) (H : Heap) : evCode P Γ call n f m (cAt [1, 1, 1, 0, 1, 0, 1, 1, 1, 1, 1, 1, 0] B15) s H = regNext (evOpsGo P Γ call r15_83.1 r15_83.1 s H) := at_region (by kernel_rfl) r15_83.2 s H
attribute [simp] r15_83
@[simp] theorem n15_84 (s : List V) (H : Heap) : evCode P Γ call n f m (cAt [1, 1, 1, 0, 1, 0, 1, 1, 1, 1, 1, 1, 1] B15) s H = condW P Γ call n f m (cAt [1, 1, 1, 0, 1, 0, 1, 1, 1, 1, 1, 1, 1, 0] B15) (cAt [1, 1, 1, 0, 1, 0, 1, 1, 1, 1, 1, 1, 1, 1] B15) s H (evOperand Γ s (.tmp 87)) := at_cond (by kernel_rfl) (by kernel_rfl) rfl rfl s H
@[simp] theorem n15_85 (s : List V) (H : Heap) : evCode P Γ call n f m (cAt [1, 1, 1, 0, 1, 0, 1, 1, 1, 1, 1, 1, 1, 0] B15) s H = seqNext P Γ call n f m (cAt [1, 1, 1, 0, 1, 0, 1, 1, 1, 1, 1, 1, 1, 0, 1] B15) (evCode P Γ call n f m (cAt [1, 1, 1, 0, 1, 0, 1, 1, 1, 1, 1, 1, 1, 0, 0] B15) s H) := at_seq (by kernel_rfl) rfl rfl s H
noncomputable def r15_86 : {l : List Oper // opsOf (cAt [1, 1, 1, 0, 1, 0, 1, 1, 1, 1, 1, 1, 1, 0, 0] B15) = l} := by
  apply Subtype.mk
  dsimp only [opsOf, cAt, kids, B15, bodyOf, Tryd.f15, List.getD, List.getElem?_cons_zero, List.getElem?_cons_succ, Option.getD_some]
@[simp] theorem n15_86 (s : List V) (H : Heap) : evCode P Γ call n f m (cAt [1, 1, 1, 0, 1, 0, 1, 1, 1, 1, 1, 1, 1, 0, 0] B15) s H = regNext (evOpsGo P Γ call r15_86.1 r15_86.1 s H) := at_region (by kernel_rfl) r15_86.2 s H
attribute [simp] r15_86
@[simp] theorem n15_87 (s : List V) (H : Heap) : evCode P Γ call n f m (cAt [1, 1, 1, 0, 1, 0, 1, 1, 1, 1, 1, 1, 1, 0, 1] B15) s H = blockNext 7 (evCode P Γ call n f m (cAt [1, 1, 1, 0, 1, 0, 1, 1, 1, 1, 1, 1, 1, 0, 1, 0] B15) s H) := at_block (by kernel_rfl) rfl s H
@[simp] theorem n15_88 (s : List V) (H : Heap) : evCode P Γ call n f m (cAt [1, 1, 1, 0, 1, 0, 1, 1, 1, 1, 1, 1, 1, 0, 1, 0] B15) s H = evLoopC P Γ call n f m (cAt [1, 1, 1, 0, 1, 0, 1, 1, 1, 1, 1, 1, 1, 0, 1, 0, 0] B15) n s H := at_loop (by kernel_rfl) rfl s H
noncomputable abbrev L15_27 : Code := cAt [1, 1, 1, 0, 1, 0, 1, 1, 1, 1, 1, 1, 1, 0, 1, 0, 0] B15
@[simp] theorem n15_88f : firstRegion (cAt [1, 1, 1, 0, 1, 0, 1, 1, 1, 1, 1, 1, 1, 0, 1, 0, 0] B15) = 27 := by kernel_rfl
@[simp] theorem n15_89 (s : List V) (H : Heap) : evCode P Γ call n f m (cAt [1, 1, 1, 0, 1, 0, 1, 1, 1, 1, 1, 1, 1, 0, 1, 0, 0] B15) s H = seqNext P Γ call n f m (cAt [1, 1, 1, 0, 1, 0, 1, 1, 1, 1, 1, 1, 1, 0, 1, 0, 0, 1] B15) (evCode P Γ call n f m (cAt [1, 1, 1, 0, 1, 0, 1, 1, 1, 1, 1, 1, 1, 0, 1, 0, 0, 0] B15) s H) := at_seq (by kernel_rfl) rfl rfl s H
noncomputable def r15_90 : {l : List Oper // opsOf (cAt [1, 1, 1, 0, 1, 0, 1, 1, 1, 1, 1, 1, 1, 0, 1, 0, 0, 0] B15) = l} := by
  apply Subtype.mk
  dsimp only [opsOf, cAt, kids, B15, bodyOf, Tryd.f15, List.getD, List.getElem?_cons_zero, List.getElem?_cons_succ, Option.getD_some]
@[simp] theorem n15_90 (s : List V) (H : Heap) : evCode P Γ call n f m (cAt [1, 1, 1, 0, 1, 0, 1, 1, 1, 1, 1, 1, 1, 0, 1, 0, 0, 0] B15) s H = regNext (evOpsGo P Γ call r15_90.1 r15_90.1 s H) := at_region (by kernel_rfl) r15_90.2 s H
attribute [simp] r15_90
@[simp] theorem n15_91 (s : List V) (H : Heap) : evCode P Γ call n f m (cAt [1, 1, 1, 0, 1, 0, 1, 1, 1, 1, 1, 1, 1, 0, 1, 0, 0, 1] B15) s H = seqNext P Γ call n f m (cAt [1, 1, 1, 0, 1, 0, 1, 1, 1, 1, 1, 1, 1, 0, 1, 0, 0, 1, 1] B15) (evCode P Γ call n f m (cAt [1, 1, 1, 0, 1, 0, 1, 1, 1, 1, 1, 1, 1, 0, 1, 0, 0, 1, 0] B15) s H) := at_seq (by kernel_rfl) rfl rfl s H
@[simp] theorem n15_92 (s : List V) (H : Heap) : evCode P Γ call n f m (cAt [1, 1, 1, 0, 1, 0, 1, 1, 1, 1, 1, 1, 1, 0, 1, 0, 0, 1, 0] B15) s H = condW P Γ call n f m (cAt [1, 1, 1, 0, 1, 0, 1, 1, 1, 1, 1, 1, 1, 0, 1, 0, 0, 1, 0, 0] B15) (cAt [1, 1, 1, 0, 1, 0, 1, 1, 1, 1, 1, 1, 1, 0, 1, 0, 0, 1, 0, 1] B15) s H (evOperand Γ s (.tmp 93)) := at_cond (by kernel_rfl) (by kernel_rfl) rfl rfl s H
@[simp] theorem n15_93 (s : List V) (H : Heap) : evCode P Γ call n f m (cAt [1, 1, 1, 0, 1, 0, 1, 1, 1, 1, 1, 1, 1, 0, 1, 0, 0, 1, 0, 0] B15) s H = some (.normal, s, H) := at_skip (by kernel_rfl) s H
@[simp] theorem n15_94 (s : List V) (H : Heap) : evCode P Γ call n f m (cAt [1, 1, 1, 0, 1, 0, 1, 1, 1, 1, 1, 1, 1, 0, 1, 0, 0, 1, 0, 1] B15) s H = some (.exit 7, s, H) := at_exit (by kernel_rfl) s H
@[simp] theorem n15_95 (s : List V) (H : Heap) : evCode P Γ call n f m (cAt [1, 1, 1, 0, 1, 0, 1, 1, 1, 1, 1, 1, 1, 0, 1, 0, 0, 1, 1] B15) s H = seqNext P Γ call n f m (cAt [1, 1, 1, 0, 1, 0, 1, 1, 1, 1, 1, 1, 1, 0, 1, 0, 0, 1, 1, 1] B15) (evCode P Γ call n f m (cAt [1, 1, 1, 0, 1, 0, 1, 1, 1, 1, 1, 1, 1, 0, 1, 0, 0, 1, 1, 0] B15) s H) := at_seq (by kernel_rfl) rfl rfl s H
@[simp] theorem n15_96 (s : List V) (H : Heap) : evCode P Γ call n f m (cAt [1, 1, 1, 0, 1, 0, 1, 1, 1, 1, 1, 1, 1, 0, 1, 0, 0, 1, 1, 0] B15) s H = blockNext 8 (evCode P Γ call n f m (cAt [1, 1, 1, 0, 1, 0, 1, 1, 1, 1, 1, 1, 1, 0, 1, 0, 0, 1, 1, 0, 0] B15) s H) := at_block (by kernel_rfl) rfl s H
@[simp] theorem n15_97 (s : List V) (H : Heap) : evCode P Γ call n f m (cAt [1, 1, 1, 0, 1, 0, 1, 1, 1, 1, 1, 1, 1, 0, 1, 0, 0, 1, 1, 0, 0] B15) s H = seqNext P Γ call n f m (cAt [1, 1, 1, 0, 1, 0, 1, 1, 1, 1, 1, 1, 1, 0, 1, 0, 0, 1, 1, 0, 0, 1] B15) (evCode P Γ call n f m (cAt [1, 1, 1, 0, 1, 0, 1, 1, 1, 1, 1, 1, 1, 0, 1, 0, 0, 1, 1, 0, 0, 0] B15) s H) := at_seq (by kernel_rfl) rfl rfl s H
noncomputable def r15_98 : {l : List Oper // opsOf (cAt [1, 1, 1, 0, 1, 0, 1, 1, 1, 1, 1, 1, 1, 0, 1, 0, 0, 1, 1, 0, 0, 0] B15) = l} := by
  apply Subtype.mk
  dsimp only [opsOf, cAt, kids, B15, bodyOf, Tryd.f15, List.getD, List.getElem?_cons_zero, List.getElem?_cons_succ, Option.getD_some]
@[simp] theorem n15_98 (s : List V) (H : Heap) : evCode P Γ call n f m (cAt [1, 1, 1, 0, 1, 0, 1, 1, 1, 1, 1, 1, 1, 0, 1, 0, 0, 1, 1, 0, 0, 0] B15) s H = regNext (evOpsGo P Γ call r15_98.1 r15_98.1 s H) := at_region (by kernel_rfl) r15_98.2 s H
attribute [simp] r15_98
@[simp] theorem n15_99 (s : List V) (H : Heap) : evCode P Γ call n f m (cAt [1, 1, 1, 0, 1, 0, 1, 1, 1, 1, 1, 1, 1, 0, 1, 0, 0, 1, 1, 0, 0, 1] B15) s H = seqNext P Γ call n f m (cAt [1, 1, 1, 0, 1, 0, 1, 1, 1, 1, 1, 1, 1, 0, 1, 0, 0, 1, 1, 0, 0, 1, 1] B15) (evCode P Γ call n f m (cAt [1, 1, 1, 0, 1, 0, 1, 1, 1, 1, 1, 1, 1, 0, 1, 0, 0, 1, 1, 0, 0, 1, 0] B15) s H) := at_seq (by kernel_rfl) rfl rfl s H
noncomputable def r15_100 : {l : List Oper // opsOf (cAt [1, 1, 1, 0, 1, 0, 1, 1, 1, 1, 1, 1, 1, 0, 1, 0, 0, 1, 1, 0, 0, 1, 0] B15) = l} := by
  apply Subtype.mk
  dsimp only [opsOf, cAt, kids, B15, bodyOf, Tryd.f15, List.getD, List.getElem?_cons_zero, List.getElem?_cons_succ, Option.getD_some]
@[simp] theorem n15_100 (s : List V) (H : Heap) : evCode P Γ call n f m (cAt [1, 1, 1, 0, 1, 0, 1, 1, 1, 1, 1, 1, 1, 0, 1, 0, 0, 1, 1, 0, 0, 1, 0] B15) s H = regNext (evOpsGo P Γ call r15_100.1 r15_100.1 s H) := at_region (by kernel_rfl) r15_100.2 s H
attribute [simp] r15_100
@[simp] theorem n15_101 (s : List V) (H : Heap) : evCode P Γ call n f m (cAt [1, 1, 1, 0, 1, 0, 1, 1, 1, 1, 1, 1, 1, 0, 1, 0, 0, 1, 1, 0, 0, 1, 1] B15) s H = blockNext 9 (evCode P Γ call n f m (cAt [1, 1, 1, 0, 1, 0, 1, 1, 1, 1, 1, 1, 1, 0, 1, 0, 0, 1, 1, 0, 0, 1, 1, 0] B15) s H) := at_block (by kernel_rfl) rfl s H
@[simp] theorem n15_102 (s : List V) (H : Heap) : evCode P Γ call n f m (cAt [1, 1, 1, 0, 1, 0, 1, 1, 1, 1, 1, 1, 1, 0, 1, 0, 0, 1, 1, 0, 0, 1, 1, 0] B15) s H = evLoopC P Γ call n f m (cAt [1, 1, 1, 0, 1, 0, 1, 1, 1, 1, 1, 1, 1, 0, 1, 0, 0, 1, 1, 0, 0, 1, 1, 0, 0] B15) n s H := at_loop (by kernel_rfl) rfl s H
noncomputable abbrev L15_30 : Code := cAt [1, 1, 1, 0, 1, 0, 1, 1, 1, 1, 1, 1, 1, 0, 1, 0, 0, 1, 1, 0, 0, 1, 1, 0, 0] B15
@[simp] theorem n15_102f : firstRegion (cAt [1, 1, 1, 0, 1, 0, 1, 1, 1, 1, 1, 1, 1, 0, 1, 0, 0, 1, 1, 0, 0, 1, 1, 0, 0] B15) = 30 := by kernel_rfl
@[simp] theorem n15_103 (s : List V) (H : Heap) : evCode P Γ call n f m (cAt [1, 1, 1, 0, 1, 0, 1, 1, 1, 1, 1, 1, 1, 0, 1, 0, 0, 1, 1, 0, 0, 1, 1, 0, 0] B15) s H = seqNext P Γ call n f m (cAt [1, 1, 1, 0, 1, 0, 1, 1, 1, 1, 1, 1, 1, 0, 1, 0, 0, 1, 1, 0, 0, 1, 1, 0, 0, 1] B15) (evCode P Γ call n f m (cAt [1, 1, 1, 0, 1, 0, 1, 1, 1, 1, 1, 1, 1, 0, 1, 0, 0, 1, 1, 0, 0, 1, 1, 0, 0, 0] B15) s H) := at_seq (by kernel_rfl) rfl rfl s H
noncomputable def r15_104 : {l : List Oper // opsOf (cAt [1, 1, 1, 0, 1, 0, 1, 1, 1, 1, 1, 1, 1, 0, 1, 0, 0, 1, 1, 0, 0, 1, 1, 0, 0, 0] B15) = l} := by
  apply Subtype.mk
  dsimp only [opsOf, cAt, kids, B15, bodyOf, Tryd.f15, List.getD, List.getElem?_cons_zero, List.getElem?_cons_succ, Option.getD_some]
@[simp] theorem n15_104 (s : List V) (H : Heap) : evCode P Γ call n f m (cAt [1, 1, 1, 0, 1, 0, 1, 1, 1, 1, 1, 1, 1, 0, 1, 0, 0, 1, 1, 0, 0, 1, 1, 0, 0, 0] B15) s H = regNext (evOpsGo P Γ call r15_104.1 r15_104.1 s H) := at_region (by kernel_rfl) r15_104.2 s H
attribute [simp] r15_104
@[simp] theorem n15_105 (s : List V) (H : Heap) : evCode P Γ call n f m (cAt [1, 1, 1, 0, 1, 0, 1, 1, 1, 1, 1, 1, 1, 0, 1, 0, 0, 1, 1, 0, 0, 1, 1, 0, 0, 1] B15) s H = seqNext P Γ call n f m (cAt [1, 1, 1, 0, 1, 0, 1, 1, 1, 1, 1, 1, 1, 0, 1, 0, 0, 1, 1, 0, 0, 1, 1, 0, 0, 1, 1] B15) (evCode P Γ call n f m (cAt [1, 1, 1, 0, 1, 0, 1, 1, 1, 1, 1, 1, 1, 0, 1, 0, 0, 1, 1, 0, 0, 1, 1, 0, 0, 1, 0] B15) s H) := at_seq (by kernel_rfl) rfl rfl s H
@[simp] theorem n15_106 (s : List V) (H : Heap) : evCode P Γ call n f m (cAt [1, 1, 1, 0, 1, 0, 1, 1, 1, 1, 1, 1, 1, 0, 1, 0, 0, 1, 1, 0, 0, 1, 1, 0, 0, 1, 0] B15) s H = condW P Γ call n f m (cAt [1, 1, 1, 0, 1, 0, 1, 1, 1, 1, 1, 1, 1, 0, 1, 0, 0, 1, 1, 0, 0, 1, 1, 0, 0, 1, 0, 0] B15) (cAt [1, 1, 1, 0, 1, 0, 1, 1, 1, 1, 1, 1, 1, 0, 1, 0, 0, 1, 1, 0, 0, 1, 1, 0, 0, 1, 0, 1] B15) s H (evOperand Γ s (.tmp 100)) := at_cond (by kernel_rfl) (by kernel_rfl) rfl rfl s H
@[simp] theorem n15_107 (s : List V) (H : Heap) : evCode P Γ call n f m (cAt [1, 1, 1, 0, 1, 0, 1, 1, 1, 1, 1, 1, 1, 0, 1, 0, 0, 1, 1, 0, 0, 1, 1, 0, 0, 1, 0, 0] B15) s H = some (.normal, s, H) := at_skip (by kernel_rfl) s H
@[simp] theorem n15_108 (s : List V) (H : Heap) : evCode P Γ call n f m (cAt [1, 1, 1, 0, 1, 0, 1, 1, 1, 1, 1, 1, 1, 0, 1, 0, 0, 1, 1, 0, 0, 1, 1, 0, 0, 1, 0, 1] B15) s H = some (.exit 9, s, H) := at_exit (by kernel_rfl) s H
@[simp] theorem n15_109 (s : List V) (H : Heap) : evCode P Γ call n f m (cAt [1, 1, 1, 0, 1, 0, 1, 1, 1, 1, 1, 1, 1, 0, 1, 0, 0, 1, 1, 0, 0, 1, 1, 0, 0, 1, 1] B15) s H = seqNext P Γ call n f m (cAt [1, 1, 1, 0, 1, 0, 1, 1, 1, 1, 1, 1, 1, 0, 1, 0, 0, 1, 1, 0, 0, 1, 1, 0, 0, 1, 1, 1] B15) (evCode P Γ call n f m (cAt [1, 1, 1, 0, 1, 0, 1, 1, 1, 1, 1, 1, 1, 0, 1, 0, 0, 1, 1, 0, 0, 1, 1, 0, 0, 1, 1, 0] B15) s H) := at_seq (by kernel_rfl) rfl rfl s H
@[simp] theorem n15_110 (s : List V) (H : Heap) : evCode P Γ call n f m (cAt [1, 1, 1, 0, 1, 0, 1, 1, 1, 1, 1, 1, 1, 0, 1, 0, 0, 1, 1, 0, 0, 1, 1, 0, 0, 1, 1, 0] B15) s H = blockNext 10 (evCode P Γ call n f m (cAt [1, 1, 1, 0, 1, 0, 1, 1, 1, 1, 1, 1, 1, 0, 1, 0, 0, 1, 1, 0, 0, 1, 1, 0, 0, 1, 1, 0, 0] B15) s H) := at_block (by kernel_rfl) rfl s H
@[simp] theorem n15_111 (s : List V) (H : Heap) : evCode P Γ call n f m (cAt [1, 1, 1, 0, 1, 0, 1, 1, 1, 1, 1, 1, 1, 0, 1, 0, 0, 1, 1, 0, 0, 1, 1, 0, 0, 1, 1, 0, 0] B15) s H = seqNext P Γ call n f m (cAt [1, 1, 1, 0, 1, 0, 1, 1, 1, 1, 1, 1, 1, 0, 1, 0, 0, 1, 1, 0, 0, 1, 1, 0, 0, 1, 1, 0, 0, 1] B15) (evCode P Γ call n f m (cAt [1, 1, 1, 0, 1, 0, 1, 1, 1, 1, 1, 1, 1, 0, 1, 0, 0, 1, 1, 0, 0, 1, 1, 0, 0, 1, 1, 0, 0, 0] B15) s H) := at_seq (by kernel_rfl) rfl rfl s H
noncomputable def r15_112 : {l : List Oper // opsOf (cAt [1, 1, 1, 0, 1, 0, 1, 1, 1, 1, 1, 1, 1, 0, 1, 0, 0, 1, 1, 0, 0, 1, 1, 0, 0, 1, 1, 0, 0, 0] B15) = l} := by
  apply Subtype.mk
  dsimp only [opsOf, cAt, kids, B15, bodyOf, Tryd.f15, List.getD, List.getElem?_cons_zero, List.getElem?_cons_succ, Option.getD_some]
@[simp] theorem n15_112 (s : List V) (H : Heap) : evCode P Γ call n f m (cAt [1, 1, 1, 0, 1, 0, 1, 1, 1, 1, 1, 1, 1, 0, 1, 0, 0, 1, 1, 0, 0, 1, 1, 0, 0, 1, 1, 0, 0, 0] B15) s H = regNext (evOpsGo P Γ call r15_112.1 r15_112.1 s H) := at_region (by kernel_rfl) r15_112.2 s H
attribute [simp] r15_112
@[simp] theorem n15_113 (s : List V) (H : Heap) : evCode P Γ call n f m (cAt [1, 1, 1, 0, 1, 0, 1, 1, 1, 1, 1, 1, 1, 0, 1, 0, 0, 1, 1, 0, 0, 1, 1, 0, 0, 1, 1, 0, 0, 1] B15) s H = seqNext P Γ call n f m (cAt [1, 1, 1, 0, 1, 0, 1, 1, 1, 1, 1, 1, 1, 0, 1, 0, 0, 1, 1, 0, 0, 1, 1, 0, 0, 1, 1, 0, 0, 1, 1] B15) (evCode P Γ call n f m (cAt [1, 1, 1, 0, 1, 0, 1, 1, 1, 1, 1, 1, 1, 0, 1, 0, 0, 1, 1, 0, 0, 1, 1, 0, 0, 1, 1, 0, 0, 1, 0] B15) s H) := at_seq (by kernel_rfl) rfl rfl s H
noncomputable def r15_114 : {l : List Oper // opsOf (cAt [1, 1, 1, 0, 1, 0, 1, 1, 1, 1, 1, 1, 1, 0, 1, 0, 0, 1, 1, 0, 0, 1, 1, 0, 0, 1, 1, 0, 0, 1, 0] B15) = l} := by
  apply Subtype.mk
  dsimp only [opsOf, cAt, kids, B15, bodyOf, Tryd.f15, List.getD, List.getElem?_cons_zero, List.getElem?_cons_succ, Option.getD_some]
@[simp] theorem n15_114 (s : List V) (H : Heap) : evCode P Γ call n f m (cAt [1, 1, 1, 0, 1, 0, 1, 1, 1, 1, 1, 1, 1, 0, 1, 0, 0, 1, 1, 0, 0, 1, 1, 0, 0, 1, 1, 0, 0, 1, 0] B15) s H = regNext (evOpsGo P Γ call r15_114.1 r15_114.1 s H) := at_region (by kernel_rfl) r15_114.2 s H
attribute [simp] r15_114
@[simp] theorem n15_115 (s : List V) (H : Heap) : evCode P Γ call n f m (cAt [1, 1, 1, 0, 1, 0, 1, 1, 1, 1, 1, 1, 1, 0, 1, 0, 0, 1, 1, 0, 0, 1, 1, 0, 0, 1, 1, 0, 0, 1, 1] B15) s H = seqNext P Γ call n f m (cAt [1, 1, 1, 0, 1, 0, 1, 1, 1, 1, 1, 1, 1, 0, 1, 0, 0, 1, 1, 0, 0, 1, 1, 0, 0, 1, 1, 0, 0, 1, 1, 1] B15) (evCode P Γ call n f m (cAt [1, 1, 1, 0, 1, 0, 1, 1, 1, 1, 1, 1, 1, 0, 1, 0, 0, 1, 1, 0, 0, 1, 1, 0, 0, 1, 1, 0, 0, 1, 1, 0] B15) s H) := at_seq (by kernel_rfl) rfl rfl s H
noncomputable def r15_116 : {l : List Oper // opsOf (cAt [1, 1, 1, 0, 1, 0, 1, 1, 1, 1, 1, 1, 1, 0, 1, 0, 0, 1, 1, 0, 0, 1, 1, 0, 0, 1, 1, 0, 0, 1, 1, 0] B15) = l} := by
  apply Subtype.mk
  dsimp only [opsOf, cAt, kids, B15, bodyOf, Tryd.f15, List.getD, List.getElem?_cons_zero, List.getElem?_cons_succ, Option.getD_some]
@[simp] theorem n15_116 (s : List V) (H : Heap) : evCode P Γ call n f m (cAt [1, 1, 1, 0, 1, 0, 1, 1, 1, 1, 1, 1, 1, 0, 1, 0, 0, 1, 1, 0, 0, 1, 1, 0, 0, 1, 1, 0, 0, 1, 1, 0] B15) s H = regNext (evOpsGo P Γ call r15_116.1 r15_116.1 s H) := at_region (by kernel_rfl) r15_116.2 s H
attribute [simp] r15_116
@[simp] theorem n15_117 (s : List V) (H : Heap) : evCode P Γ call n f m (cAt [1, 1, 1, 0, 1, 0, 1, 1, 1, 1, 1, 1, 1, 0, 1, 0, 0, 1, 1, 0, 0, 1, 1, 0, 0, 1, 1, 0, 0, 1, 1, 1] B15) s H = condW P Γ call n f m (cAt [1, 1, 1, 0, 1, 0, 1, 1, 1, 1, 1, 1, 1, 0, 1, 0, 0, 1, 1, 0, 0, 1, 1, 0, 0, 1, 1, 0, 0, 1, 1, 1, 0] B15) (cAt [1, 1, 1, 0, 1, 0, 1, 1, 1, 1, 1, 1, 1, 0, 1, 0, 0, 1, 1, 0, 0, 1, 1, 0, 0, 1, 1, 0, 0, 1, 1, 1, 1] B15) s H (evOperand Γ s (.tmp 141)) := at_cond (by kernel_rfl) (by kernel_rfl) rfl rfl s H
@[simp] theorem n15_118 (s : List V) (H : Heap) : evCode P Γ call n f m (cAt [1, 1, 1, 0, 1, 0, 1, 1, 1, 1, 1, 1, 1, 0, 1, 0, 0, 1, 1, 0, 0, 1, 1, 0, 0, 1, 1, 0, 0, 1, 1, 1, 0] B15) s H = seqNext P Γ call n f m (cAt [1, 1, 1, 0, 1, 0, 1, 1, 1, 1, 1, 1, 1, 0, 1, 0, 0, 1, 1, 0, 0, 1, 1, 0, 0, 1, 1, 0, 0, 1, 1, 1, 0, 1] B15) (evCode P Γ call n f m (cAt [1, 1, 1, 0, 1, 0, 1, 1, 1, 1, 1, 1, 1, 0, 1, 0, 0, 1, 1, 0, 0, 1, 1, 0, 0, 1, 1, 0, 0, 1, 1, 1, 0, 0] B15) s H) := at_seq (by kernel_rfl) rfl rfl s H
noncomputable def r15_119 : {l : List Oper // opsOf (cAt [1, 1, 1, 0, 1, 0, 1, 1, 1, 1, 1, 1, 1, 0, 1, 0, 0, 1, 1, 0, 0, 1, 1, 0, 0, 1, 1, 0, 0, 1, 1, 1, 0, 0] B15) = l} := by
  apply Subtype.mk
  dsimp only [opsOf, cAt, kids, B15, bodyOf, Tryd.f15, List.getD, List.getElem?_cons_zero, List.getElem?_cons_succ, Option.getD_some]
@[simp] theorem n15_119 (s : List V) (H : Heap) : evCode P Γ call n f m (cAt [1, 1, 1, 0, 1, 0, 1, 1, 1, 1, 1, 1, 1, 0, 1, 0, 0, 1, 1, 0, 0, 1, 1, 0, 0, 1, 1, 0, 0, 1, 1, 1, 0, 0] B15) s H = regNext (evOpsGo P Γ call r15_119.1 r15_119.1 s H) := at_region (by kernel_rfl) r15_119.2 s H
attribute [simp] r15_119
@[simp] theorem n15_120 (s : List V) (H : Heap) : evCode P Γ call n f m (cAt [1, 1, 1, 0, 1, 0, 1, 1, 1, 1, 1, 1, 1, 0, 1, 0, 0, 1, 1, 0, 0, 1, 1, 0, 0, 1, 1, 0, 0, 1, 1, 1, 0, 1] B15) s H = some (.ret, s, H) := at_ret (by kernel_rfl) s H
@[simp] theorem n15_121 (s : List V) (H : Heap) : evCode P Γ call n f m (cAt [1, 1, 1, 0, 1, 0, 1, 1, 1, 1, 1, 1, 1, 0, 1, 0, 0, 1, 1, 0, 0, 1, 1, 0, 0, 1, 1, 0, 0, 1, 1, 1, 1] B15) s H = some (.normal, s, H) := at_skip (by kernel_rfl) s H
noncomputable def r15_122 : {l : List Oper // opsOf (cAt [1, 1, 1, 0, 1, 0, 1, 1, 1, 1, 1, 1, 1, 0, 1, 0, 0, 1, 1, 0, 0, 1, 1, 0, 0, 1, 1, 1] B15) = l} := by
  apply Subtype.mk
  dsimp only [opsOf, cAt, kids, B15, bodyOf, Tryd.f15, List.getD, List.getElem?_cons_zero, List.getElem?_cons_succ, Option.getD_some]
@[simp] theorem n15_122 (s : List V) (H : Heap) : evCode P Γ call n f m (cAt [1, 1, 1, 0, 1, 0, 1, 1, 1, 1, 1, 1, 1, 0, 1, 0, 0, 1, 1, 0, 0, 1, 1, 0, 0, 1, 1, 1] B15) s H = regNext (evOpsGo P Γ call r15_122.1 r15_122.1 s H) := at_region (by kernel_rfl) r15_122.2 s H
attribute [simp] r15_122
noncomputable def r15_123 : {l : List Oper // opsOf (cAt [1, 1, 1, 0, 1, 0, 1, 1, 1, 1, 1, 1, 1, 0, 1, 0, 0, 1, 1, 1] B15) = l} := by
  apply Subtype.mk
  dsimp only [opsOf, cAt, kids, B15, bodyOf, Tryd.f15, List.getD, List.getElem?_cons_zero, List.getElem?_cons_succ, Option.getD_some]
@[simp] theorem n15_123 (s : List V) (H : Heap) : evCode P Γ call n f m (cAt [1, 1, 1, 0, 1, 0, 1, 1, 1, 1, 1, 1, 1, 0, 1, 0, 0, 1, 1, 1] B15) s H = regNext (evOpsGo P Γ call r15_123.1 r15_123.1 s H) := at_region (by kernel_rfl) r15_123.2 s H
attribute [simp] r15_123
@[simp] theorem n15_124 (s : List V) (H : Heap) : evCode P Γ call n f m (cAt [1, 1, 1, 0, 1, 0, 1, 1, 1, 1, 1, 1, 1, 1] B15) s H = some (.normal, s, H) := at_skip (by kernel_rfl) s H
@[simp] theorem n15_125 (s : List V) (H : Heap) : evCode P Γ call n f m (cAt [1, 1, 1, 1] B15) s H = seqNext P Γ call n f m (cAt [1, 1, 1, 1, 1] B15) (evCode P Γ call n f m (cAt [1, 1, 1, 1, 0] B15) s H) := at_seq (by kernel_rfl) rfl rfl s H
noncomputable def r15_126 : {l : List Oper // opsOf (cAt [1, 1, 1, 1, 0] B15) = l} := by
  apply Subtype.mk
  dsimp only [opsOf, cAt, kids, B15, bodyOf, Tryd.f15, List.getD, List.getElem?_cons_zero, List.getElem?_cons_succ, Option.getD_some]
@[simp] theorem n15_126 (s : List V) (H : Heap) : evCode P Γ call n f m (cAt [1, 1, 1, 1, 0] B15) s H = regNext (evOpsGo P Γ call r15_126.1 r15_126.1 s H) := at_region (by kernel_rfl) r15_126.2 s H
attribute [simp] r15_126
@[simp] theorem n15_127 (s : List V) (H : Heap) : evCode P Γ call n f m (cAt [1, 1, 1, 1, 1] B15) s H = some (.ret, s, H) := at_ret (by kernel_rfl) s H
theorem b15 {k : Nat} (ho : ∀ args H, Γ.orc 15 args H = none) (args : List V) (H : Heap) (ha : args.length ≤ 144) : evF Tryd.prog Γ (k + 1) 15 args H = bodyEnd Tryd.prog [.tmp 6] H.length (evCode Tryd.prog Γ (evF Tryd.prog Γ k) k 15 H.length (cAt [] B15) (mkL 144 V.undef (enumV 0 args)) H) := body_at Tryd.func15 (by decide) rfl ho rfl rfl args H ha
end
end Go.Ev.Tryd
