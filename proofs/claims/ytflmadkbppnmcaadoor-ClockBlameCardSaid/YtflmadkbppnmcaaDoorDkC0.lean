/-
  CODE BY NAMES, printed by wip/tools/codes.py (own work).
-/
import Derived.Test.YtflmadkbppnmcaaDoorDkG
set_option maxRecDepth 100000
set_option linter.unusedVariables false
namespace Go.Ev.Tryd
open Go Go.Ev Go.Proofs
section
variable {P : Program} {Γ : Env} {call : CallF} {n f m : Nat}

noncomputable def B36 : Code := bodyOf Tryd.f36
@[simp] theorem n36_1 (s : List V) (H : Heap) : evCode P Γ call n f m (cAt [] B36) s H = seqNext P Γ call n f m (cAt [1] B36) (evCode P Γ call n f m (cAt [0] B36) s H) := at_seq (by kernel_rfl) rfl rfl s H
noncomputable def r36_2 : {l : List Oper // opsOf (cAt [0] B36) = l} := by
  apply Subtype.mk
  dsimp only [opsOf, cAt, kids, B36, bodyOf, Tryd.f36, List.getD, List.getElem?_cons_zero, List.getElem?_cons_succ, Option.getD_some]
@[simp] theorem n36_2 (s : List V) (H : Heap) : evCode P Γ call n f m (cAt [0] B36) s H = regNext (evOpsGo P Γ call r36_2.1 r36_2.1 s H) := at_region (by kernel_rfl) r36_2.2 s H
attribute [simp] r36_2
@[simp] theorem n36_3 (s : List V) (H : Heap) : evCode P Γ call n f m (cAt [1] B36) s H = seqNext P Γ call n f m (cAt [1, 1] B36) (evCode P Γ call n f m (cAt [1, 0] B36) s H) := at_seq (by kernel_rfl) rfl rfl s H
@[simp] theorem n36_4 (s : List V) (H : Heap) : evCode P Γ call n f m (cAt [1, 0] B36) s H = seqNext P Γ call n f m (cAt [1, 0, 1] B36) (evCode P Γ call n f m (cAt [1, 0, 0] B36) s H) := at_seq (by kernel_rfl) rfl rfl s H
noncomputable def r36_5 : {l : List Oper // opsOf (cAt [1, 0, 0] B36) = l} := by
  apply Subtype.mk
  dsimp only [opsOf, cAt, kids, B36, bodyOf, Tryd.f36, List.getD, List.getElem?_cons_zero, List.getElem?_cons_succ, Option.getD_some]
@[simp] theorem n36_5 (s : List V) (H : Heap) : evCode P Γ call n f m (cAt [1, 0, 0] B36) s H = regNext (evOpsGo P Γ call r36_5.1 r36_5.1 s H) := at_region (by kernel_rfl) r36_5.2 s H
attribute [simp] r36_5
@[simp] theorem n36_6 (s : List V) (H : Heap) : evCode P Γ call n f m (cAt [1, 0, 1] B36) s H = condW P Γ call n f m (cAt [1, 0, 1, 0] B36) (cAt [1, 0, 1, 1] B36) s H (evOperand Γ s (.tmp 8)) := at_cond (by kernel_rfl) (by kernel_rfl) rfl rfl s H
@[simp] theorem n36_7 (s : List V) (H : Heap) : evCode P Γ call n f m (cAt [1, 0, 1, 0] B36) s H = seqNext P Γ call n f m (cAt [1, 0, 1, 0, 1] B36) (evCode P Γ call n f m (cAt [1, 0, 1, 0, 0] B36) s H) := at_seq (by kernel_rfl) rfl rfl s H
noncomputable def r36_8 : {l : List Oper // opsOf (cAt [1, 0, 1, 0, 0] B36) = l} := by
  apply Subtype.mk
  dsimp only [opsOf, cAt, kids, B36, bodyOf, Tryd.f36, List.getD, List.getElem?_cons_zero, List.getElem?_cons_succ, Option.getD_some]
@[simp] theorem n36_8 (s : List V) (H : Heap) : evCode P Γ call n f m (cAt [1, 0, 1, 0, 0] B36) s H = regNext (evOpsGo P Γ call r36_8.1 r36_8.1 s H) := at_region (by kernel_rfl) r36_8.2 s H
attribute [simp] r36_8
@[simp] theorem n36_9 (s : List V) (H : Heap) : evCode P Γ call n f m (cAt [1, 0, 1, 0, 1] B36) s H = some (.ret, s, H) := at_ret (by kernel_rfl) s H
@[simp] theorem n36_10 (s : List V) (H : Heap) : evCode P Γ call n f m (cAt [1, 0, 1, 1] B36) s H = some (.normal, s, H) := at_skip (by kernel_rfl) s H
@[simp] theorem n36_11 (s : List V) (H : Heap) : evCode P Γ call n f m (cAt [1, 1] B36) s H = seqNext P Γ call n f m (cAt [1, 1, 1] B36) (evCode P Γ call n f m (cAt [1, 1, 0] B36) s H) := at_seq (by kernel_rfl) rfl rfl s H
@[simp] theorem n36_12 (s : List V) (H : Heap) : evCode P Γ call n f m (cAt [1, 1, 0] B36) s H = seqNext P Γ call n f m (cAt [1, 1, 0, 1] B36) (evCode P Γ call n f m (cAt [1, 1, 0, 0] B36) s H) := at_seq (by kernel_rfl) rfl rfl s H
noncomputable def r36_13 : {l : List Oper // opsOf (cAt [1, 1, 0, 0] B36) = l} := by
  apply Subtype.mk
  dsimp only [opsOf, cAt, kids, B36, bodyOf, Tryd.f36, List.getD, List.getElem?_cons_zero, List.getElem?_cons_succ, Option.getD_some]
@[simp] theorem n36_13 (s : List V) (H : Heap) : evCode P Γ call n f m (cAt [1, 1, 0, 0] B36) s H = regNext (evOpsGo P Γ call r36_13.1 r36_13.1 s H) := at_region (by kernel_rfl) r36_13.2 s H
attribute [simp] r36_13
@[simp] theorem n36_14 (s : List V) (H : Heap) : evCode P Γ call n f m (cAt [1, 1, 0, 1] B36) s H = blockNext 0 (evCode P Γ call n f m (cAt [1, 1, 0, 1, 0] B36) s H) := at_block (by kernel_rfl) rfl s H
@[simp] theorem n36_15 (s : List V) (H : Heap) : evCode P Γ call n f m (cAt [1, 1, 0, 1, 0] B36) s H = evLoopC P Γ call n f m (cAt [1, 1, 0, 1, 0, 0] B36) n s H := at_loop (by kernel_rfl) rfl s H
noncomputable abbrev L36_4 : Code := cAt [1, 1, 0, 1, 0, 0] B36
@[simp] theorem n36_15f : firstRegion (cAt [1, 1, 0, 1, 0, 0] B36) = 4 := by kernel_rfl
@[simp] theorem n36_16 (s : List V) (H : Heap) : evCode P Γ call n f m (cAt [1, 1, 0, 1, 0, 0] B36) s H = seqNext P Γ call n f m (cAt [1, 1, 0, 1, 0, 0, 1] B36) (evCode P Γ call n f m (cAt [1, 1, 0, 1, 0, 0, 0] B36) s H) := at_seq (by kernel_rfl) rfl rfl s H
@[simp] theorem n36_17 (s : List V) (H : Heap) : evCode P Γ call n f m (cAt [1, 1, 0, 1, 0, 0, 0] B36) s H = seqNext P Γ call n f m (cAt [1, 1, 0, 1, 0, 0, 0, 1] B36) (evCode P Γ call n f m (cAt [1, 1, 0, 1, 0, 0, 0, 0] B36) s H) := at_seq (by kernel_rfl) rfl rfl s H
noncomputable def r36_18 : {l : List Oper // opsOf (cAt [1, 1, 0, 1, 0, 0, 0, 0] B36) = l} := by
  apply Subtype.mk
  dsimp only [opsOf, cAt, kids, B36, bodyOf, Tryd.f36, List.getD, List.getElem?_cons_zero, List.getElem?_cons_succ, Option.getD_some]
@[simp] theorem n36_18 (s : List V) (H : Heap) : evCode P Γ call n f m (cAt [1, 1, 0, 1, 0, 0, 0, 0] B36) s H = regNext (evOpsGo P Γ call r36_18.1 r36_18.1 s H) := at_region (by kernel_rfl) r36_18.2 s H
attribute [simp] r36_18
@[simp] theorem n36_19 (s : List V) (H : Heap) : evCode P Γ call n f m (cAt [1, 1, 0, 1, 0, 0, 0, 1] B36) s H = condW P Γ call n f m (cAt [1, 1, 0, 1, 0, 0, 0, 1, 0] B36) (cAt [1, 1, 0, 1, 0, 0, 0, 1, 1] B36) s H (evOperand Γ s (.tmp 13)) := at_cond (by kernel_rfl) (by kernel_rfl) rfl rfl s H
@[simp] theorem n36_20 (s : List V) (H : Heap) : evCode P Γ call n f m (cAt [1, 1, 0, 1, 0, 0, 0, 1, 0] B36) s H = some (.normal, s, H) := at_skip (by kernel_rfl) s H
@[simp] theorem n36_21 (s : List V) (H : Heap) : evCode P Γ call n f m (cAt [1, 1, 0, 1, 0, 0, 0, 1, 1] B36) s H = some (.exit 0, s, H) := at_exit (by kernel_rfl) s H
@[simp] theorem n36_22 (s : List V) (H : Heap) : evCode P Γ call n f m (cAt [1, 1, 0, 1, 0, 0, 1] B36) s H = seqNext P Γ call n f m (cAt [1, 1, 0, 1, 0, 0, 1, 1] B36) (evCode P Γ call n f m (cAt [1, 1, 0, 1, 0, 0, 1, 0] B36) s H) := at_seq (by kernel_rfl) rfl rfl s H
@[simp] theorem n36_23 (s : List V) (H : Heap) : evCode P Γ call n f m (cAt [1, 1, 0, 1, 0, 0, 1, 0] B36) s H = blockNext 1 (evCode P Γ call n f m (cAt [1, 1, 0, 1, 0, 0, 1, 0, 0] B36) s H) := at_block (by kernel_rfl) rfl s H
@[simp] theorem n36_24 (s : List V) (H : Heap) : evCode P Γ call n f m (cAt [1, 1, 0, 1, 0, 0, 1, 0, 0] B36) s H = seqNext P Γ call n f m (cAt [1, 1, 0, 1, 0, 0, 1, 0, 0, 1] B36) (evCode P Γ call n f m (cAt [1, 1, 0, 1, 0, 0, 1, 0, 0, 0] B36) s H) := at_seq (by kernel_rfl) rfl rfl s H
noncomputable def r36_25 : {l : List Oper // opsOf (cAt [1, 1, 0, 1, 0, 0, 1, 0, 0, 0] B36) = l} := by
  apply Subtype.mk
  dsimp only [opsOf, cAt, kids, B36, bodyOf, Tryd.f36, List.getD, List.getElem?_cons_zero, List.getElem?_cons_succ, Option.getD_some]
@[simp] theorem n36_25 (s : List V) (H : Heap) : evCode P Γ call n f m (cAt [1, 1, 0, 1, 0, 0, 1, 0, 0, 0] B36) s H = regNext (drawR P Γ call r36_25.1 [([1, 4, 5, 6, 7, 8], [17, 20, 21, 22, 23, 24]), ([0, 4, 5, 6, 7, 8], [16, 20, 21, 22, 23, 24]), ([4, 5, 6, 7, 8], [20, 21, 22, 23, 24]), ([4, 5, 6, 7, 8], [20, 21, 22, 23, 24]), ([0, 1, 2, 3, 5, 6], [16, 17, 18, 19, 21, 22]), ([0, 1, 2, 3, 4], [16, 17, 18, 19, 20]), ([0, 1, 2, 3, 4], [16, 17, 18, 19, 20]), ([0, 1, 2, 3], [16, 17, 18, 19]), ([0, 1, 2, 3], [16, 17, 18, 19]), ([], [])] s H) := at_drawT (by kernel_rfl) r36_25.2 (by kernel_rfl) s H
attribute [simp] r36_25
@[simp] theorem n36_26 (s : List V) (H : Heap) : evCode P Γ call n f m (cAt [1, 1, 0, 1, 0, 0, 1, 0, 0, 1] B36) s H = condW P Γ call n f m (cAt [1, 1, 0, 1, 0, 0, 1, 0, 0, 1, 0] B36) (cAt [1, 1, 0, 1, 0, 0, 1, 0, 0, 1, 1] B36) s H (evOperand Γ s (.tmp 25)) := at_cond (by kernel_rfl) (by kernel_rfl) rfl rfl s H
@[simp] theorem n36_27 (s : List V) (H : Heap) : evCode P Γ call n f m (cAt [1, 1, 0, 1, 0, 0, 1, 0, 0, 1, 0] B36) s H = seqNext P Γ call n f m (cAt [1, 1, 0, 1, 0, 0, 1, 0, 0, 1, 0, 1] B36) (evCode P Γ call n f m (cAt [1, 1, 0, 1, 0, 0, 1, 0, 0, 1, 0, 0] B36) s H) := at_seq (by kernel_rfl) rfl rfl s H
noncomputable def r36_28 : {l : List Oper // opsOf (cAt [1, 1, 0, 1, 0, 0, 1, 0, 0, 1, 0, 0] B36) = l} := by
  apply Subtype.mk
  dsimp only [opsOf, cAt, kids, B36, bodyOf, Tryd.f36, List.getD, List.getElem?_cons_zero, List.getElem?_cons_succ, Option.getD_some]
@[simp] theorem n36_28 (s : List V) (H : Heap) : evCode P Γ call n f m (cAt [1, 1, 0, 1, 0, 0, 1, 0, 0, 1, 0, 0] B36) s H = regNext (evOpsGo P Γ call r36_28.1 r36_28.1 s H) := at_region (by kernel_rfl) r36_28.2 s H
attribute [simp] r36_28
@[simp] theorem n36_29 (s : List V) (H : Heap) : evCode P Γ call n f m (cAt [1, 1, 0, 1, 0, 0, 1, 0, 0, 1, 0, 1] B36) s H = seqNext P Γ call n f m (cAt [1, 1, 0, 1, 0, 0, 1, 0, 0, 1, 0, 1, 1] B36) (evCode P Γ call n f m (cAt [1, 1, 0, 1, 0, 0, 1, 0, 0, 1, 0, 1, 0] B36) s H) := at_seq (by kernel_rfl) rfl rfl s H
@[simp] theorem n36_30 (s : List V) (H : Heap) : evCode P Γ call n f m (cAt [1, 1, 0, 1, 0, 0, 1, 0, 0, 1, 0, 1, 0] B36) s H = seqNext P Γ call n f m (cAt [1, 1, 0, 1, 0, 0, 1, 0, 0, 1, 0, 1, 0, 1] B36) (evCode P Γ call n f m (cAt [1, 1, 0, 1, 0, 0, 1, 0, 0, 1, 0, 1, 0, 0] B36) s H) := at_seq (by kernel_rfl) rfl rfl s H
noncomputable def r36_31 : {l : List Oper // opsOf (cAt [1, 1, 0, 1, 0, 0, 1, 0, 0, 1, 0, 1, 0, 0] B36) = l} := by
  apply Subtype.mk
  dsimp only [opsOf, cAt, kids, B36, bodyOf, Tryd.f36, List.getD, List.getElem?_cons_zero, List.getElem?_cons_succ, Option.getD_some]
@[simp] theorem n36_31 (s : List V) (H : Heap) : evCode P Γ call n f m (cAt [1, 1, 0, 1, 0, 0, 1, 0, 0, 1, 0, 1, 0, 0] B36) s H = regNext (evOpsGo P Γ call r36_31.1 r36_31.1 s H) := at_region (by kernel_rfl) r36_31.2 s H
attribute [simp] r36_31
@[simp] theorem n36_32 (s : List V) (H : Heap) : evCode P Γ call n f m (cAt [1, 1, 0, 1, 0, 0, 1, 0, 0, 1, 0, 1, 0, 1] B36) s H = blockNext 2 (evCode P Γ call n f m (cAt [1, 1, 0, 1, 0, 0, 1, 0, 0, 1, 0, 1, 0, 1, 0] B36) s H) := at_block (by kernel_rfl) rfl s H
@[simp] theorem n36_33 (s : List V) (H : Heap) : evCode P Γ call n f m (cAt [1, 1, 0, 1, 0, 0, 1, 0, 0, 1, 0, 1, 0, 1, 0] B36) s H = evLoopC P Γ call n f m (cAt [1, 1, 0, 1, 0, 0, 1, 0, 0, 1, 0, 1, 0, 1, 0, 0] B36) n s H := at_loop (by kernel_rfl) rfl s H
noncomputable abbrev L36_9 : Code := cAt [1, 1, 0, 1, 0, 0, 1, 0, 0, 1, 0, 1, 0, 1, 0, 0] B36
@[simp] theorem n36_33f : firstRegion (cAt [1, 1, 0, 1, 0, 0, 1, 0, 0, 1, 0, 1, 0, 1, 0, 0] B36) = 9 := by kernel_rfl
@[simp] theorem n36_34 (s : List V) (H : Heap) : evCode P Γ call n f m (cAt [1, 1, 0, 1, 0, 0, 1, 0, 0, 1, 0, 1, 0, 1, 0, 0] B36) s H = seqNext P Γ call n f m (cAt [1, 1, 0, 1, 0, 0, 1, 0, 0, 1, 0, 1, 0, 1, 0, 0, 1] B36) (evCode P Γ call n f m (cAt [1, 1, 0, 1, 0, 0, 1, 0, 0, 1, 0, 1, 0, 1, 0, 0, 0] B36) s H) := at_seq (by kernel_rfl) rfl rfl s H
@[simp] theorem n36_35 (s : List V) (H : Heap) : evCode P Γ call n f m (cAt [1, 1, 0, 1, 0, 0, 1, 0, 0, 1, 0, 1, 0, 1, 0, 0, 0] B36) s H = seqNext P Γ call n f m (cAt [1, 1, 0, 1, 0, 0, 1, 0, 0, 1, 0, 1, 0, 1, 0, 0, 0, 1] B36) (evCode P Γ call n f m (cAt [1, 1, 0, 1, 0, 0, 1, 0, 0, 1, 0, 1, 0, 1, 0, 0, 0, 0] B36) s H) := at_seq (by kernel_rfl) rfl rfl s H
noncomputable def r36_36 : {l : List Oper // opsOf (cAt [1, 1, 0, 1, 0, 0, 1, 0, 0, 1, 0, 1, 0, 1, 0, 0, 0, 0] B36) = l} := by
  apply Subtype.mk
  dsimp only [opsOf, cAt, kids, B36, bodyOf, Tryd.f36, List.getD, List.getElem?_cons_zero, List.getElem?_cons_succ, Option.getD_some]
@[simp] theorem n36_36 (s : List V) (H : Heap) : evCode P Γ call n f m (cAt [1, 1, 0, 1, 0, 0, 1, 0, 0, 1, 0, 1, 0, 1, 0, 0, 0, 0] B36) s H = regNext (evOpsGo P Γ call r36_36.1 r36_36.1 s H) := at_region (by kernel_rfl) r36_36.2 s H
attribute [simp] r36_36
@[simp] theorem n36_37 (s : List V) (H : Heap) : evCode P Γ call n f m (cAt [1, 1, 0, 1, 0, 0, 1, 0, 0, 1, 0, 1, 0, 1, 0, 0, 0, 1] B36) s H = condW P Γ call n f m (cAt [1, 1, 0, 1, 0, 0, 1, 0, 0, 1, 0, 1, 0, 1, 0, 0, 0, 1, 0] B36) (cAt [1, 1, 0, 1, 0, 0, 1, 0, 0, 1, 0, 1, 0, 1, 0, 0, 0, 1, 1] B36) s H (evOperand Γ s (.tmp 32)) := at_cond (by kernel_rfl) (by kernel_rfl) rfl rfl s H
@[simp] theorem n36_38 (s : List V) (H : Heap) : evCode P Γ call n f m (cAt [1, 1, 0, 1, 0, 0, 1, 0, 0, 1, 0, 1, 0, 1, 0, 0, 0, 1, 0] B36) s H = some (.normal, s, H) := at_skip (by kernel_rfl) s H
@[simp] theorem n36_39 (s : List V) (H : Heap) : evCode P Γ call n f m (cAt [1, 1, 0, 1, 0, 0, 1, 0, 0, 1, 0, 1, 0, 1, 0, 0, 0, 1, 1] B36) s H = some (.exit 2, s, H) := at_exit (by kernel_rfl) s H
@[simp] theorem n36_40 (s : List V) (H : Heap) : evCode P Γ call n f m (cAt [1, 1, 0, 1, 0, 0, 1, 0, 0, 1, 0, 1, 0, 1, 0, 0, 1] B36) s H = seqNext P Γ call n f m (cAt [1, 1, 0, 1, 0, 0, 1, 0, 0, 1, 0, 1, 0, 1, 0, 0, 1, 1] B36) (evCode P Γ call n f m (cAt [1, 1, 0, 1, 0, 0, 1, 0, 0, 1, 0, 1, 0, 1, 0, 0, 1, 0] B36) s H) := at_seq (by kernel_rfl) rfl rfl s H
@[simp] theorem n36_41 (s : List V) (H : Heap) : evCode P Γ call n f m (cAt [1, 1, 0, 1, 0, 0, 1, 0, 0, 1, 0, 1, 0, 1, 0, 0, 1, 0] B36) s H = blockNext 3 (evCode P Γ call n f m (cAt [1, 1, 0, 1, 0, 0, 1, 0, 0, 1, 0, 1, 0, 1, 0, 0, 1, 0, 0] B36) s H) := at_block (by kernel_rfl) rfl s H
@[simp] theorem n36_42 (s : List V) (H : Heap) : evCode P Γ call n f m (cAt [1, 1, 0, 1, 0, 0, 1, 0, 0, 1, 0, 1, 0, 1, 0, 0, 1, 0, 0] B36) s H = seqNext P Γ call n f m (cAt [1, 1, 0, 1, 0, 0, 1, 0, 0, 1, 0, 1, 0, 1, 0, 0, 1, 0, 0, 1] B36) (evCode P Γ call n f m (cAt [1, 1, 0, 1, 0, 0, 1, 0, 0, 1, 0, 1, 0, 1, 0, 0, 1, 0, 0, 0] B36) s H) := at_seq (by kernel_rfl) rfl rfl s H
noncomputable def r36_43 : {l : List Oper // opsOf (cAt [1, 1, 0, 1, 0, 0, 1, 0, 0, 1, 0, 1, 0, 1, 0, 0, 1, 0, 0, 0] B36) = l} := by
  apply Subtype.mk
  dsimp only [opsOf, cAt, kids, B36, bodyOf, Tryd.f36, List.getD, List.getElem?_cons_zero, List.getElem?_cons_succ, Option.getD_some]
@[simp] theorem n36_43 (s : List V) (H : Heap) : evCode P Γ call n f m (cAt [1, 1, 0, 1, 0, 0, 1, 0, 0, 1, 0, 1, 0, 1, 0, 0, 1, 0, 0, 0] B36) s H = regNext (drawR P Γ call r36_43.1 [([1, 4, 5, 6, 7, 8], [36, 39, 40, 41, 42, 43]), ([0, 4, 5, 6, 7, 8], [35, 39, 40, 41, 42, 43]), ([4, 5, 6, 7, 8], [39, 40, 41, 42, 43]), ([4, 5, 6, 7, 8], [39, 40, 41, 42, 43]), ([0, 1, 2, 3, 5, 6], [35, 36, 37, 38, 40, 41]), ([0, 1, 2, 3, 4], [35, 36, 37, 38, 39]), ([0, 1, 2, 3, 4], [35, 36, 37, 38, 39]), ([0, 1, 2, 3], [35, 36, 37, 38]), ([0, 1, 2, 3], [35, 36, 37, 38]), ([], [])] s H) := at_drawT (by kernel_rfl) r36_43.2 (by kernel_rfl) s H
attribute [simp] r36_43
@[simp] theorem n36_44 (s : List V) (H : Heap) : evCode P Γ call n f m (cAt [1, 1, 0, 1, 0, 0, 1, 0, 0, 1, 0, 1, 0, 1, 0, 0, 1, 0, 0, 1] B36) s H = condW P Γ call n f m (cAt [1, 1, 0, 1, 0, 0, 1, 0, 0, 1, 0, 1, 0, 1, 0, 0, 1, 0, 0, 1, 0] B36) (cAt [1, 1, 0, 1, 0, 0, 1, 0, 0, 1, 0, 1, 0, 1, 0, 0, 1, 0, 0, 1, 1] B36) s H (evOperand Γ s (.tmp 44)) := at_cond (by kernel_rfl) (by kernel_rfl) rfl rfl s H
@[simp] theorem n36_45 (s : List V) (H : Heap) : evCode P Γ call n f m (cAt [1, 1, 0, 1, 0, 0, 1, 0, 0, 1, 0, 1, 0, 1, 0, 0, 1, 0, 0, 1, 0] B36) s H = seqNext P Γ call n f m (cAt [1, 1, 0, 1, 0, 0, 1, 0, 0, 1, 0, 1, 0, 1, 0, 0, 1, 0, 0, 1, 0, 1] B36) (evCode P Γ call n f m (cAt [1, 1, 0, 1, 0, 0, 1, 0, 0, 1, 0, 1, 0, 1, 0, 0, 1, 0, 0, 1, 0, 0] B36) s H) := at_seq (by kernel_rfl) rfl rfl s H
noncomputable def r36_46 : {l : List Oper // opsOf (cAt [1, 1, 0, 1, 0, 0, 1, 0, 0, 1, 0, 1, 0, 1, 0, 0, 1, 0, 0, 1, 0, 0] B36) = l} := by
  apply Subtype.mk
  dsimp only [opsOf, cAt, kids, B36, bodyOf, Tryd.f36, List.getD, List.getElem?_cons_zero, List.getElem?_cons_succ, Option.getD_some]
@[simp] theorem n36_46 (s : List V) (H : Heap) : evCode P Γ call n f m (cAt [1, 1, 0, 1, 0, 0, 1, 0, 0, 1, 0, 1, 0, 1, 0, 0, 1, 0, 0, 1, 0, 0] B36) s H = regNext (evOpsGo P Γ call r36_46.1 r36_46.1 s H) := at_region (by kernel_rfl) r36_46.2 s H
attribute [simp] r36_46
noncomputable def r36_47 : {l : List Oper // opsOf (cAt [1, 1, 0, 1, 0, 0, 1, 0, 0, 1, 0, 1, 0, 1, 0, 0, 1, 0, 0, 1, 0, 1] B36) = l} := by
  apply Subtype.mk
  dsimp only [opsOf, cAt, kids, B36, bodyOf, Tryd.f36, List.getD, List.getElem?_cons_zero, List.getElem?_cons_succ, Option.getD_some]
@[simp] theorem n36_47 (s : List V) (H : Heap) : evCode P Γ call n f m (cAt [1, 1, 0, 1, 0, 0, 1, 0, 0, 1, 0, 1, 0, 1, 0, 0, 1, 0, 0, 1, 0, 1] B36) s H = regNext (evOpsGo P Γ call r36_47.1 r36_47.1 s H) := at_region (by kernel_rfl) r36_47.2 s H
attribute [simp] r36_47
@[simp] theorem n36_48 (s : List V) (H : Heap) : evCode P Γ call n f m (cAt [1, 1, 0, 1, 0, 0, 1, 0, 0, 1, 0, 1, 0, 1, 0, 0, 1, 0, 0, 1, 1] B36) s H = some (.normal, s, H) := at_skip (by kernel_rfl) s H
noncomputable def r36_49 : {l : List Oper // opsOf (cAt [1, 1, 0, 1, 0, 0, 1, 0, 0, 1, 0, 1, 0, 1, 0, 0, 1, 1] B36) = l} := by
  apply Subtype.mk
  dsimp only [opsOf, cAt, kids, B36, bodyOf, Tryd.f36, List.getD, List.getElem?_cons_zero, List.getElem?_cons_succ, Option.getD_some]
@[simp] theorem n36_49 (s : List V) (H : Heap) : evCode P Γ call n f m (cAt [1, 1, 0, 1, 0, 0, 1, 0, 0, 1, 0, 1, 0, 1, 0, 0, 1, 1] B36) s H = regNext (evOpsGo P Γ call r36_49.1 r36_49.1 s H) := at_region (by kernel_rfl) r36_49.2 s H
attribute [simp] r36_49
@[simp] theorem n36_50 (s : List V) (H : Heap) : evCode P Γ call n f m (cAt [1, 1, 0, 1, 0, 0, 1, 0, 0, 1, 0, 1, 1] B36) s H = seqNext P Γ call n f m (cAt [1, 1, 0, 1, 0, 0, 1, 0, 0, 1, 0, 1, 1, 1] B36) (evCode P Γ call n f m (cAt [1, 1, 0, 1, 0, 0, 1, 0, 0, 1, 0, 1, 1, 0] B36) s H) := at_seq (by kernel_rfl) rfl rfl s H
noncomputable def r36_51 : {l : List Oper // opsOf (cAt [1, 1, 0, 1, 0, 0, 1, 0, 0, 1, 0, 1, 1, 0] B36) = l} := by
  apply Subtype.mk
  dsimp only [opsOf, cAt, kids, B36, bodyOf, Tryd.f36, List.getD, List.getElem?_cons_zero, List.getElem?_cons_succ, Option.getD_some]
@[simp] theorem n36_51 (s : List V) (H : Heap) : evCode P Γ call n f m (cAt [1, 1, 0, 1, 0, 0, 1, 0, 0, 1, 0, 1, 1, 0] B36) s H = regNext (evOpsGo P Γ call r36_51.1 r36_51.1 s H) := at_region (by kernel_rfl) r36_51.2 s H
attribute [simp] r36_51
@[simp] theorem n36_52 (s : List V) (H : Heap) : evCode P Γ call n f m (cAt [1, 1, 0, 1, 0, 0, 1, 0, 0, 1, 0, 1, 1, 1] B36) s H = seqNext P Γ call n f m (cAt [1, 1, 0, 1, 0, 0, 1, 0, 0, 1, 0, 1, 1, 1, 1] B36) (evCode P Γ call n f m (cAt [1, 1, 0, 1, 0, 0, 1, 0, 0, 1, 0, 1, 1, 1, 0] B36) s H) := at_seq (by kernel_rfl) rfl rfl s H
noncomputable def r36_53 : {l : List Oper // opsOf (cAt [1, 1, 0, 1, 0, 0, 1, 0, 0, 1, 0, 1, 1, 1, 0] B36) = l} := by
  apply Subtype.mk
  dsimp only [opsOf, cAt, kids, B36, bodyOf, Tryd.f36, List.getD, List.getElem?_cons_zero, List.getElem?_cons_succ, Option.getD_some]
@[simp] theorem n36_53 (s : List V) (H : Heap) : evCode P Γ call n f m (cAt [1, 1, 0, 1, 0, 0, 1, 0, 0, 1, 0, 1, 1, 1, 0] B36) s H = regNext (evOpsGo P Γ call r36_53.1 r36_53.1 s H) := at_region (by kernel_rfl) r36_53.2 s H
attribute [simp] r36_53
@[simp] theorem n36_54 (s : List V) (H : Heap) : evCode P Γ call n f m (cAt [1, 1, 0, 1, 0, 0, 1, 0, 0, 1, 0, 1, 1, 1, 1] B36) s H = some (.ret, s, H) := at_ret (by kernel_rfl) s H
@[simp] theorem n36_55 (s : List V) (H : Heap) : evCode P Γ call n f m (cAt [1, 1, 0, 1, 0, 0, 1, 0, 0, 1, 1] B36) s H = some (.normal, s, H) := at_skip (by kernel_rfl) s H
noncomputable def r36_56 : {l : List Oper // opsOf (cAt [1, 1, 0, 1, 0, 0, 1, 1] B36) = l} := by
  apply Subtype.mk
  dsimp only [opsOf, cAt, kids, B36, bodyOf, Tryd.f36, List.getD, List.getElem?_cons_zero, List.getElem?_cons_succ, Option.getD_some]
@[simp] theorem n36_56 (s : List V) (H : Heap) : evCode P Γ call n f m (cAt [1, 1, 0, 1, 0, 0, 1, 1] B36) s H = regNext (evOpsGo P Γ call r36_56.1 r36_56.1 s H) := at_region (by kernel_rfl) r36_56.2 s H
attribute [simp] r36_56
@[simp] theorem n36_57 (s : List V) (H : Heap) : evCode P Γ call n f m (cAt [1, 1, 1] B36) s H = seqNext P Γ call n f m (cAt [1, 1, 1, 1] B36) (evCode P Γ call n f m (cAt [1, 1, 1, 0] B36) s H) := at_seq (by kernel_rfl) rfl rfl s H
noncomputable def r36_58 : {l : List Oper // opsOf (cAt [1, 1, 1, 0] B36) = l} := by
  apply Subtype.mk
  dsimp only [opsOf, cAt, kids, B36, bodyOf, Tryd.f36, List.getD, List.getElem?_cons_zero, List.getElem?_cons_succ, Option.getD_some]
@[simp] theorem n36_58 (s : List V) (H : Heap) : evCode P Γ call n f m (cAt [1, 1, 1, 0] B36) s H = regNext (evOpsGo P Γ call r36_58.1 r36_58.1 s H) := at_region (by kernel_rfl) r36_58.2 s H
attribute [simp] r36_58
@[simp] theorem n36_59 (s : List V) (H : Heap) : evCode P Γ call n f m (cAt [1, 1, 1, 1] B36) s H = some (.ret, s, H) := at_ret (by kernel_rfl) s H
theorem b36 {k : Nat} (ho : ∀ args H, Γ.orc 36 args H = none) (args : List V) (H : Heap) (ha : args.length ≤ 61) : evF Tryd.prog Γ (k + 1) 36 args H = bodyEnd Tryd.prog [.tmp 2] H.length (evCode Tryd.prog Γ (evF Tryd.prog Γ k) k 36 H.length (cAt [] B36) (mkL 61 V.undef (enumV 0 args)) H) := body_at Tryd.func36 (by decide) rfl ho rfl rfl args H ha
noncomputable def B32 : Code := bodyOf Tryd.f32
@[simp] theorem n32_1 (s : List V) (H : Heap) : evCode P Γ call n f m (cAt [] B32) s H = seqNext P Γ call n f m (cAt [1] B32) (evCode P Γ call n f m (cAt [0] B32) s H) := at_seq (by kernel_rfl) rfl rfl s H
noncomputable def r32_2 : {l : List Oper // opsOf (cAt [0] B32) = l} := by
  apply Subtype.mk
  dsimp only [opsOf, cAt, kids, B32, bodyOf, Tryd.f32, List.getD, List.getElem?_cons_zero, List.getElem?_cons_succ, Option.getD_some]
@[simp] theorem n32_2 (s : List V) (H : Heap) : evCode P Γ call n f m (cAt [0] B32) s H = regNext (evOpsGo P Γ call r32_2.1 r32_2.1 s H) := at_region (by kernel_rfl) r32_2.2 s H
attribute [simp] r32_2
@[simp] theorem n32_3 (s : List V) (H : Heap) : evCode P Γ call n f m (cAt [1] B32) s H = seqNext P Γ call n f m (cAt [1, 1] B32) (evCode P Γ call n f m (cAt [1, 0] B32) s H) := at_seq (by kernel_rfl) rfl rfl s H
@[simp] theorem n32_4 (s : List V) (H : Heap) : evCode P Γ call n f m (cAt [1, 0] B32) s H = seqNext P Γ call n f m (cAt [1, 0, 1] B32) (evCode P Γ call n f m (cAt [1, 0, 0] B32) s H) := at_seq (by kernel_rfl) rfl rfl s H
noncomputable def r32_5 : {l : List Oper // opsOf (cAt [1, 0, 0] B32) = l} := by
  apply Subtype.mk
  dsimp only [opsOf, cAt, kids, B32, bodyOf, Tryd.f32, List.getD, List.getElem?_cons_zero, List.getElem?_cons_succ, Option.getD_some]
@[simp] theorem n32_5 (s : List V) (H : Heap) : evCode P Γ call n f m (cAt [1, 0, 0] B32) s H = regNext (evOpsGo P Γ call r32_5.1 r32_5.1 s H) := at_region (by kernel_rfl) r32_5.2 s H
attribute [simp] r32_5
@[simp] theorem n32_6 (s : List V) (H : Heap) : evCode P Γ call n f m (cAt [1, 0, 1] B32) s H = condW P Γ call n f m (cAt [1, 0, 1, 0] B32) (cAt [1, 0, 1, 1] B32) s H (evOperand Γ s (.tmp 21)) := at_cond (by kernel_rfl) (by kernel_rfl) rfl rfl s H
@[simp] theorem n32_7 (s : List V) (H : Heap) : evCode P Γ call n f m (cAt [1, 0, 1, 0] B32) s H = seqNext P Γ call n f m (cAt [1, 0, 1, 0, 1] B32) (evCode P Γ call n f m (cAt [1, 0, 1, 0, 0] B32) s H) := at_seq (by kernel_rfl) rfl rfl s H
noncomputable def r32_8 : {l : List Oper // opsOf (cAt [1, 0, 1, 0, 0] B32) = l} := by
  apply Subtype.mk
  dsimp only [opsOf, cAt, kids, B32, bodyOf, Tryd.f32, List.getD, List.getElem?_cons_zero, List.getElem?_cons_succ, Option.getD_some]
@[simp] theorem n32_8 (s : List V) (H : Heap) : evCode P Γ call n f m (cAt [1, 0, 1, 0, 0] B32) s H = regNext (evOpsGo P Γ call r32_8.1 r32_8.1 s H) := at_region (by kernel_rfl) r32_8.2 s H
attribute [simp] r32_8
@[simp] theorem n32_9 (s : List V) (H : Heap) : evCode P Γ call n f m (cAt [1, 0, 1, 0, 1] B32) s H = some (.ret, s, H) := at_ret (by kernel_rfl) s H
@[simp] theorem n32_10 (s : List V) (H : Heap) : evCode P Γ call n f m (cAt [1, 0, 1, 1] B32) s H = some (.normal, s, H) := at_skip (by kernel_rfl) s H
@[simp] theorem n32_11 (s : List V) (H : Heap) : evCode P Γ call n f m (cAt [1, 1] B32) s H = seqNext P Γ call n f m (cAt [1, 1, 1] B32) (evCode P Γ call n f m (cAt [1, 1, 0] B32) s H) := at_seq (by kernel_rfl) rfl rfl s H
@[simp] theorem n32_12 (s : List V) (H : Heap) : evCode P Γ call n f m (cAt [1, 1, 0] B32) s H = seqNext P Γ call n f m (cAt [1, 1, 0, 1] B32) (evCode P Γ call n f m (cAt [1, 1, 0, 0] B32) s H) := at_seq (by kernel_rfl) rfl rfl s H
noncomputable def r32_13 : {l : List Oper // opsOf (cAt [1, 1, 0, 0] B32) = l} := by
  apply Subtype.mk
  dsimp only [opsOf, cAt, kids, B32, bodyOf, Tryd.f32, List.getD, List.getElem?_cons_zero, List.getElem?_cons_succ, Option.getD_some]
@[simp] theorem n32_13 (s : List V) (H : Heap) : evCode P Γ call n f m (cAt [1, 1, 0, 0] B32) s H = regNext (evOpsGo P Γ call r32_13.1 r32_13.1 s H) := at_region (by kernel_rfl) r32_13.2 s H
attribute [simp] r32_13
@[simp] theorem n32_14 (s : List V) (H : Heap) : evCode P Γ call n f m (cAt [1, 1, 0, 1] B32) s H = blockNext 0 (evCode P Γ call n f m (cAt [1, 1, 0, 1, 0] B32) s H) := at_block (by kernel_rfl) rfl s H
@[simp] theorem n32_15 (s : List V) (H : Heap) : evCode P Γ call n f m (cAt [1, 1, 0, 1, 0] B32) s H = evLoopC P Γ call n f m (cAt [1, 1, 0, 1, 0, 0] B32) n s H := at_loop (by kernel_rfl) rfl s H
noncomputable abbrev L32_4 : Code := cAt [1, 1, 0, 1, 0, 0] B32
@[simp] theorem n32_15f : firstRegion (cAt [1, 1, 0, 1, 0, 0] B32) = 4 := by kernel_rfl
@[simp] theorem n32_16 (s : List V) (H : Heap) : evCode P Γ call n f m (cAt [1, 1, 0, 1, 0, 0] B32) s H = seqNext P Γ call n f m (cAt [1, 1, 0, 1, 0, 0, 1] B32) (evCode P Γ call n f m (cAt [1, 1, 0, 1, 0, 0, 0] B32) s H) := at_seq (by kernel_rfl) rfl rfl s H
noncomputable def r32_17 : {l : List Oper // opsOf (cAt [1, 1, 0, 1, 0, 0, 0] B32) = l} := by
  apply Subtype.mk
  dsimp only [opsOf, cAt, kids, B32, bodyOf, Tryd.f32, List.getD, List.getElem?_cons_zero, List.getElem?_cons_succ, Option.getD_some]
@[simp] theorem n32_17 (s : List V) (H : Heap) : evCode P Γ call n f m (cAt [1, 1, 0, 1, 0, 0, 0] B32) s H = regNext (evOpsGo P Γ call r32_17.1 r32_17.1 s H) := at_region (by kernel_rfl) r32_17.2 s H
attribute [simp] r32_17
@[simp] theorem n32_18 (s : List V) (H : Heap) : evCode P Γ call n f m (cAt [1, 1, 0, 1, 0, 0, 1] B32) s H = seqNext P Γ call n f m (cAt [1, 1, 0, 1, 0, 0, 1, 1] B32) (evCode P Γ call n f m (cAt [1, 1, 0, 1, 0, 0, 1, 0] B32) s H) := at_seq (by kernel_rfl) rfl rfl s H
@[simp] theorem n32_19 (s : List V) (H : Heap) : evCode P Γ call n f m (cAt [1, 1, 0, 1, 0, 0, 1, 0] B32) s H = condW P Γ call n f m (cAt [1, 1, 0, 1, 0, 0, 1, 0, 0] B32) (cAt [1, 1, 0, 1, 0, 0, 1, 0, 1] B32) s H (evOperand Γ s (.tmp 25)) := at_cond (by kernel_rfl) (by kernel_rfl) rfl rfl s H
@[simp] theorem n32_20 (s : List V) (H : Heap) : evCode P Γ call n f m (cAt [1, 1, 0, 1, 0, 0, 1, 0, 0] B32) s H = some (.normal, s, H) := at_skip (by kernel_rfl) s H
@[simp] theorem n32_21 (s : List V) (H : Heap) : evCode P Γ call n f m (cAt [1, 1, 0, 1, 0, 0, 1, 0, 1] B32) s H = some (.exit 0, s, H) := at_exit (by kernel_rfl) s H
@[simp] theorem n32_22 (s : List V) (H : Heap) : evCode P Γ call n f m (cAt [1, 1, 0, 1, 0, 0, 1, 1] B32) s H = seqNext P Γ call n f m (cAt [1, 1, 0, 1, 0, 0, 1, 1, 1] B32) (evCode P Γ call n f m (cAt [1, 1, 0, 1, 0, 0, 1, 1, 0] B32) s H) := at_seq (by kernel_rfl) rfl rfl s H
@[simp] theorem n32_23 (s : List V) (H : Heap) : evCode P Γ call n f m (cAt [1, 1, 0, 1, 0, 0, 1, 1, 0] B32) s H = blockNext 1 (evCode P Γ call n f m (cAt [1, 1, 0, 1, 0, 0, 1, 1, 0, 0] B32) s H) := at_block (by kernel_rfl) rfl s H
@[simp] theorem n32_24 (s : List V) (H : Heap) : evCode P Γ call n f m (cAt [1, 1, 0, 1, 0, 0, 1, 1, 0, 0] B32) s H = seqNext P Γ call n f m (cAt [1, 1, 0, 1, 0, 0, 1, 1, 0, 0, 1] B32) (evCode P Γ call n f m (cAt [1, 1, 0, 1, 0, 0, 1, 1, 0, 0, 0] B32) s H) := at_seq (by kernel_rfl) rfl rfl s H
noncomputable def r32_25 : {l : List Oper // opsOf (cAt [1, 1, 0, 1, 0, 0, 1, 1, 0, 0, 0] B32) = l} := by
  apply Subtype.mk
  dsimp only [opsOf, cAt, kids, B32, bodyOf, Tryd.f32, List.getD, List.getElem?_cons_zero, List.getElem?_cons_succ, Option.getD_some]
@[simp] theorem n32_25 (s : List V) (H : Heap) : evCode P Γ call n f m (cAt [1, 1, 0, 1, 0, 0, 1, 1, 0, 0, 0] B32) s H = regNext (evOpsGo P Γ call r32_25.1 r32_25.1 s H) := at_region (by kernel_rfl) r32_25.2 s H
attribute [simp] r32_25
@[simp] theorem n32_26 (s : List V) (H : Heap) : evCode P Γ call n f m (cAt [1, 1, 0, 1, 0, 0, 1, 1, 0, 0, 1] B32) s H = seqNext P Γ call n f m (cAt [1, 1, 0, 1, 0, 0, 1, 1, 0, 0, 1, 1] B32) (evCode P Γ call n f m (cAt [1, 1, 0, 1, 0, 0, 1, 1, 0, 0, 1, 0] B32) s H) := at_seq (by kernel_rfl) rfl rfl s H
noncomputable def r32_27 : {l : List Oper // opsOf (cAt [1, 1, 0, 1, 0, 0, 1, 1, 0, 0, 1, 0] B32) = l} := by
  apply Subtype.mk
  dsimp only [opsOf, cAt, kids, B32, bodyOf, Tryd.f32, List.getD, List.getElem?_cons_zero, List.getElem?_cons_succ, Option.getD_some]
@[simp] theorem n32_27 (s : List V) (H : Heap) : evCode P Γ call n f m (cAt [1, 1, 0, 1, 0, 0, 1, 1, 0, 0, 1, 0] B32) s H = regNext (evOpsGo P Γ call r32_27.1 r32_27.1 s H) := at_region (by kernel_rfl) r32_27.2 s H
attribute [simp] r32_27
@[simp] theorem n32_28 (s : List V) (H : Heap) : evCode P Γ call n f m (cAt [1, 1, 0, 1, 0, 0, 1, 1, 0, 0, 1, 1] B32) s H = seqNext P Γ call n f m (cAt [1, 1, 0, 1, 0, 0, 1, 1, 0, 0, 1, 1, 1] B32) (evCode P Γ call n f m (cAt [1, 1, 0, 1, 0, 0, 1, 1, 0, 0, 1, 1, 0] B32) s H) := at_seq (by kernel_rfl) rfl rfl s H
noncomputable def r32_29 : {l : List Oper // opsOf (cAt [1, 1, 0, 1, 0, 0, 1, 1, 0, 0, 1, 1, 0] B32) = l} := by
  apply Subtype.mk
  dsimp only [opsOf, cAt, kids, B32, bodyOf, Tryd.f32, List.getD, List.getElem?_cons_zero, List.getElem?_cons_succ, Option.getD_some]
@[simp] theorem n32_29 (s : List V) (H : Heap) : evCode P Γ call n f m (cAt [1, 1, 0, 1, 0, 0, 1, 1, 0, 0, 1, 1, 0] B32) s H = regNext (evOpsGo P Γ call r32_29.1 r32_29.1 s H) := at_region (by kernel_rfl) r32_29.2 s H
attribute [simp] r32_29
@[simp] theorem n32_30 (s : List V) (H : Heap) : evCode P Γ call n f m (cAt [1, 1, 0, 1, 0, 0, 1, 1, 0, 0, 1, 1, 1] B32) s H = condW P Γ call n f m (cAt [1, 1, 0, 1, 0, 0, 1, 1, 0, 0, 1, 1, 1, 0] B32) (cAt [1, 1, 0, 1, 0, 0, 1, 1, 0, 0, 1, 1, 1, 1] B32) s H (evOperand Γ s (.tmp 47)) := at_cond (by kernel_rfl) (by kernel_rfl) rfl rfl s H
@[simp] theorem n32_31 (s : List V) (H : Heap) : evCode P Γ call n f m (cAt [1, 1, 0, 1, 0, 0, 1, 1, 0, 0, 1, 1, 1, 0] B32) s H = seqNext P Γ call n f m (cAt [1, 1, 0, 1, 0, 0, 1, 1, 0, 0, 1, 1, 1, 0, 1] B32) (evCode P Γ call n f m (cAt [1, 1, 0, 1, 0, 0, 1, 1, 0, 0, 1, 1, 1, 0, 0] B32) s H) := at_seq (by kernel_rfl) rfl rfl s H
noncomputable def r32_32 : {l : List Oper // opsOf (cAt [1, 1, 0, 1, 0, 0, 1, 1, 0, 0, 1, 1, 1, 0, 0] B32) = l} := by
  apply Subtype.mk
  dsimp only [opsOf, cAt, kids, B32, bodyOf, Tryd.f32, List.getD, List.getElem?_cons_zero, List.getElem?_cons_succ, Option.getD_some]
@[simp] theorem n32_32 (s : List V) (H : Heap) : evCode P Γ call n f m (cAt [1, 1, 0, 1, 0, 0, 1, 1, 0, 0, 1, 1, 1, 0, 0] B32) s H = regNext (evOpsGo P Γ call r32_32.1 r32_32.1 s H) := at_region (by kernel_rfl) r32_32.2 s H
attribute [simp] r32_32
@[simp] theorem n32_33 (s : List V) (H : Heap) : evCode P Γ call n f m (cAt [1, 1, 0, 1, 0, 0, 1, 1, 0, 0, 1, 1, 1, 0, 1] B32) s H = some (.ret, s, H) := at_ret (by kernel_rfl) s H
@[simp] theorem n32_34 (s : List V) (H : Heap) : evCode P Γ call n f m (cAt [1, 1, 0, 1, 0, 0, 1, 1, 0, 0, 1, 1, 1, 1] B32) s H = some (.normal, s, H) := at_skip (by kernel_rfl) s H
noncomputable def r32_35 : {l : List Oper // opsOf (cAt [1, 1, 0, 1, 0, 0, 1, 1, 1] B32) = l} := by
  apply Subtype.mk
  dsimp only [opsOf, cAt, kids, B32, bodyOf, Tryd.f32, List.getD, List.getElem?_cons_zero, List.getElem?_cons_succ, Option.getD_some]
@[simp] theorem n32_35 (s : List V) (H : Heap) : evCode P Γ call n f m (cAt [1, 1, 0, 1, 0, 0, 1, 1, 1] B32) s H = regNext (evOpsGo P Γ call r32_35.1 r32_35.1 s H) := at_region (by kernel_rfl) r32_35.2 s H
attribute [simp] r32_35
@[simp] theorem n32_36 (s : List V) (H : Heap) : evCode P Γ call n f m (cAt [1, 1, 1] B32) s H = seqNext P Γ call n f m (cAt [1, 1, 1, 1] B32) (evCode P Γ call n f m (cAt [1, 1, 1, 0] B32) s H) := at_seq (by kernel_rfl) rfl rfl s H
noncomputable def r32_37 : {l : List Oper // opsOf (cAt [1, 1, 1, 0] B32) = l} := by
  apply Subtype.mk
  dsimp only [opsOf, cAt, kids, B32, bodyOf, Tryd.f32, List.getD, List.getElem?_cons_zero, List.getElem?_cons_succ, Option.getD_some]
@[simp] theorem n32_37 (s : List V) (H : Heap) : evCode P Γ call n f m (cAt [1, 1, 1, 0] B32) s H = regNext (evOpsGo P Γ call r32_37.1 r32_37.1 s H) := at_region (by kernel_rfl) r32_37.2 s H
attribute [simp] r32_37
@[simp] theorem n32_38 (s : List V) (H : Heap) : evCode P Γ call n f m (cAt [1, 1, 1, 1] B32) s H = some (.ret, s, H) := at_ret (by kernel_rfl) s H
theorem b32 {k : Nat} (ho : ∀ args H, Γ.orc 32 args H = none) (args : List V) (H : Heap) (ha : args.length ≤ 49) : evF Tryd.prog Γ (k + 1) 32 args H = bodyEnd Tryd.prog [.tmp 2] H.length (evCode Tryd.prog Γ (evF Tryd.prog Γ k) k 32 H.length (cAt [] B32) (mkL 49 V.undef (enumV 0 args)) H) := body_at Tryd.func32 (by decide) rfl ho rfl rfl args H ha
noncomputable def B38 : Code := bodyOf Tryd.f38
@[simp] theorem n38_1 (s : List V) (H : Heap) : evCode P Γ call n f m (cAt [] B38) s H = seqNext P Γ call n f m (cAt [1] B38) (evCode P Γ call n f m (cAt [0] B38) s H) := at_seq (by kernel_rfl) rfl rfl s H
noncomputable def r38_2 : {l : List Oper // opsOf (cAt [0] B38) = l} := by
  apply Subtype.mk
  dsimp only [opsOf, cAt, kids, B38, bodyOf, Tryd.f38, List.getD, List.getElem?_cons_zero, List.getElem?_cons_succ, Option.getD_some]
@[simp] theorem n38_2 (s : List V) (H : Heap) : evCode P Γ call n f m (cAt [0] B38) s H = regNext (evOpsGo P Γ call r38_2.1 r38_2.1 s H) := at_region (by kernel_rfl) r38_2.2 s H
attribute [simp] r38_2
@[simp] theorem n38_3 (s : List V) (H : Heap) : evCode P Γ call n f m (cAt [1] B38) s H = seqNext P Γ call n f m (cAt [1, 1] B38) (evCode P Γ call n f m (cAt [1, 0] B38) s H) := at_seq (by kernel_rfl) rfl rfl s H
noncomputable def r38_4 : {l : List Oper // opsOf (cAt [1, 0] B38) = l} := by
  apply Subtype.mk
  dsimp only [opsOf, cAt, kids, B38, bodyOf, Tryd.f38, List.getD, List.getElem?_cons_zero, List.getElem?_cons_succ, Option.getD_some]
@[simp] theorem n38_4 (s : List V) (H : Heap) : evCode P Γ call n f m (cAt [1, 0] B38) s H = regNext (evOpsGo P Γ call r38_4.1 r38_4.1 s H) := at_region (by kernel_rfl) r38_4.2 s H
attribute [simp] r38_4
@[simp] theorem n38_5 (s : List V) (H : Heap) : evCode P Γ call n f m (cAt [1, 1] B38) s H = some (.ret, s, H) := at_ret (by kernel_rfl) s H
theorem b38 {k : Nat} (ho : ∀ args H, Γ.orc 38 args H = none) (args : List V) (H : Heap) (ha : args.length ≤ 17) : evF Tryd.prog Γ (k + 1) 38 args H = bodyEnd Tryd.prog [.tmp 4] H.length (evCode Tryd.prog Γ (evF Tryd.prog Γ k) k 38 H.length (cAt [] B38) (mkL 17 V.undef (enumV 0 args)) H) := body_at Tryd.func38 (by decide) rfl ho rfl rfl args H ha
noncomputable def B45 : Code := bodyOf Tryd.f45
@[simp] theorem n45_1 (s : List V) (H : Heap) : evCode P Γ call n f m (cAt [] B45) s H = seqNext P Γ call n f m (cAt [1] B45) (evCode P Γ call n f m (cAt [0] B45) s H) := at_seq (by kernel_rfl) rfl rfl s H
noncomputable def r45_2 : {l : List Oper // opsOf (cAt [0] B45) = l} := by
  apply Subtype.mk
  dsimp only [opsOf, cAt, kids, B45, bodyOf, Tryd.f45, List.getD, List.getElem?_cons_zero, List.getElem?_cons_succ, Option.getD_some]
@[simp] theorem n45_2 (s : List V) (H : Heap) : evCode P Γ call n f m (cAt [0] B45) s H = regNext (evOpsGo P Γ call r45_2.1 r45_2.1 s H) := at_region (by kernel_rfl) r45_2.2 s H
attribute [simp] r45_2
@[simp] theorem n45_3 (s : List V) (H : Heap) : evCode P Γ call n f m (cAt [1] B45) s H = seqNext P Γ call n f m (cAt [1, 1] B45) (evCode P Γ call n f m (cAt [1, 0] B45) s H) := at_seq (by kernel_rfl) rfl rfl s H
noncomputable def r45_4 : {l : List Oper // opsOf (cAt [1, 0] B45) = l} := by
  apply Subtype.mk
  dsimp only [opsOf, cAt, kids, B45, bodyOf, Tryd.f45, List.getD, List.getElem?_cons_zero, List.getElem?_cons_succ, Option.getD_some]
@[simp] theorem n45_4 (s : List V) (H : Heap) : evCode P Γ call n f m (cAt [1, 0] B45) s H = regNext (evOpsGo P Γ call r45_4.1 r45_4.1 s H) := at_region (by kernel_rfl) r45_4.2 s H
attribute [simp] r45_4
@[simp] theorem n45_5 (s : List V) (H : Heap) : evCode P Γ call n f m (cAt [1, 1] B45) s H = some (.ret, s, H) := at_ret (by kernel_rfl) s H
theorem b45 {k : Nat} (ho : ∀ args H, Γ.orc 45 args H = none) (args : List V) (H : Heap) (ha : args.length ≤ 6) : evF Tryd.prog Γ (k + 1) 45 args H = bodyEnd Tryd.prog [.tmp 2] H.length (evCode Tryd.prog Γ (evF Tryd.prog Γ k) k 45 H.length (cAt [] B45) (mkL 6 V.undef (enumV 0 args)) H) := body_at Tryd.func45 (by decide) rfl ho rfl rfl args H ha
end
end Go.Ev.Tryd
