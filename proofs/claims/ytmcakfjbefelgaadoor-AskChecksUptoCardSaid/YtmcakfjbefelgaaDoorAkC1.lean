/-
  CODE BY NAMES, printed by wip/tools/codes.py (own work).
-/
import Derived.Test.YtmcakfjbefelgaaDoorAkG
set_option maxRecDepth 100000
set_option linter.unusedVariables false
namespace Go.Ev.Tryd
open Go Go.Ev Go.Proofs
section
variable {P : Program} {Γ : Env} {call : CallF} {n f m : Nat}

noncomputable def B3 : Code := bodyOf Tryd.f3
@[simp] theorem n3_1 (s : List V) (H : Heap) : evCode P Γ call n f m (cAt [] B3) s H = seqNext P Γ call n f m (cAt [1] B3) (evCode P Γ call n f m (cAt [0] B3) s H) := at_seq (by kernel_rfl) rfl rfl s H
noncomputable def r3_2 : {l : List Oper // opsOf (cAt [0] B3) = l} := by
  apply Subtype.mk
  dsimp only [opsOf, cAt, kids, B3, bodyOf, Tryd.f3, List.getD, List.getElem?_cons_zero, List.getElem?_cons_succ, Option.getD_some]
@[simp] theorem n3_2 (s : List V) (H : Heap) : evCode P Γ call n f m (cAt [0] B3) s H = regNext (evOpsGo P Γ call r3_2.1 r3_2.1 s H) := at_region (by kernel_rfl) r3_2.2 s H
attribute [simp] r3_2
@[simp] theorem n3_3 (s : List V) (H : Heap) : evCode P Γ call n f m (cAt [1] B3) s H = seqNext P Γ call n f m (cAt [1, 1] B3) (evCode P Γ call n f m (cAt [1, 0] B3) s H) := at_seq (by kernel_rfl) rfl rfl s H
@[simp] theorem n3_4 (s : List V) (H : Heap) : evCode P Γ call n f m (cAt [1, 0] B3) s H = seqNext P Γ call n f m (cAt [1, 0, 1] B3) (evCode P Γ call n f m (cAt [1, 0, 0] B3) s H) := at_seq (by kernel_rfl) rfl rfl s H
noncomputable def r3_5 : {l : List Oper // opsOf (cAt [1, 0, 0] B3) = l} := by
  apply Subtype.mk
  dsimp only [opsOf, cAt, kids, B3, bodyOf, Tryd.f3, List.getD, List.getElem?_cons_zero, List.getElem?_cons_succ, Option.getD_some]
@[simp] theorem n3_5 (s : List V) (H : Heap) : evCode P Γ call n f m (cAt [1, 0, 0] B3) s H = regNext (evOpsGo P Γ call r3_5.1 r3_5.1 s H) := at_region (by kernel_rfl) r3_5.2 s H
attribute [simp] r3_5
@[simp] theorem n3_6 (s : List V) (H : Heap) : evCode P Γ call n f m (cAt [1, 0, 1] B3) s H = blockNext 0 (evCode P Γ call n f m (cAt [1, 0, 1, 0] B3) s H) := at_block (by kernel_rfl) rfl s H
@[simp] theorem n3_7 (s : List V) (H : Heap) : evCode P Γ call n f m (cAt [1, 0, 1, 0] B3) s H = evLoopC P Γ call n f m (cAt [1, 0, 1, 0, 0] B3) n s H := at_loop (by kernel_rfl) rfl s H
noncomputable abbrev L3_2 : Code := cAt [1, 0, 1, 0, 0] B3
@[simp] theorem n3_7f : firstRegion (cAt [1, 0, 1, 0, 0] B3) = 2 := by kernel_rfl
@[simp] theorem n3_8 (s : List V) (H : Heap) : evCode P Γ call n f m (cAt [1, 0, 1, 0, 0] B3) s H = seqNext P Γ call n f m (cAt [1, 0, 1, 0, 0, 1] B3) (evCode P Γ call n f m (cAt [1, 0, 1, 0, 0, 0] B3) s H) := at_seq (by kernel_rfl) rfl rfl s H
noncomputable def r3_9 : {l : List Oper // opsOf (cAt [1, 0, 1, 0, 0, 0] B3) = l} := by
  apply Subtype.mk
  dsimp only [opsOf, cAt, kids, B3, bodyOf, Tryd.f3, List.getD, List.getElem?_cons_zero, List.getElem?_cons_succ, Option.getD_some]
@[simp] theorem n3_9 (s : List V) (H : Heap) : evCode P Γ call n f m (cAt [1, 0, 1, 0, 0, 0] B3) s H = regNext (evOpsGo P Γ call r3_9.1 r3_9.1 s H) := at_region (by kernel_rfl) r3_9.2 s H
attribute [simp] r3_9
@[simp] theorem n3_10 (s : List V) (H : Heap) : evCode P Γ call n f m (cAt [1, 0, 1, 0, 0, 1] B3) s H = seqNext P Γ call n f m (cAt [1, 0, 1, 0, 0, 1, 1] B3) (evCode P Γ call n f m (cAt [1, 0, 1, 0, 0, 1, 0] B3) s H) := at_seq (by kernel_rfl) rfl rfl s H
@[simp] theorem n3_11 (s : List V) (H : Heap) : evCode P Γ call n f m (cAt [1, 0, 1, 0, 0, 1, 0] B3) s H = condW P Γ call n f m (cAt [1, 0, 1, 0, 0, 1, 0, 0] B3) (cAt [1, 0, 1, 0, 0, 1, 0, 1] B3) s H (evOperand Γ s (.tmp 12)) := at_cond (by kernel_rfl) (by kernel_rfl) rfl rfl s H
@[simp] theorem n3_12 (s : List V) (H : Heap) : evCode P Γ call n f m (cAt [1, 0, 1, 0, 0, 1, 0, 0] B3) s H = some (.normal, s, H) := at_skip (by kernel_rfl) s H
@[simp] theorem n3_13 (s : List V) (H : Heap) : evCode P Γ call n f m (cAt [1, 0, 1, 0, 0, 1, 0, 1] B3) s H = some (.exit 0, s, H) := at_exit (by kernel_rfl) s H
@[simp] theorem n3_14 (s : List V) (H : Heap) : evCode P Γ call n f m (cAt [1, 0, 1, 0, 0, 1, 1] B3) s H = seqNext P Γ call n f m (cAt [1, 0, 1, 0, 0, 1, 1, 1] B3) (evCode P Γ call n f m (cAt [1, 0, 1, 0, 0, 1, 1, 0] B3) s H) := at_seq (by kernel_rfl) rfl rfl s H
@[simp] theorem n3_15 (s : List V) (H : Heap) : evCode P Γ call n f m (cAt [1, 0, 1, 0, 0, 1, 1, 0] B3) s H = blockNext 1 (evCode P Γ call n f m (cAt [1, 0, 1, 0, 0, 1, 1, 0, 0] B3) s H) := at_block (by kernel_rfl) rfl s H
@[simp] theorem n3_16 (s : List V) (H : Heap) : evCode P Γ call n f m (cAt [1, 0, 1, 0, 0, 1, 1, 0, 0] B3) s H = seqNext P Γ call n f m (cAt [1, 0, 1, 0, 0, 1, 1, 0, 0, 1] B3) (evCode P Γ call n f m (cAt [1, 0, 1, 0, 0, 1, 1, 0, 0, 0] B3) s H) := at_seq (by kernel_rfl) rfl rfl s H
noncomputable def r3_17 : {l : List Oper // opsOf (cAt [1, 0, 1, 0, 0, 1, 1, 0, 0, 0] B3) = l} := by
  apply Subtype.mk
  dsimp only [opsOf, cAt, kids, B3, bodyOf, Tryd.f3, List.getD, List.getElem?_cons_zero, List.getElem?_cons_succ, Option.getD_some]
@[simp] theorem n3_17 (s : List V) (H : Heap) : evCode P Γ call n f m (cAt [1, 0, 1, 0, 0, 1, 1, 0, 0, 0] B3) s H = regNext (evOpsGo P Γ call r3_17.1 r3_17.1 s H) := at_region (by kernel_rfl) r3_17.2 s H
attribute [simp] r3_17
@[simp] theorem n3_18 (s : List V) (H : Heap) : evCode P Γ call n f m (cAt [1, 0, 1, 0, 0, 1, 1, 0, 0, 1] B3) s H = seqNext P Γ call n f m (cAt [1, 0, 1, 0, 0, 1, 1, 0, 0, 1, 1] B3) (evCode P Γ call n f m (cAt [1, 0, 1, 0, 0, 1, 1, 0, 0, 1, 0] B3) s H) := at_seq (by kernel_rfl) rfl rfl s H
noncomputable def r3_19 : {l : List Oper // opsOf (cAt [1, 0, 1, 0, 0, 1, 1, 0, 0, 1, 0] B3) = l} := by
  apply Subtype.mk
  dsimp only [opsOf, cAt, kids, B3, bodyOf, Tryd.f3, List.getD, List.getElem?_cons_zero, List.getElem?_cons_succ, Option.getD_some]
@[simp] theorem n3_19 (s : List V) (H : Heap) : evCode P Γ call n f m (cAt [1, 0, 1, 0, 0, 1, 1, 0, 0, 1, 0] B3) s H = regNext (evOpsGo P Γ call r3_19.1 r3_19.1 s H) := at_region (by kernel_rfl) r3_19.2 s H
attribute [simp] r3_19
@[simp] theorem n3_20 (s : List V) (H : Heap) : evCode P Γ call n f m (cAt [1, 0, 1, 0, 0, 1, 1, 0, 0, 1, 1] B3) s H = seqNext P Γ call n f m (cAt [1, 0, 1, 0, 0, 1, 1, 0, 0, 1, 1, 1] B3) (evCode P Γ call n f m (cAt [1, 0, 1, 0, 0, 1, 1, 0, 0, 1, 1, 0] B3) s H) := at_seq (by kernel_rfl) rfl rfl s H
@[simp] theorem n3_21 (s : List V) (H : Heap) : evCode P Γ call n f m (cAt [1, 0, 1, 0, 0, 1, 1, 0, 0, 1, 1, 0] B3) s H = seqNext P Γ call n f m (cAt [1, 0, 1, 0, 0, 1, 1, 0, 0, 1, 1, 0, 1] B3) (evCode P Γ call n f m (cAt [1, 0, 1, 0, 0, 1, 1, 0, 0, 1, 1, 0, 0] B3) s H) := at_seq (by kernel_rfl) rfl rfl s H
noncomputable def r3_22 : {l : List Oper // opsOf (cAt [1, 0, 1, 0, 0, 1, 1, 0, 0, 1, 1, 0, 0] B3) = l} := by
  apply Subtype.mk
  dsimp only [opsOf, cAt, kids, B3, bodyOf, Tryd.f3, List.getD, List.getElem?_cons_zero, List.getElem?_cons_succ, Option.getD_some]
@[simp] theorem n3_22 (s : List V) (H : Heap) : evCode P Γ call n f m (cAt [1, 0, 1, 0, 0, 1, 1, 0, 0, 1, 1, 0, 0] B3) s H = regNext (evOpsGo P Γ call r3_22.1 r3_22.1 s H) := at_region (by kernel_rfl) r3_22.2 s H
attribute [simp] r3_22
@[simp] theorem n3_23 (s : List V) (H : Heap) : evCode P Γ call n f m (cAt [1, 0, 1, 0, 0, 1, 1, 0, 0, 1, 1, 0, 1] B3) s H = blockNext 2 (evCode P Γ call n f m (cAt [1, 0, 1, 0, 0, 1, 1, 0, 0, 1, 1, 0, 1, 0] B3) s H) := at_block (by kernel_rfl) rfl s H
@[simp] theorem n3_24 (s : List V) (H : Heap) : evCode P Γ call n f m (cAt [1, 0, 1, 0, 0, 1, 1, 0, 0, 1, 1, 0, 1, 0] B3) s H = evLoopC P Γ call n f m (cAt [1, 0, 1, 0, 0, 1, 1, 0, 0, 1, 1, 0, 1, 0, 0] B3) n s H := at_loop (by kernel_rfl) rfl s H
noncomputable abbrev L3_6 : Code := cAt [1, 0, 1, 0, 0, 1, 1, 0, 0, 1, 1, 0, 1, 0, 0] B3
@[simp] theorem n3_24f : firstRegion (cAt [1, 0, 1, 0, 0, 1, 1, 0, 0, 1, 1, 0, 1, 0, 0] B3) = 6 := by kernel_rfl
@[simp] theorem n3_25 (s : List V) (H : Heap) : evCode P Γ call n f m (cAt [1, 0, 1, 0, 0, 1, 1, 0, 0, 1, 1, 0, 1, 0, 0] B3) s H = seqNext P Γ call n f m (cAt [1, 0, 1, 0, 0, 1, 1, 0, 0, 1, 1, 0, 1, 0, 0, 1] B3) (evCode P Γ call n f m (cAt [1, 0, 1, 0, 0, 1, 1, 0, 0, 1, 1, 0, 1, 0, 0, 0] B3) s H) := at_seq (by kernel_rfl) rfl rfl s H
noncomputable def r3_26 : {l : List Oper // opsOf (cAt [1, 0, 1, 0, 0, 1, 1, 0, 0, 1, 1, 0, 1, 0, 0, 0] B3) = l} := by
  apply Subtype.mk
  dsimp only [opsOf, cAt, kids, B3, bodyOf, Tryd.f3, List.getD, List.getElem?_cons_zero, List.getElem?_cons_succ, Option.getD_some]
@[simp] theorem n3_26 (s : List V) (H : Heap) : evCode P Γ call n f m (cAt [1, 0, 1, 0, 0, 1, 1, 0, 0, 1, 1, 0, 1, 0, 0, 0] B3) s H = regNext (evOpsGo P Γ call r3_26.1 r3_26.1 s H) := at_region (by kernel_rfl) r3_26.2 s H
attribute [simp] r3_26
@[simp] theorem n3_27 (s : List V) (H : Heap) : evCode P Γ call n f m (cAt [1, 0, 1, 0, 0, 1, 1, 0, 0, 1, 1, 0, 1, 0, 0, 1] B3) s H = seqNext P Γ call n f m (cAt [1, 0, 1, 0, 0, 1, 1, 0, 0, 1, 1, 0, 1, 0, 0, 1, 1] B3) (evCode P Γ call n f m (cAt [1, 0, 1, 0, 0, 1, 1, 0, 0, 1, 1, 0, 1, 0, 0, 1, 0] B3) s H) := at_seq (by kernel_rfl) rfl rfl s H
@[simp] theorem n3_28 (s : List V) (H : Heap) : evCode P Γ call n f m (cAt [1, 0, 1, 0, 0, 1, 1, 0, 0, 1, 1, 0, 1, 0, 0, 1, 0] B3) s H = condW P Γ call n f m (cAt [1, 0, 1, 0, 0, 1, 1, 0, 0, 1, 1, 0, 1, 0, 0, 1, 0, 0] B3) (cAt [1, 0, 1, 0, 0, 1, 1, 0, 0, 1, 1, 0, 1, 0, 0, 1, 0, 1] B3) s H (evOperand Γ s (.tmp 19)) := at_cond (by kernel_rfl) (by kernel_rfl) rfl rfl s H
@[simp] theorem n3_29 (s : List V) (H : Heap) : evCode P Γ call n f m (cAt [1, 0, 1, 0, 0, 1, 1, 0, 0, 1, 1, 0, 1, 0, 0, 1, 0, 0] B3) s H = some (.normal, s, H) := at_skip (by kernel_rfl) s H
@[simp] theorem n3_30 (s : List V) (H : Heap) : evCode P Γ call n f m (cAt [1, 0, 1, 0, 0, 1, 1, 0, 0, 1, 1, 0, 1, 0, 0, 1, 0, 1] B3) s H = some (.exit 2, s, H) := at_exit (by kernel_rfl) s H
@[simp] theorem n3_31 (s : List V) (H : Heap) : evCode P Γ call n f m (cAt [1, 0, 1, 0, 0, 1, 1, 0, 0, 1, 1, 0, 1, 0, 0, 1, 1] B3) s H = seqNext P Γ call n f m (cAt [1, 0, 1, 0, 0, 1, 1, 0, 0, 1, 1, 0, 1, 0, 0, 1, 1, 1] B3) (evCode P Γ call n f m (cAt [1, 0, 1, 0, 0, 1, 1, 0, 0, 1, 1, 0, 1, 0, 0, 1, 1, 0] B3) s H) := at_seq (by kernel_rfl) rfl rfl s H
@[simp] theorem n3_32 (s : List V) (H : Heap) : evCode P Γ call n f m (cAt [1, 0, 1, 0, 0, 1, 1, 0, 0, 1, 1, 0, 1, 0, 0, 1, 1, 0] B3) s H = blockNext 3 (evCode P Γ call n f m (cAt [1, 0, 1, 0, 0, 1, 1, 0, 0, 1, 1, 0, 1, 0, 0, 1, 1, 0, 0] B3) s H) := at_block (by kernel_rfl) rfl s H
@[simp] theorem n3_33 (s : List V) (H : Heap) : evCode P Γ call n f m (cAt [1, 0, 1, 0, 0, 1, 1, 0, 0, 1, 1, 0, 1, 0, 0, 1, 1, 0, 0] B3) s H = seqNext P Γ call n f m (cAt [1, 0, 1, 0, 0, 1, 1, 0, 0, 1, 1, 0, 1, 0, 0, 1, 1, 0, 0, 1] B3) (evCode P Γ call n f m (cAt [1, 0, 1, 0, 0, 1, 1, 0, 0, 1, 1, 0, 1, 0, 0, 1, 1, 0, 0, 0] B3) s H) := at_seq (by kernel_rfl) rfl rfl s H
noncomputable def r3_34 : {l : List Oper // opsOf (cAt [1, 0, 1, 0, 0, 1, 1, 0, 0, 1, 1, 0, 1, 0, 0, 1, 1, 0, 0, 0] B3) = l} := by
  apply Subtype.mk
  dsimp only [opsOf, cAt, kids, B3, bodyOf, Tryd.f3, List.getD, List.getElem?_cons_zero, List.getElem?_cons_succ, Option.getD_some]
@[simp] theorem n3_34 (s : List V) (H : Heap) : evCode P Γ call n f m (cAt [1, 0, 1, 0, 0, 1, 1, 0, 0, 1, 1, 0, 1, 0, 0, 1, 1, 0, 0, 0] B3) s H = regNext (evOpsGo P Γ call r3_34.1 r3_34.1 s H) := at_region (by kernel_rfl) r3_34.2 s H
attribute [simp] r3_34
noncomputable def r3_35 : {l : List Oper // opsOf (cAt [1, 0, 1, 0, 0, 1, 1, 0, 0, 1, 1, 0, 1, 0, 0, 1, 1, 0, 0, 1] B3) = l} := by
  apply Subtype.mk
  dsimp only [opsOf, cAt, kids, B3, bodyOf, Tryd.f3, List.getD, List.getElem?_cons_zero, List.getElem?_cons_succ, Option.getD_some]
@[simp] theorem n3_35 (s : List V) (H : Heap) : evCode P Γ call n f m (cAt [1, 0, 1, 0, 0, 1, 1, 0, 0, 1, 1, 0, 1, 0, 0, 1, 1, 0, 0, 1] B3) s H = regNext (evOpsGo P Γ call r3_35.1 r3_35.1 s H) := at_region (by kernel_rfl) r3_35.2 s H
attribute [simp] r3_35
noncomputable def r3_36 : {l : List Oper // opsOf (cAt [1, 0, 1, 0, 0, 1, 1, 0, 0, 1, 1, 0, 1, 0, 0, 1, 1, 1] B3) = l} := by
  apply Subtype.mk
  dsimp only [opsOf, cAt, kids, B3, bodyOf, Tryd.f3, List.getD, List.getElem?_cons_zero, List.getElem?_cons_succ, Option.getD_some]
@[simp] theorem n3_36 (s : List V) (H : Heap) : evCode P Γ call n f m (cAt [1, 0, 1, 0, 0, 1, 1, 0, 0, 1, 1, 0, 1, 0, 0, 1, 1, 1] B3) s H = regNext (evOpsGo P Γ call r3_36.1 r3_36.1 s H) := at_region (by kernel_rfl) r3_36.2 s H
attribute [simp] r3_36
@[simp] theorem n3_37 (s : List V) (H : Heap) : evCode P Γ call n f m (cAt [1, 0, 1, 0, 0, 1, 1, 0, 0, 1, 1, 1] B3) s H = seqNext P Γ call n f m (cAt [1, 0, 1, 0, 0, 1, 1, 0, 0, 1, 1, 1, 1] B3) (evCode P Γ call n f m (cAt [1, 0, 1, 0, 0, 1, 1, 0, 0, 1, 1, 1, 0] B3) s H) := at_seq (by kernel_rfl) rfl rfl s H
noncomputable def r3_38 : {l : List Oper // opsOf (cAt [1, 0, 1, 0, 0, 1, 1, 0, 0, 1, 1, 1, 0] B3) = l} := by
  apply Subtype.mk
  dsimp only [opsOf, cAt, kids, B3, bodyOf, Tryd.f3, List.getD, List.getElem?_cons_zero, List.getElem?_cons_succ, Option.getD_some]
@[simp] theorem n3_38 (s : List V) (H : Heap) : evCode P Γ call n f m (cAt [1, 0, 1, 0, 0, 1, 1, 0, 0, 1, 1, 1, 0] B3) s H = regNext (evOpsGo P Γ call r3_38.1 r3_38.1 s H) := at_region (by kernel_rfl) r3_38.2 s H
attribute [simp] r3_38
@[simp] theorem n3_39 (s : List V) (H : Heap) : evCode P Γ call n f m (cAt [1, 0, 1, 0, 0, 1, 1, 0, 0, 1, 1, 1, 1] B3) s H = condW P Γ call n f m (cAt [1, 0, 1, 0, 0, 1, 1, 0, 0, 1, 1, 1, 1, 0] B3) (cAt [1, 0, 1, 0, 0, 1, 1, 0, 0, 1, 1, 1, 1, 1] B3) s H (evOperand Γ s (.tmp 30)) := at_cond (by kernel_rfl) (by kernel_rfl) rfl rfl s H
@[simp] theorem n3_40 (s : List V) (H : Heap) : evCode P Γ call n f m (cAt [1, 0, 1, 0, 0, 1, 1, 0, 0, 1, 1, 1, 1, 0] B3) s H = seqNext P Γ call n f m (cAt [1, 0, 1, 0, 0, 1, 1, 0, 0, 1, 1, 1, 1, 0, 1] B3) (evCode P Γ call n f m (cAt [1, 0, 1, 0, 0, 1, 1, 0, 0, 1, 1, 1, 1, 0, 0] B3) s H) := at_seq (by kernel_rfl) rfl rfl s H
noncomputable def r3_41 : {l : List Oper // opsOf (cAt [1, 0, 1, 0, 0, 1, 1, 0, 0, 1, 1, 1, 1, 0, 0] B3) = l} := by
  apply Subtype.mk
  dsimp only [opsOf, cAt, kids, B3, bodyOf, Tryd.f3, List.getD, List.getElem?_cons_zero, List.getElem?_cons_succ, Option.getD_some]
@[simp] theorem n3_41 (s : List V) (H : Heap) : evCode P Γ call n f m (cAt [1, 0, 1, 0, 0, 1, 1, 0, 0, 1, 1, 1, 1, 0, 0] B3) s H = regNext (evOpsGo P Γ call r3_41.1 r3_41.1 s H) := at_region (by kernel_rfl) r3_41.2 s H
attribute [simp] r3_41
@[simp] theorem n3_42 (s : List V) (H : Heap) : evCode P Γ call n f m (cAt [1, 0, 1, 0, 0, 1, 1, 0, 0, 1, 1, 1, 1, 0, 1] B3) s H = some (.ret, s, H) := at_ret (by kernel_rfl) s H
@[simp] theorem n3_43 (s : List V) (H : Heap) : evCode P Γ call n f m (cAt [1, 0, 1, 0, 0, 1, 1, 0, 0, 1, 1, 1, 1, 1] B3) s H = some (.normal, s, H) := at_skip (by kernel_rfl) s H
noncomputable def r3_44 : {l : List Oper // opsOf (cAt [1, 0, 1, 0, 0, 1, 1, 1] B3) = l} := by
  apply Subtype.mk
  dsimp only [opsOf, cAt, kids, B3, bodyOf, Tryd.f3, List.getD, List.getElem?_cons_zero, List.getElem?_cons_succ, Option.getD_some]
@[simp] theorem n3_44 (s : List V) (H : Heap) : evCode P Γ call n f m (cAt [1, 0, 1, 0, 0, 1, 1, 1] B3) s H = regNext (evOpsGo P Γ call r3_44.1 r3_44.1 s H) := at_region (by kernel_rfl) r3_44.2 s H
attribute [simp] r3_44
@[simp] theorem n3_45 (s : List V) (H : Heap) : evCode P Γ call n f m (cAt [1, 1] B3) s H = seqNext P Γ call n f m (cAt [1, 1, 1] B3) (evCode P Γ call n f m (cAt [1, 1, 0] B3) s H) := at_seq (by kernel_rfl) rfl rfl s H
noncomputable def r3_46 : {l : List Oper // opsOf (cAt [1, 1, 0] B3) = l} := by
  apply Subtype.mk
  dsimp only [opsOf, cAt, kids, B3, bodyOf, Tryd.f3, List.getD, List.getElem?_cons_zero, List.getElem?_cons_succ, Option.getD_some]
@[simp] theorem n3_46 (s : List V) (H : Heap) : evCode P Γ call n f m (cAt [1, 1, 0] B3) s H = regNext (drawR P Γ call r3_46.1 [([], []), ([], []), ([4], [36]), ([4], [36]), ([2, 3], [34, 35]), ([], []), ([], []), ([], []), ([], [])] s H) := at_drawT (by kernel_rfl) r3_46.2 (by kernel_rfl) s H
attribute [simp] r3_46
@[simp] theorem n3_47 (s : List V) (H : Heap) : evCode P Γ call n f m (cAt [1, 1, 1] B3) s H = some (.ret, s, H) := at_ret (by kernel_rfl) s H
theorem b3 {k : Nat} (ho : ∀ args H, Γ.orc 3 args H = none) (args : List V) (H : Heap) (ha : args.length ≤ 40) : evF Tryd.prog Γ (k + 1) 3 args H = bodyEnd Tryd.prog [.tmp 2] H.length (evCode Tryd.prog Γ (evF Tryd.prog Γ k) k 3 H.length (cAt [] B3) (mkL 40 V.undef (enumV 0 args)) H) := body_at Tryd.func3 (by decide) rfl ho rfl rfl args H ha
noncomputable def B10 : Code := bodyOf Tryd.f10
@[simp] theorem n10_1 (s : List V) (H : Heap) : evCode P Γ call n f m (cAt [] B10) s H = seqNext P Γ call n f m (cAt [1] B10) (evCode P Γ call n f m (cAt [0] B10) s H) := at_seq (by kernel_rfl) rfl rfl s H
noncomputable def r10_2 : {l : List Oper // opsOf (cAt [0] B10) = l} := by
  apply Subtype.mk
  dsimp only [opsOf, cAt, kids, B10, bodyOf, Tryd.f10, List.getD, List.getElem?_cons_zero, List.getElem?_cons_succ, Option.getD_some]
@[simp] theorem n10_2 (s : List V) (H : Heap) : evCode P Γ call n f m (cAt [0] B10) s H = regNext (evOpsGo P Γ call r10_2.1 r10_2.1 s H) := at_region (by kernel_rfl) r10_2.2 s H
attribute [simp] r10_2
@[simp] theorem n10_3 (s : List V) (H : Heap) : evCode P Γ call n f m (cAt [1] B10) s H = seqNext P Γ call n f m (cAt [1, 1] B10) (evCode P Γ call n f m (cAt [1, 0] B10) s H) := at_seq (by kernel_rfl) rfl rfl s H
noncomputable def r10_4 : {l : List Oper // opsOf (cAt [1, 0] B10) = l} := by
  apply Subtype.mk
  dsimp only [opsOf, cAt, kids, B10, bodyOf, Tryd.f10, List.getD, List.getElem?_cons_zero, List.getElem?_cons_succ, Option.getD_some]
@[simp] theorem n10_4 (s : List V) (H : Heap) : evCode P Γ call n f m (cAt [1, 0] B10) s H = regNext (evOpsGo P Γ call r10_4.1 r10_4.1 s H) := at_region (by kernel_rfl) r10_4.2 s H
attribute [simp] r10_4
@[simp] theorem n10_5 (s : List V) (H : Heap) : evCode P Γ call n f m (cAt [1, 1] B10) s H = seqNext P Γ call n f m (cAt [1, 1, 1] B10) (evCode P Γ call n f m (cAt [1, 1, 0] B10) s H) := at_seq (by kernel_rfl) rfl rfl s H
@[simp] theorem n10_6 (s : List V) (H : Heap) : evCode P Γ call n f m (cAt [1, 1, 0] B10) s H = seqNext P Γ call n f m (cAt [1, 1, 0, 1] B10) (evCode P Γ call n f m (cAt [1, 1, 0, 0] B10) s H) := at_seq (by kernel_rfl) rfl rfl s H
noncomputable def r10_7 : {l : List Oper // opsOf (cAt [1, 1, 0, 0] B10) = l} := by
  apply Subtype.mk
  dsimp only [opsOf, cAt, kids, B10, bodyOf, Tryd.f10, List.getD, List.getElem?_cons_zero, List.getElem?_cons_succ, Option.getD_some]
@[simp] theorem n10_7 (s : List V) (H : Heap) : evCode P Γ call n f m (cAt [1, 1, 0, 0] B10) s H = regNext (evOpsGo P Γ call r10_7.1 r10_7.1 s H) := at_region (by kernel_rfl) r10_7.2 s H
attribute [simp] r10_7
@[simp] theorem n10_8 (s : List V) (H : Heap) : evCode P Γ call n f m (cAt [1, 1, 0, 1] B10) s H = blockNext 0 (evCode P Γ call n f m (cAt [1, 1, 0, 1, 0] B10) s H) := at_block (by kernel_rfl) rfl s H
@[simp] theorem n10_9 (s : List V) (H : Heap) : evCode P Γ call n f m (cAt [1, 1, 0, 1, 0] B10) s H = evLoopC P Γ call n f m (cAt [1, 1, 0, 1, 0, 0] B10) n s H := at_loop (by kernel_rfl) rfl s H
noncomputable abbrev L10_3 : Code := cAt [1, 1, 0, 1, 0, 0] B10
@[simp] theorem n10_9f : firstRegion (cAt [1, 1, 0, 1, 0, 0] B10) = 3 := by kernel_rfl
@[simp] theorem n10_10 (s : List V) (H : Heap) : evCode P Γ call n f m (cAt [1, 1, 0, 1, 0, 0] B10) s H = seqNext P Γ call n f m (cAt [1, 1, 0, 1, 0, 0, 1] B10) (evCode P Γ call n f m (cAt [1, 1, 0, 1, 0, 0, 0] B10) s H) := at_seq (by kernel_rfl) rfl rfl s H
noncomputable def r10_11 : {l : List Oper // opsOf (cAt [1, 1, 0, 1, 0, 0, 0] B10) = l} := by
  apply Subtype.mk
  dsimp only [opsOf, cAt, kids, B10, bodyOf, Tryd.f10, List.getD, List.getElem?_cons_zero, List.getElem?_cons_succ, Option.getD_some]
@[simp] theorem n10_11 (s : List V) (H : Heap) : evCode P Γ call n f m (cAt [1, 1, 0, 1, 0, 0, 0] B10) s H = regNext (evOpsGo P Γ call r10_11.1 r10_11.1 s H) := at_region (by kernel_rfl) r10_11.2 s H
attribute [simp] r10_11
@[simp] theorem n10_12 (s : List V) (H : Heap) : evCode P Γ call n f m (cAt [1, 1, 0, 1, 0, 0, 1] B10) s H = seqNext P Γ call n f m (cAt [1, 1, 0, 1, 0, 0, 1, 1] B10) (evCode P Γ call n f m (cAt [1, 1, 0, 1, 0, 0, 1, 0] B10) s H) := at_seq (by kernel_rfl) rfl rfl s H
@[simp] theorem n10_13 (s : List V) (H : Heap) : evCode P Γ call n f m (cAt [1, 1, 0, 1, 0, 0, 1, 0] B10) s H = condW P Γ call n f m (cAt [1, 1, 0, 1, 0, 0, 1, 0, 0] B10) (cAt [1, 1, 0, 1, 0, 0, 1, 0, 1] B10) s H (evOperand Γ s (.tmp 15)) := at_cond (by kernel_rfl) (by kernel_rfl) rfl rfl s H
@[simp] theorem n10_14 (s : List V) (H : Heap) : evCode P Γ call n f m (cAt [1, 1, 0, 1, 0, 0, 1, 0, 0] B10) s H = some (.normal, s, H) := at_skip (by kernel_rfl) s H
@[simp] theorem n10_15 (s : List V) (H : Heap) : evCode P Γ call n f m (cAt [1, 1, 0, 1, 0, 0, 1, 0, 1] B10) s H = some (.exit 0, s, H) := at_exit (by kernel_rfl) s H
@[simp] theorem n10_16 (s : List V) (H : Heap) : evCode P Γ call n f m (cAt [1, 1, 0, 1, 0, 0, 1, 1] B10) s H = seqNext P Γ call n f m (cAt [1, 1, 0, 1, 0, 0, 1, 1, 1] B10) (evCode P Γ call n f m (cAt [1, 1, 0, 1, 0, 0, 1, 1, 0] B10) s H) := at_seq (by kernel_rfl) rfl rfl s H
@[simp] theorem n10_17 (s : List V) (H : Heap) : evCode P Γ call n f m (cAt [1, 1, 0, 1, 0, 0, 1, 1, 0] B10) s H = blockNext 1 (evCode P Γ call n f m (cAt [1, 1, 0, 1, 0, 0, 1, 1, 0, 0] B10) s H) := at_block (by kernel_rfl) rfl s H
@[simp] theorem n10_18 (s : List V) (H : Heap) : evCode P Γ call n f m (cAt [1, 1, 0, 1, 0, 0, 1, 1, 0, 0] B10) s H = seqNext P Γ call n f m (cAt [1, 1, 0, 1, 0, 0, 1, 1, 0, 0, 1] B10) (evCode P Γ call n f m (cAt [1, 1, 0, 1, 0, 0, 1, 1, 0, 0, 0] B10) s H) := at_seq (by kernel_rfl) rfl rfl s H
noncomputable def r10_19 : {l : List Oper // opsOf (cAt [1, 1, 0, 1, 0, 0, 1, 1, 0, 0, 0] B10) = l} := by
  apply Subtype.mk
  dsimp only [opsOf, cAt, kids, B10, bodyOf, Tryd.f10, List.getD, List.getElem?_cons_zero, List.getElem?_cons_succ, Option.getD_some]
@[simp] theorem n10_19 (s : List V) (H : Heap) : evCode P Γ call n f m (cAt [1, 1, 0, 1, 0, 0, 1, 1, 0, 0, 0] B10) s H = regNext (evOpsGo P Γ call r10_19.1 r10_19.1 s H) := at_region (by kernel_rfl) r10_19.2 s H
attribute [simp] r10_19
noncomputable def r10_20 : {l : List Oper // opsOf (cAt [1, 1, 0, 1, 0, 0, 1, 1, 0, 0, 1] B10) = l} := by
  apply Subtype.mk
  dsimp only [opsOf, cAt, kids, B10, bodyOf, Tryd.f10, List.getD, List.getElem?_cons_zero, List.getElem?_cons_succ, Option.getD_some]
@[simp] theorem n10_20 (s : List V) (H : Heap) : evCode P Γ call n f m (cAt [1, 1, 0, 1, 0, 0, 1, 1, 0, 0, 1] B10) s H = regNext (evOpsGo P Γ call r10_20.1 r10_20.1 s H) := at_region (by kernel_rfl) r10_20.2 s H
attribute [simp] r10_20
noncomputable def r10_21 : {l : List Oper // opsOf (cAt [1, 1, 0, 1, 0, 0, 1, 1, 1] B10) = l} := by
  apply Subtype.mk
  dsimp only [opsOf, cAt, kids, B10, bodyOf, Tryd.f10, List.getD, List.getElem?_cons_zero, List.getElem?_cons_succ, Option.getD_some]
@[simp] theorem n10_21 (s : List V) (H : Heap) : evCode P Γ call n f m (cAt [1, 1, 0, 1, 0, 0, 1, 1, 1] B10) s H = regNext (evOpsGo P Γ call r10_21.1 r10_21.1 s H) := at_region (by kernel_rfl) r10_21.2 s H
attribute [simp] r10_21
@[simp] theorem n10_22 (s : List V) (H : Heap) : evCode P Γ call n f m (cAt [1, 1, 1] B10) s H = seqNext P Γ call n f m (cAt [1, 1, 1, 1] B10) (evCode P Γ call n f m (cAt [1, 1, 1, 0] B10) s H) := at_seq (by kernel_rfl) rfl rfl s H
@[simp] theorem n10_23 (s : List V) (H : Heap) : evCode P Γ call n f m (cAt [1, 1, 1, 0] B10) s H = seqNext P Γ call n f m (cAt [1, 1, 1, 0, 1] B10) (evCode P Γ call n f m (cAt [1, 1, 1, 0, 0] B10) s H) := at_seq (by kernel_rfl) rfl rfl s H
noncomputable def r10_24 : {l : List Oper // opsOf (cAt [1, 1, 1, 0, 0] B10) = l} := by
  apply Subtype.mk
  dsimp only [opsOf, cAt, kids, B10, bodyOf, Tryd.f10, List.getD, List.getElem?_cons_zero, List.getElem?_cons_succ, Option.getD_some]
@[simp] theorem n10_24 (s : List V) (H : Heap) : evCode P Γ call n f m (cAt [1, 1, 1, 0, 0] B10) s H = regNext (evOpsGo P Γ call r10_24.1 r10_24.1 s H) := at_region (by kernel_rfl) r10_24.2 s H
attribute [simp] r10_24
@[simp] theorem n10_25 (s : List V) (H : Heap) : evCode P Γ call n f m (cAt [1, 1, 1, 0, 1] B10) s H = condW P Γ call n f m (cAt [1, 1, 1, 0, 1, 0] B10) (cAt [1, 1, 1, 0, 1, 1] B10) s H (evOperand Γ s (.tmp 36)) := at_cond (by kernel_rfl) (by kernel_rfl) rfl rfl s H
@[simp] theorem n10_26 (s : List V) (H : Heap) : evCode P Γ call n f m (cAt [1, 1, 1, 0, 1, 0] B10) s H = seqNext P Γ call n f m (cAt [1, 1, 1, 0, 1, 0, 1] B10) (evCode P Γ call n f m (cAt [1, 1, 1, 0, 1, 0, 0] B10) s H) := at_seq (by kernel_rfl) rfl rfl s H
noncomputable def r10_27 : {l : List Oper // opsOf (cAt [1, 1, 1, 0, 1, 0, 0] B10) = l} := by
  apply Subtype.mk
  dsimp only [opsOf, cAt, kids, B10, bodyOf, Tryd.f10, List.getD, List.getElem?_cons_zero, List.getElem?_cons_succ, Option.getD_some]
@[simp] theorem n10_27 (s : List V) (H : Heap) : evCode P Γ call n f m (cAt [1, 1, 1, 0, 1, 0, 0] B10) s H = regNext (evOpsGo P Γ call r10_27.1 r10_27.1 s H) := at_region (by kernel_rfl) r10_27.2 s H
attribute [simp] r10_27
@[simp] theorem n10_28 (s : List V) (H : Heap) : evCode P Γ call n f m (cAt [1, 1, 1, 0, 1, 0, 1] B10) s H = some (.ret, s, H) := at_ret (by kernel_rfl) s H
@[simp] theorem n10_29 (s : List V) (H : Heap) : evCode P Γ call n f m (cAt [1, 1, 1, 0, 1, 1] B10) s H = some (.normal, s, H) := at_skip (by kernel_rfl) s H
@[simp] theorem n10_30 (s : List V) (H : Heap) : evCode P Γ call n f m (cAt [1, 1, 1, 1] B10) s H = seqNext P Γ call n f m (cAt [1, 1, 1, 1, 1] B10) (evCode P Γ call n f m (cAt [1, 1, 1, 1, 0] B10) s H) := at_seq (by kernel_rfl) rfl rfl s H
@[simp] theorem n10_31 (s : List V) (H : Heap) : evCode P Γ call n f m (cAt [1, 1, 1, 1, 0] B10) s H = seqNext P Γ call n f m (cAt [1, 1, 1, 1, 0, 1] B10) (evCode P Γ call n f m (cAt [1, 1, 1, 1, 0, 0] B10) s H) := at_seq (by kernel_rfl) rfl rfl s H
noncomputable def r10_32 : {l : List Oper // opsOf (cAt [1, 1, 1, 1, 0, 0] B10) = l} := by
  apply Subtype.mk
  dsimp only [opsOf, cAt, kids, B10, bodyOf, Tryd.f10, List.getD, List.getElem?_cons_zero, List.getElem?_cons_succ, Option.getD_some]
@[simp] theorem n10_32 (s : List V) (H : Heap) : evCode P Γ call n f m (cAt [1, 1, 1, 1, 0, 0] B10) s H = regNext (evOpsGo P Γ call r10_32.1 r10_32.1 s H) := at_region (by kernel_rfl) r10_32.2 s H
attribute [simp] r10_32
@[simp] theorem n10_33 (s : List V) (H : Heap) : evCode P Γ call n f m (cAt [1, 1, 1, 1, 0, 1] B10) s H = condW P Γ call n f m (cAt [1, 1, 1, 1, 0, 1, 0] B10) (cAt [1, 1, 1, 1, 0, 1, 1] B10) s H (evOperand Γ s (.tmp 40)) := at_cond (by kernel_rfl) (by kernel_rfl) rfl rfl s H
@[simp] theorem n10_34 (s : List V) (H : Heap) : evCode P Γ call n f m (cAt [1, 1, 1, 1, 0, 1, 0] B10) s H = seqNext P Γ call n f m (cAt [1, 1, 1, 1, 0, 1, 0, 1] B10) (evCode P Γ call n f m (cAt [1, 1, 1, 1, 0, 1, 0, 0] B10) s H) := at_seq (by kernel_rfl) rfl rfl s H
noncomputable def r10_35 : {l : List Oper // opsOf (cAt [1, 1, 1, 1, 0, 1, 0, 0] B10) = l} := by
  apply Subtype.mk
  dsimp only [opsOf, cAt, kids, B10, bodyOf, Tryd.f10, List.getD, List.getElem?_cons_zero, List.getElem?_cons_succ, Option.getD_some]
@[simp] theorem n10_35 (s : List V) (H : Heap) : evCode P Γ call n f m (cAt [1, 1, 1, 1, 0, 1, 0, 0] B10) s H = regNext (evOpsGo P Γ call r10_35.1 r10_35.1 s H) := at_region (by kernel_rfl) r10_35.2 s H
attribute [simp] r10_35
@[simp] theorem n10_36 (s : List V) (H : Heap) : evCode P Γ call n f m (cAt [1, 1, 1, 1, 0, 1, 0, 1] B10) s H = some (.ret, s, H) := at_ret (by kernel_rfl) s H
@[simp] theorem n10_37 (s : List V) (H : Heap) : evCode P Γ call n f m (cAt [1, 1, 1, 1, 0, 1, 1] B10) s H = some (.normal, s, H) := at_skip (by kernel_rfl) s H
@[simp] theorem n10_38 (s : List V) (H : Heap) : evCode P Γ call n f m (cAt [1, 1, 1, 1, 1] B10) s H = seqNext P Γ call n f m (cAt [1, 1, 1, 1, 1, 1] B10) (evCode P Γ call n f m (cAt [1, 1, 1, 1, 1, 0] B10) s H) := at_seq (by kernel_rfl) rfl rfl s H
@[simp] theorem n10_39 (s : List V) (H : Heap) : evCode P Γ call n f m (cAt [1, 1, 1, 1, 1, 0] B10) s H = seqNext P Γ call n f m (cAt [1, 1, 1, 1, 1, 0, 1] B10) (evCode P Γ call n f m (cAt [1, 1, 1, 1, 1, 0, 0] B10) s H) := at_seq (by kernel_rfl) rfl rfl s H
noncomputable def r10_40 : {l : List Oper // opsOf (cAt [1, 1, 1, 1, 1, 0, 0] B10) = l} := by
  apply Subtype.mk
  dsimp only [opsOf, cAt, kids, B10, bodyOf, Tryd.f10, List.getD, List.getElem?_cons_zero, List.getElem?_cons_succ, Option.getD_some]
@[simp] theorem n10_40 (s : List V) (H : Heap) : evCode P Γ call n f m (cAt [1, 1, 1, 1, 1, 0, 0] B10) s H = regNext (evOpsGo P Γ call r10_40.1 r10_40.1 s H) := at_region (by kernel_rfl) r10_40.2 s H
attribute [simp] r10_40
@[simp] theorem n10_41 (s : List V) (H : Heap) : evCode P Γ call n f m (cAt [1, 1, 1, 1, 1, 0, 1] B10) s H = blockNext 2 (evCode P Γ call n f m (cAt [1, 1, 1, 1, 1, 0, 1, 0] B10) s H) := at_block (by kernel_rfl) rfl s H
@[simp] theorem n10_42 (s : List V) (H : Heap) : evCode P Γ call n f m (cAt [1, 1, 1, 1, 1, 0, 1, 0] B10) s H = evLoopC P Γ call n f m (cAt [1, 1, 1, 1, 1, 0, 1, 0, 0] B10) n s H := at_loop (by kernel_rfl) rfl s H
noncomputable abbrev L10_12 : Code := cAt [1, 1, 1, 1, 1, 0, 1, 0, 0] B10
@[simp] theorem n10_42f : firstRegion (cAt [1, 1, 1, 1, 1, 0, 1, 0, 0] B10) = 12 := by kernel_rfl
@[simp] theorem n10_43 (s : List V) (H : Heap) : evCode P Γ call n f m (cAt [1, 1, 1, 1, 1, 0, 1, 0, 0] B10) s H = seqNext P Γ call n f m (cAt [1, 1, 1, 1, 1, 0, 1, 0, 0, 1] B10) (evCode P Γ call n f m (cAt [1, 1, 1, 1, 1, 0, 1, 0, 0, 0] B10) s H) := at_seq (by kernel_rfl) rfl rfl s H
noncomputable def r10_44 : {l : List Oper // opsOf (cAt [1, 1, 1, 1, 1, 0, 1, 0, 0, 0] B10) = l} := by
  apply Subtype.mk
  dsimp only [opsOf, cAt, kids, B10, bodyOf, Tryd.f10, List.getD, List.getElem?_cons_zero, List.getElem?_cons_succ, Option.getD_some]
@[simp] theorem n10_44 (s : List V) (H : Heap) : evCode P Γ call n f m (cAt [1, 1, 1, 1, 1, 0, 1, 0, 0, 0] B10) s H = regNext (evOpsGo P Γ call r10_44.1 r10_44.1 s H) := at_region (by kernel_rfl) r10_44.2 s H
attribute [simp] r10_44
@[simp] theorem n10_45 (s : List V) (H : Heap) : evCode P Γ call n f m (cAt [1, 1, 1, 1, 1, 0, 1, 0, 0, 1] B10) s H = seqNext P Γ call n f m (cAt [1, 1, 1, 1, 1, 0, 1, 0, 0, 1, 1] B10) (evCode P Γ call n f m (cAt [1, 1, 1, 1, 1, 0, 1, 0, 0, 1, 0] B10) s H) := at_seq (by kernel_rfl) rfl rfl s H
@[simp] theorem n10_46 (s : List V) (H : Heap) : evCode P Γ call n f m (cAt [1, 1, 1, 1, 1, 0, 1, 0, 0, 1, 0] B10) s H = condW P Γ call n f m (cAt [1, 1, 1, 1, 1, 0, 1, 0, 0, 1, 0, 0] B10) (cAt [1, 1, 1, 1, 1, 0, 1, 0, 0, 1, 0, 1] B10) s H (evOperand Γ s (.tmp 45)) := at_cond (by kernel_rfl) (by kernel_rfl) rfl rfl s H
@[simp] theorem n10_47 (s : List V) (H : Heap) : evCode P Γ call n f m (cAt [1, 1, 1, 1, 1, 0, 1, 0, 0, 1, 0, 0] B10) s H = some (.normal, s, H) := at_skip (by kernel_rfl) s H
@[simp] theorem n10_48 (s : List V) (H : Heap) : evCode P Γ call n f m (cAt [1, 1, 1, 1, 1, 0, 1, 0, 0, 1, 0, 1] B10) s H = some (.exit 2, s, H) := at_exit (by kernel_rfl) s H
@[simp] theorem n10_49 (s : List V) (H : Heap) : evCode P Γ call n f m (cAt [1, 1, 1, 1, 1, 0, 1, 0, 0, 1, 1] B10) s H = seqNext P Γ call n f m (cAt [1, 1, 1, 1, 1, 0, 1, 0, 0, 1, 1, 1] B10) (evCode P Γ call n f m (cAt [1, 1, 1, 1, 1, 0, 1, 0, 0, 1, 1, 0] B10) s H) := at_seq (by kernel_rfl) rfl rfl s H
@[simp] theorem n10_50 (s : List V) (H : Heap) : evCode P Γ call n f m (cAt [1, 1, 1, 1, 1, 0, 1, 0, 0, 1, 1, 0] B10) s H = blockNext 3 (evCode P Γ call n f m (cAt [1, 1, 1, 1, 1, 0, 1, 0, 0, 1, 1, 0, 0] B10) s H) := at_block (by kernel_rfl) rfl s H
@[simp] theorem n10_51 (s : List V) (H : Heap) : evCode P Γ call n f m (cAt [1, 1, 1, 1, 1, 0, 1, 0, 0, 1, 1, 0, 0] B10) s H = seqNext P Γ call n f m (cAt [1, 1, 1, 1, 1, 0, 1, 0, 0, 1, 1, 0, 0, 1] B10) (evCode P Γ call n f m (cAt [1, 1, 1, 1, 1, 0, 1, 0, 0, 1, 1, 0, 0, 0] B10) s H) := at_seq (by kernel_rfl) rfl rfl s H
noncomputable def r10_52 : {l : List Oper // opsOf (cAt [1, 1, 1, 1, 1, 0, 1, 0, 0, 1, 1, 0, 0, 0] B10) = l} := by
  apply Subtype.mk
  dsimp only [opsOf, cAt, kids, B10, bodyOf, Tryd.f10, List.getD, List.getElem?_cons_zero, List.getElem?_cons_succ, Option.getD_some]
@[simp] theorem n10_52 (s : List V) (H : Heap) : evCode P Γ call n f m (cAt [1, 1, 1, 1, 1, 0, 1, 0, 0, 1, 1, 0, 0, 0] B10) s H = regNext (evOpsGo P Γ call r10_52.1 r10_52.1 s H) := at_region (by kernel_rfl) r10_52.2 s H
attribute [simp] r10_52
@[simp] theorem n10_53 (s : List V) (H : Heap) : evCode P Γ call n f m (cAt [1, 1, 1, 1, 1, 0, 1, 0, 0, 1, 1, 0, 0, 1] B10) s H = seqNext P Γ call n f m (cAt [1, 1, 1, 1, 1, 0, 1, 0, 0, 1, 1, 0, 0, 1, 1] B10) (evCode P Γ call n f m (cAt [1, 1, 1, 1, 1, 0, 1, 0, 0, 1, 1, 0, 0, 1, 0] B10) s H) := at_seq (by kernel_rfl) rfl rfl s H
noncomputable def r10_54 : {l : List Oper // opsOf (cAt [1, 1, 1, 1, 1, 0, 1, 0, 0, 1, 1, 0, 0, 1, 0] B10) = l} := by
  apply Subtype.mk
  dsimp only [opsOf, cAt, kids, B10, bodyOf, Tryd.f10, List.getD, List.getElem?_cons_zero, List.getElem?_cons_succ, Option.getD_some]
@[simp] theorem n10_54 (s : List V) (H : Heap) : evCode P Γ call n f m (cAt [1, 1, 1, 1, 1, 0, 1, 0, 0, 1, 1, 0, 0, 1, 0] B10) s H = regNext (evOpsGo P Γ call r10_54.1 r10_54.1 s H) := at_region (by kernel_rfl) r10_54.2 s H
attribute [simp] r10_54
@[simp] theorem n10_55 (s : List V) (H : Heap) : evCode P Γ call n f m (cAt [1, 1, 1, 1, 1, 0, 1, 0, 0, 1, 1, 0, 0, 1, 1] B10) s H = seqNext P Γ call n f m (cAt [1, 1, 1, 1, 1, 0, 1, 0, 0, 1, 1, 0, 0, 1, 1, 1] B10) (evCode P Γ call n f m (cAt [1, 1, 1, 1, 1, 0, 1, 0, 0, 1, 1, 0, 0, 1, 1, 0] B10) s H) := at_seq (by kernel_rfl) rfl rfl s H
noncomputable def r10_56 : {l : List Oper // opsOf (cAt [1, 1, 1, 1, 1, 0, 1, 0, 0, 1, 1, 0, 0, 1, 1, 0] B10) = l} := by
  apply Subtype.mk
  dsimp only [opsOf, cAt, kids, B10, bodyOf, Tryd.f10, List.getD, List.getElem?_cons_zero, List.getElem?_cons_succ, Option.getD_some]
@[simp] theorem n10_56 (s : List V) (H : Heap) : evCode P Γ call n f m (cAt [1, 1, 1, 1, 1, 0, 1, 0, 0, 1, 1, 0, 0, 1, 1, 0] B10) s H = regNext (evOpsGo P Γ call r10_56.1 r10_56.1 s H) := at_region (by kernel_rfl) r10_56.2 s H
attribute [simp] r10_56
@[simp] theorem n10_57 (s : List V) (H : Heap) : evCode P Γ call n f m (cAt [1, 1, 1, 1, 1, 0, 1, 0, 0, 1, 1, 0, 0, 1, 1, 1] B10) s H = condW P Γ call n f m (cAt [1, 1, 1, 1, 1, 0, 1, 0, 0, 1, 1, 0, 0, 1, 1, 1, 0] B10) (cAt [1, 1, 1, 1, 1, 0, 1, 0, 0, 1, 1, 0, 0, 1, 1, 1, 1] B10) s H (evOperand Γ s (.tmp 51)) := at_cond (by kernel_rfl) (by kernel_rfl) rfl rfl s H
@[simp] theorem n10_58 (s : List V) (H : Heap) : evCode P Γ call n f m (cAt [1, 1, 1, 1, 1, 0, 1, 0, 0, 1, 1, 0, 0, 1, 1, 1, 0] B10) s H = seqNext P Γ call n f m (cAt [1, 1, 1, 1, 1, 0, 1, 0, 0, 1, 1, 0, 0, 1, 1, 1, 0, 1] B10) (evCode P Γ call n f m (cAt [1, 1, 1, 1, 1, 0, 1, 0, 0, 1, 1, 0, 0, 1, 1, 1, 0, 0] B10) s H) := at_seq (by kernel_rfl) rfl rfl s H
noncomputable def r10_59 : {l : List Oper // opsOf (cAt [1, 1, 1, 1, 1, 0, 1, 0, 0, 1, 1, 0, 0, 1, 1, 1, 0, 0] B10) = l} := by
  apply Subtype.mk
  dsimp only [opsOf, cAt, kids, B10, bodyOf, Tryd.f10, List.getD, List.getElem?_cons_zero, List.getElem?_cons_succ, Option.getD_some]
@[simp] theorem n10_59 (s : List V) (H : Heap) : evCode P Γ call n f m (cAt [1, 1, 1, 1, 1, 0, 1, 0, 0, 1, 1, 0, 0, 1, 1, 1, 0, 0] B10) s H = regNext (evOpsGo P Γ call r10_59.1 r10_59.1 s H) := at_region (by kernel_rfl) r10_59.2 s H
attribute [simp] r10_59
@[simp] theorem n10_60 (s : List V) (H : Heap) : evCode P Γ call n f m (cAt [1, 1, 1, 1, 1, 0, 1, 0, 0, 1, 1, 0, 0, 1, 1, 1, 0, 1] B10) s H = some (.ret, s, H) := at_ret (by kernel_rfl) s H
@[simp] theorem n10_61 (s : List V) (H : Heap) : evCode P Γ call n f m (cAt [1, 1, 1, 1, 1, 0, 1, 0, 0, 1, 1, 0, 0, 1, 1, 1, 1] B10) s H = some (.normal, s, H) := at_skip (by kernel_rfl) s H
noncomputable def r10_62 : {l : List Oper // opsOf (cAt [1, 1, 1, 1, 1, 0, 1, 0, 0, 1, 1, 1] B10) = l} := by
  apply Subtype.mk
  dsimp only [opsOf, cAt, kids, B10, bodyOf, Tryd.f10, List.getD, List.getElem?_cons_zero, List.getElem?_cons_succ, Option.getD_some]
@[simp] theorem n10_62 (s : List V) (H : Heap) : evCode P Γ call n f m (cAt [1, 1, 1, 1, 1, 0, 1, 0, 0, 1, 1, 1] B10) s H = regNext (evOpsGo P Γ call r10_62.1 r10_62.1 s H) := at_region (by kernel_rfl) r10_62.2 s H
attribute [simp] r10_62
@[simp] theorem n10_63 (s : List V) (H : Heap) : evCode P Γ call n f m (cAt [1, 1, 1, 1, 1, 1] B10) s H = seqNext P Γ call n f m (cAt [1, 1, 1, 1, 1, 1, 1] B10) (evCode P Γ call n f m (cAt [1, 1, 1, 1, 1, 1, 0] B10) s H) := at_seq (by kernel_rfl) rfl rfl s H
@[simp] theorem n10_64 (s : List V) (H : Heap) : evCode P Γ call n f m (cAt [1, 1, 1, 1, 1, 1, 0] B10) s H = seqNext P Γ call n f m (cAt [1, 1, 1, 1, 1, 1, 0, 1] B10) (evCode P Γ call n f m (cAt [1, 1, 1, 1, 1, 1, 0, 0] B10) s H) := at_seq (by kernel_rfl) rfl rfl s H
noncomputable def r10_65 : {l : List Oper // opsOf (cAt [1, 1, 1, 1, 1, 1, 0, 0] B10) = l} := by
  apply Subtype.mk
  dsimp only [opsOf, cAt, kids, B10, bodyOf, Tryd.f10, List.getD, List.getElem?_cons_zero, List.getElem?_cons_succ, Option.getD_some]
@[simp] theorem n10_65 (s : List V) (H : Heap) : evCode P Γ call n f m (cAt [1, 1, 1, 1, 1, 1, 0, 0] B10) s H = regNext (evOpsGo P Γ call r10_65.1 r10_65.1 s H) := at_region (by kernel_rfl) r10_65.2 s H
attribute [simp] r10_65
@[simp] theorem n10_66 (s : List V) (H : Heap) : evCode P Γ call n f m (cAt [1, 1, 1, 1, 1, 1, 0, 1] B10) s H = blockNext 4 (evCode P Γ call n f m (cAt [1, 1, 1, 1, 1, 1, 0, 1, 0] B10) s H) := at_block (by kernel_rfl) rfl s H
@[simp] theorem n10_67 (s : List V) (H : Heap) : evCode P Γ call n f m (cAt [1, 1, 1, 1, 1, 1, 0, 1, 0] B10) s H = evLoopC P Γ call n f m (cAt [1, 1, 1, 1, 1, 1, 0, 1, 0, 0] B10) n s H := at_loop (by kernel_rfl) rfl s H
noncomputable abbrev L10_19 : Code := cAt [1, 1, 1, 1, 1, 1, 0, 1, 0, 0] B10
@[simp] theorem n10_67f : firstRegion (cAt [1, 1, 1, 1, 1, 1, 0, 1, 0, 0] B10) = 19 := by kernel_rfl
@[simp] theorem n10_68 (s : List V) (H : Heap) : evCode P Γ call n f m (cAt [1, 1, 1, 1, 1, 1, 0, 1, 0, 0] B10) s H = seqNext P Γ call n f m (cAt [1, 1, 1, 1, 1, 1, 0, 1, 0, 0, 1] B10) (evCode P Γ call n f m (cAt [1, 1, 1, 1, 1, 1, 0, 1, 0, 0, 0] B10) s H) := at_seq (by kernel_rfl) rfl rfl s H
noncomputable def r10_69 : {l : List Oper // opsOf (cAt [1, 1, 1, 1, 1, 1, 0, 1, 0, 0, 0] B10) = l} := by
  apply Subtype.mk
  dsimp only [opsOf, cAt, kids, B10, bodyOf, Tryd.f10, List.getD, List.getElem?_cons_zero, List.getElem?_cons_succ, Option.getD_some]
@[simp] theorem n10_69 (s : List V) (H : Heap) : evCode P Γ call n f m (cAt [1, 1, 1, 1, 1, 1, 0, 1, 0, 0, 0] B10) s H = regNext (evOpsGo P Γ call r10_69.1 r10_69.1 s H) := at_region (by kernel_rfl) r10_69.2 s H
attribute [simp] r10_69
@[simp] theorem n10_70 (s : List V) (H : Heap) : evCode P Γ call n f m (cAt [1, 1, 1, 1, 1, 1, 0, 1, 0, 0, 1] B10) s H = seqNext P Γ call n f m (cAt [1, 1, 1, 1, 1, 1, 0, 1, 0, 0, 1, 1] B10) (evCode P Γ call n f m (cAt [1, 1, 1, 1, 1, 1, 0, 1, 0, 0, 1, 0] B10) s H) := at_seq (by kernel_rfl) rfl rfl s H
@[simp] theorem n10_71 (s : List V) (H : Heap) : evCode P Γ call n f m (cAt [1, 1, 1, 1, 1, 1, 0, 1, 0, 0, 1, 0] B10) s H = condW P Γ call n f m (cAt [1, 1, 1, 1, 1, 1, 0, 1, 0, 0, 1, 0, 0] B10) (cAt [1, 1, 1, 1, 1, 1, 0, 1, 0, 0, 1, 0, 1] B10) s H (evOperand Γ s (.tmp 58)) := at_cond (by kernel_rfl) (by kernel_rfl) rfl rfl s H
@[simp] theorem n10_72 (s : List V) (H : Heap) : evCode P Γ call n f m (cAt [1, 1, 1, 1, 1, 1, 0, 1, 0, 0, 1, 0, 0] B10) s H = some (.normal, s, H) := at_skip (by kernel_rfl) s H
@[simp] theorem n10_73 (s : List V) (H : Heap) : evCode P Γ call n f m (cAt [1, 1, 1, 1, 1, 1, 0, 1, 0, 0, 1, 0, 1] B10) s H = some (.exit 4, s, H) := at_exit (by kernel_rfl) s H
@[simp] theorem n10_74 (s : List V) (H : Heap) : evCode P Γ call n f m (cAt [1, 1, 1, 1, 1, 1, 0, 1, 0, 0, 1, 1] B10) s H = seqNext P Γ call n f m (cAt [1, 1, 1, 1, 1, 1, 0, 1, 0, 0, 1, 1, 1] B10) (evCode P Γ call n f m (cAt [1, 1, 1, 1, 1, 1, 0, 1, 0, 0, 1, 1, 0] B10) s H) := at_seq (by kernel_rfl) rfl rfl s H
@[simp] theorem n10_75 (s : List V) (H : Heap) : evCode P Γ call n f m (cAt [1, 1, 1, 1, 1, 1, 0, 1, 0, 0, 1, 1, 0] B10) s H = blockNext 5 (evCode P Γ call n f m (cAt [1, 1, 1, 1, 1, 1, 0, 1, 0, 0, 1, 1, 0, 0] B10) s H) := at_block (by kernel_rfl) rfl s H
@[simp] theorem n10_76 (s : List V) (H : Heap) : evCode P Γ call n f m (cAt [1, 1, 1, 1, 1, 1, 0, 1, 0, 0, 1, 1, 0, 0] B10) s H = seqNext P Γ call n f m (cAt [1, 1, 1, 1, 1, 1, 0, 1, 0, 0, 1, 1, 0, 0, 1] B10) (evCode P Γ call n f m (cAt [1, 1, 1, 1, 1, 1, 0, 1, 0, 0, 1, 1, 0, 0, 0] B10) s H) := at_seq (by kernel_rfl) rfl rfl s H
noncomputable def r10_77 : {l : List Oper // opsOf (cAt [1, 1, 1, 1, 1, 1, 0, 1, 0, 0, 1, 1, 0, 0, 0] B10) = l} := by
  apply Subtype.mk
  dsimp only [opsOf, cAt, kids, B10, bodyOf, Tryd.f10, List.getD, List.getElem?_cons_zero, List.getElem?_cons_succ, Option.getD_some]
@[simp] theorem n10_77 (s : List V) (H : Heap) : evCode P Γ call n f m (cAt [1, 1, 1, 1, 1, 1, 0, 1, 0, 0, 1, 1, 0, 0, 0] B10) s H = regNext (evOpsGo P Γ call r10_77.1 r10_77.1 s H) := at_region (by kernel_rfl) r10_77.2 s H
attribute [simp] r10_77
@[simp] theorem n10_78 (s : List V) (H : Heap) : evCode P Γ call n f m (cAt [1, 1, 1, 1, 1, 1, 0, 1, 0, 0, 1, 1, 0, 0, 1] B10) s H = seqNext P Γ call n f m (cAt [1, 1, 1, 1, 1, 1, 0, 1, 0, 0, 1, 1, 0, 0, 1, 1] B10) (evCode P Γ call n f m (cAt [1, 1, 1, 1, 1, 1, 0, 1, 0, 0, 1, 1, 0, 0, 1, 0] B10) s H) := at_seq (by kernel_rfl) rfl rfl s H
@[simp] theorem n10_79 (s : List V) (H : Heap) : evCode P Γ call n f m (cAt [1, 1, 1, 1, 1, 1, 0, 1, 0, 0, 1, 1, 0, 0, 1, 0] B10) s H = seqNext P Γ call n f m (cAt [1, 1, 1, 1, 1, 1, 0, 1, 0, 0, 1, 1, 0, 0, 1, 0, 1] B10) (evCode P Γ call n f m (cAt [1, 1, 1, 1, 1, 1, 0, 1, 0, 0, 1, 1, 0, 0, 1, 0, 0] B10) s H) := at_seq (by kernel_rfl) rfl rfl s H
noncomputable def r10_80 : {l : List Oper // opsOf (cAt [1, 1, 1, 1, 1, 1, 0, 1, 0, 0, 1, 1, 0, 0, 1, 0, 0] B10) = l} := by
  apply Subtype.mk
  dsimp only [opsOf, cAt, kids, B10, bodyOf, Tryd.f10, List.getD, List.getElem?_cons_zero, List.getElem?_cons_succ, Option.getD_some]
@[simp] theorem n10_80 (s : List V) (H : Heap) : evCode P Γ call n f m (cAt [1, 1, 1, 1, 1, 1, 0, 1, 0, 0, 1, 1, 0, 0, 1, 0, 0] B10) s H = regNext (evOpsGo P Γ call r10_80.1 r10_80.1 s H) := at_region (by kernel_rfl) r10_80.2 s H
attribute [simp] r10_80
@[simp] theorem n10_81 (s : List V) (H : Heap) : evCode P Γ call n f m (cAt [1, 1, 1, 1, 1, 1, 0, 1, 0, 0, 1, 1, 0, 0, 1, 0, 1] B10) s H = condW P Γ call n f m (cAt [1, 1, 1, 1, 1, 1, 0, 1, 0, 0, 1, 1, 0, 0, 1, 0, 1, 0] B10) (cAt [1, 1, 1, 1, 1, 1, 0, 1, 0, 0, 1, 1, 0, 0, 1, 0, 1, 1] B10) s H (evOperand Γ s (.tmp 68)) := at_cond (by kernel_rfl) (by kernel_rfl) rfl rfl s H
@[simp] theorem n10_82 (s : List V) (H : Heap) : evCode P Γ call n f m (cAt [1, 1, 1, 1, 1, 1, 0, 1, 0, 0, 1, 1, 0, 0, 1, 0, 1, 0] B10) s H = seqNext P Γ call n f m (cAt [1, 1, 1, 1, 1, 1, 0, 1, 0, 0, 1, 1, 0, 0, 1, 0, 1, 0, 1] B10) (evCode P Γ call n f m (cAt [1, 1, 1, 1, 1, 1, 0, 1, 0, 0, 1, 1, 0, 0, 1, 0, 1, 0, 0] B10) s H) := at_seq (by kernel_rfl) rfl rfl s H
noncomputable def r10_83 : {l : List Oper // opsOf (cAt [1, 1, 1, 1, 1, 1, 0, 1, 0, 0, 1, 1, 0, 0, 1, 0, 1, 0, 0] B10) = l} := by
  apply Subtype.mk
  dsimp only [opsOf, cAt, kids, B10, bodyOf, Tryd.f10, List.getD, List.getElem?_cons_zero, List.getElem?_cons_succ, Option.getD_some]
@[simp] theorem n10_83 (s : List V) (H : Heap) : evCode P Γ call n f m (cAt [1, 1, 1, 1, 1, 1, 0, 1, 0, 0, 1, 1, 0, 0, 1, 0, 1, 0, 0] B10) s H = regNext (evOpsGo P Γ call r10_83.1 r10_83.1 s H) := at_region (by kernel_rfl) r10_83.2 s H
attribute [simp] r10_83
@[simp] theorem n10_84 (s : List V) (H : Heap) : evCode P Γ call n f m (cAt [1, 1, 1, 1, 1, 1, 0, 1, 0, 0, 1, 1, 0, 0, 1, 0, 1, 0, 1] B10) s H = some (.ret, s, H) := at_ret (by kernel_rfl) s H
@[simp] theorem n10_85 (s : List V) (H : Heap) : evCode P Γ call n f m (cAt [1, 1, 1, 1, 1, 1, 0, 1, 0, 0, 1, 1, 0, 0, 1, 0, 1, 1] B10) s H = some (.normal, s, H) := at_skip (by kernel_rfl) s H
@[simp] theorem n10_86 (s : List V) (H : Heap) : evCode P Γ call n f m (cAt [1, 1, 1, 1, 1, 1, 0, 1, 0, 0, 1, 1, 0, 0, 1, 1] B10) s H = seqNext P Γ call n f m (cAt [1, 1, 1, 1, 1, 1, 0, 1, 0, 0, 1, 1, 0, 0, 1, 1, 1] B10) (evCode P Γ call n f m (cAt [1, 1, 1, 1, 1, 1, 0, 1, 0, 0, 1, 1, 0, 0, 1, 1, 0] B10) s H) := at_seq (by kernel_rfl) rfl rfl s H
@[simp] theorem n10_87 (s : List V) (H : Heap) : evCode P Γ call n f m (cAt [1, 1, 1, 1, 1, 1, 0, 1, 0, 0, 1, 1, 0, 0, 1, 1, 0] B10) s H = seqNext P Γ call n f m (cAt [1, 1, 1, 1, 1, 1, 0, 1, 0, 0, 1, 1, 0, 0, 1, 1, 0, 1] B10) (evCode P Γ call n f m (cAt [1, 1, 1, 1, 1, 1, 0, 1, 0, 0, 1, 1, 0, 0, 1, 1, 0, 0] B10) s H) := at_seq (by kernel_rfl) rfl rfl s H
noncomputable def r10_88 : {l : List Oper // opsOf (cAt [1, 1, 1, 1, 1, 1, 0, 1, 0, 0, 1, 1, 0, 0, 1, 1, 0, 0] B10) = l} := by
  apply Subtype.mk
  dsimp only [opsOf, cAt, kids, B10, bodyOf, Tryd.f10, List.getD, List.getElem?_cons_zero, List.getElem?_cons_succ, Option.getD_some]
@[simp] theorem n10_88 (s : List V) (H : Heap) : evCode P Γ call n f m (cAt [1, 1, 1, 1, 1, 1, 0, 1, 0, 0, 1, 1, 0, 0, 1, 1, 0, 0] B10) s H = regNext (evOpsGo P Γ call r10_88.1 r10_88.1 s H) := at_region (by kernel_rfl) r10_88.2 s H
attribute [simp] r10_88
@[simp] theorem n10_89 (s : List V) (H : Heap) : evCode P Γ call n f m (cAt [1, 1, 1, 1, 1, 1, 0, 1, 0, 0, 1, 1, 0, 0, 1, 1, 0, 1] B10) s H = condW P Γ call n f m (cAt [1, 1, 1, 1, 1, 1, 0, 1, 0, 0, 1, 1, 0, 0, 1, 1, 0, 1, 0] B10) (cAt [1, 1, 1, 1, 1, 1, 0, 1, 0, 0, 1, 1, 0, 0, 1, 1, 0, 1, 1] B10) s H (evOperand Γ s (.tmp 85)) := at_cond (by kernel_rfl) (by kernel_rfl) rfl rfl s H
@[simp] theorem n10_90 (s : List V) (H : Heap) : evCode P Γ call n f m (cAt [1, 1, 1, 1, 1, 1, 0, 1, 0, 0, 1, 1, 0, 0, 1, 1, 0, 1, 0] B10) s H = seqNext P Γ call n f m (cAt [1, 1, 1, 1, 1, 1, 0, 1, 0, 0, 1, 1, 0, 0, 1, 1, 0, 1, 0, 1] B10) (evCode P Γ call n f m (cAt [1, 1, 1, 1, 1, 1, 0, 1, 0, 0, 1, 1, 0, 0, 1, 1, 0, 1, 0, 0] B10) s H) := at_seq (by kernel_rfl) rfl rfl s H
noncomputable def r10_91 : {l : List Oper // opsOf (cAt [1, 1, 1, 1, 1, 1, 0, 1, 0, 0, 1, 1, 0, 0, 1, 1, 0, 1, 0, 0] B10) = l} := by
  apply Subtype.mk
  dsimp only [opsOf, cAt, kids, B10, bodyOf, Tryd.f10, List.getD, List.getElem?_cons_zero, List.getElem?_cons_succ, Option.getD_some]
@[simp] theorem n10_91 (s : List V) (H : Heap) : evCode P Γ call n f m (cAt [1, 1, 1, 1, 1, 1, 0, 1, 0, 0, 1, 1, 0, 0, 1, 1, 0, 1, 0, 0] B10) s H = regNext (evOpsGo P Γ call r10_91.1 r10_91.1 s H) := at_region (by kernel_rfl) r10_91.2 s H
attribute [simp] r10_91
@[simp] theorem n10_92 (s : List V) (H : Heap) : evCode P Γ call n f m (cAt [1, 1, 1, 1, 1, 1, 0, 1, 0, 0, 1, 1, 0, 0, 1, 1, 0, 1, 0, 1] B10) s H = some (.ret, s, H) := at_ret (by kernel_rfl) s H
@[simp] theorem n10_93 (s : List V) (H : Heap) : evCode P Γ call n f m (cAt [1, 1, 1, 1, 1, 1, 0, 1, 0, 0, 1, 1, 0, 0, 1, 1, 0, 1, 1] B10) s H = some (.normal, s, H) := at_skip (by kernel_rfl) s H
@[simp] theorem n10_94 (s : List V) (H : Heap) : evCode P Γ call n f m (cAt [1, 1, 1, 1, 1, 1, 0, 1, 0, 0, 1, 1, 0, 0, 1, 1, 1] B10) s H = seqNext P Γ call n f m (cAt [1, 1, 1, 1, 1, 1, 0, 1, 0, 0, 1, 1, 0, 0, 1, 1, 1, 1] B10) (evCode P Γ call n f m (cAt [1, 1, 1, 1, 1, 1, 0, 1, 0, 0, 1, 1, 0, 0, 1, 1, 1, 0] B10) s H) := at_seq (by kernel_rfl) rfl rfl s H
noncomputable def r10_95 : {l : List Oper // opsOf (cAt [1, 1, 1, 1, 1, 1, 0, 1, 0, 0, 1, 1, 0, 0, 1, 1, 1, 0] B10) = l} := by
  apply Subtype.mk
  dsimp only [opsOf, cAt, kids, B10, bodyOf, Tryd.f10, List.getD, List.getElem?_cons_zero, List.getElem?_cons_succ, Option.getD_some]
@[simp] theorem n10_95 (s : List V) (H : Heap) : evCode P Γ call n f m (cAt [1, 1, 1, 1, 1, 1, 0, 1, 0, 0, 1, 1, 0, 0, 1, 1, 1, 0] B10) s H = regNext (evOpsGo P Γ call r10_95.1 r10_95.1 s H) := at_region (by kernel_rfl) r10_95.2 s H
attribute [simp] r10_95
@[simp] theorem n10_96 (s : List V) (H : Heap) : evCode P Γ call n f m (cAt [1, 1, 1, 1, 1, 1, 0, 1, 0, 0, 1, 1, 0, 0, 1, 1, 1, 1] B10) s H = condW P Γ call n f m (cAt [1, 1, 1, 1, 1, 1, 0, 1, 0, 0, 1, 1, 0, 0, 1, 1, 1, 1, 0] B10) (cAt [1, 1, 1, 1, 1, 1, 0, 1, 0, 0, 1, 1, 0, 0, 1, 1, 1, 1, 1] B10) s H (evOperand Γ s (.tmp 90)) := at_cond (by kernel_rfl) (by kernel_rfl) rfl rfl s H
@[simp] theorem n10_97 (s : List V) (H : Heap) : evCode P Γ call n f m (cAt [1, 1, 1, 1, 1, 1, 0, 1, 0, 0, 1, 1, 0, 0, 1, 1, 1, 1, 0] B10) s H = seqNext P Γ call n f m (cAt [1, 1, 1, 1, 1, 1, 0, 1, 0, 0, 1, 1, 0, 0, 1, 1, 1, 1, 0, 1] B10) (evCode P Γ call n f m (cAt [1, 1, 1, 1, 1, 1, 0, 1, 0, 0, 1, 1, 0, 0, 1, 1, 1, 1, 0, 0] B10) s H) := at_seq (by kernel_rfl) rfl rfl s H
noncomputable def r10_98 : {l : List Oper // opsOf (cAt [1, 1, 1, 1, 1, 1, 0, 1, 0, 0, 1, 1, 0, 0, 1, 1, 1, 1, 0, 0] B10) = l} := by
  apply Subtype.mk
  dsimp only [opsOf, cAt, kids, B10, bodyOf, Tryd.f10, List.getD, List.getElem?_cons_zero, List.getElem?_cons_succ, Option.getD_some]
@[simp] theorem n10_98 (s : List V) (H : Heap) : evCode P Γ call n f m (cAt [1, 1, 1, 1, 1, 1, 0, 1, 0, 0, 1, 1, 0, 0, 1, 1, 1, 1, 0, 0] B10) s H = regNext (evOpsGo P Γ call r10_98.1 r10_98.1 s H) := at_region (by kernel_rfl) r10_98.2 s H
attribute [simp] r10_98
@[simp] theorem n10_99 (s : List V) (H : Heap) : evCode P Γ call n f m (cAt [1, 1, 1, 1, 1, 1, 0, 1, 0, 0, 1, 1, 0, 0, 1, 1, 1, 1, 0, 1] B10) s H = some (.ret, s, H) := at_ret (by kernel_rfl) s H
@[simp] theorem n10_100 (s : List V) (H : Heap) : evCode P Γ call n f m (cAt [1, 1, 1, 1, 1, 1, 0, 1, 0, 0, 1, 1, 0, 0, 1, 1, 1, 1, 1] B10) s H = some (.normal, s, H) := at_skip (by kernel_rfl) s H
noncomputable def r10_101 : {l : List Oper // opsOf (cAt [1, 1, 1, 1, 1, 1, 0, 1, 0, 0, 1, 1, 1] B10) = l} := by
  apply Subtype.mk
  dsimp only [opsOf, cAt, kids, B10, bodyOf, Tryd.f10, List.getD, List.getElem?_cons_zero, List.getElem?_cons_succ, Option.getD_some]
@[simp] theorem n10_101 (s : List V) (H : Heap) : evCode P Γ call n f m (cAt [1, 1, 1, 1, 1, 1, 0, 1, 0, 0, 1, 1, 1] B10) s H = regNext (evOpsGo P Γ call r10_101.1 r10_101.1 s H) := at_region (by kernel_rfl) r10_101.2 s H
attribute [simp] r10_101
@[simp] theorem n10_102 (s : List V) (H : Heap) : evCode P Γ call n f m (cAt [1, 1, 1, 1, 1, 1, 1] B10) s H = seqNext P Γ call n f m (cAt [1, 1, 1, 1, 1, 1, 1, 1] B10) (evCode P Γ call n f m (cAt [1, 1, 1, 1, 1, 1, 1, 0] B10) s H) := at_seq (by kernel_rfl) rfl rfl s H
@[simp] theorem n10_103 (s : List V) (H : Heap) : evCode P Γ call n f m (cAt [1, 1, 1, 1, 1, 1, 1, 0] B10) s H = seqNext P Γ call n f m (cAt [1, 1, 1, 1, 1, 1, 1, 0, 1] B10) (evCode P Γ call n f m (cAt [1, 1, 1, 1, 1, 1, 1, 0, 0] B10) s H) := at_seq (by kernel_rfl) rfl rfl s H
noncomputable def r10_104 : {l : List Oper // opsOf (cAt [1, 1, 1, 1, 1, 1, 1, 0, 0] B10) = l} := by
  apply Subtype.mk
  dsimp only [opsOf, cAt, kids, B10, bodyOf, Tryd.f10, List.getD, List.getElem?_cons_zero, List.getElem?_cons_succ, Option.getD_some]
@[simp] theorem n10_104 (s : List V) (H : Heap) : evCode P Γ call n f m (cAt [1, 1, 1, 1, 1, 1, 1, 0, 0] B10) s H = regNext (evOpsGo P Γ call r10_104.1 r10_104.1 s H) := at_region (by kernel_rfl) r10_104.2 s H
attribute [simp] r10_104
@[simp] theorem n10_105 (s : List V) (H : Heap) : evCode P Γ call n f m (cAt [1, 1, 1, 1, 1, 1, 1, 0, 1] B10) s H = condW P Γ call n f m (cAt [1, 1, 1, 1, 1, 1, 1, 0, 1, 0] B10) (cAt [1, 1, 1, 1, 1, 1, 1, 0, 1, 1] B10) s H (evOperand Γ s (.tmp 99)) := at_cond (by kernel_rfl) (by kernel_rfl) rfl rfl s H
@[simp] theorem n10_106 (s : List V) (H : Heap) : evCode P Γ call n f m (cAt [1, 1, 1, 1, 1, 1, 1, 0, 1, 0] B10) s H = seqNext P Γ call n f m (cAt [1, 1, 1, 1, 1, 1, 1, 0, 1, 0, 1] B10) (evCode P Γ call n f m (cAt [1, 1, 1, 1, 1, 1, 1, 0, 1, 0, 0] B10) s H) := at_seq (by kernel_rfl) rfl rfl s H
noncomputable def r10_107 : {l : List Oper // opsOf (cAt [1, 1, 1, 1, 1, 1, 1, 0, 1, 0, 0] B10) = l} := by
  apply Subtype.mk
  dsimp only [opsOf, cAt, kids, B10, bodyOf, Tryd.f10, List.getD, List.getElem?_cons_zero, List.getElem?_cons_succ, Option.getD_some]
@[simp] theorem n10_107 (s : List V) (H : Heap) : evCode P Γ call n f m (cAt [1, 1, 1, 1, 1, 1, 1, 0, 1, 0, 0] B10) s H = regNext (evOpsGo P Γ call r10_107.1 r10_107.1 s H) := at_region (by kernel_rfl) r10_107.2 s H
attribute [simp] r10_107
@[simp] theorem n10_108 (s : List V) (H : Heap) : evCode P Γ call n f m (cAt [1, 1, 1, 1, 1, 1, 1, 0, 1, 0, 1] B10) s H = some (.ret, s, H) := at_ret (by kernel_rfl) s H
@[simp] theorem n10_109 (s : List V) (H : Heap) : evCode P Γ call n f m (cAt [1, 1, 1, 1, 1, 1, 1, 0, 1, 1] B10) s H = some (.normal, s, H) := at_skip (by kernel_rfl) s H
@[simp] theorem n10_110 (s : List V) (H : Heap) : evCode P Γ call n f m (cAt [1, 1, 1, 1, 1, 1, 1, 1] B10) s H = seqNext P Γ call n f m (cAt [1, 1, 1, 1, 1, 1, 1, 1, 1] B10) (evCode P Γ call n f m (cAt [1, 1, 1, 1, 1, 1, 1, 1, 0] B10) s H) := at_seq (by kernel_rfl) rfl rfl s H
noncomputable def r10_111 : {l : List Oper // opsOf (cAt [1, 1, 1, 1, 1, 1, 1, 1, 0] B10) = l} := by
  apply Subtype.mk
  dsimp only [opsOf, cAt, kids, B10, bodyOf, Tryd.f10, List.getD, List.getElem?_cons_zero, List.getElem?_cons_succ, Option.getD_some]
@[simp] theorem n10_111 (s : List V) (H : Heap) : evCode P Γ call n f m (cAt [1, 1, 1, 1, 1, 1, 1, 1, 0] B10) s H = regNext (evOpsGo P Γ call r10_111.1 r10_111.1 s H) := at_region (by kernel_rfl) r10_111.2 s H
attribute [simp] r10_111
@[simp] theorem n10_112 (s : List V) (H : Heap) : evCode P Γ call n f m (cAt [1, 1, 1, 1, 1, 1, 1, 1, 1] B10) s H = some (.ret, s, H) := at_ret (by kernel_rfl) s H
theorem b10 {k : Nat} (ho : ∀ args H, Γ.orc 10 args H = none) (args : List V) (H : Heap) (ha : args.length ≤ 100) : evF Tryd.prog Γ (k + 1) 10 args H = bodyEnd Tryd.prog [.tmp 2] H.length (evCode Tryd.prog Γ (evF Tryd.prog Γ k) k 10 H.length (cAt [] B10) (mkL 100 V.undef (enumV 0 args)) H) := body_at Tryd.func10 (by decide) rfl ho rfl rfl args H ha
noncomputable def B11 : Code := bodyOf Tryd.f11
@[simp] theorem n11_1 (s : List V) (H : Heap) : evCode P Γ call n f m (cAt [] B11) s H = seqNext P Γ call n f m (cAt [1] B11) (evCode P Γ call n f m (cAt [0] B11) s H) := at_seq (by kernel_rfl) rfl rfl s H
noncomputable def r11_2 : {l : List Oper // opsOf (cAt [0] B11) = l} := by
  apply Subtype.mk
  dsimp only [opsOf, cAt, kids, B11, bodyOf, Tryd.f11, List.getD, List.getElem?_cons_zero, List.getElem?_cons_succ, Option.getD_some]
@[simp] theorem n11_2 (s : List V) (H : Heap) : evCode P Γ call n f m (cAt [0] B11) s H = regNext (evOpsGo P Γ call r11_2.1 r11_2.1 s H) := at_region (by kernel_rfl) r11_2.2 s H
attribute [simp] r11_2
@[simp] theorem n11_3 (s : List V) (H : Heap) : evCode P Γ call n f m (cAt [1] B11) s H = seqNext P Γ call n f m (cAt [1, 1] B11) (evCode P Γ call n f m (cAt [1, 0] B11) s H) := at_seq (by kernel_rfl) rfl rfl s H
noncomputable def r11_4 : {l : List Oper // opsOf (cAt [1, 0] B11) = l} := by
  apply Subtype.mk
  dsimp only [opsOf, cAt, kids, B11, bodyOf, Tryd.f11, List.getD, List.getElem?_cons_zero, List.getElem?_cons_succ, Option.getD_some]
@[simp] theorem n11_4 (s : List V) (H : Heap) : evCode P Γ call n f m (cAt [1, 0] B11) s H = regNext (evOpsGo P Γ call r11_4.1 r11_4.1 s H) := at_region (by kernel_rfl) r11_4.2 s H
attribute [simp] r11_4
@[simp] theorem n11_5 (s : List V) (H : Heap) : evCode P Γ call n f m (cAt [1, 1] B11) s H = seqNext P Γ call n f m (cAt [1, 1, 1] B11) (evCode P Γ call n f m (cAt [1, 1, 0] B11) s H) := at_seq (by kernel_rfl) rfl rfl s H
@[simp] theorem n11_6 (s : List V) (H : Heap) : evCode P Γ call n f m (cAt [1, 1, 0] B11) s H = seqNext P Γ call n f m (cAt [1, 1, 0, 1] B11) (evCode P Γ call n f m (cAt [1, 1, 0, 0] B11) s H) := at_seq (by kernel_rfl) rfl rfl s H
noncomputable def r11_7 : {l : List Oper // opsOf (cAt [1, 1, 0, 0] B11) = l} := by
  apply Subtype.mk
  dsimp only [opsOf, cAt, kids, B11, bodyOf, Tryd.f11, List.getD, List.getElem?_cons_zero, List.getElem?_cons_succ, Option.getD_some]
@[simp] theorem n11_7 (s : List V) (H : Heap) : evCode P Γ call n f m (cAt [1, 1, 0, 0] B11) s H = regNext (evOpsGo P Γ call r11_7.1 r11_7.1 s H) := at_region (by kernel_rfl) r11_7.2 s H
attribute [simp] r11_7
@[simp] theorem n11_8 (s : List V) (H : Heap) : evCode P Γ call n f m (cAt [1, 1, 0, 1] B11) s H = blockNext 0 (evCode P Γ call n f m (cAt [1, 1, 0, 1, 0] B11) s H) := at_block (by kernel_rfl) rfl s H
@[simp] theorem n11_9 (s : List V) (H : Heap) : evCode P Γ call n f m (cAt [1, 1, 0, 1, 0] B11) s H = evLoopC P Γ call n f m (cAt [1, 1, 0, 1, 0, 0] B11) n s H := at_loop (by kernel_rfl) rfl s H
noncomputable abbrev L11_3 : Code := cAt [1, 1, 0, 1, 0, 0] B11
@[simp] theorem n11_9f : firstRegion (cAt [1, 1, 0, 1, 0, 0] B11) = 3 := by kernel_rfl
@[simp] theorem n11_10 (s : List V) (H : Heap) : evCode P Γ call n f m (cAt [1, 1, 0, 1, 0, 0] B11) s H = seqNext P Γ call n f m (cAt [1, 1, 0, 1, 0, 0, 1] B11) (evCode P Γ call n f m (cAt [1, 1, 0, 1, 0, 0, 0] B11) s H) := at_seq (by kernel_rfl) rfl rfl s H
noncomputable def r11_11 : {l : List Oper // opsOf (cAt [1, 1, 0, 1, 0, 0, 0] B11) = l} := by
  apply Subtype.mk
  dsimp only [opsOf, cAt, kids, B11, bodyOf, Tryd.f11, List.getD, List.getElem?_cons_zero, List.getElem?_cons_succ, Option.getD_some]
@[simp] theorem n11_11 (s : List V) (H : Heap) : evCode P Γ call n f m (cAt [1, 1, 0, 1, 0, 0, 0] B11) s H = regNext (evOpsGo P Γ call r11_11.1 r11_11.1 s H) := at_region (by kernel_rfl) r11_11.2 s H
attribute [simp] r11_11
@[simp] theorem n11_12 (s : List V) (H : Heap) : evCode P Γ call n f m (cAt [1, 1, 0, 1, 0, 0, 1] B11) s H = seqNext P Γ call n f m (cAt [1, 1, 0, 1, 0, 0, 1, 1] B11) (evCode P Γ call n f m (cAt [1, 1, 0, 1, 0, 0, 1, 0] B11) s H) := at_seq (by kernel_rfl) rfl rfl s H
@[simp] theorem n11_13 (s : List V) (H : Heap) : evCode P Γ call n f m (cAt [1, 1, 0, 1, 0, 0, 1, 0] B11) s H = condW P Γ call n f m (cAt [1, 1, 0, 1, 0, 0, 1, 0, 0] B11) (cAt [1, 1, 0, 1, 0, 0, 1, 0, 1] B11) s H (evOperand Γ s (.tmp 15)) := at_cond (by kernel_rfl) (by kernel_rfl) rfl rfl s H
@[simp] theorem n11_14 (s : List V) (H : Heap) : evCode P Γ call n f m (cAt [1, 1, 0, 1, 0, 0, 1, 0, 0] B11) s H = some (.normal, s, H) := at_skip (by kernel_rfl) s H
@[simp] theorem n11_15 (s : List V) (H : Heap) : evCode P Γ call n f m (cAt [1, 1, 0, 1, 0, 0, 1, 0, 1] B11) s H = some (.exit 0, s, H) := at_exit (by kernel_rfl) s H
@[simp] theorem n11_16 (s : List V) (H : Heap) : evCode P Γ call n f m (cAt [1, 1, 0, 1, 0, 0, 1, 1] B11) s H = seqNext P Γ call n f m (cAt [1, 1, 0, 1, 0, 0, 1, 1, 1] B11) (evCode P Γ call n f m (cAt [1, 1, 0, 1, 0, 0, 1, 1, 0] B11) s H) := at_seq (by kernel_rfl) rfl rfl s H
@[simp] theorem n11_17 (s : List V) (H : Heap) : evCode P Γ call n f m (cAt [1, 1, 0, 1, 0, 0, 1, 1, 0] B11) s H = blockNext 1 (evCode P Γ call n f m (cAt [1, 1, 0, 1, 0, 0, 1, 1, 0, 0] B11) s H) := at_block (by kernel_rfl) rfl s H
@[simp] theorem n11_18 (s : List V) (H : Heap) : evCode P Γ call n f m (cAt [1, 1, 0, 1, 0, 0, 1, 1, 0, 0] B11) s H = seqNext P Γ call n f m (cAt [1, 1, 0, 1, 0, 0, 1, 1, 0, 0, 1] B11) (evCode P Γ call n f m (cAt [1, 1, 0, 1, 0, 0, 1, 1, 0, 0, 0] B11) s H) := at_seq (by kernel_rfl) rfl rfl s H
noncomputable def r11_19 : {l : List Oper // opsOf (cAt [1, 1, 0, 1, 0, 0, 1, 1, 0, 0, 0] B11) = l} := by
  apply Subtype.mk
  dsimp only [opsOf, cAt, kids, B11, bodyOf, Tryd.f11, List.getD, List.getElem?_cons_zero, List.getElem?_cons_succ, Option.getD_some]
@[simp] theorem n11_19 (s : List V) (H : Heap) : evCode P Γ call n f m (cAt [1, 1, 0, 1, 0, 0, 1, 1, 0, 0, 0] B11) s H = regNext (evOpsGo P Γ call r11_19.1 r11_19.1 s H) := at_region (by kernel_rfl) r11_19.2 s H
attribute [simp] r11_19
noncomputable def r11_20 : {l : List Oper // opsOf (cAt [1, 1, 0, 1, 0, 0, 1, 1, 0, 0, 1] B11) = l} := by
  apply Subtype.mk
  dsimp only [opsOf, cAt, kids, B11, bodyOf, Tryd.f11, List.getD, List.getElem?_cons_zero, List.getElem?_cons_succ, Option.getD_some]
@[simp] theorem n11_20 (s : List V) (H : Heap) : evCode P Γ call n f m (cAt [1, 1, 0, 1, 0, 0, 1, 1, 0, 0, 1] B11) s H = regNext (evOpsGo P Γ call r11_20.1 r11_20.1 s H) := at_region (by kernel_rfl) r11_20.2 s H
attribute [simp] r11_20
noncomputable def r11_21 : {l : List Oper // opsOf (cAt [1, 1, 0, 1, 0, 0, 1, 1, 1] B11) = l} := by
  apply Subtype.mk
  dsimp only [opsOf, cAt, kids, B11, bodyOf, Tryd.f11, List.getD, List.getElem?_cons_zero, List.getElem?_cons_succ, Option.getD_some]
@[simp] theorem n11_21 (s : List V) (H : Heap) : evCode P Γ call n f m (cAt [1, 1, 0, 1, 0, 0, 1, 1, 1] B11) s H = regNext (evOpsGo P Γ call r11_21.1 r11_21.1 s H) := at_region (by kernel_rfl) r11_21.2 s H
attribute [simp] r11_21
@[simp] theorem n11_22 (s : List V) (H : Heap) : evCode P Γ call n f m (cAt [1, 1, 1] B11) s H = seqNext P Γ call n f m (cAt [1, 1, 1, 1] B11) (evCode P Γ call n f m (cAt [1, 1, 1, 0] B11) s H) := at_seq (by kernel_rfl) rfl rfl s H
@[simp] theorem n11_23 (s : List V) (H : Heap) : evCode P Γ call n f m (cAt [1, 1, 1, 0] B11) s H = seqNext P Γ call n f m (cAt [1, 1, 1, 0, 1] B11) (evCode P Γ call n f m (cAt [1, 1, 1, 0, 0] B11) s H) := at_seq (by kernel_rfl) rfl rfl s H
noncomputable def r11_24 : {l : List Oper // opsOf (cAt [1, 1, 1, 0, 0] B11) = l} := by
  apply Subtype.mk
  dsimp only [opsOf, cAt, kids, B11, bodyOf, Tryd.f11, List.getD, List.getElem?_cons_zero, List.getElem?_cons_succ, Option.getD_some]
@[simp] theorem n11_24 (s : List V) (H : Heap) : evCode P Γ call n f m (cAt [1, 1, 1, 0, 0] B11) s H = regNext (evOpsGo P Γ call r11_24.1 r11_24.1 s H) := at_region (by kernel_rfl) r11_24.2 s H
attribute [simp] r11_24
@[simp] theorem n11_25 (s : List V) (H : Heap) : evCode P Γ call n f m (cAt [1, 1, 1, 0, 1] B11) s H = condW P Γ call n f m (cAt [1, 1, 1, 0, 1, 0] B11) (cAt [1, 1, 1, 0, 1, 1] B11) s H (evOperand Γ s (.tmp 37)) := at_cond (by kernel_rfl) (by kernel_rfl) rfl rfl s H
@[simp] theorem n11_26 (s : List V) (H : Heap) : evCode P Γ call n f m (cAt [1, 1, 1, 0, 1, 0] B11) s H = seqNext P Γ call n f m (cAt [1, 1, 1, 0, 1, 0, 1] B11) (evCode P Γ call n f m (cAt [1, 1, 1, 0, 1, 0, 0] B11) s H) := at_seq (by kernel_rfl) rfl rfl s H
noncomputable def r11_27 : {l : List Oper // opsOf (cAt [1, 1, 1, 0, 1, 0, 0] B11) = l} := by
  apply Subtype.mk
  dsimp only [opsOf, cAt, kids, B11, bodyOf, Tryd.f11, List.getD, List.getElem?_cons_zero, List.getElem?_cons_succ, Option.getD_some]
@[simp] theorem n11_27 (s : List V) (H : Heap) : evCode P Γ call n f m (cAt [1, 1, 1, 0, 1, 0, 0] B11) s H = regNext (evOpsGo P Γ call r11_27.1 r11_27.1 s H) := at_region (by kernel_rfl) r11_27.2 s H
attribute [simp] r11_27
@[simp] theorem n11_28 (s : List V) (H : Heap) : evCode P Γ call n f m (cAt [1, 1, 1, 0, 1, 0, 1] B11) s H = some (.ret, s, H) := at_ret (by kernel_rfl) s H
@[simp] theorem n11_29 (s : List V) (H : Heap) : evCode P Γ call n f m (cAt [1, 1, 1, 0, 1, 1] B11) s H = some (.normal, s, H) := at_skip (by kernel_rfl) s H
@[simp] theorem n11_30 (s : List V) (H : Heap) : evCode P Γ call n f m (cAt [1, 1, 1, 1] B11) s H = seqNext P Γ call n f m (cAt [1, 1, 1, 1, 1] B11) (evCode P Γ call n f m (cAt [1, 1, 1, 1, 0] B11) s H) := at_seq (by kernel_rfl) rfl rfl s H
@[simp] theorem n11_31 (s : List V) (H : Heap) : evCode P Γ call n f m (cAt [1, 1, 1, 1, 0] B11) s H = seqNext P Γ call n f m (cAt [1, 1, 1, 1, 0, 1] B11) (evCode P Γ call n f m (cAt [1, 1, 1, 1, 0, 0] B11) s H) := at_seq (by kernel_rfl) rfl rfl s H
noncomputable def r11_32 : {l : List Oper // opsOf (cAt [1, 1, 1, 1, 0, 0] B11) = l} := by
  apply Subtype.mk
  dsimp only [opsOf, cAt, kids, B11, bodyOf, Tryd.f11, List.getD, List.getElem?_cons_zero, List.getElem?_cons_succ, Option.getD_some]
@[simp] theorem n11_32 (s : List V) (H : Heap) : evCode P Γ call n f m (cAt [1, 1, 1, 1, 0, 0] B11) s H = regNext (evOpsGo P Γ call r11_32.1 r11_32.1 s H) := at_region (by kernel_rfl) r11_32.2 s H
attribute [simp] r11_32
@[simp] theorem n11_33 (s : List V) (H : Heap) : evCode P Γ call n f m (cAt [1, 1, 1, 1, 0, 1] B11) s H = condW P Γ call n f m (cAt [1, 1, 1, 1, 0, 1, 0] B11) (cAt [1, 1, 1, 1, 0, 1, 1] B11) s H (evOperand Γ s (.tmp 40)) := at_cond (by kernel_rfl) (by kernel_rfl) rfl rfl s H
@[simp] theorem n11_34 (s : List V) (H : Heap) : evCode P Γ call n f m (cAt [1, 1, 1, 1, 0, 1, 0] B11) s H = seqNext P Γ call n f m (cAt [1, 1, 1, 1, 0, 1, 0, 1] B11) (evCode P Γ call n f m (cAt [1, 1, 1, 1, 0, 1, 0, 0] B11) s H) := at_seq (by kernel_rfl) rfl rfl s H
noncomputable def r11_35 : {l : List Oper // opsOf (cAt [1, 1, 1, 1, 0, 1, 0, 0] B11) = l} := by
  apply Subtype.mk
  dsimp only [opsOf, cAt, kids, B11, bodyOf, Tryd.f11, List.getD, List.getElem?_cons_zero, List.getElem?_cons_succ, Option.getD_some]
@[simp] theorem n11_35 (s : List V) (H : Heap) : evCode P Γ call n f m (cAt [1, 1, 1, 1, 0, 1, 0, 0] B11) s H = regNext (evOpsGo P Γ call r11_35.1 r11_35.1 s H) := at_region (by kernel_rfl) r11_35.2 s H
attribute [simp] r11_35
@[simp] theorem n11_36 (s : List V) (H : Heap) : evCode P Γ call n f m (cAt [1, 1, 1, 1, 0, 1, 0, 1] B11) s H = some (.ret, s, H) := at_ret (by kernel_rfl) s H
@[simp] theorem n11_37 (s : List V) (H : Heap) : evCode P Γ call n f m (cAt [1, 1, 1, 1, 0, 1, 1] B11) s H = some (.normal, s, H) := at_skip (by kernel_rfl) s H
@[simp] theorem n11_38 (s : List V) (H : Heap) : evCode P Γ call n f m (cAt [1, 1, 1, 1, 1] B11) s H = seqNext P Γ call n f m (cAt [1, 1, 1, 1, 1, 1] B11) (evCode P Γ call n f m (cAt [1, 1, 1, 1, 1, 0] B11) s H) := at_seq (by kernel_rfl) rfl rfl s H
@[simp] theorem n11_39 (s : List V) (H : Heap) : evCode P Γ call n f m (cAt [1, 1, 1, 1, 1, 0] B11) s H = seqNext P Γ call n f m (cAt [1, 1, 1, 1, 1, 0, 1] B11) (evCode P Γ call n f m (cAt [1, 1, 1, 1, 1, 0, 0] B11) s H) := at_seq (by kernel_rfl) rfl rfl s H
noncomputable def r11_40 : {l : List Oper // opsOf (cAt [1, 1, 1, 1, 1, 0, 0] B11) = l} := by
  apply Subtype.mk
  dsimp only [opsOf, cAt, kids, B11, bodyOf, Tryd.f11, List.getD, List.getElem?_cons_zero, List.getElem?_cons_succ, Option.getD_some]
@[simp] theorem n11_40 (s : List V) (H : Heap) : evCode P Γ call n f m (cAt [1, 1, 1, 1, 1, 0, 0] B11) s H = regNext (evOpsGo P Γ call r11_40.1 r11_40.1 s H) := at_region (by kernel_rfl) r11_40.2 s H
attribute [simp] r11_40
@[simp] theorem n11_41 (s : List V) (H : Heap) : evCode P Γ call n f m (cAt [1, 1, 1, 1, 1, 0, 1] B11) s H = blockNext 2 (evCode P Γ call n f m (cAt [1, 1, 1, 1, 1, 0, 1, 0] B11) s H) := at_block (by kernel_rfl) rfl s H
@[simp] theorem n11_42 (s : List V) (H : Heap) : evCode P Γ call n f m (cAt [1, 1, 1, 1, 1, 0, 1, 0] B11) s H = evLoopC P Γ call n f m (cAt [1, 1, 1, 1, 1, 0, 1, 0, 0] B11) n s H := at_loop (by kernel_rfl) rfl s H
noncomputable abbrev L11_12 : Code := cAt [1, 1, 1, 1, 1, 0, 1, 0, 0] B11
@[simp] theorem n11_42f : firstRegion (cAt [1, 1, 1, 1, 1, 0, 1, 0, 0] B11) = 12 := by kernel_rfl
@[simp] theorem n11_43 (s : List V) (H : Heap) : evCode P Γ call n f m (cAt [1, 1, 1, 1, 1, 0, 1, 0, 0] B11) s H = seqNext P Γ call n f m (cAt [1, 1, 1, 1, 1, 0, 1, 0, 0, 1] B11) (evCode P Γ call n f m (cAt [1, 1, 1, 1, 1, 0, 1, 0, 0, 0] B11) s H) := at_seq (by kernel_rfl) rfl rfl s H
noncomputable def r11_44 : {l : List Oper // opsOf (cAt [1, 1, 1, 1, 1, 0, 1, 0, 0, 0] B11) = l} := by
  apply Subtype.mk
  dsimp only [opsOf, cAt, kids, B11, bodyOf, Tryd.f11, List.getD, List.getElem?_cons_zero, List.getElem?_cons_succ, Option.getD_some]
@[simp] theorem n11_44 (s : List V) (H : Heap) : evCode P Γ call n f m (cAt [1, 1, 1, 1, 1, 0, 1, 0, 0, 0] B11) s H = regNext (evOpsGo P Γ call r11_44.1 r11_44.1 s H) := at_region (by kernel_rfl) r11_44.2 s H
attribute [simp] r11_44
@[simp] theorem n11_45 (s : List V) (H : Heap) : evCode P Γ call n f m (cAt [1, 1, 1, 1, 1, 0, 1, 0, 0, 1] B11) s H = seqNext P Γ call n f m (cAt [1, 1, 1, 1, 1, 0, 1, 0, 0, 1, 1] B11) (evCode P Γ call n f m (cAt [1, 1, 1, 1, 1, 0, 1, 0, 0, 1, 0] B11) s H) := at_seq (by kernel_rfl) rfl rfl s H
@[simp] theorem n11_46 (s : List V) (H : Heap) : evCode P Γ call n f m (cAt [1, 1, 1, 1, 1, 0, 1, 0, 0, 1, 0] B11) s H = condW P Γ call n f m (cAt [1, 1, 1, 1, 1, 0, 1, 0, 0, 1, 0, 0] B11) (cAt [1, 1, 1, 1, 1, 0, 1, 0, 0, 1, 0, 1] B11) s H (evOperand Γ s (.tmp 44)) := at_cond (by kernel_rfl) (by kernel_rfl) rfl rfl s H
@[simp] theorem n11_47 (s : List V) (H : Heap) : evCode P Γ call n f m (cAt [1, 1, 1, 1, 1, 0, 1, 0, 0, 1, 0, 0] B11) s H = some (.normal, s, H) := at_skip (by kernel_rfl) s H
@[simp] theorem n11_48 (s : List V) (H : Heap) : evCode P Γ call n f m (cAt [1, 1, 1, 1, 1, 0, 1, 0, 0, 1, 0, 1] B11) s H = some (.exit 2, s, H) := at_exit (by kernel_rfl) s H
@[simp] theorem n11_49 (s : List V) (H : Heap) : evCode P Γ call n f m (cAt [1, 1, 1, 1, 1, 0, 1, 0, 0, 1, 1] B11) s H = seqNext P Γ call n f m (cAt [1, 1, 1, 1, 1, 0, 1, 0, 0, 1, 1, 1] B11) (evCode P Γ call n f m (cAt [1, 1, 1, 1, 1, 0, 1, 0, 0, 1, 1, 0] B11) s H) := at_seq (by kernel_rfl) rfl rfl s H
@[simp] theorem n11_50 (s : List V) (H : Heap) : evCode P Γ call n f m (cAt [1, 1, 1, 1, 1, 0, 1, 0, 0, 1, 1, 0] B11) s H = blockNext 3 (evCode P Γ call n f m (cAt [1, 1, 1, 1, 1, 0, 1, 0, 0, 1, 1, 0, 0] B11) s H) := at_block (by kernel_rfl) rfl s H
@[simp] theorem n11_51 (s : List V) (H : Heap) : evCode P Γ call n f m (cAt [1, 1, 1, 1, 1, 0, 1, 0, 0, 1, 1, 0, 0] B11) s H = seqNext P Γ call n f m (cAt [1, 1, 1, 1, 1, 0, 1, 0, 0, 1, 1, 0, 0, 1] B11) (evCode P Γ call n f m (cAt [1, 1, 1, 1, 1, 0, 1, 0, 0, 1, 1, 0, 0, 0] B11) s H) := at_seq (by kernel_rfl) rfl rfl s H
noncomputable def r11_52 : {l : List Oper // opsOf (cAt [1, 1, 1, 1, 1, 0, 1, 0, 0, 1, 1, 0, 0, 0] B11) = l} := by
  apply Subtype.mk
  dsimp only [opsOf, cAt, kids, B11, bodyOf, Tryd.f11, List.getD, List.getElem?_cons_zero, List.getElem?_cons_succ, Option.getD_some]
@[simp] theorem n11_52 (s : List V) (H : Heap) : evCode P Γ call n f m (cAt [1, 1, 1, 1, 1, 0, 1, 0, 0, 1, 1, 0, 0, 0] B11) s H = regNext (evOpsGo P Γ call r11_52.1 r11_52.1 s H) := at_region (by kernel_rfl) r11_52.2 s H
attribute [simp] r11_52
@[simp] theorem n11_53 (s : List V) (H : Heap) : evCode P Γ call n f m (cAt [1, 1, 1, 1, 1, 0, 1, 0, 0, 1, 1, 0, 0, 1] B11) s H = seqNext P Γ call n f m (cAt [1, 1, 1, 1, 1, 0, 1, 0, 0, 1, 1, 0, 0, 1, 1] B11) (evCode P Γ call n f m (cAt [1, 1, 1, 1, 1, 0, 1, 0, 0, 1, 1, 0, 0, 1, 0] B11) s H) := at_seq (by kernel_rfl) rfl rfl s H
noncomputable def r11_54 : {l : List Oper // opsOf (cAt [1, 1, 1, 1, 1, 0, 1, 0, 0, 1, 1, 0, 0, 1, 0] B11) = l} := by
  apply Subtype.mk
  dsimp only [opsOf, cAt, kids, B11, bodyOf, Tryd.f11, List.getD, List.getElem?_cons_zero, List.getElem?_cons_succ, Option.getD_some]
@[simp] theorem n11_54 (s : List V) (H : Heap) : evCode P Γ call n f m (cAt [1, 1, 1, 1, 1, 0, 1, 0, 0, 1, 1, 0, 0, 1, 0] B11) s H = regNext (evOpsGo P Γ call r11_54.1 r11_54.1 s H) := at_region (by kernel_rfl) r11_54.2 s H
attribute [simp] r11_54
@[simp] theorem n11_55 (s : List V) (H : Heap) : evCode P Γ call n f m (cAt [1, 1, 1, 1, 1, 0, 1, 0, 0, 1, 1, 0, 0, 1, 1] B11) s H = seqNext P Γ call n f m (cAt [1, 1, 1, 1, 1, 0, 1, 0, 0, 1, 1, 0, 0, 1, 1, 1] B11) (evCode P Γ call n f m (cAt [1, 1, 1, 1, 1, 0, 1, 0, 0, 1, 1, 0, 0, 1, 1, 0] B11) s H) := at_seq (by kernel_rfl) rfl rfl s H
noncomputable def r11_56 : {l : List Oper // opsOf (cAt [1, 1, 1, 1, 1, 0, 1, 0, 0, 1, 1, 0, 0, 1, 1, 0] B11) = l} := by
  apply Subtype.mk
  dsimp only [opsOf, cAt, kids, B11, bodyOf, Tryd.f11, List.getD, List.getElem?_cons_zero, List.getElem?_cons_succ, Option.getD_some]
@[simp] theorem n11_56 (s : List V) (H : Heap) : evCode P Γ call n f m (cAt [1, 1, 1, 1, 1, 0, 1, 0, 0, 1, 1, 0, 0, 1, 1, 0] B11) s H = regNext (evOpsGo P Γ call r11_56.1 r11_56.1 s H) := at_region (by kernel_rfl) r11_56.2 s H
attribute [simp] r11_56
@[simp] theorem n11_57 (s : List V) (H : Heap) : evCode P Γ call n f m (cAt [1, 1, 1, 1, 1, 0, 1, 0, 0, 1, 1, 0, 0, 1, 1, 1] B11) s H = condW P Γ call n f m (cAt [1, 1, 1, 1, 1, 0, 1, 0, 0, 1, 1, 0, 0, 1, 1, 1, 0] B11) (cAt [1, 1, 1, 1, 1, 0, 1, 0, 0, 1, 1, 0, 0, 1, 1, 1, 1] B11) s H (evOperand Γ s (.tmp 50)) := at_cond (by kernel_rfl) (by kernel_rfl) rfl rfl s H
@[simp] theorem n11_58 (s : List V) (H : Heap) : evCode P Γ call n f m (cAt [1, 1, 1, 1, 1, 0, 1, 0, 0, 1, 1, 0, 0, 1, 1, 1, 0] B11) s H = seqNext P Γ call n f m (cAt [1, 1, 1, 1, 1, 0, 1, 0, 0, 1, 1, 0, 0, 1, 1, 1, 0, 1] B11) (evCode P Γ call n f m (cAt [1, 1, 1, 1, 1, 0, 1, 0, 0, 1, 1, 0, 0, 1, 1, 1, 0, 0] B11) s H) := at_seq (by kernel_rfl) rfl rfl s H
noncomputable def r11_59 : {l : List Oper // opsOf (cAt [1, 1, 1, 1, 1, 0, 1, 0, 0, 1, 1, 0, 0, 1, 1, 1, 0, 0] B11) = l} := by
  apply Subtype.mk
  dsimp only [opsOf, cAt, kids, B11, bodyOf, Tryd.f11, List.getD, List.getElem?_cons_zero, List.getElem?_cons_succ, Option.getD_some]
@[simp] theorem n11_59 (s : List V) (H : Heap) : evCode P Γ call n f m (cAt [1, 1, 1, 1, 1, 0, 1, 0, 0, 1, 1, 0, 0, 1, 1, 1, 0, 0] B11) s H = regNext (evOpsGo P Γ call r11_59.1 r11_59.1 s H) := at_region (by kernel_rfl) r11_59.2 s H
attribute [simp] r11_59
@[simp] theorem n11_60 (s : List V) (H : Heap) : evCode P Γ call n f m (cAt [1, 1, 1, 1, 1, 0, 1, 0, 0, 1, 1, 0, 0, 1, 1, 1, 0, 1] B11) s H = some (.ret, s, H) := at_ret (by kernel_rfl) s H
@[simp] theorem n11_61 (s : List V) (H : Heap) : evCode P Γ call n f m (cAt [1, 1, 1, 1, 1, 0, 1, 0, 0, 1, 1, 0, 0, 1, 1, 1, 1] B11) s H = some (.normal, s, H) := at_skip (by kernel_rfl) s H
noncomputable def r11_62 : {l : List Oper // opsOf (cAt [1, 1, 1, 1, 1, 0, 1, 0, 0, 1, 1, 1] B11) = l} := by
  apply Subtype.mk
  dsimp only [opsOf, cAt, kids, B11, bodyOf, Tryd.f11, List.getD, List.getElem?_cons_zero, List.getElem?_cons_succ, Option.getD_some]
@[simp] theorem n11_62 (s : List V) (H : Heap) : evCode P Γ call n f m (cAt [1, 1, 1, 1, 1, 0, 1, 0, 0, 1, 1, 1] B11) s H = regNext (evOpsGo P Γ call r11_62.1 r11_62.1 s H) := at_region (by kernel_rfl) r11_62.2 s H
attribute [simp] r11_62
@[simp] theorem n11_63 (s : List V) (H : Heap) : evCode P Γ call n f m (cAt [1, 1, 1, 1, 1, 1] B11) s H = seqNext P Γ call n f m (cAt [1, 1, 1, 1, 1, 1, 1] B11) (evCode P Γ call n f m (cAt [1, 1, 1, 1, 1, 1, 0] B11) s H) := at_seq (by kernel_rfl) rfl rfl s H
@[simp] theorem n11_64 (s : List V) (H : Heap) : evCode P Γ call n f m (cAt [1, 1, 1, 1, 1, 1, 0] B11) s H = seqNext P Γ call n f m (cAt [1, 1, 1, 1, 1, 1, 0, 1] B11) (evCode P Γ call n f m (cAt [1, 1, 1, 1, 1, 1, 0, 0] B11) s H) := at_seq (by kernel_rfl) rfl rfl s H
noncomputable def r11_65 : {l : List Oper // opsOf (cAt [1, 1, 1, 1, 1, 1, 0, 0] B11) = l} := by
  apply Subtype.mk
  dsimp only [opsOf, cAt, kids, B11, bodyOf, Tryd.f11, List.getD, List.getElem?_cons_zero, List.getElem?_cons_succ, Option.getD_some]
@[simp] theorem n11_65 (s : List V) (H : Heap) : evCode P Γ call n f m (cAt [1, 1, 1, 1, 1, 1, 0, 0] B11) s H = regNext (evOpsGo P Γ call r11_65.1 r11_65.1 s H) := at_region (by kernel_rfl) r11_65.2 s H
attribute [simp] r11_65
@[simp] theorem n11_66 (s : List V) (H : Heap) : evCode P Γ call n f m (cAt [1, 1, 1, 1, 1, 1, 0, 1] B11) s H = blockNext 4 (evCode P Γ call n f m (cAt [1, 1, 1, 1, 1, 1, 0, 1, 0] B11) s H) := at_block (by kernel_rfl) rfl s H
@[simp] theorem n11_67 (s : List V) (H : Heap) : evCode P Γ call n f m (cAt [1, 1, 1, 1, 1, 1, 0, 1, 0] B11) s H = evLoopC P Γ call n f m (cAt [1, 1, 1, 1, 1, 1, 0, 1, 0, 0] B11) n s H := at_loop (by kernel_rfl) rfl s H
noncomputable abbrev L11_19 : Code := cAt [1, 1, 1, 1, 1, 1, 0, 1, 0, 0] B11
@[simp] theorem n11_67f : firstRegion (cAt [1, 1, 1, 1, 1, 1, 0, 1, 0, 0] B11) = 19 := by kernel_rfl
@[simp] theorem n11_68 (s : List V) (H : Heap) : evCode P Γ call n f m (cAt [1, 1, 1, 1, 1, 1, 0, 1, 0, 0] B11) s H = seqNext P Γ call n f m (cAt [1, 1, 1, 1, 1, 1, 0, 1, 0, 0, 1] B11) (evCode P Γ call n f m (cAt [1, 1, 1, 1, 1, 1, 0, 1, 0, 0, 0] B11) s H) := at_seq (by kernel_rfl) rfl rfl s H
noncomputable def r11_69 : {l : List Oper // opsOf (cAt [1, 1, 1, 1, 1, 1, 0, 1, 0, 0, 0] B11) = l} := by
  apply Subtype.mk
  dsimp only [opsOf, cAt, kids, B11, bodyOf, Tryd.f11, List.getD, List.getElem?_cons_zero, List.getElem?_cons_succ, Option.getD_some]
@[simp] theorem n11_69 (s : List V) (H : Heap) : evCode P Γ call n f m (cAt [1, 1, 1, 1, 1, 1, 0, 1, 0, 0, 0] B11) s H = regNext (evOpsGo P Γ call r11_69.1 r11_69.1 s H) := at_region (by kernel_rfl) r11_69.2 s H
attribute [simp] r11_69
@[simp] theorem n11_70 (s : List V) (H : Heap) : evCode P Γ call n f m (cAt [1, 1, 1, 1, 1, 1, 0, 1, 0, 0, 1] B11) s H = seqNext P Γ call n f m (cAt [1, 1, 1, 1, 1, 1, 0, 1, 0, 0, 1, 1] B11) (evCode P Γ call n f m (cAt [1, 1, 1, 1, 1, 1, 0, 1, 0, 0, 1, 0] B11) s H) := at_seq (by kernel_rfl) rfl rfl s H
@[simp] theorem n11_71 (s : List V) (H : Heap) : evCode P Γ call n f m (cAt [1, 1, 1, 1, 1, 1, 0, 1, 0, 0, 1, 0] B11) s H = condW P Γ call n f m (cAt [1, 1, 1, 1, 1, 1, 0, 1, 0, 0, 1, 0, 0] B11) (cAt [1, 1, 1, 1, 1, 1, 0, 1, 0, 0, 1, 0, 1] B11) s H (evOperand Γ s (.tmp 57)) := at_cond (by kernel_rfl) (by kernel_rfl) rfl rfl s H
@[simp] theorem n11_72 (s : List V) (H : Heap) : evCode P Γ call n f m (cAt [1, 1, 1, 1, 1, 1, 0, 1, 0, 0, 1, 0, 0] B11) s H = some (.normal, s, H) := at_skip (by kernel_rfl) s H
@[simp] theorem n11_73 (s : List V) (H : Heap) : evCode P Γ call n f m (cAt [1, 1, 1, 1, 1, 1, 0, 1, 0, 0, 1, 0, 1] B11) s H = some (.exit 4, s, H) := at_exit (by kernel_rfl) s H
@[simp] theorem n11_74 (s : List V) (H : Heap) : evCode P Γ call n f m (cAt [1, 1, 1, 1, 1, 1, 0, 1, 0, 0, 1, 1] B11) s H = seqNext P Γ call n f m (cAt [1, 1, 1, 1, 1, 1, 0, 1, 0, 0, 1, 1, 1] B11) (evCode P Γ call n f m (cAt [1, 1, 1, 1, 1, 1, 0, 1, 0, 0, 1, 1, 0] B11) s H) := at_seq (by kernel_rfl) rfl rfl s H
@[simp] theorem n11_75 (s : List V) (H : Heap) : evCode P Γ call n f m (cAt [1, 1, 1, 1, 1, 1, 0, 1, 0, 0, 1, 1, 0] B11) s H = blockNext 5 (evCode P Γ call n f m (cAt [1, 1, 1, 1, 1, 1, 0, 1, 0, 0, 1, 1, 0, 0] B11) s H) := at_block (by kernel_rfl) rfl s H
@[simp] theorem n11_76 (s : List V) (H : Heap) : evCode P Γ call n f m (cAt [1, 1, 1, 1, 1, 1, 0, 1, 0, 0, 1, 1, 0, 0] B11) s H = seqNext P Γ call n f m (cAt [1, 1, 1, 1, 1, 1, 0, 1, 0, 0, 1, 1, 0, 0, 1] B11) (evCode P Γ call n f m (cAt [1, 1, 1, 1, 1, 1, 0, 1, 0, 0, 1, 1, 0, 0, 0] B11) s H) := at_seq (by kernel_rfl) rfl rfl s H
noncomputable def r11_77 : {l : List Oper // opsOf (cAt [1, 1, 1, 1, 1, 1, 0, 1, 0, 0, 1, 1, 0, 0, 0] B11) = l} := by
  apply Subtype.mk
  dsimp only [opsOf, cAt, kids, B11, bodyOf, Tryd.f11, List.getD, List.getElem?_cons_zero, List.getElem?_cons_succ, Option.getD_some]
@[simp] theorem n11_77 (s : List V) (H : Heap) : evCode P Γ call n f m (cAt [1, 1, 1, 1, 1, 1, 0, 1, 0, 0, 1, 1, 0, 0, 0] B11) s H = regNext (evOpsGo P Γ call r11_77.1 r11_77.1 s H) := at_region (by kernel_rfl) r11_77.2 s H
attribute [simp] r11_77
@[simp] theorem n11_78 (s : List V) (H : Heap) : evCode P Γ call n f m (cAt [1, 1, 1, 1, 1, 1, 0, 1, 0, 0, 1, 1, 0, 0, 1] B11) s H = blockNext 6 (evCode P Γ call n f m (cAt [1, 1, 1, 1, 1, 1, 0, 1, 0, 0, 1, 1, 0, 0, 1, 0] B11) s H) := at_block (by kernel_rfl) rfl s H
@[simp] theorem n11_79 (s : List V) (H : Heap) : evCode P Γ call n f m (cAt [1, 1, 1, 1, 1, 1, 0, 1, 0, 0, 1, 1, 0, 0, 1, 0] B11) s H = seqNext P Γ call n f m (cAt [1, 1, 1, 1, 1, 1, 0, 1, 0, 0, 1, 1, 0, 0, 1, 0, 1] B11) (evCode P Γ call n f m (cAt [1, 1, 1, 1, 1, 1, 0, 1, 0, 0, 1, 1, 0, 0, 1, 0, 0] B11) s H) := at_seq (by kernel_rfl) rfl rfl s H
noncomputable def r11_80 : {l : List Oper // opsOf (cAt [1, 1, 1, 1, 1, 1, 0, 1, 0, 0, 1, 1, 0, 0, 1, 0, 0] B11) = l} := by
  apply Subtype.mk
  dsimp only [opsOf, cAt, kids, B11, bodyOf, Tryd.f11, List.getD, List.getElem?_cons_zero, List.getElem?_cons_succ, Option.getD_some]
@[simp] theorem n11_80 (s : List V) (H : Heap) : evCode P Γ call n f m (cAt [1, 1, 1, 1, 1, 1, 0, 1, 0, 0, 1, 1, 0, 0, 1, 0, 0] B11) s H = regNext (evOpsGo P Γ call r11_80.1 r11_80.1 s H) := at_region (by kernel_rfl) r11_80.2 s H
attribute [simp] r11_80
@[simp] theorem n11_81 (s : List V) (H : Heap) : evCode P Γ call n f m (cAt [1, 1, 1, 1, 1, 1, 0, 1, 0, 0, 1, 1, 0, 0, 1, 0, 1] B11) s H = condW P Γ call n f m (cAt [1, 1, 1, 1, 1, 1, 0, 1, 0, 0, 1, 1, 0, 0, 1, 0, 1, 0] B11) (cAt [1, 1, 1, 1, 1, 1, 0, 1, 0, 0, 1, 1, 0, 0, 1, 0, 1, 1] B11) s H (evOperand Γ s (.tmp 60)) := at_cond (by kernel_rfl) (by kernel_rfl) rfl rfl s H
@[simp] theorem n11_82 (s : List V) (H : Heap) : evCode P Γ call n f m (cAt [1, 1, 1, 1, 1, 1, 0, 1, 0, 0, 1, 1, 0, 0, 1, 0, 1, 0] B11) s H = seqNext P Γ call n f m (cAt [1, 1, 1, 1, 1, 1, 0, 1, 0, 0, 1, 1, 0, 0, 1, 0, 1, 0, 1] B11) (evCode P Γ call n f m (cAt [1, 1, 1, 1, 1, 1, 0, 1, 0, 0, 1, 1, 0, 0, 1, 0, 1, 0, 0] B11) s H) := at_seq (by kernel_rfl) rfl rfl s H
noncomputable def r11_83 : {l : List Oper // opsOf (cAt [1, 1, 1, 1, 1, 1, 0, 1, 0, 0, 1, 1, 0, 0, 1, 0, 1, 0, 0] B11) = l} := by
  apply Subtype.mk
  dsimp only [opsOf, cAt, kids, B11, bodyOf, Tryd.f11, List.getD, List.getElem?_cons_zero, List.getElem?_cons_succ, Option.getD_some]
@[simp] theorem n11_83 (s : List V) (H : Heap) : evCode P Γ call n f m (cAt [1, 1, 1, 1, 1, 1, 0, 1, 0, 0, 1, 1, 0, 0, 1, 0, 1, 0, 0] B11) s H = regNext (evOpsGo P Γ call r11_83.1 r11_83.1 s H) := at_region (by kernel_rfl) r11_83.2 s H
attribute [simp] r11_83
@[simp] theorem n11_84 (s : List V) (H : Heap) : evCode P Γ call n f m (cAt [1, 1, 1, 1, 1, 1, 0, 1, 0, 0, 1, 1, 0, 0, 1, 0, 1, 0, 1] B11) s H = some (.ret, s, H) := at_ret (by kernel_rfl) s H
@[simp] theorem n11_85 (s : List V) (H : Heap) : evCode P Γ call n f m (cAt [1, 1, 1, 1, 1, 1, 0, 1, 0, 0, 1, 1, 0, 0, 1, 0, 1, 1] B11) s H = seqNext P Γ call n f m (cAt [1, 1, 1, 1, 1, 1, 0, 1, 0, 0, 1, 1, 0, 0, 1, 0, 1, 1, 1] B11) (evCode P Γ call n f m (cAt [1, 1, 1, 1, 1, 1, 0, 1, 0, 0, 1, 1, 0, 0, 1, 0, 1, 1, 0] B11) s H) := at_seq (by kernel_rfl) rfl rfl s H
noncomputable def r11_86 : {l : List Oper // opsOf (cAt [1, 1, 1, 1, 1, 1, 0, 1, 0, 0, 1, 1, 0, 0, 1, 0, 1, 1, 0] B11) = l} := by
  apply Subtype.mk
  dsimp only [opsOf, cAt, kids, B11, bodyOf, Tryd.f11, List.getD, List.getElem?_cons_zero, List.getElem?_cons_succ, Option.getD_some]
@[simp] theorem n11_86 (s : List V) (H : Heap) : evCode P Γ call n f m (cAt [1, 1, 1, 1, 1, 1, 0, 1, 0, 0, 1, 1, 0, 0, 1, 0, 1, 1, 0] B11) s H = regNext (evOpsGo P Γ call r11_86.1 r11_86.1 s H) := at_region (by kernel_rfl) r11_86.2 s H
attribute [simp] r11_86
@[simp] theorem n11_87 (s : List V) (H : Heap) : evCode P Γ call n f m (cAt [1, 1, 1, 1, 1, 1, 0, 1, 0, 0, 1, 1, 0, 0, 1, 0, 1, 1, 1] B11) s H = condW P Γ call n f m (cAt [1, 1, 1, 1, 1, 1, 0, 1, 0, 0, 1, 1, 0, 0, 1, 0, 1, 1, 1, 0] B11) (cAt [1, 1, 1, 1, 1, 1, 0, 1, 0, 0, 1, 1, 0, 0, 1, 0, 1, 1, 1, 1] B11) s H (evOperand Γ s (.tmp 69)) := at_cond (by kernel_rfl) (by kernel_rfl) rfl rfl s H
@[simp] theorem n11_88 (s : List V) (H : Heap) : evCode P Γ call n f m (cAt [1, 1, 1, 1, 1, 1, 0, 1, 0, 0, 1, 1, 0, 0, 1, 0, 1, 1, 1, 0] B11) s H = seqNext P Γ call n f m (cAt [1, 1, 1, 1, 1, 1, 0, 1, 0, 0, 1, 1, 0, 0, 1, 0, 1, 1, 1, 0, 1] B11) (evCode P Γ call n f m (cAt [1, 1, 1, 1, 1, 1, 0, 1, 0, 0, 1, 1, 0, 0, 1, 0, 1, 1, 1, 0, 0] B11) s H) := at_seq (by kernel_rfl) rfl rfl s H
noncomputable def r11_89 : {l : List Oper // opsOf (cAt [1, 1, 1, 1, 1, 1, 0, 1, 0, 0, 1, 1, 0, 0, 1, 0, 1, 1, 1, 0, 0] B11) = l} := by
  apply Subtype.mk
  dsimp only [opsOf, cAt, kids, B11, bodyOf, Tryd.f11, List.getD, List.getElem?_cons_zero, List.getElem?_cons_succ, Option.getD_some]
@[simp] theorem n11_89 (s : List V) (H : Heap) : evCode P Γ call n f m (cAt [1, 1, 1, 1, 1, 1, 0, 1, 0, 0, 1, 1, 0, 0, 1, 0, 1, 1, 1, 0, 0] B11) s H = regNext (evOpsGo P Γ call r11_89.1 r11_89.1 s H) := at_region (by kernel_rfl) r11_89.2 s H
attribute [simp] r11_89
@[simp] theorem n11_90 (s : List V) (H : Heap) : evCode P Γ call n f m (cAt [1, 1, 1, 1, 1, 1, 0, 1, 0, 0, 1, 1, 0, 0, 1, 0, 1, 1, 1, 0, 1] B11) s H = some (.ret, s, H) := at_ret (by kernel_rfl) s H
@[simp] theorem n11_91 (s : List V) (H : Heap) : evCode P Γ call n f m (cAt [1, 1, 1, 1, 1, 1, 0, 1, 0, 0, 1, 1, 0, 0, 1, 0, 1, 1, 1, 1] B11) s H = seqNext P Γ call n f m (cAt [1, 1, 1, 1, 1, 1, 0, 1, 0, 0, 1, 1, 0, 0, 1, 0, 1, 1, 1, 1, 1] B11) (evCode P Γ call n f m (cAt [1, 1, 1, 1, 1, 1, 0, 1, 0, 0, 1, 1, 0, 0, 1, 0, 1, 1, 1, 1, 0] B11) s H) := at_seq (by kernel_rfl) rfl rfl s H
noncomputable def r11_92 : {l : List Oper // opsOf (cAt [1, 1, 1, 1, 1, 1, 0, 1, 0, 0, 1, 1, 0, 0, 1, 0, 1, 1, 1, 1, 0] B11) = l} := by
  apply Subtype.mk
  dsimp only [opsOf, cAt, kids, B11, bodyOf, Tryd.f11, List.getD, List.getElem?_cons_zero, List.getElem?_cons_succ, Option.getD_some]
@[simp] theorem n11_92 (s : List V) (H : Heap) : evCode P Γ call n f m (cAt [1, 1, 1, 1, 1, 1, 0, 1, 0, 0, 1, 1, 0, 0, 1, 0, 1, 1, 1, 1, 0] B11) s H = regNext (evOpsGo P Γ call r11_92.1 r11_92.1 s H) := at_region (by kernel_rfl) r11_92.2 s H
attribute [simp] r11_92
@[simp] theorem n11_93 (s : List V) (H : Heap) : evCode P Γ call n f m (cAt [1, 1, 1, 1, 1, 1, 0, 1, 0, 0, 1, 1, 0, 0, 1, 0, 1, 1, 1, 1, 1] B11) s H = condW P Γ call n f m (cAt [1, 1, 1, 1, 1, 1, 0, 1, 0, 0, 1, 1, 0, 0, 1, 0, 1, 1, 1, 1, 1, 0] B11) (cAt [1, 1, 1, 1, 1, 1, 0, 1, 0, 0, 1, 1, 0, 0, 1, 0, 1, 1, 1, 1, 1, 1] B11) s H (evOperand Γ s (.tmp 94)) := at_cond (by kernel_rfl) (by kernel_rfl) rfl rfl s H
@[simp] theorem n11_94 (s : List V) (H : Heap) : evCode P Γ call n f m (cAt [1, 1, 1, 1, 1, 1, 0, 1, 0, 0, 1, 1, 0, 0, 1, 0, 1, 1, 1, 1, 1, 0] B11) s H = seqNext P Γ call n f m (cAt [1, 1, 1, 1, 1, 1, 0, 1, 0, 0, 1, 1, 0, 0, 1, 0, 1, 1, 1, 1, 1, 0, 1] B11) (evCode P Γ call n f m (cAt [1, 1, 1, 1, 1, 1, 0, 1, 0, 0, 1, 1, 0, 0, 1, 0, 1, 1, 1, 1, 1, 0, 0] B11) s H) := at_seq (by kernel_rfl) rfl rfl s H
noncomputable def r11_95 : {l : List Oper // opsOf (cAt [1, 1, 1, 1, 1, 1, 0, 1, 0, 0, 1, 1, 0, 0, 1, 0, 1, 1, 1, 1, 1, 0, 0] B11) = l} := by
  apply Subtype.mk
  dsimp only [opsOf, cAt, kids, B11, bodyOf, Tryd.f11, List.getD, List.getElem?_cons_zero, List.getElem?_cons_succ, Option.getD_some]
@[simp] theorem n11_95 (s : List V) (H : Heap) : evCode P Γ call n f m (cAt [1, 1, 1, 1, 1, 1, 0, 1, 0, 0, 1, 1, 0, 0, 1, 0, 1, 1, 1, 1, 1, 0, 0] B11) s H = regNext (evOpsGo P Γ call r11_95.1 r11_95.1 s H) := at_region (by kernel_rfl) r11_95.2 s H
attribute [simp] r11_95
@[simp] theorem n11_96 (s : List V) (H : Heap) : evCode P Γ call n f m (cAt [1, 1, 1, 1, 1, 1, 0, 1, 0, 0, 1, 1, 0, 0, 1, 0, 1, 1, 1, 1, 1, 0, 1] B11) s H = some (.ret, s, H) := at_ret (by kernel_rfl) s H
@[simp] theorem n11_97 (s : List V) (H : Heap) : evCode P Γ call n f m (cAt [1, 1, 1, 1, 1, 1, 0, 1, 0, 0, 1, 1, 0, 0, 1, 0, 1, 1, 1, 1, 1, 1] B11) s H = some (.normal, s, H) := at_skip (by kernel_rfl) s H
noncomputable def r11_98 : {l : List Oper // opsOf (cAt [1, 1, 1, 1, 1, 1, 0, 1, 0, 0, 1, 1, 1] B11) = l} := by
  apply Subtype.mk
  dsimp only [opsOf, cAt, kids, B11, bodyOf, Tryd.f11, List.getD, List.getElem?_cons_zero, List.getElem?_cons_succ, Option.getD_some]
@[simp] theorem n11_98 (s : List V) (H : Heap) : evCode P Γ call n f m (cAt [1, 1, 1, 1, 1, 1, 0, 1, 0, 0, 1, 1, 1] B11) s H = regNext (evOpsGo P Γ call r11_98.1 r11_98.1 s H) := at_region (by kernel_rfl) r11_98.2 s H
attribute [simp] r11_98
@[simp] theorem n11_99 (s : List V) (H : Heap) : evCode P Γ call n f m (cAt [1, 1, 1, 1, 1, 1, 1] B11) s H = seqNext P Γ call n f m (cAt [1, 1, 1, 1, 1, 1, 1, 1] B11) (evCode P Γ call n f m (cAt [1, 1, 1, 1, 1, 1, 1, 0] B11) s H) := at_seq (by kernel_rfl) rfl rfl s H
@[simp] theorem n11_100 (s : List V) (H : Heap) : evCode P Γ call n f m (cAt [1, 1, 1, 1, 1, 1, 1, 0] B11) s H = seqNext P Γ call n f m (cAt [1, 1, 1, 1, 1, 1, 1, 0, 1] B11) (evCode P Γ call n f m (cAt [1, 1, 1, 1, 1, 1, 1, 0, 0] B11) s H) := at_seq (by kernel_rfl) rfl rfl s H
noncomputable def r11_101 : {l : List Oper // opsOf (cAt [1, 1, 1, 1, 1, 1, 1, 0, 0] B11) = l} := by
  apply Subtype.mk
  dsimp only [opsOf, cAt, kids, B11, bodyOf, Tryd.f11, List.getD, List.getElem?_cons_zero, List.getElem?_cons_succ, Option.getD_some]
@[simp] theorem n11_101 (s : List V) (H : Heap) : evCode P Γ call n f m (cAt [1, 1, 1, 1, 1, 1, 1, 0, 0] B11) s H = regNext (evOpsGo P Γ call r11_101.1 r11_101.1 s H) := at_region (by kernel_rfl) r11_101.2 s H
attribute [simp] r11_101
@[simp] theorem n11_102 (s : List V) (H : Heap) : evCode P Γ call n f m (cAt [1, 1, 1, 1, 1, 1, 1, 0, 1] B11) s H = condW P Γ call n f m (cAt [1, 1, 1, 1, 1, 1, 1, 0, 1, 0] B11) (cAt [1, 1, 1, 1, 1, 1, 1, 0, 1, 1] B11) s H (evOperand Γ s (.tmp 108)) := at_cond (by kernel_rfl) (by kernel_rfl) rfl rfl s H
@[simp] theorem n11_103 (s : List V) (H : Heap) : evCode P Γ call n f m (cAt [1, 1, 1, 1, 1, 1, 1, 0, 1, 0] B11) s H = seqNext P Γ call n f m (cAt [1, 1, 1, 1, 1, 1, 1, 0, 1, 0, 1] B11) (evCode P Γ call n f m (cAt [1, 1, 1, 1, 1, 1, 1, 0, 1, 0, 0] B11) s H) := at_seq (by kernel_rfl) rfl rfl s H
noncomputable def r11_104 : {l : List Oper // opsOf (cAt [1, 1, 1, 1, 1, 1, 1, 0, 1, 0, 0] B11) = l} := by
  apply Subtype.mk
  dsimp only [opsOf, cAt, kids, B11, bodyOf, Tryd.f11, List.getD, List.getElem?_cons_zero, List.getElem?_cons_succ, Option.getD_some]
@[simp] theorem n11_104 (s : List V) (H : Heap) : evCode P Γ call n f m (cAt [1, 1, 1, 1, 1, 1, 1, 0, 1, 0, 0] B11) s H = regNext (evOpsGo P Γ call r11_104.1 r11_104.1 s H) := at_region (by kernel_rfl) r11_104.2 s H
attribute [simp] r11_104
@[simp] theorem n11_105 (s : List V) (H : Heap) : evCode P Γ call n f m (cAt [1, 1, 1, 1, 1, 1, 1, 0, 1, 0, 1] B11) s H = some (.ret, s, H) := at_ret (by kernel_rfl) s H
@[simp] theorem n11_106 (s : List V) (H : Heap) : evCode P Γ call n f m (cAt [1, 1, 1, 1, 1, 1, 1, 0, 1, 1] B11) s H = some (.normal, s, H) := at_skip (by kernel_rfl) s H
@[simp] theorem n11_107 (s : List V) (H : Heap) : evCode P Γ call n f m (cAt [1, 1, 1, 1, 1, 1, 1, 1] B11) s H = seqNext P Γ call n f m (cAt [1, 1, 1, 1, 1, 1, 1, 1, 1] B11) (evCode P Γ call n f m (cAt [1, 1, 1, 1, 1, 1, 1, 1, 0] B11) s H) := at_seq (by kernel_rfl) rfl rfl s H
noncomputable def r11_108 : {l : List Oper // opsOf (cAt [1, 1, 1, 1, 1, 1, 1, 1, 0] B11) = l} := by
  apply Subtype.mk
  dsimp only [opsOf, cAt, kids, B11, bodyOf, Tryd.f11, List.getD, List.getElem?_cons_zero, List.getElem?_cons_succ, Option.getD_some]
@[simp] theorem n11_108 (s : List V) (H : Heap) : evCode P Γ call n f m (cAt [1, 1, 1, 1, 1, 1, 1, 1, 0] B11) s H = regNext (evOpsGo P Γ call r11_108.1 r11_108.1 s H) := at_region (by kernel_rfl) r11_108.2 s H
attribute [simp] r11_108
@[simp] theorem n11_109 (s : List V) (H : Heap) : evCode P Γ call n f m (cAt [1, 1, 1, 1, 1, 1, 1, 1, 1] B11) s H = some (.ret, s, H) := at_ret (by kernel_rfl) s H
theorem b11 {k : Nat} (ho : ∀ args H, Γ.orc 11 args H = none) (args : List V) (H : Heap) (ha : args.length ≤ 109) : evF Tryd.prog Γ (k + 1) 11 args H = bodyEnd Tryd.prog [.tmp 2] H.length (evCode Tryd.prog Γ (evF Tryd.prog Γ k) k 11 H.length (cAt [] B11) (mkL 109 V.undef (enumV 0 args)) H) := body_at Tryd.func11 (by decide) rfl ho rfl rfl args H ha
end
end Go.Ev.Tryd
