/-
  CODE BY NAMES, printed by wip/tools/codes.py (own work).
-/
import Derived.Test.YtflmadkbppnmcaaDoorDkG
set_option maxRecDepth 100000
set_option linter.unusedVariables false
namespace Go.Ev.Tryd
open Go Go.Ev Go.Proofs
section
variable {P : Program} {Γ : Env} {call : CallF} {n f m : Nat}

noncomputable def B14 : Code := bodyOf Tryd.f14
@[simp] theorem n14_1 (s : List V) (H : Heap) : evCode P Γ call n f m (cAt [] B14) s H = seqNext P Γ call n f m (cAt [1] B14) (evCode P Γ call n f m (cAt [0] B14) s H) := at_seq (by kernel_rfl) rfl rfl s H
noncomputable def r14_2 : {l : List Oper // opsOf (cAt [0] B14) = l} := by
  apply Subtype.mk
  dsimp only [opsOf, cAt, kids, B14, bodyOf, Tryd.f14, List.getD, List.getElem?_cons_zero, List.getElem?_cons_succ, Option.getD_some]
@[simp] theorem n14_2 (s : List V) (H : Heap) : evCode P Γ call n f m (cAt [0] B14) s H = regNext (evOpsGo P Γ call r14_2.1 r14_2.1 s H) := at_region (by kernel_rfl) r14_2.2 s H
attribute [simp] r14_2
@[simp] theorem n14_3 (s : List V) (H : Heap) : evCode P Γ call n f m (cAt [1] B14) s H = seqNext P Γ call n f m (cAt [1, 1] B14) (evCode P Γ call n f m (cAt [1, 0] B14) s H) := at_seq (by kernel_rfl) rfl rfl s H
@[simp] theorem n14_4 (s : List V) (H : Heap) : evCode P Γ call n f m (cAt [1, 0] B14) s H = seqNext P Γ call n f m (cAt [1, 0, 1] B14) (evCode P Γ call n f m (cAt [1, 0, 0] B14) s H) := at_seq (by kernel_rfl) rfl rfl s H
noncomputable def r14_5 : {l : List Oper // opsOf (cAt [1, 0, 0] B14) = l} := by
  apply Subtype.mk
  dsimp only [opsOf, cAt, kids, B14, bodyOf, Tryd.f14, List.getD, List.getElem?_cons_zero, List.getElem?_cons_succ, Option.getD_some]
@[simp] theorem n14_5 (s : List V) (H : Heap) : evCode P Γ call n f m (cAt [1, 0, 0] B14) s H = regNext (evOpsGo P Γ call r14_5.1 r14_5.1 s H) := at_region (by kernel_rfl) r14_5.2 s H
attribute [simp] r14_5
@[simp] theorem n14_6 (s : List V) (H : Heap) : evCode P Γ call n f m (cAt [1, 0, 1] B14) s H = seqNext P Γ call n f m (cAt [1, 0, 1, 1] B14) (evCode P Γ call n f m (cAt [1, 0, 1, 0] B14) s H) := at_seq (by kernel_rfl) rfl rfl s H
noncomputable def r14_7 : {l : List Oper // opsOf (cAt [1, 0, 1, 0] B14) = l} := by
  apply Subtype.mk
  dsimp only [opsOf, cAt, kids, B14, bodyOf, Tryd.f14, List.getD, List.getElem?_cons_zero, List.getElem?_cons_succ, Option.getD_some]
@[simp] theorem n14_7 (s : List V) (H : Heap) : evCode P Γ call n f m (cAt [1, 0, 1, 0] B14) s H = regNext (evOpsGo P Γ call r14_7.1 r14_7.1 s H) := at_region (by kernel_rfl) r14_7.2 s H
attribute [simp] r14_7
@[simp] theorem n14_8 (s : List V) (H : Heap) : evCode P Γ call n f m (cAt [1, 0, 1, 1] B14) s H = condW P Γ call n f m (cAt [1, 0, 1, 1, 0] B14) (cAt [1, 0, 1, 1, 1] B14) s H (evOperand Γ s (.tmp 21)) := at_cond (by kernel_rfl) (by kernel_rfl) rfl rfl s H
@[simp] theorem n14_9 (s : List V) (H : Heap) : evCode P Γ call n f m (cAt [1, 0, 1, 1, 0] B14) s H = seqNext P Γ call n f m (cAt [1, 0, 1, 1, 0, 1] B14) (evCode P Γ call n f m (cAt [1, 0, 1, 1, 0, 0] B14) s H) := at_seq (by kernel_rfl) rfl rfl s H
noncomputable def r14_10 : {l : List Oper // opsOf (cAt [1, 0, 1, 1, 0, 0] B14) = l} := by
  apply Subtype.mk
  dsimp only [opsOf, cAt, kids, B14, bodyOf, Tryd.f14, List.getD, List.getElem?_cons_zero, List.getElem?_cons_succ, Option.getD_some]
@[simp] theorem n14_10 (s : List V) (H : Heap) : evCode P Γ call n f m (cAt [1, 0, 1, 1, 0, 0] B14) s H = regNext (evOpsGo P Γ call r14_10.1 r14_10.1 s H) := at_region (by kernel_rfl) r14_10.2 s H
attribute [simp] r14_10
@[simp] theorem n14_11 (s : List V) (H : Heap) : evCode P Γ call n f m (cAt [1, 0, 1, 1, 0, 1] B14) s H = some (.ret, s, H) := at_ret (by kernel_rfl) s H
@[simp] theorem n14_12 (s : List V) (H : Heap) : evCode P Γ call n f m (cAt [1, 0, 1, 1, 1] B14) s H = some (.normal, s, H) := at_skip (by kernel_rfl) s H
@[simp] theorem n14_13 (s : List V) (H : Heap) : evCode P Γ call n f m (cAt [1, 1] B14) s H = seqNext P Γ call n f m (cAt [1, 1, 1] B14) (evCode P Γ call n f m (cAt [1, 1, 0] B14) s H) := at_seq (by kernel_rfl) rfl rfl s H
@[simp] theorem n14_14 (s : List V) (H : Heap) : evCode P Γ call n f m (cAt [1, 1, 0] B14) s H = seqNext P Γ call n f m (cAt [1, 1, 0, 1] B14) (evCode P Γ call n f m (cAt [1, 1, 0, 0] B14) s H) := at_seq (by kernel_rfl) rfl rfl s H
noncomputable def r14_15 : {l : List Oper // opsOf (cAt [1, 1, 0, 0] B14) = l} := by
  apply Subtype.mk
  dsimp only [opsOf, cAt, kids, B14, bodyOf, Tryd.f14, List.getD, List.getElem?_cons_zero, List.getElem?_cons_succ, Option.getD_some]
@[simp] theorem n14_15 (s : List V) (H : Heap) : evCode P Γ call n f m (cAt [1, 1, 0, 0] B14) s H = regNext (evOpsGo P Γ call r14_15.1 r14_15.1 s H) := at_region (by kernel_rfl) r14_15.2 s H
attribute [simp] r14_15
@[simp] theorem n14_16 (s : List V) (H : Heap) : evCode P Γ call n f m (cAt [1, 1, 0, 1] B14) s H = seqNext P Γ call n f m (cAt [1, 1, 0, 1, 1] B14) (evCode P Γ call n f m (cAt [1, 1, 0, 1, 0] B14) s H) := at_seq (by kernel_rfl) rfl rfl s H
noncomputable def r14_17 : {l : List Oper // opsOf (cAt [1, 1, 0, 1, 0] B14) = l} := by
  apply Subtype.mk
  dsimp only [opsOf, cAt, kids, B14, bodyOf, Tryd.f14, List.getD, List.getElem?_cons_zero, List.getElem?_cons_succ, Option.getD_some]
@[simp] theorem n14_17 (s : List V) (H : Heap) : evCode P Γ call n f m (cAt [1, 1, 0, 1, 0] B14) s H = regNext (evOpsGo P Γ call r14_17.1 r14_17.1 s H) := at_region (by kernel_rfl) r14_17.2 s H
attribute [simp] r14_17
@[simp] theorem n14_18 (s : List V) (H : Heap) : evCode P Γ call n f m (cAt [1, 1, 0, 1, 1] B14) s H = condW P Γ call n f m (cAt [1, 1, 0, 1, 1, 0] B14) (cAt [1, 1, 0, 1, 1, 1] B14) s H (evOperand Γ s (.tmp 29)) := at_cond (by kernel_rfl) (by kernel_rfl) rfl rfl s H
@[simp] theorem n14_19 (s : List V) (H : Heap) : evCode P Γ call n f m (cAt [1, 1, 0, 1, 1, 0] B14) s H = seqNext P Γ call n f m (cAt [1, 1, 0, 1, 1, 0, 1] B14) (evCode P Γ call n f m (cAt [1, 1, 0, 1, 1, 0, 0] B14) s H) := at_seq (by kernel_rfl) rfl rfl s H
noncomputable def r14_20 : {l : List Oper // opsOf (cAt [1, 1, 0, 1, 1, 0, 0] B14) = l} := by
  apply Subtype.mk
  dsimp only [opsOf, cAt, kids, B14, bodyOf, Tryd.f14, List.getD, List.getElem?_cons_zero, List.getElem?_cons_succ, Option.getD_some]
@[simp] theorem n14_20 (s : List V) (H : Heap) : evCode P Γ call n f m (cAt [1, 1, 0, 1, 1, 0, 0] B14) s H = regNext (evOpsGo P Γ call r14_20.1 r14_20.1 s H) := at_region (by kernel_rfl) r14_20.2 s H
attribute [simp] r14_20
@[simp] theorem n14_21 (s : List V) (H : Heap) : evCode P Γ call n f m (cAt [1, 1, 0, 1, 1, 0, 1] B14) s H = some (.ret, s, H) := at_ret (by kernel_rfl) s H
@[simp] theorem n14_22 (s : List V) (H : Heap) : evCode P Γ call n f m (cAt [1, 1, 0, 1, 1, 1] B14) s H = some (.normal, s, H) := at_skip (by kernel_rfl) s H
@[simp] theorem n14_23 (s : List V) (H : Heap) : evCode P Γ call n f m (cAt [1, 1, 1] B14) s H = seqNext P Γ call n f m (cAt [1, 1, 1, 1] B14) (evCode P Γ call n f m (cAt [1, 1, 1, 0] B14) s H) := at_seq (by kernel_rfl) rfl rfl s H
noncomputable def r14_24 : {l : List Oper // opsOf (cAt [1, 1, 1, 0] B14) = l} := by
  apply Subtype.mk
  dsimp only [opsOf, cAt, kids, B14, bodyOf, Tryd.f14, List.getD, List.getElem?_cons_zero, List.getElem?_cons_succ, Option.getD_some]
@[simp] theorem n14_24 (s : List V) (H : Heap) : evCode P Γ call n f m (cAt [1, 1, 1, 0] B14) s H = regNext (evOpsGo P Γ call r14_24.1 r14_24.1 s H) := at_region (by kernel_rfl) r14_24.2 s H
attribute [simp] r14_24
@[simp] theorem n14_25 (s : List V) (H : Heap) : evCode P Γ call n f m (cAt [1, 1, 1, 1] B14) s H = seqNext P Γ call n f m (cAt [1, 1, 1, 1, 1] B14) (evCode P Γ call n f m (cAt [1, 1, 1, 1, 0] B14) s H) := at_seq (by kernel_rfl) rfl rfl s H
@[simp] theorem n14_26 (s : List V) (H : Heap) : evCode P Γ call n f m (cAt [1, 1, 1, 1, 0] B14) s H = seqNext P Γ call n f m (cAt [1, 1, 1, 1, 0, 1] B14) (evCode P Γ call n f m (cAt [1, 1, 1, 1, 0, 0] B14) s H) := at_seq (by kernel_rfl) rfl rfl s H
noncomputable def r14_27 : {l : List Oper // opsOf (cAt [1, 1, 1, 1, 0, 0] B14) = l} := by
  apply Subtype.mk
  dsimp only [opsOf, cAt, kids, B14, bodyOf, Tryd.f14, List.getD, List.getElem?_cons_zero, List.getElem?_cons_succ, Option.getD_some]
@[simp] theorem n14_27 (s : List V) (H : Heap) : evCode P Γ call n f m (cAt [1, 1, 1, 1, 0, 0] B14) s H = regNext (evOpsGo P Γ call r14_27.1 r14_27.1 s H) := at_region (by kernel_rfl) r14_27.2 s H
attribute [simp] r14_27
@[simp] theorem n14_28 (s : List V) (H : Heap) : evCode P Γ call n f m (cAt [1, 1, 1, 1, 0, 1] B14) s H = blockNext 0 (evCode P Γ call n f m (cAt [1, 1, 1, 1, 0, 1, 0] B14) s H) := at_block (by kernel_rfl) rfl s H
@[simp] theorem n14_29 (s : List V) (H : Heap) : evCode P Γ call n f m (cAt [1, 1, 1, 1, 0, 1, 0] B14) s H = evLoopC P Γ call n f m (cAt [1, 1, 1, 1, 0, 1, 0, 0] B14) n s H := at_loop (by kernel_rfl) rfl s H
noncomputable abbrev L14_9 : Code := cAt [1, 1, 1, 1, 0, 1, 0, 0] B14
@[simp] theorem n14_29f : firstRegion (cAt [1, 1, 1, 1, 0, 1, 0, 0] B14) = 9 := by kernel_rfl
@[simp] theorem n14_30 (s : List V) (H : Heap) : evCode P Γ call n f m (cAt [1, 1, 1, 1, 0, 1, 0, 0] B14) s H = seqNext P Γ call n f m (cAt [1, 1, 1, 1, 0, 1, 0, 0, 1] B14) (evCode P Γ call n f m (cAt [1, 1, 1, 1, 0, 1, 0, 0, 0] B14) s H) := at_seq (by kernel_rfl) rfl rfl s H
noncomputable def r14_31 : {l : List Oper // opsOf (cAt [1, 1, 1, 1, 0, 1, 0, 0, 0] B14) = l} := by
  apply Subtype.mk
  dsimp only [opsOf, cAt, kids, B14, bodyOf, Tryd.f14, List.getD, List.getElem?_cons_zero, List.getElem?_cons_succ, Option.getD_some]
@[simp] theorem n14_31 (s : List V) (H : Heap) : evCode P Γ call n f m (cAt [1, 1, 1, 1, 0, 1, 0, 0, 0] B14) s H = regNext (evOpsGo P Γ call r14_31.1 r14_31.1 s H) := at_region (by kernel_rfl) r14_31.2 s H
attribute [simp] r14_31
@[simp] theorem n14_32 (s : List V) (H : Heap) : evCode P Γ call n f m (cAt [1, 1, 1, 1, 0, 1, 0, 0, 1] B14) s H = seqNext P Γ call n f m (cAt [1, 1, 1, 1, 0, 1, 0, 0, 1, 1] B14) (evCode P Γ call n f m (cAt [1, 1, 1, 1, 0, 1, 0, 0, 1, 0] B14) s H) := at_seq (by kernel_rfl) rfl rfl s H
@[simp] theorem n14_33 (s : List V) (H : Heap) : evCode P Γ call n f m (cAt [1, 1, 1, 1, 0, 1, 0, 0, 1, 0] B14) s H = condW P Γ call n f m (cAt [1, 1, 1, 1, 0, 1, 0, 0, 1, 0, 0] B14) (cAt [1, 1, 1, 1, 0, 1, 0, 0, 1, 0, 1] B14) s H (evOperand Γ s (.tmp 33)) := at_cond (by kernel_rfl) (by kernel_rfl) rfl rfl s H
@[simp] theorem n14_34 (s : List V) (H : Heap) : evCode P Γ call n f m (cAt [1, 1, 1, 1, 0, 1, 0, 0, 1, 0, 0] B14) s H = some (.normal, s, H) := at_skip (by kernel_rfl) s H
@[simp] theorem n14_35 (s : List V) (H : Heap) : evCode P Γ call n f m (cAt [1, 1, 1, 1, 0, 1, 0, 0, 1, 0, 1] B14) s H = some (.exit 0, s, H) := at_exit (by kernel_rfl) s H
@[simp] theorem n14_36 (s : List V) (H : Heap) : evCode P Γ call n f m (cAt [1, 1, 1, 1, 0, 1, 0, 0, 1, 1] B14) s H = seqNext P Γ call n f m (cAt [1, 1, 1, 1, 0, 1, 0, 0, 1, 1, 1] B14) (evCode P Γ call n f m (cAt [1, 1, 1, 1, 0, 1, 0, 0, 1, 1, 0] B14) s H) := at_seq (by kernel_rfl) rfl rfl s H
@[simp] theorem n14_37 (s : List V) (H : Heap) : evCode P Γ call n f m (cAt [1, 1, 1, 1, 0, 1, 0, 0, 1, 1, 0] B14) s H = blockNext 1 (evCode P Γ call n f m (cAt [1, 1, 1, 1, 0, 1, 0, 0, 1, 1, 0, 0] B14) s H) := at_block (by kernel_rfl) rfl s H
@[simp] theorem n14_38 (s : List V) (H : Heap) : evCode P Γ call n f m (cAt [1, 1, 1, 1, 0, 1, 0, 0, 1, 1, 0, 0] B14) s H = seqNext P Γ call n f m (cAt [1, 1, 1, 1, 0, 1, 0, 0, 1, 1, 0, 0, 1] B14) (evCode P Γ call n f m (cAt [1, 1, 1, 1, 0, 1, 0, 0, 1, 1, 0, 0, 0] B14) s H) := at_seq (by kernel_rfl) rfl rfl s H
noncomputable def r14_39 : {l : List Oper // opsOf (cAt [1, 1, 1, 1, 0, 1, 0, 0, 1, 1, 0, 0, 0] B14) = l} := by
  apply Subtype.mk
  dsimp only [opsOf, cAt, kids, B14, bodyOf, Tryd.f14, List.getD, List.getElem?_cons_zero, List.getElem?_cons_succ, Option.getD_some]
@[simp] theorem n14_39 (s : List V) (H : Heap) : evCode P Γ call n f m (cAt [1, 1, 1, 1, 0, 1, 0, 0, 1, 1, 0, 0, 0] B14) s H = regNext (evOpsGo P Γ call r14_39.1 r14_39.1 s H) := at_region (by kernel_rfl) r14_39.2 s H
attribute [simp] r14_39
noncomputable def r14_40 : {l : List Oper // opsOf (cAt [1, 1, 1, 1, 0, 1, 0, 0, 1, 1, 0, 0, 1] B14) = l} := by
  apply Subtype.mk
  dsimp only [opsOf, cAt, kids, B14, bodyOf, Tryd.f14, List.getD, List.getElem?_cons_zero, List.getElem?_cons_succ, Option.getD_some]
@[simp] theorem n14_40 (s : List V) (H : Heap) : evCode P Γ call n f m (cAt [1, 1, 1, 1, 0, 1, 0, 0, 1, 1, 0, 0, 1] B14) s H = regNext (evOpsGo P Γ call r14_40.1 r14_40.1 s H) := at_region (by kernel_rfl) r14_40.2 s H
attribute [simp] r14_40
noncomputable def r14_41 : {l : List Oper // opsOf (cAt [1, 1, 1, 1, 0, 1, 0, 0, 1, 1, 1] B14) = l} := by
  apply Subtype.mk
  dsimp only [opsOf, cAt, kids, B14, bodyOf, Tryd.f14, List.getD, List.getElem?_cons_zero, List.getElem?_cons_succ, Option.getD_some]
@[simp] theorem n14_41 (s : List V) (H : Heap) : evCode P Γ call n f m (cAt [1, 1, 1, 1, 0, 1, 0, 0, 1, 1, 1] B14) s H = regNext (evOpsGo P Γ call r14_41.1 r14_41.1 s H) := at_region (by kernel_rfl) r14_41.2 s H
attribute [simp] r14_41
@[simp] theorem n14_42 (s : List V) (H : Heap) : evCode P Γ call n f m (cAt [1, 1, 1, 1, 1] B14) s H = seqNext P Γ call n f m (cAt [1, 1, 1, 1, 1, 1] B14) (evCode P Γ call n f m (cAt [1, 1, 1, 1, 1, 0] B14) s H) := at_seq (by kernel_rfl) rfl rfl s H
@[simp] theorem n14_43 (s : List V) (H : Heap) : evCode P Γ call n f m (cAt [1, 1, 1, 1, 1, 0] B14) s H = seqNext P Γ call n f m (cAt [1, 1, 1, 1, 1, 0, 1] B14) (evCode P Γ call n f m (cAt [1, 1, 1, 1, 1, 0, 0] B14) s H) := at_seq (by kernel_rfl) rfl rfl s H
noncomputable def r14_44 : {l : List Oper // opsOf (cAt [1, 1, 1, 1, 1, 0, 0] B14) = l} := by
  apply Subtype.mk
  dsimp only [opsOf, cAt, kids, B14, bodyOf, Tryd.f14, List.getD, List.getElem?_cons_zero, List.getElem?_cons_succ, Option.getD_some]
@[simp] theorem n14_44 (s : List V) (H : Heap) : evCode P Γ call n f m (cAt [1, 1, 1, 1, 1, 0, 0] B14) s H = regNext (evOpsGo P Γ call r14_44.1 r14_44.1 s H) := at_region (by kernel_rfl) r14_44.2 s H
attribute [simp] r14_44
@[simp] theorem n14_45 (s : List V) (H : Heap) : evCode P Γ call n f m (cAt [1, 1, 1, 1, 1, 0, 1] B14) s H = blockNext 2 (evCode P Γ call n f m (cAt [1, 1, 1, 1, 1, 0, 1, 0] B14) s H) := at_block (by kernel_rfl) rfl s H
@[simp] theorem n14_46 (s : List V) (H : Heap) : evCode P Γ call n f m (cAt [1, 1, 1, 1, 1, 0, 1, 0] B14) s H = evLoopC P Γ call n f m (cAt [1, 1, 1, 1, 1, 0, 1, 0, 0] B14) n s H := at_loop (by kernel_rfl) rfl s H
noncomputable abbrev L14_14 : Code := cAt [1, 1, 1, 1, 1, 0, 1, 0, 0] B14
@[simp] theorem n14_46f : firstRegion (cAt [1, 1, 1, 1, 1, 0, 1, 0, 0] B14) = 14 := by kernel_rfl
@[simp] theorem n14_47 (s : List V) (H : Heap) : evCode P Γ call n f m (cAt [1, 1, 1, 1, 1, 0, 1, 0, 0] B14) s H = seqNext P Γ call n f m (cAt [1, 1, 1, 1, 1, 0, 1, 0, 0, 1] B14) (evCode P Γ call n f m (cAt [1, 1, 1, 1, 1, 0, 1, 0, 0, 0] B14) s H) := at_seq (by kernel_rfl) rfl rfl s H
@[simp] theorem n14_48 (s : List V) (H : Heap) : evCode P Γ call n f m (cAt [1, 1, 1, 1, 1, 0, 1, 0, 0, 0] B14) s H = seqNext P Γ call n f m (cAt [1, 1, 1, 1, 1, 0, 1, 0, 0, 0, 1] B14) (evCode P Γ call n f m (cAt [1, 1, 1, 1, 1, 0, 1, 0, 0, 0, 0] B14) s H) := at_seq (by kernel_rfl) rfl rfl s H
noncomputable def r14_49 : {l : List Oper // opsOf (cAt [1, 1, 1, 1, 1, 0, 1, 0, 0, 0, 0] B14) = l} := by
  apply Subtype.mk
  dsimp only [opsOf, cAt, kids, B14, bodyOf, Tryd.f14, List.getD, List.getElem?_cons_zero, List.getElem?_cons_succ, Option.getD_some]
@[simp] theorem n14_49 (s : List V) (H : Heap) : evCode P Γ call n f m (cAt [1, 1, 1, 1, 1, 0, 1, 0, 0, 0, 0] B14) s H = regNext (evOpsGo P Γ call r14_49.1 r14_49.1 s H) := at_region (by kernel_rfl) r14_49.2 s H
attribute [simp] r14_49
@[simp] theorem n14_50 (s : List V) (H : Heap) : evCode P Γ call n f m (cAt [1, 1, 1, 1, 1, 0, 1, 0, 0, 0, 1] B14) s H = condW P Γ call n f m (cAt [1, 1, 1, 1, 1, 0, 1, 0, 0, 0, 1, 0] B14) (cAt [1, 1, 1, 1, 1, 0, 1, 0, 0, 0, 1, 1] B14) s H (evOperand Γ s (.tmp 43)) := at_cond (by kernel_rfl) (by kernel_rfl) rfl rfl s H
@[simp] theorem n14_51 (s : List V) (H : Heap) : evCode P Γ call n f m (cAt [1, 1, 1, 1, 1, 0, 1, 0, 0, 0, 1, 0] B14) s H = some (.normal, s, H) := at_skip (by kernel_rfl) s H
@[simp] theorem n14_52 (s : List V) (H : Heap) : evCode P Γ call n f m (cAt [1, 1, 1, 1, 1, 0, 1, 0, 0, 0, 1, 1] B14) s H = some (.exit 2, s, H) := at_exit (by kernel_rfl) s H
@[simp] theorem n14_53 (s : List V) (H : Heap) : evCode P Γ call n f m (cAt [1, 1, 1, 1, 1, 0, 1, 0, 0, 1] B14) s H = blockNext 3 (evCode P Γ call n f m (cAt [1, 1, 1, 1, 1, 0, 1, 0, 0, 1, 0] B14) s H) := at_block (by kernel_rfl) rfl s H
@[simp] theorem n14_54 (s : List V) (H : Heap) : evCode P Γ call n f m (cAt [1, 1, 1, 1, 1, 0, 1, 0, 0, 1, 0] B14) s H = seqNext P Γ call n f m (cAt [1, 1, 1, 1, 1, 0, 1, 0, 0, 1, 0, 1] B14) (evCode P Γ call n f m (cAt [1, 1, 1, 1, 1, 0, 1, 0, 0, 1, 0, 0] B14) s H) := at_seq (by kernel_rfl) rfl rfl s H
noncomputable def r14_55 : {l : List Oper // opsOf (cAt [1, 1, 1, 1, 1, 0, 1, 0, 0, 1, 0, 0] B14) = l} := by
  apply Subtype.mk
  dsimp only [opsOf, cAt, kids, B14, bodyOf, Tryd.f14, List.getD, List.getElem?_cons_zero, List.getElem?_cons_succ, Option.getD_some]
@[simp] theorem n14_55 (s : List V) (H : Heap) : evCode P Γ call n f m (cAt [1, 1, 1, 1, 1, 0, 1, 0, 0, 1, 0, 0] B14) s H = regNext (evOpsGo P Γ call r14_55.1 r14_55.1 s H) := at_region (by kernel_rfl) r14_55.2 s H
attribute [simp] r14_55
@[simp] theorem n14_56 (s : List V) (H : Heap) : evCode P Γ call n f m (cAt [1, 1, 1, 1, 1, 0, 1, 0, 0, 1, 0, 1] B14) s H = seqNext P Γ call n f m (cAt [1, 1, 1, 1, 1, 0, 1, 0, 0, 1, 0, 1, 1] B14) (evCode P Γ call n f m (cAt [1, 1, 1, 1, 1, 0, 1, 0, 0, 1, 0, 1, 0] B14) s H) := at_seq (by kernel_rfl) rfl rfl s H
@[simp] theorem n14_57 (s : List V) (H : Heap) : evCode P Γ call n f m (cAt [1, 1, 1, 1, 1, 0, 1, 0, 0, 1, 0, 1, 0] B14) s H = seqNext P Γ call n f m (cAt [1, 1, 1, 1, 1, 0, 1, 0, 0, 1, 0, 1, 0, 1] B14) (evCode P Γ call n f m (cAt [1, 1, 1, 1, 1, 0, 1, 0, 0, 1, 0, 1, 0, 0] B14) s H) := at_seq (by kernel_rfl) rfl rfl s H
noncomputable def r14_58 : {l : List Oper // opsOf (cAt [1, 1, 1, 1, 1, 0, 1, 0, 0, 1, 0, 1, 0, 0] B14) = l} := by
  apply Subtype.mk
  dsimp only [opsOf, cAt, kids, B14, bodyOf, Tryd.f14, List.getD, List.getElem?_cons_zero, List.getElem?_cons_succ, Option.getD_some]
@[simp] theorem n14_58 (s : List V) (H : Heap) : evCode P Γ call n f m (cAt [1, 1, 1, 1, 1, 0, 1, 0, 0, 1, 0, 1, 0, 0] B14) s H = regNext (evOpsGo P Γ call r14_58.1 r14_58.1 s H) := at_region (by kernel_rfl) r14_58.2 s H
attribute [simp] r14_58
@[simp] theorem n14_59 (s : List V) (H : Heap) : evCode P Γ call n f m (cAt [1, 1, 1, 1, 1, 0, 1, 0, 0, 1, 0, 1, 0, 1] B14) s H = blockNext 4 (evCode P Γ call n f m (cAt [1, 1, 1, 1, 1, 0, 1, 0, 0, 1, 0, 1, 0, 1, 0] B14) s H) := at_block (by kernel_rfl) rfl s H
@[simp] theorem n14_60 (s : List V) (H : Heap) : evCode P Γ call n f m (cAt [1, 1, 1, 1, 1, 0, 1, 0, 0, 1, 0, 1, 0, 1, 0] B14) s H = evLoopC P Γ call n f m (cAt [1, 1, 1, 1, 1, 0, 1, 0, 0, 1, 0, 1, 0, 1, 0, 0] B14) n s H := at_loop (by kernel_rfl) rfl s H
noncomputable abbrev L14_17 : Code := cAt [1, 1, 1, 1, 1, 0, 1, 0, 0, 1, 0, 1, 0, 1, 0, 0] B14
@[simp] theorem n14_60f : firstRegion (cAt [1, 1, 1, 1, 1, 0, 1, 0, 0, 1, 0, 1, 0, 1, 0, 0] B14) = 17 := by kernel_rfl
@[simp] theorem n14_61 (s : List V) (H : Heap) : evCode P Γ call n f m (cAt [1, 1, 1, 1, 1, 0, 1, 0, 0, 1, 0, 1, 0, 1, 0, 0] B14) s H = seqNext P Γ call n f m (cAt [1, 1, 1, 1, 1, 0, 1, 0, 0, 1, 0, 1, 0, 1, 0, 0, 1] B14) (evCode P Γ call n f m (cAt [1, 1, 1, 1, 1, 0, 1, 0, 0, 1, 0, 1, 0, 1, 0, 0, 0] B14) s H) := at_seq (by kernel_rfl) rfl rfl s H
noncomputable def r14_62 : {l : List Oper // opsOf (cAt [1, 1, 1, 1, 1, 0, 1, 0, 0, 1, 0, 1, 0, 1, 0, 0, 0] B14) = l} := by
  apply Subtype.mk
  dsimp only [opsOf, cAt, kids, B14, bodyOf, Tryd.f14, List.getD, List.getElem?_cons_zero, List.getElem?_cons_succ, Option.getD_some]
@[simp] theorem n14_62 (s : List V) (H : Heap) : evCode P Γ call n f m (cAt [1, 1, 1, 1, 1, 0, 1, 0, 0, 1, 0, 1, 0, 1, 0, 0, 0] B14) s H = regNext (evOpsGo P Γ call r14_62.1 r14_62.1 s H) := at_region (by kernel_rfl) r14_62.2 s H
attribute [simp] r14_62
@[simp] theorem n14_63 (s : List V) (H : Heap) : evCode P Γ call n f m (cAt [1, 1, 1, 1, 1, 0, 1, 0, 0, 1, 0, 1, 0, 1, 0, 0, 1] B14) s H = seqNext P Γ call n f m (cAt [1, 1, 1, 1, 1, 0, 1, 0, 0, 1, 0, 1, 0, 1, 0, 0, 1, 1] B14) (evCode P Γ call n f m (cAt [1, 1, 1, 1, 1, 0, 1, 0, 0, 1, 0, 1, 0, 1, 0, 0, 1, 0] B14) s H) := at_seq (by kernel_rfl) rfl rfl s H
@[simp] theorem n14_64 (s : List V) (H : Heap) : evCode P Γ call n f m (cAt [1, 1, 1, 1, 1, 0, 1, 0, 0, 1, 0, 1, 0, 1, 0, 0, 1, 0] B14) s H = condW P Γ call n f m (cAt [1, 1, 1, 1, 1, 0, 1, 0, 0, 1, 0, 1, 0, 1, 0, 0, 1, 0, 0] B14) (cAt [1, 1, 1, 1, 1, 0, 1, 0, 0, 1, 0, 1, 0, 1, 0, 0, 1, 0, 1] B14) s H (evOperand Γ s (.tmp 47)) := at_cond (by kernel_rfl) (by kernel_rfl) rfl rfl s H
@[simp] theorem n14_65 (s : List V) (H : Heap) : evCode P Γ call n f m (cAt [1, 1, 1, 1, 1, 0, 1, 0, 0, 1, 0, 1, 0, 1, 0, 0, 1, 0, 0] B14) s H = some (.normal, s, H) := at_skip (by kernel_rfl) s H
@[simp] theorem n14_66 (s : List V) (H : Heap) : evCode P Γ call n f m (cAt [1, 1, 1, 1, 1, 0, 1, 0, 0, 1, 0, 1, 0, 1, 0, 0, 1, 0, 1] B14) s H = some (.exit 4, s, H) := at_exit (by kernel_rfl) s H
@[simp] theorem n14_67 (s : List V) (H : Heap) : evCode P Γ call n f m (cAt [1, 1, 1, 1, 1, 0, 1, 0, 0, 1, 0, 1, 0, 1, 0, 0, 1, 1] B14) s H = seqNext P Γ call n f m (cAt [1, 1, 1, 1, 1, 0, 1, 0, 0, 1, 0, 1, 0, 1, 0, 0, 1, 1, 1] B14) (evCode P Γ call n f m (cAt [1, 1, 1, 1, 1, 0, 1, 0, 0, 1, 0, 1, 0, 1, 0, 0, 1, 1, 0] B14) s H) := at_seq (by kernel_rfl) rfl rfl s H
@[simp] theorem n14_68 (s : List V) (H : Heap) : evCode P Γ call n f m (cAt [1, 1, 1, 1, 1, 0, 1, 0, 0, 1, 0, 1, 0, 1, 0, 0, 1, 1, 0] B14) s H = blockNext 5 (evCode P Γ call n f m (cAt [1, 1, 1, 1, 1, 0, 1, 0, 0, 1, 0, 1, 0, 1, 0, 0, 1, 1, 0, 0] B14) s H) := at_block (by kernel_rfl) rfl s H
@[simp] theorem n14_69 (s : List V) (H : Heap) : evCode P Γ call n f m (cAt [1, 1, 1, 1, 1, 0, 1, 0, 0, 1, 0, 1, 0, 1, 0, 0, 1, 1, 0, 0] B14) s H = seqNext P Γ call n f m (cAt [1, 1, 1, 1, 1, 0, 1, 0, 0, 1, 0, 1, 0, 1, 0, 0, 1, 1, 0, 0, 1] B14) (evCode P Γ call n f m (cAt [1, 1, 1, 1, 1, 0, 1, 0, 0, 1, 0, 1, 0, 1, 0, 0, 1, 1, 0, 0, 0] B14) s H) := at_seq (by kernel_rfl) rfl rfl s H
noncomputable def r14_70 : {l : List Oper // opsOf (cAt [1, 1, 1, 1, 1, 0, 1, 0, 0, 1, 0, 1, 0, 1, 0, 0, 1, 1, 0, 0, 0] B14) = l} := by
  apply Subtype.mk
  dsimp only [opsOf, cAt, kids, B14, bodyOf, Tryd.f14, List.getD, List.getElem?_cons_zero, List.getElem?_cons_succ, Option.getD_some]
@[simp] theorem n14_70 (s : List V) (H : Heap) : evCode P Γ call n f m (cAt [1, 1, 1, 1, 1, 0, 1, 0, 0, 1, 0, 1, 0, 1, 0, 0, 1, 1, 0, 0, 0] B14) s H = regNext (evOpsGo P Γ call r14_70.1 r14_70.1 s H) := at_region (by kernel_rfl) r14_70.2 s H
attribute [simp] r14_70
@[simp] theorem n14_71 (s : List V) (H : Heap) : evCode P Γ call n f m (cAt [1, 1, 1, 1, 1, 0, 1, 0, 0, 1, 0, 1, 0, 1, 0, 0, 1, 1, 0, 0, 1] B14) s H = seqNext P Γ call n f m (cAt [1, 1, 1, 1, 1, 0, 1, 0, 0, 1, 0, 1, 0, 1, 0, 0, 1, 1, 0, 0, 1, 1] B14) (evCode P Γ call n f m (cAt [1, 1, 1, 1, 1, 0, 1, 0, 0, 1, 0, 1, 0, 1, 0, 0, 1, 1, 0, 0, 1, 0] B14) s H) := at_seq (by kernel_rfl) rfl rfl s H
noncomputable def r14_72 : {l : List Oper // opsOf (cAt [1, 1, 1, 1, 1, 0, 1, 0, 0, 1, 0, 1, 0, 1, 0, 0, 1, 1, 0, 0, 1, 0] B14) = l} := by
  apply Subtype.mk
  dsimp only [opsOf, cAt, kids, B14, bodyOf, Tryd.f14, List.getD, List.getElem?_cons_zero, List.getElem?_cons_succ, Option.getD_some]
@[simp] theorem n14_72 (s : List V) (H : Heap) : evCode P Γ call n f m (cAt [1, 1, 1, 1, 1, 0, 1, 0, 0, 1, 0, 1, 0, 1, 0, 0, 1, 1, 0, 0, 1, 0] B14) s H = regNext (evOpsGo P Γ call r14_72.1 r14_72.1 s H) := at_region (by kernel_rfl) r14_72.2 s H
attribute [simp] r14_72
@[simp] theorem n14_73 (s : List V) (H : Heap) : evCode P Γ call n f m (cAt [1, 1, 1, 1, 1, 0, 1, 0, 0, 1, 0, 1, 0, 1, 0, 0, 1, 1, 0, 0, 1, 1] B14) s H = condW P Γ call n f m (cAt [1, 1, 1, 1, 1, 0, 1, 0, 0, 1, 0, 1, 0, 1, 0, 0, 1, 1, 0, 0, 1, 1, 0] B14) (cAt [1, 1, 1, 1, 1, 0, 1, 0, 0, 1, 0, 1, 0, 1, 0, 0, 1, 1, 0, 0, 1, 1, 1] B14) s H (evOperand Γ s (.tmp 53)) := at_cond (by kernel_rfl) (by kernel_rfl) rfl rfl s H
noncomputable def r14_74 : {l : List Oper // opsOf (cAt [1, 1, 1, 1, 1, 0, 1, 0, 0, 1, 0, 1, 0, 1, 0, 0, 1, 1, 0, 0, 1, 1, 0] B14) = l} := by
  apply Subtype.mk
  dsimp only [opsOf, cAt, kids, B14, bodyOf, Tryd.f14, List.getD, List.getElem?_cons_zero, List.getElem?_cons_succ, Option.getD_some]
@[simp] theorem n14_74 (s : List V) (H : Heap) : evCode P Γ call n f m (cAt [1, 1, 1, 1, 1, 0, 1, 0, 0, 1, 0, 1, 0, 1, 0, 0, 1, 1, 0, 0, 1, 1, 0] B14) s H = regNext (evOpsGo P Γ call r14_74.1 r14_74.1 s H) := at_region (by kernel_rfl) r14_74.2 s H
attribute [simp] r14_74
@[simp] theorem n14_75 (s : List V) (H : Heap) : evCode P Γ call n f m (cAt [1, 1, 1, 1, 1, 0, 1, 0, 0, 1, 0, 1, 0, 1, 0, 0, 1, 1, 0, 0, 1, 1, 1] B14) s H = some (.normal, s, H) := at_skip (by kernel_rfl) s H
noncomputable def r14_76 : {l : List Oper // opsOf (cAt [1, 1, 1, 1, 1, 0, 1, 0, 0, 1, 0, 1, 0, 1, 0, 0, 1, 1, 1] B14) = l} := by
  apply Subtype.mk
  dsimp only [opsOf, cAt, kids, B14, bodyOf, Tryd.f14, List.getD, List.getElem?_cons_zero, List.getElem?_cons_succ, Option.getD_some]
@[simp] theorem n14_76 (s : List V) (H : Heap) : evCode P Γ call n f m (cAt [1, 1, 1, 1, 1, 0, 1, 0, 0, 1, 0, 1, 0, 1, 0, 0, 1, 1, 1] B14) s H = regNext (evOpsGo P Γ call r14_76.1 r14_76.1 s H) := at_region (by kernel_rfl) r14_76.2 s H
attribute [simp] r14_76
@[simp] theorem n14_77 (s : List V) (H : Heap) : evCode P Γ call n f m (cAt [1, 1, 1, 1, 1, 0, 1, 0, 0, 1, 0, 1, 1] B14) s H = seqNext P Γ call n f m (cAt [1, 1, 1, 1, 1, 0, 1, 0, 0, 1, 0, 1, 1, 1] B14) (evCode P Γ call n f m (cAt [1, 1, 1, 1, 1, 0, 1, 0, 0, 1, 0, 1, 1, 0] B14) s H) := at_seq (by kernel_rfl) rfl rfl s H
noncomputable def r14_78 : {l : List Oper // opsOf (cAt [1, 1, 1, 1, 1, 0, 1, 0, 0, 1, 0, 1, 1, 0] B14) = l} := by
  apply Subtype.mk
  dsimp only [opsOf, cAt, kids, B14, bodyOf, Tryd.f14, List.getD, List.getElem?_cons_zero, List.getElem?_cons_succ, Option.getD_some]
@[simp] theorem n14_78 (s : List V) (H : Heap) : evCode P Γ call n f m (cAt [1, 1, 1, 1, 1, 0, 1, 0, 0, 1, 0, 1, 1, 0] B14) s H = regNext (evOpsGo P Γ call r14_78.1 r14_78.1 s H) := at_region (by kernel_rfl) r14_78.2 s H
attribute [simp] r14_78
@[simp] theorem n14_79 (s : List V) (H : Heap) : evCode P Γ call n f m (cAt [1, 1, 1, 1, 1, 0, 1, 0, 0, 1, 0, 1, 1, 1] B14) s H = seqNext P Γ call n f m (cAt [1, 1, 1, 1, 1, 0, 1, 0, 0, 1, 0, 1, 1, 1, 1] B14) (evCode P Γ call n f m (cAt [1, 1, 1, 1, 1, 0, 1, 0, 0, 1, 0, 1, 1, 1, 0] B14) s H) := at_seq (by kernel_rfl) rfl rfl s H
noncomputable def r14_80 : {l : List Oper // opsOf (cAt [1, 1, 1, 1, 1, 0, 1, 0, 0, 1, 0, 1, 1, 1, 0] B14) = l} := by
  apply Subtype.mk
  dsimp only [opsOf, cAt, kids, B14, bodyOf, Tryd.f14, List.getD, List.getElem?_cons_zero, List.getElem?_cons_succ, Option.getD_some]
@[simp] theorem n14_80 (s : List V) (H : Heap) : evCode P Γ call n f m (cAt [1, 1, 1, 1, 1, 0, 1, 0, 0, 1, 0, 1, 1, 1, 0] B14) s H = regNext (evOpsGo P Γ call r14_80.1 r14_80.1 s H) := at_region (by kernel_rfl) r14_80.2 s H
attribute [simp] r14_80
@[simp] theorem n14_81 (s : List V) (H : Heap) : evCode P Γ call n f m (cAt [1, 1, 1, 1, 1, 0, 1, 0, 0, 1, 0, 1, 1, 1, 1] B14) s H = condW P Γ call n f m (cAt [1, 1, 1, 1, 1, 0, 1, 0, 0, 1, 0, 1, 1, 1, 1, 0] B14) (cAt [1, 1, 1, 1, 1, 0, 1, 0, 0, 1, 0, 1, 1, 1, 1, 1] B14) s H (evOperand Γ s (.tmp 68)) := at_cond (by kernel_rfl) (by kernel_rfl) rfl rfl s H
noncomputable def r14_82 : {l : List Oper // opsOf (cAt [1, 1, 1, 1, 1, 0, 1, 0, 0, 1, 0, 1, 1, 1, 1, 0] B14) = l} := by
  apply Subtype.mk
  dsimp only [opsOf, cAt, kids, B14, bodyOf, Tryd.f14, List.getD, List.getElem?_cons_zero, List.getElem?_cons_succ, Option.getD_some]
@[simp] theorem n14_82 (s : List V) (H : Heap) : evCode P Γ call n f m (cAt [1, 1, 1, 1, 1, 0, 1, 0, 0, 1, 0, 1, 1, 1, 1, 0] B14) s H = regNext (evOpsGo P Γ call r14_82.1 r14_82.1 s H) := at_region (by kernel_rfl) r14_82.2 s H
attribute [simp] r14_82
noncomputable def r14_83 : {l : List Oper // opsOf (cAt [1, 1, 1, 1, 1, 0, 1, 0, 0, 1, 0, 1, 1, 1, 1, 1] B14) = l} := by
  apply Subtype.mk
  dsimp only [opsOf, cAt, kids, B14, bodyOf, Tryd.f14, List.getD, List.getElem?_cons_zero, List.getElem?_cons_succ, Option.getD_some]
@[simp] theorem n14_83 (s : List V) (H : Heap) : evCode P Γ call n f m (cAt [1, 1, 1, 1, 1, 0, 1, 0, 0, 1, 0, 1, 1, 1, 1, 1] B14) s H = regNext (evOpsGo P Γ call r14_83.1 r14_83.1 s H) := at_region (by kernel_rfl) r14_83.2 s H
attribute [simp] r14_83
@[simp] theorem n14_84 (s : List V) (H : Heap) : evCode P Γ call n f m (cAt [1, 1, 1, 1, 1, 1] B14) s H = seqNext P Γ call n f m (cAt [1, 1, 1, 1, 1, 1, 1] B14) (evCode P Γ call n f m (cAt [1, 1, 1, 1, 1, 1, 0] B14) s H) := at_seq (by kernel_rfl) rfl rfl s H
noncomputable def r14_85 : {l : List Oper // opsOf (cAt [1, 1, 1, 1, 1, 1, 0] B14) = l} := by
  apply Subtype.mk
  dsimp only [opsOf, cAt, kids, B14, bodyOf, Tryd.f14, List.getD, List.getElem?_cons_zero, List.getElem?_cons_succ, Option.getD_some]
@[simp] theorem n14_85 (s : List V) (H : Heap) : evCode P Γ call n f m (cAt [1, 1, 1, 1, 1, 1, 0] B14) s H = regNext (evOpsGo P Γ call r14_85.1 r14_85.1 s H) := at_region (by kernel_rfl) r14_85.2 s H
attribute [simp] r14_85
@[simp] theorem n14_86 (s : List V) (H : Heap) : evCode P Γ call n f m (cAt [1, 1, 1, 1, 1, 1, 1] B14) s H = some (.ret, s, H) := at_ret (by kernel_rfl) s H
theorem b14 {k : Nat} (ho : ∀ args H, Γ.orc 14 args H = none) (args : List V) (H : Heap) (ha : args.length ≤ 77) : evF Tryd.prog Γ (k + 1) 14 args H = bodyEnd Tryd.prog [.tmp 4, .tmp 5] H.length (evCode Tryd.prog Γ (evF Tryd.prog Γ k) k 14 H.length (cAt [] B14) (mkL 77 V.undef (enumV 0 args)) H) := body_at Tryd.func14 (by decide) rfl ho rfl rfl args H ha
noncomputable def B27 : Code := bodyOf Tryd.f27
@[simp] theorem n27_1 (s : List V) (H : Heap) : evCode P Γ call n f m (cAt [] B27) s H = seqNext P Γ call n f m (cAt [1] B27) (evCode P Γ call n f m (cAt [0] B27) s H) := at_seq (by kernel_rfl) rfl rfl s H
noncomputable def r27_2 : {l : List Oper // opsOf (cAt [0] B27) = l} := by
  apply Subtype.mk
  dsimp only [opsOf, cAt, kids, B27, bodyOf, Tryd.f27, List.getD, List.getElem?_cons_zero, List.getElem?_cons_succ, Option.getD_some]
@[simp] theorem n27_2 (s : List V) (H : Heap) : evCode P Γ call n f m (cAt [0] B27) s H = regNext (evOpsGo P Γ call r27_2.1 r27_2.1 s H) := at_region (by kernel_rfl) r27_2.2 s H
attribute [simp] r27_2
@[simp] theorem n27_3 (s : List V) (H : Heap) : evCode P Γ call n f m (cAt [1] B27) s H = seqNext P Γ call n f m (cAt [1, 1] B27) (evCode P Γ call n f m (cAt [1, 0] B27) s H) := at_seq (by kernel_rfl) rfl rfl s H
noncomputable def r27_4 : {l : List Oper // opsOf (cAt [1, 0] B27) = l} := by
  apply Subtype.mk
  dsimp only [opsOf, cAt, kids, B27, bodyOf, Tryd.f27, List.getD, List.getElem?_cons_zero, List.getElem?_cons_succ, Option.getD_some]
@[simp] theorem n27_4 (s : List V) (H : Heap) : evCode P Γ call n f m (cAt [1, 0] B27) s H = regNext (evOpsGo P Γ call r27_4.1 r27_4.1 s H) := at_region (by kernel_rfl) r27_4.2 s H
attribute [simp] r27_4
@[simp] theorem n27_5 (s : List V) (H : Heap) : evCode P Γ call n f m (cAt [1, 1] B27) s H = seqNext P Γ call n f m (cAt [1, 1, 1] B27) (evCode P Γ call n f m (cAt [1, 1, 0] B27) s H) := at_seq (by kernel_rfl) rfl rfl s H
@[simp] theorem n27_6 (s : List V) (H : Heap) : evCode P Γ call n f m (cAt [1, 1, 0] B27) s H = seqNext P Γ call n f m (cAt [1, 1, 0, 1] B27) (evCode P Γ call n f m (cAt [1, 1, 0, 0] B27) s H) := at_seq (by kernel_rfl) rfl rfl s H
noncomputable def r27_7 : {l : List Oper // opsOf (cAt [1, 1, 0, 0] B27) = l} := by
  apply Subtype.mk
  dsimp only [opsOf, cAt, kids, B27, bodyOf, Tryd.f27, List.getD, List.getElem?_cons_zero, List.getElem?_cons_succ, Option.getD_some]
@[simp] theorem n27_7 (s : List V) (H : Heap) : evCode P Γ call n f m (cAt [1, 1, 0, 0] B27) s H = regNext (evOpsGo P Γ call r27_7.1 r27_7.1 s H) := at_region (by kernel_rfl) r27_7.2 s H
attribute [simp] r27_7
@[simp] theorem n27_8 (s : List V) (H : Heap) : evCode P Γ call n f m (cAt [1, 1, 0, 1] B27) s H = condW P Γ call n f m (cAt [1, 1, 0, 1, 0] B27) (cAt [1, 1, 0, 1, 1] B27) s H (evOperand Γ s (.tmp 16)) := at_cond (by kernel_rfl) (by kernel_rfl) rfl rfl s H
@[simp] theorem n27_9 (s : List V) (H : Heap) : evCode P Γ call n f m (cAt [1, 1, 0, 1, 0] B27) s H = seqNext P Γ call n f m (cAt [1, 1, 0, 1, 0, 1] B27) (evCode P Γ call n f m (cAt [1, 1, 0, 1, 0, 0] B27) s H) := at_seq (by kernel_rfl) rfl rfl s H
noncomputable def r27_10 : {l : List Oper // opsOf (cAt [1, 1, 0, 1, 0, 0] B27) = l} := by
  apply Subtype.mk
  dsimp only [opsOf, cAt, kids, B27, bodyOf, Tryd.f27, List.getD, List.getElem?_cons_zero, List.getElem?_cons_succ, Option.getD_some]
@[simp] theorem n27_10 (s : List V) (H : Heap) : evCode P Γ call n f m (cAt [1, 1, 0, 1, 0, 0] B27) s H = regNext (evOpsGo P Γ call r27_10.1 r27_10.1 s H) := at_region (by kernel_rfl) r27_10.2 s H
attribute [simp] r27_10
@[simp] theorem n27_11 (s : List V) (H : Heap) : evCode P Γ call n f m (cAt [1, 1, 0, 1, 0, 1] B27) s H = some (.ret, s, H) := at_ret (by kernel_rfl) s H
@[simp] theorem n27_12 (s : List V) (H : Heap) : evCode P Γ call n f m (cAt [1, 1, 0, 1, 1] B27) s H = some (.normal, s, H) := at_skip (by kernel_rfl) s H
@[simp] theorem n27_13 (s : List V) (H : Heap) : evCode P Γ call n f m (cAt [1, 1, 1] B27) s H = seqNext P Γ call n f m (cAt [1, 1, 1, 1] B27) (evCode P Γ call n f m (cAt [1, 1, 1, 0] B27) s H) := at_seq (by kernel_rfl) rfl rfl s H
noncomputable def r27_14 : {l : List Oper // opsOf (cAt [1, 1, 1, 0] B27) = l} := by
  apply Subtype.mk
  dsimp only [opsOf, cAt, kids, B27, bodyOf, Tryd.f27, List.getD, List.getElem?_cons_zero, List.getElem?_cons_succ, Option.getD_some]
@[simp] theorem n27_14 (s : List V) (H : Heap) : evCode P Γ call n f m (cAt [1, 1, 1, 0] B27) s H = regNext (evOpsGo P Γ call r27_14.1 r27_14.1 s H) := at_region (by kernel_rfl) r27_14.2 s H
attribute [simp] r27_14
@[simp] theorem n27_15 (s : List V) (H : Heap) : evCode P Γ call n f m (cAt [1, 1, 1, 1] B27) s H = seqNext P Γ call n f m (cAt [1, 1, 1, 1, 1] B27) (evCode P Γ call n f m (cAt [1, 1, 1, 1, 0] B27) s H) := at_seq (by kernel_rfl) rfl rfl s H
noncomputable def r27_16 : {l : List Oper // opsOf (cAt [1, 1, 1, 1, 0] B27) = l} := by
  apply Subtype.mk
  dsimp only [opsOf, cAt, kids, B27, bodyOf, Tryd.f27, List.getD, List.getElem?_cons_zero, List.getElem?_cons_succ, Option.getD_some]
@[simp] theorem n27_16 (s : List V) (H : Heap) : evCode P Γ call n f m (cAt [1, 1, 1, 1, 0] B27) s H = regNext (drawR P Γ call r27_16.1 [([1, 3, 4, 5], [21, 23, 24, 25]), ([0, 3, 4, 5], [20, 23, 24, 25]), ([3, 4, 5], [23, 24, 25]), ([0, 1, 2, 4], [20, 21, 22, 24]), ([0, 1, 2, 3], [20, 21, 22, 23]), ([0, 1, 2], [20, 21, 22]), ([], []), ([], [])] s H) := at_drawT (by kernel_rfl) r27_16.2 (by kernel_rfl) s H
attribute [simp] r27_16
@[simp] theorem n27_17 (s : List V) (H : Heap) : evCode P Γ call n f m (cAt [1, 1, 1, 1, 1] B27) s H = seqNext P Γ call n f m (cAt [1, 1, 1, 1, 1, 1] B27) (evCode P Γ call n f m (cAt [1, 1, 1, 1, 1, 0] B27) s H) := at_seq (by kernel_rfl) rfl rfl s H
noncomputable def r27_18 : {l : List Oper // opsOf (cAt [1, 1, 1, 1, 1, 0] B27) = l} := by
  apply Subtype.mk
  dsimp only [opsOf, cAt, kids, B27, bodyOf, Tryd.f27, List.getD, List.getElem?_cons_zero, List.getElem?_cons_succ, Option.getD_some]
@[simp] theorem n27_18 (s : List V) (H : Heap) : evCode P Γ call n f m (cAt [1, 1, 1, 1, 1, 0] B27) s H = regNext (evOpsGo P Γ call r27_18.1 r27_18.1 s H) := at_region (by kernel_rfl) r27_18.2 s H
attribute [simp] r27_18
@[simp] theorem n27_19 (s : List V) (H : Heap) : evCode P Γ call n f m (cAt [1, 1, 1, 1, 1, 1] B27) s H = seqNext P Γ call n f m (cAt [1, 1, 1, 1, 1, 1, 1] B27) (evCode P Γ call n f m (cAt [1, 1, 1, 1, 1, 1, 0] B27) s H) := at_seq (by kernel_rfl) rfl rfl s H
noncomputable def r27_20 : {l : List Oper // opsOf (cAt [1, 1, 1, 1, 1, 1, 0] B27) = l} := by
  apply Subtype.mk
  dsimp only [opsOf, cAt, kids, B27, bodyOf, Tryd.f27, List.getD, List.getElem?_cons_zero, List.getElem?_cons_succ, Option.getD_some]
@[simp] theorem n27_20 (s : List V) (H : Heap) : evCode P Γ call n f m (cAt [1, 1, 1, 1, 1, 1, 0] B27) s H = regNext (evOpsGo P Γ call r27_20.1 r27_20.1 s H) := at_region (by kernel_rfl) r27_20.2 s H
attribute [simp] r27_20
@[simp] theorem n27_21 (s : List V) (H : Heap) : evCode P Γ call n f m (cAt [1, 1, 1, 1, 1, 1, 1] B27) s H = some (.ret, s, H) := at_ret (by kernel_rfl) s H
theorem b27 {k : Nat} (ho : ∀ args H, Γ.orc 27 args H = none) (args : List V) (H : Heap) (ha : args.length ≤ 33) : evF Tryd.prog Γ (k + 1) 27 args H = bodyEnd Tryd.prog [.tmp 6] H.length (evCode Tryd.prog Γ (evF Tryd.prog Γ k) k 27 H.length (cAt [] B27) (mkL 33 V.undef (enumV 0 args)) H) := body_at Tryd.func27 (by decide) rfl ho rfl rfl args H ha
end
end Go.Ev.Tryd
