/-
  CODE BY NAMES, printed by wip/tools/codes.py (own work).
-/
import Derived.Test.YtnalmdnfoicokaaRdG
set_option maxRecDepth 100000
set_option linter.unusedVariables false
namespace Go.Ev.Try
open Go Go.Ev Go.Proofs
section
variable {P : Program} {Γ : Env} {call : CallF} {n f m : Nat}

noncomputable def B6 : Code := bodyOf Try.f6
@[simp] theorem n6_1 (s : List V) (H : Heap) : evCode P Γ call n f m (cAt [] B6) s H = seqNext P Γ call n f m (cAt [1] B6) (evCode P Γ call n f m (cAt [0] B6) s H) := at_seq (by kernel_rfl) rfl rfl s H
noncomputable def r6_2 : {l : List Oper // opsOf (cAt [0] B6) = l} := by
  apply Subtype.mk
  dsimp only [opsOf, cAt, kids, B6, bodyOf, Try.f6, List.getD, List.getElem?_cons_zero, List.getElem?_cons_succ, Option.getD_some]
@[simp] theorem n6_2 (s : List V) (H : Heap) : evCode P Γ call n f m (cAt [0] B6) s H = regNext (evOpsGo P Γ call r6_2.1 r6_2.1 s H) := at_region (by kernel_rfl) r6_2.2 s H
attribute [simp] r6_2
@[simp] theorem n6_3 (s : List V) (H : Heap) : evCode P Γ call n f m (cAt [1] B6) s H = seqNext P Γ call n f m (cAt [1, 1] B6) (evCode P Γ call n f m (cAt [1, 0] B6) s H) := at_seq (by kernel_rfl) rfl rfl s H
noncomputable def r6_4 : {l : List Oper // opsOf (cAt [1, 0] B6) = l} := by
  apply Subtype.mk
  dsimp only [opsOf, cAt, kids, B6, bodyOf, Try.f6, List.getD, List.getElem?_cons_zero, List.getElem?_cons_succ, Option.getD_some]
@[simp] theorem n6_4 (s : List V) (H : Heap) : evCode P Γ call n f m (cAt [1, 0] B6) s H = regNext (evOpsGo P Γ call r6_4.1 r6_4.1 s H) := at_region (by kernel_rfl) r6_4.2 s H
attribute [simp] r6_4
@[simp] theorem n6_5 (s : List V) (H : Heap) : evCode P Γ call n f m (cAt [1, 1] B6) s H = seqNext P Γ call n f m (cAt [1, 1, 1] B6) (evCode P Γ call n f m (cAt [1, 1, 0] B6) s H) := at_seq (by kernel_rfl) rfl rfl s H
noncomputable def r6_6 : {l : List Oper // opsOf (cAt [1, 1, 0] B6) = l} := by
  apply Subtype.mk
  dsimp only [opsOf, cAt, kids, B6, bodyOf, Try.f6, List.getD, List.getElem?_cons_zero, List.getElem?_cons_succ, Option.getD_some]
@[simp] theorem n6_6 (s : List V) (H : Heap) : evCode P Γ call n f m (cAt [1, 1, 0] B6) s H = regNext (evOpsGo P Γ call r6_6.1 r6_6.1 s H) := at_region (by kernel_rfl) r6_6.2 s H
attribute [simp] r6_6
@[simp] theorem n6_7 (s : List V) (H : Heap) : evCode P Γ call n f m (cAt [1, 1, 1] B6) s H = seqNext P Γ call n f m (cAt [1, 1, 1, 1] B6) (evCode P Γ call n f m (cAt [1, 1, 1, 0] B6) s H) := at_seq (by kernel_rfl) rfl rfl s H
@[simp] theorem n6_8 (s : List V) (H : Heap) : evCode P Γ call n f m (cAt [1, 1, 1, 0] B6) s H = seqNext P Γ call n f m (cAt [1, 1, 1, 0, 1] B6) (evCode P Γ call n f m (cAt [1, 1, 1, 0, 0] B6) s H) := at_seq (by kernel_rfl) rfl rfl s H
noncomputable def r6_9 : {l : List Oper // opsOf (cAt [1, 1, 1, 0, 0] B6) = l} := by
  apply Subtype.mk
  dsimp only [opsOf, cAt, kids, B6, bodyOf, Try.f6, List.getD, List.getElem?_cons_zero, List.getElem?_cons_succ, Option.getD_some]
@[simp] theorem n6_9 (s : List V) (H : Heap) : evCode P Γ call n f m (cAt [1, 1, 1, 0, 0] B6) s H = regNext (evOpsGo P Γ call r6_9.1 r6_9.1 s H) := at_region (by kernel_rfl) r6_9.2 s H
attribute [simp] r6_9
@[simp] theorem n6_10 (s : List V) (H : Heap) : evCode P Γ call n f m (cAt [1, 1, 1, 0, 1] B6) s H = condW P Γ call n f m (cAt [1, 1, 1, 0, 1, 0] B6) (cAt [1, 1, 1, 0, 1, 1] B6) s H (evOperand Γ s (.tmp 48)) := at_cond (by kernel_rfl) (by kernel_rfl) rfl rfl s H
@[simp] theorem n6_11 (s : List V) (H : Heap) : evCode P Γ call n f m (cAt [1, 1, 1, 0, 1, 0] B6) s H = seqNext P Γ call n f m (cAt [1, 1, 1, 0, 1, 0, 1] B6) (evCode P Γ call n f m (cAt [1, 1, 1, 0, 1, 0, 0] B6) s H) := at_seq (by kernel_rfl) rfl rfl s H
noncomputable def r6_12 : {l : List Oper // opsOf (cAt [1, 1, 1, 0, 1, 0, 0] B6) = l} := by
  apply Subtype.mk
  dsimp only [opsOf, cAt, kids, B6, bodyOf, Try.f6, List.getD, List.getElem?_cons_zero, List.getElem?_cons_succ, Option.getD_some]
@[simp] theorem n6_12 (s : List V) (H : Heap) : evCode P Γ call n f m (cAt [1, 1, 1, 0, 1, 0, 0] B6) s H = regNext (evOpsGo P Γ call r6_12.1 r6_12.1 s H) := at_region (by kernel_rfl) r6_12.2 s H
attribute [simp] r6_12
@[simp] theorem n6_13 (s : List V) (H : Heap) : evCode P Γ call n f m (cAt [1, 1, 1, 0, 1, 0, 1] B6) s H = some (.ret, s, H) := at_ret (by kernel_rfl) s H
@[simp] theorem n6_14 (s : List V) (H : Heap) : evCode P Γ call n f m (cAt [1, 1, 1, 0, 1, 1] B6) s H = some (.normal, s, H) := at_skip (by kernel_rfl) s H
@[simp] theorem n6_15 (s : List V) (H : Heap) : evCode P Γ call n f m (cAt [1, 1, 1, 1] B6) s H = seqNext P Γ call n f m (cAt [1, 1, 1, 1, 1] B6) (evCode P Γ call n f m (cAt [1, 1, 1, 1, 0] B6) s H) := at_seq (by kernel_rfl) rfl rfl s H
noncomputable def r6_16 : {l : List Oper // opsOf (cAt [1, 1, 1, 1, 0] B6) = l} := by
  apply Subtype.mk
  dsimp only [opsOf, cAt, kids, B6, bodyOf, Try.f6, List.getD, List.getElem?_cons_zero, List.getElem?_cons_succ, Option.getD_some]
@[simp] theorem n6_16 (s : List V) (H : Heap) : evCode P Γ call n f m (cAt [1, 1, 1, 1, 0] B6) s H = regNext (evOpsGo P Γ call r6_16.1 r6_16.1 s H) := at_region (by kernel_rfl) r6_16.2 s H
attribute [simp] r6_16
@[simp] theorem n6_17 (s : List V) (H : Heap) : evCode P Γ call n f m (cAt [1, 1, 1, 1, 1] B6) s H = seqNext P Γ call n f m (cAt [1, 1, 1, 1, 1, 1] B6) (evCode P Γ call n f m (cAt [1, 1, 1, 1, 1, 0] B6) s H) := at_seq (by kernel_rfl) rfl rfl s H
noncomputable def r6_18 : {l : List Oper // opsOf (cAt [1, 1, 1, 1, 1, 0] B6) = l} := by
  apply Subtype.mk
  dsimp only [opsOf, cAt, kids, B6, bodyOf, Try.f6, List.getD, List.getElem?_cons_zero, List.getElem?_cons_succ, Option.getD_some]
@[simp] theorem n6_18 (s : List V) (H : Heap) : evCode P Γ call n f m (cAt [1, 1, 1, 1, 1, 0] B6) s H = regNext (evOpsGo P Γ call r6_18.1 r6_18.1 s H) := at_region (by kernel_rfl) r6_18.2 s H
attribute [simp] r6_18
@[simp] theorem n6_19 (s : List V) (H : Heap) : evCode P Γ call n f m (cAt [1, 1, 1, 1, 1, 1] B6) s H = seqNext P Γ call n f m (cAt [1, 1, 1, 1, 1, 1, 1] B6) (evCode P Γ call n f m (cAt [1, 1, 1, 1, 1, 1, 0] B6) s H) := at_seq (by kernel_rfl) rfl rfl s H
noncomputable def r6_20 : {l : List Oper // opsOf (cAt [1, 1, 1, 1, 1, 1, 0] B6) = l} := by
  apply Subtype.mk
  dsimp only [opsOf, cAt, kids, B6, bodyOf, Try.f6, List.getD, List.getElem?_cons_zero, List.getElem?_cons_succ, Option.getD_some]
@[simp] theorem n6_20 (s : List V) (H : Heap) : evCode P Γ call n f m (cAt [1, 1, 1, 1, 1, 1, 0] B6) s H = regNext (evOpsGo P Γ call r6_20.1 r6_20.1 s H) := at_region (by kernel_rfl) r6_20.2 s H
attribute [simp] r6_20
@[simp] theorem n6_21 (s : List V) (H : Heap) : evCode P Γ call n f m (cAt [1, 1, 1, 1, 1, 1, 1] B6) s H = seqNext P Γ call n f m (cAt [1, 1, 1, 1, 1, 1, 1, 1] B6) (evCode P Γ call n f m (cAt [1, 1, 1, 1, 1, 1, 1, 0] B6) s H) := at_seq (by kernel_rfl) rfl rfl s H
noncomputable def r6_22 : {l : List Oper // opsOf (cAt [1, 1, 1, 1, 1, 1, 1, 0] B6) = l} := by
  apply Subtype.mk
  dsimp only [opsOf, cAt, kids, B6, bodyOf, Try.f6, List.getD, List.getElem?_cons_zero, List.getElem?_cons_succ, Option.getD_some]
@[simp] theorem n6_22 (s : List V) (H : Heap) : evCode P Γ call n f m (cAt [1, 1, 1, 1, 1, 1, 1, 0] B6) s H = regNext (evOpsGo P Γ call r6_22.1 r6_22.1 s H) := at_region (by kernel_rfl) r6_22.2 s H
attribute [simp] r6_22
@[simp] theorem n6_23 (s : List V) (H : Heap) : evCode P Γ call n f m (cAt [1, 1, 1, 1, 1, 1, 1, 1] B6) s H = seqNext P Γ call n f m (cAt [1, 1, 1, 1, 1, 1, 1, 1, 1] B6) (evCode P Γ call n f m (cAt [1, 1, 1, 1, 1, 1, 1, 1, 0] B6) s H) := at_seq (by kernel_rfl) rfl rfl s H
@[simp] theorem n6_24 (s : List V) (H : Heap) : evCode P Γ call n f m (cAt [1, 1, 1, 1, 1, 1, 1, 1, 0] B6) s H = seqNext P Γ call n f m (cAt [1, 1, 1, 1, 1, 1, 1, 1, 0, 1] B6) (evCode P Γ call n f m (cAt [1, 1, 1, 1, 1, 1, 1, 1, 0, 0] B6) s H) := at_seq (by kernel_rfl) rfl rfl s H
noncomputable def r6_25 : {l : List Oper // opsOf (cAt [1, 1, 1, 1, 1, 1, 1, 1, 0, 0] B6) = l} := by
  apply Subtype.mk
  dsimp only [opsOf, cAt, kids, B6, bodyOf, Try.f6, List.getD, List.getElem?_cons_zero, List.getElem?_cons_succ, Option.getD_some]
@[simp] theorem n6_25 (s : List V) (H : Heap) : evCode P Γ call n f m (cAt [1, 1, 1, 1, 1, 1, 1, 1, 0, 0] B6) s H = regNext (drawR P Γ call r6_25.1 [([], []), ([], []), ([], []), ([], []), ([], []), ([], []), ([], []), ([], []), ([], []), ([], []), ([], []), ([], []), ([], []), ([], []), ([], []), ([16, 17, 18, 19, 20, 21], [90, 91, 92, 93, 94, 95]), ([15, 17, 18, 19, 20], [89, 91, 92, 93, 94]), ([15, 16, 18], [89, 90, 92]), ([15, 16, 17], [89, 90, 91]), ([15, 16], [89, 90]), ([15, 16], [89, 90]), ([15], [89]), ([], []), ([], []), ([], []), ([], []), ([27, 29, 30], [101, 103, 104]), ([26, 29, 30], [100, 103, 104]), ([29, 30], [103, 104]), ([26, 27, 28, 30], [100, 101, 102, 104]), ([26, 27, 28, 29], [100, 101, 102, 103]), ([], []), ([], []), ([], [])] s H) := at_drawT (by kernel_rfl) r6_25.2 (by kernel_rfl) s H
attribute [simp] r6_25
@[simp] theorem n6_26 (s : List V) (H : Heap) : evCode P Γ call n f m (cAt [1, 1, 1, 1, 1, 1, 1, 1, 0, 1] B6) s H = condW P Γ call n f m (cAt [1, 1, 1, 1, 1, 1, 1, 1, 0, 1, 0] B6) (cAt [1, 1, 1, 1, 1, 1, 1, 1, 0, 1, 1] B6) s H (evOperand Γ s (.tmp 107)) := at_cond (by kernel_rfl) (by kernel_rfl) rfl rfl s H
@[simp] theorem n6_27 (s : List V) (H : Heap) : evCode P Γ call n f m (cAt [1, 1, 1, 1, 1, 1, 1, 1, 0, 1, 0] B6) s H = seqNext P Γ call n f m (cAt [1, 1, 1, 1, 1, 1, 1, 1, 0, 1, 0, 1] B6) (evCode P Γ call n f m (cAt [1, 1, 1, 1, 1, 1, 1, 1, 0, 1, 0, 0] B6) s H) := at_seq (by kernel_rfl) rfl rfl s H
noncomputable def r6_28 : {l : List Oper // opsOf (cAt [1, 1, 1, 1, 1, 1, 1, 1, 0, 1, 0, 0] B6) = l} := by
  apply Subtype.mk
  dsimp only [opsOf, cAt, kids, B6, bodyOf, Try.f6, List.getD, List.getElem?_cons_zero, List.getElem?_cons_succ, Option.getD_some]
@[simp] theorem n6_28 (s : List V) (H : Heap) : evCode P Γ call n f m (cAt [1, 1, 1, 1, 1, 1, 1, 1, 0, 1, 0, 0] B6) s H = regNext (evOpsGo P Γ call r6_28.1 r6_28.1 s H) := at_region (by kernel_rfl) r6_28.2 s H
attribute [simp] r6_28
@[simp] theorem n6_29 (s : List V) (H : Heap) : evCode P Γ call n f m (cAt [1, 1, 1, 1, 1, 1, 1, 1, 0, 1, 0, 1] B6) s H = some (.ret, s, H) := at_ret (by kernel_rfl) s H
@[simp] theorem n6_30 (s : List V) (H : Heap) : evCode P Γ call n f m (cAt [1, 1, 1, 1, 1, 1, 1, 1, 0, 1, 1] B6) s H = some (.normal, s, H) := at_skip (by kernel_rfl) s H
@[simp] theorem n6_31 (s : List V) (H : Heap) : evCode P Γ call n f m (cAt [1, 1, 1, 1, 1, 1, 1, 1, 1] B6) s H = seqNext P Γ call n f m (cAt [1, 1, 1, 1, 1, 1, 1, 1, 1, 1] B6) (evCode P Γ call n f m (cAt [1, 1, 1, 1, 1, 1, 1, 1, 1, 0] B6) s H) := at_seq (by kernel_rfl) rfl rfl s H
noncomputable def r6_32 : {l : List Oper // opsOf (cAt [1, 1, 1, 1, 1, 1, 1, 1, 1, 0] B6) = l} := by
  apply Subtype.mk
  dsimp only [opsOf, cAt, kids, B6, bodyOf, Try.f6, List.getD, List.getElem?_cons_zero, List.getElem?_cons_succ, Option.getD_some]
@[simp] theorem n6_32 (s : List V) (H : Heap) : evCode P Γ call n f m (cAt [1, 1, 1, 1, 1, 1, 1, 1, 1, 0] B6) s H = regNext (drawR P Γ call r6_32.1 [([1, 3, 4, 6, 7], [109, 111, 112, 18, 19]), ([0, 3, 4, 6, 7], [108, 111, 112, 18, 19]), ([3, 4, 6, 7], [111, 112, 18, 19]), ([0, 1, 2, 4, 6, 7], [108, 109, 110, 112, 18, 19]), ([0, 1, 2, 3, 6, 7], [108, 109, 110, 111, 18, 19]), ([6, 7], [18, 19]), ([0, 1, 2, 3, 4, 5, 7], [108, 109, 110, 111, 112, 113, 19]), ([0, 1, 2, 3, 4, 5, 6], [108, 109, 110, 111, 112, 113, 18]), ([], []), ([], [])] s H) := at_drawT (by kernel_rfl) r6_32.2 (by kernel_rfl) s H
attribute [simp] r6_32
@[simp] theorem n6_33 (s : List V) (H : Heap) : evCode P Γ call n f m (cAt [1, 1, 1, 1, 1, 1, 1, 1, 1, 1] B6) s H = seqNext P Γ call n f m (cAt [1, 1, 1, 1, 1, 1, 1, 1, 1, 1, 1] B6) (evCode P Γ call n f m (cAt [1, 1, 1, 1, 1, 1, 1, 1, 1, 1, 0] B6) s H) := at_seq (by kernel_rfl) rfl rfl s H
@[simp] theorem n6_34 (s : List V) (H : Heap) : evCode P Γ call n f m (cAt [1, 1, 1, 1, 1, 1, 1, 1, 1, 1, 0] B6) s H = seqNext P Γ call n f m (cAt [1, 1, 1, 1, 1, 1, 1, 1, 1, 1, 0, 1] B6) (evCode P Γ call n f m (cAt [1, 1, 1, 1, 1, 1, 1, 1, 1, 1, 0, 0] B6) s H) := at_seq (by kernel_rfl) rfl rfl s H
noncomputable def r6_35 : {l : List Oper // opsOf (cAt [1, 1, 1, 1, 1, 1, 1, 1, 1, 1, 0, 0] B6) = l} := by
  apply Subtype.mk
  dsimp only [opsOf, cAt, kids, B6, bodyOf, Try.f6, List.getD, List.getElem?_cons_zero, List.getElem?_cons_succ, Option.getD_some]
@[simp] theorem n6_35 (s : List V) (H : Heap) : evCode P Γ call n f m (cAt [1, 1, 1, 1, 1, 1, 1, 1, 1, 1, 0, 0] B6) s H = regNext (evOpsGo P Γ call r6_35.1 r6_35.1 s H) := at_region (by kernel_rfl) r6_35.2 s H
attribute [simp] r6_35
@[simp] theorem n6_36 (s : List V) (H : Heap) : evCode P Γ call n f m (cAt [1, 1, 1, 1, 1, 1, 1, 1, 1, 1, 0, 1] B6) s H = blockNext 0 (evCode P Γ call n f m (cAt [1, 1, 1, 1, 1, 1, 1, 1, 1, 1, 0, 1, 0] B6) s H) := at_block (by kernel_rfl) rfl s H
@[simp] theorem n6_37 (s : List V) (H : Heap) : evCode P Γ call n f m (cAt [1, 1, 1, 1, 1, 1, 1, 1, 1, 1, 0, 1, 0] B6) s H = evLoopC P Γ call n f m (cAt [1, 1, 1, 1, 1, 1, 1, 1, 1, 1, 0, 1, 0, 0] B6) n s H := at_loop (by kernel_rfl) rfl s H
noncomputable abbrev L6_13 : Code := cAt [1, 1, 1, 1, 1, 1, 1, 1, 1, 1, 0, 1, 0, 0] B6
@[simp] theorem n6_37f : firstRegion (cAt [1, 1, 1, 1, 1, 1, 1, 1, 1, 1, 0, 1, 0, 0] B6) = 13 := by kernel_rfl
@[simp] theorem n6_38 (s : List V) (H : Heap) : evCode P Γ call n f m (cAt [1, 1, 1, 1, 1, 1, 1, 1, 1, 1, 0, 1, 0, 0] B6) s H = seqNext P Γ call n f m (cAt [1, 1, 1, 1, 1, 1, 1, 1, 1, 1, 0, 1, 0, 0, 1] B6) (evCode P Γ call n f m (cAt [1, 1, 1, 1, 1, 1, 1, 1, 1, 1, 0, 1, 0, 0, 0] B6) s H) := at_seq (by kernel_rfl) rfl rfl s H
noncomputable def r6_39 : {l : List Oper // opsOf (cAt [1, 1, 1, 1, 1, 1, 1, 1, 1, 1, 0, 1, 0, 0, 0] B6) = l} := by
  apply Subtype.mk
  dsimp only [opsOf, cAt, kids, B6, bodyOf, Try.f6, List.getD, List.getElem?_cons_zero, List.getElem?_cons_succ, Option.getD_some]
@[simp] theorem n6_39 (s : List V) (H : Heap) : evCode P Γ call n f m (cAt [1, 1, 1, 1, 1, 1, 1, 1, 1, 1, 0, 1, 0, 0, 0] B6) s H = regNext (evOpsGo P Γ call r6_39.1 r6_39.1 s H) := at_region (by kernel_rfl) r6_39.2 s H
attribute [simp] r6_39
@[simp] theorem n6_40 (s : List V) (H : Heap) : evCode P Γ call n f m (cAt [1, 1, 1, 1, 1, 1, 1, 1, 1, 1, 0, 1, 0, 0, 1] B6) s H = seqNext P Γ call n f m (cAt [1, 1, 1, 1, 1, 1, 1, 1, 1, 1, 0, 1, 0, 0, 1, 1] B6) (evCode P Γ call n f m (cAt [1, 1, 1, 1, 1, 1, 1, 1, 1, 1, 0, 1, 0, 0, 1, 0] B6) s H) := at_seq (by kernel_rfl) rfl rfl s H
@[simp] theorem n6_41 (s : List V) (H : Heap) : evCode P Γ call n f m (cAt [1, 1, 1, 1, 1, 1, 1, 1, 1, 1, 0, 1, 0, 0, 1, 0] B6) s H = condW P Γ call n f m (cAt [1, 1, 1, 1, 1, 1, 1, 1, 1, 1, 0, 1, 0, 0, 1, 0, 0] B6) (cAt [1, 1, 1, 1, 1, 1, 1, 1, 1, 1, 0, 1, 0, 0, 1, 0, 1] B6) s H (evOperand Γ s (.tmp 118)) := at_cond (by kernel_rfl) (by kernel_rfl) rfl rfl s H
@[simp] theorem n6_42 (s : List V) (H : Heap) : evCode P Γ call n f m (cAt [1, 1, 1, 1, 1, 1, 1, 1, 1, 1, 0, 1, 0, 0, 1, 0, 0] B6) s H = some (.normal, s, H) := at_skip (by kernel_rfl) s H
@[simp] theorem n6_43 (s : List V) (H : Heap) : evCode P Γ call n f m (cAt [1, 1, 1, 1, 1, 1, 1, 1, 1, 1, 0, 1, 0, 0, 1, 0, 1] B6) s H = some (.exit 0, s, H) := at_exit (by kernel_rfl) s H
@[simp] theorem n6_44 (s : List V) (H : Heap) : evCode P Γ call n f m (cAt [1, 1, 1, 1, 1, 1, 1, 1, 1, 1, 0, 1, 0, 0, 1, 1] B6) s H = seqNext P Γ call n f m (cAt [1, 1, 1, 1, 1, 1, 1, 1, 1, 1, 0, 1, 0, 0, 1, 1, 1] B6) (evCode P Γ call n f m (cAt [1, 1, 1, 1, 1, 1, 1, 1, 1, 1, 0, 1, 0, 0, 1, 1, 0] B6) s H) := at_seq (by kernel_rfl) rfl rfl s H
@[simp] theorem n6_45 (s : List V) (H : Heap) : evCode P Γ call n f m (cAt [1, 1, 1, 1, 1, 1, 1, 1, 1, 1, 0, 1, 0, 0, 1, 1, 0] B6) s H = blockNext 1 (evCode P Γ call n f m (cAt [1, 1, 1, 1, 1, 1, 1, 1, 1, 1, 0, 1, 0, 0, 1, 1, 0, 0] B6) s H) := at_block (by kernel_rfl) rfl s H
@[simp] theorem n6_46 (s : List V) (H : Heap) : evCode P Γ call n f m (cAt [1, 1, 1, 1, 1, 1, 1, 1, 1, 1, 0, 1, 0, 0, 1, 1, 0, 0] B6) s H = seqNext P Γ call n f m (cAt [1, 1, 1, 1, 1, 1, 1, 1, 1, 1, 0, 1, 0, 0, 1, 1, 0, 0, 1] B6) (evCode P Γ call n f m (cAt [1, 1, 1, 1, 1, 1, 1, 1, 1, 1, 0, 1, 0, 0, 1, 1, 0, 0, 0] B6) s H) := at_seq (by kernel_rfl) rfl rfl s H
noncomputable def r6_47 : {l : List Oper // opsOf (cAt [1, 1, 1, 1, 1, 1, 1, 1, 1, 1, 0, 1, 0, 0, 1, 1, 0, 0, 0] B6) = l} := by
  apply Subtype.mk
  dsimp only [opsOf, cAt, kids, B6, bodyOf, Try.f6, List.getD, List.getElem?_cons_zero, List.getElem?_cons_succ, Option.getD_some]
@[simp] theorem n6_47 (s : List V) (H : Heap) : evCode P Γ call n f m (cAt [1, 1, 1, 1, 1, 1, 1, 1, 1, 1, 0, 1, 0, 0, 1, 1, 0, 0, 0] B6) s H = regNext (evOpsGo P Γ call r6_47.1 r6_47.1 s H) := at_region (by kernel_rfl) r6_47.2 s H
attribute [simp] r6_47
@[simp] theorem n6_48 (s : List V) (H : Heap) : evCode P Γ call n f m (cAt [1, 1, 1, 1, 1, 1, 1, 1, 1, 1, 0, 1, 0, 0, 1, 1, 0, 0, 1] B6) s H = seqNext P Γ call n f m (cAt [1, 1, 1, 1, 1, 1, 1, 1, 1, 1, 0, 1, 0, 0, 1, 1, 0, 0, 1, 1] B6) (evCode P Γ call n f m (cAt [1, 1, 1, 1, 1, 1, 1, 1, 1, 1, 0, 1, 0, 0, 1, 1, 0, 0, 1, 0] B6) s H) := at_seq (by kernel_rfl) rfl rfl s H
noncomputable def r6_49 : {l : List Oper // opsOf (cAt [1, 1, 1, 1, 1, 1, 1, 1, 1, 1, 0, 1, 0, 0, 1, 1, 0, 0, 1, 0] B6) = l} := by
  apply Subtype.mk
  dsimp only [opsOf, cAt, kids, B6, bodyOf, Try.f6, List.getD, List.getElem?_cons_zero, List.getElem?_cons_succ, Option.getD_some]
@[simp] theorem n6_49 (s : List V) (H : Heap) : evCode P Γ call n f m (cAt [1, 1, 1, 1, 1, 1, 1, 1, 1, 1, 0, 1, 0, 0, 1, 1, 0, 0, 1, 0] B6) s H = regNext (evOpsGo P Γ call r6_49.1 r6_49.1 s H) := at_region (by kernel_rfl) r6_49.2 s H
attribute [simp] r6_49
@[simp] theorem n6_50 (s : List V) (H : Heap) : evCode P Γ call n f m (cAt [1, 1, 1, 1, 1, 1, 1, 1, 1, 1, 0, 1, 0, 0, 1, 1, 0, 0, 1, 1] B6) s H = condW P Γ call n f m (cAt [1, 1, 1, 1, 1, 1, 1, 1, 1, 1, 0, 1, 0, 0, 1, 1, 0, 0, 1, 1, 0] B6) (cAt [1, 1, 1, 1, 1, 1, 1, 1, 1, 1, 0, 1, 0, 0, 1, 1, 0, 0, 1, 1, 1] B6) s H (evOperand Γ s (.tmp 125)) := at_cond (by kernel_rfl) (by kernel_rfl) rfl rfl s H
noncomputable def r6_51 : {l : List Oper // opsOf (cAt [1, 1, 1, 1, 1, 1, 1, 1, 1, 1, 0, 1, 0, 0, 1, 1, 0, 0, 1, 1, 0] B6) = l} := by
  apply Subtype.mk
  dsimp only [opsOf, cAt, kids, B6, bodyOf, Try.f6, List.getD, List.getElem?_cons_zero, List.getElem?_cons_succ, Option.getD_some]
@[simp] theorem n6_51 (s : List V) (H : Heap) : evCode P Γ call n f m (cAt [1, 1, 1, 1, 1, 1, 1, 1, 1, 1, 0, 1, 0, 0, 1, 1, 0, 0, 1, 1, 0] B6) s H = regNext (drawR P Γ call r6_51.1 [([2, 3, 4, 5, 6, 7], [128, 129, 130, 131, 132, 133]), ([2, 3, 4, 5, 6, 7], [128, 129, 130, 131, 132, 133]), ([0, 1, 3, 4, 5, 6, 7], [126, 127, 129, 130, 131, 132, 133]), ([0, 1, 2, 5], [126, 127, 128, 131]), ([0, 1, 2, 5], [126, 127, 128, 131]), ([0, 1, 2, 3, 4], [126, 127, 128, 129, 130]), ([0, 1, 2], [126, 127, 128]), ([0, 1, 2], [126, 127, 128]), ([], []), ([], [])] s H) := at_drawT (by kernel_rfl) r6_51.2 (by kernel_rfl) s H
attribute [simp] r6_51
@[simp] theorem n6_52 (s : List V) (H : Heap) : evCode P Γ call n f m (cAt [1, 1, 1, 1, 1, 1, 1, 1, 1, 1, 0, 1, 0, 0, 1, 1, 0, 0, 1, 1, 1] B6) s H = some (.normal, s, H) := at_skip (by kernel_rfl) s H
noncomputable def r6_53 : {l : List Oper // opsOf (cAt [1, 1, 1, 1, 1, 1, 1, 1, 1, 1, 0, 1, 0, 0, 1, 1, 1] B6) = l} := by
  apply Subtype.mk
  dsimp only [opsOf, cAt, kids, B6, bodyOf, Try.f6, List.getD, List.getElem?_cons_zero, List.getElem?_cons_succ, Option.getD_some]
@[simp] theorem n6_53 (s : List V) (H : Heap) : evCode P Γ call n f m (cAt [1, 1, 1, 1, 1, 1, 1, 1, 1, 1, 0, 1, 0, 0, 1, 1, 1] B6) s H = regNext (evOpsGo P Γ call r6_53.1 r6_53.1 s H) := at_region (by kernel_rfl) r6_53.2 s H
attribute [simp] r6_53
@[simp] theorem n6_54 (s : List V) (H : Heap) : evCode P Γ call n f m (cAt [1, 1, 1, 1, 1, 1, 1, 1, 1, 1, 1] B6) s H = seqNext P Γ call n f m (cAt [1, 1, 1, 1, 1, 1, 1, 1, 1, 1, 1, 1] B6) (evCode P Γ call n f m (cAt [1, 1, 1, 1, 1, 1, 1, 1, 1, 1, 1, 0] B6) s H) := at_seq (by kernel_rfl) rfl rfl s H
@[simp] theorem n6_55 (s : List V) (H : Heap) : evCode P Γ call n f m (cAt [1, 1, 1, 1, 1, 1, 1, 1, 1, 1, 1, 0] B6) s H = seqNext P Γ call n f m (cAt [1, 1, 1, 1, 1, 1, 1, 1, 1, 1, 1, 0, 1] B6) (evCode P Γ call n f m (cAt [1, 1, 1, 1, 1, 1, 1, 1, 1, 1, 1, 0, 0] B6) s H) := at_seq (by kernel_rfl) rfl rfl s H
noncomputable def r6_56 : {l : List Oper // opsOf (cAt [1, 1, 1, 1, 1, 1, 1, 1, 1, 1, 1, 0, 0] B6) = l} := by
  apply Subtype.mk
  dsimp only [opsOf, cAt, kids, B6, bodyOf, Try.f6, List.getD, List.getElem?_cons_zero, List.getElem?_cons_succ, Option.getD_some]
@[simp] theorem n6_56 (s : List V) (H : Heap) : evCode P Γ call n f m (cAt [1, 1, 1, 1, 1, 1, 1, 1, 1, 1, 1, 0, 0] B6) s H = regNext (evOpsGo P Γ call r6_56.1 r6_56.1 s H) := at_region (by kernel_rfl) r6_56.2 s H
attribute [simp] r6_56
@[simp] theorem n6_57 (s : List V) (H : Heap) : evCode P Γ call n f m (cAt [1, 1, 1, 1, 1, 1, 1, 1, 1, 1, 1, 0, 1] B6) s H = condW P Γ call n f m (cAt [1, 1, 1, 1, 1, 1, 1, 1, 1, 1, 1, 0, 1, 0] B6) (cAt [1, 1, 1, 1, 1, 1, 1, 1, 1, 1, 1, 0, 1, 1] B6) s H (evOperand Γ s (.tmp 139)) := at_cond (by kernel_rfl) (by kernel_rfl) rfl rfl s H
@[simp] theorem n6_58 (s : List V) (H : Heap) : evCode P Γ call n f m (cAt [1, 1, 1, 1, 1, 1, 1, 1, 1, 1, 1, 0, 1, 0] B6) s H = seqNext P Γ call n f m (cAt [1, 1, 1, 1, 1, 1, 1, 1, 1, 1, 1, 0, 1, 0, 1] B6) (evCode P Γ call n f m (cAt [1, 1, 1, 1, 1, 1, 1, 1, 1, 1, 1, 0, 1, 0, 0] B6) s H) := at_seq (by kernel_rfl) rfl rfl s H
noncomputable def r6_59 : {l : List Oper // opsOf (cAt [1, 1, 1, 1, 1, 1, 1, 1, 1, 1, 1, 0, 1, 0, 0] B6) = l} := by
  apply Subtype.mk
  dsimp only [opsOf, cAt, kids, B6, bodyOf, Try.f6, List.getD, List.getElem?_cons_zero, List.getElem?_cons_succ, Option.getD_some]
@[simp] theorem n6_59 (s : List V) (H : Heap) : evCode P Γ call n f m (cAt [1, 1, 1, 1, 1, 1, 1, 1, 1, 1, 1, 0, 1, 0, 0] B6) s H = regNext (evOpsGo P Γ call r6_59.1 r6_59.1 s H) := at_region (by kernel_rfl) r6_59.2 s H
attribute [simp] r6_59
@[simp] theorem n6_60 (s : List V) (H : Heap) : evCode P Γ call n f m (cAt [1, 1, 1, 1, 1, 1, 1, 1, 1, 1, 1, 0, 1, 0, 1] B6) s H = some (.ret, s, H) := at_ret (by kernel_rfl) s H
@[simp] theorem n6_61 (s : List V) (H : Heap) : evCode P Γ call n f m (cAt [1, 1, 1, 1, 1, 1, 1, 1, 1, 1, 1, 0, 1, 1] B6) s H = some (.normal, s, H) := at_skip (by kernel_rfl) s H
@[simp] theorem n6_62 (s : List V) (H : Heap) : evCode P Γ call n f m (cAt [1, 1, 1, 1, 1, 1, 1, 1, 1, 1, 1, 1] B6) s H = seqNext P Γ call n f m (cAt [1, 1, 1, 1, 1, 1, 1, 1, 1, 1, 1, 1, 1] B6) (evCode P Γ call n f m (cAt [1, 1, 1, 1, 1, 1, 1, 1, 1, 1, 1, 1, 0] B6) s H) := at_seq (by kernel_rfl) rfl rfl s H
noncomputable def r6_63 : {l : List Oper // opsOf (cAt [1, 1, 1, 1, 1, 1, 1, 1, 1, 1, 1, 1, 0] B6) = l} := by
  apply Subtype.mk
  dsimp only [opsOf, cAt, kids, B6, bodyOf, Try.f6, List.getD, List.getElem?_cons_zero, List.getElem?_cons_succ, Option.getD_some]
@[simp] theorem n6_63 (s : List V) (H : Heap) : evCode P Γ call n f m (cAt [1, 1, 1, 1, 1, 1, 1, 1, 1, 1, 1, 1, 0] B6) s H = regNext (evOpsGo P Γ call r6_63.1 r6_63.1 s H) := at_region (by kernel_rfl) r6_63.2 s H
attribute [simp] r6_63
@[simp] theorem n6_64 (s : List V) (H : Heap) : evCode P Γ call n f m (cAt [1, 1, 1, 1, 1, 1, 1, 1, 1, 1, 1, 1, 1] B6) s H = seqNext P Γ call n f m (cAt [1, 1, 1, 1, 1, 1, 1, 1, 1, 1, 1, 1, 1, 1] B6) (evCode P Γ call n f m (cAt [1, 1, 1, 1, 1, 1, 1, 1, 1, 1, 1, 1, 1, 0] B6) s H) := at_seq (by kernel_rfl) rfl rfl s H
@[simp] theorem n6_65 (s : List V) (H : Heap) : evCode P Γ call n f m (cAt [1, 1, 1, 1, 1, 1, 1, 1, 1, 1, 1, 1, 1, 0] B6) s H = seqNext P Γ call n f m (cAt [1, 1, 1, 1, 1, 1, 1, 1, 1, 1, 1, 1, 1, 0, 1] B6) (evCode P Γ call n f m (cAt [1, 1, 1, 1, 1, 1, 1, 1, 1, 1, 1, 1, 1, 0, 0] B6) s H) := at_seq (by kernel_rfl) rfl rfl s H
noncomputable def r6_66 : {l : List Oper // opsOf (cAt [1, 1, 1, 1, 1, 1, 1, 1, 1, 1, 1, 1, 1, 0, 0] B6) = l} := by
  apply Subtype.mk
  dsimp only [opsOf, cAt, kids, B6, bodyOf, Try.f6, List.getD, List.getElem?_cons_zero, List.getElem?_cons_succ, Option.getD_some]
@[simp] theorem n6_66 (s : List V) (H : Heap) : evCode P Γ call n f m (cAt [1, 1, 1, 1, 1, 1, 1, 1, 1, 1, 1, 1, 1, 0, 0] B6) s H = regNext (evOpsGo P Γ call r6_66.1 r6_66.1 s H) := at_region (by kernel_rfl) r6_66.2 s H
attribute [simp] r6_66
@[simp] theorem n6_67 (s : List V) (H : Heap) : evCode P Γ call n f m (cAt [1, 1, 1, 1, 1, 1, 1, 1, 1, 1, 1, 1, 1, 0, 1] B6) s H = condW P Γ call n f m (cAt [1, 1, 1, 1, 1, 1, 1, 1, 1, 1, 1, 1, 1, 0, 1, 0] B6) (cAt [1, 1, 1, 1, 1, 1, 1, 1, 1, 1, 1, 1, 1, 0, 1, 1] B6) s H (evOperand Γ s (.tmp 149)) := at_cond (by kernel_rfl) (by kernel_rfl) rfl rfl s H
@[simp] theorem n6_68 (s : List V) (H : Heap) : evCode P Γ call n f m (cAt [1, 1, 1, 1, 1, 1, 1, 1, 1, 1, 1, 1, 1, 0, 1, 0] B6) s H = seqNext P Γ call n f m (cAt [1, 1, 1, 1, 1, 1, 1, 1, 1, 1, 1, 1, 1, 0, 1, 0, 1] B6) (evCode P Γ call n f m (cAt [1, 1, 1, 1, 1, 1, 1, 1, 1, 1, 1, 1, 1, 0, 1, 0, 0] B6) s H) := at_seq (by kernel_rfl) rfl rfl s H
noncomputable def r6_69 : {l : List Oper // opsOf (cAt [1, 1, 1, 1, 1, 1, 1, 1, 1, 1, 1, 1, 1, 0, 1, 0, 0] B6) = l} := by
  apply Subtype.mk
  dsimp only [opsOf, cAt, kids, B6, bodyOf, Try.f6, List.getD, List.getElem?_cons_zero, List.getElem?_cons_succ, Option.getD_some]
@[simp] theorem n6_69 (s : List V) (H : Heap) : evCode P Γ call n f m (cAt [1, 1, 1, 1, 1, 1, 1, 1, 1, 1, 1, 1, 1, 0, 1, 0, 0] B6) s H = regNext (evOpsGo P Γ call r6_69.1 r6_69.1 s H) := at_region (by kernel_rfl) r6_69.2 s H
attribute [simp] r6_69
@[simp] theorem n6_70 (s : List V) (H : Heap) : evCode P Γ call n f m (cAt [1, 1, 1, 1, 1, 1, 1, 1, 1, 1, 1, 1, 1, 0, 1, 0, 1] B6) s H = some (.ret, s, H) := at_ret (by kernel_rfl) s H
@[simp] theorem n6_71 (s : List V) (H : Heap) : evCode P Γ call n f m (cAt [1, 1, 1, 1, 1, 1, 1, 1, 1, 1, 1, 1, 1, 0, 1, 1] B6) s H = some (.normal, s, H) := at_skip (by kernel_rfl) s H
@[simp] theorem n6_72 (s : List V) (H : Heap) : evCode P Γ call n f m (cAt [1, 1, 1, 1, 1, 1, 1, 1, 1, 1, 1, 1, 1, 1] B6) s H = seqNext P Γ call n f m (cAt [1, 1, 1, 1, 1, 1, 1, 1, 1, 1, 1, 1, 1, 1, 1] B6) (evCode P Γ call n f m (cAt [1, 1, 1, 1, 1, 1, 1, 1, 1, 1, 1, 1, 1, 1, 0] B6) s H) := at_seq (by kernel_rfl) rfl rfl s H
noncomputable def r6_73 : {l : List Oper // opsOf (cAt [1, 1, 1, 1, 1, 1, 1, 1, 1, 1, 1, 1, 1, 1, 0] B6) = l} := by
  apply Subtype.mk
  dsimp only [opsOf, cAt, kids, B6, bodyOf, Try.f6, List.getD, List.getElem?_cons_zero, List.getElem?_cons_succ, Option.getD_some]
@[simp] theorem n6_73 (s : List V) (H : Heap) : evCode P Γ call n f m (cAt [1, 1, 1, 1, 1, 1, 1, 1, 1, 1, 1, 1, 1, 1, 0] B6) s H = regNext (evOpsGo P Γ call r6_73.1 r6_73.1 s H) := at_region (by kernel_rfl) r6_73.2 s H
attribute [simp] r6_73
@[simp] theorem n6_74 (s : List V) (H : Heap) : evCode P Γ call n f m (cAt [1, 1, 1, 1, 1, 1, 1, 1, 1, 1, 1, 1, 1, 1, 1] B6) s H = seqNext P Γ call n f m (cAt [1, 1, 1, 1, 1, 1, 1, 1, 1, 1, 1, 1, 1, 1, 1, 1] B6) (evCode P Γ call n f m (cAt [1, 1, 1, 1, 1, 1, 1, 1, 1, 1, 1, 1, 1, 1, 1, 0] B6) s H) := at_seq (by kernel_rfl) rfl rfl s H
@[simp] theorem n6_75 (s : List V) (H : Heap) : evCode P Γ call n f m (cAt [1, 1, 1, 1, 1, 1, 1, 1, 1, 1, 1, 1, 1, 1, 1, 0] B6) s H = seqNext P Γ call n f m (cAt [1, 1, 1, 1, 1, 1, 1, 1, 1, 1, 1, 1, 1, 1, 1, 0, 1] B6) (evCode P Γ call n f m (cAt [1, 1, 1, 1, 1, 1, 1, 1, 1, 1, 1, 1, 1, 1, 1, 0, 0] B6) s H) := at_seq (by kernel_rfl) rfl rfl s H
noncomputable def r6_76 : {l : List Oper // opsOf (cAt [1, 1, 1, 1, 1, 1, 1, 1, 1, 1, 1, 1, 1, 1, 1, 0, 0] B6) = l} := by
  apply Subtype.mk
  dsimp only [opsOf, cAt, kids, B6, bodyOf, Try.f6, List.getD, List.getElem?_cons_zero, List.getElem?_cons_succ, Option.getD_some]
@[simp] theorem n6_76 (s : List V) (H : Heap) : evCode P Γ call n f m (cAt [1, 1, 1, 1, 1, 1, 1, 1, 1, 1, 1, 1, 1, 1, 1, 0, 0] B6) s H = regNext (evOpsGo P Γ call r6_76.1 r6_76.1 s H) := at_region (by kernel_rfl) r6_76.2 s H
attribute [simp] r6_76
@[simp] theorem n6_77 (s : List V) (H : Heap) : evCode P Γ call n f m (cAt [1, 1, 1, 1, 1, 1, 1, 1, 1, 1, 1, 1, 1, 1, 1, 0, 1] B6) s H = blockNext 2 (evCode P Γ call n f m (cAt [1, 1, 1, 1, 1, 1, 1, 1, 1, 1, 1, 1, 1, 1, 1, 0, 1, 0] B6) s H) := at_block (by kernel_rfl) rfl s H
@[simp] theorem n6_78 (s : List V) (H : Heap) : evCode P Γ call n f m (cAt [1, 1, 1, 1, 1, 1, 1, 1, 1, 1, 1, 1, 1, 1, 1, 0, 1, 0] B6) s H = evLoopC P Γ call n f m (cAt [1, 1, 1, 1, 1, 1, 1, 1, 1, 1, 1, 1, 1, 1, 1, 0, 1, 0, 0] B6) n s H := at_loop (by kernel_rfl) rfl s H
noncomputable abbrev L6_25 : Code := cAt [1, 1, 1, 1, 1, 1, 1, 1, 1, 1, 1, 1, 1, 1, 1, 0, 1, 0, 0] B6
@[simp] theorem n6_78f : firstRegion (cAt [1, 1, 1, 1, 1, 1, 1, 1, 1, 1, 1, 1, 1, 1, 1, 0, 1, 0, 0] B6) = 25 := by kernel_rfl
@[simp] theorem n6_79 (s : List V) (H : Heap) : evCode P Γ call n f m (cAt [1, 1, 1, 1, 1, 1, 1, 1, 1, 1, 1, 1, 1, 1, 1, 0, 1, 0, 0] B6) s H = seqNext P Γ call n f m (cAt [1, 1, 1, 1, 1, 1, 1, 1, 1, 1, 1, 1, 1, 1, 1, 0, 1, 0, 0, 1] B6) (evCode P Γ call n f m (cAt [1, 1, 1, 1, 1, 1, 1, 1, 1, 1, 1, 1, 1, 1, 1, 0, 1, 0, 0, 0] B6) s H) := at_seq (by kernel_rfl) rfl rfl s H
@[simp] theorem n6_80 (s : List V) (H : Heap) : evCode P Γ call n f m (cAt [1, 1, 1, 1, 1, 1, 1, 1, 1, 1, 1, 1, 1, 1, 1, 0, 1, 0, 0, 0] B6) s H = seqNext P Γ call n f m (cAt [1, 1, 1, 1, 1, 1, 1, 1, 1, 1, 1, 1, 1, 1, 1, 0, 1, 0, 0, 0, 1] B6) (evCode P Γ call n f m (cAt [1, 1, 1, 1, 1, 1, 1, 1, 1, 1, 1, 1, 1, 1, 1, 0, 1, 0, 0, 0, 0] B6) s H) := at_seq (by kernel_rfl) rfl rfl s H
noncomputable def r6_81 : {l : List Oper // opsOf (cAt [1, 1, 1, 1, 1, 1, 1, 1, 1, 1, 1, 1, 1, 1, 1, 0, 1, 0, 0, 0, 0] B6) = l} := by
  apply Subtype.mk
  dsimp only [opsOf, cAt, kids, B6, bodyOf, Try.f6, List.getD, List.getElem?_cons_zero, List.getElem?_cons_succ, Option.getD_some]
@[simp] theorem n6_81 (s : List V) (H : Heap) : evCode P Γ call n f m (cAt [1, 1, 1, 1, 1, 1, 1, 1, 1, 1, 1, 1, 1, 1, 1, 0, 1, 0, 0, 0, 0] B6) s H = regNext (evOpsGo P Γ call r6_81.1 r6_81.1 s H) := at_region (by kernel_rfl) r6_81.2 s H
attribute [simp] r6_81
@[simp] theorem n6_82 (s : List V) (H : Heap) : evCode P Γ call n f m (cAt [1, 1, 1, 1, 1, 1, 1, 1, 1, 1, 1, 1, 1, 1, 1, 0, 1, 0, 0, 0, 1] B6) s H = condW P Γ call n f m (cAt [1, 1, 1, 1, 1, 1, 1, 1, 1, 1, 1, 1, 1, 1, 1, 0, 1, 0, 0, 0, 1, 0] B6) (cAt [1, 1, 1, 1, 1, 1, 1, 1, 1, 1, 1, 1, 1, 1, 1, 0, 1, 0, 0, 0, 1, 1] B6) s H (evOperand Γ s (.tmp 168)) := at_cond (by kernel_rfl) (by kernel_rfl) rfl rfl s H
@[simp] theorem n6_83 (s : List V) (H : Heap) : evCode P Γ call n f m (cAt [1, 1, 1, 1, 1, 1, 1, 1, 1, 1, 1, 1, 1, 1, 1, 0, 1, 0, 0, 0, 1, 0] B6) s H = some (.normal, s, H) := at_skip (by kernel_rfl) s H
@[simp] theorem n6_84 (s : List V) (H : Heap) : evCode P Γ call n f m (cAt [1, 1, 1, 1, 1, 1, 1, 1, 1, 1, 1, 1, 1, 1, 1, 0, 1, 0, 0, 0, 1, 1] B6) s H = some (.exit 2, s, H) := at_exit (by kernel_rfl) s H
@[simp] theorem n6_85 (s : List V) (H : Heap) : evCode P Γ call n f m (cAt [1, 1, 1, 1, 1, 1, 1, 1, 1, 1, 1, 1, 1, 1, 1, 0, 1, 0, 0, 1] B6) s H = seqNext P Γ call n f m (cAt [1, 1, 1, 1, 1, 1, 1, 1, 1, 1, 1, 1, 1, 1, 1, 0, 1, 0, 0, 1, 1] B6) (evCode P Γ call n f m (cAt [1, 1, 1, 1, 1, 1, 1, 1, 1, 1, 1, 1, 1, 1, 1, 0, 1, 0, 0, 1, 0] B6) s H) := at_seq (by kernel_rfl) rfl rfl s H
@[simp] theorem n6_86 (s : List V) (H : Heap) : evCode P Γ call n f m (cAt [1, 1, 1, 1, 1, 1, 1, 1, 1, 1, 1, 1, 1, 1, 1, 0, 1, 0, 0, 1, 0] B6) s H = blockNext 3 (evCode P Γ call n f m (cAt [1, 1, 1, 1, 1, 1, 1, 1, 1, 1, 1, 1, 1, 1, 1, 0, 1, 0, 0, 1, 0, 0] B6) s H) := at_block (by kernel_rfl) rfl s H
@[simp] theorem n6_87 (s : List V) (H : Heap) : evCode P Γ call n f m (cAt [1, 1, 1, 1, 1, 1, 1, 1, 1, 1, 1, 1, 1, 1, 1, 0, 1, 0, 0, 1, 0, 0] B6) s H = seqNext P Γ call n f m (cAt [1, 1, 1, 1, 1, 1, 1, 1, 1, 1, 1, 1, 1, 1, 1, 0, 1, 0, 0, 1, 0, 0, 1] B6) (evCode P Γ call n f m (cAt [1, 1, 1, 1, 1, 1, 1, 1, 1, 1, 1, 1, 1, 1, 1, 0, 1, 0, 0, 1, 0, 0, 0] B6) s H) := at_seq (by kernel_rfl) rfl rfl s H
noncomputable def r6_88 : {l : List Oper // opsOf (cAt [1, 1, 1, 1, 1, 1, 1, 1, 1, 1, 1, 1, 1, 1, 1, 0, 1, 0, 0, 1, 0, 0, 0] B6) = l} := by
  apply Subtype.mk
  dsimp only [opsOf, cAt, kids, B6, bodyOf, Try.f6, List.getD, List.getElem?_cons_zero, List.getElem?_cons_succ, Option.getD_some]
@[simp] theorem n6_88 (s : List V) (H : Heap) : evCode P Γ call n f m (cAt [1, 1, 1, 1, 1, 1, 1, 1, 1, 1, 1, 1, 1, 1, 1, 0, 1, 0, 0, 1, 0, 0, 0] B6) s H = regNext (evOpsGo P Γ call r6_88.1 r6_88.1 s H) := at_region (by kernel_rfl) r6_88.2 s H
attribute [simp] r6_88
@[simp] theorem n6_89 (s : List V) (H : Heap) : evCode P Γ call n f m (cAt [1, 1, 1, 1, 1, 1, 1, 1, 1, 1, 1, 1, 1, 1, 1, 0, 1, 0, 0, 1, 0, 0, 1] B6) s H = condW P Γ call n f m (cAt [1, 1, 1, 1, 1, 1, 1, 1, 1, 1, 1, 1, 1, 1, 1, 0, 1, 0, 0, 1, 0, 0, 1, 0] B6) (cAt [1, 1, 1, 1, 1, 1, 1, 1, 1, 1, 1, 1, 1, 1, 1, 0, 1, 0, 0, 1, 0, 0, 1, 1] B6) s H (evOperand Γ s (.tmp 177)) := at_cond (by kernel_rfl) (by kernel_rfl) rfl rfl s H
@[simp] theorem n6_90 (s : List V) (H : Heap) : evCode P Γ call n f m (cAt [1, 1, 1, 1, 1, 1, 1, 1, 1, 1, 1, 1, 1, 1, 1, 0, 1, 0, 0, 1, 0, 0, 1, 0] B6) s H = seqNext P Γ call n f m (cAt [1, 1, 1, 1, 1, 1, 1, 1, 1, 1, 1, 1, 1, 1, 1, 0, 1, 0, 0, 1, 0, 0, 1, 0, 1] B6) (evCode P Γ call n f m (cAt [1, 1, 1, 1, 1, 1, 1, 1, 1, 1, 1, 1, 1, 1, 1, 0, 1, 0, 0, 1, 0, 0, 1, 0, 0] B6) s H) := at_seq (by kernel_rfl) rfl rfl s H
noncomputable def r6_91 : {l : List Oper // opsOf (cAt [1, 1, 1, 1, 1, 1, 1, 1, 1, 1, 1, 1, 1, 1, 1, 0, 1, 0, 0, 1, 0, 0, 1, 0, 0] B6) = l} := by
  apply Subtype.mk
  dsimp only [opsOf, cAt, kids, B6, bodyOf, Try.f6, List.getD, List.getElem?_cons_zero, List.getElem?_cons_succ, Option.getD_some]
@[simp] theorem n6_91 (s : List V) (H : Heap) : evCode P Γ call n f m (cAt [1, 1, 1, 1, 1, 1, 1, 1, 1, 1, 1, 1, 1, 1, 1, 0, 1, 0, 0, 1, 0, 0, 1, 0, 0] B6) s H = regNext (evOpsGo P Γ call r6_91.1 r6_91.1 s H) := at_region (by kernel_rfl) r6_91.2 s H
attribute [simp] r6_91
@[simp] theorem n6_92 (s : List V) (H : Heap) : evCode P Γ call n f m (cAt [1, 1, 1, 1, 1, 1, 1, 1, 1, 1, 1, 1, 1, 1, 1, 0, 1, 0, 0, 1, 0, 0, 1, 0, 1] B6) s H = some (.ret, s, H) := at_ret (by kernel_rfl) s H
@[simp] theorem n6_93 (s : List V) (H : Heap) : evCode P Γ call n f m (cAt [1, 1, 1, 1, 1, 1, 1, 1, 1, 1, 1, 1, 1, 1, 1, 0, 1, 0, 0, 1, 0, 0, 1, 1] B6) s H = some (.normal, s, H) := at_skip (by kernel_rfl) s H
noncomputable def r6_94 : {l : List Oper // opsOf (cAt [1, 1, 1, 1, 1, 1, 1, 1, 1, 1, 1, 1, 1, 1, 1, 0, 1, 0, 0, 1, 1] B6) = l} := by
  apply Subtype.mk
  dsimp only [opsOf, cAt, kids, B6, bodyOf, Try.f6, List.getD, List.getElem?_cons_zero, List.getElem?_cons_succ, Option.getD_some]
@[simp] theorem n6_94 (s : List V) (H : Heap) : evCode P Γ call n f m (cAt [1, 1, 1, 1, 1, 1, 1, 1, 1, 1, 1, 1, 1, 1, 1, 0, 1, 0, 0, 1, 1] B6) s H = regNext (evOpsGo P Γ call r6_94.1 r6_94.1 s H) := at_region (by kernel_rfl) r6_94.2 s H
attribute [simp] r6_94
@[simp] theorem n6_95 (s : List V) (H : Heap) : evCode P Γ call n f m (cAt [1, 1, 1, 1, 1, 1, 1, 1, 1, 1, 1, 1, 1, 1, 1, 1] B6) s H = seqNext P Γ call n f m (cAt [1, 1, 1, 1, 1, 1, 1, 1, 1, 1, 1, 1, 1, 1, 1, 1, 1] B6) (evCode P Γ call n f m (cAt [1, 1, 1, 1, 1, 1, 1, 1, 1, 1, 1, 1, 1, 1, 1, 1, 0] B6) s H) := at_seq (by kernel_rfl) rfl rfl s H
noncomputable def r6_96 : {l : List Oper // opsOf (cAt [1, 1, 1, 1, 1, 1, 1, 1, 1, 1, 1, 1, 1, 1, 1, 1, 0] B6) = l} := by
  apply Subtype.mk
  dsimp only [opsOf, cAt, kids, B6, bodyOf, Try.f6, List.getD, List.getElem?_cons_zero, List.getElem?_cons_succ, Option.getD_some]
@[simp] theorem n6_96 (s : List V) (H : Heap) : evCode P Γ call n f m (cAt [1, 1, 1, 1, 1, 1, 1, 1, 1, 1, 1, 1, 1, 1, 1, 1, 0] B6) s H = regNext (evOpsGo P Γ call r6_96.1 r6_96.1 s H) := at_region (by kernel_rfl) r6_96.2 s H
attribute [simp] r6_96
@[simp] theorem n6_97 (s : List V) (H : Heap) : evCode P Γ call n f m (cAt [1, 1, 1, 1, 1, 1, 1, 1, 1, 1, 1, 1, 1, 1, 1, 1, 1] B6) s H = some (.ret, s, H) := at_ret (by kernel_rfl) s H
theorem b6 {k : Nat} (ho : ∀ args H, Γ.orc 6 args H = none) (args : List V) (H : Heap) (ha : args.length ≤ 200) : evF Try.prog Γ (k + 1) 6 args H = bodyEnd Try.prog [.tmp 8] H.length (evCode Try.prog Γ (evF Try.prog Γ k) k 6 H.length (cAt [] B6) (mkL 200 V.undef (enumV 0 args)) H) := body_at Try.func6 (by decide) rfl ho rfl rfl args H ha
noncomputable def B30 : Code := bodyOf Try.f30
@[simp] theorem n30_1 (s : List V) (H : Heap) : evCode P Γ call n f m (cAt [] B30) s H = seqNext P Γ call n f m (cAt [1] B30) (evCode P Γ call n f m (cAt [0] B30) s H) := at_seq (by kernel_rfl) rfl rfl s H
noncomputable def r30_2 : {l : List Oper // opsOf (cAt [0] B30) = l} := by
  apply Subtype.mk
  dsimp only [opsOf, cAt, kids, B30, bodyOf, Try.f30, List.getD, List.getElem?_cons_zero, List.getElem?_cons_succ, Option.getD_some]
@[simp] theorem n30_2 (s : List V) (H : Heap) : evCode P Γ call n f m (cAt [0] B30) s H = regNext (evOpsGo P Γ call r30_2.1 r30_2.1 s H) := at_region (by kernel_rfl) r30_2.2 s H
attribute [simp] r30_2
@[simp] theorem n30_3 (s : List V) (H : Heap) : evCode P Γ call n f m (cAt [1] B30) s H = seqNext P Γ call n f m (cAt [1, 1] B30) (evCode P Γ call n f m (cAt [1, 0] B30) s H) := at_seq (by kernel_rfl) rfl rfl s H
noncomputable def r30_4 : {l : List Oper // opsOf (cAt [1, 0] B30) = l} := by
  apply Subtype.mk
  dsimp only [opsOf, cAt, kids, B30, bodyOf, Try.f30, List.getD, List.getElem?_cons_zero, List.getElem?_cons_succ, Option.getD_some]
@[simp] theorem n30_4 (s : List V) (H : Heap) : evCode P Γ call n f m (cAt [1, 0] B30) s H = regNext (evOpsGo P Γ call r30_4.1 r30_4.1 s H) := at_region (by kernel_rfl) r30_4.2 s H
attribute [simp] r30_4
@[simp] theorem n30_5 (s : List V) (H : Heap) : evCode P Γ call n f m (cAt [1, 1] B30) s H = some (.ret, s, H) := at_ret (by kernel_rfl) s H
theorem b30 {k : Nat} (ho : ∀ args H, Γ.orc 30 args H = none) (args : List V) (H : Heap) (ha : args.length ≤ 8) : evF Try.prog Γ (k + 1) 30 args H = bodyEnd Try.prog [.tmp 3] H.length (evCode Try.prog Γ (evF Try.prog Γ k) k 30 H.length (cAt [] B30) (mkL 8 V.undef (enumV 0 args)) H) := body_at Try.func30 (by decide) rfl ho rfl rfl args H ha
noncomputable def B31 : Code := bodyOf Try.f31
@[simp] theorem n31_1 (s : List V) (H : Heap) : evCode P Γ call n f m (cAt [] B31) s H = seqNext P Γ call n f m (cAt [1] B31) (evCode P Γ call n f m (cAt [0] B31) s H) := at_seq (by kernel_rfl) rfl rfl s H
noncomputable def r31_2 : {l : List Oper // opsOf (cAt [0] B31) = l} := by
  apply Subtype.mk
  dsimp only [opsOf, cAt, kids, B31, bodyOf, Try.f31, List.getD, List.getElem?_cons_zero, List.getElem?_cons_succ, Option.getD_some]
@[simp] theorem n31_2 (s : List V) (H : Heap) : evCode P Γ call n f m (cAt [0] B31) s H = regNext (evOpsGo P Γ call r31_2.1 r31_2.1 s H) := at_region (by kernel_rfl) r31_2.2 s H
attribute [simp] r31_2
@[simp] theorem n31_3 (s : List V) (H : Heap) : evCode P Γ call n f m (cAt [1] B31) s H = seqNext P Γ call n f m (cAt [1, 1] B31) (evCode P Γ call n f m (cAt [1, 0] B31) s H) := at_seq (by kernel_rfl) rfl rfl s H
noncomputable def r31_4 : {l : List Oper // opsOf (cAt [1, 0] B31) = l} := by
  apply Subtype.mk
  dsimp only [opsOf, cAt, kids, B31, bodyOf, Try.f31, List.getD, List.getElem?_cons_zero, List.getElem?_cons_succ, Option.getD_some]
@[simp] theorem n31_4 (s : List V) (H : Heap) : evCode P Γ call n f m (cAt [1, 0] B31) s H = regNext (evOpsGo P Γ call r31_4.1 r31_4.1 s H) := at_region (by kernel_rfl) r31_4.2 s H
attribute [simp] r31_4
@[simp] theorem n31_5 (s : List V) (H : Heap) : evCode P Γ call n f m (cAt [1, 1] B31) s H = seqNext P Γ call n f m (cAt [1, 1, 1] B31) (evCode P Γ call n f m (cAt [1, 1, 0] B31) s H) := at_seq (by kernel_rfl) rfl rfl s H
@[simp] theorem n31_6 (s : List V) (H : Heap) : evCode P Γ call n f m (cAt [1, 1, 0] B31) s H = seqNext P Γ call n f m (cAt [1, 1, 0, 1] B31) (evCode P Γ call n f m (cAt [1, 1, 0, 0] B31) s H) := at_seq (by kernel_rfl) rfl rfl s H
noncomputable def r31_7 : {l : List Oper // opsOf (cAt [1, 1, 0, 0] B31) = l} := by
  apply Subtype.mk
  dsimp only [opsOf, cAt, kids, B31, bodyOf, Try.f31, List.getD, List.getElem?_cons_zero, List.getElem?_cons_succ, Option.getD_some]
@[simp] theorem n31_7 (s : List V) (H : Heap) : evCode P Γ call n f m (cAt [1, 1, 0, 0] B31) s H = regNext (evOpsGo P Γ call r31_7.1 r31_7.1 s H) := at_region (by kernel_rfl) r31_7.2 s H
attribute [simp] r31_7
@[simp] theorem n31_8 (s : List V) (H : Heap) : evCode P Γ call n f m (cAt [1, 1, 0, 1] B31) s H = condW P Γ call n f m (cAt [1, 1, 0, 1, 0] B31) (cAt [1, 1, 0, 1, 1] B31) s H (evOperand Γ s (.tmp 12)) := at_cond (by kernel_rfl) (by kernel_rfl) rfl rfl s H
@[simp] theorem n31_9 (s : List V) (H : Heap) : evCode P Γ call n f m (cAt [1, 1, 0, 1, 0] B31) s H = seqNext P Γ call n f m (cAt [1, 1, 0, 1, 0, 1] B31) (evCode P Γ call n f m (cAt [1, 1, 0, 1, 0, 0] B31) s H) := at_seq (by kernel_rfl) rfl rfl s H
noncomputable def r31_10 : {l : List Oper // opsOf (cAt [1, 1, 0, 1, 0, 0] B31) = l} := by
  apply Subtype.mk
  dsimp only [opsOf, cAt, kids, B31, bodyOf, Try.f31, List.getD, List.getElem?_cons_zero, List.getElem?_cons_succ, Option.getD_some]
@[simp] theorem n31_10 (s : List V) (H : Heap) : evCode P Γ call n f m (cAt [1, 1, 0, 1, 0, 0] B31) s H = regNext (evOpsGo P Γ call r31_10.1 r31_10.1 s H) := at_region (by kernel_rfl) r31_10.2 s H
attribute [simp] r31_10
@[simp] theorem n31_11 (s : List V) (H : Heap) : evCode P Γ call n f m (cAt [1, 1, 0, 1, 0, 1] B31) s H = some (.ret, s, H) := at_ret (by kernel_rfl) s H
@[simp] theorem n31_12 (s : List V) (H : Heap) : evCode P Γ call n f m (cAt [1, 1, 0, 1, 1] B31) s H = some (.normal, s, H) := at_skip (by kernel_rfl) s H
@[simp] theorem n31_13 (s : List V) (H : Heap) : evCode P Γ call n f m (cAt [1, 1, 1] B31) s H = seqNext P Γ call n f m (cAt [1, 1, 1, 1] B31) (evCode P Γ call n f m (cAt [1, 1, 1, 0] B31) s H) := at_seq (by kernel_rfl) rfl rfl s H
@[simp] theorem n31_14 (s : List V) (H : Heap) : evCode P Γ call n f m (cAt [1, 1, 1, 0] B31) s H = seqNext P Γ call n f m (cAt [1, 1, 1, 0, 1] B31) (evCode P Γ call n f m (cAt [1, 1, 1, 0, 0] B31) s H) := at_seq (by kernel_rfl) rfl rfl s H
noncomputable def r31_15 : {l : List Oper // opsOf (cAt [1, 1, 1, 0, 0] B31) = l} := by
  apply Subtype.mk
  dsimp only [opsOf, cAt, kids, B31, bodyOf, Try.f31, List.getD, List.getElem?_cons_zero, List.getElem?_cons_succ, Option.getD_some]
@[simp] theorem n31_15 (s : List V) (H : Heap) : evCode P Γ call n f m (cAt [1, 1, 1, 0, 0] B31) s H = regNext (evOpsGo P Γ call r31_15.1 r31_15.1 s H) := at_region (by kernel_rfl) r31_15.2 s H
attribute [simp] r31_15
@[simp] theorem n31_16 (s : List V) (H : Heap) : evCode P Γ call n f m (cAt [1, 1, 1, 0, 1] B31) s H = blockNext 0 (evCode P Γ call n f m (cAt [1, 1, 1, 0, 1, 0] B31) s H) := at_block (by kernel_rfl) rfl s H
@[simp] theorem n31_17 (s : List V) (H : Heap) : evCode P Γ call n f m (cAt [1, 1, 1, 0, 1, 0] B31) s H = evLoopC P Γ call n f m (cAt [1, 1, 1, 0, 1, 0, 0] B31) n s H := at_loop (by kernel_rfl) rfl s H
noncomputable abbrev L31_5 : Code := cAt [1, 1, 1, 0, 1, 0, 0] B31
@[simp] theorem n31_17f : firstRegion (cAt [1, 1, 1, 0, 1, 0, 0] B31) = 5 := by kernel_rfl
@[simp] theorem n31_18 (s : List V) (H : Heap) : evCode P Γ call n f m (cAt [1, 1, 1, 0, 1, 0, 0] B31) s H = seqNext P Γ call n f m (cAt [1, 1, 1, 0, 1, 0, 0, 1] B31) (evCode P Γ call n f m (cAt [1, 1, 1, 0, 1, 0, 0, 0] B31) s H) := at_seq (by kernel_rfl) rfl rfl s H
@[simp] theorem n31_19 (s : List V) (H : Heap) : evCode P Γ call n f m (cAt [1, 1, 1, 0, 1, 0, 0, 0] B31) s H = seqNext P Γ call n f m (cAt [1, 1, 1, 0, 1, 0, 0, 0, 1] B31) (evCode P Γ call n f m (cAt [1, 1, 1, 0, 1, 0, 0, 0, 0] B31) s H) := at_seq (by kernel_rfl) rfl rfl s H
noncomputable def r31_20 : {l : List Oper // opsOf (cAt [1, 1, 1, 0, 1, 0, 0, 0, 0] B31) = l} := by
  apply Subtype.mk
  dsimp only [opsOf, cAt, kids, B31, bodyOf, Try.f31, List.getD, List.getElem?_cons_zero, List.getElem?_cons_succ, Option.getD_some]
@[simp] theorem n31_20 (s : List V) (H : Heap) : evCode P Γ call n f m (cAt [1, 1, 1, 0, 1, 0, 0, 0, 0] B31) s H = regNext (evOpsGo P Γ call r31_20.1 r31_20.1 s H) := at_region (by kernel_rfl) r31_20.2 s H
attribute [simp] r31_20
@[simp] theorem n31_21 (s : List V) (H : Heap) : evCode P Γ call n f m (cAt [1, 1, 1, 0, 1, 0, 0, 0, 1] B31) s H = condW P Γ call n f m (cAt [1, 1, 1, 0, 1, 0, 0, 0, 1, 0] B31) (cAt [1, 1, 1, 0, 1, 0, 0, 0, 1, 1] B31) s H (evOperand Γ s (.tmp 19)) := at_cond (by kernel_rfl) (by kernel_rfl) rfl rfl s H
@[simp] theorem n31_22 (s : List V) (H : Heap) : evCode P Γ call n f m (cAt [1, 1, 1, 0, 1, 0, 0, 0, 1, 0] B31) s H = some (.normal, s, H) := at_skip (by kernel_rfl) s H
@[simp] theorem n31_23 (s : List V) (H : Heap) : evCode P Γ call n f m (cAt [1, 1, 1, 0, 1, 0, 0, 0, 1, 1] B31) s H = some (.exit 0, s, H) := at_exit (by kernel_rfl) s H
@[simp] theorem n31_24 (s : List V) (H : Heap) : evCode P Γ call n f m (cAt [1, 1, 1, 0, 1, 0, 0, 1] B31) s H = seqNext P Γ call n f m (cAt [1, 1, 1, 0, 1, 0, 0, 1, 1] B31) (evCode P Γ call n f m (cAt [1, 1, 1, 0, 1, 0, 0, 1, 0] B31) s H) := at_seq (by kernel_rfl) rfl rfl s H
@[simp] theorem n31_25 (s : List V) (H : Heap) : evCode P Γ call n f m (cAt [1, 1, 1, 0, 1, 0, 0, 1, 0] B31) s H = blockNext 1 (evCode P Γ call n f m (cAt [1, 1, 1, 0, 1, 0, 0, 1, 0, 0] B31) s H) := at_block (by kernel_rfl) rfl s H
@[simp] theorem n31_26 (s : List V) (H : Heap) : evCode P Γ call n f m (cAt [1, 1, 1, 0, 1, 0, 0, 1, 0, 0] B31) s H = seqNext P Γ call n f m (cAt [1, 1, 1, 0, 1, 0, 0, 1, 0, 0, 1] B31) (evCode P Γ call n f m (cAt [1, 1, 1, 0, 1, 0, 0, 1, 0, 0, 0] B31) s H) := at_seq (by kernel_rfl) rfl rfl s H
noncomputable def r31_27 : {l : List Oper // opsOf (cAt [1, 1, 1, 0, 1, 0, 0, 1, 0, 0, 0] B31) = l} := by
  apply Subtype.mk
  dsimp only [opsOf, cAt, kids, B31, bodyOf, Try.f31, List.getD, List.getElem?_cons_zero, List.getElem?_cons_succ, Option.getD_some]
@[simp] theorem n31_27 (s : List V) (H : Heap) : evCode P Γ call n f m (cAt [1, 1, 1, 0, 1, 0, 0, 1, 0, 0, 0] B31) s H = regNext (evOpsGo P Γ call r31_27.1 r31_27.1 s H) := at_region (by kernel_rfl) r31_27.2 s H
attribute [simp] r31_27
@[simp] theorem n31_28 (s : List V) (H : Heap) : evCode P Γ call n f m (cAt [1, 1, 1, 0, 1, 0, 0, 1, 0, 0, 1] B31) s H = seqNext P Γ call n f m (cAt [1, 1, 1, 0, 1, 0, 0, 1, 0, 0, 1, 1] B31) (evCode P Γ call n f m (cAt [1, 1, 1, 0, 1, 0, 0, 1, 0, 0, 1, 0] B31) s H) := at_seq (by kernel_rfl) rfl rfl s H
noncomputable def r31_29 : {l : List Oper // opsOf (cAt [1, 1, 1, 0, 1, 0, 0, 1, 0, 0, 1, 0] B31) = l} := by
  apply Subtype.mk
  dsimp only [opsOf, cAt, kids, B31, bodyOf, Try.f31, List.getD, List.getElem?_cons_zero, List.getElem?_cons_succ, Option.getD_some]
@[simp] theorem n31_29 (s : List V) (H : Heap) : evCode P Γ call n f m (cAt [1, 1, 1, 0, 1, 0, 0, 1, 0, 0, 1, 0] B31) s H = regNext (evOpsGo P Γ call r31_29.1 r31_29.1 s H) := at_region (by kernel_rfl) r31_29.2 s H
attribute [simp] r31_29
@[simp] theorem n31_30 (s : List V) (H : Heap) : evCode P Γ call n f m (cAt [1, 1, 1, 0, 1, 0, 0, 1, 0, 0, 1, 1] B31) s H = condW P Γ call n f m (cAt [1, 1, 1, 0, 1, 0, 0, 1, 0, 0, 1, 1, 0] B31) (cAt [1, 1, 1, 0, 1, 0, 0, 1, 0, 0, 1, 1, 1] B31) s H (evOperand Γ s (.tmp 29)) := at_cond (by kernel_rfl) (by kernel_rfl) rfl rfl s H
@[simp] theorem n31_31 (s : List V) (H : Heap) : evCode P Γ call n f m (cAt [1, 1, 1, 0, 1, 0, 0, 1, 0, 0, 1, 1, 0] B31) s H = seqNext P Γ call n f m (cAt [1, 1, 1, 0, 1, 0, 0, 1, 0, 0, 1, 1, 0, 1] B31) (evCode P Γ call n f m (cAt [1, 1, 1, 0, 1, 0, 0, 1, 0, 0, 1, 1, 0, 0] B31) s H) := at_seq (by kernel_rfl) rfl rfl s H
noncomputable def r31_32 : {l : List Oper // opsOf (cAt [1, 1, 1, 0, 1, 0, 0, 1, 0, 0, 1, 1, 0, 0] B31) = l} := by
  apply Subtype.mk
  dsimp only [opsOf, cAt, kids, B31, bodyOf, Try.f31, List.getD, List.getElem?_cons_zero, List.getElem?_cons_succ, Option.getD_some]
@[simp] theorem n31_32 (s : List V) (H : Heap) : evCode P Γ call n f m (cAt [1, 1, 1, 0, 1, 0, 0, 1, 0, 0, 1, 1, 0, 0] B31) s H = regNext (evOpsGo P Γ call r31_32.1 r31_32.1 s H) := at_region (by kernel_rfl) r31_32.2 s H
attribute [simp] r31_32
noncomputable def r31_33 : {l : List Oper // opsOf (cAt [1, 1, 1, 0, 1, 0, 0, 1, 0, 0, 1, 1, 0, 1] B31) = l} := by
  apply Subtype.mk
  dsimp only [opsOf, cAt, kids, B31, bodyOf, Try.f31, List.getD, List.getElem?_cons_zero, List.getElem?_cons_succ, Option.getD_some]
@[simp] theorem n31_33 (s : List V) (H : Heap) : evCode P Γ call n f m (cAt [1, 1, 1, 0, 1, 0, 0, 1, 0, 0, 1, 1, 0, 1] B31) s H = regNext (evOpsGo P Γ call r31_33.1 r31_33.1 s H) := at_region (by kernel_rfl) r31_33.2 s H
attribute [simp] r31_33
@[simp] theorem n31_34 (s : List V) (H : Heap) : evCode P Γ call n f m (cAt [1, 1, 1, 0, 1, 0, 0, 1, 0, 0, 1, 1, 1] B31) s H = some (.normal, s, H) := at_skip (by kernel_rfl) s H
noncomputable def r31_35 : {l : List Oper // opsOf (cAt [1, 1, 1, 0, 1, 0, 0, 1, 1] B31) = l} := by
  apply Subtype.mk
  dsimp only [opsOf, cAt, kids, B31, bodyOf, Try.f31, List.getD, List.getElem?_cons_zero, List.getElem?_cons_succ, Option.getD_some]
@[simp] theorem n31_35 (s : List V) (H : Heap) : evCode P Γ call n f m (cAt [1, 1, 1, 0, 1, 0, 0, 1, 1] B31) s H = regNext (evOpsGo P Γ call r31_35.1 r31_35.1 s H) := at_region (by kernel_rfl) r31_35.2 s H
attribute [simp] r31_35
@[simp] theorem n31_36 (s : List V) (H : Heap) : evCode P Γ call n f m (cAt [1, 1, 1, 1] B31) s H = seqNext P Γ call n f m (cAt [1, 1, 1, 1, 1] B31) (evCode P Γ call n f m (cAt [1, 1, 1, 1, 0] B31) s H) := at_seq (by kernel_rfl) rfl rfl s H
noncomputable def r31_37 : {l : List Oper // opsOf (cAt [1, 1, 1, 1, 0] B31) = l} := by
  apply Subtype.mk
  dsimp only [opsOf, cAt, kids, B31, bodyOf, Try.f31, List.getD, List.getElem?_cons_zero, List.getElem?_cons_succ, Option.getD_some]
@[simp] theorem n31_37 (s : List V) (H : Heap) : evCode P Γ call n f m (cAt [1, 1, 1, 1, 0] B31) s H = regNext (evOpsGo P Γ call r31_37.1 r31_37.1 s H) := at_region (by kernel_rfl) r31_37.2 s H
attribute [simp] r31_37
@[simp] theorem n31_38 (s : List V) (H : Heap) : evCode P Γ call n f m (cAt [1, 1, 1, 1, 1] B31) s H = seqNext P Γ call n f m (cAt [1, 1, 1, 1, 1, 1] B31) (evCode P Γ call n f m (cAt [1, 1, 1, 1, 1, 0] B31) s H) := at_seq (by kernel_rfl) rfl rfl s H
noncomputable def r31_39 : {l : List Oper // opsOf (cAt [1, 1, 1, 1, 1, 0] B31) = l} := by
  apply Subtype.mk
  dsimp only [opsOf, cAt, kids, B31, bodyOf, Try.f31, List.getD, List.getElem?_cons_zero, List.getElem?_cons_succ, Option.getD_some]
@[simp] theorem n31_39 (s : List V) (H : Heap) : evCode P Γ call n f m (cAt [1, 1, 1, 1, 1, 0] B31) s H = regNext (evOpsGo P Γ call r31_39.1 r31_39.1 s H) := at_region (by kernel_rfl) r31_39.2 s H
attribute [simp] r31_39
@[simp] theorem n31_40 (s : List V) (H : Heap) : evCode P Γ call n f m (cAt [1, 1, 1, 1, 1, 1] B31) s H = some (.ret, s, H) := at_ret (by kernel_rfl) s H
theorem b31 {k : Nat} (ho : ∀ args H, Γ.orc 31 args H = none) (args : List V) (H : Heap) (ha : args.length ≤ 42) : evF Try.prog Γ (k + 1) 31 args H = bodyEnd Try.prog [.tmp 4] H.length (evCode Try.prog Γ (evF Try.prog Γ k) k 31 H.length (cAt [] B31) (mkL 42 V.undef (enumV 0 args)) H) := body_at Try.func31 (by decide) rfl ho rfl rfl args H ha
noncomputable def B32 : Code := bodyOf Try.f32
@[simp] theorem n32_1 (s : List V) (H : Heap) : evCode P Γ call n f m (cAt [] B32) s H = seqNext P Γ call n f m (cAt [1] B32) (evCode P Γ call n f m (cAt [0] B32) s H) := at_seq (by kernel_rfl) rfl rfl s H
noncomputable def r32_2 : {l : List Oper // opsOf (cAt [0] B32) = l} := by
  apply Subtype.mk
  dsimp only [opsOf, cAt, kids, B32, bodyOf, Try.f32, List.getD, List.getElem?_cons_zero, List.getElem?_cons_succ, Option.getD_some]
@[simp] theorem n32_2 (s : List V) (H : Heap) : evCode P Γ call n f m (cAt [0] B32) s H = regNext (evOpsGo P Γ call r32_2.1 r32_2.1 s H) := at_region (by kernel_rfl) r32_2.2 s H
attribute [simp] r32_2
@[simp] theorem n32_3 (s : List V) (H : Heap) : evCode P Γ call n f m (cAt [1] B32) s H = seqNext P Γ call n f m (cAt [1, 1] B32) (evCode P Γ call n f m (cAt [1, 0] B32) s H) := at_seq (by kernel_rfl) rfl rfl s H
@[simp] theorem n32_4 (s : List V) (H : Heap) : evCode P Γ call n f m (cAt [1, 0] B32) s H = seqNext P Γ call n f m (cAt [1, 0, 1] B32) (evCode P Γ call n f m (cAt [1, 0, 0] B32) s H) := at_seq (by kernel_rfl) rfl rfl s H
noncomputable def r32_5 : {l : List Oper // opsOf (cAt [1, 0, 0] B32) = l} := by
  apply Subtype.mk
  dsimp only [opsOf, cAt, kids, B32, bodyOf, Try.f32, List.getD, List.getElem?_cons_zero, List.getElem?_cons_succ, Option.getD_some]
@[simp] theorem n32_5 (s : List V) (H : Heap) : evCode P Γ call n f m (cAt [1, 0, 0] B32) s H = regNext (evOpsGo P Γ call r32_5.1 r32_5.1 s H) := at_region (by kernel_rfl) r32_5.2 s H
attribute [simp] r32_5
@[simp] theorem n32_6 (s : List V) (H : Heap) : evCode P Γ call n f m (cAt [1, 0, 1] B32) s H = condW P Γ call n f m (cAt [1, 0, 1, 0] B32) (cAt [1, 0, 1, 1] B32) s H (evOperand Γ s (.tmp 4)) := at_cond (by kernel_rfl) (by kernel_rfl) rfl rfl s H
@[simp] theorem n32_7 (s : List V) (H : Heap) : evCode P Γ call n f m (cAt [1, 0, 1, 0] B32) s H = seqNext P Γ call n f m (cAt [1, 0, 1, 0, 1] B32) (evCode P Γ call n f m (cAt [1, 0, 1, 0, 0] B32) s H) := at_seq (by kernel_rfl) rfl rfl s H
noncomputable def r32_8 : {l : List Oper // opsOf (cAt [1, 0, 1, 0, 0] B32) = l} := by
  apply Subtype.mk
  dsimp only [opsOf, cAt, kids, B32, bodyOf, Try.f32, List.getD, List.getElem?_cons_zero, List.getElem?_cons_succ, Option.getD_some]
@[simp] theorem n32_8 (s : List V) (H : Heap) : evCode P Γ call n f m (cAt [1, 0, 1, 0, 0] B32) s H = regNext (evOpsGo P Γ call r32_8.1 r32_8.1 s H) := at_region (by kernel_rfl) r32_8.2 s H
attribute [simp] r32_8
@[simp] theorem n32_9 (s : List V) (H : Heap) : evCode P Γ call n f m (cAt [1, 0, 1, 0, 1] B32) s H = some (.ret, s, H) := at_ret (by kernel_rfl) s H
@[simp] theorem n32_10 (s : List V) (H : Heap) : evCode P Γ call n f m (cAt [1, 0, 1, 1] B32) s H = some (.normal, s, H) := at_skip (by kernel_rfl) s H
@[simp] theorem n32_11 (s : List V) (H : Heap) : evCode P Γ call n f m (cAt [1, 1] B32) s H = seqNext P Γ call n f m (cAt [1, 1, 1] B32) (evCode P Γ call n f m (cAt [1, 1, 0] B32) s H) := at_seq (by kernel_rfl) rfl rfl s H
noncomputable def r32_12 : {l : List Oper // opsOf (cAt [1, 1, 0] B32) = l} := by
  apply Subtype.mk
  dsimp only [opsOf, cAt, kids, B32, bodyOf, Try.f32, List.getD, List.getElem?_cons_zero, List.getElem?_cons_succ, Option.getD_some]
@[simp] theorem n32_12 (s : List V) (H : Heap) : evCode P Γ call n f m (cAt [1, 1, 0] B32) s H = regNext (evOpsGo P Γ call r32_12.1 r32_12.1 s H) := at_region (by kernel_rfl) r32_12.2 s H
attribute [simp] r32_12
@[simp] theorem n32_13 (s : List V) (H : Heap) : evCode P Γ call n f m (cAt [1, 1, 1] B32) s H = some (.ret, s, H) := at_ret (by kernel_rfl) s H
theorem b32 {k : Nat} (ho : ∀ args H, Γ.orc 32 args H = none) (args : List V) (H : Heap) (ha : args.length ≤ 8) : evF Try.prog Γ (k + 1) 32 args H = bodyEnd Try.prog [.tmp 2] H.length (evCode Try.prog Γ (evF Try.prog Γ k) k 32 H.length (cAt [] B32) (mkL 8 V.undef (enumV 0 args)) H) := body_at Try.func32 (by decide) rfl ho rfl rfl args H ha
noncomputable def B33 : Code := bodyOf Try.f33
@[simp] theorem n33_1 (s : List V) (H : Heap) : evCode P Γ call n f m (cAt [] B33) s H = seqNext P Γ call n f m (cAt [1] B33) (evCode P Γ call n f m (cAt [0] B33) s H) := at_seq (by kernel_rfl) rfl rfl s H
noncomputable def r33_2 : {l : List Oper // opsOf (cAt [0] B33) = l} := by
  apply Subtype.mk
  dsimp only [opsOf, cAt, kids, B33, bodyOf, Try.f33, List.getD, List.getElem?_cons_zero, List.getElem?_cons_succ, Option.getD_some]
@[simp] theorem n33_2 (s : List V) (H : Heap) : evCode P Γ call n f m (cAt [0] B33) s H = regNext (evOpsGo P Γ call r33_2.1 r33_2.1 s H) := at_region (by kernel_rfl) r33_2.2 s H
attribute [simp] r33_2
@[simp] theorem n33_3 (s : List V) (H : Heap) : evCode P Γ call n f m (cAt [1] B33) s H = seqNext P Γ call n f m (cAt [1, 1] B33) (evCode P Γ call n f m (cAt [1, 0] B33) s H) := at_seq (by kernel_rfl) rfl rfl s H
noncomputable def r33_4 : {l : List Oper // opsOf (cAt [1, 0] B33) = l} := by
  apply Subtype.mk
  dsimp only [opsOf, cAt, kids, B33, bodyOf, Try.f33, List.getD, List.getElem?_cons_zero, List.getElem?_cons_succ, Option.getD_some]
@[simp] theorem n33_4 (s : List V) (H : Heap) : evCode P Γ call n f m (cAt [1, 0] B33) s H = regNext (evOpsGo P Γ call r33_4.1 r33_4.1 s H) := at_region (by kernel_rfl) r33_4.2 s H
attribute [simp] r33_4
@[simp] theorem n33_5 (s : List V) (H : Heap) : evCode P Γ call n f m (cAt [1, 1] B33) s H = some (.ret, s, H) := at_ret (by kernel_rfl) s H
theorem b33 {k : Nat} (ho : ∀ args H, Γ.orc 33 args H = none) (args : List V) (H : Heap) (ha : args.length ≤ 8) : evF Try.prog Γ (k + 1) 33 args H = bodyEnd Try.prog [.tmp 3] H.length (evCode Try.prog Γ (evF Try.prog Γ k) k 33 H.length (cAt [] B33) (mkL 8 V.undef (enumV 0 args)) H) := body_at Try.func33 (by decide) rfl ho rfl rfl args H ha
noncomputable def B34 : Code := bodyOf Try.f34
@[simp] theorem n34_1 (s : List V) (H : Heap) : evCode P Γ call n f m (cAt [] B34) s H = seqNext P Γ call n f m (cAt [1] B34) (evCode P Γ call n f m (cAt [0] B34) s H) := at_seq (by kernel_rfl) rfl rfl s H
noncomputable def r34_2 : {l : List Oper // opsOf (cAt [0] B34) = l} := by
  apply Subtype.mk
  dsimp only [opsOf, cAt, kids, B34, bodyOf, Try.f34, List.getD, List.getElem?_cons_zero, List.getElem?_cons_succ, Option.getD_some]
@[simp] theorem n34_2 (s : List V) (H : Heap) : evCode P Γ call n f m (cAt [0] B34) s H = regNext (evOpsGo P Γ call r34_2.1 r34_2.1 s H) := at_region (by kernel_rfl) r34_2.2 s H
attribute [simp] r34_2
@[simp] theorem n34_3 (s : List V) (H : Heap) : evCode P Γ call n f m (cAt [1] B34) s H = seqNext P Γ call n f m (cAt [1, 1] B34) (evCode P Γ call n f m (cAt [1, 0] B34) s H) := at_seq (by kernel_rfl) rfl rfl s H
noncomputable def r34_4 : {l : List Oper // opsOf (cAt [1, 0] B34) = l} := by
  apply Subtype.mk
  dsimp only [opsOf, cAt, kids, B34, bodyOf, Try.f34, List.getD, List.getElem?_cons_zero, List.getElem?_cons_succ, Option.getD_some]
@[simp] theorem n34_4 (s : List V) (H : Heap) : evCode P Γ call n f m (cAt [1, 0] B34) s H = regNext (evOpsGo P Γ call r34_4.1 r34_4.1 s H) := at_region (by kernel_rfl) r34_4.2 s H
attribute [simp] r34_4
@[simp] theorem n34_5 (s : List V) (H : Heap) : evCode P Γ call n f m (cAt [1, 1] B34) s H = some (.ret, s, H) := at_ret (by kernel_rfl) s H
theorem b34 {k : Nat} (ho : ∀ args H, Γ.orc 34 args H = none) (args : List V) (H : Heap) (ha : args.length ≤ 8) : evF Try.prog Γ (k + 1) 34 args H = bodyEnd Try.prog [.tmp 3] H.length (evCode Try.prog Γ (evF Try.prog Γ k) k 34 H.length (cAt [] B34) (mkL 8 V.undef (enumV 0 args)) H) := body_at Try.func34 (by decide) rfl ho rfl rfl args H ha
noncomputable def B56 : Code := bodyOf Try.f56
@[simp] theorem n56_1 (s : List V) (H : Heap) : evCode P Γ call n f m (cAt [] B56) s H = seqNext P Γ call n f m (cAt [1] B56) (evCode P Γ call n f m (cAt [0] B56) s H) := at_seq (by kernel_rfl) rfl rfl s H
noncomputable def r56_2 : {l : List Oper // opsOf (cAt [0] B56) = l} := by
  apply Subtype.mk
  dsimp only [opsOf, cAt, kids, B56, bodyOf, Try.f56, List.getD, List.getElem?_cons_zero, List.getElem?_cons_succ, Option.getD_some]
@[simp] theorem n56_2 (s : List V) (H : Heap) : evCode P Γ call n f m (cAt [0] B56) s H = regNext (evOpsGo P Γ call r56_2.1 r56_2.1 s H) := at_region (by kernel_rfl) r56_2.2 s H
attribute [simp] r56_2
@[simp] theorem n56_3 (s : List V) (H : Heap) : evCode P Γ call n f m (cAt [1] B56) s H = seqNext P Γ call n f m (cAt [1, 1] B56) (evCode P Γ call n f m (cAt [1, 0] B56) s H) := at_seq (by kernel_rfl) rfl rfl s H
@[simp] theorem n56_4 (s : List V) (H : Heap) : evCode P Γ call n f m (cAt [1, 0] B56) s H = seqNext P Γ call n f m (cAt [1, 0, 1] B56) (evCode P Γ call n f m (cAt [1, 0, 0] B56) s H) := at_seq (by kernel_rfl) rfl rfl s H
noncomputable def r56_5 : {l : List Oper // opsOf (cAt [1, 0, 0] B56) = l} := by
  apply Subtype.mk
  dsimp only [opsOf, cAt, kids, B56, bodyOf, Try.f56, List.getD, List.getElem?_cons_zero, List.getElem?_cons_succ, Option.getD_some]
@[simp] theorem n56_5 (s : List V) (H : Heap) : evCode P Γ call n f m (cAt [1, 0, 0] B56) s H = regNext (evOpsGo P Γ call r56_5.1 r56_5.1 s H) := at_region (by kernel_rfl) r56_5.2 s H
attribute [simp] r56_5
@[simp] theorem n56_6 (s : List V) (H : Heap) : evCode P Γ call n f m (cAt [1, 0, 1] B56) s H = blockNext 0 (evCode P Γ call n f m (cAt [1, 0, 1, 0] B56) s H) := at_block (by kernel_rfl) rfl s H
@[simp] theorem n56_7 (s : List V) (H : Heap) : evCode P Γ call n f m (cAt [1, 0, 1, 0] B56) s H = evLoopC P Γ call n f m (cAt [1, 0, 1, 0, 0] B56) n s H := at_loop (by kernel_rfl) rfl s H
noncomputable abbrev L56_2 : Code := cAt [1, 0, 1, 0, 0] B56
@[simp] theorem n56_7f : firstRegion (cAt [1, 0, 1, 0, 0] B56) = 2 := by kernel_rfl
@[simp] theorem n56_8 (s : List V) (H : Heap) : evCode P Γ call n f m (cAt [1, 0, 1, 0, 0] B56) s H = seqNext P Γ call n f m (cAt [1, 0, 1, 0, 0, 1] B56) (evCode P Γ call n f m (cAt [1, 0, 1, 0, 0, 0] B56) s H) := at_seq (by kernel_rfl) rfl rfl s H
noncomputable def r56_9 : {l : List Oper // opsOf (cAt [1, 0, 1, 0, 0, 0] B56) = l} := by
  apply Subtype.mk
  dsimp only [opsOf, cAt, kids, B56, bodyOf, Try.f56, List.getD, List.getElem?_cons_zero, List.getElem?_cons_succ, Option.getD_some]
@[simp] theorem n56_9 (s : List V) (H : Heap) : evCode P Γ call n f m (cAt [1, 0, 1, 0, 0, 0] B56) s H = regNext (evOpsGo P Γ call r56_9.1 r56_9.1 s H) := at_region (by kernel_rfl) r56_9.2 s H
attribute [simp] r56_9
@[simp] theorem n56_10 (s : List V) (H : Heap) : evCode P Γ call n f m (cAt [1, 0, 1, 0, 0, 1] B56) s H = seqNext P Γ call n f m (cAt [1, 0, 1, 0, 0, 1, 1] B56) (evCode P Γ call n f m (cAt [1, 0, 1, 0, 0, 1, 0] B56) s H) := at_seq (by kernel_rfl) rfl rfl s H
@[simp] theorem n56_11 (s : List V) (H : Heap) : evCode P Γ call n f m (cAt [1, 0, 1, 0, 0, 1, 0] B56) s H = condW P Γ call n f m (cAt [1, 0, 1, 0, 0, 1, 0, 0] B56) (cAt [1, 0, 1, 0, 0, 1, 0, 1] B56) s H (evOperand Γ s (.tmp 9)) := at_cond (by kernel_rfl) (by kernel_rfl) rfl rfl s H
@[simp] theorem n56_12 (s : List V) (H : Heap) : evCode P Γ call n f m (cAt [1, 0, 1, 0, 0, 1, 0, 0] B56) s H = some (.normal, s, H) := at_skip (by kernel_rfl) s H
@[simp] theorem n56_13 (s : List V) (H : Heap) : evCode P Γ call n f m (cAt [1, 0, 1, 0, 0, 1, 0, 1] B56) s H = some (.exit 0, s, H) := at_exit (by kernel_rfl) s H
@[simp] theorem n56_14 (s : List V) (H : Heap) : evCode P Γ call n f m (cAt [1, 0, 1, 0, 0, 1, 1] B56) s H = seqNext P Γ call n f m (cAt [1, 0, 1, 0, 0, 1, 1, 1] B56) (evCode P Γ call n f m (cAt [1, 0, 1, 0, 0, 1, 1, 0] B56) s H) := at_seq (by kernel_rfl) rfl rfl s H
@[simp] theorem n56_15 (s : List V) (H : Heap) : evCode P Γ call n f m (cAt [1, 0, 1, 0, 0, 1, 1, 0] B56) s H = blockNext 1 (evCode P Γ call n f m (cAt [1, 0, 1, 0, 0, 1, 1, 0, 0] B56) s H) := at_block (by kernel_rfl) rfl s H
@[simp] theorem n56_16 (s : List V) (H : Heap) : evCode P Γ call n f m (cAt [1, 0, 1, 0, 0, 1, 1, 0, 0] B56) s H = seqNext P Γ call n f m (cAt [1, 0, 1, 0, 0, 1, 1, 0, 0, 1] B56) (evCode P Γ call n f m (cAt [1, 0, 1, 0, 0, 1, 1, 0, 0, 0] B56) s H) := at_seq (by kernel_rfl) rfl rfl s H
noncomputable def r56_17 : {l : List Oper // opsOf (cAt [1, 0, 1, 0, 0, 1, 1, 0, 0, 0] B56) = l} := by
  apply Subtype.mk
  dsimp only [opsOf, cAt, kids, B56, bodyOf, Try.f56, List.getD, List.getElem?_cons_zero, List.getElem?_cons_succ, Option.getD_some]
@[simp] theorem n56_17 (s : List V) (H : Heap) : evCode P Γ call n f m (cAt [1, 0, 1, 0, 0, 1, 1, 0, 0, 0] B56) s H = regNext (evOpsGo P Γ call r56_17.1 r56_17.1 s H) := at_region (by kernel_rfl) r56_17.2 s H
attribute [simp] r56_17
@[simp] theorem n56_18 (s : List V) (H : Heap) : evCode P Γ call n f m (cAt [1, 0, 1, 0, 0, 1, 1, 0, 0, 1] B56) s H = seqNext P Γ call n f m (cAt [1, 0, 1, 0, 0, 1, 1, 0, 0, 1, 1] B56) (evCode P Γ call n f m (cAt [1, 0, 1, 0, 0, 1, 1, 0, 0, 1, 0] B56) s H) := at_seq (by kernel_rfl) rfl rfl s H
noncomputable def r56_19 : {l : List Oper // opsOf (cAt [1, 0, 1, 0, 0, 1, 1, 0, 0, 1, 0] B56) = l} := by
  apply Subtype.mk
  dsimp only [opsOf, cAt, kids, B56, bodyOf, Try.f56, List.getD, List.getElem?_cons_zero, List.getElem?_cons_succ, Option.getD_some]
@[simp] theorem n56_19 (s : List V) (H : Heap) : evCode P Γ call n f m (cAt [1, 0, 1, 0, 0, 1, 1, 0, 0, 1, 0] B56) s H = regNext (evOpsGo P Γ call r56_19.1 r56_19.1 s H) := at_region (by kernel_rfl) r56_19.2 s H
attribute [simp] r56_19
@[simp] theorem n56_20 (s : List V) (H : Heap) : evCode P Γ call n f m (cAt [1, 0, 1, 0, 0, 1, 1, 0, 0, 1, 1] B56) s H = condW P Γ call n f m (cAt [1, 0, 1, 0, 0, 1, 1, 0, 0, 1, 1, 0] B56) (cAt [1, 0, 1, 0, 0, 1, 1, 0, 0, 1, 1, 1] B56) s H (evOperand Γ s (.tmp 16)) := at_cond (by kernel_rfl) (by kernel_rfl) rfl rfl s H
@[simp] theorem n56_21 (s : List V) (H : Heap) : evCode P Γ call n f m (cAt [1, 0, 1, 0, 0, 1, 1, 0, 0, 1, 1, 0] B56) s H = seqNext P Γ call n f m (cAt [1, 0, 1, 0, 0, 1, 1, 0, 0, 1, 1, 0, 1] B56) (evCode P Γ call n f m (cAt [1, 0, 1, 0, 0, 1, 1, 0, 0, 1, 1, 0, 0] B56) s H) := at_seq (by kernel_rfl) rfl rfl s H
noncomputable def r56_22 : {l : List Oper // opsOf (cAt [1, 0, 1, 0, 0, 1, 1, 0, 0, 1, 1, 0, 0] B56) = l} := by
  apply Subtype.mk
  dsimp only [opsOf, cAt, kids, B56, bodyOf, Try.f56, List.getD, List.getElem?_cons_zero, List.getElem?_cons_succ, Option.getD_some]
@[simp] theorem n56_22 (s : List V) (H : Heap) : evCode P Γ call n f m (cAt [1, 0, 1, 0, 0, 1, 1, 0, 0, 1, 1, 0, 0] B56) s H = regNext (evOpsGo P Γ call r56_22.1 r56_22.1 s H) := at_region (by kernel_rfl) r56_22.2 s H
attribute [simp] r56_22
@[simp] theorem n56_23 (s : List V) (H : Heap) : evCode P Γ call n f m (cAt [1, 0, 1, 0, 0, 1, 1, 0, 0, 1, 1, 0, 1] B56) s H = some (.ret, s, H) := at_ret (by kernel_rfl) s H
@[simp] theorem n56_24 (s : List V) (H : Heap) : evCode P Γ call n f m (cAt [1, 0, 1, 0, 0, 1, 1, 0, 0, 1, 1, 1] B56) s H = some (.normal, s, H) := at_skip (by kernel_rfl) s H
noncomputable def r56_25 : {l : List Oper // opsOf (cAt [1, 0, 1, 0, 0, 1, 1, 1] B56) = l} := by
  apply Subtype.mk
  dsimp only [opsOf, cAt, kids, B56, bodyOf, Try.f56, List.getD, List.getElem?_cons_zero, List.getElem?_cons_succ, Option.getD_some]
@[simp] theorem n56_25 (s : List V) (H : Heap) : evCode P Γ call n f m (cAt [1, 0, 1, 0, 0, 1, 1, 1] B56) s H = regNext (evOpsGo P Γ call r56_25.1 r56_25.1 s H) := at_region (by kernel_rfl) r56_25.2 s H
attribute [simp] r56_25
@[simp] theorem n56_26 (s : List V) (H : Heap) : evCode P Γ call n f m (cAt [1, 1] B56) s H = seqNext P Γ call n f m (cAt [1, 1, 1] B56) (evCode P Γ call n f m (cAt [1, 1, 0] B56) s H) := at_seq (by kernel_rfl) rfl rfl s H
noncomputable def r56_27 : {l : List Oper // opsOf (cAt [1, 1, 0] B56) = l} := by
  apply Subtype.mk
  dsimp only [opsOf, cAt, kids, B56, bodyOf, Try.f56, List.getD, List.getElem?_cons_zero, List.getElem?_cons_succ, Option.getD_some]
@[simp] theorem n56_27 (s : List V) (H : Heap) : evCode P Γ call n f m (cAt [1, 1, 0] B56) s H = regNext (evOpsGo P Γ call r56_27.1 r56_27.1 s H) := at_region (by kernel_rfl) r56_27.2 s H
attribute [simp] r56_27
@[simp] theorem n56_28 (s : List V) (H : Heap) : evCode P Γ call n f m (cAt [1, 1, 1] B56) s H = some (.ret, s, H) := at_ret (by kernel_rfl) s H
theorem b56 {k : Nat} (ho : ∀ args H, Γ.orc 56 args H = none) (args : List V) (H : Heap) (ha : args.length ≤ 19) : evF Try.prog Γ (k + 1) 56 args H = bodyEnd Try.prog [.tmp 4] H.length (evCode Try.prog Γ (evF Try.prog Γ k) k 56 H.length (cAt [] B56) (mkL 19 V.undef (enumV 0 args)) H) := body_at Try.func56 (by decide) rfl ho rfl rfl args H ha
end
end Go.Ev.Try
