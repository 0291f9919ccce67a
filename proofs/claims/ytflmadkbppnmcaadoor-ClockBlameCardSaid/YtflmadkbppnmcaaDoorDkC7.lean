/-
  CODE BY NAMES, printed by wip/tools/codes.py (own work).
-/
import Derived.Test.YtflmadkbppnmcaaDoorDkG
set_option maxRecDepth 100000
set_option linter.unusedVariables false
namespace Go.Ev.Tryd
open Go Go.Ev Go.Proofs
section
variable {P : Program} {Γ : Env} {call : CallF} {n f m : Nat}

noncomputable def B3 : Code := bodyOf Tryd.f3
@[simp] theorem n3_1 (s : List V) (H : Heap) : evCode P Γ call n f m (cAt [] B3) s H = seqNext P Γ call n f m (cAt [1] B3) (evCode P Γ call n f m (cAt [0] B3) s H) := at_seq (by kernel_rfl) rfl rfl s H
noncomputable def r3_2 : {l : List Oper // opsOf (cAt [0] B3) = l} := by
  apply Subtype.mk
  dsimp only [opsOf, cAt, kids, B3, bodyOf, Tryd.f3, List.getD, List.getElem?_cons_zero, List.getElem?_cons_succ, Option.getD_some]
@[simp] theorem n3_2 (s : List V) (H : Heap) : evCode P Γ call n f m (cAt [0] B3) s H = regNext (evOpsGo P Γ call r3_2.1 r3_2.1 s H) := at_region (by kernel_rfl) r3_2.2 s H
attribute [simp] r3_2
@[simp] theorem n3_3 (s : List V) (H : Heap) : evCode P Γ call n f m (cAt [1] B3) s H = seqNext P Γ call n f m (cAt [1, 1] B3) (evCode P Γ call n f m (cAt [1, 0] B3) s H) := at_seq (by kernel_rfl) rfl rfl s H
noncomputable def r3_4 : {l : List Oper // opsOf (cAt [1, 0] B3) = l} := by
  apply Subtype.mk
  dsimp only [opsOf, cAt, kids, B3, bodyOf, Tryd.f3, List.getD, List.getElem?_cons_zero, List.getElem?_cons_succ, Option.getD_some]
@[simp] theorem n3_4 (s : List V) (H : Heap) : evCode P Γ call n f m (cAt [1, 0] B3) s H = regNext (evOpsGo P Γ call r3_4.1 r3_4.1 s H) := at_region (by kernel_rfl) r3_4.2 s H
attribute [simp] r3_4
@[simp] theorem n3_5 (s : List V) (H : Heap) : evCode P Γ call n f m (cAt [1, 1] B3) s H = seqNext P Γ call n f m (cAt [1, 1, 1] B3) (evCode P Γ call n f m (cAt [1, 1, 0] B3) s H) := at_seq (by kernel_rfl) rfl rfl s H
noncomputable def r3_6 : {l : List Oper // opsOf (cAt [1, 1, 0] B3) = l} := by
  apply Subtype.mk
  dsimp only [opsOf, cAt, kids, B3, bodyOf, Tryd.f3, List.getD, List.getElem?_cons_zero, List.getElem?_cons_succ, Option.getD_some]
@[simp] theorem n3_6 (s : List V) (H : Heap) : evCode P Γ call n f m (cAt [1, 1, 0] B3) s H = regNext (evOpsGo P Γ call r3_6.1 r3_6.1 s H) := at_region (by kernel_rfl) r3_6.2 s H
attribute [simp] r3_6
@[simp] theorem n3_7 (s : List V) (H : Heap) : evCode P Γ call n f m (cAt [1, 1, 1] B3) s H = seqNext P Γ call n f m (cAt [1, 1, 1, 1] B3) (evCode P Γ call n f m (cAt [1, 1, 1, 0] B3) s H) := at_seq (by kernel_rfl) rfl rfl s H
@[simp] theorem n3_8 (s : List V) (H : Heap) : evCode P Γ call n f m (cAt [1, 1, 1, 0] B3) s H = seqNext P Γ call n f m (cAt [1, 1, 1, 0, 1] B3) (evCode P Γ call n f m (cAt [1, 1, 1, 0, 0] B3) s H) := at_seq (by kernel_rfl) rfl rfl s H
noncomputable def r3_9 : {l : List Oper // opsOf (cAt [1, 1, 1, 0, 0] B3) = l} := by
  apply Subtype.mk
  dsimp only [opsOf, cAt, kids, B3, bodyOf, Tryd.f3, List.getD, List.getElem?_cons_zero, List.getElem?_cons_succ, Option.getD_some]
@[simp] theorem n3_9 (s : List V) (H : Heap) : evCode P Γ call n f m (cAt [1, 1, 1, 0, 0] B3) s H = regNext (evOpsGo P Γ call r3_9.1 r3_9.1 s H) := at_region (by kernel_rfl) r3_9.2 s H
attribute [simp] r3_9
@[simp] theorem n3_10 (s : List V) (H : Heap) : evCode P Γ call n f m (cAt [1, 1, 1, 0, 1] B3) s H = condW P Γ call n f m (cAt [1, 1, 1, 0, 1, 0] B3) (cAt [1, 1, 1, 0, 1, 1] B3) s H (evOperand Γ s (.tmp 33)) := at_cond (by kernel_rfl) (by kernel_rfl) rfl rfl s H
@[simp] theorem n3_11 (s : List V) (H : Heap) : evCode P Γ call n f m (cAt [1, 1, 1, 0, 1, 0] B3) s H = seqNext P Γ call n f m (cAt [1, 1, 1, 0, 1, 0, 1] B3) (evCode P Γ call n f m (cAt [1, 1, 1, 0, 1, 0, 0] B3) s H) := at_seq (by kernel_rfl) rfl rfl s H
noncomputable def r3_12 : {l : List Oper // opsOf (cAt [1, 1, 1, 0, 1, 0, 0] B3) = l} := by
  apply Subtype.mk
  dsimp only [opsOf, cAt, kids, B3, bodyOf, Tryd.f3, List.getD, List.getElem?_cons_zero, List.getElem?_cons_succ, Option.getD_some]
@[simp] theorem n3_12 (s : List V) (H : Heap) : evCode P Γ call n f m (cAt [1, 1, 1, 0, 1, 0, 0] B3) s H = regNext (evOpsGo P Γ call r3_12.1 r3_12.1 s H) := at_region (by kernel_rfl) r3_12.2 s H
attribute [simp] r3_12
@[simp] theorem n3_13 (s : List V) (H : Heap) : evCode P Γ call n f m (cAt [1, 1, 1, 0, 1, 0, 1] B3) s H = some (.ret, s, H) := at_ret (by kernel_rfl) s H
@[simp] theorem n3_14 (s : List V) (H : Heap) : evCode P Γ call n f m (cAt [1, 1, 1, 0, 1, 1] B3) s H = some (.normal, s, H) := at_skip (by kernel_rfl) s H
@[simp] theorem n3_15 (s : List V) (H : Heap) : evCode P Γ call n f m (cAt [1, 1, 1, 1] B3) s H = seqNext P Γ call n f m (cAt [1, 1, 1, 1, 1] B3) (evCode P Γ call n f m (cAt [1, 1, 1, 1, 0] B3) s H) := at_seq (by kernel_rfl) rfl rfl s H
noncomputable def r3_16 : {l : List Oper // opsOf (cAt [1, 1, 1, 1, 0] B3) = l} := by
  apply Subtype.mk
  dsimp only [opsOf, cAt, kids, B3, bodyOf, Tryd.f3, List.getD, List.getElem?_cons_zero, List.getElem?_cons_succ, Option.getD_some]
@[simp] theorem n3_16 (s : List V) (H : Heap) : evCode P Γ call n f m (cAt [1, 1, 1, 1, 0] B3) s H = regNext (evOpsGo P Γ call r3_16.1 r3_16.1 s H) := at_region (by kernel_rfl) r3_16.2 s H
attribute [simp] r3_16
@[simp] theorem n3_17 (s : List V) (H : Heap) : evCode P Γ call n f m (cAt [1, 1, 1, 1, 1] B3) s H = seqNext P Γ call n f m (cAt [1, 1, 1, 1, 1, 1] B3) (evCode P Γ call n f m (cAt [1, 1, 1, 1, 1, 0] B3) s H) := at_seq (by kernel_rfl) rfl rfl s H
noncomputable def r3_18 : {l : List Oper // opsOf (cAt [1, 1, 1, 1, 1, 0] B3) = l} := by
  apply Subtype.mk
  dsimp only [opsOf, cAt, kids, B3, bodyOf, Tryd.f3, List.getD, List.getElem?_cons_zero, List.getElem?_cons_succ, Option.getD_some]
@[simp] theorem n3_18 (s : List V) (H : Heap) : evCode P Γ call n f m (cAt [1, 1, 1, 1, 1, 0] B3) s H = regNext (drawR P Γ call r3_18.1 [([1, 5, 6, 7, 8, 9], [48, 52, 53, 54, 55, 56]), ([0, 5, 6, 7, 8, 9], [47, 52, 53, 54, 55, 56]), ([5, 6, 7, 8, 9], [52, 53, 54, 55, 56]), ([5, 6, 7, 8, 9], [52, 53, 54, 55, 56]), ([5, 6, 7, 8, 9], [52, 53, 54, 55, 56]), ([0, 1, 2, 3, 4, 6, 10], [47, 48, 49, 50, 51, 53, 9]), ([0, 1, 2, 3, 4, 5, 10], [47, 48, 49, 50, 51, 52, 9]), ([0, 1, 2, 3, 4, 10], [47, 48, 49, 50, 51, 9]), ([0, 1, 2, 3, 4, 10], [47, 48, 49, 50, 51, 9]), ([0, 1, 2, 3, 4, 10], [47, 48, 49, 50, 51, 9]), ([5, 6, 7, 8, 9], [52, 53, 54, 55, 56]), ([], [])] s H) := at_drawT (by kernel_rfl) r3_18.2 (by kernel_rfl) s H
attribute [simp] r3_18
@[simp] theorem n3_19 (s : List V) (H : Heap) : evCode P Γ call n f m (cAt [1, 1, 1, 1, 1, 1] B3) s H = seqNext P Γ call n f m (cAt [1, 1, 1, 1, 1, 1, 1] B3) (evCode P Γ call n f m (cAt [1, 1, 1, 1, 1, 1, 0] B3) s H) := at_seq (by kernel_rfl) rfl rfl s H
noncomputable def r3_20 : {l : List Oper // opsOf (cAt [1, 1, 1, 1, 1, 1, 0] B3) = l} := by
  apply Subtype.mk
  dsimp only [opsOf, cAt, kids, B3, bodyOf, Tryd.f3, List.getD, List.getElem?_cons_zero, List.getElem?_cons_succ, Option.getD_some]
@[simp] theorem n3_20 (s : List V) (H : Heap) : evCode P Γ call n f m (cAt [1, 1, 1, 1, 1, 1, 0] B3) s H = regNext (evOpsGo P Γ call r3_20.1 r3_20.1 s H) := at_region (by kernel_rfl) r3_20.2 s H
attribute [simp] r3_20
@[simp] theorem n3_21 (s : List V) (H : Heap) : evCode P Γ call n f m (cAt [1, 1, 1, 1, 1, 1, 1] B3) s H = seqNext P Γ call n f m (cAt [1, 1, 1, 1, 1, 1, 1, 1] B3) (evCode P Γ call n f m (cAt [1, 1, 1, 1, 1, 1, 1, 0] B3) s H) := at_seq (by kernel_rfl) rfl rfl s H
noncomputable def r3_22 : {l : List Oper // opsOf (cAt [1, 1, 1, 1, 1, 1, 1, 0] B3) = l} := by
  apply Subtype.mk
  dsimp only [opsOf, cAt, kids, B3, bodyOf, Tryd.f3, List.getD, List.getElem?_cons_zero, List.getElem?_cons_succ, Option.getD_some]
@[simp] theorem n3_22 (s : List V) (H : Heap) : evCode P Γ call n f m (cAt [1, 1, 1, 1, 1, 1, 1, 0] B3) s H = regNext (evOpsGo P Γ call r3_22.1 r3_22.1 s H) := at_region (by kernel_rfl) r3_22.2 s H
attribute [simp] r3_22
@[simp] theorem n3_23 (s : List V) (H : Heap) : evCode P Γ call n f m (cAt [1, 1, 1, 1, 1, 1, 1, 1] B3) s H = some (.ret, s, H) := at_ret (by kernel_rfl) s H
theorem b3 {k : Nat} (ho : ∀ args H, Γ.orc 3 args H = none) (args : List V) (H : Heap) (ha : args.length ≤ 90) : evF Tryd.prog Γ (k + 1) 3 args H = bodyEnd Tryd.prog [.tmp 4] H.length (evCode Tryd.prog Γ (evF Tryd.prog Γ k) k 3 H.length (cAt [] B3) (mkL 90 V.undef (enumV 0 args)) H) := body_at Tryd.func3 (by decide) rfl ho rfl rfl args H ha
noncomputable def B4 : Code := bodyOf Tryd.f4
@[simp] theorem n4_1 (s : List V) (H : Heap) : evCode P Γ call n f m (cAt [] B4) s H = seqNext P Γ call n f m (cAt [1] B4) (evCode P Γ call n f m (cAt [0] B4) s H) := at_seq (by kernel_rfl) rfl rfl s H
noncomputable def r4_2 : {l : List Oper // opsOf (cAt [0] B4) = l} := by
  apply Subtype.mk
  dsimp only [opsOf, cAt, kids, B4, bodyOf, Tryd.f4, List.getD, List.getElem?_cons_zero, List.getElem?_cons_succ, Option.getD_some]
@[simp] theorem n4_2 (s : List V) (H : Heap) : evCode P Γ call n f m (cAt [0] B4) s H = regNext (evOpsGo P Γ call r4_2.1 r4_2.1 s H) := at_region (by kernel_rfl) r4_2.2 s H
attribute [simp] r4_2
@[simp] theorem n4_3 (s : List V) (H : Heap) : evCode P Γ call n f m (cAt [1] B4) s H = seqNext P Γ call n f m (cAt [1, 1] B4) (evCode P Γ call n f m (cAt [1, 0] B4) s H) := at_seq (by kernel_rfl) rfl rfl s H
noncomputable def r4_4 : {l : List Oper // opsOf (cAt [1, 0] B4) = l} := by
  apply Subtype.mk
  dsimp only [opsOf, cAt, kids, B4, bodyOf, Tryd.f4, List.getD, List.getElem?_cons_zero, List.getElem?_cons_succ, Option.getD_some]
@[simp] theorem n4_4 (s : List V) (H : Heap) : evCode P Γ call n f m (cAt [1, 0] B4) s H = regNext (evOpsGo P Γ call r4_4.1 r4_4.1 s H) := at_region (by kernel_rfl) r4_4.2 s H
attribute [simp] r4_4
@[simp] theorem n4_5 (s : List V) (H : Heap) : evCode P Γ call n f m (cAt [1, 1] B4) s H = seqNext P Γ call n f m (cAt [1, 1, 1] B4) (evCode P Γ call n f m (cAt [1, 1, 0] B4) s H) := at_seq (by kernel_rfl) rfl rfl s H
noncomputable def r4_6 : {l : List Oper // opsOf (cAt [1, 1, 0] B4) = l} := by
  apply Subtype.mk
  dsimp only [opsOf, cAt, kids, B4, bodyOf, Tryd.f4, List.getD, List.getElem?_cons_zero, List.getElem?_cons_succ, Option.getD_some]
@[simp] theorem n4_6 (s : List V) (H : Heap) : evCode P Γ call n f m (cAt [1, 1, 0] B4) s H = regNext (evOpsGo P Γ call r4_6.1 r4_6.1 s H) := at_region (by kernel_rfl) r4_6.2 s H
attribute [simp] r4_6
@[simp] theorem n4_7 (s : List V) (H : Heap) : evCode P Γ call n f m (cAt [1, 1, 1] B4) s H = seqNext P Γ call n f m (cAt [1, 1, 1, 1] B4) (evCode P Γ call n f m (cAt [1, 1, 1, 0] B4) s H) := at_seq (by kernel_rfl) rfl rfl s H
@[simp] theorem n4_8 (s : List V) (H : Heap) : evCode P Γ call n f m (cAt [1, 1, 1, 0] B4) s H = seqNext P Γ call n f m (cAt [1, 1, 1, 0, 1] B4) (evCode P Γ call n f m (cAt [1, 1, 1, 0, 0] B4) s H) := at_seq (by kernel_rfl) rfl rfl s H
noncomputable def r4_9 : {l : List Oper // opsOf (cAt [1, 1, 1, 0, 0] B4) = l} := by
  apply Subtype.mk
  dsimp only [opsOf, cAt, kids, B4, bodyOf, Tryd.f4, List.getD, List.getElem?_cons_zero, List.getElem?_cons_succ, Option.getD_some]
@[simp] theorem n4_9 (s : List V) (H : Heap) : evCode P Γ call n f m (cAt [1, 1, 1, 0, 0] B4) s H = regNext (evOpsGo P Γ call r4_9.1 r4_9.1 s H) := at_region (by kernel_rfl) r4_9.2 s H
attribute [simp] r4_9
@[simp] theorem n4_10 (s : List V) (H : Heap) : evCode P Γ call n f m (cAt [1, 1, 1, 0, 1] B4) s H = condW P Γ call n f m (cAt [1, 1, 1, 0, 1, 0] B4) (cAt [1, 1, 1, 0, 1, 1] B4) s H (evOperand Γ s (.tmp 29)) := at_cond (by kernel_rfl) (by kernel_rfl) rfl rfl s H
@[simp] theorem n4_11 (s : List V) (H : Heap) : evCode P Γ call n f m (cAt [1, 1, 1, 0, 1, 0] B4) s H = seqNext P Γ call n f m (cAt [1, 1, 1, 0, 1, 0, 1] B4) (evCode P Γ call n f m (cAt [1, 1, 1, 0, 1, 0, 0] B4) s H) := at_seq (by kernel_rfl) rfl rfl s H
noncomputable def r4_12 : {l : List Oper // opsOf (cAt [1, 1, 1, 0, 1, 0, 0] B4) = l} := by
  apply Subtype.mk
  dsimp only [opsOf, cAt, kids, B4, bodyOf, Tryd.f4, List.getD, List.getElem?_cons_zero, List.getElem?_cons_succ, Option.getD_some]
@[simp] theorem n4_12 (s : List V) (H : Heap) : evCode P Γ call n f m (cAt [1, 1, 1, 0, 1, 0, 0] B4) s H = regNext (evOpsGo P Γ call r4_12.1 r4_12.1 s H) := at_region (by kernel_rfl) r4_12.2 s H
attribute [simp] r4_12
@[simp] theorem n4_13 (s : List V) (H : Heap) : evCode P Γ call n f m (cAt [1, 1, 1, 0, 1, 0, 1] B4) s H = some (.ret, s, H) := at_ret (by kernel_rfl) s H
@[simp] theorem n4_14 (s : List V) (H : Heap) : evCode P Γ call n f m (cAt [1, 1, 1, 0, 1, 1] B4) s H = some (.normal, s, H) := at_skip (by kernel_rfl) s H
@[simp] theorem n4_15 (s : List V) (H : Heap) : evCode P Γ call n f m (cAt [1, 1, 1, 1] B4) s H = seqNext P Γ call n f m (cAt [1, 1, 1, 1, 1] B4) (evCode P Γ call n f m (cAt [1, 1, 1, 1, 0] B4) s H) := at_seq (by kernel_rfl) rfl rfl s H
noncomputable def r4_16 : {l : List Oper // opsOf (cAt [1, 1, 1, 1, 0] B4) = l} := by
  apply Subtype.mk
  dsimp only [opsOf, cAt, kids, B4, bodyOf, Tryd.f4, List.getD, List.getElem?_cons_zero, List.getElem?_cons_succ, Option.getD_some]
@[simp] theorem n4_16 (s : List V) (H : Heap) : evCode P Γ call n f m (cAt [1, 1, 1, 1, 0] B4) s H = regNext (evOpsGo P Γ call r4_16.1 r4_16.1 s H) := at_region (by kernel_rfl) r4_16.2 s H
attribute [simp] r4_16
@[simp] theorem n4_17 (s : List V) (H : Heap) : evCode P Γ call n f m (cAt [1, 1, 1, 1, 1] B4) s H = seqNext P Γ call n f m (cAt [1, 1, 1, 1, 1, 1] B4) (evCode P Γ call n f m (cAt [1, 1, 1, 1, 1, 0] B4) s H) := at_seq (by kernel_rfl) rfl rfl s H
noncomputable def r4_18 : {l : List Oper // opsOf (cAt [1, 1, 1, 1, 1, 0] B4) = l} := by
  apply Subtype.mk
  dsimp only [opsOf, cAt, kids, B4, bodyOf, Tryd.f4, List.getD, List.getElem?_cons_zero, List.getElem?_cons_succ, Option.getD_some]
@[simp] theorem n4_18 (s : List V) (H : Heap) : evCode P Γ call n f m (cAt [1, 1, 1, 1, 1, 0] B4) s H = regNext (evOpsGo P Γ call r4_18.1 r4_18.1 s H) := at_region (by kernel_rfl) r4_18.2 s H
attribute [simp] r4_18
@[simp] theorem n4_19 (s : List V) (H : Heap) : evCode P Γ call n f m (cAt [1, 1, 1, 1, 1, 1] B4) s H = seqNext P Γ call n f m (cAt [1, 1, 1, 1, 1, 1, 1] B4) (evCode P Γ call n f m (cAt [1, 1, 1, 1, 1, 1, 0] B4) s H) := at_seq (by kernel_rfl) rfl rfl s H
noncomputable def r4_20 : {l : List Oper // opsOf (cAt [1, 1, 1, 1, 1, 1, 0] B4) = l} := by
  apply Subtype.mk
  dsimp only [opsOf, cAt, kids, B4, bodyOf, Tryd.f4, List.getD, List.getElem?_cons_zero, List.getElem?_cons_succ, Option.getD_some]
@[simp] theorem n4_20 (s : List V) (H : Heap) : evCode P Γ call n f m (cAt [1, 1, 1, 1, 1, 1, 0] B4) s H = regNext (evOpsGo P Γ call r4_20.1 r4_20.1 s H) := at_region (by kernel_rfl) r4_20.2 s H
attribute [simp] r4_20
@[simp] theorem n4_21 (s : List V) (H : Heap) : evCode P Γ call n f m (cAt [1, 1, 1, 1, 1, 1, 1] B4) s H = seqNext P Γ call n f m (cAt [1, 1, 1, 1, 1, 1, 1, 1] B4) (evCode P Γ call n f m (cAt [1, 1, 1, 1, 1, 1, 1, 0] B4) s H) := at_seq (by kernel_rfl) rfl rfl s H
noncomputable def r4_22 : {l : List Oper // opsOf (cAt [1, 1, 1, 1, 1, 1, 1, 0] B4) = l} := by
  apply Subtype.mk
  dsimp only [opsOf, cAt, kids, B4, bodyOf, Tryd.f4, List.getD, List.getElem?_cons_zero, List.getElem?_cons_succ, Option.getD_some]
@[simp] theorem n4_22 (s : List V) (H : Heap) : evCode P Γ call n f m (cAt [1, 1, 1, 1, 1, 1, 1, 0] B4) s H = regNext (evOpsGo P Γ call r4_22.1 r4_22.1 s H) := at_region (by kernel_rfl) r4_22.2 s H
attribute [simp] r4_22
@[simp] theorem n4_23 (s : List V) (H : Heap) : evCode P Γ call n f m (cAt [1, 1, 1, 1, 1, 1, 1, 1] B4) s H = seqNext P Γ call n f m (cAt [1, 1, 1, 1, 1, 1, 1, 1, 1] B4) (evCode P Γ call n f m (cAt [1, 1, 1, 1, 1, 1, 1, 1, 0] B4) s H) := at_seq (by kernel_rfl) rfl rfl s H
noncomputable def r4_24 : {l : List Oper // opsOf (cAt [1, 1, 1, 1, 1, 1, 1, 1, 0] B4) = l} := by
  apply Subtype.mk
  dsimp only [opsOf, cAt, kids, B4, bodyOf, Tryd.f4, List.getD, List.getElem?_cons_zero, List.getElem?_cons_succ, Option.getD_some]
@[simp] theorem n4_24 (s : List V) (H : Heap) : evCode P Γ call n f m (cAt [1, 1, 1, 1, 1, 1, 1, 1, 0] B4) s H = regNext (evOpsGo P Γ call r4_24.1 r4_24.1 s H) := at_region (by kernel_rfl) r4_24.2 s H
attribute [simp] r4_24
@[simp] theorem n4_25 (s : List V) (H : Heap) : evCode P Γ call n f m (cAt [1, 1, 1, 1, 1, 1, 1, 1, 1] B4) s H = seqNext P Γ call n f m (cAt [1, 1, 1, 1, 1, 1, 1, 1, 1, 1] B4) (evCode P Γ call n f m (cAt [1, 1, 1, 1, 1, 1, 1, 1, 1, 0] B4) s H) := at_seq (by kernel_rfl) rfl rfl s H
@[simp] theorem n4_26 (s : List V) (H : Heap) : evCode P Γ call n f m (cAt [1, 1, 1, 1, 1, 1, 1, 1, 1, 0] B4) s H = seqNext P Γ call n f m (cAt [1, 1, 1, 1, 1, 1, 1, 1, 1, 0, 1] B4) (evCode P Γ call n f m (cAt [1, 1, 1, 1, 1, 1, 1, 1, 1, 0, 0] B4) s H) := at_seq (by kernel_rfl) rfl rfl s H
noncomputable def r4_27 : {l : List Oper // opsOf (cAt [1, 1, 1, 1, 1, 1, 1, 1, 1, 0, 0] B4) = l} := by
  apply Subtype.mk
  dsimp only [opsOf, cAt, kids, B4, bodyOf, Tryd.f4, List.getD, List.getElem?_cons_zero, List.getElem?_cons_succ, Option.getD_some]
@[simp] theorem n4_27 (s : List V) (H : Heap) : evCode P Γ call n f m (cAt [1, 1, 1, 1, 1, 1, 1, 1, 1, 0, 0] B4) s H = regNext (evOpsGo P Γ call r4_27.1 r4_27.1 s H) := at_region (by kernel_rfl) r4_27.2 s H
attribute [simp] r4_27
@[simp] theorem n4_28 (s : List V) (H : Heap) : evCode P Γ call n f m (cAt [1, 1, 1, 1, 1, 1, 1, 1, 1, 0, 1] B4) s H = condW P Γ call n f m (cAt [1, 1, 1, 1, 1, 1, 1, 1, 1, 0, 1, 0] B4) (cAt [1, 1, 1, 1, 1, 1, 1, 1, 1, 0, 1, 1] B4) s H (evOperand Γ s (.tmp 88)) := at_cond (by kernel_rfl) (by kernel_rfl) rfl rfl s H
@[simp] theorem n4_29 (s : List V) (H : Heap) : evCode P Γ call n f m (cAt [1, 1, 1, 1, 1, 1, 1, 1, 1, 0, 1, 0] B4) s H = seqNext P Γ call n f m (cAt [1, 1, 1, 1, 1, 1, 1, 1, 1, 0, 1, 0, 1] B4) (evCode P Γ call n f m (cAt [1, 1, 1, 1, 1, 1, 1, 1, 1, 0, 1, 0, 0] B4) s H) := at_seq (by kernel_rfl) rfl rfl s H
noncomputable def r4_30 : {l : List Oper // opsOf (cAt [1, 1, 1, 1, 1, 1, 1, 1, 1, 0, 1, 0, 0] B4) = l} := by
  apply Subtype.mk
  dsimp only [opsOf, cAt, kids, B4, bodyOf, Tryd.f4, List.getD, List.getElem?_cons_zero, List.getElem?_cons_succ, Option.getD_some]
@[simp] theorem n4_30 (s : List V) (H : Heap) : evCode P Γ call n f m (cAt [1, 1, 1, 1, 1, 1, 1, 1, 1, 0, 1, 0, 0] B4) s H = regNext (evOpsGo P Γ call r4_30.1 r4_30.1 s H) := at_region (by kernel_rfl) r4_30.2 s H
attribute [simp] r4_30
@[simp] theorem n4_31 (s : List V) (H : Heap) : evCode P Γ call n f m (cAt [1, 1, 1, 1, 1, 1, 1, 1, 1, 0, 1, 0, 1] B4) s H = some (.ret, s, H) := at_ret (by kernel_rfl) s H
@[simp] theorem n4_32 (s : List V) (H : Heap) : evCode P Γ call n f m (cAt [1, 1, 1, 1, 1, 1, 1, 1, 1, 0, 1, 1] B4) s H = some (.normal, s, H) := at_skip (by kernel_rfl) s H
@[simp] theorem n4_33 (s : List V) (H : Heap) : evCode P Γ call n f m (cAt [1, 1, 1, 1, 1, 1, 1, 1, 1, 1] B4) s H = seqNext P Γ call n f m (cAt [1, 1, 1, 1, 1, 1, 1, 1, 1, 1, 1] B4) (evCode P Γ call n f m (cAt [1, 1, 1, 1, 1, 1, 1, 1, 1, 1, 0] B4) s H) := at_seq (by kernel_rfl) rfl rfl s H
@[simp] theorem n4_34 (s : List V) (H : Heap) : evCode P Γ call n f m (cAt [1, 1, 1, 1, 1, 1, 1, 1, 1, 1, 0] B4) s H = seqNext P Γ call n f m (cAt [1, 1, 1, 1, 1, 1, 1, 1, 1, 1, 0, 1] B4) (evCode P Γ call n f m (cAt [1, 1, 1, 1, 1, 1, 1, 1, 1, 1, 0, 0] B4) s H) := at_seq (by kernel_rfl) rfl rfl s H
noncomputable def r4_35 : {l : List Oper // opsOf (cAt [1, 1, 1, 1, 1, 1, 1, 1, 1, 1, 0, 0] B4) = l} := by
  apply Subtype.mk
  dsimp only [opsOf, cAt, kids, B4, bodyOf, Tryd.f4, List.getD, List.getElem?_cons_zero, List.getElem?_cons_succ, Option.getD_some]
@[simp] theorem n4_35 (s : List V) (H : Heap) : evCode P Γ call n f m (cAt [1, 1, 1, 1, 1, 1, 1, 1, 1, 1, 0, 0] B4) s H = regNext (evOpsGo P Γ call r4_35.1 r4_35.1 s H) := at_region (by kernel_rfl) r4_35.2 s H
attribute [simp] r4_35
@[simp] theorem n4_36 (s : List V) (H : Heap) : evCode P Γ call n f m (cAt [1, 1, 1, 1, 1, 1, 1, 1, 1, 1, 0, 1] B4) s H = condW P Γ call n f m (cAt [1, 1, 1, 1, 1, 1, 1, 1, 1, 1, 0, 1, 0] B4) (cAt [1, 1, 1, 1, 1, 1, 1, 1, 1, 1, 0, 1, 1] B4) s H (evOperand Γ s (.tmp 90)) := at_cond (by kernel_rfl) (by kernel_rfl) rfl rfl s H
@[simp] theorem n4_37 (s : List V) (H : Heap) : evCode P Γ call n f m (cAt [1, 1, 1, 1, 1, 1, 1, 1, 1, 1, 0, 1, 0] B4) s H = seqNext P Γ call n f m (cAt [1, 1, 1, 1, 1, 1, 1, 1, 1, 1, 0, 1, 0, 1] B4) (evCode P Γ call n f m (cAt [1, 1, 1, 1, 1, 1, 1, 1, 1, 1, 0, 1, 0, 0] B4) s H) := at_seq (by kernel_rfl) rfl rfl s H
noncomputable def r4_38 : {l : List Oper // opsOf (cAt [1, 1, 1, 1, 1, 1, 1, 1, 1, 1, 0, 1, 0, 0] B4) = l} := by
  apply Subtype.mk
  dsimp only [opsOf, cAt, kids, B4, bodyOf, Tryd.f4, List.getD, List.getElem?_cons_zero, List.getElem?_cons_succ, Option.getD_some]
@[simp] theorem n4_38 (s : List V) (H : Heap) : evCode P Γ call n f m (cAt [1, 1, 1, 1, 1, 1, 1, 1, 1, 1, 0, 1, 0, 0] B4) s H = regNext (evOpsGo P Γ call r4_38.1 r4_38.1 s H) := at_region (by kernel_rfl) r4_38.2 s H
attribute [simp] r4_38
@[simp] theorem n4_39 (s : List V) (H : Heap) : evCode P Γ call n f m (cAt [1, 1, 1, 1, 1, 1, 1, 1, 1, 1, 0, 1, 0, 1] B4) s H = some (.ret, s, H) := at_ret (by kernel_rfl) s H
@[simp] theorem n4_40 (s : List V) (H : Heap) : evCode P Γ call n f m (cAt [1, 1, 1, 1, 1, 1, 1, 1, 1, 1, 0, 1, 1] B4) s H = some (.normal, s, H) := at_skip (by kernel_rfl) s H
@[simp] theorem n4_41 (s : List V) (H : Heap) : evCode P Γ call n f m (cAt [1, 1, 1, 1, 1, 1, 1, 1, 1, 1, 1] B4) s H = seqNext P Γ call n f m (cAt [1, 1, 1, 1, 1, 1, 1, 1, 1, 1, 1, 1] B4) (evCode P Γ call n f m (cAt [1, 1, 1, 1, 1, 1, 1, 1, 1, 1, 1, 0] B4) s H) := at_seq (by kernel_rfl) rfl rfl s H
noncomputable def r4_42 : {l : List Oper // opsOf (cAt [1, 1, 1, 1, 1, 1, 1, 1, 1, 1, 1, 0] B4) = l} := by
  apply Subtype.mk
  dsimp only [opsOf, cAt, kids, B4, bodyOf, Tryd.f4, List.getD, List.getElem?_cons_zero, List.getElem?_cons_succ, Option.getD_some]
@[simp] theorem n4_42 (s : List V) (H : Heap) : evCode P Γ call n f m (cAt [1, 1, 1, 1, 1, 1, 1, 1, 1, 1, 1, 0] B4) s H = regNext (evOpsGo P Γ call r4_42.1 r4_42.1 s H) := at_region (by kernel_rfl) r4_42.2 s H
attribute [simp] r4_42
@[simp] theorem n4_43 (s : List V) (H : Heap) : evCode P Γ call n f m (cAt [1, 1, 1, 1, 1, 1, 1, 1, 1, 1, 1, 1] B4) s H = seqNext P Γ call n f m (cAt [1, 1, 1, 1, 1, 1, 1, 1, 1, 1, 1, 1, 1] B4) (evCode P Γ call n f m (cAt [1, 1, 1, 1, 1, 1, 1, 1, 1, 1, 1, 1, 0] B4) s H) := at_seq (by kernel_rfl) rfl rfl s H
noncomputable def r4_44 : {l : List Oper // opsOf (cAt [1, 1, 1, 1, 1, 1, 1, 1, 1, 1, 1, 1, 0] B4) = l} := by
  apply Subtype.mk
  dsimp only [opsOf, cAt, kids, B4, bodyOf, Tryd.f4, List.getD, List.getElem?_cons_zero, List.getElem?_cons_succ, Option.getD_some]
@[simp] theorem n4_44 (s : List V) (H : Heap) : evCode P Γ call n f m (cAt [1, 1, 1, 1, 1, 1, 1, 1, 1, 1, 1, 1, 0] B4) s H = regNext (drawR P Γ call r4_44.1 [([], []), ([], []), ([], []), ([], []), ([], []), ([], []), ([], []), ([], []), ([], []), ([], []), ([], []), ([], []), ([], []), ([], []), ([], []), ([], []), ([], []), ([], []), ([], []), ([], []), ([21, 25, 26, 27, 28, 29], [120, 124, 125, 126, 127, 128]), ([20, 25, 26, 27, 28, 29], [119, 124, 125, 126, 127, 128]), ([25, 26, 27, 28, 29], [124, 125, 126, 127, 128]), ([25, 26, 27, 28, 29], [124, 125, 126, 127, 128]), ([25, 26, 27, 28, 29], [124, 125, 126, 127, 128]), ([20, 21, 22, 23, 24, 26], [119, 120, 121, 122, 123, 125]), ([20, 21, 22, 23, 24, 25], [119, 120, 121, 122, 123, 124]), ([20, 21, 22, 23, 24], [119, 120, 121, 122, 123]), ([20, 21, 22, 23, 24], [119, 120, 121, 122, 123]), ([20, 21, 22, 23, 24], [119, 120, 121, 122, 123]), ([], []), ([], []), ([], []), ([], [])] s H) := at_drawT (by kernel_rfl) r4_44.2 (by kernel_rfl) s H
attribute [simp] r4_44
@[simp] theorem n4_45 (s : List V) (H : Heap) : evCode P Γ call n f m (cAt [1, 1, 1, 1, 1, 1, 1, 1, 1, 1, 1, 1, 1] B4) s H = some (.ret, s, H) := at_ret (by kernel_rfl) s H
theorem b4 {k : Nat} (ho : ∀ args H, Γ.orc 4 args H = none) (args : List V) (H : Heap) (ha : args.length ≤ 132) : evF Tryd.prog Γ (k + 1) 4 args H = bodyEnd Tryd.prog [.tmp 8] H.length (evCode Tryd.prog Γ (evF Tryd.prog Γ k) k 4 H.length (cAt [] B4) (mkL 132 V.undef (enumV 0 args)) H) := body_at Tryd.func4 (by decide) rfl ho rfl rfl args H ha
end
end Go.Ev.Tryd
