/-
  CODE BY NAMES, printed by wip/tools/codes.py (own work).
-/
import Derived.Test.YtcpojjjdglhhcaaDoorSgG
set_option maxRecDepth 100000
set_option linter.unusedVariables false
namespace Go.Ev.Tryd
open Go Go.Ev Go.Proofs
section
variable {P : Program} {Γ : Env} {call : CallF} {n f m : Nat}

noncomputable def B3 : Code := bodyOf Tryd.f3
@[simp] theorem n3_1 (s : List V) (H : Heap) : evCode P Γ call n f m (cAt [] B3) s H = seqNext P Γ call n f m (cAt [1] B3) (evCode P Γ call n f m (cAt [0] B3) s H) := at_seq (by kernel_rfl) rfl rfl s H
noncomputable def r3_2 : {l : List Oper // opsOf (cAt [0] B3) = l} := by
  apply Subtype.mk
  dsimp only [opsOf, cAt, kids, B3, bodyOf, Tryd.f3, List.getD, List.getElem?_cons_zero, List.getElem?_cons_succ, Option.getD_some]
@[simp] theorem n3_2 (s : List V) (H : Heap) : evCode P Γ call n f m (cAt [0] B3) s H = regNext (evOpsGo P Γ call r3_2.1 r3_2.1 s H) := at_region (by kernel_rfl) r3_2.2 s H
attribute [simp] r3_2
@[simp] theorem n3_3 (s : List V) (H : Heap) : evCode P Γ call n f m (cAt [1] B3) s H = seqNext P Γ call n f m (cAt [1, 1] B3) (evCode P Γ call n f m (cAt [1, 0] B3) s H) := at_seq (by kernel_rfl) rfl rfl s H
noncomputable def r3_4 : {l : List Oper // opsOf (cAt [1, 0] B3) = l} := by
  apply Subtype.mk
  dsimp only [opsOf, cAt, kids, B3, bodyOf, Tryd.f3, List.getD, List.getElem?_cons_zero, List.getElem?_cons_succ, Option.getD_some]
@[simp] theorem n3_4 (s : List V) (H : Heap) : evCode P Γ call n f m (cAt [1, 0] B3) s H = regNext (evOpsGo P Γ call r3_4.1 r3_4.1 s H) := at_region (by kernel_rfl) r3_4.2 s H
attribute [simp] r3_4
@[simp] theorem n3_5 (s : List V) (H : Heap) : evCode P Γ call n f m (cAt [1, 1] B3) s H = seqNext P Γ call n f m (cAt [1, 1, 1] B3) (evCode P Γ call n f m (cAt [1, 1, 0] B3) s H) := at_seq (by kernel_rfl) rfl rfl s H
noncomputable def r3_6 : {l : List Oper // opsOf (cAt [1, 1, 0] B3) = l} := by
  apply Subtype.mk
  dsimp only [opsOf, cAt, kids, B3, bodyOf, Tryd.f3, List.getD, List.getElem?_cons_zero, List.getElem?_cons_succ, Option.getD_some]
@[simp] theorem n3_6 (s : List V) (H : Heap) : evCode P Γ call n f m (cAt [1, 1, 0] B3) s H = regNext (evOpsGo P Γ call r3_6.1 r3_6.1 s H) := at_region (by kernel_rfl) r3_6.2 s H
attribute [simp] r3_6
@[simp] theorem n3_7 (s : List V) (H : Heap) : evCode P Γ call n f m (cAt [1, 1, 1] B3) s H = seqNext P Γ call n f m (cAt [1, 1, 1, 1] B3) (evCode P Γ call n f m (cAt [1, 1, 1, 0] B3) s H) := at_seq (by kernel_rfl) rfl rfl s H
noncomputable def r3_8 : {l : List Oper // opsOf (cAt [1, 1, 1, 0] B3) = l} := by
  apply Subtype.mk
  dsimp only [opsOf, cAt, kids, B3, bodyOf, Tryd.f3, List.getD, List.getElem?_cons_zero, List.getElem?_cons_succ, Option.getD_some]
@[simp] theorem n3_8 (s : List V) (H : Heap) : evCode P Γ call n f m (cAt [1, 1, 1, 0] B3) s H = regNext (evOpsGo P Γ call r3_8.1 r3_8.1 s H) := at_region (by kernel_rfl) r3_8.2 s H
attribute [simp] r3_8
@[simp] theorem n3_9 (s : List V) (H : Heap) : evCode P Γ call n f m (cAt [1, 1, 1, 1] B3) s H = seqNext P Γ call n f m (cAt [1, 1, 1, 1, 1] B3) (evCode P Γ call n f m (cAt [1, 1, 1, 1, 0] B3) s H) := at_seq (by kernel_rfl) rfl rfl s H
@[simp] theorem n3_10 (s : List V) (H : Heap) : evCode P Γ call n f m (cAt [1, 1, 1, 1, 0] B3) s H = seqNext P Γ call n f m (cAt [1, 1, 1, 1, 0, 1] B3) (evCode P Γ call n f m (cAt [1, 1, 1, 1, 0, 0] B3) s H) := at_seq (by kernel_rfl) rfl rfl s H
noncomputable def r3_11 : {l : List Oper // opsOf (cAt [1, 1, 1, 1, 0, 0] B3) = l} := by
  apply Subtype.mk
  dsimp only [opsOf, cAt, kids, B3, bodyOf, Tryd.f3, List.getD, List.getElem?_cons_zero, List.getElem?_cons_succ, Option.getD_some]
@[simp] theorem n3_11 (s : List V) (H : Heap) : evCode P Γ call n f m (cAt [1, 1, 1, 1, 0, 0] B3) s H = regNext (drawR P Γ call r3_11.1 [([], []), ([], []), ([], []), ([], []), ([], []), ([], []), ([], []), ([], []), ([], []), ([], []), ([], []), ([12, 13], [45, 46]), ([11], [44]), ([11], [44]), ([], []), ([], []), ([], []), ([], []), ([], []), ([], []), ([], []), ([], []), ([], []), ([], []), ([], []), ([], []), ([], []), ([28, 29, 30, 33, 34], [61, 62, 63, 66, 67]), ([27, 33, 34], [60, 66, 67]), ([27, 33, 34], [60, 66, 67]), ([27, 33, 34], [60, 66, 67]), ([33, 34], [66, 67]), ([33, 34], [66, 67]), ([27, 28, 29, 30, 31, 32], [60, 61, 62, 63, 64, 65]), ([27, 28, 29, 30, 31, 32], [60, 61, 62, 63, 64, 65]), ([], []), ([], [])] s H) := at_drawT (by kernel_rfl) r3_11.2 (by kernel_rfl) s H
attribute [simp] r3_11
@[simp] theorem n3_12 (s : List V) (H : Heap) : evCode P Γ call n f m (cAt [1, 1, 1, 1, 0, 1] B3) s H = condW P Γ call n f m (cAt [1, 1, 1, 1, 0, 1, 0] B3) (cAt [1, 1, 1, 1, 0, 1, 1] B3) s H (evOperand Γ s (.tmp 69)) := at_cond (by kernel_rfl) (by kernel_rfl) rfl rfl s H
@[simp] theorem n3_13 (s : List V) (H : Heap) : evCode P Γ call n f m (cAt [1, 1, 1, 1, 0, 1, 0] B3) s H = seqNext P Γ call n f m (cAt [1, 1, 1, 1, 0, 1, 0, 1] B3) (evCode P Γ call n f m (cAt [1, 1, 1, 1, 0, 1, 0, 0] B3) s H) := at_seq (by kernel_rfl) rfl rfl s H
noncomputable def r3_14 : {l : List Oper // opsOf (cAt [1, 1, 1, 1, 0, 1, 0, 0] B3) = l} := by
  apply Subtype.mk
  dsimp only [opsOf, cAt, kids, B3, bodyOf, Tryd.f3, List.getD, List.getElem?_cons_zero, List.getElem?_cons_succ, Option.getD_some]
@[simp] theorem n3_14 (s : List V) (H : Heap) : evCode P Γ call n f m (cAt [1, 1, 1, 1, 0, 1, 0, 0] B3) s H = regNext (evOpsGo P Γ call r3_14.1 r3_14.1 s H) := at_region (by kernel_rfl) r3_14.2 s H
attribute [simp] r3_14
@[simp] theorem n3_15 (s : List V) (H : Heap) : evCode P Γ call n f m (cAt [1, 1, 1, 1, 0, 1, 0, 1] B3) s H = some (.ret, s, H) := at_ret (by kernel_rfl) s H
@[simp] theorem n3_16 (s : List V) (H : Heap) : evCode P Γ call n f m (cAt [1, 1, 1, 1, 0, 1, 1] B3) s H = some (.normal, s, H) := at_skip (by kernel_rfl) s H
@[simp] theorem n3_17 (s : List V) (H : Heap) : evCode P Γ call n f m (cAt [1, 1, 1, 1, 1] B3) s H = seqNext P Γ call n f m (cAt [1, 1, 1, 1, 1, 1] B3) (evCode P Γ call n f m (cAt [1, 1, 1, 1, 1, 0] B3) s H) := at_seq (by kernel_rfl) rfl rfl s H
noncomputable def r3_18 : {l : List Oper // opsOf (cAt [1, 1, 1, 1, 1, 0] B3) = l} := by
  apply Subtype.mk
  dsimp only [opsOf, cAt, kids, B3, bodyOf, Tryd.f3, List.getD, List.getElem?_cons_zero, List.getElem?_cons_succ, Option.getD_some]
@[simp] theorem n3_18 (s : List V) (H : Heap) : evCode P Γ call n f m (cAt [1, 1, 1, 1, 1, 0] B3) s H = regNext (evOpsGo P Γ call r3_18.1 r3_18.1 s H) := at_region (by kernel_rfl) r3_18.2 s H
attribute [simp] r3_18
@[simp] theorem n3_19 (s : List V) (H : Heap) : evCode P Γ call n f m (cAt [1, 1, 1, 1, 1, 1] B3) s H = seqNext P Γ call n f m (cAt [1, 1, 1, 1, 1, 1, 1] B3) (evCode P Γ call n f m (cAt [1, 1, 1, 1, 1, 1, 0] B3) s H) := at_seq (by kernel_rfl) rfl rfl s H
@[simp] theorem n3_20 (s : List V) (H : Heap) : evCode P Γ call n f m (cAt [1, 1, 1, 1, 1, 1, 0] B3) s H = seqNext P Γ call n f m (cAt [1, 1, 1, 1, 1, 1, 0, 1] B3) (evCode P Γ call n f m (cAt [1, 1, 1, 1, 1, 1, 0, 0] B3) s H) := at_seq (by kernel_rfl) rfl rfl s H
noncomputable def r3_21 : {l : List Oper // opsOf (cAt [1, 1, 1, 1, 1, 1, 0, 0] B3) = l} := by
  apply Subtype.mk
  dsimp only [opsOf, cAt, kids, B3, bodyOf, Tryd.f3, List.getD, List.getElem?_cons_zero, List.getElem?_cons_succ, Option.getD_some]
@[simp] theorem n3_21 (s : List V) (H : Heap) : evCode P Γ call n f m (cAt [1, 1, 1, 1, 1, 1, 0, 0] B3) s H = regNext (evOpsGo P Γ call r3_21.1 r3_21.1 s H) := at_region (by kernel_rfl) r3_21.2 s H
attribute [simp] r3_21
@[simp] theorem n3_22 (s : List V) (H : Heap) : evCode P Γ call n f m (cAt [1, 1, 1, 1, 1, 1, 0, 1] B3) s H = seqNext P Γ call n f m (cAt [1, 1, 1, 1, 1, 1, 0, 1, 1] B3) (evCode P Γ call n f m (cAt [1, 1, 1, 1, 1, 1, 0, 1, 0] B3) s H) := at_seq (by kernel_rfl) rfl rfl s H
noncomputable def r3_23 : {l : List Oper // opsOf (cAt [1, 1, 1, 1, 1, 1, 0, 1, 0] B3) = l} := by
  apply Subtype.mk
  dsimp only [opsOf, cAt, kids, B3, bodyOf, Tryd.f3, List.getD, List.getElem?_cons_zero, List.getElem?_cons_succ, Option.getD_some]
@[simp] theorem n3_23 (s : List V) (H : Heap) : evCode P Γ call n f m (cAt [1, 1, 1, 1, 1, 1, 0, 1, 0] B3) s H = regNext (evOpsGo P Γ call r3_23.1 r3_23.1 s H) := at_region (by kernel_rfl) r3_23.2 s H
attribute [simp] r3_23
@[simp] theorem n3_24 (s : List V) (H : Heap) : evCode P Γ call n f m (cAt [1, 1, 1, 1, 1, 1, 0, 1, 1] B3) s H = condW P Γ call n f m (cAt [1, 1, 1, 1, 1, 1, 0, 1, 1, 0] B3) (cAt [1, 1, 1, 1, 1, 1, 0, 1, 1, 1] B3) s H (evOperand Γ s (.tmp 88)) := at_cond (by kernel_rfl) (by kernel_rfl) rfl rfl s H
@[simp] theorem n3_25 (s : List V) (H : Heap) : evCode P Γ call n f m (cAt [1, 1, 1, 1, 1, 1, 0, 1, 1, 0] B3) s H = seqNext P Γ call n f m (cAt [1, 1, 1, 1, 1, 1, 0, 1, 1, 0, 1] B3) (evCode P Γ call n f m (cAt [1, 1, 1, 1, 1, 1, 0, 1, 1, 0, 0] B3) s H) := at_seq (by kernel_rfl) rfl rfl s H
noncomputable def r3_26 : {l : List Oper // opsOf (cAt [1, 1, 1, 1, 1, 1, 0, 1, 1, 0, 0] B3) = l} := by
  apply Subtype.mk
  dsimp only [opsOf, cAt, kids, B3, bodyOf, Tryd.f3, List.getD, List.getElem?_cons_zero, List.getElem?_cons_succ, Option.getD_some]
@[simp] theorem n3_26 (s : List V) (H : Heap) : evCode P Γ call n f m (cAt [1, 1, 1, 1, 1, 1, 0, 1, 1, 0, 0] B3) s H = regNext (evOpsGo P Γ call r3_26.1 r3_26.1 s H) := at_region (by kernel_rfl) r3_26.2 s H
attribute [simp] r3_26
@[simp] theorem n3_27 (s : List V) (H : Heap) : evCode P Γ call n f m (cAt [1, 1, 1, 1, 1, 1, 0, 1, 1, 0, 1] B3) s H = some (.ret, s, H) := at_ret (by kernel_rfl) s H
@[simp] theorem n3_28 (s : List V) (H : Heap) : evCode P Γ call n f m (cAt [1, 1, 1, 1, 1, 1, 0, 1, 1, 1] B3) s H = some (.normal, s, H) := at_skip (by kernel_rfl) s H
@[simp] theorem n3_29 (s : List V) (H : Heap) : evCode P Γ call n f m (cAt [1, 1, 1, 1, 1, 1, 1] B3) s H = seqNext P Γ call n f m (cAt [1, 1, 1, 1, 1, 1, 1, 1] B3) (evCode P Γ call n f m (cAt [1, 1, 1, 1, 1, 1, 1, 0] B3) s H) := at_seq (by kernel_rfl) rfl rfl s H
noncomputable def r3_30 : {l : List Oper // opsOf (cAt [1, 1, 1, 1, 1, 1, 1, 0] B3) = l} := by
  apply Subtype.mk
  dsimp only [opsOf, cAt, kids, B3, bodyOf, Tryd.f3, List.getD, List.getElem?_cons_zero, List.getElem?_cons_succ, Option.getD_some]
@[simp] theorem n3_30 (s : List V) (H : Heap) : evCode P Γ call n f m (cAt [1, 1, 1, 1, 1, 1, 1, 0] B3) s H = regNext (evOpsGo P Γ call r3_30.1 r3_30.1 s H) := at_region (by kernel_rfl) r3_30.2 s H
attribute [simp] r3_30
@[simp] theorem n3_31 (s : List V) (H : Heap) : evCode P Γ call n f m (cAt [1, 1, 1, 1, 1, 1, 1, 1] B3) s H = seqNext P Γ call n f m (cAt [1, 1, 1, 1, 1, 1, 1, 1, 1] B3) (evCode P Γ call n f m (cAt [1, 1, 1, 1, 1, 1, 1, 1, 0] B3) s H) := at_seq (by kernel_rfl) rfl rfl s H
noncomputable def r3_32 : {l : List Oper // opsOf (cAt [1, 1, 1, 1, 1, 1, 1, 1, 0] B3) = l} := by
  apply Subtype.mk
  dsimp only [opsOf, cAt, kids, B3, bodyOf, Tryd.f3, List.getD, List.getElem?_cons_zero, List.getElem?_cons_succ, Option.getD_some]
@[simp] theorem n3_32 (s : List V) (H : Heap) : evCode P Γ call n f m (cAt [1, 1, 1, 1, 1, 1, 1, 1, 0] B3) s H = regNext (drawR P Γ call r3_32.1 [([1, 5, 6, 7], [92, 96, 97, 98]), ([0, 5, 6, 7], [91, 96, 97, 98]), ([5, 6, 7], [96, 97, 98]), ([5, 6, 7], [96, 97, 98]), ([5, 6, 7], [96, 97, 98]), ([0, 1, 2, 3, 4], [91, 92, 93, 94, 95]), ([0, 1, 2, 3, 4], [91, 92, 93, 94, 95]), ([0, 1, 2, 3, 4], [91, 92, 93, 94, 95]), ([], []), ([], []), ([], []), ([], [])] s H) := at_drawT (by kernel_rfl) r3_32.2 (by kernel_rfl) s H
attribute [simp] r3_32
@[simp] theorem n3_33 (s : List V) (H : Heap) : evCode P Γ call n f m (cAt [1, 1, 1, 1, 1, 1, 1, 1, 1] B3) s H = seqNext P Γ call n f m (cAt [1, 1, 1, 1, 1, 1, 1, 1, 1, 1] B3) (evCode P Γ call n f m (cAt [1, 1, 1, 1, 1, 1, 1, 1, 1, 0] B3) s H) := at_seq (by kernel_rfl) rfl rfl s H
noncomputable def r3_34 : {l : List Oper // opsOf (cAt [1, 1, 1, 1, 1, 1, 1, 1, 1, 0] B3) = l} := by
  apply Subtype.mk
  dsimp only [opsOf, cAt, kids, B3, bodyOf, Tryd.f3, List.getD, List.getElem?_cons_zero, List.getElem?_cons_succ, Option.getD_some]
@[simp] theorem n3_34 (s : List V) (H : Heap) : evCode P Γ call n f m (cAt [1, 1, 1, 1, 1, 1, 1, 1, 1, 0] B3) s H = regNext (evOpsGo P Γ call r3_34.1 r3_34.1 s H) := at_region (by kernel_rfl) r3_34.2 s H
attribute [simp] r3_34
@[simp] theorem n3_35 (s : List V) (H : Heap) : evCode P Γ call n f m (cAt [1, 1, 1, 1, 1, 1, 1, 1, 1, 1] B3) s H = seqNext P Γ call n f m (cAt [1, 1, 1, 1, 1, 1, 1, 1, 1, 1, 1] B3) (evCode P Γ call n f m (cAt [1, 1, 1, 1, 1, 1, 1, 1, 1, 1, 0] B3) s H) := at_seq (by kernel_rfl) rfl rfl s H
noncomputable def r3_36 : {l : List Oper // opsOf (cAt [1, 1, 1, 1, 1, 1, 1, 1, 1, 1, 0] B3) = l} := by
  apply Subtype.mk
  dsimp only [opsOf, cAt, kids, B3, bodyOf, Tryd.f3, List.getD, List.getElem?_cons_zero, List.getElem?_cons_succ, Option.getD_some]
@[simp] theorem n3_36 (s : List V) (H : Heap) : evCode P Γ call n f m (cAt [1, 1, 1, 1, 1, 1, 1, 1, 1, 1, 0] B3) s H = regNext (evOpsGo P Γ call r3_36.1 r3_36.1 s H) := at_region (by kernel_rfl) r3_36.2 s H
attribute [simp] r3_36
@[simp] theorem n3_37 (s : List V) (H : Heap) : evCode P Γ call n f m (cAt [1, 1, 1, 1, 1, 1, 1, 1, 1, 1, 1] B3) s H = some (.ret, s, H) := at_ret (by kernel_rfl) s H
theorem b3 {k : Nat} (ho : ∀ args H, Γ.orc 3 args H = none) (args : List V) (H : Heap) (ha : args.length ≤ 115) : evF Tryd.prog Γ (k + 1) 3 args H = bodyEnd Tryd.prog [.tmp 6] H.length (evCode Tryd.prog Γ (evF Tryd.prog Γ k) k 3 H.length (cAt [] B3) (mkL 115 V.undef (enumV 0 args)) H) := body_at Tryd.func3 (by decide) rfl ho rfl rfl args H ha
noncomputable def B7 : Code := bodyOf Tryd.f7
@[simp] theorem n7_1 (s : List V) (H : Heap) : evCode P Γ call n f m (cAt [] B7) s H = seqNext P Γ call n f m (cAt [1] B7) (evCode P Γ call n f m (cAt [0] B7) s H) := at_seq (by kernel_rfl) rfl rfl s H
noncomputable def r7_2 : {l : List Oper // opsOf (cAt [0] B7) = l} := by
  apply Subtype.mk
  dsimp only [opsOf, cAt, kids, B7, bodyOf, Tryd.f7, List.getD, List.getElem?_cons_zero, List.getElem?_cons_succ, Option.getD_some]
@[simp] theorem n7_2 (s : List V) (H : Heap) : evCode P Γ call n f m (cAt [0] B7) s H = regNext (evOpsGo P Γ call r7_2.1 r7_2.1 s H) := at_region (by kernel_rfl) r7_2.2 s H
attribute [simp] r7_2
@[simp] theorem n7_3 (s : List V) (H : Heap) : evCode P Γ call n f m (cAt [1] B7) s H = seqNext P Γ call n f m (cAt [1, 1] B7) (evCode P Γ call n f m (cAt [1, 0] B7) s H) := at_seq (by kernel_rfl) rfl rfl s H
noncomputable def r7_4 : {l : List Oper // opsOf (cAt [1, 0] B7) = l} := by
  apply Subtype.mk
  dsimp only [opsOf, cAt, kids, B7, bodyOf, Tryd.f7, List.getD, List.getElem?_cons_zero, List.getElem?_cons_succ, Option.getD_some]
@[simp] theorem n7_4 (s : List V) (H : Heap) : evCode P Γ call n f m (cAt [1, 0] B7) s H = regNext (evOpsGo P Γ call r7_4.1 r7_4.1 s H) := at_region (by kernel_rfl) r7_4.2 s H
attribute [simp] r7_4
@[simp] theorem n7_5 (s : List V) (H : Heap) : evCode P Γ call n f m (cAt [1, 1] B7) s H = seqNext P Γ call n f m (cAt [1, 1, 1] B7) (evCode P Γ call n f m (cAt [1, 1, 0] B7) s H) := at_seq (by kernel_rfl) rfl rfl s H
noncomputable def r7_6 : {l : List Oper // opsOf (cAt [1, 1, 0] B7) = l} := by
  apply Subtype.mk
  dsimp only [opsOf, cAt, kids, B7, bodyOf, Tryd.f7, List.getD, List.getElem?_cons_zero, List.getElem?_cons_succ, Option.getD_some]
@[simp] theorem n7_6 (s : List V) (H : Heap) : evCode P Γ call n f m (cAt [1, 1, 0] B7) s H = regNext (evOpsGo P Γ call r7_6.1 r7_6.1 s H) := at_region (by kernel_rfl) r7_6.2 s H
attribute [simp] r7_6
@[simp] theorem n7_7 (s : List V) (H : Heap) : evCode P Γ call n f m (cAt [1, 1, 1] B7) s H = seqNext P Γ call n f m (cAt [1, 1, 1, 1] B7) (evCode P Γ call n f m (cAt [1, 1, 1, 0] B7) s H) := at_seq (by kernel_rfl) rfl rfl s H
noncomputable def r7_8 : {l : List Oper // opsOf (cAt [1, 1, 1, 0] B7) = l} := by
  apply Subtype.mk
  dsimp only [opsOf, cAt, kids, B7, bodyOf, Tryd.f7, List.getD, List.getElem?_cons_zero, List.getElem?_cons_succ, Option.getD_some]
@[simp] theorem n7_8 (s : List V) (H : Heap) : evCode P Γ call n f m (cAt [1, 1, 1, 0] B7) s H = regNext (drawR P Γ call r7_8.1 [([1, 2, 5, 6], [18, 19, 22, 23]), ([0, 5], [17, 22]), ([0, 5], [17, 22]), ([5, 6], [22, 23]), ([5, 6], [22, 23]), ([0, 1, 2, 3, 4], [17, 18, 19, 20, 21]), ([0, 3, 4], [17, 20, 21]), ([], []), ([], [])] s H) := at_drawT (by kernel_rfl) r7_8.2 (by kernel_rfl) s H
attribute [simp] r7_8
@[simp] theorem n7_9 (s : List V) (H : Heap) : evCode P Γ call n f m (cAt [1, 1, 1, 1] B7) s H = seqNext P Γ call n f m (cAt [1, 1, 1, 1, 1] B7) (evCode P Γ call n f m (cAt [1, 1, 1, 1, 0] B7) s H) := at_seq (by kernel_rfl) rfl rfl s H
noncomputable def r7_10 : {l : List Oper // opsOf (cAt [1, 1, 1, 1, 0] B7) = l} := by
  apply Subtype.mk
  dsimp only [opsOf, cAt, kids, B7, bodyOf, Tryd.f7, List.getD, List.getElem?_cons_zero, List.getElem?_cons_succ, Option.getD_some]
@[simp] theorem n7_10 (s : List V) (H : Heap) : evCode P Γ call n f m (cAt [1, 1, 1, 1, 0] B7) s H = regNext (evOpsGo P Γ call r7_10.1 r7_10.1 s H) := at_region (by kernel_rfl) r7_10.2 s H
attribute [simp] r7_10
@[simp] theorem n7_11 (s : List V) (H : Heap) : evCode P Γ call n f m (cAt [1, 1, 1, 1, 1] B7) s H = seqNext P Γ call n f m (cAt [1, 1, 1, 1, 1, 1] B7) (evCode P Γ call n f m (cAt [1, 1, 1, 1, 1, 0] B7) s H) := at_seq (by kernel_rfl) rfl rfl s H
noncomputable def r7_12 : {l : List Oper // opsOf (cAt [1, 1, 1, 1, 1, 0] B7) = l} := by
  apply Subtype.mk
  dsimp only [opsOf, cAt, kids, B7, bodyOf, Tryd.f7, List.getD, List.getElem?_cons_zero, List.getElem?_cons_succ, Option.getD_some]
@[simp] theorem n7_12 (s : List V) (H : Heap) : evCode P Γ call n f m (cAt [1, 1, 1, 1, 1, 0] B7) s H = regNext (evOpsGo P Γ call r7_12.1 r7_12.1 s H) := at_region (by kernel_rfl) r7_12.2 s H
attribute [simp] r7_12
@[simp] theorem n7_13 (s : List V) (H : Heap) : evCode P Γ call n f m (cAt [1, 1, 1, 1, 1, 1] B7) s H = seqNext P Γ call n f m (cAt [1, 1, 1, 1, 1, 1, 1] B7) (evCode P Γ call n f m (cAt [1, 1, 1, 1, 1, 1, 0] B7) s H) := at_seq (by kernel_rfl) rfl rfl s H
@[simp] theorem n7_14 (s : List V) (H : Heap) : evCode P Γ call n f m (cAt [1, 1, 1, 1, 1, 1, 0] B7) s H = seqNext P Γ call n f m (cAt [1, 1, 1, 1, 1, 1, 0, 1] B7) (evCode P Γ call n f m (cAt [1, 1, 1, 1, 1, 1, 0, 0] B7) s H) := at_seq (by kernel_rfl) rfl rfl s H
noncomputable def r7_15 : {l : List Oper // opsOf (cAt [1, 1, 1, 1, 1, 1, 0, 0] B7) = l} := by
  apply Subtype.mk
  dsimp only [opsOf, cAt, kids, B7, bodyOf, Tryd.f7, List.getD, List.getElem?_cons_zero, List.getElem?_cons_succ, Option.getD_some]
@[simp] theorem n7_15 (s : List V) (H : Heap) : evCode P Γ call n f m (cAt [1, 1, 1, 1, 1, 1, 0, 0] B7) s H = regNext (evOpsGo P Γ call r7_15.1 r7_15.1 s H) := at_region (by kernel_rfl) r7_15.2 s H
attribute [simp] r7_15
@[simp] theorem n7_16 (s : List V) (H : Heap) : evCode P Γ call n f m (cAt [1, 1, 1, 1, 1, 1, 0, 1] B7) s H = blockNext 0 (evCode P Γ call n f m (cAt [1, 1, 1, 1, 1, 1, 0, 1, 0] B7) s H) := at_block (by kernel_rfl) rfl s H
@[simp] theorem n7_17 (s : List V) (H : Heap) : evCode P Γ call n f m (cAt [1, 1, 1, 1, 1, 1, 0, 1, 0] B7) s H = evLoopC P Γ call n f m (cAt [1, 1, 1, 1, 1, 1, 0, 1, 0, 0] B7) n s H := at_loop (by kernel_rfl) rfl s H
noncomputable abbrev L7_7 : Code := cAt [1, 1, 1, 1, 1, 1, 0, 1, 0, 0] B7
@[simp] theorem n7_17f : firstRegion (cAt [1, 1, 1, 1, 1, 1, 0, 1, 0, 0] B7) = 7 := by kernel_rfl
@[simp] theorem n7_18 (s : List V) (H : Heap) : evCode P Γ call n f m (cAt [1, 1, 1, 1, 1, 1, 0, 1, 0, 0] B7) s H = seqNext P Γ call n f m (cAt [1, 1, 1, 1, 1, 1, 0, 1, 0, 0, 1] B7) (evCode P Γ call n f m (cAt [1, 1, 1, 1, 1, 1, 0, 1, 0, 0, 0] B7) s H) := at_seq (by kernel_rfl) rfl rfl s H
noncomputable def r7_19 : {l : List Oper // opsOf (cAt [1, 1, 1, 1, 1, 1, 0, 1, 0, 0, 0] B7) = l} := by
  apply Subtype.mk
  dsimp only [opsOf, cAt, kids, B7, bodyOf, Tryd.f7, List.getD, List.getElem?_cons_zero, List.getElem?_cons_succ, Option.getD_some]
@[simp] theorem n7_19 (s : List V) (H : Heap) : evCode P Γ call n f m (cAt [1, 1, 1, 1, 1, 1, 0, 1, 0, 0, 0] B7) s H = regNext (evOpsGo P Γ call r7_19.1 r7_19.1 s H) := at_region (by kernel_rfl) r7_19.2 s H
attribute [simp] r7_19
@[simp] theorem n7_20 (s : List V) (H : Heap) : evCode P Γ call n f m (cAt [1, 1, 1, 1, 1, 1, 0, 1, 0, 0, 1] B7) s H = seqNext P Γ call n f m (cAt [1, 1, 1, 1, 1, 1, 0, 1, 0, 0, 1, 1] B7) (evCode P Γ call n f m (cAt [1, 1, 1, 1, 1, 1, 0, 1, 0, 0, 1, 0] B7) s H) := at_seq (by kernel_rfl) rfl rfl s H
@[simp] theorem n7_21 (s : List V) (H : Heap) : evCode P Γ call n f m (cAt [1, 1, 1, 1, 1, 1, 0, 1, 0, 0, 1, 0] B7) s H = condW P Γ call n f m (cAt [1, 1, 1, 1, 1, 1, 0, 1, 0, 0, 1, 0, 0] B7) (cAt [1, 1, 1, 1, 1, 1, 0, 1, 0, 0, 1, 0, 1] B7) s H (evOperand Γ s (.tmp 34)) := at_cond (by kernel_rfl) (by kernel_rfl) rfl rfl s H
@[simp] theorem n7_22 (s : List V) (H : Heap) : evCode P Γ call n f m (cAt [1, 1, 1, 1, 1, 1, 0, 1, 0, 0, 1, 0, 0] B7) s H = some (.normal, s, H) := at_skip (by kernel_rfl) s H
@[simp] theorem n7_23 (s : List V) (H : Heap) : evCode P Γ call n f m (cAt [1, 1, 1, 1, 1, 1, 0, 1, 0, 0, 1, 0, 1] B7) s H = some (.exit 0, s, H) := at_exit (by kernel_rfl) s H
@[simp] theorem n7_24 (s : List V) (H : Heap) : evCode P Γ call n f m (cAt [1, 1, 1, 1, 1, 1, 0, 1, 0, 0, 1, 1] B7) s H = seqNext P Γ call n f m (cAt [1, 1, 1, 1, 1, 1, 0, 1, 0, 0, 1, 1, 1] B7) (evCode P Γ call n f m (cAt [1, 1, 1, 1, 1, 1, 0, 1, 0, 0, 1, 1, 0] B7) s H) := at_seq (by kernel_rfl) rfl rfl s H
@[simp] theorem n7_25 (s : List V) (H : Heap) : evCode P Γ call n f m (cAt [1, 1, 1, 1, 1, 1, 0, 1, 0, 0, 1, 1, 0] B7) s H = blockNext 1 (evCode P Γ call n f m (cAt [1, 1, 1, 1, 1, 1, 0, 1, 0, 0, 1, 1, 0, 0] B7) s H) := at_block (by kernel_rfl) rfl s H
@[simp] theorem n7_26 (s : List V) (H : Heap) : evCode P Γ call n f m (cAt [1, 1, 1, 1, 1, 1, 0, 1, 0, 0, 1, 1, 0, 0] B7) s H = seqNext P Γ call n f m (cAt [1, 1, 1, 1, 1, 1, 0, 1, 0, 0, 1, 1, 0, 0, 1] B7) (evCode P Γ call n f m (cAt [1, 1, 1, 1, 1, 1, 0, 1, 0, 0, 1, 1, 0, 0, 0] B7) s H) := at_seq (by kernel_rfl) rfl rfl s H
noncomputable def r7_27 : {l : List Oper // opsOf (cAt [1, 1, 1, 1, 1, 1, 0, 1, 0, 0, 1, 1, 0, 0, 0] B7) = l} := by
  apply Subtype.mk
  dsimp only [opsOf, cAt, kids, B7, bodyOf, Tryd.f7, List.getD, List.getElem?_cons_zero, List.getElem?_cons_succ, Option.getD_some]
@[simp] theorem n7_27 (s : List V) (H : Heap) : evCode P Γ call n f m (cAt [1, 1, 1, 1, 1, 1, 0, 1, 0, 0, 1, 1, 0, 0, 0] B7) s H = regNext (evOpsGo P Γ call r7_27.1 r7_27.1 s H) := at_region (by kernel_rfl) r7_27.2 s H
attribute [simp] r7_27
@[simp] theorem n7_28 (s : List V) (H : Heap) : evCode P Γ call n f m (cAt [1, 1, 1, 1, 1, 1, 0, 1, 0, 0, 1, 1, 0, 0, 1] B7) s H = seqNext P Γ call n f m (cAt [1, 1, 1, 1, 1, 1, 0, 1, 0, 0, 1, 1, 0, 0, 1, 1] B7) (evCode P Γ call n f m (cAt [1, 1, 1, 1, 1, 1, 0, 1, 0, 0, 1, 1, 0, 0, 1, 0] B7) s H) := at_seq (by kernel_rfl) rfl rfl s H
noncomputable def r7_29 : {l : List Oper // opsOf (cAt [1, 1, 1, 1, 1, 1, 0, 1, 0, 0, 1, 1, 0, 0, 1, 0] B7) = l} := by
  apply Subtype.mk
  dsimp only [opsOf, cAt, kids, B7, bodyOf, Tryd.f7, List.getD, List.getElem?_cons_zero, List.getElem?_cons_succ, Option.getD_some]
@[simp] theorem n7_29 (s : List V) (H : Heap) : evCode P Γ call n f m (cAt [1, 1, 1, 1, 1, 1, 0, 1, 0, 0, 1, 1, 0, 0, 1, 0] B7) s H = regNext (evOpsGo P Γ call r7_29.1 r7_29.1 s H) := at_region (by kernel_rfl) r7_29.2 s H
attribute [simp] r7_29
@[simp] theorem n7_30 (s : List V) (H : Heap) : evCode P Γ call n f m (cAt [1, 1, 1, 1, 1, 1, 0, 1, 0, 0, 1, 1, 0, 0, 1, 1] B7) s H = seqNext P Γ call n f m (cAt [1, 1, 1, 1, 1, 1, 0, 1, 0, 0, 1, 1, 0, 0, 1, 1, 1] B7) (evCode P Γ call n f m (cAt [1, 1, 1, 1, 1, 1, 0, 1, 0, 0, 1, 1, 0, 0, 1, 1, 0] B7) s H) := at_seq (by kernel_rfl) rfl rfl s H
@[simp] theorem n7_31 (s : List V) (H : Heap) : evCode P Γ call n f m (cAt [1, 1, 1, 1, 1, 1, 0, 1, 0, 0, 1, 1, 0, 0, 1, 1, 0] B7) s H = blockNext 2 (evCode P Γ call n f m (cAt [1, 1, 1, 1, 1, 1, 0, 1, 0, 0, 1, 1, 0, 0, 1, 1, 0, 0] B7) s H) := at_block (by kernel_rfl) rfl s H
@[simp] theorem n7_32 (s : List V) (H : Heap) : evCode P Γ call n f m (cAt [1, 1, 1, 1, 1, 1, 0, 1, 0, 0, 1, 1, 0, 0, 1, 1, 0, 0] B7) s H = seqNext P Γ call n f m (cAt [1, 1, 1, 1, 1, 1, 0, 1, 0, 0, 1, 1, 0, 0, 1, 1, 0, 0, 1] B7) (evCode P Γ call n f m (cAt [1, 1, 1, 1, 1, 1, 0, 1, 0, 0, 1, 1, 0, 0, 1, 1, 0, 0, 0] B7) s H) := at_seq (by kernel_rfl) rfl rfl s H
noncomputable def r7_33 : {l : List Oper // opsOf (cAt [1, 1, 1, 1, 1, 1, 0, 1, 0, 0, 1, 1, 0, 0, 1, 1, 0, 0, 0] B7) = l} := by
  apply Subtype.mk
  dsimp only [opsOf, cAt, kids, B7, bodyOf, Tryd.f7, List.getD, List.getElem?_cons_zero, List.getElem?_cons_succ, Option.getD_some]
@[simp] theorem n7_33 (s : List V) (H : Heap) : evCode P Γ call n f m (cAt [1, 1, 1, 1, 1, 1, 0, 1, 0, 0, 1, 1, 0, 0, 1, 1, 0, 0, 0] B7) s H = regNext (evOpsGo P Γ call r7_33.1 r7_33.1 s H) := at_region (by kernel_rfl) r7_33.2 s H
attribute [simp] r7_33
@[simp] theorem n7_34 (s : List V) (H : Heap) : evCode P Γ call n f m (cAt [1, 1, 1, 1, 1, 1, 0, 1, 0, 0, 1, 1, 0, 0, 1, 1, 0, 0, 1] B7) s H = condW P Γ call n f m (cAt [1, 1, 1, 1, 1, 1, 0, 1, 0, 0, 1, 1, 0, 0, 1, 1, 0, 0, 1, 0] B7) (cAt [1, 1, 1, 1, 1, 1, 0, 1, 0, 0, 1, 1, 0, 0, 1, 1, 0, 0, 1, 1] B7) s H (evOperand Γ s (.tmp 47)) := at_cond (by kernel_rfl) (by kernel_rfl) rfl rfl s H
noncomputable def r7_35 : {l : List Oper // opsOf (cAt [1, 1, 1, 1, 1, 1, 0, 1, 0, 0, 1, 1, 0, 0, 1, 1, 0, 0, 1, 0] B7) = l} := by
  apply Subtype.mk
  dsimp only [opsOf, cAt, kids, B7, bodyOf, Tryd.f7, List.getD, List.getElem?_cons_zero, List.getElem?_cons_succ, Option.getD_some]
@[simp] theorem n7_35 (s : List V) (H : Heap) : evCode P Γ call n f m (cAt [1, 1, 1, 1, 1, 1, 0, 1, 0, 0, 1, 1, 0, 0, 1, 1, 0, 0, 1, 0] B7) s H = regNext (evOpsGo P Γ call r7_35.1 r7_35.1 s H) := at_region (by kernel_rfl) r7_35.2 s H
attribute [simp] r7_35
@[simp] theorem n7_36 (s : List V) (H : Heap) : evCode P Γ call n f m (cAt [1, 1, 1, 1, 1, 1, 0, 1, 0, 0, 1, 1, 0, 0, 1, 1, 0, 0, 1, 1] B7) s H = seqNext P Γ call n f m (cAt [1, 1, 1, 1, 1, 1, 0, 1, 0, 0, 1, 1, 0, 0, 1, 1, 0, 0, 1, 1, 1] B7) (evCode P Γ call n f m (cAt [1, 1, 1, 1, 1, 1, 0, 1, 0, 0, 1, 1, 0, 0, 1, 1, 0, 0, 1, 1, 0] B7) s H) := at_seq (by kernel_rfl) rfl rfl s H
noncomputable def r7_37 : {l : List Oper // opsOf (cAt [1, 1, 1, 1, 1, 1, 0, 1, 0, 0, 1, 1, 0, 0, 1, 1, 0, 0, 1, 1, 0] B7) = l} := by
  apply Subtype.mk
  dsimp only [opsOf, cAt, kids, B7, bodyOf, Tryd.f7, List.getD, List.getElem?_cons_zero, List.getElem?_cons_succ, Option.getD_some]
@[simp] theorem n7_37 (s : List V) (H : Heap) : evCode P Γ call n f m (cAt [1, 1, 1, 1, 1, 1, 0, 1, 0, 0, 1, 1, 0, 0, 1, 1, 0, 0, 1, 1, 0] B7) s H = regNext (evOpsGo P Γ call r7_37.1 r7_37.1 s H) := at_region (by kernel_rfl) r7_37.2 s H
attribute [simp] r7_37
@[simp] theorem n7_38 (s : List V) (H : Heap) : evCode P Γ call n f m (cAt [1, 1, 1, 1, 1, 1, 0, 1, 0, 0, 1, 1, 0, 0, 1, 1, 0, 0, 1, 1, 1] B7) s H = condW P Γ call n f m (cAt [1, 1, 1, 1, 1, 1, 0, 1, 0, 0, 1, 1, 0, 0, 1, 1, 0, 0, 1, 1, 1, 0] B7) (cAt [1, 1, 1, 1, 1, 1, 0, 1, 0, 0, 1, 1, 0, 0, 1, 1, 0, 0, 1, 1, 1, 1] B7) s H (evOperand Γ s (.tmp 56)) := at_cond (by kernel_rfl) (by kernel_rfl) rfl rfl s H
noncomputable def r7_39 : {l : List Oper // opsOf (cAt [1, 1, 1, 1, 1, 1, 0, 1, 0, 0, 1, 1, 0, 0, 1, 1, 0, 0, 1, 1, 1, 0] B7) = l} := by
  apply Subtype.mk
  dsimp only [opsOf, cAt, kids, B7, bodyOf, Tryd.f7, List.getD, List.getElem?_cons_zero, List.getElem?_cons_succ, Option.getD_some]
@[simp] theorem n7_39 (s : List V) (H : Heap) : evCode P Γ call n f m (cAt [1, 1, 1, 1, 1, 1, 0, 1, 0, 0, 1, 1, 0, 0, 1, 1, 0, 0, 1, 1, 1, 0] B7) s H = regNext (evOpsGo P Γ call r7_39.1 r7_39.1 s H) := at_region (by kernel_rfl) r7_39.2 s H
attribute [simp] r7_39
@[simp] theorem n7_40 (s : List V) (H : Heap) : evCode P Γ call n f m (cAt [1, 1, 1, 1, 1, 1, 0, 1, 0, 0, 1, 1, 0, 0, 1, 1, 0, 0, 1, 1, 1, 1] B7) s H = seqNext P Γ call n f m (cAt [1, 1, 1, 1, 1, 1, 0, 1, 0, 0, 1, 1, 0, 0, 1, 1, 0, 0, 1, 1, 1, 1, 1] B7) (evCode P Γ call n f m (cAt [1, 1, 1, 1, 1, 1, 0, 1, 0, 0, 1, 1, 0, 0, 1, 1, 0, 0, 1, 1, 1, 1, 0] B7) s H) := at_seq (by kernel_rfl) rfl rfl s H
noncomputable def r7_41 : {l : List Oper // opsOf (cAt [1, 1, 1, 1, 1, 1, 0, 1, 0, 0, 1, 1, 0, 0, 1, 1, 0, 0, 1, 1, 1, 1, 0] B7) = l} := by
  apply Subtype.mk
  dsimp only [opsOf, cAt, kids, B7, bodyOf, Tryd.f7, List.getD, List.getElem?_cons_zero, List.getElem?_cons_succ, Option.getD_some]
@[simp] theorem n7_41 (s : List V) (H : Heap) : evCode P Γ call n f m (cAt [1, 1, 1, 1, 1, 1, 0, 1, 0, 0, 1, 1, 0, 0, 1, 1, 0, 0, 1, 1, 1, 1, 0] B7) s H = regNext (evOpsGo P Γ call r7_41.1 r7_41.1 s H) := at_region (by kernel_rfl) r7_41.2 s H
attribute [simp] r7_41
@[simp] theorem n7_42 (s : List V) (H : Heap) : evCode P Γ call n f m (cAt [1, 1, 1, 1, 1, 1, 0, 1, 0, 0, 1, 1, 0, 0, 1, 1, 0, 0, 1, 1, 1, 1, 1] B7) s H = condW P Γ call n f m (cAt [1, 1, 1, 1, 1, 1, 0, 1, 0, 0, 1, 1, 0, 0, 1, 1, 0, 0, 1, 1, 1, 1, 1, 0] B7) (cAt [1, 1, 1, 1, 1, 1, 0, 1, 0, 0, 1, 1, 0, 0, 1, 1, 0, 0, 1, 1, 1, 1, 1, 1] B7) s H (evOperand Γ s (.tmp 62)) := at_cond (by kernel_rfl) (by kernel_rfl) rfl rfl s H
@[simp] theorem n7_43 (s : List V) (H : Heap) : evCode P Γ call n f m (cAt [1, 1, 1, 1, 1, 1, 0, 1, 0, 0, 1, 1, 0, 0, 1, 1, 0, 0, 1, 1, 1, 1, 1, 0] B7) s H = some (.exit 1, s, H) := at_exit (by kernel_rfl) s H
@[simp] theorem n7_44 (s : List V) (H : Heap) : evCode P Γ call n f m (cAt [1, 1, 1, 1, 1, 1, 0, 1, 0, 0, 1, 1, 0, 0, 1, 1, 0, 0, 1, 1, 1, 1, 1, 1] B7) s H = some (.normal, s, H) := at_skip (by kernel_rfl) s H
@[simp] theorem n7_45 (s : List V) (H : Heap) : evCode P Γ call n f m (cAt [1, 1, 1, 1, 1, 1, 0, 1, 0, 0, 1, 1, 0, 0, 1, 1, 1] B7) s H = seqNext P Γ call n f m (cAt [1, 1, 1, 1, 1, 1, 0, 1, 0, 0, 1, 1, 0, 0, 1, 1, 1, 1] B7) (evCode P Γ call n f m (cAt [1, 1, 1, 1, 1, 1, 0, 1, 0, 0, 1, 1, 0, 0, 1, 1, 1, 0] B7) s H) := at_seq (by kernel_rfl) rfl rfl s H
noncomputable def r7_46 : {l : List Oper // opsOf (cAt [1, 1, 1, 1, 1, 1, 0, 1, 0, 0, 1, 1, 0, 0, 1, 1, 1, 0] B7) = l} := by
  apply Subtype.mk
  dsimp only [opsOf, cAt, kids, B7, bodyOf, Tryd.f7, List.getD, List.getElem?_cons_zero, List.getElem?_cons_succ, Option.getD_some]
@[simp] theorem n7_46 (s : List V) (H : Heap) : evCode P Γ call n f m (cAt [1, 1, 1, 1, 1, 1, 0, 1, 0, 0, 1, 1, 0, 0, 1, 1, 1, 0] B7) s H = regNext (evOpsGo P Γ call r7_46.1 r7_46.1 s H) := at_region (by kernel_rfl) r7_46.2 s H
attribute [simp] r7_46
@[simp] theorem n7_47 (s : List V) (H : Heap) : evCode P Γ call n f m (cAt [1, 1, 1, 1, 1, 1, 0, 1, 0, 0, 1, 1, 0, 0, 1, 1, 1, 1] B7) s H = seqNext P Γ call n f m (cAt [1, 1, 1, 1, 1, 1, 0, 1, 0, 0, 1, 1, 0, 0, 1, 1, 1, 1, 1] B7) (evCode P Γ call n f m (cAt [1, 1, 1, 1, 1, 1, 0, 1, 0, 0, 1, 1, 0, 0, 1, 1, 1, 1, 0] B7) s H) := at_seq (by kernel_rfl) rfl rfl s H
@[simp] theorem n7_48 (s : List V) (H : Heap) : evCode P Γ call n f m (cAt [1, 1, 1, 1, 1, 1, 0, 1, 0, 0, 1, 1, 0, 0, 1, 1, 1, 1, 0] B7) s H = seqNext P Γ call n f m (cAt [1, 1, 1, 1, 1, 1, 0, 1, 0, 0, 1, 1, 0, 0, 1, 1, 1, 1, 0, 1] B7) (evCode P Γ call n f m (cAt [1, 1, 1, 1, 1, 1, 0, 1, 0, 0, 1, 1, 0, 0, 1, 1, 1, 1, 0, 0] B7) s H) := at_seq (by kernel_rfl) rfl rfl s H
noncomputable def r7_49 : {l : List Oper // opsOf (cAt [1, 1, 1, 1, 1, 1, 0, 1, 0, 0, 1, 1, 0, 0, 1, 1, 1, 1, 0, 0] B7) = l} := by
  apply Subtype.mk
  dsimp only [opsOf, cAt, kids, B7, bodyOf, Tryd.f7, List.getD, List.getElem?_cons_zero, List.getElem?_cons_succ, Option.getD_some]
@[simp] theorem n7_49 (s : List V) (H : Heap) : evCode P Γ call n f m (cAt [1, 1, 1, 1, 1, 1, 0, 1, 0, 0, 1, 1, 0, 0, 1, 1, 1, 1, 0, 0] B7) s H = regNext (evOpsGo P Γ call r7_49.1 r7_49.1 s H) := at_region (by kernel_rfl) r7_49.2 s H
attribute [simp] r7_49
@[simp] theorem n7_50 (s : List V) (H : Heap) : evCode P Γ call n f m (cAt [1, 1, 1, 1, 1, 1, 0, 1, 0, 0, 1, 1, 0, 0, 1, 1, 1, 1, 0, 1] B7) s H = condW P Γ call n f m (cAt [1, 1, 1, 1, 1, 1, 0, 1, 0, 0, 1, 1, 0, 0, 1, 1, 1, 1, 0, 1, 0] B7) (cAt [1, 1, 1, 1, 1, 1, 0, 1, 0, 0, 1, 1, 0, 0, 1, 1, 1, 1, 0, 1, 1] B7) s H (evOperand Γ s (.tmp 74)) := at_cond (by kernel_rfl) (by kernel_rfl) rfl rfl s H
@[simp] theorem n7_51 (s : List V) (H : Heap) : evCode P Γ call n f m (cAt [1, 1, 1, 1, 1, 1, 0, 1, 0, 0, 1, 1, 0, 0, 1, 1, 1, 1, 0, 1, 0] B7) s H = seqNext P Γ call n f m (cAt [1, 1, 1, 1, 1, 1, 0, 1, 0, 0, 1, 1, 0, 0, 1, 1, 1, 1, 0, 1, 0, 1] B7) (evCode P Γ call n f m (cAt [1, 1, 1, 1, 1, 1, 0, 1, 0, 0, 1, 1, 0, 0, 1, 1, 1, 1, 0, 1, 0, 0] B7) s H) := at_seq (by kernel_rfl) rfl rfl s H
noncomputable def r7_52 : {l : List Oper // opsOf (cAt [1, 1, 1, 1, 1, 1, 0, 1, 0, 0, 1, 1, 0, 0, 1, 1, 1, 1, 0, 1, 0, 0] B7) = l} := by
  apply Subtype.mk
  dsimp only [opsOf, cAt, kids, B7, bodyOf, Tryd.f7, List.getD, List.getElem?_cons_zero, List.getElem?_cons_succ, Option.getD_some]
@[simp] theorem n7_52 (s : List V) (H : Heap) : evCode P Γ call n f m (cAt [1, 1, 1, 1, 1, 1, 0, 1, 0, 0, 1, 1, 0, 0, 1, 1, 1, 1, 0, 1, 0, 0] B7) s H = regNext (evOpsGo P Γ call r7_52.1 r7_52.1 s H) := at_region (by kernel_rfl) r7_52.2 s H
attribute [simp] r7_52
@[simp] theorem n7_53 (s : List V) (H : Heap) : evCode P Γ call n f m (cAt [1, 1, 1, 1, 1, 1, 0, 1, 0, 0, 1, 1, 0, 0, 1, 1, 1, 1, 0, 1, 0, 1] B7) s H = some (.ret, s, H) := at_ret (by kernel_rfl) s H
@[simp] theorem n7_54 (s : List V) (H : Heap) : evCode P Γ call n f m (cAt [1, 1, 1, 1, 1, 1, 0, 1, 0, 0, 1, 1, 0, 0, 1, 1, 1, 1, 0, 1, 1] B7) s H = some (.normal, s, H) := at_skip (by kernel_rfl) s H
@[simp] theorem n7_55 (s : List V) (H : Heap) : evCode P Γ call n f m (cAt [1, 1, 1, 1, 1, 1, 0, 1, 0, 0, 1, 1, 0, 0, 1, 1, 1, 1, 1] B7) s H = seqNext P Γ call n f m (cAt [1, 1, 1, 1, 1, 1, 0, 1, 0, 0, 1, 1, 0, 0, 1, 1, 1, 1, 1, 1] B7) (evCode P Γ call n f m (cAt [1, 1, 1, 1, 1, 1, 0, 1, 0, 0, 1, 1, 0, 0, 1, 1, 1, 1, 1, 0] B7) s H) := at_seq (by kernel_rfl) rfl rfl s H
noncomputable def r7_56 : {l : List Oper // opsOf (cAt [1, 1, 1, 1, 1, 1, 0, 1, 0, 0, 1, 1, 0, 0, 1, 1, 1, 1, 1, 0] B7) = l} := by
  apply Subtype.mk
  dsimp only [opsOf, cAt, kids, B7, bodyOf, Tryd.f7, List.getD, List.getElem?_cons_zero, List.getElem?_cons_succ, Option.getD_some]
@[simp] theorem n7_56 (s : List V) (H : Heap) : evCode P Γ call n f m (cAt [1, 1, 1, 1, 1, 1, 0, 1, 0, 0, 1, 1, 0, 0, 1, 1, 1, 1, 1, 0] B7) s H = regNext (drawR P Γ call r7_56.1 [([1, 2, 3], [77, 78, 79]), ([0, 4], [76, 7]), ([0, 4], [76, 7]), ([0, 4], [76, 7]), ([1, 2, 3], [77, 78, 79]), ([], [])] s H) := at_drawT (by kernel_rfl) r7_56.2 (by kernel_rfl) s H
attribute [simp] r7_56
@[simp] theorem n7_57 (s : List V) (H : Heap) : evCode P Γ call n f m (cAt [1, 1, 1, 1, 1, 1, 0, 1, 0, 0, 1, 1, 0, 0, 1, 1, 1, 1, 1, 1] B7) s H = seqNext P Γ call n f m (cAt [1, 1, 1, 1, 1, 1, 0, 1, 0, 0, 1, 1, 0, 0, 1, 1, 1, 1, 1, 1, 1] B7) (evCode P Γ call n f m (cAt [1, 1, 1, 1, 1, 1, 0, 1, 0, 0, 1, 1, 0, 0, 1, 1, 1, 1, 1, 1, 0] B7) s H) := at_seq (by kernel_rfl) rfl rfl s H
noncomputable def r7_58 : {l : List Oper // opsOf (cAt [1, 1, 1, 1, 1, 1, 0, 1, 0, 0, 1, 1, 0, 0, 1, 1, 1, 1, 1, 1, 0] B7) = l} := by
  apply Subtype.mk
  dsimp only [opsOf, cAt, kids, B7, bodyOf, Tryd.f7, List.getD, List.getElem?_cons_zero, List.getElem?_cons_succ, Option.getD_some]
@[simp] theorem n7_58 (s : List V) (H : Heap) : evCode P Γ call n f m (cAt [1, 1, 1, 1, 1, 1, 0, 1, 0, 0, 1, 1, 0, 0, 1, 1, 1, 1, 1, 1, 0] B7) s H = regNext (evOpsGo P Γ call r7_58.1 r7_58.1 s H) := at_region (by kernel_rfl) r7_58.2 s H
attribute [simp] r7_58
@[simp] theorem n7_59 (s : List V) (H : Heap) : evCode P Γ call n f m (cAt [1, 1, 1, 1, 1, 1, 0, 1, 0, 0, 1, 1, 0, 0, 1, 1, 1, 1, 1, 1, 1] B7) s H = condW P Γ call n f m (cAt [1, 1, 1, 1, 1, 1, 0, 1, 0, 0, 1, 1, 0, 0, 1, 1, 1, 1, 1, 1, 1, 0] B7) (cAt [1, 1, 1, 1, 1, 1, 0, 1, 0, 0, 1, 1, 0, 0, 1, 1, 1, 1, 1, 1, 1, 1] B7) s H (evOperand Γ s (.tmp 82)) := at_cond (by kernel_rfl) (by kernel_rfl) rfl rfl s H
noncomputable def r7_60 : {l : List Oper // opsOf (cAt [1, 1, 1, 1, 1, 1, 0, 1, 0, 0, 1, 1, 0, 0, 1, 1, 1, 1, 1, 1, 1, 0] B7) = l} := by
  apply Subtype.mk
  dsimp only [opsOf, cAt, kids, B7, bodyOf, Tryd.f7, List.getD, List.getElem?_cons_zero, List.getElem?_cons_succ, Option.getD_some]
@[simp] theorem n7_60 (s : List V) (H : Heap) : evCode P Γ call n f m (cAt [1, 1, 1, 1, 1, 1, 0, 1, 0, 0, 1, 1, 0, 0, 1, 1, 1, 1, 1, 1, 1, 0] B7) s H = regNext (evOpsGo P Γ call r7_60.1 r7_60.1 s H) := at_region (by kernel_rfl) r7_60.2 s H
attribute [simp] r7_60
@[simp] theorem n7_61 (s : List V) (H : Heap) : evCode P Γ call n f m (cAt [1, 1, 1, 1, 1, 1, 0, 1, 0, 0, 1, 1, 0, 0, 1, 1, 1, 1, 1, 1, 1, 1] B7) s H = some (.normal, s, H) := at_skip (by kernel_rfl) s H
noncomputable def r7_62 : {l : List Oper // opsOf (cAt [1, 1, 1, 1, 1, 1, 0, 1, 0, 0, 1, 1, 1] B7) = l} := by
  apply Subtype.mk
  dsimp only [opsOf, cAt, kids, B7, bodyOf, Tryd.f7, List.getD, List.getElem?_cons_zero, List.getElem?_cons_succ, Option.getD_some]
@[simp] theorem n7_62 (s : List V) (H : Heap) : evCode P Γ call n f m (cAt [1, 1, 1, 1, 1, 1, 0, 1, 0, 0, 1, 1, 1] B7) s H = regNext (evOpsGo P Γ call r7_62.1 r7_62.1 s H) := at_region (by kernel_rfl) r7_62.2 s H
attribute [simp] r7_62
@[simp] theorem n7_63 (s : List V) (H : Heap) : evCode P Γ call n f m (cAt [1, 1, 1, 1, 1, 1, 1] B7) s H = seqNext P Γ call n f m (cAt [1, 1, 1, 1, 1, 1, 1, 1] B7) (evCode P Γ call n f m (cAt [1, 1, 1, 1, 1, 1, 1, 0] B7) s H) := at_seq (by kernel_rfl) rfl rfl s H
noncomputable def r7_64 : {l : List Oper // opsOf (cAt [1, 1, 1, 1, 1, 1, 1, 0] B7) = l} := by
  apply Subtype.mk
  dsimp only [opsOf, cAt, kids, B7, bodyOf, Tryd.f7, List.getD, List.getElem?_cons_zero, List.getElem?_cons_succ, Option.getD_some]
@[simp] theorem n7_64 (s : List V) (H : Heap) : evCode P Γ call n f m (cAt [1, 1, 1, 1, 1, 1, 1, 0] B7) s H = regNext (evOpsGo P Γ call r7_64.1 r7_64.1 s H) := at_region (by kernel_rfl) r7_64.2 s H
attribute [simp] r7_64
@[simp] theorem n7_65 (s : List V) (H : Heap) : evCode P Γ call n f m (cAt [1, 1, 1, 1, 1, 1, 1, 1] B7) s H = some (.ret, s, H) := at_ret (by kernel_rfl) s H
theorem b7 {k : Nat} (ho : ∀ args H, Γ.orc 7 args H = none) (args : List V) (H : Heap) (ha : args.length ≤ 87) : evF Tryd.prog Γ (k + 1) 7 args H = bodyEnd Tryd.prog [.tmp 2] H.length (evCode Tryd.prog Γ (evF Tryd.prog Γ k) k 7 H.length (cAt [] B7) (mkL 87 V.undef (enumV 0 args)) H) := body_at Tryd.func7 (by decide) rfl ho rfl rfl args H ha
noncomputable def B8 : Code := bodyOf Tryd.f8
@[simp] theorem n8_1 (s : List V) (H : Heap) : evCode P Γ call n f m (cAt [] B8) s H = seqNext P Γ call n f m (cAt [1] B8) (evCode P Γ call n f m (cAt [0] B8) s H) := at_seq (by kernel_rfl) rfl rfl s H
noncomputable def r8_2 : {l : List Oper // opsOf (cAt [0] B8) = l} := by
  apply Subtype.mk
  dsimp only [opsOf, cAt, kids, B8, bodyOf, Tryd.f8, List.getD, List.getElem?_cons_zero, List.getElem?_cons_succ, Option.getD_some]
@[simp] theorem n8_2 (s : List V) (H : Heap) : evCode P Γ call n f m (cAt [0] B8) s H = regNext (evOpsGo P Γ call r8_2.1 r8_2.1 s H) := at_region (by kernel_rfl) r8_2.2 s H
attribute [simp] r8_2
@[simp] theorem n8_3 (s : List V) (H : Heap) : evCode P Γ call n f m (cAt [1] B8) s H = seqNext P Γ call n f m (cAt [1, 1] B8) (evCode P Γ call n f m (cAt [1, 0] B8) s H) := at_seq (by kernel_rfl) rfl rfl s H
@[simp] theorem n8_4 (s : List V) (H : Heap) : evCode P Γ call n f m (cAt [1, 0] B8) s H = seqNext P Γ call n f m (cAt [1, 0, 1] B8) (evCode P Γ call n f m (cAt [1, 0, 0] B8) s H) := at_seq (by kernel_rfl) rfl rfl s H
noncomputable def r8_5 : {l : List Oper // opsOf (cAt [1, 0, 0] B8) = l} := by
  apply Subtype.mk
  dsimp only [opsOf, cAt, kids, B8, bodyOf, Tryd.f8, List.getD, List.getElem?_cons_zero, List.getElem?_cons_succ, Option.getD_some]
@[simp] theorem n8_5 (s : List V) (H : Heap) : evCode P Γ call n f m (cAt [1, 0, 0] B8) s H = regNext (evOpsGo P Γ call r8_5.1 r8_5.1 s H) := at_region (by kernel_rfl) r8_5.2 s H
attribute [simp] r8_5
@[simp] theorem n8_6 (s : List V) (H : Heap) : evCode P Γ call n f m (cAt [1, 0, 1] B8) s H = condW P Γ call n f m (cAt [1, 0, 1, 0] B8) (cAt [1, 0, 1, 1] B8) s H (evOperand Γ s (.tmp 13)) := at_cond (by kernel_rfl) (by kernel_rfl) rfl rfl s H
@[simp] theorem n8_7 (s : List V) (H : Heap) : evCode P Γ call n f m (cAt [1, 0, 1, 0] B8) s H = seqNext P Γ call n f m (cAt [1, 0, 1, 0, 1] B8) (evCode P Γ call n f m (cAt [1, 0, 1, 0, 0] B8) s H) := at_seq (by kernel_rfl) rfl rfl s H
noncomputable def r8_8 : {l : List Oper // opsOf (cAt [1, 0, 1, 0, 0] B8) = l} := by
  apply Subtype.mk
  dsimp only [opsOf, cAt, kids, B8, bodyOf, Tryd.f8, List.getD, List.getElem?_cons_zero, List.getElem?_cons_succ, Option.getD_some]
@[simp] theorem n8_8 (s : List V) (H : Heap) : evCode P Γ call n f m (cAt [1, 0, 1, 0, 0] B8) s H = regNext (evOpsGo P Γ call r8_8.1 r8_8.1 s H) := at_region (by kernel_rfl) r8_8.2 s H
attribute [simp] r8_8
@[simp] theorem n8_9 (s : List V) (H : Heap) : evCode P Γ call n f m (cAt [1, 0, 1, 0, 1] B8) s H = some (.ret, s, H) := at_ret (by kernel_rfl) s H
@[simp] theorem n8_10 (s : List V) (H : Heap) : evCode P Γ call n f m (cAt [1, 0, 1, 1] B8) s H = some (.normal, s, H) := at_skip (by kernel_rfl) s H
@[simp] theorem n8_11 (s : List V) (H : Heap) : evCode P Γ call n f m (cAt [1, 1] B8) s H = seqNext P Γ call n f m (cAt [1, 1, 1] B8) (evCode P Γ call n f m (cAt [1, 1, 0] B8) s H) := at_seq (by kernel_rfl) rfl rfl s H
noncomputable def r8_12 : {l : List Oper // opsOf (cAt [1, 1, 0] B8) = l} := by
  apply Subtype.mk
  dsimp only [opsOf, cAt, kids, B8, bodyOf, Tryd.f8, List.getD, List.getElem?_cons_zero, List.getElem?_cons_succ, Option.getD_some]
@[simp] theorem n8_12 (s : List V) (H : Heap) : evCode P Γ call n f m (cAt [1, 1, 0] B8) s H = regNext (evOpsGo P Γ call r8_12.1 r8_12.1 s H) := at_region (by kernel_rfl) r8_12.2 s H
attribute [simp] r8_12
@[simp] theorem n8_13 (s : List V) (H : Heap) : evCode P Γ call n f m (cAt [1, 1, 1] B8) s H = seqNext P Γ call n f m (cAt [1, 1, 1, 1] B8) (evCode P Γ call n f m (cAt [1, 1, 1, 0] B8) s H) := at_seq (by kernel_rfl) rfl rfl s H
noncomputable def r8_14 : {l : List Oper // opsOf (cAt [1, 1, 1, 0] B8) = l} := by
  apply Subtype.mk
  dsimp only [opsOf, cAt, kids, B8, bodyOf, Tryd.f8, List.getD, List.getElem?_cons_zero, List.getElem?_cons_succ, Option.getD_some]
@[simp] theorem n8_14 (s : List V) (H : Heap) : evCode P Γ call n f m (cAt [1, 1, 1, 0] B8) s H = regNext (evOpsGo P Γ call r8_14.1 r8_14.1 s H) := at_region (by kernel_rfl) r8_14.2 s H
attribute [simp] r8_14
@[simp] theorem n8_15 (s : List V) (H : Heap) : evCode P Γ call n f m (cAt [1, 1, 1, 1] B8) s H = seqNext P Γ call n f m (cAt [1, 1, 1, 1, 1] B8) (evCode P Γ call n f m (cAt [1, 1, 1, 1, 0] B8) s H) := at_seq (by kernel_rfl) rfl rfl s H
@[simp] theorem n8_16 (s : List V) (H : Heap) : evCode P Γ call n f m (cAt [1, 1, 1, 1, 0] B8) s H = seqNext P Γ call n f m (cAt [1, 1, 1, 1, 0, 1] B8) (evCode P Γ call n f m (cAt [1, 1, 1, 1, 0, 0] B8) s H) := at_seq (by kernel_rfl) rfl rfl s H
noncomputable def r8_17 : {l : List Oper // opsOf (cAt [1, 1, 1, 1, 0, 0] B8) = l} := by
  apply Subtype.mk
  dsimp only [opsOf, cAt, kids, B8, bodyOf, Tryd.f8, List.getD, List.getElem?_cons_zero, List.getElem?_cons_succ, Option.getD_some]
@[simp] theorem n8_17 (s : List V) (H : Heap) : evCode P Γ call n f m (cAt [1, 1, 1, 1, 0, 0] B8) s H = regNext (evOpsGo P Γ call r8_17.1 r8_17.1 s H) := at_region (by kernel_rfl) r8_17.2 s H
attribute [simp] r8_17
@[simp] theorem n8_18 (s : List V) (H : Heap) : evCode P Γ call n f m (cAt [1, 1, 1, 1, 0, 1] B8) s H = blockNext 0 (evCode P Γ call n f m (cAt [1, 1, 1, 1, 0, 1, 0] B8) s H) := at_block (by kernel_rfl) rfl s H
@[simp] theorem n8_19 (s : List V) (H : Heap) : evCode P Γ call n f m (cAt [1, 1, 1, 1, 0, 1, 0] B8) s H = evLoopC P Γ call n f m (cAt [1, 1, 1, 1, 0, 1, 0, 0] B8) n s H := at_loop (by kernel_rfl) rfl s H
noncomputable abbrev L8_6 : Code := cAt [1, 1, 1, 1, 0, 1, 0, 0] B8
@[simp] theorem n8_19f : firstRegion (cAt [1, 1, 1, 1, 0, 1, 0, 0] B8) = 6 := by kernel_rfl
@[simp] theorem n8_20 (s : List V) (H : Heap) : evCode P Γ call n f m (cAt [1, 1, 1, 1, 0, 1, 0, 0] B8) s H = seqNext P Γ call n f m (cAt [1, 1, 1, 1, 0, 1, 0, 0, 1] B8) (evCode P Γ call n f m (cAt [1, 1, 1, 1, 0, 1, 0, 0, 0] B8) s H) := at_seq (by kernel_rfl) rfl rfl s H
noncomputable def r8_21 : {l : List Oper // opsOf (cAt [1, 1, 1, 1, 0, 1, 0, 0, 0] B8) = l} := by
  apply Subtype.mk
  dsimp only [opsOf, cAt, kids, B8, bodyOf, Tryd.f8, List.getD, List.getElem?_cons_zero, List.getElem?_cons_succ, Option.getD_some]
@[simp] theorem n8_21 (s : List V) (H : Heap) : evCode P Γ call n f m (cAt [1, 1, 1, 1, 0, 1, 0, 0, 0] B8) s H = regNext (evOpsGo P Γ call r8_21.1 r8_21.1 s H) := at_region (by kernel_rfl) r8_21.2 s H
attribute [simp] r8_21
@[simp] theorem n8_22 (s : List V) (H : Heap) : evCode P Γ call n f m (cAt [1, 1, 1, 1, 0, 1, 0, 0, 1] B8) s H = seqNext P Γ call n f m (cAt [1, 1, 1, 1, 0, 1, 0, 0, 1, 1] B8) (evCode P Γ call n f m (cAt [1, 1, 1, 1, 0, 1, 0, 0, 1, 0] B8) s H) := at_seq (by kernel_rfl) rfl rfl s H
@[simp] theorem n8_23 (s : List V) (H : Heap) : evCode P Γ call n f m (cAt [1, 1, 1, 1, 0, 1, 0, 0, 1, 0] B8) s H = condW P Γ call n f m (cAt [1, 1, 1, 1, 0, 1, 0, 0, 1, 0, 0] B8) (cAt [1, 1, 1, 1, 0, 1, 0, 0, 1, 0, 1] B8) s H (evOperand Γ s (.tmp 18)) := at_cond (by kernel_rfl) (by kernel_rfl) rfl rfl s H
@[simp] theorem n8_24 (s : List V) (H : Heap) : evCode P Γ call n f m (cAt [1, 1, 1, 1, 0, 1, 0, 0, 1, 0, 0] B8) s H = some (.normal, s, H) := at_skip (by kernel_rfl) s H
@[simp] theorem n8_25 (s : List V) (H : Heap) : evCode P Γ call n f m (cAt [1, 1, 1, 1, 0, 1, 0, 0, 1, 0, 1] B8) s H = some (.exit 0, s, H) := at_exit (by kernel_rfl) s H
@[simp] theorem n8_26 (s : List V) (H : Heap) : evCode P Γ call n f m (cAt [1, 1, 1, 1, 0, 1, 0, 0, 1, 1] B8) s H = seqNext P Γ call n f m (cAt [1, 1, 1, 1, 0, 1, 0, 0, 1, 1, 1] B8) (evCode P Γ call n f m (cAt [1, 1, 1, 1, 0, 1, 0, 0, 1, 1, 0] B8) s H) := at_seq (by kernel_rfl) rfl rfl s H
@[simp] theorem n8_27 (s : List V) (H : Heap) : evCode P Γ call n f m (cAt [1, 1, 1, 1, 0, 1, 0, 0, 1, 1, 0] B8) s H = blockNext 1 (evCode P Γ call n f m (cAt [1, 1, 1, 1, 0, 1, 0, 0, 1, 1, 0, 0] B8) s H) := at_block (by kernel_rfl) rfl s H
@[simp] theorem n8_28 (s : List V) (H : Heap) : evCode P Γ call n f m (cAt [1, 1, 1, 1, 0, 1, 0, 0, 1, 1, 0, 0] B8) s H = seqNext P Γ call n f m (cAt [1, 1, 1, 1, 0, 1, 0, 0, 1, 1, 0, 0, 1] B8) (evCode P Γ call n f m (cAt [1, 1, 1, 1, 0, 1, 0, 0, 1, 1, 0, 0, 0] B8) s H) := at_seq (by kernel_rfl) rfl rfl s H
noncomputable def r8_29 : {l : List Oper // opsOf (cAt [1, 1, 1, 1, 0, 1, 0, 0, 1, 1, 0, 0, 0] B8) = l} := by
  apply Subtype.mk
  dsimp only [opsOf, cAt, kids, B8, bodyOf, Tryd.f8, List.getD, List.getElem?_cons_zero, List.getElem?_cons_succ, Option.getD_some]
@[simp] theorem n8_29 (s : List V) (H : Heap) : evCode P Γ call n f m (cAt [1, 1, 1, 1, 0, 1, 0, 0, 1, 1, 0, 0, 0] B8) s H = regNext (evOpsGo P Γ call r8_29.1 r8_29.1 s H) := at_region (by kernel_rfl) r8_29.2 s H
attribute [simp] r8_29
@[simp] theorem n8_30 (s : List V) (H : Heap) : evCode P Γ call n f m (cAt [1, 1, 1, 1, 0, 1, 0, 0, 1, 1, 0, 0, 1] B8) s H = seqNext P Γ call n f m (cAt [1, 1, 1, 1, 0, 1, 0, 0, 1, 1, 0, 0, 1, 1] B8) (evCode P Γ call n f m (cAt [1, 1, 1, 1, 0, 1, 0, 0, 1, 1, 0, 0, 1, 0] B8) s H) := at_seq (by kernel_rfl) rfl rfl s H
noncomputable def r8_31 : {l : List Oper // opsOf (cAt [1, 1, 1, 1, 0, 1, 0, 0, 1, 1, 0, 0, 1, 0] B8) = l} := by
  apply Subtype.mk
  dsimp only [opsOf, cAt, kids, B8, bodyOf, Tryd.f8, List.getD, List.getElem?_cons_zero, List.getElem?_cons_succ, Option.getD_some]
@[simp] theorem n8_31 (s : List V) (H : Heap) : evCode P Γ call n f m (cAt [1, 1, 1, 1, 0, 1, 0, 0, 1, 1, 0, 0, 1, 0] B8) s H = regNext (evOpsGo P Γ call r8_31.1 r8_31.1 s H) := at_region (by kernel_rfl) r8_31.2 s H
attribute [simp] r8_31
@[simp] theorem n8_32 (s : List V) (H : Heap) : evCode P Γ call n f m (cAt [1, 1, 1, 1, 0, 1, 0, 0, 1, 1, 0, 0, 1, 1] B8) s H = seqNext P Γ call n f m (cAt [1, 1, 1, 1, 0, 1, 0, 0, 1, 1, 0, 0, 1, 1, 1] B8) (evCode P Γ call n f m (cAt [1, 1, 1, 1, 0, 1, 0, 0, 1, 1, 0, 0, 1, 1, 0] B8) s H) := at_seq (by kernel_rfl) rfl rfl s H
@[simp] theorem n8_33 (s : List V) (H : Heap) : evCode P Γ call n f m (cAt [1, 1, 1, 1, 0, 1, 0, 0, 1, 1, 0, 0, 1, 1, 0] B8) s H = seqNext P Γ call n f m (cAt [1, 1, 1, 1, 0, 1, 0, 0, 1, 1, 0, 0, 1, 1, 0, 1] B8) (evCode P Γ call n f m (cAt [1, 1, 1, 1, 0, 1, 0, 0, 1, 1, 0, 0, 1, 1, 0, 0] B8) s H) := at_seq (by kernel_rfl) rfl rfl s H
noncomputable def r8_34 : {l : List Oper // opsOf (cAt [1, 1, 1, 1, 0, 1, 0, 0, 1, 1, 0, 0, 1, 1, 0, 0] B8) = l} := by
  apply Subtype.mk
  dsimp only [opsOf, cAt, kids, B8, bodyOf, Tryd.f8, List.getD, List.getElem?_cons_zero, List.getElem?_cons_succ, Option.getD_some]
@[simp] theorem n8_34 (s : List V) (H : Heap) : evCode P Γ call n f m (cAt [1, 1, 1, 1, 0, 1, 0, 0, 1, 1, 0, 0, 1, 1, 0, 0] B8) s H = regNext (drawR P Γ call r8_34.1 [([], []), ([], []), ([], []), ([5, 6, 7], [35, 36, 37]), ([5, 6, 7], [35, 36, 37]), ([3, 4, 6], [33, 34, 36]), ([3, 4, 5], [33, 34, 35]), ([3, 4], [33, 34]), ([], []), ([], [])] s H) := at_drawT (by kernel_rfl) r8_34.2 (by kernel_rfl) s H
attribute [simp] r8_34
@[simp] theorem n8_35 (s : List V) (H : Heap) : evCode P Γ call n f m (cAt [1, 1, 1, 1, 0, 1, 0, 0, 1, 1, 0, 0, 1, 1, 0, 1] B8) s H = condW P Γ call n f m (cAt [1, 1, 1, 1, 0, 1, 0, 0, 1, 1, 0, 0, 1, 1, 0, 1, 0] B8) (cAt [1, 1, 1, 1, 0, 1, 0, 0, 1, 1, 0, 0, 1, 1, 0, 1, 1] B8) s H (evOperand Γ s (.tmp 39)) := at_cond (by kernel_rfl) (by kernel_rfl) rfl rfl s H
noncomputable def r8_36 : {l : List Oper // opsOf (cAt [1, 1, 1, 1, 0, 1, 0, 0, 1, 1, 0, 0, 1, 1, 0, 1, 0] B8) = l} := by
  apply Subtype.mk
  dsimp only [opsOf, cAt, kids, B8, bodyOf, Tryd.f8, List.getD, List.getElem?_cons_zero, List.getElem?_cons_succ, Option.getD_some]
@[simp] theorem n8_36 (s : List V) (H : Heap) : evCode P Γ call n f m (cAt [1, 1, 1, 1, 0, 1, 0, 0, 1, 1, 0, 0, 1, 1, 0, 1, 0] B8) s H = regNext (evOpsGo P Γ call r8_36.1 r8_36.1 s H) := at_region (by kernel_rfl) r8_36.2 s H
attribute [simp] r8_36
@[simp] theorem n8_37 (s : List V) (H : Heap) : evCode P Γ call n f m (cAt [1, 1, 1, 1, 0, 1, 0, 0, 1, 1, 0, 0, 1, 1, 0, 1, 1] B8) s H = some (.normal, s, H) := at_skip (by kernel_rfl) s H
@[simp] theorem n8_38 (s : List V) (H : Heap) : evCode P Γ call n f m (cAt [1, 1, 1, 1, 0, 1, 0, 0, 1, 1, 0, 0, 1, 1, 1] B8) s H = seqNext P Γ call n f m (cAt [1, 1, 1, 1, 0, 1, 0, 0, 1, 1, 0, 0, 1, 1, 1, 1] B8) (evCode P Γ call n f m (cAt [1, 1, 1, 1, 0, 1, 0, 0, 1, 1, 0, 0, 1, 1, 1, 0] B8) s H) := at_seq (by kernel_rfl) rfl rfl s H
@[simp] theorem n8_39 (s : List V) (H : Heap) : evCode P Γ call n f m (cAt [1, 1, 1, 1, 0, 1, 0, 0, 1, 1, 0, 0, 1, 1, 1, 0] B8) s H = seqNext P Γ call n f m (cAt [1, 1, 1, 1, 0, 1, 0, 0, 1, 1, 0, 0, 1, 1, 1, 0, 1] B8) (evCode P Γ call n f m (cAt [1, 1, 1, 1, 0, 1, 0, 0, 1, 1, 0, 0, 1, 1, 1, 0, 0] B8) s H) := at_seq (by kernel_rfl) rfl rfl s H
noncomputable def r8_40 : {l : List Oper // opsOf (cAt [1, 1, 1, 1, 0, 1, 0, 0, 1, 1, 0, 0, 1, 1, 1, 0, 0] B8) = l} := by
  apply Subtype.mk
  dsimp only [opsOf, cAt, kids, B8, bodyOf, Tryd.f8, List.getD, List.getElem?_cons_zero, List.getElem?_cons_succ, Option.getD_some]
@[simp] theorem n8_40 (s : List V) (H : Heap) : evCode P Γ call n f m (cAt [1, 1, 1, 1, 0, 1, 0, 0, 1, 1, 0, 0, 1, 1, 1, 0, 0] B8) s H = regNext (evOpsGo P Γ call r8_40.1 r8_40.1 s H) := at_region (by kernel_rfl) r8_40.2 s H
attribute [simp] r8_40
@[simp] theorem n8_41 (s : List V) (H : Heap) : evCode P Γ call n f m (cAt [1, 1, 1, 1, 0, 1, 0, 0, 1, 1, 0, 0, 1, 1, 1, 0, 1] B8) s H = condW P Γ call n f m (cAt [1, 1, 1, 1, 0, 1, 0, 0, 1, 1, 0, 0, 1, 1, 1, 0, 1, 0] B8) (cAt [1, 1, 1, 1, 0, 1, 0, 0, 1, 1, 0, 0, 1, 1, 1, 0, 1, 1] B8) s H (evOperand Γ s (.tmp 41)) := at_cond (by kernel_rfl) (by kernel_rfl) rfl rfl s H
@[simp] theorem n8_42 (s : List V) (H : Heap) : evCode P Γ call n f m (cAt [1, 1, 1, 1, 0, 1, 0, 0, 1, 1, 0, 0, 1, 1, 1, 0, 1, 0] B8) s H = seqNext P Γ call n f m (cAt [1, 1, 1, 1, 0, 1, 0, 0, 1, 1, 0, 0, 1, 1, 1, 0, 1, 0, 1] B8) (evCode P Γ call n f m (cAt [1, 1, 1, 1, 0, 1, 0, 0, 1, 1, 0, 0, 1, 1, 1, 0, 1, 0, 0] B8) s H) := at_seq (by kernel_rfl) rfl rfl s H
noncomputable def r8_43 : {l : List Oper // opsOf (cAt [1, 1, 1, 1, 0, 1, 0, 0, 1, 1, 0, 0, 1, 1, 1, 0, 1, 0, 0] B8) = l} := by
  apply Subtype.mk
  dsimp only [opsOf, cAt, kids, B8, bodyOf, Tryd.f8, List.getD, List.getElem?_cons_zero, List.getElem?_cons_succ, Option.getD_some]
@[simp] theorem n8_43 (s : List V) (H : Heap) : evCode P Γ call n f m (cAt [1, 1, 1, 1, 0, 1, 0, 0, 1, 1, 0, 0, 1, 1, 1, 0, 1, 0, 0] B8) s H = regNext (evOpsGo P Γ call r8_43.1 r8_43.1 s H) := at_region (by kernel_rfl) r8_43.2 s H
attribute [simp] r8_43
@[simp] theorem n8_44 (s : List V) (H : Heap) : evCode P Γ call n f m (cAt [1, 1, 1, 1, 0, 1, 0, 0, 1, 1, 0, 0, 1, 1, 1, 0, 1, 0, 1] B8) s H = some (.ret, s, H) := at_ret (by kernel_rfl) s H
@[simp] theorem n8_45 (s : List V) (H : Heap) : evCode P Γ call n f m (cAt [1, 1, 1, 1, 0, 1, 0, 0, 1, 1, 0, 0, 1, 1, 1, 0, 1, 1] B8) s H = some (.normal, s, H) := at_skip (by kernel_rfl) s H
noncomputable def r8_46 : {l : List Oper // opsOf (cAt [1, 1, 1, 1, 0, 1, 0, 0, 1, 1, 0, 0, 1, 1, 1, 1] B8) = l} := by
  apply Subtype.mk
  dsimp only [opsOf, cAt, kids, B8, bodyOf, Tryd.f8, List.getD, List.getElem?_cons_zero, List.getElem?_cons_succ, Option.getD_some]
@[simp] theorem n8_46 (s : List V) (H : Heap) : evCode P Γ call n f m (cAt [1, 1, 1, 1, 0, 1, 0, 0, 1, 1, 0, 0, 1, 1, 1, 1] B8) s H = regNext (drawR P Γ call r8_46.1 [([1, 2], [46, 47]), ([0, 3], [45]), ([0, 3], [45]), ([1, 2], [46, 47]), ([], [])] s H) := at_drawT (by kernel_rfl) r8_46.2 (by kernel_rfl) s H
attribute [simp] r8_46
noncomputable def r8_47 : {l : List Oper // opsOf (cAt [1, 1, 1, 1, 0, 1, 0, 0, 1, 1, 1] B8) = l} := by
  apply Subtype.mk
  dsimp only [opsOf, cAt, kids, B8, bodyOf, Tryd.f8, List.getD, List.getElem?_cons_zero, List.getElem?_cons_succ, Option.getD_some]
@[simp] theorem n8_47 (s : List V) (H : Heap) : evCode P Γ call n f m (cAt [1, 1, 1, 1, 0, 1, 0, 0, 1, 1, 1] B8) s H = regNext (evOpsGo P Γ call r8_47.1 r8_47.1 s H) := at_region (by kernel_rfl) r8_47.2 s H
attribute [simp] r8_47
@[simp] theorem n8_48 (s : List V) (H : Heap) : evCode P Γ call n f m (cAt [1, 1, 1, 1, 1] B8) s H = seqNext P Γ call n f m (cAt [1, 1, 1, 1, 1, 1] B8) (evCode P Γ call n f m (cAt [1, 1, 1, 1, 1, 0] B8) s H) := at_seq (by kernel_rfl) rfl rfl s H
noncomputable def r8_49 : {l : List Oper // opsOf (cAt [1, 1, 1, 1, 1, 0] B8) = l} := by
  apply Subtype.mk
  dsimp only [opsOf, cAt, kids, B8, bodyOf, Tryd.f8, List.getD, List.getElem?_cons_zero, List.getElem?_cons_succ, Option.getD_some]
@[simp] theorem n8_49 (s : List V) (H : Heap) : evCode P Γ call n f m (cAt [1, 1, 1, 1, 1, 0] B8) s H = regNext (evOpsGo P Γ call r8_49.1 r8_49.1 s H) := at_region (by kernel_rfl) r8_49.2 s H
attribute [simp] r8_49
@[simp] theorem n8_50 (s : List V) (H : Heap) : evCode P Γ call n f m (cAt [1, 1, 1, 1, 1, 1] B8) s H = some (.ret, s, H) := at_ret (by kernel_rfl) s H
theorem b8 {k : Nat} (ho : ∀ args H, Γ.orc 8 args H = none) (args : List V) (H : Heap) (ha : args.length ≤ 52) : evF Tryd.prog Γ (k + 1) 8 args H = bodyEnd Tryd.prog [.cell 2 27, .tmp 3, .tmp 4] H.length (evCode Tryd.prog Γ (evF Tryd.prog Γ k) k 8 H.length (cAt [] B8) (mkL 52 V.undef (enumV 0 args)) H) := body_at Tryd.func8 (by decide) rfl ho rfl rfl args H ha
noncomputable def B9 : Code := bodyOf Tryd.f9
@[simp] theorem n9_1 (s : List V) (H : Heap) : evCode P Γ call n f m (cAt [] B9) s H = seqNext P Γ call n f m (cAt [1] B9) (evCode P Γ call n f m (cAt [0] B9) s H) := at_seq (by kernel_rfl) rfl rfl s H
noncomputable def r9_2 : {l : List Oper // opsOf (cAt [0] B9) = l} := by
  apply Subtype.mk
  dsimp only [opsOf, cAt, kids, B9, bodyOf, Tryd.f9, List.getD, List.getElem?_cons_zero, List.getElem?_cons_succ, Option.getD_some]
@[simp] theorem n9_2 (s : List V) (H : Heap) : evCode P Γ call n f m (cAt [0] B9) s H = regNext (evOpsGo P Γ call r9_2.1 r9_2.1 s H) := at_region (by kernel_rfl) r9_2.2 s H
attribute [simp] r9_2
@[simp] theorem n9_3 (s : List V) (H : Heap) : evCode P Γ call n f m (cAt [1] B9) s H = seqNext P Γ call n f m (cAt [1, 1] B9) (evCode P Γ call n f m (cAt [1, 0] B9) s H) := at_seq (by kernel_rfl) rfl rfl s H
@[simp] theorem n9_4 (s : List V) (H : Heap) : evCode P Γ call n f m (cAt [1, 0] B9) s H = seqNext P Γ call n f m (cAt [1, 0, 1] B9) (evCode P Γ call n f m (cAt [1, 0, 0] B9) s H) := at_seq (by kernel_rfl) rfl rfl s H
noncomputable def r9_5 : {l : List Oper // opsOf (cAt [1, 0, 0] B9) = l} := by
  apply Subtype.mk
  dsimp only [opsOf, cAt, kids, B9, bodyOf, Tryd.f9, List.getD, List.getElem?_cons_zero, List.getElem?_cons_succ, Option.getD_some]
@[simp] theorem n9_5 (s : List V) (H : Heap) : evCode P Γ call n f m (cAt [1, 0, 0] B9) s H = regNext (evOpsGo P Γ call r9_5.1 r9_5.1 s H) := at_region (by kernel_rfl) r9_5.2 s H
attribute [simp] r9_5
@[simp] theorem n9_6 (s : List V) (H : Heap) : evCode P Γ call n f m (cAt [1, 0, 1] B9) s H = seqNext P Γ call n f m (cAt [1, 0, 1, 1] B9) (evCode P Γ call n f m (cAt [1, 0, 1, 0] B9) s H) := at_seq (by kernel_rfl) rfl rfl s H
noncomputable def r9_7 : {l : List Oper // opsOf (cAt [1, 0, 1, 0] B9) = l} := by
  apply Subtype.mk
  dsimp only [opsOf, cAt, kids, B9, bodyOf, Tryd.f9, List.getD, List.getElem?_cons_zero, List.getElem?_cons_succ, Option.getD_some]
@[simp] theorem n9_7 (s : List V) (H : Heap) : evCode P Γ call n f m (cAt [1, 0, 1, 0] B9) s H = regNext (evOpsGo P Γ call r9_7.1 r9_7.1 s H) := at_region (by kernel_rfl) r9_7.2 s H
attribute [simp] r9_7
@[simp] theorem n9_8 (s : List V) (H : Heap) : evCode P Γ call n f m (cAt [1, 0, 1, 1] B9) s H = condW P Γ call n f m (cAt [1, 0, 1, 1, 0] B9) (cAt [1, 0, 1, 1, 1] B9) s H (evOperand Γ s (.tmp 17)) := at_cond (by kernel_rfl) (by kernel_rfl) rfl rfl s H
@[simp] theorem n9_9 (s : List V) (H : Heap) : evCode P Γ call n f m (cAt [1, 0, 1, 1, 0] B9) s H = seqNext P Γ call n f m (cAt [1, 0, 1, 1, 0, 1] B9) (evCode P Γ call n f m (cAt [1, 0, 1, 1, 0, 0] B9) s H) := at_seq (by kernel_rfl) rfl rfl s H
noncomputable def r9_10 : {l : List Oper // opsOf (cAt [1, 0, 1, 1, 0, 0] B9) = l} := by
  apply Subtype.mk
  dsimp only [opsOf, cAt, kids, B9, bodyOf, Tryd.f9, List.getD, List.getElem?_cons_zero, List.getElem?_cons_succ, Option.getD_some]
@[simp] theorem n9_10 (s : List V) (H : Heap) : evCode P Γ call n f m (cAt [1, 0, 1, 1, 0, 0] B9) s H = regNext (evOpsGo P Γ call r9_10.1 r9_10.1 s H) := at_region (by kernel_rfl) r9_10.2 s H
attribute [simp] r9_10
@[simp] theorem n9_11 (s : List V) (H : Heap) : evCode P Γ call n f m (cAt [1, 0, 1, 1, 0, 1] B9) s H = some (.ret, s, H) := at_ret (by kernel_rfl) s H
@[simp] theorem n9_12 (s : List V) (H : Heap) : evCode P Γ call n f m (cAt [1, 0, 1, 1, 1] B9) s H = some (.normal, s, H) := at_skip (by kernel_rfl) s H
@[simp] theorem n9_13 (s : List V) (H : Heap) : evCode P Γ call n f m (cAt [1, 1] B9) s H = seqNext P Γ call n f m (cAt [1, 1, 1] B9) (evCode P Γ call n f m (cAt [1, 1, 0] B9) s H) := at_seq (by kernel_rfl) rfl rfl s H
noncomputable def r9_14 : {l : List Oper // opsOf (cAt [1, 1, 0] B9) = l} := by
  apply Subtype.mk
  dsimp only [opsOf, cAt, kids, B9, bodyOf, Tryd.f9, List.getD, List.getElem?_cons_zero, List.getElem?_cons_succ, Option.getD_some]
@[simp] theorem n9_14 (s : List V) (H : Heap) : evCode P Γ call n f m (cAt [1, 1, 0] B9) s H = regNext (evOpsGo P Γ call r9_14.1 r9_14.1 s H) := at_region (by kernel_rfl) r9_14.2 s H
attribute [simp] r9_14
@[simp] theorem n9_15 (s : List V) (H : Heap) : evCode P Γ call n f m (cAt [1, 1, 1] B9) s H = seqNext P Γ call n f m (cAt [1, 1, 1, 1] B9) (evCode P Γ call n f m (cAt [1, 1, 1, 0] B9) s H) := at_seq (by kernel_rfl) rfl rfl s H
@[simp] theorem n9_16 (s : List V) (H : Heap) : evCode P Γ call n f m (cAt [1, 1, 1, 0] B9) s H = seqNext P Γ call n f m (cAt [1, 1, 1, 0, 1] B9) (evCode P Γ call n f m (cAt [1, 1, 1, 0, 0] B9) s H) := at_seq (by kernel_rfl) rfl rfl s H
noncomputable def r9_17 : {l : List Oper // opsOf (cAt [1, 1, 1, 0, 0] B9) = l} := by
  apply Subtype.mk
  dsimp only [opsOf, cAt, kids, B9, bodyOf, Tryd.f9, List.getD, List.getElem?_cons_zero, List.getElem?_cons_succ, Option.getD_some]
@[simp] theorem n9_17 (s : List V) (H : Heap) : evCode P Γ call n f m (cAt [1, 1, 1, 0, 0] B9) s H = regNext (evOpsGo P Γ call r9_17.1 r9_17.1 s H) := at_region (by kernel_rfl) r9_17.2 s H
attribute [simp] r9_17
@[simp] theorem n9_18 (s : List V) (H : Heap) : evCode P Γ call n f m (cAt [1, 1, 1, 0, 1] B9) s H = blockNext 0 (evCode P Γ call n f m (cAt [1, 1, 1, 0, 1, 0] B9) s H) := at_block (by kernel_rfl) rfl s H
@[simp] theorem n9_19 (s : List V) (H : Heap) : evCode P Γ call n f m (cAt [1, 1, 1, 0, 1, 0] B9) s H = evLoopC P Γ call n f m (cAt [1, 1, 1, 0, 1, 0, 0] B9) n s H := at_loop (by kernel_rfl) rfl s H
noncomputable abbrev L9_6 : Code := cAt [1, 1, 1, 0, 1, 0, 0] B9
@[simp] theorem n9_19f : firstRegion (cAt [1, 1, 1, 0, 1, 0, 0] B9) = 6 := by kernel_rfl
@[simp] theorem n9_20 (s : List V) (H : Heap) : evCode P Γ call n f m (cAt [1, 1, 1, 0, 1, 0, 0] B9) s H = seqNext P Γ call n f m (cAt [1, 1, 1, 0, 1, 0, 0, 1] B9) (evCode P Γ call n f m (cAt [1, 1, 1, 0, 1, 0, 0, 0] B9) s H) := at_seq (by kernel_rfl) rfl rfl s H
noncomputable def r9_21 : {l : List Oper // opsOf (cAt [1, 1, 1, 0, 1, 0, 0, 0] B9) = l} := by
  apply Subtype.mk
  dsimp only [opsOf, cAt, kids, B9, bodyOf, Tryd.f9, List.getD, List.getElem?_cons_zero, List.getElem?_cons_succ, Option.getD_some]
@[simp] theorem n9_21 (s : List V) (H : Heap) : evCode P Γ call n f m (cAt [1, 1, 1, 0, 1, 0, 0, 0] B9) s H = regNext (evOpsGo P Γ call r9_21.1 r9_21.1 s H) := at_region (by kernel_rfl) r9_21.2 s H
attribute [simp] r9_21
@[simp] theorem n9_22 (s : List V) (H : Heap) : evCode P Γ call n f m (cAt [1, 1, 1, 0, 1, 0, 0, 1] B9) s H = seqNext P Γ call n f m (cAt [1, 1, 1, 0, 1, 0, 0, 1, 1] B9) (evCode P Γ call n f m (cAt [1, 1, 1, 0, 1, 0, 0, 1, 0] B9) s H) := at_seq (by kernel_rfl) rfl rfl s H
@[simp] theorem n9_23 (s : List V) (H : Heap) : evCode P Γ call n f m (cAt [1, 1, 1, 0, 1, 0, 0, 1, 0] B9) s H = condW P Γ call n f m (cAt [1, 1, 1, 0, 1, 0, 0, 1, 0, 0] B9) (cAt [1, 1, 1, 0, 1, 0, 0, 1, 0, 1] B9) s H (evOperand Γ s (.tmp 22)) := at_cond (by kernel_rfl) (by kernel_rfl) rfl rfl s H
@[simp] theorem n9_24 (s : List V) (H : Heap) : evCode P Γ call n f m (cAt [1, 1, 1, 0, 1, 0, 0, 1, 0, 0] B9) s H = some (.normal, s, H) := at_skip (by kernel_rfl) s H
@[simp] theorem n9_25 (s : List V) (H : Heap) : evCode P Γ call n f m (cAt [1, 1, 1, 0, 1, 0, 0, 1, 0, 1] B9) s H = some (.exit 0, s, H) := at_exit (by kernel_rfl) s H
@[simp] theorem n9_26 (s : List V) (H : Heap) : evCode P Γ call n f m (cAt [1, 1, 1, 0, 1, 0, 0, 1, 1] B9) s H = seqNext P Γ call n f m (cAt [1, 1, 1, 0, 1, 0, 0, 1, 1, 1] B9) (evCode P Γ call n f m (cAt [1, 1, 1, 0, 1, 0, 0, 1, 1, 0] B9) s H) := at_seq (by kernel_rfl) rfl rfl s H
@[simp] theorem n9_27 (s : List V) (H : Heap) : evCode P Γ call n f m (cAt [1, 1, 1, 0, 1, 0, 0, 1, 1, 0] B9) s H = blockNext 1 (evCode P Γ call n f m (cAt [1, 1, 1, 0, 1, 0, 0, 1, 1, 0, 0] B9) s H) := at_block (by kernel_rfl) rfl s H
@[simp] theorem n9_28 (s : List V) (H : Heap) : evCode P Γ call n f m (cAt [1, 1, 1, 0, 1, 0, 0, 1, 1, 0, 0] B9) s H = seqNext P Γ call n f m (cAt [1, 1, 1, 0, 1, 0, 0, 1, 1, 0, 0, 1] B9) (evCode P Γ call n f m (cAt [1, 1, 1, 0, 1, 0, 0, 1, 1, 0, 0, 0] B9) s H) := at_seq (by kernel_rfl) rfl rfl s H
noncomputable def r9_29 : {l : List Oper // opsOf (cAt [1, 1, 1, 0, 1, 0, 0, 1, 1, 0, 0, 0] B9) = l} := by
  apply Subtype.mk
  dsimp only [opsOf, cAt, kids, B9, bodyOf, Tryd.f9, List.getD, List.getElem?_cons_zero, List.getElem?_cons_succ, Option.getD_some]
@[simp] theorem n9_29 (s : List V) (H : Heap) : evCode P Γ call n f m (cAt [1, 1, 1, 0, 1, 0, 0, 1, 1, 0, 0, 0] B9) s H = regNext (evOpsGo P Γ call r9_29.1 r9_29.1 s H) := at_region (by kernel_rfl) r9_29.2 s H
attribute [simp] r9_29
@[simp] theorem n9_30 (s : List V) (H : Heap) : evCode P Γ call n f m (cAt [1, 1, 1, 0, 1, 0, 0, 1, 1, 0, 0, 1] B9) s H = seqNext P Γ call n f m (cAt [1, 1, 1, 0, 1, 0, 0, 1, 1, 0, 0, 1, 1] B9) (evCode P Γ call n f m (cAt [1, 1, 1, 0, 1, 0, 0, 1, 1, 0, 0, 1, 0] B9) s H) := at_seq (by kernel_rfl) rfl rfl s H
noncomputable def r9_31 : {l : List Oper // opsOf (cAt [1, 1, 1, 0, 1, 0, 0, 1, 1, 0, 0, 1, 0] B9) = l} := by
  apply Subtype.mk
  dsimp only [opsOf, cAt, kids, B9, bodyOf, Tryd.f9, List.getD, List.getElem?_cons_zero, List.getElem?_cons_succ, Option.getD_some]
@[simp] theorem n9_31 (s : List V) (H : Heap) : evCode P Γ call n f m (cAt [1, 1, 1, 0, 1, 0, 0, 1, 1, 0, 0, 1, 0] B9) s H = regNext (evOpsGo P Γ call r9_31.1 r9_31.1 s H) := at_region (by kernel_rfl) r9_31.2 s H
attribute [simp] r9_31
@[simp] theorem n9_32 (s : List V) (H : Heap) : evCode P Γ call n f m (cAt [1, 1, 1, 0, 1, 0, 0, 1, 1, 0, 0, 1, 1] B9) s H = blockNext 2 (evCode P Γ call n f m (cAt [1, 1, 1, 0, 1, 0, 0, 1, 1, 0, 0, 1, 1, 0] B9) s H) := at_block (by kernel_rfl) rfl s H
@[simp] theorem n9_33 (s : List V) (H : Heap) : evCode P Γ call n f m (cAt [1, 1, 1, 0, 1, 0, 0, 1, 1, 0, 0, 1, 1, 0] B9) s H = seqNext P Γ call n f m (cAt [1, 1, 1, 0, 1, 0, 0, 1, 1, 0, 0, 1, 1, 0, 1] B9) (evCode P Γ call n f m (cAt [1, 1, 1, 0, 1, 0, 0, 1, 1, 0, 0, 1, 1, 0, 0] B9) s H) := at_seq (by kernel_rfl) rfl rfl s H
noncomputable def r9_34 : {l : List Oper // opsOf (cAt [1, 1, 1, 0, 1, 0, 0, 1, 1, 0, 0, 1, 1, 0, 0] B9) = l} := by
  apply Subtype.mk
  dsimp only [opsOf, cAt, kids, B9, bodyOf, Tryd.f9, List.getD, List.getElem?_cons_zero, List.getElem?_cons_succ, Option.getD_some]
@[simp] theorem n9_34 (s : List V) (H : Heap) : evCode P Γ call n f m (cAt [1, 1, 1, 0, 1, 0, 0, 1, 1, 0, 0, 1, 1, 0, 0] B9) s H = regNext (evOpsGo P Γ call r9_34.1 r9_34.1 s H) := at_region (by kernel_rfl) r9_34.2 s H
attribute [simp] r9_34
@[simp] theorem n9_35 (s : List V) (H : Heap) : evCode P Γ call n f m (cAt [1, 1, 1, 0, 1, 0, 0, 1, 1, 0, 0, 1, 1, 0, 1] B9) s H = condW P Γ call n f m (cAt [1, 1, 1, 0, 1, 0, 0, 1, 1, 0, 0, 1, 1, 0, 1, 0] B9) (cAt [1, 1, 1, 0, 1, 0, 0, 1, 1, 0, 0, 1, 1, 0, 1, 1] B9) s H (evOperand Γ s (.tmp 27)) := at_cond (by kernel_rfl) (by kernel_rfl) rfl rfl s H
noncomputable def r9_36 : {l : List Oper // opsOf (cAt [1, 1, 1, 0, 1, 0, 0, 1, 1, 0, 0, 1, 1, 0, 1, 0] B9) = l} := by
  apply Subtype.mk
  dsimp only [opsOf, cAt, kids, B9, bodyOf, Tryd.f9, List.getD, List.getElem?_cons_zero, List.getElem?_cons_succ, Option.getD_some]
@[simp] theorem n9_36 (s : List V) (H : Heap) : evCode P Γ call n f m (cAt [1, 1, 1, 0, 1, 0, 0, 1, 1, 0, 0, 1, 1, 0, 1, 0] B9) s H = regNext (evOpsGo P Γ call r9_36.1 r9_36.1 s H) := at_region (by kernel_rfl) r9_36.2 s H
attribute [simp] r9_36
@[simp] theorem n9_37 (s : List V) (H : Heap) : evCode P Γ call n f m (cAt [1, 1, 1, 0, 1, 0, 0, 1, 1, 0, 0, 1, 1, 0, 1, 1] B9) s H = seqNext P Γ call n f m (cAt [1, 1, 1, 0, 1, 0, 0, 1, 1, 0, 0, 1, 1, 0, 1, 1, 1] B9) (evCode P Γ call n f m (cAt [1, 1, 1, 0, 1, 0, 0, 1, 1, 0, 0, 1, 1, 0, 1, 1, 0] B9) s H) := at_seq (by kernel_rfl) rfl rfl s H
noncomputable def r9_38 : {l : List Oper // opsOf (cAt [1, 1, 1, 0, 1, 0, 0, 1, 1, 0, 0, 1, 1, 0, 1, 1, 0] B9) = l} := by
  apply Subtype.mk
  dsimp only [opsOf, cAt, kids, B9, bodyOf, Tryd.f9, List.getD, List.getElem?_cons_zero, List.getElem?_cons_succ, Option.getD_some]
@[simp] theorem n9_38 (s : List V) (H : Heap) : evCode P Γ call n f m (cAt [1, 1, 1, 0, 1, 0, 0, 1, 1, 0, 0, 1, 1, 0, 1, 1, 0] B9) s H = regNext (evOpsGo P Γ call r9_38.1 r9_38.1 s H) := at_region (by kernel_rfl) r9_38.2 s H
attribute [simp] r9_38
@[simp] theorem n9_39 (s : List V) (H : Heap) : evCode P Γ call n f m (cAt [1, 1, 1, 0, 1, 0, 0, 1, 1, 0, 0, 1, 1, 0, 1, 1, 1] B9) s H = condW P Γ call n f m (cAt [1, 1, 1, 0, 1, 0, 0, 1, 1, 0, 0, 1, 1, 0, 1, 1, 1, 0] B9) (cAt [1, 1, 1, 0, 1, 0, 0, 1, 1, 0, 0, 1, 1, 0, 1, 1, 1, 1] B9) s H (evOperand Γ s (.tmp 34)) := at_cond (by kernel_rfl) (by kernel_rfl) rfl rfl s H
noncomputable def r9_40 : {l : List Oper // opsOf (cAt [1, 1, 1, 0, 1, 0, 0, 1, 1, 0, 0, 1, 1, 0, 1, 1, 1, 0] B9) = l} := by
  apply Subtype.mk
  dsimp only [opsOf, cAt, kids, B9, bodyOf, Tryd.f9, List.getD, List.getElem?_cons_zero, List.getElem?_cons_succ, Option.getD_some]
@[simp] theorem n9_40 (s : List V) (H : Heap) : evCode P Γ call n f m (cAt [1, 1, 1, 0, 1, 0, 0, 1, 1, 0, 0, 1, 1, 0, 1, 1, 1, 0] B9) s H = regNext (evOpsGo P Γ call r9_40.1 r9_40.1 s H) := at_region (by kernel_rfl) r9_40.2 s H
attribute [simp] r9_40
@[simp] theorem n9_41 (s : List V) (H : Heap) : evCode P Γ call n f m (cAt [1, 1, 1, 0, 1, 0, 0, 1, 1, 0, 0, 1, 1, 0, 1, 1, 1, 1] B9) s H = some (.normal, s, H) := at_skip (by kernel_rfl) s H
noncomputable def r9_42 : {l : List Oper // opsOf (cAt [1, 1, 1, 0, 1, 0, 0, 1, 1, 1] B9) = l} := by
  apply Subtype.mk
  dsimp only [opsOf, cAt, kids, B9, bodyOf, Tryd.f9, List.getD, List.getElem?_cons_zero, List.getElem?_cons_succ, Option.getD_some]
@[simp] theorem n9_42 (s : List V) (H : Heap) : evCode P Γ call n f m (cAt [1, 1, 1, 0, 1, 0, 0, 1, 1, 1] B9) s H = regNext (evOpsGo P Γ call r9_42.1 r9_42.1 s H) := at_region (by kernel_rfl) r9_42.2 s H
attribute [simp] r9_42
@[simp] theorem n9_43 (s : List V) (H : Heap) : evCode P Γ call n f m (cAt [1, 1, 1, 1] B9) s H = seqNext P Γ call n f m (cAt [1, 1, 1, 1, 1] B9) (evCode P Γ call n f m (cAt [1, 1, 1, 1, 0] B9) s H) := at_seq (by kernel_rfl) rfl rfl s H
noncomputable def r9_44 : {l : List Oper // opsOf (cAt [1, 1, 1, 1, 0] B9) = l} := by
  apply Subtype.mk
  dsimp only [opsOf, cAt, kids, B9, bodyOf, Tryd.f9, List.getD, List.getElem?_cons_zero, List.getElem?_cons_succ, Option.getD_some]
@[simp] theorem n9_44 (s : List V) (H : Heap) : evCode P Γ call n f m (cAt [1, 1, 1, 1, 0] B9) s H = regNext (evOpsGo P Γ call r9_44.1 r9_44.1 s H) := at_region (by kernel_rfl) r9_44.2 s H
attribute [simp] r9_44
@[simp] theorem n9_45 (s : List V) (H : Heap) : evCode P Γ call n f m (cAt [1, 1, 1, 1, 1] B9) s H = some (.ret, s, H) := at_ret (by kernel_rfl) s H
theorem b9 {k : Nat} (ho : ∀ args H, Γ.orc 9 args H = none) (args : List V) (H : Heap) (ha : args.length ≤ 43) : evF Tryd.prog Γ (k + 1) 9 args H = bodyEnd Tryd.prog [.tmp 2, .tmp 3] H.length (evCode Tryd.prog Γ (evF Tryd.prog Γ k) k 9 H.length (cAt [] B9) (mkL 43 V.undef (enumV 0 args)) H) := body_at Tryd.func9 (by decide) rfl ho rfl rfl args H ha
noncomputable def B10 : Code := bodyOf Tryd.f10
@[simp] theorem n10_1 (s : List V) (H : Heap) : evCode P Γ call n f m (cAt [] B10) s H = seqNext P Γ call n f m (cAt [1] B10) (evCode P Γ call n f m (cAt [0] B10) s H) := at_seq (by kernel_rfl) rfl rfl s H
noncomputable def r10_2 : {l : List Oper // opsOf (cAt [0] B10) = l} := by
  apply Subtype.mk
  dsimp only [opsOf, cAt, kids, B10, bodyOf, Tryd.f10, List.getD, List.getElem?_cons_zero, List.getElem?_cons_succ, Option.getD_some]
@[simp] theorem n10_2 (s : List V) (H : Heap) : evCode P Γ call n f m (cAt [0] B10) s H = regNext (evOpsGo P Γ call r10_2.1 r10_2.1 s H) := at_region (by kernel_rfl) r10_2.2 s H
attribute [simp] r10_2
@[simp] theorem n10_3 (s : List V) (H : Heap) : evCode P Γ call n f m (cAt [1] B10) s H = seqNext P Γ call n f m (cAt [1, 1] B10) (evCode P Γ call n f m (cAt [1, 0] B10) s H) := at_seq (by kernel_rfl) rfl rfl s H
noncomputable def r10_4 : {l : List Oper // opsOf (cAt [1, 0] B10) = l} := by
  apply Subtype.mk
  dsimp only [opsOf, cAt, kids, B10, bodyOf, Tryd.f10, List.getD, List.getElem?_cons_zero, List.getElem?_cons_succ, Option.getD_some]
@[simp] theorem n10_4 (s : List V) (H : Heap) : evCode P Γ call n f m (cAt [1, 0] B10) s H = regNext (evOpsGo P Γ call r10_4.1 r10_4.1 s H) := at_region (by kernel_rfl) r10_4.2 s H
attribute [simp] r10_4
@[simp] theorem n10_5 (s : List V) (H : Heap) : evCode P Γ call n f m (cAt [1, 1] B10) s H = seqNext P Γ call n f m (cAt [1, 1, 1] B10) (evCode P Γ call n f m (cAt [1, 1, 0] B10) s H) := at_seq (by kernel_rfl) rfl rfl s H
noncomputable def r10_6 : {l : List Oper // opsOf (cAt [1, 1, 0] B10) = l} := by
  apply Subtype.mk
  dsimp only [opsOf, cAt, kids, B10, bodyOf, Tryd.f10, List.getD, List.getElem?_cons_zero, List.getElem?_cons_succ, Option.getD_some]
@[simp] theorem n10_6 (s : List V) (H : Heap) : evCode P Γ call n f m (cAt [1, 1, 0] B10) s H = regNext (evOpsGo P Γ call r10_6.1 r10_6.1 s H) := at_region (by kernel_rfl) r10_6.2 s H
attribute [simp] r10_6
@[simp] theorem n10_7 (s : List V) (H : Heap) : evCode P Γ call n f m (cAt [1, 1, 1] B10) s H = seqNext P Γ call n f m (cAt [1, 1, 1, 1] B10) (evCode P Γ call n f m (cAt [1, 1, 1, 0] B10) s H) := at_seq (by kernel_rfl) rfl rfl s H
noncomputable def r10_8 : {l : List Oper // opsOf (cAt [1, 1, 1, 0] B10) = l} := by
  apply Subtype.mk
  dsimp only [opsOf, cAt, kids, B10, bodyOf, Tryd.f10, List.getD, List.getElem?_cons_zero, List.getElem?_cons_succ, Option.getD_some]
@[simp] theorem n10_8 (s : List V) (H : Heap) : evCode P Γ call n f m (cAt [1, 1, 1, 0] B10) s H = regNext (evOpsGo P Γ call r10_8.1 r10_8.1 s H) := at_region (by kernel_rfl) r10_8.2 s H
attribute [simp] r10_8
@[simp] theorem n10_9 (s : List V) (H : Heap) : evCode P Γ call n f m (cAt [1, 1, 1, 1] B10) s H = some (.ret, s, H) := at_ret (by kernel_rfl) s H
theorem b10 {k : Nat} (ho : ∀ args H, Γ.orc 10 args H = none) (args : List V) (H : Heap) (ha : args.length ≤ 32) : evF Tryd.prog Γ (k + 1) 10 args H = bodyEnd Tryd.prog [.tmp 0] H.length (evCode Tryd.prog Γ (evF Tryd.prog Γ k) k 10 H.length (cAt [] B10) (mkL 32 V.undef (enumV 0 args)) H) := body_at Tryd.func10 (by decide) rfl ho rfl rfl args H ha
noncomputable def B11 : Code := bodyOf Tryd.f11
@[simp] theorem n11_1 (s : List V) (H : Heap) : evCode P Γ call n f m (cAt [] B11) s H = seqNext P Γ call n f m (cAt [1] B11) (evCode P Γ call n f m (cAt [0] B11) s H) := at_seq (by kernel_rfl) rfl rfl s H
noncomputable def r11_2 : {l : List Oper // opsOf (cAt [0] B11) = l} := by
  apply Subtype.mk
  dsimp only [opsOf, cAt, kids, B11, bodyOf, Tryd.f11, List.getD, List.getElem?_cons_zero, List.getElem?_cons_succ, Option.getD_some]
@[simp] theorem n11_2 (s : List V) (H : Heap) : evCode P Γ call n f m (cAt [0] B11) s H = regNext (evOpsGo P Γ call r11_2.1 r11_2.1 s H) := at_region (by kernel_rfl) r11_2.2 s H
attribute [simp] r11_2
@[simp] theorem n11_3 (s : List V) (H : Heap) : evCode P Γ call n f m (cAt [1] B11) s H = seqNext P Γ call n f m (cAt [1, 1] B11) (evCode P Γ call n f m (cAt [1, 0] B11) s H) := at_seq (by kernel_rfl) rfl rfl s H
noncomputable def r11_4 : {l : List Oper // opsOf (cAt [1, 0] B11) = l} := by
  apply Subtype.mk
  dsimp only [opsOf, cAt, kids, B11, bodyOf, Tryd.f11, List.getD, List.getElem?_cons_zero, List.getElem?_cons_succ, Option.getD_some]
@[simp] theorem n11_4 (s : List V) (H : Heap) : evCode P Γ call n f m (cAt [1, 0] B11) s H = regNext (evOpsGo P Γ call r11_4.1 r11_4.1 s H) := at_region (by kernel_rfl) r11_4.2 s H
attribute [simp] r11_4
@[simp] theorem n11_5 (s : List V) (H : Heap) : evCode P Γ call n f m (cAt [1, 1] B11) s H = seqNext P Γ call n f m (cAt [1, 1, 1] B11) (evCode P Γ call n f m (cAt [1, 1, 0] B11) s H) := at_seq (by kernel_rfl) rfl rfl s H
@[simp] theorem n11_6 (s : List V) (H : Heap) : evCode P Γ call n f m (cAt [1, 1, 0] B11) s H = seqNext P Γ call n f m (cAt [1, 1, 0, 1] B11) (evCode P Γ call n f m (cAt [1, 1, 0, 0] B11) s H) := at_seq (by kernel_rfl) rfl rfl s H
noncomputable def r11_7 : {l : List Oper // opsOf (cAt [1, 1, 0, 0] B11) = l} := by
  apply Subtype.mk
  dsimp only [opsOf, cAt, kids, B11, bodyOf, Tryd.f11, List.getD, List.getElem?_cons_zero, List.getElem?_cons_succ, Option.getD_some]
@[simp] theorem n11_7 (s : List V) (H : Heap) : evCode P Γ call n f m (cAt [1, 1, 0, 0] B11) s H = regNext (evOpsGo P Γ call r11_7.1 r11_7.1 s H) := at_region (by kernel_rfl) r11_7.2 s H
attribute [simp] r11_7
@[simp] theorem n11_8 (s : List V) (H : Heap) : evCode P Γ call n f m (cAt [1, 1, 0, 1] B11) s H = condW P Γ call n f m (cAt [1, 1, 0, 1, 0] B11) (cAt [1, 1, 0, 1, 1] B11) s H (evOperand Γ s (.tmp 9)) := at_cond (by kernel_rfl) (by kernel_rfl) rfl rfl s H
noncomputable def r11_9 : {l : List Oper // opsOf (cAt [1, 1, 0, 1, 0] B11) = l} := by
  apply Subtype.mk
  dsimp only [opsOf, cAt, kids, B11, bodyOf, Tryd.f11, List.getD, List.getElem?_cons_zero, List.getElem?_cons_succ, Option.getD_some]
@[simp] theorem n11_9 (s : List V) (H : Heap) : evCode P Γ call n f m (cAt [1, 1, 0, 1, 0] B11) s H = regNext (evOpsGo P Γ call r11_9.1 r11_9.1 s H) := at_region (by kernel_rfl) r11_9.2 s H
attribute [simp] r11_9
@[simp] theorem n11_10 (s : List V) (H : Heap) : evCode P Γ call n f m (cAt [1, 1, 0, 1, 1] B11) s H = some (.normal, s, H) := at_skip (by kernel_rfl) s H
@[simp] theorem n11_11 (s : List V) (H : Heap) : evCode P Γ call n f m (cAt [1, 1, 1] B11) s H = seqNext P Γ call n f m (cAt [1, 1, 1, 1] B11) (evCode P Γ call n f m (cAt [1, 1, 1, 0] B11) s H) := at_seq (by kernel_rfl) rfl rfl s H
noncomputable def r11_12 : {l : List Oper // opsOf (cAt [1, 1, 1, 0] B11) = l} := by
  apply Subtype.mk
  dsimp only [opsOf, cAt, kids, B11, bodyOf, Tryd.f11, List.getD, List.getElem?_cons_zero, List.getElem?_cons_succ, Option.getD_some]
@[simp] theorem n11_12 (s : List V) (H : Heap) : evCode P Γ call n f m (cAt [1, 1, 1, 0] B11) s H = regNext (evOpsGo P Γ call r11_12.1 r11_12.1 s H) := at_region (by kernel_rfl) r11_12.2 s H
attribute [simp] r11_12
@[simp] theorem n11_13 (s : List V) (H : Heap) : evCode P Γ call n f m (cAt [1, 1, 1, 1] B11) s H = some (.ret, s, H) := at_ret (by kernel_rfl) s H
theorem b11 {k : Nat} (ho : ∀ args H, Γ.orc 11 args H = none) (args : List V) (H : Heap) (ha : args.length ≤ 14) : evF Tryd.prog Γ (k + 1) 11 args H = bodyEnd Tryd.prog [.tmp 4] H.length (evCode Tryd.prog Γ (evF Tryd.prog Γ k) k 11 H.length (cAt [] B11) (mkL 14 V.undef (enumV 0 args)) H) := body_at Tryd.func11 (by decide) rfl ho rfl rfl args H ha
noncomputable def B12 : Code := bodyOf Tryd.f12
@[simp] theorem n12_1 (s : List V) (H : Heap) : evCode P Γ call n f m (cAt [] B12) s H = seqNext P Γ call n f m (cAt [1] B12) (evCode P Γ call n f m (cAt [0] B12) s H) := at_seq (by kernel_rfl) rfl rfl s H
noncomputable def r12_2 : {l : List Oper // opsOf (cAt [0] B12) = l} := by
  apply Subtype.mk
  dsimp only [opsOf, cAt, kids, B12, bodyOf, Tryd.f12, List.getD, List.getElem?_cons_zero, List.getElem?_cons_succ, Option.getD_some]
@[simp] theorem n12_2 (s : List V) (H : Heap) : evCode P Γ call n f m (cAt [0] B12) s H = regNext (evOpsGo P Γ call r12_2.1 r12_2.1 s H) := at_region (by kernel_rfl) r12_2.2 s H
attribute [simp] r12_2
@[simp] theorem n12_3 (s : List V) (H : Heap) : evCode P Γ call n f m (cAt [1] B12) s H = seqNext P Γ call n f m (cAt [1, 1] B12) (evCode P Γ call n f m (cAt [1, 0] B12) s H) := at_seq (by kernel_rfl) rfl rfl s H
@[simp] theorem n12_4 (s : List V) (H : Heap) : evCode P Γ call n f m (cAt [1, 0] B12) s H = seqNext P Γ call n f m (cAt [1, 0, 1] B12) (evCode P Γ call n f m (cAt [1, 0, 0] B12) s H) := at_seq (by kernel_rfl) rfl rfl s H
noncomputable def r12_5 : {l : List Oper // opsOf (cAt [1, 0, 0] B12) = l} := by
  apply Subtype.mk
  dsimp only [opsOf, cAt, kids, B12, bodyOf, Tryd.f12, List.getD, List.getElem?_cons_zero, List.getElem?_cons_succ, Option.getD_some]
@[simp] theorem n12_5 (s : List V) (H : Heap) : evCode P Γ call n f m (cAt [1, 0, 0] B12) s H = regNext (evOpsGo P Γ call r12_5.1 r12_5.1 s H) := at_region (by kernel_rfl) r12_5.2 s H
attribute [simp] r12_5
@[simp] theorem n12_6 (s : List V) (H : Heap) : evCode P Γ call n f m (cAt [1, 0, 1] B12) s H = condW P Γ call n f m (cAt [1, 0, 1, 0] B12) (cAt [1, 0, 1, 1] B12) s H (evOperand Γ s (.tmp 4)) := at_cond (by kernel_rfl) (by kernel_rfl) rfl rfl s H
@[simp] theorem n12_7 (s : List V) (H : Heap) : evCode P Γ call n f m (cAt [1, 0, 1, 0] B12) s H = seqNext P Γ call n f m (cAt [1, 0, 1, 0, 1] B12) (evCode P Γ call n f m (cAt [1, 0, 1, 0, 0] B12) s H) := at_seq (by kernel_rfl) rfl rfl s H
noncomputable def r12_8 : {l : List Oper // opsOf (cAt [1, 0, 1, 0, 0] B12) = l} := by
  apply Subtype.mk
  dsimp only [opsOf, cAt, kids, B12, bodyOf, Tryd.f12, List.getD, List.getElem?_cons_zero, List.getElem?_cons_succ, Option.getD_some]
@[simp] theorem n12_8 (s : List V) (H : Heap) : evCode P Γ call n f m (cAt [1, 0, 1, 0, 0] B12) s H = regNext (evOpsGo P Γ call r12_8.1 r12_8.1 s H) := at_region (by kernel_rfl) r12_8.2 s H
attribute [simp] r12_8
@[simp] theorem n12_9 (s : List V) (H : Heap) : evCode P Γ call n f m (cAt [1, 0, 1, 0, 1] B12) s H = some (.ret, s, H) := at_ret (by kernel_rfl) s H
@[simp] theorem n12_10 (s : List V) (H : Heap) : evCode P Γ call n f m (cAt [1, 0, 1, 1] B12) s H = some (.normal, s, H) := at_skip (by kernel_rfl) s H
@[simp] theorem n12_11 (s : List V) (H : Heap) : evCode P Γ call n f m (cAt [1, 1] B12) s H = seqNext P Γ call n f m (cAt [1, 1, 1] B12) (evCode P Γ call n f m (cAt [1, 1, 0] B12) s H) := at_seq (by kernel_rfl) rfl rfl s H
noncomputable def r12_12 : {l : List Oper // opsOf (cAt [1, 1, 0] B12) = l} := by
  apply Subtype.mk
  dsimp only [opsOf, cAt, kids, B12, bodyOf, Tryd.f12, List.getD, List.getElem?_cons_zero, List.getElem?_cons_succ, Option.getD_some]
@[simp] theorem n12_12 (s : List V) (H : Heap) : evCode P Γ call n f m (cAt [1, 1, 0] B12) s H = regNext (evOpsGo P Γ call r12_12.1 r12_12.1 s H) := at_region (by kernel_rfl) r12_12.2 s H
attribute [simp] r12_12
@[simp] theorem n12_13 (s : List V) (H : Heap) : evCode P Γ call n f m (cAt [1, 1, 1] B12) s H = some (.ret, s, H) := at_ret (by kernel_rfl) s H
theorem b12 {k : Nat} (ho : ∀ args H, Γ.orc 12 args H = none) (args : List V) (H : Heap) (ha : args.length ≤ 8) : evF Tryd.prog Γ (k + 1) 12 args H = bodyEnd Tryd.prog [.tmp 2] H.length (evCode Tryd.prog Γ (evF Tryd.prog Γ k) k 12 H.length (cAt [] B12) (mkL 8 V.undef (enumV 0 args)) H) := body_at Tryd.func12 (by decide) rfl ho rfl rfl args H ha
noncomputable def B16 : Code := bodyOf Tryd.f16
@[simp] theorem n16_1 (s : List V) (H : Heap) : evCode P Γ call n f m (cAt [] B16) s H = seqNext P Γ call n f m (cAt [1] B16) (evCode P Γ call n f m (cAt [0] B16) s H) := at_seq (by kernel_rfl) rfl rfl s H
noncomputable def r16_2 : {l : List Oper // opsOf (cAt [0] B16) = l} := by
  apply Subtype.mk
  dsimp only [opsOf, cAt, kids, B16, bodyOf, Tryd.f16, List.getD, List.getElem?_cons_zero, List.getElem?_cons_succ, Option.getD_some]
@[simp] theorem n16_2 (s : List V) (H : Heap) : evCode P Γ call n f m (cAt [0] B16) s H = regNext (evOpsGo P Γ call r16_2.1 r16_2.1 s H) := at_region (by kernel_rfl) r16_2.2 s H
attribute [simp] r16_2
@[simp] theorem n16_3 (s : List V) (H : Heap) : evCode P Γ call n f m (cAt [1] B16) s H = seqNext P Γ call n f m (cAt [1, 1] B16) (evCode P Γ call n f m (cAt [1, 0] B16) s H) := at_seq (by kernel_rfl) rfl rfl s H
noncomputable def r16_4 : {l : List Oper // opsOf (cAt [1, 0] B16) = l} := by
  apply Subtype.mk
  dsimp only [opsOf, cAt, kids, B16, bodyOf, Tryd.f16, List.getD, List.getElem?_cons_zero, List.getElem?_cons_succ, Option.getD_some]
@[simp] theorem n16_4 (s : List V) (H : Heap) : evCode P Γ call n f m (cAt [1, 0] B16) s H = regNext (drawR P Γ call r16_4.1 [([3, 4, 8, 9, 12, 13, 16, 17, 21, 22], [9, 10, 14, 15, 18, 19, 22, 23, 27, 28]), ([3, 4, 8, 9, 12, 13, 16, 17, 21, 22], [9, 10, 14, 15, 18, 19, 22, 23, 27, 28]), ([3, 4, 5, 8, 9, 12, 13, 16, 17, 18, 21, 22, 23], [9, 10, 11, 14, 15, 18, 19, 22, 23, 24, 27, 28, 29]), ([0, 1, 2, 8, 9, 12, 13, 16, 17, 21, 22], [6, 7, 8, 14, 15, 18, 19, 22, 23, 27, 28]), ([0, 1, 2, 8, 9, 12, 13, 16, 17, 21, 22], [6, 7, 8, 14, 15, 18, 19, 22, 23, 27, 28]), ([2, 8, 9, 12, 13, 16, 17, 21, 22], [8, 14, 15, 18, 19, 22, 23, 27, 28]), ([8, 9, 12, 13, 16, 17, 18, 21, 22, 23], [14, 15, 18, 19, 22, 23, 24, 27, 28, 29]), ([8, 9, 12, 13, 16, 17, 18, 21, 22, 23], [14, 15, 18, 19, 22, 23, 24, 27, 28, 29]), ([0, 1, 2, 3, 4, 5, 6, 7, 12, 13, 16, 17, 18, 21, 22, 23], [6, 7, 8, 9, 10, 11, 12, 13, 18, 19, 22, 23, 24, 27, 28, 29]), ([0, 1, 2, 3, 4, 5, 6, 7, 12, 13, 16, 17, 18, 21, 22, 23], [6, 7, 8, 9, 10, 11, 12, 13, 18, 19, 22, 23, 24, 27, 28, 29]), ([12, 13, 16, 17, 18, 21, 22, 23], [18, 19, 22, 23, 24, 27, 28, 29]), ([12, 13, 16, 17, 18, 21, 22, 23], [18, 19, 22, 23, 24, 27, 28, 29]), ([0, 1, 2, 3, 4, 5, 6, 7, 8, 9, 10, 11, 16, 17, 18, 21, 22, 23], [6, 7, 8, 9, 10, 11, 12, 13, 14, 15, 16, 17, 22, 23, 24, 27, 28, 29]), ([0, 1, 2, 3, 4, 5, 6, 7, 8, 9, 10, 11, 16, 17, 18, 21, 22, 23], [6, 7, 8, 9, 10, 11, 12, 13, 14, 15, 16, 17, 22, 23, 24, 27, 28, 29]), ([16, 17, 18, 21, 22, 23], [22, 23, 24, 27, 28, 29]), ([16, 17, 18, 21, 22, 23], [22, 23, 24, 27, 28, 29]), ([0, 1, 2, 3, 4, 5, 6, 7, 8, 9, 10, 11, 12, 13, 14, 15, 21, 22], [6, 7, 8, 9, 10, 11, 12, 13, 14, 15, 16, 17, 18, 19, 20, 21, 27, 28]), ([0, 1, 2, 3, 4, 5, 6, 7, 8, 9, 10, 11, 12, 13, 14, 15, 21, 22], [6, 7, 8, 9, 10, 11, 12, 13, 14, 15, 16, 17, 18, 19, 20, 21, 27, 28]), ([2, 6, 7, 8, 9, 10, 11, 12, 13, 14, 15, 21, 22], [8, 12, 13, 14, 15, 16, 17, 18, 19, 20, 21, 27, 28]), ([21, 22, 23], [27, 28, 29]), ([21, 22, 23], [27, 28, 29]), ([0, 1, 2, 3, 4, 5, 6, 7, 8, 9, 10, 11, 12, 13, 14, 15, 16, 17, 18, 19, 20], [6, 7, 8, 9, 10, 11, 12, 13, 14, 15, 16, 17, 18, 19, 20, 21, 22, 23, 24, 25, 26]), ([0, 1, 2, 3, 4, 5, 6, 7, 8, 9, 10, 11, 12, 13, 14, 15, 16, 17, 18, 19, 20], [6, 7, 8, 9, 10, 11, 12, 13, 14, 15, 16, 17, 18, 19, 20, 21, 22, 23, 24, 25, 26]), ([2, 6, 7, 8, 9, 10, 11, 12, 13, 14, 15, 19, 20], [8, 12, 13, 14, 15, 16, 17, 18, 19, 20, 21, 25, 26]), ([], []), ([], [])] s H) := at_drawT (by kernel_rfl) r16_4.2 (by kernel_rfl) s H
attribute [simp] r16_4
@[simp] theorem n16_5 (s : List V) (H : Heap) : evCode P Γ call n f m (cAt [1, 1] B16) s H = seqNext P Γ call n f m (cAt [1, 1, 1] B16) (evCode P Γ call n f m (cAt [1, 1, 0] B16) s H) := at_seq (by kernel_rfl) rfl rfl s H
noncomputable def r16_6 : {l : List Oper // opsOf (cAt [1, 1, 0] B16) = l} := by
  apply Subtype.mk
  dsimp only [opsOf, cAt, kids, B16, bodyOf, Tryd.f16, List.getD, List.getElem?_cons_zero, List.getElem?_cons_succ, Option.getD_some]
@[simp] theorem n16_6 (s : List V) (H : Heap) : evCode P Γ call n f m (cAt [1, 1, 0] B16) s H = regNext (evOpsGo P Γ call r16_6.1 r16_6.1 s H) := at_region (by kernel_rfl) r16_6.2 s H
attribute [simp] r16_6
@[simp] theorem n16_7 (s : List V) (H : Heap) : evCode P Γ call n f m (cAt [1, 1, 1] B16) s H = some (.ret, s, H) := at_ret (by kernel_rfl) s H
theorem b16 {k : Nat} (ho : ∀ args H, Γ.orc 16 args H = none) (args : List V) (H : Heap) (ha : args.length ≤ 34) : evF Tryd.prog Γ (k + 1) 16 args H = bodyEnd Tryd.prog [.tmp 4] H.length (evCode Tryd.prog Γ (evF Tryd.prog Γ k) k 16 H.length (cAt [] B16) (mkL 34 V.undef (enumV 0 args)) H) := body_at Tryd.func16 (by decide) rfl ho rfl rfl args H ha
noncomputable def B18 : Code := bodyOf Tryd.f18
@[simp] theorem n18_1 (s : List V) (H : Heap) : evCode P Γ call n f m (cAt [] B18) s H = seqNext P Γ call n f m (cAt [1] B18) (evCode P Γ call n f m (cAt [0] B18) s H) := at_seq (by kernel_rfl) rfl rfl s H
noncomputable def r18_2 : {l : List Oper // opsOf (cAt [0] B18) = l} := by
  apply Subtype.mk
  dsimp only [opsOf, cAt, kids, B18, bodyOf, Tryd.f18, List.getD, List.getElem?_cons_zero, List.getElem?_cons_succ, Option.getD_some]
@[simp] theorem n18_2 (s : List V) (H : Heap) : evCode P Γ call n f m (cAt [0] B18) s H = regNext (evOpsGo P Γ call r18_2.1 r18_2.1 s H) := at_region (by kernel_rfl) r18_2.2 s H
attribute [simp] r18_2
@[simp] theorem n18_3 (s : List V) (H : Heap) : evCode P Γ call n f m (cAt [1] B18) s H = seqNext P Γ call n f m (cAt [1, 1] B18) (evCode P Γ call n f m (cAt [1, 0] B18) s H) := at_seq (by kernel_rfl) rfl rfl s H
noncomputable def r18_4 : {l : List Oper // opsOf (cAt [1, 0] B18) = l} := by
  apply Subtype.mk
  dsimp only [opsOf, cAt, kids, B18, bodyOf, Tryd.f18, List.getD, List.getElem?_cons_zero, List.getElem?_cons_succ, Option.getD_some]
@[simp] theorem n18_4 (s : List V) (H : Heap) : evCode P Γ call n f m (cAt [1, 0] B18) s H = regNext (evOpsGo P Γ call r18_4.1 r18_4.1 s H) := at_region (by kernel_rfl) r18_4.2 s H
attribute [simp] r18_4
@[simp] theorem n18_5 (s : List V) (H : Heap) : evCode P Γ call n f m (cAt [1, 1] B18) s H = seqNext P Γ call n f m (cAt [1, 1, 1] B18) (evCode P Γ call n f m (cAt [1, 1, 0] B18) s H) := at_seq (by kernel_rfl) rfl rfl s H
@[simp] theorem n18_6 (s : List V) (H : Heap) : evCode P Γ call n f m (cAt [1, 1, 0] B18) s H = seqNext P Γ call n f m (cAt [1, 1, 0, 1] B18) (evCode P Γ call n f m (cAt [1, 1, 0, 0] B18) s H) := at_seq (by kernel_rfl) rfl rfl s H
noncomputable def r18_7 : {l : List Oper // opsOf (cAt [1, 1, 0, 0] B18) = l} := by
  apply Subtype.mk
  dsimp only [opsOf, cAt, kids, B18, bodyOf, Tryd.f18, List.getD, List.getElem?_cons_zero, List.getElem?_cons_succ, Option.getD_some]
@[simp] theorem n18_7 (s : List V) (H : Heap) : evCode P Γ call n f m (cAt [1, 1, 0, 0] B18) s H = regNext (evOpsGo P Γ call r18_7.1 r18_7.1 s H) := at_region (by kernel_rfl) r18_7.2 s H
attribute [simp] r18_7
@[simp] theorem n18_8 (s : List V) (H : Heap) : evCode P Γ call n f m (cAt [1, 1, 0, 1] B18) s H = condW P Γ call n f m (cAt [1, 1, 0, 1, 0] B18) (cAt [1, 1, 0, 1, 1] B18) s H (evOperand Γ s (.tmp 19)) := at_cond (by kernel_rfl) (by kernel_rfl) rfl rfl s H
@[simp] theorem n18_9 (s : List V) (H : Heap) : evCode P Γ call n f m (cAt [1, 1, 0, 1, 0] B18) s H = seqNext P Γ call n f m (cAt [1, 1, 0, 1, 0, 1] B18) (evCode P Γ call n f m (cAt [1, 1, 0, 1, 0, 0] B18) s H) := at_seq (by kernel_rfl) rfl rfl s H
noncomputable def r18_10 : {l : List Oper // opsOf (cAt [1, 1, 0, 1, 0, 0] B18) = l} := by
  apply Subtype.mk
  dsimp only [opsOf, cAt, kids, B18, bodyOf, Tryd.f18, List.getD, List.getElem?_cons_zero, List.getElem?_cons_succ, Option.getD_some]
@[simp] theorem n18_10 (s : List V) (H : Heap) : evCode P Γ call n f m (cAt [1, 1, 0, 1, 0, 0] B18) s H = regNext (evOpsGo P Γ call r18_10.1 r18_10.1 s H) := at_region (by kernel_rfl) r18_10.2 s H
attribute [simp] r18_10
@[simp] theorem n18_11 (s : List V) (H : Heap) : evCode P Γ call n f m (cAt [1, 1, 0, 1, 0, 1] B18) s H = some (.ret, s, H) := at_ret (by kernel_rfl) s H
@[simp] theorem n18_12 (s : List V) (H : Heap) : evCode P Γ call n f m (cAt [1, 1, 0, 1, 1] B18) s H = some (.normal, s, H) := at_skip (by kernel_rfl) s H
@[simp] theorem n18_13 (s : List V) (H : Heap) : evCode P Γ call n f m (cAt [1, 1, 1] B18) s H = seqNext P Γ call n f m (cAt [1, 1, 1, 1] B18) (evCode P Γ call n f m (cAt [1, 1, 1, 0] B18) s H) := at_seq (by kernel_rfl) rfl rfl s H
@[simp] theorem n18_14 (s : List V) (H : Heap) : evCode P Γ call n f m (cAt [1, 1, 1, 0] B18) s H = seqNext P Γ call n f m (cAt [1, 1, 1, 0, 1] B18) (evCode P Γ call n f m (cAt [1, 1, 1, 0, 0] B18) s H) := at_seq (by kernel_rfl) rfl rfl s H
noncomputable def r18_15 : {l : List Oper // opsOf (cAt [1, 1, 1, 0, 0] B18) = l} := by
  apply Subtype.mk
  dsimp only [opsOf, cAt, kids, B18, bodyOf, Tryd.f18, List.getD, List.getElem?_cons_zero, List.getElem?_cons_succ, Option.getD_some]
@[simp] theorem n18_15 (s : List V) (H : Heap) : evCode P Γ call n f m (cAt [1, 1, 1, 0, 0] B18) s H = regNext (evOpsGo P Γ call r18_15.1 r18_15.1 s H) := at_region (by kernel_rfl) r18_15.2 s H
attribute [simp] r18_15
@[simp] theorem n18_16 (s : List V) (H : Heap) : evCode P Γ call n f m (cAt [1, 1, 1, 0, 1] B18) s H = condW P Γ call n f m (cAt [1, 1, 1, 0, 1, 0] B18) (cAt [1, 1, 1, 0, 1, 1] B18) s H (evOperand Γ s (.tmp 23)) := at_cond (by kernel_rfl) (by kernel_rfl) rfl rfl s H
@[simp] theorem n18_17 (s : List V) (H : Heap) : evCode P Γ call n f m (cAt [1, 1, 1, 0, 1, 0] B18) s H = seqNext P Γ call n f m (cAt [1, 1, 1, 0, 1, 0, 1] B18) (evCode P Γ call n f m (cAt [1, 1, 1, 0, 1, 0, 0] B18) s H) := at_seq (by kernel_rfl) rfl rfl s H
noncomputable def r18_18 : {l : List Oper // opsOf (cAt [1, 1, 1, 0, 1, 0, 0] B18) = l} := by
  apply Subtype.mk
  dsimp only [opsOf, cAt, kids, B18, bodyOf, Tryd.f18, List.getD, List.getElem?_cons_zero, List.getElem?_cons_succ, Option.getD_some]
@[simp] theorem n18_18 (s : List V) (H : Heap) : evCode P Γ call n f m (cAt [1, 1, 1, 0, 1, 0, 0] B18) s H = regNext (evOpsGo P Γ call r18_18.1 r18_18.1 s H) := at_region (by kernel_rfl) r18_18.2 s H
attribute [simp] r18_18
@[simp] theorem n18_19 (s : List V) (H : Heap) : evCode P Γ call n f m (cAt [1, 1, 1, 0, 1, 0, 1] B18) s H = some (.ret, s, H) := at_ret (by kernel_rfl) s H
@[simp] theorem n18_20 (s : List V) (H : Heap) : evCode P Γ call n f m (cAt [1, 1, 1, 0, 1, 1] B18) s H = some (.normal, s, H) := at_skip (by kernel_rfl) s H
@[simp] theorem n18_21 (s : List V) (H : Heap) : evCode P Γ call n f m (cAt [1, 1, 1, 1] B18) s H = seqNext P Γ call n f m (cAt [1, 1, 1, 1, 1] B18) (evCode P Γ call n f m (cAt [1, 1, 1, 1, 0] B18) s H) := at_seq (by kernel_rfl) rfl rfl s H
@[simp] theorem n18_22 (s : List V) (H : Heap) : evCode P Γ call n f m (cAt [1, 1, 1, 1, 0] B18) s H = seqNext P Γ call n f m (cAt [1, 1, 1, 1, 0, 1] B18) (evCode P Γ call n f m (cAt [1, 1, 1, 1, 0, 0] B18) s H) := at_seq (by kernel_rfl) rfl rfl s H
noncomputable def r18_23 : {l : List Oper // opsOf (cAt [1, 1, 1, 1, 0, 0] B18) = l} := by
  apply Subtype.mk
  dsimp only [opsOf, cAt, kids, B18, bodyOf, Tryd.f18, List.getD, List.getElem?_cons_zero, List.getElem?_cons_succ, Option.getD_some]
@[simp] theorem n18_23 (s : List V) (H : Heap) : evCode P Γ call n f m (cAt [1, 1, 1, 1, 0, 0] B18) s H = regNext (evOpsGo P Γ call r18_23.1 r18_23.1 s H) := at_region (by kernel_rfl) r18_23.2 s H
attribute [simp] r18_23
@[simp] theorem n18_24 (s : List V) (H : Heap) : evCode P Γ call n f m (cAt [1, 1, 1, 1, 0, 1] B18) s H = seqNext P Γ call n f m (cAt [1, 1, 1, 1, 0, 1, 1] B18) (evCode P Γ call n f m (cAt [1, 1, 1, 1, 0, 1, 0] B18) s H) := at_seq (by kernel_rfl) rfl rfl s H
noncomputable def r18_25 : {l : List Oper // opsOf (cAt [1, 1, 1, 1, 0, 1, 0] B18) = l} := by
  apply Subtype.mk
  dsimp only [opsOf, cAt, kids, B18, bodyOf, Tryd.f18, List.getD, List.getElem?_cons_zero, List.getElem?_cons_succ, Option.getD_some]
@[simp] theorem n18_25 (s : List V) (H : Heap) : evCode P Γ call n f m (cAt [1, 1, 1, 1, 0, 1, 0] B18) s H = regNext (evOpsGo P Γ call r18_25.1 r18_25.1 s H) := at_region (by kernel_rfl) r18_25.2 s H
attribute [simp] r18_25
@[simp] theorem n18_26 (s : List V) (H : Heap) : evCode P Γ call n f m (cAt [1, 1, 1, 1, 0, 1, 1] B18) s H = condW P Γ call n f m (cAt [1, 1, 1, 1, 0, 1, 1, 0] B18) (cAt [1, 1, 1, 1, 0, 1, 1, 1] B18) s H (evOperand Γ s (.tmp 34)) := at_cond (by kernel_rfl) (by kernel_rfl) rfl rfl s H
@[simp] theorem n18_27 (s : List V) (H : Heap) : evCode P Γ call n f m (cAt [1, 1, 1, 1, 0, 1, 1, 0] B18) s H = seqNext P Γ call n f m (cAt [1, 1, 1, 1, 0, 1, 1, 0, 1] B18) (evCode P Γ call n f m (cAt [1, 1, 1, 1, 0, 1, 1, 0, 0] B18) s H) := at_seq (by kernel_rfl) rfl rfl s H
noncomputable def r18_28 : {l : List Oper // opsOf (cAt [1, 1, 1, 1, 0, 1, 1, 0, 0] B18) = l} := by
  apply Subtype.mk
  dsimp only [opsOf, cAt, kids, B18, bodyOf, Tryd.f18, List.getD, List.getElem?_cons_zero, List.getElem?_cons_succ, Option.getD_some]
@[simp] theorem n18_28 (s : List V) (H : Heap) : evCode P Γ call n f m (cAt [1, 1, 1, 1, 0, 1, 1, 0, 0] B18) s H = regNext (evOpsGo P Γ call r18_28.1 r18_28.1 s H) := at_region (by kernel_rfl) r18_28.2 s H
attribute [simp] r18_28
@[simp] theorem n18_29 (s : List V) (H : Heap) : evCode P Γ call n f m (cAt [1, 1, 1, 1, 0, 1, 1, 0, 1] B18) s H = some (.ret, s, H) := at_ret (by kernel_rfl) s H
@[simp] theorem n18_30 (s : List V) (H : Heap) : evCode P Γ call n f m (cAt [1, 1, 1, 1, 0, 1, 1, 1] B18) s H = some (.normal, s, H) := at_skip (by kernel_rfl) s H
@[simp] theorem n18_31 (s : List V) (H : Heap) : evCode P Γ call n f m (cAt [1, 1, 1, 1, 1] B18) s H = seqNext P Γ call n f m (cAt [1, 1, 1, 1, 1, 1] B18) (evCode P Γ call n f m (cAt [1, 1, 1, 1, 1, 0] B18) s H) := at_seq (by kernel_rfl) rfl rfl s H
noncomputable def r18_32 : {l : List Oper // opsOf (cAt [1, 1, 1, 1, 1, 0] B18) = l} := by
  apply Subtype.mk
  dsimp only [opsOf, cAt, kids, B18, bodyOf, Tryd.f18, List.getD, List.getElem?_cons_zero, List.getElem?_cons_succ, Option.getD_some]
@[simp] theorem n18_32 (s : List V) (H : Heap) : evCode P Γ call n f m (cAt [1, 1, 1, 1, 1, 0] B18) s H = regNext (evOpsGo P Γ call r18_32.1 r18_32.1 s H) := at_region (by kernel_rfl) r18_32.2 s H
attribute [simp] r18_32
@[simp] theorem n18_33 (s : List V) (H : Heap) : evCode P Γ call n f m (cAt [1, 1, 1, 1, 1, 1] B18) s H = seqNext P Γ call n f m (cAt [1, 1, 1, 1, 1, 1, 1] B18) (evCode P Γ call n f m (cAt [1, 1, 1, 1, 1, 1, 0] B18) s H) := at_seq (by kernel_rfl) rfl rfl s H
@[simp] theorem n18_34 (s : List V) (H : Heap) : evCode P Γ call n f m (cAt [1, 1, 1, 1, 1, 1, 0] B18) s H = seqNext P Γ call n f m (cAt [1, 1, 1, 1, 1, 1, 0, 1] B18) (evCode P Γ call n f m (cAt [1, 1, 1, 1, 1, 1, 0, 0] B18) s H) := at_seq (by kernel_rfl) rfl rfl s H
noncomputable def r18_35 : {l : List Oper // opsOf (cAt [1, 1, 1, 1, 1, 1, 0, 0] B18) = l} := by
  apply Subtype.mk
  dsimp only [opsOf, cAt, kids, B18, bodyOf, Tryd.f18, List.getD, List.getElem?_cons_zero, List.getElem?_cons_succ, Option.getD_some]
@[simp] theorem n18_35 (s : List V) (H : Heap) : evCode P Γ call n f m (cAt [1, 1, 1, 1, 1, 1, 0, 0] B18) s H = regNext (evOpsGo P Γ call r18_35.1 r18_35.1 s H) := at_region (by kernel_rfl) r18_35.2 s H
attribute [simp] r18_35
@[simp] theorem n18_36 (s : List V) (H : Heap) : evCode P Γ call n f m (cAt [1, 1, 1, 1, 1, 1, 0, 1] B18) s H = condW P Γ call n f m (cAt [1, 1, 1, 1, 1, 1, 0, 1, 0] B18) (cAt [1, 1, 1, 1, 1, 1, 0, 1, 1] B18) s H (evOperand Γ s (.tmp 38)) := at_cond (by kernel_rfl) (by kernel_rfl) rfl rfl s H
noncomputable def r18_37 : {l : List Oper // opsOf (cAt [1, 1, 1, 1, 1, 1, 0, 1, 0] B18) = l} := by
  apply Subtype.mk
  dsimp only [opsOf, cAt, kids, B18, bodyOf, Tryd.f18, List.getD, List.getElem?_cons_zero, List.getElem?_cons_succ, Option.getD_some]
@[simp] theorem n18_37 (s : List V) (H : Heap) : evCode P Γ call n f m (cAt [1, 1, 1, 1, 1, 1, 0, 1, 0] B18) s H = regNext (evOpsGo P Γ call r18_37.1 r18_37.1 s H) := at_region (by kernel_rfl) r18_37.2 s H
attribute [simp] r18_37
@[simp] theorem n18_38 (s : List V) (H : Heap) : evCode P Γ call n f m (cAt [1, 1, 1, 1, 1, 1, 0, 1, 1] B18) s H = some (.normal, s, H) := at_skip (by kernel_rfl) s H
@[simp] theorem n18_39 (s : List V) (H : Heap) : evCode P Γ call n f m (cAt [1, 1, 1, 1, 1, 1, 1] B18) s H = seqNext P Γ call n f m (cAt [1, 1, 1, 1, 1, 1, 1, 1] B18) (evCode P Γ call n f m (cAt [1, 1, 1, 1, 1, 1, 1, 0] B18) s H) := at_seq (by kernel_rfl) rfl rfl s H
noncomputable def r18_40 : {l : List Oper // opsOf (cAt [1, 1, 1, 1, 1, 1, 1, 0] B18) = l} := by
  apply Subtype.mk
  dsimp only [opsOf, cAt, kids, B18, bodyOf, Tryd.f18, List.getD, List.getElem?_cons_zero, List.getElem?_cons_succ, Option.getD_some]
@[simp] theorem n18_40 (s : List V) (H : Heap) : evCode P Γ call n f m (cAt [1, 1, 1, 1, 1, 1, 1, 0] B18) s H = regNext (evOpsGo P Γ call r18_40.1 r18_40.1 s H) := at_region (by kernel_rfl) r18_40.2 s H
attribute [simp] r18_40
@[simp] theorem n18_41 (s : List V) (H : Heap) : evCode P Γ call n f m (cAt [1, 1, 1, 1, 1, 1, 1, 1] B18) s H = seqNext P Γ call n f m (cAt [1, 1, 1, 1, 1, 1, 1, 1, 1] B18) (evCode P Γ call n f m (cAt [1, 1, 1, 1, 1, 1, 1, 1, 0] B18) s H) := at_seq (by kernel_rfl) rfl rfl s H
noncomputable def r18_42 : {l : List Oper // opsOf (cAt [1, 1, 1, 1, 1, 1, 1, 1, 0] B18) = l} := by
  apply Subtype.mk
  dsimp only [opsOf, cAt, kids, B18, bodyOf, Tryd.f18, List.getD, List.getElem?_cons_zero, List.getElem?_cons_succ, Option.getD_some]
@[simp] theorem n18_42 (s : List V) (H : Heap) : evCode P Γ call n f m (cAt [1, 1, 1, 1, 1, 1, 1, 1, 0] B18) s H = regNext (drawR P Γ call r18_42.1 [([2, 3], [52, 53]), ([2, 3], [52, 53]), ([0, 1], [50, 51]), ([0, 1], [50, 51]), ([], []), ([], []), ([], [])] s H) := at_drawT (by kernel_rfl) r18_42.2 (by kernel_rfl) s H
attribute [simp] r18_42
@[simp] theorem n18_43 (s : List V) (H : Heap) : evCode P Γ call n f m (cAt [1, 1, 1, 1, 1, 1, 1, 1, 1] B18) s H = some (.ret, s, H) := at_ret (by kernel_rfl) s H
theorem b18 {k : Nat} (ho : ∀ args H, Γ.orc 18 args H = none) (args : List V) (H : Heap) (ha : args.length ≤ 55) : evF Tryd.prog Γ (k + 1) 18 args H = bodyEnd Tryd.prog [.tmp 4, .tmp 5] H.length (evCode Tryd.prog Γ (evF Tryd.prog Γ k) k 18 H.length (cAt [] B18) (mkL 55 V.undef (enumV 0 args)) H) := body_at Tryd.func18 (by decide) rfl ho rfl rfl args H ha
noncomputable def B22 : Code := bodyOf Tryd.f22
@[simp] theorem n22_1 (s : List V) (H : Heap) : evCode P Γ call n f m (cAt [] B22) s H = seqNext P Γ call n f m (cAt [1] B22) (evCode P Γ call n f m (cAt [0] B22) s H) := at_seq (by kernel_rfl) rfl rfl s H
noncomputable def r22_2 : {l : List Oper // opsOf (cAt [0] B22) = l} := by
  apply Subtype.mk
  dsimp only [opsOf, cAt, kids, B22, bodyOf, Tryd.f22, List.getD, List.getElem?_cons_zero, List.getElem?_cons_succ, Option.getD_some]
@[simp] theorem n22_2 (s : List V) (H : Heap) : evCode P Γ call n f m (cAt [0] B22) s H = regNext (evOpsGo P Γ call r22_2.1 r22_2.1 s H) := at_region (by kernel_rfl) r22_2.2 s H
attribute [simp] r22_2
@[simp] theorem n22_3 (s : List V) (H : Heap) : evCode P Γ call n f m (cAt [1] B22) s H = seqNext P Γ call n f m (cAt [1, 1] B22) (evCode P Γ call n f m (cAt [1, 0] B22) s H) := at_seq (by kernel_rfl) rfl rfl s H
@[simp] theorem n22_4 (s : List V) (H : Heap) : evCode P Γ call n f m (cAt [1, 0] B22) s H = seqNext P Γ call n f m (cAt [1, 0, 1] B22) (evCode P Γ call n f m (cAt [1, 0, 0] B22) s H) := at_seq (by kernel_rfl) rfl rfl s H
noncomputable def r22_5 : {l : List Oper // opsOf (cAt [1, 0, 0] B22) = l} := by
  apply Subtype.mk
  dsimp only [opsOf, cAt, kids, B22, bodyOf, Tryd.f22, List.getD, List.getElem?_cons_zero, List.getElem?_cons_succ, Option.getD_some]
@[simp] theorem n22_5 (s : List V) (H : Heap) : evCode P Γ call n f m (cAt [1, 0, 0] B22) s H = regNext (evOpsGo P Γ call r22_5.1 r22_5.1 s H) := at_region (by kernel_rfl) r22_5.2 s H
attribute [simp] r22_5
@[simp] theorem n22_6 (s : List V) (H : Heap) : evCode P Γ call n f m (cAt [1, 0, 1] B22) s H = condW P Γ call n f m (cAt [1, 0, 1, 0] B22) (cAt [1, 0, 1, 1] B22) s H (evOperand Γ s (.tmp 15)) := at_cond (by kernel_rfl) (by kernel_rfl) rfl rfl s H
@[simp] theorem n22_7 (s : List V) (H : Heap) : evCode P Γ call n f m (cAt [1, 0, 1, 0] B22) s H = seqNext P Γ call n f m (cAt [1, 0, 1, 0, 1] B22) (evCode P Γ call n f m (cAt [1, 0, 1, 0, 0] B22) s H) := at_seq (by kernel_rfl) rfl rfl s H
noncomputable def r22_8 : {l : List Oper // opsOf (cAt [1, 0, 1, 0, 0] B22) = l} := by
  apply Subtype.mk
  dsimp only [opsOf, cAt, kids, B22, bodyOf, Tryd.f22, List.getD, List.getElem?_cons_zero, List.getElem?_cons_succ, Option.getD_some]
@[simp] theorem n22_8 (s : List V) (H : Heap) : evCode P Γ call n f m (cAt [1, 0, 1, 0, 0] B22) s H = regNext (evOpsGo P Γ call r22_8.1 r22_8.1 s H) := at_region (by kernel_rfl) r22_8.2 s H
attribute [simp] r22_8
@[simp] theorem n22_9 (s : List V) (H : Heap) : evCode P Γ call n f m (cAt [1, 0, 1, 0, 1] B22) s H = some (.ret, s, H) := at_ret (by kernel_rfl) s H
@[simp] theorem n22_10 (s : List V) (H : Heap) : evCode P Γ call n f m (cAt [1, 0, 1, 1] B22) s H = some (.normal, s, H) := at_skip (by kernel_rfl) s H
@[simp] theorem n22_11 (s : List V) (H : Heap) : evCode P Γ call n f m (cAt [1, 1] B22) s H = seqNext P Γ call n f m (cAt [1, 1, 1] B22) (evCode P Γ call n f m (cAt [1, 1, 0] B22) s H) := at_seq (by kernel_rfl) rfl rfl s H
noncomputable def r22_12 : {l : List Oper // opsOf (cAt [1, 1, 0] B22) = l} := by
  apply Subtype.mk
  dsimp only [opsOf, cAt, kids, B22, bodyOf, Tryd.f22, List.getD, List.getElem?_cons_zero, List.getElem?_cons_succ, Option.getD_some]
@[simp] theorem n22_12 (s : List V) (H : Heap) : evCode P Γ call n f m (cAt [1, 1, 0] B22) s H = regNext (evOpsGo P Γ call r22_12.1 r22_12.1 s H) := at_region (by kernel_rfl) r22_12.2 s H
attribute [simp] r22_12
@[simp] theorem n22_13 (s : List V) (H : Heap) : evCode P Γ call n f m (cAt [1, 1, 1] B22) s H = seqNext P Γ call n f m (cAt [1, 1, 1, 1] B22) (evCode P Γ call n f m (cAt [1, 1, 1, 0] B22) s H) := at_seq (by kernel_rfl) rfl rfl s H
noncomputable def r22_14 : {l : List Oper // opsOf (cAt [1, 1, 1, 0] B22) = l} := by
  apply Subtype.mk
  dsimp only [opsOf, cAt, kids, B22, bodyOf, Tryd.f22, List.getD, List.getElem?_cons_zero, List.getElem?_cons_succ, Option.getD_some]
@[simp] theorem n22_14 (s : List V) (H : Heap) : evCode P Γ call n f m (cAt [1, 1, 1, 0] B22) s H = regNext (evOpsGo P Γ call r22_14.1 r22_14.1 s H) := at_region (by kernel_rfl) r22_14.2 s H
attribute [simp] r22_14
@[simp] theorem n22_15 (s : List V) (H : Heap) : evCode P Γ call n f m (cAt [1, 1, 1, 1] B22) s H = seqNext P Γ call n f m (cAt [1, 1, 1, 1, 1] B22) (evCode P Γ call n f m (cAt [1, 1, 1, 1, 0] B22) s H) := at_seq (by kernel_rfl) rfl rfl s H
noncomputable def r22_16 : {l : List Oper // opsOf (cAt [1, 1, 1, 1, 0] B22) = l} := by
  apply Subtype.mk
  dsimp only [opsOf, cAt, kids, B22, bodyOf, Tryd.f22, List.getD, List.getElem?_cons_zero, List.getElem?_cons_succ, Option.getD_some]
@[simp] theorem n22_16 (s : List V) (H : Heap) : evCode P Γ call n f m (cAt [1, 1, 1, 1, 0] B22) s H = regNext (evOpsGo P Γ call r22_16.1 r22_16.1 s H) := at_region (by kernel_rfl) r22_16.2 s H
attribute [simp] r22_16
@[simp] theorem n22_17 (s : List V) (H : Heap) : evCode P Γ call n f m (cAt [1, 1, 1, 1, 1] B22) s H = some (.ret, s, H) := at_ret (by kernel_rfl) s H
theorem b22 {k : Nat} (ho : ∀ args H, Γ.orc 22 args H = none) (args : List V) (H : Heap) (ha : args.length ≤ 33) : evF Tryd.prog Γ (k + 1) 22 args H = bodyEnd Tryd.prog [.tmp 4] H.length (evCode Tryd.prog Γ (evF Tryd.prog Γ k) k 22 H.length (cAt [] B22) (mkL 33 V.undef (enumV 0 args)) H) := body_at Tryd.func22 (by decide) rfl ho rfl rfl args H ha
noncomputable def B23 : Code := bodyOf Tryd.f23
@[simp] theorem n23_1 (s : List V) (H : Heap) : evCode P Γ call n f m (cAt [] B23) s H = seqNext P Γ call n f m (cAt [1] B23) (evCode P Γ call n f m (cAt [0] B23) s H) := at_seq (by kernel_rfl) rfl rfl s H
noncomputable def r23_2 : {l : List Oper // opsOf (cAt [0] B23) = l} := by
  apply Subtype.mk
  dsimp only [opsOf, cAt, kids, B23, bodyOf, Tryd.f23, List.getD, List.getElem?_cons_zero, List.getElem?_cons_succ, Option.getD_some]
@[simp] theorem n23_2 (s : List V) (H : Heap) : evCode P Γ call n f m (cAt [0] B23) s H = regNext (evOpsGo P Γ call r23_2.1 r23_2.1 s H) := at_region (by kernel_rfl) r23_2.2 s H
attribute [simp] r23_2
@[simp] theorem n23_3 (s : List V) (H : Heap) : evCode P Γ call n f m (cAt [1] B23) s H = seqNext P Γ call n f m (cAt [1, 1] B23) (evCode P Γ call n f m (cAt [1, 0] B23) s H) := at_seq (by kernel_rfl) rfl rfl s H
@[simp] theorem n23_4 (s : List V) (H : Heap) : evCode P Γ call n f m (cAt [1, 0] B23) s H = blockNext 0 (evCode P Γ call n f m (cAt [1, 0, 0] B23) s H) := at_block (by kernel_rfl) rfl s H
@[simp] theorem n23_5 (s : List V) (H : Heap) : evCode P Γ call n f m (cAt [1, 0, 0] B23) s H = seqNext P Γ call n f m (cAt [1, 0, 0, 1] B23) (evCode P Γ call n f m (cAt [1, 0, 0, 0] B23) s H) := at_seq (by kernel_rfl) rfl rfl s H
noncomputable def r23_6 : {l : List Oper // opsOf (cAt [1, 0, 0, 0] B23) = l} := by
  apply Subtype.mk
  dsimp only [opsOf, cAt, kids, B23, bodyOf, Tryd.f23, List.getD, List.getElem?_cons_zero, List.getElem?_cons_succ, Option.getD_some]
@[simp] theorem n23_6 (s : List V) (H : Heap) : evCode P Γ call n f m (cAt [1, 0, 0, 0] B23) s H = regNext (evOpsGo P Γ call r23_6.1 r23_6.1 s H) := at_region (by kernel_rfl) r23_6.2 s H
attribute [simp] r23_6
@[simp] theorem n23_7 (s : List V) (H : Heap) : evCode P Γ call n f m (cAt [1, 0, 0, 1] B23) s H = condW P Γ call n f m (cAt [1, 0, 0, 1, 0] B23) (cAt [1, 0, 0, 1, 1] B23) s H (evOperand Γ s (.tmp 8)) := at_cond (by kernel_rfl) (by kernel_rfl) rfl rfl s H
@[simp] theorem n23_8 (s : List V) (H : Heap) : evCode P Γ call n f m (cAt [1, 0, 0, 1, 0] B23) s H = seqNext P Γ call n f m (cAt [1, 0, 0, 1, 0, 1] B23) (evCode P Γ call n f m (cAt [1, 0, 0, 1, 0, 0] B23) s H) := at_seq (by kernel_rfl) rfl rfl s H
noncomputable def r23_9 : {l : List Oper // opsOf (cAt [1, 0, 0, 1, 0, 0] B23) = l} := by
  apply Subtype.mk
  dsimp only [opsOf, cAt, kids, B23, bodyOf, Tryd.f23, List.getD, List.getElem?_cons_zero, List.getElem?_cons_succ, Option.getD_some]
@[simp] theorem n23_9 (s : List V) (H : Heap) : evCode P Γ call n f m (cAt [1, 0, 0, 1, 0, 0] B23) s H = regNext (evOpsGo P Γ call r23_9.1 r23_9.1 s H) := at_region (by kernel_rfl) r23_9.2 s H
attribute [simp] r23_9
@[simp] theorem n23_10 (s : List V) (H : Heap) : evCode P Γ call n f m (cAt [1, 0, 0, 1, 0, 1] B23) s H = some (.ret, s, H) := at_ret (by kernel_rfl) s H
@[simp] theorem n23_11 (s : List V) (H : Heap) : evCode P Γ call n f m (cAt [1, 0, 0, 1, 1] B23) s H = seqNext P Γ call n f m (cAt [1, 0, 0, 1, 1, 1] B23) (evCode P Γ call n f m (cAt [1, 0, 0, 1, 1, 0] B23) s H) := at_seq (by kernel_rfl) rfl rfl s H
noncomputable def r23_12 : {l : List Oper // opsOf (cAt [1, 0, 0, 1, 1, 0] B23) = l} := by
  apply Subtype.mk
  dsimp only [opsOf, cAt, kids, B23, bodyOf, Tryd.f23, List.getD, List.getElem?_cons_zero, List.getElem?_cons_succ, Option.getD_some]
@[simp] theorem n23_12 (s : List V) (H : Heap) : evCode P Γ call n f m (cAt [1, 0, 0, 1, 1, 0] B23) s H = regNext (evOpsGo P Γ call r23_12.1 r23_12.1 s H) := at_region (by kernel_rfl) r23_12.2 s H
attribute [simp] r23_12
@[simp] theorem n23_13 (s : List V) (H : Heap) : evCode P Γ call n f m (cAt [1, 0, 0, 1, 1, 1] B23) s H = condW P Γ call n f m (cAt [1, 0, 0, 1, 1, 1, 0] B23) (cAt [1, 0, 0, 1, 1, 1, 1] B23) s H (evOperand Γ s (.tmp 18)) := at_cond (by kernel_rfl) (by kernel_rfl) rfl rfl s H
@[simp] theorem n23_14 (s : List V) (H : Heap) : evCode P Γ call n f m (cAt [1, 0, 0, 1, 1, 1, 0] B23) s H = seqNext P Γ call n f m (cAt [1, 0, 0, 1, 1, 1, 0, 1] B23) (evCode P Γ call n f m (cAt [1, 0, 0, 1, 1, 1, 0, 0] B23) s H) := at_seq (by kernel_rfl) rfl rfl s H
noncomputable def r23_15 : {l : List Oper // opsOf (cAt [1, 0, 0, 1, 1, 1, 0, 0] B23) = l} := by
  apply Subtype.mk
  dsimp only [opsOf, cAt, kids, B23, bodyOf, Tryd.f23, List.getD, List.getElem?_cons_zero, List.getElem?_cons_succ, Option.getD_some]
@[simp] theorem n23_15 (s : List V) (H : Heap) : evCode P Γ call n f m (cAt [1, 0, 0, 1, 1, 1, 0, 0] B23) s H = regNext (evOpsGo P Γ call r23_15.1 r23_15.1 s H) := at_region (by kernel_rfl) r23_15.2 s H
attribute [simp] r23_15
@[simp] theorem n23_16 (s : List V) (H : Heap) : evCode P Γ call n f m (cAt [1, 0, 0, 1, 1, 1, 0, 1] B23) s H = some (.ret, s, H) := at_ret (by kernel_rfl) s H
@[simp] theorem n23_17 (s : List V) (H : Heap) : evCode P Γ call n f m (cAt [1, 0, 0, 1, 1, 1, 1] B23) s H = seqNext P Γ call n f m (cAt [1, 0, 0, 1, 1, 1, 1, 1] B23) (evCode P Γ call n f m (cAt [1, 0, 0, 1, 1, 1, 1, 0] B23) s H) := at_seq (by kernel_rfl) rfl rfl s H
noncomputable def r23_18 : {l : List Oper // opsOf (cAt [1, 0, 0, 1, 1, 1, 1, 0] B23) = l} := by
  apply Subtype.mk
  dsimp only [opsOf, cAt, kids, B23, bodyOf, Tryd.f23, List.getD, List.getElem?_cons_zero, List.getElem?_cons_succ, Option.getD_some]
@[simp] theorem n23_18 (s : List V) (H : Heap) : evCode P Γ call n f m (cAt [1, 0, 0, 1, 1, 1, 1, 0] B23) s H = regNext (evOpsGo P Γ call r23_18.1 r23_18.1 s H) := at_region (by kernel_rfl) r23_18.2 s H
attribute [simp] r23_18
@[simp] theorem n23_19 (s : List V) (H : Heap) : evCode P Γ call n f m (cAt [1, 0, 0, 1, 1, 1, 1, 1] B23) s H = condW P Γ call n f m (cAt [1, 0, 0, 1, 1, 1, 1, 1, 0] B23) (cAt [1, 0, 0, 1, 1, 1, 1, 1, 1] B23) s H (evOperand Γ s (.tmp 35)) := at_cond (by kernel_rfl) (by kernel_rfl) rfl rfl s H
@[simp] theorem n23_20 (s : List V) (H : Heap) : evCode P Γ call n f m (cAt [1, 0, 0, 1, 1, 1, 1, 1, 0] B23) s H = seqNext P Γ call n f m (cAt [1, 0, 0, 1, 1, 1, 1, 1, 0, 1] B23) (evCode P Γ call n f m (cAt [1, 0, 0, 1, 1, 1, 1, 1, 0, 0] B23) s H) := at_seq (by kernel_rfl) rfl rfl s H
noncomputable def r23_21 : {l : List Oper // opsOf (cAt [1, 0, 0, 1, 1, 1, 1, 1, 0, 0] B23) = l} := by
  apply Subtype.mk
  dsimp only [opsOf, cAt, kids, B23, bodyOf, Tryd.f23, List.getD, List.getElem?_cons_zero, List.getElem?_cons_succ, Option.getD_some]
@[simp] theorem n23_21 (s : List V) (H : Heap) : evCode P Γ call n f m (cAt [1, 0, 0, 1, 1, 1, 1, 1, 0, 0] B23) s H = regNext (evOpsGo P Γ call r23_21.1 r23_21.1 s H) := at_region (by kernel_rfl) r23_21.2 s H
attribute [simp] r23_21
@[simp] theorem n23_22 (s : List V) (H : Heap) : evCode P Γ call n f m (cAt [1, 0, 0, 1, 1, 1, 1, 1, 0, 1] B23) s H = some (.ret, s, H) := at_ret (by kernel_rfl) s H
@[simp] theorem n23_23 (s : List V) (H : Heap) : evCode P Γ call n f m (cAt [1, 0, 0, 1, 1, 1, 1, 1, 1] B23) s H = seqNext P Γ call n f m (cAt [1, 0, 0, 1, 1, 1, 1, 1, 1, 1] B23) (evCode P Γ call n f m (cAt [1, 0, 0, 1, 1, 1, 1, 1, 1, 0] B23) s H) := at_seq (by kernel_rfl) rfl rfl s H
noncomputable def r23_24 : {l : List Oper // opsOf (cAt [1, 0, 0, 1, 1, 1, 1, 1, 1, 0] B23) = l} := by
  apply Subtype.mk
  dsimp only [opsOf, cAt, kids, B23, bodyOf, Tryd.f23, List.getD, List.getElem?_cons_zero, List.getElem?_cons_succ, Option.getD_some]
@[simp] theorem n23_24 (s : List V) (H : Heap) : evCode P Γ call n f m (cAt [1, 0, 0, 1, 1, 1, 1, 1, 1, 0] B23) s H = regNext (evOpsGo P Γ call r23_24.1 r23_24.1 s H) := at_region (by kernel_rfl) r23_24.2 s H
attribute [simp] r23_24
@[simp] theorem n23_25 (s : List V) (H : Heap) : evCode P Γ call n f m (cAt [1, 0, 0, 1, 1, 1, 1, 1, 1, 1] B23) s H = condW P Γ call n f m (cAt [1, 0, 0, 1, 1, 1, 1, 1, 1, 1, 0] B23) (cAt [1, 0, 0, 1, 1, 1, 1, 1, 1, 1, 1] B23) s H (evOperand Γ s (.tmp 60)) := at_cond (by kernel_rfl) (by kernel_rfl) rfl rfl s H
@[simp] theorem n23_26 (s : List V) (H : Heap) : evCode P Γ call n f m (cAt [1, 0, 0, 1, 1, 1, 1, 1, 1, 1, 0] B23) s H = seqNext P Γ call n f m (cAt [1, 0, 0, 1, 1, 1, 1, 1, 1, 1, 0, 1] B23) (evCode P Γ call n f m (cAt [1, 0, 0, 1, 1, 1, 1, 1, 1, 1, 0, 0] B23) s H) := at_seq (by kernel_rfl) rfl rfl s H
noncomputable def r23_27 : {l : List Oper // opsOf (cAt [1, 0, 0, 1, 1, 1, 1, 1, 1, 1, 0, 0] B23) = l} := by
  apply Subtype.mk
  dsimp only [opsOf, cAt, kids, B23, bodyOf, Tryd.f23, List.getD, List.getElem?_cons_zero, List.getElem?_cons_succ, Option.getD_some]
@[simp] theorem n23_27 (s : List V) (H : Heap) : evCode P Γ call n f m (cAt [1, 0, 0, 1, 1, 1, 1, 1, 1, 1, 0, 0] B23) s H = regNext (evOpsGo P Γ call r23_27.1 r23_27.1 s H) := at_region (by kernel_rfl) r23_27.2 s H
attribute [simp] r23_27
@[simp] theorem n23_28 (s : List V) (H : Heap) : evCode P Γ call n f m (cAt [1, 0, 0, 1, 1, 1, 1, 1, 1, 1, 0, 1] B23) s H = some (.ret, s, H) := at_ret (by kernel_rfl) s H
@[simp] theorem n23_29 (s : List V) (H : Heap) : evCode P Γ call n f m (cAt [1, 0, 0, 1, 1, 1, 1, 1, 1, 1, 1] B23) s H = seqNext P Γ call n f m (cAt [1, 0, 0, 1, 1, 1, 1, 1, 1, 1, 1, 1] B23) (evCode P Γ call n f m (cAt [1, 0, 0, 1, 1, 1, 1, 1, 1, 1, 1, 0] B23) s H) := at_seq (by kernel_rfl) rfl rfl s H
noncomputable def r23_30 : {l : List Oper // opsOf (cAt [1, 0, 0, 1, 1, 1, 1, 1, 1, 1, 1, 0] B23) = l} := by
  apply Subtype.mk
  dsimp only [opsOf, cAt, kids, B23, bodyOf, Tryd.f23, List.getD, List.getElem?_cons_zero, List.getElem?_cons_succ, Option.getD_some]
@[simp] theorem n23_30 (s : List V) (H : Heap) : evCode P Γ call n f m (cAt [1, 0, 0, 1, 1, 1, 1, 1, 1, 1, 1, 0] B23) s H = regNext (evOpsGo P Γ call r23_30.1 r23_30.1 s H) := at_region (by kernel_rfl) r23_30.2 s H
attribute [simp] r23_30
@[simp] theorem n23_31 (s : List V) (H : Heap) : evCode P Γ call n f m (cAt [1, 0, 0, 1, 1, 1, 1, 1, 1, 1, 1, 1] B23) s H = condW P Γ call n f m (cAt [1, 0, 0, 1, 1, 1, 1, 1, 1, 1, 1, 1, 0] B23) (cAt [1, 0, 0, 1, 1, 1, 1, 1, 1, 1, 1, 1, 1] B23) s H (evOperand Γ s (.tmp 72)) := at_cond (by kernel_rfl) (by kernel_rfl) rfl rfl s H
@[simp] theorem n23_32 (s : List V) (H : Heap) : evCode P Γ call n f m (cAt [1, 0, 0, 1, 1, 1, 1, 1, 1, 1, 1, 1, 0] B23) s H = seqNext P Γ call n f m (cAt [1, 0, 0, 1, 1, 1, 1, 1, 1, 1, 1, 1, 0, 1] B23) (evCode P Γ call n f m (cAt [1, 0, 0, 1, 1, 1, 1, 1, 1, 1, 1, 1, 0, 0] B23) s H) := at_seq (by kernel_rfl) rfl rfl s H
noncomputable def r23_33 : {l : List Oper // opsOf (cAt [1, 0, 0, 1, 1, 1, 1, 1, 1, 1, 1, 1, 0, 0] B23) = l} := by
  apply Subtype.mk
  dsimp only [opsOf, cAt, kids, B23, bodyOf, Tryd.f23, List.getD, List.getElem?_cons_zero, List.getElem?_cons_succ, Option.getD_some]
@[simp] theorem n23_33 (s : List V) (H : Heap) : evCode P Γ call n f m (cAt [1, 0, 0, 1, 1, 1, 1, 1, 1, 1, 1, 1, 0, 0] B23) s H = regNext (evOpsGo P Γ call r23_33.1 r23_33.1 s H) := at_region (by kernel_rfl) r23_33.2 s H
attribute [simp] r23_33
@[simp] theorem n23_34 (s : List V) (H : Heap) : evCode P Γ call n f m (cAt [1, 0, 0, 1, 1, 1, 1, 1, 1, 1, 1, 1, 0, 1] B23) s H = some (.ret, s, H) := at_ret (by kernel_rfl) s H
@[simp] theorem n23_35 (s : List V) (H : Heap) : evCode P Γ call n f m (cAt [1, 0, 0, 1, 1, 1, 1, 1, 1, 1, 1, 1, 1] B23) s H = seqNext P Γ call n f m (cAt [1, 0, 0, 1, 1, 1, 1, 1, 1, 1, 1, 1, 1, 1] B23) (evCode P Γ call n f m (cAt [1, 0, 0, 1, 1, 1, 1, 1, 1, 1, 1, 1, 1, 0] B23) s H) := at_seq (by kernel_rfl) rfl rfl s H
noncomputable def r23_36 : {l : List Oper // opsOf (cAt [1, 0, 0, 1, 1, 1, 1, 1, 1, 1, 1, 1, 1, 0] B23) = l} := by
  apply Subtype.mk
  dsimp only [opsOf, cAt, kids, B23, bodyOf, Tryd.f23, List.getD, List.getElem?_cons_zero, List.getElem?_cons_succ, Option.getD_some]
@[simp] theorem n23_36 (s : List V) (H : Heap) : evCode P Γ call n f m (cAt [1, 0, 0, 1, 1, 1, 1, 1, 1, 1, 1, 1, 1, 0] B23) s H = regNext (evOpsGo P Γ call r23_36.1 r23_36.1 s H) := at_region (by kernel_rfl) r23_36.2 s H
attribute [simp] r23_36
@[simp] theorem n23_37 (s : List V) (H : Heap) : evCode P Γ call n f m (cAt [1, 0, 0, 1, 1, 1, 1, 1, 1, 1, 1, 1, 1, 1] B23) s H = condW P Γ call n f m (cAt [1, 0, 0, 1, 1, 1, 1, 1, 1, 1, 1, 1, 1, 1, 0] B23) (cAt [1, 0, 0, 1, 1, 1, 1, 1, 1, 1, 1, 1, 1, 1, 1] B23) s H (evOperand Γ s (.tmp 79)) := at_cond (by kernel_rfl) (by kernel_rfl) rfl rfl s H
@[simp] theorem n23_38 (s : List V) (H : Heap) : evCode P Γ call n f m (cAt [1, 0, 0, 1, 1, 1, 1, 1, 1, 1, 1, 1, 1, 1, 0] B23) s H = seqNext P Γ call n f m (cAt [1, 0, 0, 1, 1, 1, 1, 1, 1, 1, 1, 1, 1, 1, 0, 1] B23) (evCode P Γ call n f m (cAt [1, 0, 0, 1, 1, 1, 1, 1, 1, 1, 1, 1, 1, 1, 0, 0] B23) s H) := at_seq (by kernel_rfl) rfl rfl s H
noncomputable def r23_39 : {l : List Oper // opsOf (cAt [1, 0, 0, 1, 1, 1, 1, 1, 1, 1, 1, 1, 1, 1, 0, 0] B23) = l} := by
  apply Subtype.mk
  dsimp only [opsOf, cAt, kids, B23, bodyOf, Tryd.f23, List.getD, List.getElem?_cons_zero, List.getElem?_cons_succ, Option.getD_some]
@[simp] theorem n23_39 (s : List V) (H : Heap) : evCode P Γ call n f m (cAt [1, 0, 0, 1, 1, 1, 1, 1, 1, 1, 1, 1, 1, 1, 0, 0] B23) s H = regNext (evOpsGo P Γ call r23_39.1 r23_39.1 s H) := at_region (by kernel_rfl) r23_39.2 s H
attribute [simp] r23_39
@[simp] theorem n23_40 (s : List V) (H : Heap) : evCode P Γ call n f m (cAt [1, 0, 0, 1, 1, 1, 1, 1, 1, 1, 1, 1, 1, 1, 0, 1] B23) s H = some (.ret, s, H) := at_ret (by kernel_rfl) s H
@[simp] theorem n23_41 (s : List V) (H : Heap) : evCode P Γ call n f m (cAt [1, 0, 0, 1, 1, 1, 1, 1, 1, 1, 1, 1, 1, 1, 1] B23) s H = seqNext P Γ call n f m (cAt [1, 0, 0, 1, 1, 1, 1, 1, 1, 1, 1, 1, 1, 1, 1, 1] B23) (evCode P Γ call n f m (cAt [1, 0, 0, 1, 1, 1, 1, 1, 1, 1, 1, 1, 1, 1, 1, 0] B23) s H) := at_seq (by kernel_rfl) rfl rfl s H
noncomputable def r23_42 : {l : List Oper // opsOf (cAt [1, 0, 0, 1, 1, 1, 1, 1, 1, 1, 1, 1, 1, 1, 1, 0] B23) = l} := by
  apply Subtype.mk
  dsimp only [opsOf, cAt, kids, B23, bodyOf, Tryd.f23, List.getD, List.getElem?_cons_zero, List.getElem?_cons_succ, Option.getD_some]
@[simp] theorem n23_42 (s : List V) (H : Heap) : evCode P Γ call n f m (cAt [1, 0, 0, 1, 1, 1, 1, 1, 1, 1, 1, 1, 1, 1, 1, 0] B23) s H = regNext (evOpsGo P Γ call r23_42.1 r23_42.1 s H) := at_region (by kernel_rfl) r23_42.2 s H
attribute [simp] r23_42
@[simp] theorem n23_43 (s : List V) (H : Heap) : evCode P Γ call n f m (cAt [1, 0, 0, 1, 1, 1, 1, 1, 1, 1, 1, 1, 1, 1, 1, 1] B23) s H = condW P Γ call n f m (cAt [1, 0, 0, 1, 1, 1, 1, 1, 1, 1, 1, 1, 1, 1, 1, 1, 0] B23) (cAt [1, 0, 0, 1, 1, 1, 1, 1, 1, 1, 1, 1, 1, 1, 1, 1, 1] B23) s H (evOperand Γ s (.tmp 90)) := at_cond (by kernel_rfl) (by kernel_rfl) rfl rfl s H
@[simp] theorem n23_44 (s : List V) (H : Heap) : evCode P Γ call n f m (cAt [1, 0, 0, 1, 1, 1, 1, 1, 1, 1, 1, 1, 1, 1, 1, 1, 0] B23) s H = seqNext P Γ call n f m (cAt [1, 0, 0, 1, 1, 1, 1, 1, 1, 1, 1, 1, 1, 1, 1, 1, 0, 1] B23) (evCode P Γ call n f m (cAt [1, 0, 0, 1, 1, 1, 1, 1, 1, 1, 1, 1, 1, 1, 1, 1, 0, 0] B23) s H) := at_seq (by kernel_rfl) rfl rfl s H
noncomputable def r23_45 : {l : List Oper // opsOf (cAt [1, 0, 0, 1, 1, 1, 1, 1, 1, 1, 1, 1, 1, 1, 1, 1, 0, 0] B23) = l} := by
  apply Subtype.mk
  dsimp only [opsOf, cAt, kids, B23, bodyOf, Tryd.f23, List.getD, List.getElem?_cons_zero, List.getElem?_cons_succ, Option.getD_some]
@[simp] theorem n23_45 (s : List V) (H : Heap) : evCode P Γ call n f m (cAt [1, 0, 0, 1, 1, 1, 1, 1, 1, 1, 1, 1, 1, 1, 1, 1, 0, 0] B23) s H = regNext (evOpsGo P Γ call r23_45.1 r23_45.1 s H) := at_region (by kernel_rfl) r23_45.2 s H
attribute [simp] r23_45
@[simp] theorem n23_46 (s : List V) (H : Heap) : evCode P Γ call n f m (cAt [1, 0, 0, 1, 1, 1, 1, 1, 1, 1, 1, 1, 1, 1, 1, 1, 0, 1] B23) s H = some (.ret, s, H) := at_ret (by kernel_rfl) s H
@[simp] theorem n23_47 (s : List V) (H : Heap) : evCode P Γ call n f m (cAt [1, 0, 0, 1, 1, 1, 1, 1, 1, 1, 1, 1, 1, 1, 1, 1, 1] B23) s H = seqNext P Γ call n f m (cAt [1, 0, 0, 1, 1, 1, 1, 1, 1, 1, 1, 1, 1, 1, 1, 1, 1, 1] B23) (evCode P Γ call n f m (cAt [1, 0, 0, 1, 1, 1, 1, 1, 1, 1, 1, 1, 1, 1, 1, 1, 1, 0] B23) s H) := at_seq (by kernel_rfl) rfl rfl s H
noncomputable def r23_48 : {l : List Oper // opsOf (cAt [1, 0, 0, 1, 1, 1, 1, 1, 1, 1, 1, 1, 1, 1, 1, 1, 1, 0] B23) = l} := by
  apply Subtype.mk
  dsimp only [opsOf, cAt, kids, B23, bodyOf, Tryd.f23, List.getD, List.getElem?_cons_zero, List.getElem?_cons_succ, Option.getD_some]
@[simp] theorem n23_48 (s : List V) (H : Heap) : evCode P Γ call n f m (cAt [1, 0, 0, 1, 1, 1, 1, 1, 1, 1, 1, 1, 1, 1, 1, 1, 1, 0] B23) s H = regNext (evOpsGo P Γ call r23_48.1 r23_48.1 s H) := at_region (by kernel_rfl) r23_48.2 s H
attribute [simp] r23_48
@[simp] theorem n23_49 (s : List V) (H : Heap) : evCode P Γ call n f m (cAt [1, 0, 0, 1, 1, 1, 1, 1, 1, 1, 1, 1, 1, 1, 1, 1, 1, 1] B23) s H = condW P Γ call n f m (cAt [1, 0, 0, 1, 1, 1, 1, 1, 1, 1, 1, 1, 1, 1, 1, 1, 1, 1, 0] B23) (cAt [1, 0, 0, 1, 1, 1, 1, 1, 1, 1, 1, 1, 1, 1, 1, 1, 1, 1, 1] B23) s H (evOperand Γ s (.tmp 98)) := at_cond (by kernel_rfl) (by kernel_rfl) rfl rfl s H
@[simp] theorem n23_50 (s : List V) (H : Heap) : evCode P Γ call n f m (cAt [1, 0, 0, 1, 1, 1, 1, 1, 1, 1, 1, 1, 1, 1, 1, 1, 1, 1, 0] B23) s H = seqNext P Γ call n f m (cAt [1, 0, 0, 1, 1, 1, 1, 1, 1, 1, 1, 1, 1, 1, 1, 1, 1, 1, 0, 1] B23) (evCode P Γ call n f m (cAt [1, 0, 0, 1, 1, 1, 1, 1, 1, 1, 1, 1, 1, 1, 1, 1, 1, 1, 0, 0] B23) s H) := at_seq (by kernel_rfl) rfl rfl s H
noncomputable def r23_51 : {l : List Oper // opsOf (cAt [1, 0, 0, 1, 1, 1, 1, 1, 1, 1, 1, 1, 1, 1, 1, 1, 1, 1, 0, 0] B23) = l} := by
  apply Subtype.mk
  dsimp only [opsOf, cAt, kids, B23, bodyOf, Tryd.f23, List.getD, List.getElem?_cons_zero, List.getElem?_cons_succ, Option.getD_some]
@[simp] theorem n23_51 (s : List V) (H : Heap) : evCode P Γ call n f m (cAt [1, 0, 0, 1, 1, 1, 1, 1, 1, 1, 1, 1, 1, 1, 1, 1, 1, 1, 0, 0] B23) s H = regNext (evOpsGo P Γ call r23_51.1 r23_51.1 s H) := at_region (by kernel_rfl) r23_51.2 s H
attribute [simp] r23_51
@[simp] theorem n23_52 (s : List V) (H : Heap) : evCode P Γ call n f m (cAt [1, 0, 0, 1, 1, 1, 1, 1, 1, 1, 1, 1, 1, 1, 1, 1, 1, 1, 0, 1] B23) s H = some (.ret, s, H) := at_ret (by kernel_rfl) s H
@[simp] theorem n23_53 (s : List V) (H : Heap) : evCode P Γ call n f m (cAt [1, 0, 0, 1, 1, 1, 1, 1, 1, 1, 1, 1, 1, 1, 1, 1, 1, 1, 1] B23) s H = some (.normal, s, H) := at_skip (by kernel_rfl) s H
@[simp] theorem n23_54 (s : List V) (H : Heap) : evCode P Γ call n f m (cAt [1, 1] B23) s H = seqNext P Γ call n f m (cAt [1, 1, 1] B23) (evCode P Γ call n f m (cAt [1, 1, 0] B23) s H) := at_seq (by kernel_rfl) rfl rfl s H
noncomputable def r23_55 : {l : List Oper // opsOf (cAt [1, 1, 0] B23) = l} := by
  apply Subtype.mk
  dsimp only [opsOf, cAt, kids, B23, bodyOf, Tryd.f23, List.getD, List.getElem?_cons_zero, List.getElem?_cons_succ, Option.getD_some]
@[simp] theorem n23_55 (s : List V) (H : Heap) : evCode P Γ call n f m (cAt [1, 1, 0] B23) s H = regNext (evOpsGo P Γ call r23_55.1 r23_55.1 s H) := at_region (by kernel_rfl) r23_55.2 s H
attribute [simp] r23_55
@[simp] theorem n23_56 (s : List V) (H : Heap) : evCode P Γ call n f m (cAt [1, 1, 1] B23) s H = seqNext P Γ call n f m (cAt [1, 1, 1, 1] B23) (evCode P Γ call n f m (cAt [1, 1, 1, 0] B23) s H) := at_seq (by kernel_rfl) rfl rfl s H
@[simp] theorem n23_57 (s : List V) (H : Heap) : evCode P Γ call n f m (cAt [1, 1, 1, 0] B23) s H = seqNext P Γ call n f m (cAt [1, 1, 1, 0, 1] B23) (evCode P Γ call n f m (cAt [1, 1, 1, 0, 0] B23) s H) := at_seq (by kernel_rfl) rfl rfl s H
noncomputable def r23_58 : {l : List Oper // opsOf (cAt [1, 1, 1, 0, 0] B23) = l} := by
  apply Subtype.mk
  dsimp only [opsOf, cAt, kids, B23, bodyOf, Tryd.f23, List.getD, List.getElem?_cons_zero, List.getElem?_cons_succ, Option.getD_some]
@[simp] theorem n23_58 (s : List V) (H : Heap) : evCode P Γ call n f m (cAt [1, 1, 1, 0, 0] B23) s H = regNext (evOpsGo P Γ call r23_58.1 r23_58.1 s H) := at_region (by kernel_rfl) r23_58.2 s H
attribute [simp] r23_58
@[simp] theorem n23_59 (s : List V) (H : Heap) : evCode P Γ call n f m (cAt [1, 1, 1, 0, 1] B23) s H = blockNext 1 (evCode P Γ call n f m (cAt [1, 1, 1, 0, 1, 0] B23) s H) := at_block (by kernel_rfl) rfl s H
@[simp] theorem n23_60 (s : List V) (H : Heap) : evCode P Γ call n f m (cAt [1, 1, 1, 0, 1, 0] B23) s H = seqNext P Γ call n f m (cAt [1, 1, 1, 0, 1, 0, 1] B23) (evCode P Γ call n f m (cAt [1, 1, 1, 0, 1, 0, 0] B23) s H) := at_seq (by kernel_rfl) rfl rfl s H
noncomputable def r23_61 : {l : List Oper // opsOf (cAt [1, 1, 1, 0, 1, 0, 0] B23) = l} := by
  apply Subtype.mk
  dsimp only [opsOf, cAt, kids, B23, bodyOf, Tryd.f23, List.getD, List.getElem?_cons_zero, List.getElem?_cons_succ, Option.getD_some]
@[simp] theorem n23_61 (s : List V) (H : Heap) : evCode P Γ call n f m (cAt [1, 1, 1, 0, 1, 0, 0] B23) s H = regNext (evOpsGo P Γ call r23_61.1 r23_61.1 s H) := at_region (by kernel_rfl) r23_61.2 s H
attribute [simp] r23_61
@[simp] theorem n23_62 (s : List V) (H : Heap) : evCode P Γ call n f m (cAt [1, 1, 1, 0, 1, 0, 1] B23) s H = condW P Γ call n f m (cAt [1, 1, 1, 0, 1, 0, 1, 0] B23) (cAt [1, 1, 1, 0, 1, 0, 1, 1] B23) s H (evOperand Γ s (.tmp 115)) := at_cond (by kernel_rfl) (by kernel_rfl) rfl rfl s H
noncomputable def r23_63 : {l : List Oper // opsOf (cAt [1, 1, 1, 0, 1, 0, 1, 0] B23) = l} := by
  apply Subtype.mk
  dsimp only [opsOf, cAt, kids, B23, bodyOf, Tryd.f23, List.getD, List.getElem?_cons_zero, List.getElem?_cons_succ, Option.getD_some]
@[simp] theorem n23_63 (s : List V) (H : Heap) : evCode P Γ call n f m (cAt [1, 1, 1, 0, 1, 0, 1, 0] B23) s H = regNext (drawR P Γ call r23_63.1 [([2, 3], [119, 120]), ([2, 3], [119, 120]), ([0, 1, 4, 5], [117, 118, 121]), ([0, 1, 4, 5], [117, 118, 121]), ([2, 3], [119, 120]), ([2, 3], [119, 120]), ([], []), ([], [])] s H) := at_drawT (by kernel_rfl) r23_63.2 (by kernel_rfl) s H
attribute [simp] r23_63
@[simp] theorem n23_64 (s : List V) (H : Heap) : evCode P Γ call n f m (cAt [1, 1, 1, 0, 1, 0, 1, 1] B23) s H = seqNext P Γ call n f m (cAt [1, 1, 1, 0, 1, 0, 1, 1, 1] B23) (evCode P Γ call n f m (cAt [1, 1, 1, 0, 1, 0, 1, 1, 0] B23) s H) := at_seq (by kernel_rfl) rfl rfl s H
noncomputable def r23_65 : {l : List Oper // opsOf (cAt [1, 1, 1, 0, 1, 0, 1, 1, 0] B23) = l} := by
  apply Subtype.mk
  dsimp only [opsOf, cAt, kids, B23, bodyOf, Tryd.f23, List.getD, List.getElem?_cons_zero, List.getElem?_cons_succ, Option.getD_some]
@[simp] theorem n23_65 (s : List V) (H : Heap) : evCode P Γ call n f m (cAt [1, 1, 1, 0, 1, 0, 1, 1, 0] B23) s H = regNext (evOpsGo P Γ call r23_65.1 r23_65.1 s H) := at_region (by kernel_rfl) r23_65.2 s H
attribute [simp] r23_65
@[simp] theorem n23_66 (s : List V) (H : Heap) : evCode P Γ call n f m (cAt [1, 1, 1, 0, 1, 0, 1, 1, 1] B23) s H = condW P Γ call n f m (cAt [1, 1, 1, 0, 1, 0, 1, 1, 1, 0] B23) (cAt [1, 1, 1, 0, 1, 0, 1, 1, 1, 1] B23) s H (evOperand Γ s (.tmp 123)) := at_cond (by kernel_rfl) (by kernel_rfl) rfl rfl s H
noncomputable def r23_67 : {l : List Oper // opsOf (cAt [1, 1, 1, 0, 1, 0, 1, 1, 1, 0] B23) = l} := by
  apply Subtype.mk
  dsimp only [opsOf, cAt, kids, B23, bodyOf, Tryd.f23, List.getD, List.getElem?_cons_zero, List.getElem?_cons_succ, Option.getD_some]
@[simp] theorem n23_67 (s : List V) (H : Heap) : evCode P Γ call n f m (cAt [1, 1, 1, 0, 1, 0, 1, 1, 1, 0] B23) s H = regNext (evOpsGo P Γ call r23_67.1 r23_67.1 s H) := at_region (by kernel_rfl) r23_67.2 s H
attribute [simp] r23_67
@[simp] theorem n23_68 (s : List V) (H : Heap) : evCode P Γ call n f m (cAt [1, 1, 1, 0, 1, 0, 1, 1, 1, 1] B23) s H = seqNext P Γ call n f m (cAt [1, 1, 1, 0, 1, 0, 1, 1, 1, 1, 1] B23) (evCode P Γ call n f m (cAt [1, 1, 1, 0, 1, 0, 1, 1, 1, 1, 0] B23) s H) := at_seq (by kernel_rfl) rfl rfl s H
noncomputable def r23_69 : {l : List Oper // opsOf (cAt [1, 1, 1, 0, 1, 0, 1, 1, 1, 1, 0] B23) = l} := by
  apply Subtype.mk
  dsimp only [opsOf, cAt, kids, B23, bodyOf, Tryd.f23, List.getD, List.getElem?_cons_zero, List.getElem?_cons_succ, Option.getD_some]
@[simp] theorem n23_69 (s : List V) (H : Heap) : evCode P Γ call n f m (cAt [1, 1, 1, 0, 1, 0, 1, 1, 1, 1, 0] B23) s H = regNext (evOpsGo P Γ call r23_69.1 r23_69.1 s H) := at_region (by kernel_rfl) r23_69.2 s H
attribute [simp] r23_69
@[simp] theorem n23_70 (s : List V) (H : Heap) : evCode P Γ call n f m (cAt [1, 1, 1, 0, 1, 0, 1, 1, 1, 1, 1] B23) s H = condW P Γ call n f m (cAt [1, 1, 1, 0, 1, 0, 1, 1, 1, 1, 1, 0] B23) (cAt [1, 1, 1, 0, 1, 0, 1, 1, 1, 1, 1, 1] B23) s H (evOperand Γ s (.tmp 128)) := at_cond (by kernel_rfl) (by kernel_rfl) rfl rfl s H
noncomputable def r23_71 : {l : List Oper // opsOf (cAt [1, 1, 1, 0, 1, 0, 1, 1, 1, 1, 1, 0] B23) = l} := by
  apply Subtype.mk
  dsimp only [opsOf, cAt, kids, B23, bodyOf, Tryd.f23, List.getD, List.getElem?_cons_zero, List.getElem?_cons_succ, Option.getD_some]
@[simp] theorem n23_71 (s : List V) (H : Heap) : evCode P Γ call n f m (cAt [1, 1, 1, 0, 1, 0, 1, 1, 1, 1, 1, 0] B23) s H = regNext (evOpsGo P Γ call r23_71.1 r23_71.1 s H) := at_region (by kernel_rfl) r23_71.2 s H
attribute [simp] r23_71
@[simp] theorem n23_72 (s : List V) (H : Heap) : evCode P Γ call n f m (cAt [1, 1, 1, 0, 1, 0, 1, 1, 1, 1, 1, 1] B23) s H = seqNext P Γ call n f m (cAt [1, 1, 1, 0, 1, 0, 1, 1, 1, 1, 1, 1, 1] B23) (evCode P Γ call n f m (cAt [1, 1, 1, 0, 1, 0, 1, 1, 1, 1, 1, 1, 0] B23) s H) := at_seq (by kernel_rfl) rfl rfl s H
noncomputable def r23_73 : {l : List Oper // opsOf (cAt [1, 1, 1, 0, 1, 0, 1, 1, 1, 1, 1, 1, 0] B23) = l} := by
  apply Subtype.mk
  dsimp only [opsOf, cAt, kids, B23, bodyOf, Tryd.f23, List.getD, List.getElem?_cons_zero, List.getElem?_cons_succ, Option.getD_some]
@[simp] theorem n23_73 (s : List V) (H : Heap) : evCode P Γ call n f m (cAt [1, 1, 1, 0, 1, 0, 1, 1, 1, 1, 1, 1, 0] B23) s H = regNext (evOpsGo P Γ call r23_73.1 r23_73.1 s H) := at_region (by kernel_rfl) r23_73.2 s H
attribute [simp] r23_73
@[simp] theorem n23_74 (s : List V) (H : Heap) : evCode P Γ call n f m (cAt [1, 1, 1, 0, 1, 0, 1, 1, 1, 1, 1, 1, 1] B23) s H = condW P Γ call n f m (cAt [1, 1, 1, 0, 1, 0, 1, 1, 1, 1, 1, 1, 1, 0] B23) (cAt [1, 1, 1, 0, 1, 0, 1, 1, 1, 1, 1, 1, 1, 1] B23) s H (evOperand Γ s (.tmp 131)) := at_cond (by kernel_rfl) (by kernel_rfl) rfl rfl s H
noncomputable def r23_75 : {l : List Oper // opsOf (cAt [1, 1, 1, 0, 1, 0, 1, 1, 1, 1, 1, 1, 1, 0] B23) = l} := by
  apply Subtype.mk
  dsimp only [opsOf, cAt, kids, B23, bodyOf, Tryd.f23, List.getD, List.getElem?_cons_zero, List.getElem?_cons_succ, Option.getD_some]
@[simp] theorem n23_75 (s : List V) (H : Heap) : evCode P Γ call n f m (cAt [1, 1, 1, 0, 1, 0, 1, 1, 1, 1, 1, 1, 1, 0] B23) s H = regNext (drawR P Γ call r23_75.1 [([2, 3], [135]), ([2, 3], [135]), ([0, 1], [133, 134]), ([0, 1], [133, 134]), ([], []), ([], [])] s H) := at_drawT (by kernel_rfl) r23_75.2 (by kernel_rfl) s H
attribute [simp] r23_75
@[simp] theorem n23_76 (s : List V) (H : Heap) : evCode P Γ call n f m (cAt [1, 1, 1, 0, 1, 0, 1, 1, 1, 1, 1, 1, 1, 1] B23) s H = seqNext P Γ call n f m (cAt [1, 1, 1, 0, 1, 0, 1, 1, 1, 1, 1, 1, 1, 1, 1] B23) (evCode P Γ call n f m (cAt [1, 1, 1, 0, 1, 0, 1, 1, 1, 1, 1, 1, 1, 1, 0] B23) s H) := at_seq (by kernel_rfl) rfl rfl s H
noncomputable def r23_77 : {l : List Oper // opsOf (cAt [1, 1, 1, 0, 1, 0, 1, 1, 1, 1, 1, 1, 1, 1, 0] B23) = l} := by
  apply Subtype.mk
  dsimp only [opsOf, cAt, kids, B23, bodyOf, Tryd.f23, List.getD, List.getElem?_cons_zero, List.getElem?_cons_succ, Option.getD_some]
@[simp] theorem n23_77 (s : List V) (H : Heap) : evCode P Γ call n f m (cAt [1, 1, 1, 0, 1, 0, 1, 1, 1, 1, 1, 1, 1, 1, 0] B23) s H = regNext (evOpsGo P Γ call r23_77.1 r23_77.1 s H) := at_region (by kernel_rfl) r23_77.2 s H
attribute [simp] r23_77
@[simp] theorem n23_78 (s : List V) (H : Heap) : evCode P Γ call n f m (cAt [1, 1, 1, 0, 1, 0, 1, 1, 1, 1, 1, 1, 1, 1, 1] B23) s H = condW P Γ call n f m (cAt [1, 1, 1, 0, 1, 0, 1, 1, 1, 1, 1, 1, 1, 1, 1, 0] B23) (cAt [1, 1, 1, 0, 1, 0, 1, 1, 1, 1, 1, 1, 1, 1, 1, 1] B23) s H (evOperand Γ s (.tmp 137)) := at_cond (by kernel_rfl) (by kernel_rfl) rfl rfl s H
noncomputable def r23_79 : {l : List Oper // opsOf (cAt [1, 1, 1, 0, 1, 0, 1, 1, 1, 1, 1, 1, 1, 1, 1, 0] B23) = l} := by
  apply Subtype.mk
  dsimp only [opsOf, cAt, kids, B23, bodyOf, Tryd.f23, List.getD, List.getElem?_cons_zero, List.getElem?_cons_succ, Option.getD_some]
@[simp] theorem n23_79 (s : List V) (H : Heap) : evCode P Γ call n f m (cAt [1, 1, 1, 0, 1, 0, 1, 1, 1, 1, 1, 1, 1, 1, 1, 0] B23) s H = regNext (evOpsGo P Γ call r23_79.1 r23_79.1 s H) := at_region (by kernel_rfl) r23_79.2 s H
attribute [simp] r23_79
@[simp] theorem n23_80 (s : List V) (H : Heap) : evCode P Γ call n f m (cAt [1, 1, 1, 0, 1, 0, 1, 1, 1, 1, 1, 1, 1, 1, 1, 1] B23) s H = some (.normal, s, H) := at_skip (by kernel_rfl) s H
@[simp] theorem n23_81 (s : List V) (H : Heap) : evCode P Γ call n f m (cAt [1, 1, 1, 1] B23) s H = seqNext P Γ call n f m (cAt [1, 1, 1, 1, 1] B23) (evCode P Γ call n f m (cAt [1, 1, 1, 1, 0] B23) s H) := at_seq (by kernel_rfl) rfl rfl s H
noncomputable def r23_82 : {l : List Oper // opsOf (cAt [1, 1, 1, 1, 0] B23) = l} := by
  apply Subtype.mk
  dsimp only [opsOf, cAt, kids, B23, bodyOf, Tryd.f23, List.getD, List.getElem?_cons_zero, List.getElem?_cons_succ, Option.getD_some]
@[simp] theorem n23_82 (s : List V) (H : Heap) : evCode P Γ call n f m (cAt [1, 1, 1, 1, 0] B23) s H = regNext (evOpsGo P Γ call r23_82.1 r23_82.1 s H) := at_region (by kernel_rfl) r23_82.2 s H
attribute [simp] r23_82
@[simp] theorem n23_83 (s : List V) (H : Heap) : evCode P Γ call n f m (cAt [1, 1, 1, 1, 1] B23) s H = some (.ret, s, H) := at_ret (by kernel_rfl) s H
theorem b23 {k : Nat} (ho : ∀ args H, Γ.orc 23 args H = none) (args : List V) (H : Heap) (ha : args.length ≤ 141) : evF Tryd.prog Γ (k + 1) 23 args H = bodyEnd Tryd.prog [.cell 6 27, .tmp 7] H.length (evCode Tryd.prog Γ (evF Tryd.prog Γ k) k 23 H.length (cAt [] B23) (mkL 141 V.undef (enumV 0 args)) H) := body_at Tryd.func23 (by decide) rfl ho rfl rfl args H ha
noncomputable def B26 : Code := bodyOf Tryd.f26
@[simp] theorem n26_1 (s : List V) (H : Heap) : evCode P Γ call n f m (cAt [] B26) s H = seqNext P Γ call n f m (cAt [1] B26) (evCode P Γ call n f m (cAt [0] B26) s H) := at_seq (by kernel_rfl) rfl rfl s H
noncomputable def r26_2 : {l : List Oper // opsOf (cAt [0] B26) = l} := by
  apply Subtype.mk
  dsimp only [opsOf, cAt, kids, B26, bodyOf, Tryd.f26, List.getD, List.getElem?_cons_zero, List.getElem?_cons_succ, Option.getD_some]
@[simp] theorem n26_2 (s : List V) (H : Heap) : evCode P Γ call n f m (cAt [0] B26) s H = regNext (evOpsGo P Γ call r26_2.1 r26_2.1 s H) := at_region (by kernel_rfl) r26_2.2 s H
attribute [simp] r26_2
@[simp] theorem n26_3 (s : List V) (H : Heap) : evCode P Γ call n f m (cAt [1] B26) s H = seqNext P Γ call n f m (cAt [1, 1] B26) (evCode P Γ call n f m (cAt [1, 0] B26) s H) := at_seq (by kernel_rfl) rfl rfl s H
noncomputable def r26_4 : {l : List Oper // opsOf (cAt [1, 0] B26) = l} := by
  apply Subtype.mk
  dsimp only [opsOf, cAt, kids, B26, bodyOf, Tryd.f26, List.getD, List.getElem?_cons_zero, List.getElem?_cons_succ, Option.getD_some]
@[simp] theorem n26_4 (s : List V) (H : Heap) : evCode P Γ call n f m (cAt [1, 0] B26) s H = regNext (evOpsGo P Γ call r26_4.1 r26_4.1 s H) := at_region (by kernel_rfl) r26_4.2 s H
attribute [simp] r26_4
@[simp] theorem n26_5 (s : List V) (H : Heap) : evCode P Γ call n f m (cAt [1, 1] B26) s H = some (.ret, s, H) := at_ret (by kernel_rfl) s H
theorem b26 {k : Nat} (ho : ∀ args H, Γ.orc 26 args H = none) (args : List V) (H : Heap) (ha : args.length ≤ 8) : evF Tryd.prog Γ (k + 1) 26 args H = bodyEnd Tryd.prog [.tmp 4] H.length (evCode Tryd.prog Γ (evF Tryd.prog Γ k) k 26 H.length (cAt [] B26) (mkL 8 V.undef (enumV 0 args)) H) := body_at Tryd.func26 (by decide) rfl ho rfl rfl args H ha
noncomputable def B27 : Code := bodyOf Tryd.f27
@[simp] theorem n27_1 (s : List V) (H : Heap) : evCode P Γ call n f m (cAt [] B27) s H = seqNext P Γ call n f m (cAt [1] B27) (evCode P Γ call n f m (cAt [0] B27) s H) := at_seq (by kernel_rfl) rfl rfl s H
noncomputable def r27_2 : {l : List Oper // opsOf (cAt [0] B27) = l} := by
  apply Subtype.mk
  dsimp only [opsOf, cAt, kids, B27, bodyOf, Tryd.f27, List.getD, List.getElem?_cons_zero, List.getElem?_cons_succ, Option.getD_some]
@[simp] theorem n27_2 (s : List V) (H : Heap) : evCode P Γ call n f m (cAt [0] B27) s H = regNext (evOpsGo P Γ call r27_2.1 r27_2.1 s H) := at_region (by kernel_rfl) r27_2.2 s H
attribute [simp] r27_2
@[simp] theorem n27_3 (s : List V) (H : Heap) : evCode P Γ call n f m (cAt [1] B27) s H = seqNext P Γ call n f m (cAt [1, 1] B27) (evCode P Γ call n f m (cAt [1, 0] B27) s H) := at_seq (by kernel_rfl) rfl rfl s H
noncomputable def r27_4 : {l : List Oper // opsOf (cAt [1, 0] B27) = l} := by
  apply Subtype.mk
  dsimp only [opsOf, cAt, kids, B27, bodyOf, Tryd.f27, List.getD, List.getElem?_cons_zero, List.getElem?_cons_succ, Option.getD_some]
@[simp] theorem n27_4 (s : List V) (H : Heap) : evCode P Γ call n f m (cAt [1, 0] B27) s H = regNext (evOpsGo P Γ call r27_4.1 r27_4.1 s H) := at_region (by kernel_rfl) r27_4.2 s H
attribute [simp] r27_4
@[simp] theorem n27_5 (s : List V) (H : Heap) : evCode P Γ call n f m (cAt [1, 1] B27) s H = some (.ret, s, H) := at_ret (by kernel_rfl) s H
theorem b27 {k : Nat} (ho : ∀ args H, Γ.orc 27 args H = none) (args : List V) (H : Heap) (ha : args.length ≤ 5) : evF Tryd.prog Γ (k + 1) 27 args H = bodyEnd Tryd.prog [.tmp 2] H.length (evCode Tryd.prog Γ (evF Tryd.prog Γ k) k 27 H.length (cAt [] B27) (mkL 5 V.undef (enumV 0 args)) H) := body_at Tryd.func27 (by decide) rfl ho rfl rfl args H ha
noncomputable def B28 : Code := bodyOf Tryd.f28
@[simp] theorem n28_1 (s : List V) (H : Heap) : evCode P Γ call n f m (cAt [] B28) s H = seqNext P Γ call n f m (cAt [1] B28) (evCode P Γ call n f m (cAt [0] B28) s H) := at_seq (by kernel_rfl) rfl rfl s H
noncomputable def r28_2 : {l : List Oper // opsOf (cAt [0] B28) = l} := by
  apply Subtype.mk
  dsimp only [opsOf, cAt, kids, B28, bodyOf, Tryd.f28, List.getD, List.getElem?_cons_zero, List.getElem?_cons_succ, Option.getD_some]
@[simp] theorem n28_2 (s : List V) (H : Heap) : evCode P Γ call n f m (cAt [0] B28) s H = regNext (evOpsGo P Γ call r28_2.1 r28_2.1 s H) := at_region (by kernel_rfl) r28_2.2 s H
attribute [simp] r28_2
@[simp] theorem n28_3 (s : List V) (H : Heap) : evCode P Γ call n f m (cAt [1] B28) s H = seqNext P Γ call n f m (cAt [1, 1] B28) (evCode P Γ call n f m (cAt [1, 0] B28) s H) := at_seq (by kernel_rfl) rfl rfl s H
noncomputable def r28_4 : {l : List Oper // opsOf (cAt [1, 0] B28) = l} := by
  apply Subtype.mk
  dsimp only [opsOf, cAt, kids, B28, bodyOf, Tryd.f28, List.getD, List.getElem?_cons_zero, List.getElem?_cons_succ, Option.getD_some]
@[simp] theorem n28_4 (s : List V) (H : Heap) : evCode P Γ call n f m (cAt [1, 0] B28) s H = regNext (evOpsGo P Γ call r28_4.1 r28_4.1 s H) := at_region (by kernel_rfl) r28_4.2 s H
attribute [simp] r28_4
@[simp] theorem n28_5 (s : List V) (H : Heap) : evCode P Γ call n f m (cAt [1, 1] B28) s H = seqNext P Γ call n f m (cAt [1, 1, 1] B28) (evCode P Γ call n f m (cAt [1, 1, 0] B28) s H) := at_seq (by kernel_rfl) rfl rfl s H
@[simp] theorem n28_6 (s : List V) (H : Heap) : evCode P Γ call n f m (cAt [1, 1, 0] B28) s H = seqNext P Γ call n f m (cAt [1, 1, 0, 1] B28) (evCode P Γ call n f m (cAt [1, 1, 0, 0] B28) s H) := at_seq (by kernel_rfl) rfl rfl s H
noncomputable def r28_7 : {l : List Oper // opsOf (cAt [1, 1, 0, 0] B28) = l} := by
  apply Subtype.mk
  dsimp only [opsOf, cAt, kids, B28, bodyOf, Tryd.f28, List.getD, List.getElem?_cons_zero, List.getElem?_cons_succ, Option.getD_some]
@[simp] theorem n28_7 (s : List V) (H : Heap) : evCode P Γ call n f m (cAt [1, 1, 0, 0] B28) s H = regNext (evOpsGo P Γ call r28_7.1 r28_7.1 s H) := at_region (by kernel_rfl) r28_7.2 s H
attribute [simp] r28_7
@[simp] theorem n28_8 (s : List V) (H : Heap) : evCode P Γ call n f m (cAt [1, 1, 0, 1] B28) s H = blockNext 0 (evCode P Γ call n f m (cAt [1, 1, 0, 1, 0] B28) s H) := at_block (by kernel_rfl) rfl s H
@[simp] theorem n28_9 (s : List V) (H : Heap) : evCode P Γ call n f m (cAt [1, 1, 0, 1, 0] B28) s H = evLoopC P Γ call n f m (cAt [1, 1, 0, 1, 0, 0] B28) n s H := at_loop (by kernel_rfl) rfl s H
noncomputable abbrev L28_3 : Code := cAt [1, 1, 0, 1, 0, 0] B28
@[simp] theorem n28_9f : firstRegion (cAt [1, 1, 0, 1, 0, 0] B28) = 3 := by kernel_rfl
@[simp] theorem n28_10 (s : List V) (H : Heap) : evCode P Γ call n f m (cAt [1, 1, 0, 1, 0, 0] B28) s H = seqNext P Γ call n f m (cAt [1, 1, 0, 1, 0, 0, 1] B28) (evCode P Γ call n f m (cAt [1, 1, 0, 1, 0, 0, 0] B28) s H) := at_seq (by kernel_rfl) rfl rfl s H
noncomputable def r28_11 : {l : List Oper // opsOf (cAt [1, 1, 0, 1, 0, 0, 0] B28) = l} := by
  apply Subtype.mk
  dsimp only [opsOf, cAt, kids, B28, bodyOf, Tryd.f28, List.getD, List.getElem?_cons_zero, List.getElem?_cons_succ, Option.getD_some]
@[simp] theorem n28_11 (s : List V) (H : Heap) : evCode P Γ call n f m (cAt [1, 1, 0, 1, 0, 0, 0] B28) s H = regNext (evOpsGo P Γ call r28_11.1 r28_11.1 s H) := at_region (by kernel_rfl) r28_11.2 s H
attribute [simp] r28_11
@[simp] theorem n28_12 (s : List V) (H : Heap) : evCode P Γ call n f m (cAt [1, 1, 0, 1, 0, 0, 1] B28) s H = seqNext P Γ call n f m (cAt [1, 1, 0, 1, 0, 0, 1, 1] B28) (evCode P Γ call n f m (cAt [1, 1, 0, 1, 0, 0, 1, 0] B28) s H) := at_seq (by kernel_rfl) rfl rfl s H
@[simp] theorem n28_13 (s : List V) (H : Heap) : evCode P Γ call n f m (cAt [1, 1, 0, 1, 0, 0, 1, 0] B28) s H = condW P Γ call n f m (cAt [1, 1, 0, 1, 0, 0, 1, 0, 0] B28) (cAt [1, 1, 0, 1, 0, 0, 1, 0, 1] B28) s H (evOperand Γ s (.tmp 9)) := at_cond (by kernel_rfl) (by kernel_rfl) rfl rfl s H
@[simp] theorem n28_14 (s : List V) (H : Heap) : evCode P Γ call n f m (cAt [1, 1, 0, 1, 0, 0, 1, 0, 0] B28) s H = some (.normal, s, H) := at_skip (by kernel_rfl) s H
@[simp] theorem n28_15 (s : List V) (H : Heap) : evCode P Γ call n f m (cAt [1, 1, 0, 1, 0, 0, 1, 0, 1] B28) s H = some (.exit 0, s, H) := at_exit (by kernel_rfl) s H
@[simp] theorem n28_16 (s : List V) (H : Heap) : evCode P Γ call n f m (cAt [1, 1, 0, 1, 0, 0, 1, 1] B28) s H = seqNext P Γ call n f m (cAt [1, 1, 0, 1, 0, 0, 1, 1, 1] B28) (evCode P Γ call n f m (cAt [1, 1, 0, 1, 0, 0, 1, 1, 0] B28) s H) := at_seq (by kernel_rfl) rfl rfl s H
@[simp] theorem n28_17 (s : List V) (H : Heap) : evCode P Γ call n f m (cAt [1, 1, 0, 1, 0, 0, 1, 1, 0] B28) s H = blockNext 1 (evCode P Γ call n f m (cAt [1, 1, 0, 1, 0, 0, 1, 1, 0, 0] B28) s H) := at_block (by kernel_rfl) rfl s H
@[simp] theorem n28_18 (s : List V) (H : Heap) : evCode P Γ call n f m (cAt [1, 1, 0, 1, 0, 0, 1, 1, 0, 0] B28) s H = seqNext P Γ call n f m (cAt [1, 1, 0, 1, 0, 0, 1, 1, 0, 0, 1] B28) (evCode P Γ call n f m (cAt [1, 1, 0, 1, 0, 0, 1, 1, 0, 0, 0] B28) s H) := at_seq (by kernel_rfl) rfl rfl s H
noncomputable def r28_19 : {l : List Oper // opsOf (cAt [1, 1, 0, 1, 0, 0, 1, 1, 0, 0, 0] B28) = l} := by
  apply Subtype.mk
  dsimp only [opsOf, cAt, kids, B28, bodyOf, Tryd.f28, List.getD, List.getElem?_cons_zero, List.getElem?_cons_succ, Option.getD_some]
@[simp] theorem n28_19 (s : List V) (H : Heap) : evCode P Γ call n f m (cAt [1, 1, 0, 1, 0, 0, 1, 1, 0, 0, 0] B28) s H = regNext (evOpsGo P Γ call r28_19.1 r28_19.1 s H) := at_region (by kernel_rfl) r28_19.2 s H
attribute [simp] r28_19
@[simp] theorem n28_20 (s : List V) (H : Heap) : evCode P Γ call n f m (cAt [1, 1, 0, 1, 0, 0, 1, 1, 0, 0, 1] B28) s H = seqNext P Γ call n f m (cAt [1, 1, 0, 1, 0, 0, 1, 1, 0, 0, 1, 1] B28) (evCode P Γ call n f m (cAt [1, 1, 0, 1, 0, 0, 1, 1, 0, 0, 1, 0] B28) s H) := at_seq (by kernel_rfl) rfl rfl s H
noncomputable def r28_21 : {l : List Oper // opsOf (cAt [1, 1, 0, 1, 0, 0, 1, 1, 0, 0, 1, 0] B28) = l} := by
  apply Subtype.mk
  dsimp only [opsOf, cAt, kids, B28, bodyOf, Tryd.f28, List.getD, List.getElem?_cons_zero, List.getElem?_cons_succ, Option.getD_some]
@[simp] theorem n28_21 (s : List V) (H : Heap) : evCode P Γ call n f m (cAt [1, 1, 0, 1, 0, 0, 1, 1, 0, 0, 1, 0] B28) s H = regNext (evOpsGo P Γ call r28_21.1 r28_21.1 s H) := at_region (by kernel_rfl) r28_21.2 s H
attribute [simp] r28_21
noncomputable def r28_22 : {l : List Oper // opsOf (cAt [1, 1, 0, 1, 0, 0, 1, 1, 0, 0, 1, 1] B28) = l} := by
  apply Subtype.mk
  dsimp only [opsOf, cAt, kids, B28, bodyOf, Tryd.f28, List.getD, List.getElem?_cons_zero, List.getElem?_cons_succ, Option.getD_some]
@[simp] theorem n28_22 (s : List V) (H : Heap) : evCode P Γ call n f m (cAt [1, 1, 0, 1, 0, 0, 1, 1, 0, 0, 1, 1] B28) s H = regNext (evOpsGo P Γ call r28_22.1 r28_22.1 s H) := at_region (by kernel_rfl) r28_22.2 s H
attribute [simp] r28_22
noncomputable def r28_23 : {l : List Oper // opsOf (cAt [1, 1, 0, 1, 0, 0, 1, 1, 1] B28) = l} := by
  apply Subtype.mk
  dsimp only [opsOf, cAt, kids, B28, bodyOf, Tryd.f28, List.getD, List.getElem?_cons_zero, List.getElem?_cons_succ, Option.getD_some]
@[simp] theorem n28_23 (s : List V) (H : Heap) : evCode P Γ call n f m (cAt [1, 1, 0, 1, 0, 0, 1, 1, 1] B28) s H = regNext (evOpsGo P Γ call r28_23.1 r28_23.1 s H) := at_region (by kernel_rfl) r28_23.2 s H
attribute [simp] r28_23
@[simp] theorem n28_24 (s : List V) (H : Heap) : evCode P Γ call n f m (cAt [1, 1, 1] B28) s H = seqNext P Γ call n f m (cAt [1, 1, 1, 1] B28) (evCode P Γ call n f m (cAt [1, 1, 1, 0] B28) s H) := at_seq (by kernel_rfl) rfl rfl s H
noncomputable def r28_25 : {l : List Oper // opsOf (cAt [1, 1, 1, 0] B28) = l} := by
  apply Subtype.mk
  dsimp only [opsOf, cAt, kids, B28, bodyOf, Tryd.f28, List.getD, List.getElem?_cons_zero, List.getElem?_cons_succ, Option.getD_some]
@[simp] theorem n28_25 (s : List V) (H : Heap) : evCode P Γ call n f m (cAt [1, 1, 1, 0] B28) s H = regNext (evOpsGo P Γ call r28_25.1 r28_25.1 s H) := at_region (by kernel_rfl) r28_25.2 s H
attribute [simp] r28_25
@[simp] theorem n28_26 (s : List V) (H : Heap) : evCode P Γ call n f m (cAt [1, 1, 1, 1] B28) s H = some (.ret, s, H) := at_ret (by kernel_rfl) s H
theorem b28 {k : Nat} (ho : ∀ args H, Γ.orc 28 args H = none) (args : List V) (H : Heap) (ha : args.length ≤ 23) : evF Tryd.prog Γ (k + 1) 28 args H = bodyEnd Tryd.prog [.tmp 2] H.length (evCode Tryd.prog Γ (evF Tryd.prog Γ k) k 28 H.length (cAt [] B28) (mkL 23 V.undef (enumV 0 args)) H) := body_at Tryd.func28 (by decide) rfl ho rfl rfl args H ha
noncomputable def B31 : Code := bodyOf Tryd.f31
@[simp] theorem n31_1 (s : List V) (H : Heap) : evCode P Γ call n f m (cAt [] B31) s H = seqNext P Γ call n f m (cAt [1] B31) (evCode P Γ call n f m (cAt [0] B31) s H) := at_seq (by kernel_rfl) rfl rfl s H
noncomputable def r31_2 : {l : List Oper // opsOf (cAt [0] B31) = l} := by
  apply Subtype.mk
  dsimp only [opsOf, cAt, kids, B31, bodyOf, Tryd.f31, List.getD, List.getElem?_cons_zero, List.getElem?_cons_succ, Option.getD_some]
@[simp] theorem n31_2 (s : List V) (H : Heap) : evCode P Γ call n f m (cAt [0] B31) s H = regNext (evOpsGo P Γ call r31_2.1 r31_2.1 s H) := at_region (by kernel_rfl) r31_2.2 s H
attribute [simp] r31_2
@[simp] theorem n31_3 (s : List V) (H : Heap) : evCode P Γ call n f m (cAt [1] B31) s H = seqNext P Γ call n f m (cAt [1, 1] B31) (evCode P Γ call n f m (cAt [1, 0] B31) s H) := at_seq (by kernel_rfl) rfl rfl s H
noncomputable def r31_4 : {l : List Oper // opsOf (cAt [1, 0] B31) = l} := by
  apply Subtype.mk
  dsimp only [opsOf, cAt, kids, B31, bodyOf, Tryd.f31, List.getD, List.getElem?_cons_zero, List.getElem?_cons_succ, Option.getD_some]
@[simp] theorem n31_4 (s : List V) (H : Heap) : evCode P Γ call n f m (cAt [1, 0] B31) s H = regNext (evOpsGo P Γ call r31_4.1 r31_4.1 s H) := at_region (by kernel_rfl) r31_4.2 s H
attribute [simp] r31_4
@[simp] theorem n31_5 (s : List V) (H : Heap) : evCode P Γ call n f m (cAt [1, 1] B31) s H = some (.ret, s, H) := at_ret (by kernel_rfl) s H
theorem b31 {k : Nat} (ho : ∀ args H, Γ.orc 31 args H = none) (args : List V) (H : Heap) (ha : args.length ≤ 5) : evF Tryd.prog Γ (k + 1) 31 args H = bodyEnd Tryd.prog [.tmp 2] H.length (evCode Tryd.prog Γ (evF Tryd.prog Γ k) k 31 H.length (cAt [] B31) (mkL 5 V.undef (enumV 0 args)) H) := body_at Tryd.func31 (by decide) rfl ho rfl rfl args H ha
noncomputable def B33 : Code := bodyOf Tryd.f33
@[simp] theorem n33_1 (s : List V) (H : Heap) : evCode P Γ call n f m (cAt [] B33) s H = seqNext P Γ call n f m (cAt [1] B33) (evCode P Γ call n f m (cAt [0] B33) s H) := at_seq (by kernel_rfl) rfl rfl s H
noncomputable def r33_2 : {l : List Oper // opsOf (cAt [0] B33) = l} := by
  apply Subtype.mk
  dsimp only [opsOf, cAt, kids, B33, bodyOf, Tryd.f33, List.getD, List.getElem?_cons_zero, List.getElem?_cons_succ, Option.getD_some]
@[simp] theorem n33_2 (s : List V) (H : Heap) : evCode P Γ call n f m (cAt [0] B33) s H = regNext (evOpsGo P Γ call r33_2.1 r33_2.1 s H) := at_region (by kernel_rfl) r33_2.2 s H
attribute [simp] r33_2
@[simp] theorem n33_3 (s : List V) (H : Heap) : evCode P Γ call n f m (cAt [1] B33) s H = seqNext P Γ call n f m (cAt [1, 1] B33) (evCode P Γ call n f m (cAt [1, 0] B33) s H) := at_seq (by kernel_rfl) rfl rfl s H
@[simp] theorem n33_4 (s : List V) (H : Heap) : evCode P Γ call n f m (cAt [1, 0] B33) s H = seqNext P Γ call n f m (cAt [1, 0, 1] B33) (evCode P Γ call n f m (cAt [1, 0, 0] B33) s H) := at_seq (by kernel_rfl) rfl rfl s H
noncomputable def r33_5 : {l : List Oper // opsOf (cAt [1, 0, 0] B33) = l} := by
  apply Subtype.mk
  dsimp only [opsOf, cAt, kids, B33, bodyOf, Tryd.f33, List.getD, List.getElem?_cons_zero, List.getElem?_cons_succ, Option.getD_some]
@[simp] theorem n33_5 (s : List V) (H : Heap) : evCode P Γ call n f m (cAt [1, 0, 0] B33) s H = regNext (evOpsGo P Γ call r33_5.1 r33_5.1 s H) := at_region (by kernel_rfl) r33_5.2 s H
attribute [simp] r33_5
@[simp] theorem n33_6 (s : List V) (H : Heap) : evCode P Γ call n f m (cAt [1, 0, 1] B33) s H = condW P Γ call n f m (cAt [1, 0, 1, 0] B33) (cAt [1, 0, 1, 1] B33) s H (evOperand Γ s (.tmp 10)) := at_cond (by kernel_rfl) (by kernel_rfl) rfl rfl s H
@[simp] theorem n33_7 (s : List V) (H : Heap) : evCode P Γ call n f m (cAt [1, 0, 1, 0] B33) s H = seqNext P Γ call n f m (cAt [1, 0, 1, 0, 1] B33) (evCode P Γ call n f m (cAt [1, 0, 1, 0, 0] B33) s H) := at_seq (by kernel_rfl) rfl rfl s H
@[simp] theorem n33_8 (s : List V) (H : Heap) : evCode P Γ call n f m (cAt [1, 0, 1, 0, 0] B33) s H = seqNext P Γ call n f m (cAt [1, 0, 1, 0, 0, 1] B33) (evCode P Γ call n f m (cAt [1, 0, 1, 0, 0, 0] B33) s H) := at_seq (by kernel_rfl) rfl rfl s H
noncomputable def r33_9 : {l : List Oper // opsOf (cAt [1, 0, 1, 0, 0, 0] B33) = l} := by
  apply Subtype.mk
  dsimp only [opsOf, cAt, kids, B33, bodyOf, Tryd.f33, List.getD, List.getElem?_cons_zero, List.getElem?_cons_succ, Option.getD_some]
@[simp] theorem n33_9 (s : List V) (H : Heap) : evCode P Γ call n f m (cAt [1, 0, 1, 0, 0, 0] B33) s H = regNext (evOpsGo P Γ call r33_9.1 r33_9.1 s H) := at_region (by kernel_rfl) r33_9.2 s H
attribute [simp] r33_9
@[simp] theorem n33_10 (s : List V) (H : Heap) : evCode P Γ call n f m (cAt [1, 0, 1, 0, 0, 1] B33) s H = condW P Γ call n f m (cAt [1, 0, 1, 0, 0, 1, 0] B33) (cAt [1, 0, 1, 0, 0, 1, 1] B33) s H (evOperand Γ s (.tmp 12)) := at_cond (by kernel_rfl) (by kernel_rfl) rfl rfl s H
@[simp] theorem n33_11 (s : List V) (H : Heap) : evCode P Γ call n f m (cAt [1, 0, 1, 0, 0, 1, 0] B33) s H = seqNext P Γ call n f m (cAt [1, 0, 1, 0, 0, 1, 0, 1] B33) (evCode P Γ call n f m (cAt [1, 0, 1, 0, 0, 1, 0, 0] B33) s H) := at_seq (by kernel_rfl) rfl rfl s H
noncomputable def r33_12 : {l : List Oper // opsOf (cAt [1, 0, 1, 0, 0, 1, 0, 0] B33) = l} := by
  apply Subtype.mk
  dsimp only [opsOf, cAt, kids, B33, bodyOf, Tryd.f33, List.getD, List.getElem?_cons_zero, List.getElem?_cons_succ, Option.getD_some]
@[simp] theorem n33_12 (s : List V) (H : Heap) : evCode P Γ call n f m (cAt [1, 0, 1, 0, 0, 1, 0, 0] B33) s H = regNext (evOpsGo P Γ call r33_12.1 r33_12.1 s H) := at_region (by kernel_rfl) r33_12.2 s H
attribute [simp] r33_12
@[simp] theorem n33_13 (s : List V) (H : Heap) : evCode P Γ call n f m (cAt [1, 0, 1, 0, 0, 1, 0, 1] B33) s H = some (.ret, s, H) := at_ret (by kernel_rfl) s H
@[simp] theorem n33_14 (s : List V) (H : Heap) : evCode P Γ call n f m (cAt [1, 0, 1, 0, 0, 1, 1] B33) s H = some (.normal, s, H) := at_skip (by kernel_rfl) s H
@[simp] theorem n33_15 (s : List V) (H : Heap) : evCode P Γ call n f m (cAt [1, 0, 1, 0, 1] B33) s H = seqNext P Γ call n f m (cAt [1, 0, 1, 0, 1, 1] B33) (evCode P Γ call n f m (cAt [1, 0, 1, 0, 1, 0] B33) s H) := at_seq (by kernel_rfl) rfl rfl s H
noncomputable def r33_16 : {l : List Oper // opsOf (cAt [1, 0, 1, 0, 1, 0] B33) = l} := by
  apply Subtype.mk
  dsimp only [opsOf, cAt, kids, B33, bodyOf, Tryd.f33, List.getD, List.getElem?_cons_zero, List.getElem?_cons_succ, Option.getD_some]
@[simp] theorem n33_16 (s : List V) (H : Heap) : evCode P Γ call n f m (cAt [1, 0, 1, 0, 1, 0] B33) s H = regNext (evOpsGo P Γ call r33_16.1 r33_16.1 s H) := at_region (by kernel_rfl) r33_16.2 s H
attribute [simp] r33_16
@[simp] theorem n33_17 (s : List V) (H : Heap) : evCode P Γ call n f m (cAt [1, 0, 1, 0, 1, 1] B33) s H = seqNext P Γ call n f m (cAt [1, 0, 1, 0, 1, 1, 1] B33) (evCode P Γ call n f m (cAt [1, 0, 1, 0, 1, 1, 0] B33) s H) := at_seq (by kernel_rfl) rfl rfl s H
noncomputable def r33_18 : {l : List Oper // opsOf (cAt [1, 0, 1, 0, 1, 1, 0] B33) = l} := by
  apply Subtype.mk
  dsimp only [opsOf, cAt, kids, B33, bodyOf, Tryd.f33, List.getD, List.getElem?_cons_zero, List.getElem?_cons_succ, Option.getD_some]
@[simp] theorem n33_18 (s : List V) (H : Heap) : evCode P Γ call n f m (cAt [1, 0, 1, 0, 1, 1, 0] B33) s H = regNext (evOpsGo P Γ call r33_18.1 r33_18.1 s H) := at_region (by kernel_rfl) r33_18.2 s H
attribute [simp] r33_18
@[simp] theorem n33_19 (s : List V) (H : Heap) : evCode P Γ call n f m (cAt [1, 0, 1, 0, 1, 1, 1] B33) s H = seqNext P Γ call n f m (cAt [1, 0, 1, 0, 1, 1, 1, 1] B33) (evCode P Γ call n f m (cAt [1, 0, 1, 0, 1, 1, 1, 0] B33) s H) := at_seq (by kernel_rfl) rfl rfl s H
noncomputable def r33_20 : {l : List Oper // opsOf (cAt [1, 0, 1, 0, 1, 1, 1, 0] B33) = l} := by
  apply Subtype.mk
  dsimp only [opsOf, cAt, kids, B33, bodyOf, Tryd.f33, List.getD, List.getElem?_cons_zero, List.getElem?_cons_succ, Option.getD_some]
@[simp] theorem n33_20 (s : List V) (H : Heap) : evCode P Γ call n f m (cAt [1, 0, 1, 0, 1, 1, 1, 0] B33) s H = regNext (evOpsGo P Γ call r33_20.1 r33_20.1 s H) := at_region (by kernel_rfl) r33_20.2 s H
attribute [simp] r33_20
@[simp] theorem n33_21 (s : List V) (H : Heap) : evCode P Γ call n f m (cAt [1, 0, 1, 0, 1, 1, 1, 1] B33) s H = seqNext P Γ call n f m (cAt [1, 0, 1, 0, 1, 1, 1, 1, 1] B33) (evCode P Γ call n f m (cAt [1, 0, 1, 0, 1, 1, 1, 1, 0] B33) s H) := at_seq (by kernel_rfl) rfl rfl s H
noncomputable def r33_22 : {l : List Oper // opsOf (cAt [1, 0, 1, 0, 1, 1, 1, 1, 0] B33) = l} := by
  apply Subtype.mk
  dsimp only [opsOf, cAt, kids, B33, bodyOf, Tryd.f33, List.getD, List.getElem?_cons_zero, List.getElem?_cons_succ, Option.getD_some]
@[simp] theorem n33_22 (s : List V) (H : Heap) : evCode P Γ call n f m (cAt [1, 0, 1, 0, 1, 1, 1, 1, 0] B33) s H = regNext (evOpsGo P Γ call r33_22.1 r33_22.1 s H) := at_region (by kernel_rfl) r33_22.2 s H
attribute [simp] r33_22
@[simp] theorem n33_23 (s : List V) (H : Heap) : evCode P Γ call n f m (cAt [1, 0, 1, 0, 1, 1, 1, 1, 1] B33) s H = some (.ret, s, H) := at_ret (by kernel_rfl) s H
@[simp] theorem n33_24 (s : List V) (H : Heap) : evCode P Γ call n f m (cAt [1, 0, 1, 1] B33) s H = some (.normal, s, H) := at_skip (by kernel_rfl) s H
@[simp] theorem n33_25 (s : List V) (H : Heap) : evCode P Γ call n f m (cAt [1, 1] B33) s H = seqNext P Γ call n f m (cAt [1, 1, 1] B33) (evCode P Γ call n f m (cAt [1, 1, 0] B33) s H) := at_seq (by kernel_rfl) rfl rfl s H
noncomputable def r33_26 : {l : List Oper // opsOf (cAt [1, 1, 0] B33) = l} := by
  apply Subtype.mk
  dsimp only [opsOf, cAt, kids, B33, bodyOf, Tryd.f33, List.getD, List.getElem?_cons_zero, List.getElem?_cons_succ, Option.getD_some]
@[simp] theorem n33_26 (s : List V) (H : Heap) : evCode P Γ call n f m (cAt [1, 1, 0] B33) s H = regNext (evOpsGo P Γ call r33_26.1 r33_26.1 s H) := at_region (by kernel_rfl) r33_26.2 s H
attribute [simp] r33_26
@[simp] theorem n33_27 (s : List V) (H : Heap) : evCode P Γ call n f m (cAt [1, 1, 1] B33) s H = seqNext P Γ call n f m (cAt [1, 1, 1, 1] B33) (evCode P Γ call n f m (cAt [1, 1, 1, 0] B33) s H) := at_seq (by kernel_rfl) rfl rfl s H
noncomputable def r33_28 : {l : List Oper // opsOf (cAt [1, 1, 1, 0] B33) = l} := by
  apply Subtype.mk
  dsimp only [opsOf, cAt, kids, B33, bodyOf, Tryd.f33, List.getD, List.getElem?_cons_zero, List.getElem?_cons_succ, Option.getD_some]
@[simp] theorem n33_28 (s : List V) (H : Heap) : evCode P Γ call n f m (cAt [1, 1, 1, 0] B33) s H = regNext (evOpsGo P Γ call r33_28.1 r33_28.1 s H) := at_region (by kernel_rfl) r33_28.2 s H
attribute [simp] r33_28
@[simp] theorem n33_29 (s : List V) (H : Heap) : evCode P Γ call n f m (cAt [1, 1, 1, 1] B33) s H = some (.ret, s, H) := at_ret (by kernel_rfl) s H
theorem b33 {k : Nat} (ho : ∀ args H, Γ.orc 33 args H = none) (args : List V) (H : Heap) (ha : args.length ≤ 32) : evF Tryd.prog Γ (k + 1) 33 args H = bodyEnd Tryd.prog [.tmp 4] H.length (evCode Tryd.prog Γ (evF Tryd.prog Γ k) k 33 H.length (cAt [] B33) (mkL 32 V.undef (enumV 0 args)) H) := body_at Tryd.func33 (by decide) rfl ho rfl rfl args H ha
noncomputable def B34 : Code := bodyOf Tryd.f34
@[simp] theorem n34_1 (s : List V) (H : Heap) : evCode P Γ call n f m (cAt [] B34) s H = seqNext P Γ call n f m (cAt [1] B34) (evCode P Γ call n f m (cAt [0] B34) s H) := at_seq (by kernel_rfl) rfl rfl s H
noncomputable def r34_2 : {l : List Oper // opsOf (cAt [0] B34) = l} := by
  apply Subtype.mk
  dsimp only [opsOf, cAt, kids, B34, bodyOf, Tryd.f34, List.getD, List.getElem?_cons_zero, List.getElem?_cons_succ, Option.getD_some]
@[simp] theorem n34_2 (s : List V) (H : Heap) : evCode P Γ call n f m (cAt [0] B34) s H = regNext (evOpsGo P Γ call r34_2.1 r34_2.1 s H) := at_region (by kernel_rfl) r34_2.2 s H
attribute [simp] r34_2
@[simp] theorem n34_3 (s : List V) (H : Heap) : evCode P Γ call n f m (cAt [1] B34) s H = seqNext P Γ call n f m (cAt [1, 1] B34) (evCode P Γ call n f m (cAt [1, 0] B34) s H) := at_seq (by kernel_rfl) rfl rfl s H
noncomputable def r34_4 : {l : List Oper // opsOf (cAt [1, 0] B34) = l} := by
  apply Subtype.mk
  dsimp only [opsOf, cAt, kids, B34, bodyOf, Tryd.f34, List.getD, List.getElem?_cons_zero, List.getElem?_cons_succ, Option.getD_some]
@[simp] theorem n34_4 (s : List V) (H : Heap) : evCode P Γ call n f m (cAt [1, 0] B34) s H = regNext (evOpsGo P Γ call r34_4.1 r34_4.1 s H) := at_region (by kernel_rfl) r34_4.2 s H
attribute [simp] r34_4
@[simp] theorem n34_5 (s : List V) (H : Heap) : evCode P Γ call n f m (cAt [1, 1] B34) s H = some (.ret, s, H) := at_ret (by kernel_rfl) s H
theorem b34 {k : Nat} (ho : ∀ args H, Γ.orc 34 args H = none) (args : List V) (H : Heap) (ha : args.length ≤ 5) : evF Tryd.prog Γ (k + 1) 34 args H = bodyEnd Tryd.prog [.tmp 2] H.length (evCode Tryd.prog Γ (evF Tryd.prog Γ k) k 34 H.length (cAt [] B34) (mkL 5 V.undef (enumV 0 args)) H) := body_at Tryd.func34 (by decide) rfl ho rfl rfl args H ha
noncomputable def B38 : Code := bodyOf Tryd.f38
@[simp] theorem n38_1 (s : List V) (H : Heap) : evCode P Γ call n f m (cAt [] B38) s H = seqNext P Γ call n f m (cAt [1] B38) (evCode P Γ call n f m (cAt [0] B38) s H) := at_seq (by kernel_rfl) rfl rfl s H
noncomputable def r38_2 : {l : List Oper // opsOf (cAt [0] B38) = l} := by
  apply Subtype.mk
  dsimp only [opsOf, cAt, kids, B38, bodyOf, Tryd.f38, List.getD, List.getElem?_cons_zero, List.getElem?_cons_succ, Option.getD_some]
@[simp] theorem n38_2 (s : List V) (H : Heap) : evCode P Γ call n f m (cAt [0] B38) s H = regNext (evOpsGo P Γ call r38_2.1 r38_2.1 s H) := at_region (by kernel_rfl) r38_2.2 s H
attribute [simp] r38_2
@[simp] theorem n38_3 (s : List V) (H : Heap) : evCode P Γ call n f m (cAt [1] B38) s H = seqNext P Γ call n f m (cAt [1, 1] B38) (evCode P Γ call n f m (cAt [1, 0] B38) s H) := at_seq (by kernel_rfl) rfl rfl s H
@[simp] theorem n38_4 (s : List V) (H : Heap) : evCode P Γ call n f m (cAt [1, 0] B38) s H = seqNext P Γ call n f m (cAt [1, 0, 1] B38) (evCode P Γ call n f m (cAt [1, 0, 0] B38) s H) := at_seq (by kernel_rfl) rfl rfl s H
noncomputable def r38_5 : {l : List Oper // opsOf (cAt [1, 0, 0] B38) = l} := by
  apply Subtype.mk
  dsimp only [opsOf, cAt, kids, B38, bodyOf, Tryd.f38, List.getD, List.getElem?_cons_zero, List.getElem?_cons_succ, Option.getD_some]
@[simp] theorem n38_5 (s : List V) (H : Heap) : evCode P Γ call n f m (cAt [1, 0, 0] B38) s H = regNext (evOpsGo P Γ call r38_5.1 r38_5.1 s H) := at_region (by kernel_rfl) r38_5.2 s H
attribute [simp] r38_5
@[simp] theorem n38_6 (s : List V) (H : Heap) : evCode P Γ call n f m (cAt [1, 0, 1] B38) s H = condW P Γ call n f m (cAt [1, 0, 1, 0] B38) (cAt [1, 0, 1, 1] B38) s H (evOperand Γ s (.tmp 21)) := at_cond (by kernel_rfl) (by kernel_rfl) rfl rfl s H
@[simp] theorem n38_7 (s : List V) (H : Heap) : evCode P Γ call n f m (cAt [1, 0, 1, 0] B38) s H = seqNext P Γ call n f m (cAt [1, 0, 1, 0, 1] B38) (evCode P Γ call n f m (cAt [1, 0, 1, 0, 0] B38) s H) := at_seq (by kernel_rfl) rfl rfl s H
noncomputable def r38_8 : {l : List Oper // opsOf (cAt [1, 0, 1, 0, 0] B38) = l} := by
  apply Subtype.mk
  dsimp only [opsOf, cAt, kids, B38, bodyOf, Tryd.f38, List.getD, List.getElem?_cons_zero, List.getElem?_cons_succ, Option.getD_some]
@[simp] theorem n38_8 (s : List V) (H : Heap) : evCode P Γ call n f m (cAt [1, 0, 1, 0, 0] B38) s H = regNext (evOpsGo P Γ call r38_8.1 r38_8.1 s H) := at_region (by kernel_rfl) r38_8.2 s H
attribute [simp] r38_8
@[simp] theorem n38_9 (s : List V) (H : Heap) : evCode P Γ call n f m (cAt [1, 0, 1, 0, 1] B38) s H = some (.ret, s, H) := at_ret (by kernel_rfl) s H
@[simp] theorem n38_10 (s : List V) (H : Heap) : evCode P Γ call n f m (cAt [1, 0, 1, 1] B38) s H = some (.normal, s, H) := at_skip (by kernel_rfl) s H
@[simp] theorem n38_11 (s : List V) (H : Heap) : evCode P Γ call n f m (cAt [1, 1] B38) s H = seqNext P Γ call n f m (cAt [1, 1, 1] B38) (evCode P Γ call n f m (cAt [1, 1, 0] B38) s H) := at_seq (by kernel_rfl) rfl rfl s H
@[simp] theorem n38_12 (s : List V) (H : Heap) : evCode P Γ call n f m (cAt [1, 1, 0] B38) s H = seqNext P Γ call n f m (cAt [1, 1, 0, 1] B38) (evCode P Γ call n f m (cAt [1, 1, 0, 0] B38) s H) := at_seq (by kernel_rfl) rfl rfl s H
noncomputable def r38_13 : {l : List Oper // opsOf (cAt [1, 1, 0, 0] B38) = l} := by
  apply Subtype.mk
  dsimp only [opsOf, cAt, kids, B38, bodyOf, Tryd.f38, List.getD, List.getElem?_cons_zero, List.getElem?_cons_succ, Option.getD_some]
@[simp] theorem n38_13 (s : List V) (H : Heap) : evCode P Γ call n f m (cAt [1, 1, 0, 0] B38) s H = regNext (evOpsGo P Γ call r38_13.1 r38_13.1 s H) := at_region (by kernel_rfl) r38_13.2 s H
attribute [simp] r38_13
@[simp] theorem n38_14 (s : List V) (H : Heap) : evCode P Γ call n f m (cAt [1, 1, 0, 1] B38) s H = blockNext 0 (evCode P Γ call n f m (cAt [1, 1, 0, 1, 0] B38) s H) := at_block (by kernel_rfl) rfl s H
@[simp] theorem n38_15 (s : List V) (H : Heap) : evCode P Γ call n f m (cAt [1, 1, 0, 1, 0] B38) s H = evLoopC P Γ call n f m (cAt [1, 1, 0, 1, 0, 0] B38) n s H := at_loop (by kernel_rfl) rfl s H
noncomputable abbrev L38_4 : Code := cAt [1, 1, 0, 1, 0, 0] B38
@[simp] theorem n38_15f : firstRegion (cAt [1, 1, 0, 1, 0, 0] B38) = 4 := by kernel_rfl
@[simp] theorem n38_16 (s : List V) (H : Heap) : evCode P Γ call n f m (cAt [1, 1, 0, 1, 0, 0] B38) s H = seqNext P Γ call n f m (cAt [1, 1, 0, 1, 0, 0, 1] B38) (evCode P Γ call n f m (cAt [1, 1, 0, 1, 0, 0, 0] B38) s H) := at_seq (by kernel_rfl) rfl rfl s H
noncomputable def r38_17 : {l : List Oper // opsOf (cAt [1, 1, 0, 1, 0, 0, 0] B38) = l} := by
  apply Subtype.mk
  dsimp only [opsOf, cAt, kids, B38, bodyOf, Tryd.f38, List.getD, List.getElem?_cons_zero, List.getElem?_cons_succ, Option.getD_some]
@[simp] theorem n38_17 (s : List V) (H : Heap) : evCode P Γ call n f m (cAt [1, 1, 0, 1, 0, 0, 0] B38) s H = regNext (evOpsGo P Γ call r38_17.1 r38_17.1 s H) := at_region (by kernel_rfl) r38_17.2 s H
attribute [simp] r38_17
@[simp] theorem n38_18 (s : List V) (H : Heap) : evCode P Γ call n f m (cAt [1, 1, 0, 1, 0, 0, 1] B38) s H = seqNext P Γ call n f m (cAt [1, 1, 0, 1, 0, 0, 1, 1] B38) (evCode P Γ call n f m (cAt [1, 1, 0, 1, 0, 0, 1, 0] B38) s H) := at_seq (by kernel_rfl) rfl rfl s H
@[simp] theorem n38_19 (s : List V) (H : Heap) : evCode P Γ call n f m (cAt [1, 1, 0, 1, 0, 0, 1, 0] B38) s H = condW P Γ call n f m (cAt [1, 1, 0, 1, 0, 0, 1, 0, 0] B38) (cAt [1, 1, 0, 1, 0, 0, 1, 0, 1] B38) s H (evOperand Γ s (.tmp 25)) := at_cond (by kernel_rfl) (by kernel_rfl) rfl rfl s H
@[simp] theorem n38_20 (s : List V) (H : Heap) : evCode P Γ call n f m (cAt [1, 1, 0, 1, 0, 0, 1, 0, 0] B38) s H = some (.normal, s, H) := at_skip (by kernel_rfl) s H
@[simp] theorem n38_21 (s : List V) (H : Heap) : evCode P Γ call n f m (cAt [1, 1, 0, 1, 0, 0, 1, 0, 1] B38) s H = some (.exit 0, s, H) := at_exit (by kernel_rfl) s H
@[simp] theorem n38_22 (s : List V) (H : Heap) : evCode P Γ call n f m (cAt [1, 1, 0, 1, 0, 0, 1, 1] B38) s H = seqNext P Γ call n f m (cAt [1, 1, 0, 1, 0, 0, 1, 1, 1] B38) (evCode P Γ call n f m (cAt [1, 1, 0, 1, 0, 0, 1, 1, 0] B38) s H) := at_seq (by kernel_rfl) rfl rfl s H
@[simp] theorem n38_23 (s : List V) (H : Heap) : evCode P Γ call n f m (cAt [1, 1, 0, 1, 0, 0, 1, 1, 0] B38) s H = blockNext 1 (evCode P Γ call n f m (cAt [1, 1, 0, 1, 0, 0, 1, 1, 0, 0] B38) s H) := at_block (by kernel_rfl) rfl s H
@[simp] theorem n38_24 (s : List V) (H : Heap) : evCode P Γ call n f m (cAt [1, 1, 0, 1, 0, 0, 1, 1, 0, 0] B38) s H = seqNext P Γ call n f m (cAt [1, 1, 0, 1, 0, 0, 1, 1, 0, 0, 1] B38) (evCode P Γ call n f m (cAt [1, 1, 0, 1, 0, 0, 1, 1, 0, 0, 0] B38) s H) := at_seq (by kernel_rfl) rfl rfl s H
noncomputable def r38_25 : {l : List Oper // opsOf (cAt [1, 1, 0, 1, 0, 0, 1, 1, 0, 0, 0] B38) = l} := by
  apply Subtype.mk
  dsimp only [opsOf, cAt, kids, B38, bodyOf, Tryd.f38, List.getD, List.getElem?_cons_zero, List.getElem?_cons_succ, Option.getD_some]
@[simp] theorem n38_25 (s : List V) (H : Heap) : evCode P Γ call n f m (cAt [1, 1, 0, 1, 0, 0, 1, 1, 0, 0, 0] B38) s H = regNext (evOpsGo P Γ call r38_25.1 r38_25.1 s H) := at_region (by kernel_rfl) r38_25.2 s H
attribute [simp] r38_25
@[simp] theorem n38_26 (s : List V) (H : Heap) : evCode P Γ call n f m (cAt [1, 1, 0, 1, 0, 0, 1, 1, 0, 0, 1] B38) s H = seqNext P Γ call n f m (cAt [1, 1, 0, 1, 0, 0, 1, 1, 0, 0, 1, 1] B38) (evCode P Γ call n f m (cAt [1, 1, 0, 1, 0, 0, 1, 1, 0, 0, 1, 0] B38) s H) := at_seq (by kernel_rfl) rfl rfl s H
noncomputable def r38_27 : {l : List Oper // opsOf (cAt [1, 1, 0, 1, 0, 0, 1, 1, 0, 0, 1, 0] B38) = l} := by
  apply Subtype.mk
  dsimp only [opsOf, cAt, kids, B38, bodyOf, Tryd.f38, List.getD, List.getElem?_cons_zero, List.getElem?_cons_succ, Option.getD_some]
@[simp] theorem n38_27 (s : List V) (H : Heap) : evCode P Γ call n f m (cAt [1, 1, 0, 1, 0, 0, 1, 1, 0, 0, 1, 0] B38) s H = regNext (evOpsGo P Γ call r38_27.1 r38_27.1 s H) := at_region (by kernel_rfl) r38_27.2 s H
attribute [simp] r38_27
@[simp] theorem n38_28 (s : List V) (H : Heap) : evCode P Γ call n f m (cAt [1, 1, 0, 1, 0, 0, 1, 1, 0, 0, 1, 1] B38) s H = seqNext P Γ call n f m (cAt [1, 1, 0, 1, 0, 0, 1, 1, 0, 0, 1, 1, 1] B38) (evCode P Γ call n f m (cAt [1, 1, 0, 1, 0, 0, 1, 1, 0, 0, 1, 1, 0] B38) s H) := at_seq (by kernel_rfl) rfl rfl s H
noncomputable def r38_29 : {l : List Oper // opsOf (cAt [1, 1, 0, 1, 0, 0, 1, 1, 0, 0, 1, 1, 0] B38) = l} := by
  apply Subtype.mk
  dsimp only [opsOf, cAt, kids, B38, bodyOf, Tryd.f38, List.getD, List.getElem?_cons_zero, List.getElem?_cons_succ, Option.getD_some]
@[simp] theorem n38_29 (s : List V) (H : Heap) : evCode P Γ call n f m (cAt [1, 1, 0, 1, 0, 0, 1, 1, 0, 0, 1, 1, 0] B38) s H = regNext (evOpsGo P Γ call r38_29.1 r38_29.1 s H) := at_region (by kernel_rfl) r38_29.2 s H
attribute [simp] r38_29
@[simp] theorem n38_30 (s : List V) (H : Heap) : evCode P Γ call n f m (cAt [1, 1, 0, 1, 0, 0, 1, 1, 0, 0, 1, 1, 1] B38) s H = condW P Γ call n f m (cAt [1, 1, 0, 1, 0, 0, 1, 1, 0, 0, 1, 1, 1, 0] B38) (cAt [1, 1, 0, 1, 0, 0, 1, 1, 0, 0, 1, 1, 1, 1] B38) s H (evOperand Γ s (.tmp 47)) := at_cond (by kernel_rfl) (by kernel_rfl) rfl rfl s H
@[simp] theorem n38_31 (s : List V) (H : Heap) : evCode P Γ call n f m (cAt [1, 1, 0, 1, 0, 0, 1, 1, 0, 0, 1, 1, 1, 0] B38) s H = seqNext P Γ call n f m (cAt [1, 1, 0, 1, 0, 0, 1, 1, 0, 0, 1, 1, 1, 0, 1] B38) (evCode P Γ call n f m (cAt [1, 1, 0, 1, 0, 0, 1, 1, 0, 0, 1, 1, 1, 0, 0] B38) s H) := at_seq (by kernel_rfl) rfl rfl s H
noncomputable def r38_32 : {l : List Oper // opsOf (cAt [1, 1, 0, 1, 0, 0, 1, 1, 0, 0, 1, 1, 1, 0, 0] B38) = l} := by
  apply Subtype.mk
  dsimp only [opsOf, cAt, kids, B38, bodyOf, Tryd.f38, List.getD, List.getElem?_cons_zero, List.getElem?_cons_succ, Option.getD_some]
@[simp] theorem n38_32 (s : List V) (H : Heap) : evCode P Γ call n f m (cAt [1, 1, 0, 1, 0, 0, 1, 1, 0, 0, 1, 1, 1, 0, 0] B38) s H = regNext (evOpsGo P Γ call r38_32.1 r38_32.1 s H) := at_region (by kernel_rfl) r38_32.2 s H
attribute [simp] r38_32
@[simp] theorem n38_33 (s : List V) (H : Heap) : evCode P Γ call n f m (cAt [1, 1, 0, 1, 0, 0, 1, 1, 0, 0, 1, 1, 1, 0, 1] B38) s H = some (.ret, s, H) := at_ret (by kernel_rfl) s H
@[simp] theorem n38_34 (s : List V) (H : Heap) : evCode P Γ call n f m (cAt [1, 1, 0, 1, 0, 0, 1, 1, 0, 0, 1, 1, 1, 1] B38) s H = some (.normal, s, H) := at_skip (by kernel_rfl) s H
noncomputable def r38_35 : {l : List Oper // opsOf (cAt [1, 1, 0, 1, 0, 0, 1, 1, 1] B38) = l} := by
  apply Subtype.mk
  dsimp only [opsOf, cAt, kids, B38, bodyOf, Tryd.f38, List.getD, List.getElem?_cons_zero, List.getElem?_cons_succ, Option.getD_some]
@[simp] theorem n38_35 (s : List V) (H : Heap) : evCode P Γ call n f m (cAt [1, 1, 0, 1, 0, 0, 1, 1, 1] B38) s H = regNext (evOpsGo P Γ call r38_35.1 r38_35.1 s H) := at_region (by kernel_rfl) r38_35.2 s H
attribute [simp] r38_35
@[simp] theorem n38_36 (s : List V) (H : Heap) : evCode P Γ call n f m (cAt [1, 1, 1] B38) s H = seqNext P Γ call n f m (cAt [1, 1, 1, 1] B38) (evCode P Γ call n f m (cAt [1, 1, 1, 0] B38) s H) := at_seq (by kernel_rfl) rfl rfl s H
noncomputable def r38_37 : {l : List Oper // opsOf (cAt [1, 1, 1, 0] B38) = l} := by
  apply Subtype.mk
  dsimp only [opsOf, cAt, kids, B38, bodyOf, Tryd.f38, List.getD, List.getElem?_cons_zero, List.getElem?_cons_succ, Option.getD_some]
@[simp] theorem n38_37 (s : List V) (H : Heap) : evCode P Γ call n f m (cAt [1, 1, 1, 0] B38) s H = regNext (evOpsGo P Γ call r38_37.1 r38_37.1 s H) := at_region (by kernel_rfl) r38_37.2 s H
attribute [simp] r38_37
@[simp] theorem n38_38 (s : List V) (H : Heap) : evCode P Γ call n f m (cAt [1, 1, 1, 1] B38) s H = some (.ret, s, H) := at_ret (by kernel_rfl) s H
theorem b38 {k : Nat} (ho : ∀ args H, Γ.orc 38 args H = none) (args : List V) (H : Heap) (ha : args.length ≤ 49) : evF Tryd.prog Γ (k + 1) 38 args H = bodyEnd Tryd.prog [.tmp 2] H.length (evCode Tryd.prog Γ (evF Tryd.prog Γ k) k 38 H.length (cAt [] B38) (mkL 49 V.undef (enumV 0 args)) H) := body_at Tryd.func38 (by decide) rfl ho rfl rfl args H ha
noncomputable def B39 : Code := bodyOf Tryd.f39
@[simp] theorem n39_1 (s : List V) (H : Heap) : evCode P Γ call n f m (cAt [] B39) s H = seqNext P Γ call n f m (cAt [1] B39) (evCode P Γ call n f m (cAt [0] B39) s H) := at_seq (by kernel_rfl) rfl rfl s H
noncomputable def r39_2 : {l : List Oper // opsOf (cAt [0] B39) = l} := by
  apply Subtype.mk
  dsimp only [opsOf, cAt, kids, B39, bodyOf, Tryd.f39, List.getD, List.getElem?_cons_zero, List.getElem?_cons_succ, Option.getD_some]
@[simp] theorem n39_2 (s : List V) (H : Heap) : evCode P Γ call n f m (cAt [0] B39) s H = regNext (evOpsGo P Γ call r39_2.1 r39_2.1 s H) := at_region (by kernel_rfl) r39_2.2 s H
attribute [simp] r39_2
@[simp] theorem n39_3 (s : List V) (H : Heap) : evCode P Γ call n f m (cAt [1] B39) s H = seqNext P Γ call n f m (cAt [1, 1] B39) (evCode P Γ call n f m (cAt [1, 0] B39) s H) := at_seq (by kernel_rfl) rfl rfl s H
@[simp] theorem n39_4 (s : List V) (H : Heap) : evCode P Γ call n f m (cAt [1, 0] B39) s H = seqNext P Γ call n f m (cAt [1, 0, 1] B39) (evCode P Γ call n f m (cAt [1, 0, 0] B39) s H) := at_seq (by kernel_rfl) rfl rfl s H
noncomputable def r39_5 : {l : List Oper // opsOf (cAt [1, 0, 0] B39) = l} := by
  apply Subtype.mk
  dsimp only [opsOf, cAt, kids, B39, bodyOf, Tryd.f39, List.getD, List.getElem?_cons_zero, List.getElem?_cons_succ, Option.getD_some]
@[simp] theorem n39_5 (s : List V) (H : Heap) : evCode P Γ call n f m (cAt [1, 0, 0] B39) s H = regNext (evOpsGo P Γ call r39_5.1 r39_5.1 s H) := at_region (by kernel_rfl) r39_5.2 s H
attribute [simp] r39_5
@[simp] theorem n39_6 (s : List V) (H : Heap) : evCode P Γ call n f m (cAt [1, 0, 1] B39) s H = condW P Γ call n f m (cAt [1, 0, 1, 0] B39) (cAt [1, 0, 1, 1] B39) s H (evOperand Γ s (.tmp 4)) := at_cond (by kernel_rfl) (by kernel_rfl) rfl rfl s H
@[simp] theorem n39_7 (s : List V) (H : Heap) : evCode P Γ call n f m (cAt [1, 0, 1, 0] B39) s H = seqNext P Γ call n f m (cAt [1, 0, 1, 0, 1] B39) (evCode P Γ call n f m (cAt [1, 0, 1, 0, 0] B39) s H) := at_seq (by kernel_rfl) rfl rfl s H
noncomputable def r39_8 : {l : List Oper // opsOf (cAt [1, 0, 1, 0, 0] B39) = l} := by
  apply Subtype.mk
  dsimp only [opsOf, cAt, kids, B39, bodyOf, Tryd.f39, List.getD, List.getElem?_cons_zero, List.getElem?_cons_succ, Option.getD_some]
@[simp] theorem n39_8 (s : List V) (H : Heap) : evCode P Γ call n f m (cAt [1, 0, 1, 0, 0] B39) s H = regNext (evOpsGo P Γ call r39_8.1 r39_8.1 s H) := at_region (by kernel_rfl) r39_8.2 s H
attribute [simp] r39_8
@[simp] theorem n39_9 (s : List V) (H : Heap) : evCode P Γ call n f m (cAt [1, 0, 1, 0, 1] B39) s H = some (.ret, s, H) := at_ret (by kernel_rfl) s H
@[simp] theorem n39_10 (s : List V) (H : Heap) : evCode P Γ call n f m (cAt [1, 0, 1, 1] B39) s H = some (.normal, s, H) := at_skip (by kernel_rfl) s H
@[simp] theorem n39_11 (s : List V) (H : Heap) : evCode P Γ call n f m (cAt [1, 1] B39) s H = seqNext P Γ call n f m (cAt [1, 1, 1] B39) (evCode P Γ call n f m (cAt [1, 1, 0] B39) s H) := at_seq (by kernel_rfl) rfl rfl s H
noncomputable def r39_12 : {l : List Oper // opsOf (cAt [1, 1, 0] B39) = l} := by
  apply Subtype.mk
  dsimp only [opsOf, cAt, kids, B39, bodyOf, Tryd.f39, List.getD, List.getElem?_cons_zero, List.getElem?_cons_succ, Option.getD_some]
@[simp] theorem n39_12 (s : List V) (H : Heap) : evCode P Γ call n f m (cAt [1, 1, 0] B39) s H = regNext (evOpsGo P Γ call r39_12.1 r39_12.1 s H) := at_region (by kernel_rfl) r39_12.2 s H
attribute [simp] r39_12
@[simp] theorem n39_13 (s : List V) (H : Heap) : evCode P Γ call n f m (cAt [1, 1, 1] B39) s H = some (.ret, s, H) := at_ret (by kernel_rfl) s H
theorem b39 {k : Nat} (ho : ∀ args H, Γ.orc 39 args H = none) (args : List V) (H : Heap) (ha : args.length ≤ 15) : evF Tryd.prog Γ (k + 1) 39 args H = bodyEnd Tryd.prog [.tmp 2] H.length (evCode Tryd.prog Γ (evF Tryd.prog Γ k) k 39 H.length (cAt [] B39) (mkL 15 V.undef (enumV 0 args)) H) := body_at Tryd.func39 (by decide) rfl ho rfl rfl args H ha
end
end Go.Ev.Tryd
