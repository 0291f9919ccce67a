/-
  CODE BY NAMES, printed by wip/tools/codes.py (own work).
-/
import Derived.Test.YthmpoblblgohcaaLineG
set_option maxRecDepth 100000
set_option linter.unusedVariables false
namespace Go.Ev.Try
open Go Go.Ev Go.Proofs
section
variable {P : Program} {Γ : Env} {call : CallF} {n f m : Nat}

noncomputable def B4 : Code := bodyOf Try.f4
@[simp] theorem n4_1 (s : List V) (H : Heap) : evCode P Γ call n f m (cAt [] B4) s H = seqNext P Γ call n f m (cAt [1] B4) (evCode P Γ call n f m (cAt [0] B4) s H) := at_seq (by kernel_rfl) rfl rfl s H
noncomputable def r4_2 : {l : List Oper // opsOf (cAt [0] B4) = l} := by
  apply Subtype.mk
  dsimp only [opsOf, cAt, kids, B4, bodyOf, Try.f4, List.getD, List.getElem?_cons_zero, List.getElem?_cons_succ, Option.getD_some]
@[simp] theorem n4_2 (s : List V) (H : Heap) : evCode P Γ call n f m (cAt [0] B4) s H = regNext (evOpsGo P Γ call r4_2.1 r4_2.1 s H) := at_region (by kernel_rfl) r4_2.2 s H
attribute [simp] r4_2
@[simp] theorem n4_3 (s : List V) (H : Heap) : evCode P Γ call n f m (cAt [1] B4) s H = seqNext P Γ call n f m (cAt [1, 1] B4) (evCode P Γ call n f m (cAt [1, 0] B4) s H) := at_seq (by kernel_rfl) rfl rfl s H
noncomputable def r4_4 : {l : List Oper // opsOf (cAt [1, 0] B4) = l} := by
  apply Subtype.mk
  dsimp only [opsOf, cAt, kids, B4, bodyOf, Try.f4, List.getD, List.getElem?_cons_zero, List.getElem?_cons_succ, Option.getD_some]
@[simp] theorem n4_4 (s : List V) (H : Heap) : evCode P Γ call n f m (cAt [1, 0] B4) s H = regNext (evOpsGo P Γ call r4_4.1 r4_4.1 s H) := at_region (by kernel_rfl) r4_4.2 s H
attribute [simp] r4_4
@[simp] theorem n4_5 (s : List V) (H : Heap) : evCode P Γ call n f m (cAt [1, 1] B4) s H = seqNext P Γ call n f m (cAt [1, 1, 1] B4) (evCode P Γ call n f m (cAt [1, 1, 0] B4) s H) := at_seq (by kernel_rfl) rfl rfl s H
noncomputable def r4_6 : {l : List Oper // opsOf (cAt [1, 1, 0] B4) = l} := by
  apply Subtype.mk
  dsimp only [opsOf, cAt, kids, B4, bodyOf, Try.f4, List.getD, List.getElem?_cons_zero, List.getElem?_cons_succ, Option.getD_some]
@[simp] theorem n4_6 (s : List V) (H : Heap) : evCode P Γ call n f m (cAt [1, 1, 0] B4) s H = regNext (evOpsGo P Γ call r4_6.1 r4_6.1 s H) := at_region (by kernel_rfl) r4_6.2 s H
attribute [simp] r4_6
@[simp] theorem n4_7 (s : List V) (H : Heap) : evCode P Γ call n f m (cAt [1, 1, 1] B4) s H = seqNext P Γ call n f m (cAt [1, 1, 1, 1] B4) (evCode P Γ call n f m (cAt [1, 1, 1, 0] B4) s H) := at_seq (by kernel_rfl) rfl rfl s H
noncomputable def r4_8 : {l : List Oper // opsOf (cAt [1, 1, 1, 0] B4) = l} := by
  apply Subtype.mk
  dsimp only [opsOf, cAt, kids, B4, bodyOf, Try.f4, List.getD, List.getElem?_cons_zero, List.getElem?_cons_succ, Option.getD_some]
@[simp] theorem n4_8 (s : List V) (H : Heap) : evCode P Γ call n f m (cAt [1, 1, 1, 0] B4) s H = regNext (evOpsGo P Γ call r4_8.1 r4_8.1 s H) := at_region (by kernel_rfl) r4_8.2 s H
attribute [simp] r4_8
@[simp] theorem n4_9 (s : List V) (H : Heap) : evCode P Γ call n f m (cAt [1, 1, 1, 1] B4) s H = seqNext P Γ call n f m (cAt [1, 1, 1, 1, 1] B4) (evCode P Γ call n f m (cAt [1, 1, 1, 1, 0] B4) s H) := at_seq (by kernel_rfl) rfl rfl s H
noncomputable def r4_10 : {l : List Oper // opsOf (cAt [1, 1, 1, 1, 0] B4) = l} := by
  apply Subtype.mk
  dsimp only [opsOf, cAt, kids, B4, bodyOf, Try.f4, List.getD, List.getElem?_cons_zero, List.getElem?_cons_succ, Option.getD_some]
@[simp] theorem n4_10 (s : List V) (H : Heap) : evCode P Γ call n f m (cAt [1, 1, 1, 1, 0] B4) s H = regNext (evOpsGo P Γ call r4_10.1 r4_10.1 s H) := at_region (by kernel_rfl) r4_10.2 s H
attribute [simp] r4_10
@[simp] theorem n4_11 (s : List V) (H : Heap) : evCode P Γ call n f m (cAt [1, 1, 1, 1, 1] B4) s H = seqNext P Γ call n f m (cAt [1, 1, 1, 1, 1, 1] B4) (evCode P Γ call n f m (cAt [1, 1, 1, 1, 1, 0] B4) s H) := at_seq (by kernel_rfl) rfl rfl s H
noncomputable def r4_12 : {l : List Oper // opsOf (cAt [1, 1, 1, 1, 1, 0] B4) = l} := by
  apply Subtype.mk
  dsimp only [opsOf, cAt, kids, B4, bodyOf, Try.f4, List.getD, List.getElem?_cons_zero, List.getElem?_cons_succ, Option.getD_some]
@[simp] theorem n4_12 (s : List V) (H : Heap) : evCode P Γ call n f m (cAt [1, 1, 1, 1, 1, 0] B4) s H = regNext (evOpsGo P Γ call r4_12.1 r4_12.1 s H) := at_region (by kernel_rfl) r4_12.2 s H
attribute [simp] r4_12
@[simp] theorem n4_13 (s : List V) (H : Heap) : evCode P Γ call n f m (cAt [1, 1, 1, 1, 1, 1] B4) s H = seqNext P Γ call n f m (cAt [1, 1, 1, 1, 1, 1, 1] B4) (evCode P Γ call n f m (cAt [1, 1, 1, 1, 1, 1, 0] B4) s H) := at_seq (by kernel_rfl) rfl rfl s H
noncomputable def r4_14 : {l : List Oper // opsOf (cAt [1, 1, 1, 1, 1, 1, 0] B4) = l} := by
  apply Subtype.mk
  dsimp only [opsOf, cAt, kids, B4, bodyOf, Try.f4, List.getD, List.getElem?_cons_zero, List.getElem?_cons_succ, Option.getD_some]
@[simp] theorem n4_14 (s : List V) (H : Heap) : evCode P Γ call n f m (cAt [1, 1, 1, 1, 1, 1, 0] B4) s H = regNext (evOpsGo P Γ call r4_14.1 r4_14.1 s H) := at_region (by kernel_rfl) r4_14.2 s H
attribute [simp] r4_14
@[simp] theorem n4_15 (s : List V) (H : Heap) : evCode P Γ call n f m (cAt [1, 1, 1, 1, 1, 1, 1] B4) s H = seqNext P Γ call n f m (cAt [1, 1, 1, 1, 1, 1, 1, 1] B4) (evCode P Γ call n f m (cAt [1, 1, 1, 1, 1, 1, 1, 0] B4) s H) := at_seq (by kernel_rfl) rfl rfl s H
noncomputable def r4_16 : {l : List Oper // opsOf (cAt [1, 1, 1, 1, 1, 1, 1, 0] B4) = l} := by
  apply Subtype.mk
  dsimp only [opsOf, cAt, kids, B4, bodyOf, Try.f4, List.getD, List.getElem?_cons_zero, List.getElem?_cons_succ, Option.getD_some]
@[simp] theorem n4_16 (s : List V) (H : Heap) : evCode P Γ call n f m (cAt [1, 1, 1, 1, 1, 1, 1, 0] B4) s H = regNext (drawR P Γ call r4_16.1 [([1, 3, 4, 5, 6], [51, 53, 54, 55, 56]), ([0, 3, 4, 5, 6], [50, 53, 54, 55, 56]), ([3, 4, 5, 6], [53, 54, 55, 56]), ([0, 1, 2, 4, 6], [50, 51, 52, 54, 56]), ([0, 1, 2, 3, 6], [50, 51, 52, 53, 56]), ([0, 1, 2, 6], [50, 51, 52, 56]), ([0, 1, 2, 3, 4, 5], [50, 51, 52, 53, 54, 55]), ([], []), ([], []), ([], []), ([11], [60]), ([10, 12], [59, 15]), ([11], [60]), ([], [])] s H) := at_drawT (by kernel_rfl) r4_16.2 (by kernel_rfl) s H
attribute [simp] r4_16
@[simp] theorem n4_17 (s : List V) (H : Heap) : evCode P Γ call n f m (cAt [1, 1, 1, 1, 1, 1, 1, 1] B4) s H = seqNext P Γ call n f m (cAt [1, 1, 1, 1, 1, 1, 1, 1, 1] B4) (evCode P Γ call n f m (cAt [1, 1, 1, 1, 1, 1, 1, 1, 0] B4) s H) := at_seq (by kernel_rfl) rfl rfl s H
@[simp] theorem n4_18 (s : List V) (H : Heap) : evCode P Γ call n f m (cAt [1, 1, 1, 1, 1, 1, 1, 1, 0] B4) s H = seqNext P Γ call n f m (cAt [1, 1, 1, 1, 1, 1, 1, 1, 0, 1] B4) (evCode P Γ call n f m (cAt [1, 1, 1, 1, 1, 1, 1, 1, 0, 0] B4) s H) := at_seq (by kernel_rfl) rfl rfl s H
noncomputable def r4_19 : {l : List Oper // opsOf (cAt [1, 1, 1, 1, 1, 1, 1, 1, 0, 0] B4) = l} := by
  apply Subtype.mk
  dsimp only [opsOf, cAt, kids, B4, bodyOf, Try.f4, List.getD, List.getElem?_cons_zero, List.getElem?_cons_succ, Option.getD_some]
@[simp] theorem n4_19 (s : List V) (H : Heap) : evCode P Γ call n f m (cAt [1, 1, 1, 1, 1, 1, 1, 1, 0, 0] B4) s H = regNext (evOpsGo P Γ call r4_19.1 r4_19.1 s H) := at_region (by kernel_rfl) r4_19.2 s H
attribute [simp] r4_19
@[simp] theorem n4_20 (s : List V) (H : Heap) : evCode P Γ call n f m (cAt [1, 1, 1, 1, 1, 1, 1, 1, 0, 1] B4) s H = condW P Γ call n f m (cAt [1, 1, 1, 1, 1, 1, 1, 1, 0, 1, 0] B4) (cAt [1, 1, 1, 1, 1, 1, 1, 1, 0, 1, 1] B4) s H (evOperand Γ s (.tmp 78)) := at_cond (by kernel_rfl) (by kernel_rfl) rfl rfl s H
@[simp] theorem n4_21 (s : List V) (H : Heap) : evCode P Γ call n f m (cAt [1, 1, 1, 1, 1, 1, 1, 1, 0, 1, 0] B4) s H = seqNext P Γ call n f m (cAt [1, 1, 1, 1, 1, 1, 1, 1, 0, 1, 0, 1] B4) (evCode P Γ call n f m (cAt [1, 1, 1, 1, 1, 1, 1, 1, 0, 1, 0, 0] B4) s H) := at_seq (by kernel_rfl) rfl rfl s H
noncomputable def r4_22 : {l : List Oper // opsOf (cAt [1, 1, 1, 1, 1, 1, 1, 1, 0, 1, 0, 0] B4) = l} := by
  apply Subtype.mk
  dsimp only [opsOf, cAt, kids, B4, bodyOf, Try.f4, List.getD, List.getElem?_cons_zero, List.getElem?_cons_succ, Option.getD_some]
@[simp] theorem n4_22 (s : List V) (H : Heap) : evCode P Γ call n f m (cAt [1, 1, 1, 1, 1, 1, 1, 1, 0, 1, 0, 0] B4) s H = regNext (evOpsGo P Γ call r4_22.1 r4_22.1 s H) := at_region (by kernel_rfl) r4_22.2 s H
attribute [simp] r4_22
@[simp] theorem n4_23 (s : List V) (H : Heap) : evCode P Γ call n f m (cAt [1, 1, 1, 1, 1, 1, 1, 1, 0, 1, 0, 1] B4) s H = some (.ret, s, H) := at_ret (by kernel_rfl) s H
@[simp] theorem n4_24 (s : List V) (H : Heap) : evCode P Γ call n f m (cAt [1, 1, 1, 1, 1, 1, 1, 1, 0, 1, 1] B4) s H = some (.normal, s, H) := at_skip (by kernel_rfl) s H
@[simp] theorem n4_25 (s : List V) (H : Heap) : evCode P Γ call n f m (cAt [1, 1, 1, 1, 1, 1, 1, 1, 1] B4) s H = seqNext P Γ call n f m (cAt [1, 1, 1, 1, 1, 1, 1, 1, 1, 1] B4) (evCode P Γ call n f m (cAt [1, 1, 1, 1, 1, 1, 1, 1, 1, 0] B4) s H) := at_seq (by kernel_rfl) rfl rfl s H
noncomputable def r4_26 : {l : List Oper // opsOf (cAt [1, 1, 1, 1, 1, 1, 1, 1, 1, 0] B4) = l} := by
  apply Subtype.mk
  dsimp only [opsOf, cAt, kids, B4, bodyOf, Try.f4, List.getD, List.getElem?_cons_zero, List.getElem?_cons_succ, Option.getD_some]
@[simp] theorem n4_26 (s : List V) (H : Heap) : evCode P Γ call n f m (cAt [1, 1, 1, 1, 1, 1, 1, 1, 1, 0] B4) s H = regNext (evOpsGo P Γ call r4_26.1 r4_26.1 s H) := at_region (by kernel_rfl) r4_26.2 s H
attribute [simp] r4_26
@[simp] theorem n4_27 (s : List V) (H : Heap) : evCode P Γ call n f m (cAt [1, 1, 1, 1, 1, 1, 1, 1, 1, 1] B4) s H = some (.ret, s, H) := at_ret (by kernel_rfl) s H
theorem b4 {k : Nat} (ho : ∀ args H, Γ.orc 4 args H = none) (args : List V) (H : Heap) (ha : args.length ≤ 88) : evF Try.prog Γ (k + 1) 4 args H = bodyEnd Try.prog [.tmp 6] H.length (evCode Try.prog Γ (evF Try.prog Γ k) k 4 H.length (cAt [] B4) (mkL 88 V.undef (enumV 0 args)) H) := body_at Try.func4 (by decide) rfl ho rfl rfl args H ha
noncomputable def B14 : Code := bodyOf Try.f14
@[simp] theorem n14_1 (s : List V) (H : Heap) : evCode P Γ call n f m (cAt [] B14) s H = seqNext P Γ call n f m (cAt [1] B14) (evCode P Γ call n f m (cAt [0] B14) s H) := at_seq (by kernel_rfl) rfl rfl s H
noncomputable def r14_2 : {l : List Oper // opsOf (cAt [0] B14) = l} := by
  apply Subtype.mk
  dsimp only [opsOf, cAt, kids, B14, bodyOf, Try.f14, List.getD, List.getElem?_cons_zero, List.getElem?_cons_succ, Option.getD_some]
@[simp] theorem n14_2 (s : List V) (H : Heap) : evCode P Γ call n f m (cAt [0] B14) s H = regNext (evOpsGo P Γ call r14_2.1 r14_2.1 s H) := at_region (by kernel_rfl) r14_2.2 s H
attribute [simp] r14_2
@[simp] theorem n14_3 (s : List V) (H : Heap) : evCode P Γ call n f m (cAt [1] B14) s H = seqNext P Γ call n f m (cAt [1, 1] B14) (evCode P Γ call n f m (cAt [1, 0] B14) s H) := at_seq (by kernel_rfl) rfl rfl s H
noncomputable def r14_4 : {l : List Oper // opsOf (cAt [1, 0] B14) = l} := by
  apply Subtype.mk
  dsimp only [opsOf, cAt, kids, B14, bodyOf, Try.f14, List.getD, List.getElem?_cons_zero, List.getElem?_cons_succ, Option.getD_some]
@[simp] theorem n14_4 (s : List V) (H : Heap) : evCode P Γ call n f m (cAt [1, 0] B14) s H = regNext (evOpsGo P Γ call r14_4.1 r14_4.1 s H) := at_region (by kernel_rfl) r14_4.2 s H
attribute [simp] r14_4
@[simp] theorem n14_5 (s : List V) (H : Heap) : evCode P Γ call n f m (cAt [1, 1] B14) s H = some (.ret, s, H) := at_ret (by kernel_rfl) s H
theorem b14 {k : Nat} (ho : ∀ args H, Γ.orc 14 args H = none) (args : List V) (H : Heap) (ha : args.length ≤ 13) : evF Try.prog Γ (k + 1) 14 args H = bodyEnd Try.prog [.tmp 6, .tmp 7] H.length (evCode Try.prog Γ (evF Try.prog Γ k) k 14 H.length (cAt [] B14) (mkL 13 V.undef (enumV 0 args)) H) := body_at Try.func14 (by decide) rfl ho rfl rfl args H ha
noncomputable def B15 : Code := bodyOf Try.f15
@[simp] theorem n15_1 (s : List V) (H : Heap) : evCode P Γ call n f m (cAt [] B15) s H = seqNext P Γ call n f m (cAt [1] B15) (evCode P Γ call n f m (cAt [0] B15) s H) := at_seq (by kernel_rfl) rfl rfl s H
noncomputable def r15_2 : {l : List Oper // opsOf (cAt [0] B15) = l} := by
  apply Subtype.mk
  dsimp only [opsOf, cAt, kids, B15, bodyOf, Try.f15, List.getD, List.getElem?_cons_zero, List.getElem?_cons_succ, Option.getD_some]
@[simp] theorem n15_2 (s : List V) (H : Heap) : evCode P Γ call n f m (cAt [0] B15) s H = regNext (evOpsGo P Γ call r15_2.1 r15_2.1 s H) := at_region (by kernel_rfl) r15_2.2 s H
attribute [simp] r15_2
@[simp] theorem n15_3 (s : List V) (H : Heap) : evCode P Γ call n f m (cAt [1] B15) s H = seqNext P Γ call n f m (cAt [1, 1] B15) (evCode P Γ call n f m (cAt [1, 0] B15) s H) := at_seq (by kernel_rfl) rfl rfl s H
noncomputable def r15_4 : {l : List Oper // opsOf (cAt [1, 0] B15) = l} := by
  apply Subtype.mk
  dsimp only [opsOf, cAt, kids, B15, bodyOf, Try.f15, List.getD, List.getElem?_cons_zero, List.getElem?_cons_succ, Option.getD_some]
@[simp] theorem n15_4 (s : List V) (H : Heap) : evCode P Γ call n f m (cAt [1, 0] B15) s H = regNext (evOpsGo P Γ call r15_4.1 r15_4.1 s H) := at_region (by kernel_rfl) r15_4.2 s H
attribute [simp] r15_4
@[simp] theorem n15_5 (s : List V) (H : Heap) : evCode P Γ call n f m (cAt [1, 1] B15) s H = some (.ret, s, H) := at_ret (by kernel_rfl) s H
theorem b15 {k : Nat} (ho : ∀ args H, Γ.orc 15 args H = none) (args : List V) (H : Heap) (ha : args.length ≤ 13) : evF Try.prog Γ (k + 1) 15 args H = bodyEnd Try.prog [.tmp 6, .tmp 7] H.length (evCode Try.prog Γ (evF Try.prog Γ k) k 15 H.length (cAt [] B15) (mkL 13 V.undef (enumV 0 args)) H) := body_at Try.func15 (by decide) rfl ho rfl rfl args H ha
noncomputable def B16 : Code := bodyOf Try.f16
@[simp] theorem n16_1 (s : List V) (H : Heap) : evCode P Γ call n f m (cAt [] B16) s H = seqNext P Γ call n f m (cAt [1] B16) (evCode P Γ call n f m (cAt [0] B16) s H) := at_seq (by kernel_rfl) rfl rfl s H
noncomputable def r16_2 : {l : List Oper // opsOf (cAt [0] B16) = l} := by
  apply Subtype.mk
  dsimp only [opsOf, cAt, kids, B16, bodyOf, Try.f16, List.getD, List.getElem?_cons_zero, List.getElem?_cons_succ, Option.getD_some]
@[simp] theorem n16_2 (s : List V) (H : Heap) : evCode P Γ call n f m (cAt [0] B16) s H = regNext (evOpsGo P Γ call r16_2.1 r16_2.1 s H) := at_region (by kernel_rfl) r16_2.2 s H
attribute [simp] r16_2
@[simp] theorem n16_3 (s : List V) (H : Heap) : evCode P Γ call n f m (cAt [1] B16) s H = seqNext P Γ call n f m (cAt [1, 1] B16) (evCode P Γ call n f m (cAt [1, 0] B16) s H) := at_seq (by kernel_rfl) rfl rfl s H
noncomputable def r16_4 : {l : List Oper // opsOf (cAt [1, 0] B16) = l} := by
  apply Subtype.mk
  dsimp only [opsOf, cAt, kids, B16, bodyOf, Try.f16, List.getD, List.getElem?_cons_zero, List.getElem?_cons_succ, Option.getD_some]
@[simp] theorem n16_4 (s : List V) (H : Heap) : evCode P Γ call n f m (cAt [1, 0] B16) s H = regNext (evOpsGo P Γ call r16_4.1 r16_4.1 s H) := at_region (by kernel_rfl) r16_4.2 s H
attribute [simp] r16_4
@[simp] theorem n16_5 (s : List V) (H : Heap) : evCode P Γ call n f m (cAt [1, 1] B16) s H = seqNext P Γ call n f m (cAt [1, 1, 1] B16) (evCode P Γ call n f m (cAt [1, 1, 0] B16) s H) := at_seq (by kernel_rfl) rfl rfl s H
@[simp] theorem n16_6 (s : List V) (H : Heap) : evCode P Γ call n f m (cAt [1, 1, 0] B16) s H = seqNext P Γ call n f m (cAt [1, 1, 0, 1] B16) (evCode P Γ call n f m (cAt [1, 1, 0, 0] B16) s H) := at_seq (by kernel_rfl) rfl rfl s H
noncomputable def r16_7 : {l : List Oper // opsOf (cAt [1, 1, 0, 0] B16) = l} := by
  apply Subtype.mk
  dsimp only [opsOf, cAt, kids, B16, bodyOf, Try.f16, List.getD, List.getElem?_cons_zero, List.getElem?_cons_succ, Option.getD_some]
@[simp] theorem n16_7 (s : List V) (H : Heap) : evCode P Γ call n f m (cAt [1, 1, 0, 0] B16) s H = regNext (evOpsGo P Γ call r16_7.1 r16_7.1 s H) := at_region (by kernel_rfl) r16_7.2 s H
attribute [simp] r16_7
@[simp] theorem n16_8 (s : List V) (H : Heap) : evCode P Γ call n f m (cAt [1, 1, 0, 1] B16) s H = blockNext 0 (evCode P Γ call n f m (cAt [1, 1, 0, 1, 0] B16) s H) := at_block (by kernel_rfl) rfl s H
@[simp] theorem n16_9 (s : List V) (H : Heap) : evCode P Γ call n f m (cAt [1, 1, 0, 1, 0] B16) s H = evLoopC P Γ call n f m (cAt [1, 1, 0, 1, 0, 0] B16) n s H := at_loop (by kernel_rfl) rfl s H
noncomputable abbrev L16_3 : Code := cAt [1, 1, 0, 1, 0, 0] B16
@[simp] theorem n16_9f : firstRegion (cAt [1, 1, 0, 1, 0, 0] B16) = 3 := by kernel_rfl
@[simp] theorem n16_10 (s : List V) (H : Heap) : evCode P Γ call n f m (cAt [1, 1, 0, 1, 0, 0] B16) s H = seqNext P Γ call n f m (cAt [1, 1, 0, 1, 0, 0, 1] B16) (evCode P Γ call n f m (cAt [1, 1, 0, 1, 0, 0, 0] B16) s H) := at_seq (by kernel_rfl) rfl rfl s H
noncomputable def r16_11 : {l : List Oper // opsOf (cAt [1, 1, 0, 1, 0, 0, 0] B16) = l} := by
  apply Subtype.mk
  dsimp only [opsOf, cAt, kids, B16, bodyOf, Try.f16, List.getD, List.getElem?_cons_zero, List.getElem?_cons_succ, Option.getD_some]
@[simp] theorem n16_11 (s : List V) (H : Heap) : evCode P Γ call n f m (cAt [1, 1, 0, 1, 0, 0, 0] B16) s H = regNext (evOpsGo P Γ call r16_11.1 r16_11.1 s H) := at_region (by kernel_rfl) r16_11.2 s H
attribute [simp] r16_11
@[simp] theorem n16_12 (s : List V) (H : Heap) : evCode P Γ call n f m (cAt [1, 1, 0, 1, 0, 0, 1] B16) s H = seqNext P Γ call n f m (cAt [1, 1, 0, 1, 0, 0, 1, 1] B16) (evCode P Γ call n f m (cAt [1, 1, 0, 1, 0, 0, 1, 0] B16) s H) := at_seq (by kernel_rfl) rfl rfl s H
@[simp] theorem n16_13 (s : List V) (H : Heap) : evCode P Γ call n f m (cAt [1, 1, 0, 1, 0, 0, 1, 0] B16) s H = condW P Γ call n f m (cAt [1, 1, 0, 1, 0, 0, 1, 0, 0] B16) (cAt [1, 1, 0, 1, 0, 0, 1, 0, 1] B16) s H (evOperand Γ s (.tmp 11)) := at_cond (by kernel_rfl) (by kernel_rfl) rfl rfl s H
@[simp] theorem n16_14 (s : List V) (H : Heap) : evCode P Γ call n f m (cAt [1, 1, 0, 1, 0, 0, 1, 0, 0] B16) s H = some (.normal, s, H) := at_skip (by kernel_rfl) s H
@[simp] theorem n16_15 (s : List V) (H : Heap) : evCode P Γ call n f m (cAt [1, 1, 0, 1, 0, 0, 1, 0, 1] B16) s H = some (.exit 0, s, H) := at_exit (by kernel_rfl) s H
@[simp] theorem n16_16 (s : List V) (H : Heap) : evCode P Γ call n f m (cAt [1, 1, 0, 1, 0, 0, 1, 1] B16) s H = seqNext P Γ call n f m (cAt [1, 1, 0, 1, 0, 0, 1, 1, 1] B16) (evCode P Γ call n f m (cAt [1, 1, 0, 1, 0, 0, 1, 1, 0] B16) s H) := at_seq (by kernel_rfl) rfl rfl s H
@[simp] theorem n16_17 (s : List V) (H : Heap) : evCode P Γ call n f m (cAt [1, 1, 0, 1, 0, 0, 1, 1, 0] B16) s H = blockNext 1 (evCode P Γ call n f m (cAt [1, 1, 0, 1, 0, 0, 1, 1, 0, 0] B16) s H) := at_block (by kernel_rfl) rfl s H
@[simp] theorem n16_18 (s : List V) (H : Heap) : evCode P Γ call n f m (cAt [1, 1, 0, 1, 0, 0, 1, 1, 0, 0] B16) s H = seqNext P Γ call n f m (cAt [1, 1, 0, 1, 0, 0, 1, 1, 0, 0, 1] B16) (evCode P Γ call n f m (cAt [1, 1, 0, 1, 0, 0, 1, 1, 0, 0, 0] B16) s H) := at_seq (by kernel_rfl) rfl rfl s H
noncomputable def r16_19 : {l : List Oper // opsOf (cAt [1, 1, 0, 1, 0, 0, 1, 1, 0, 0, 0] B16) = l} := by
  apply Subtype.mk
  dsimp only [opsOf, cAt, kids, B16, bodyOf, Try.f16, List.getD, List.getElem?_cons_zero, List.getElem?_cons_succ, Option.getD_some]
@[simp] theorem n16_19 (s : List V) (H : Heap) : evCode P Γ call n f m (cAt [1, 1, 0, 1, 0, 0, 1, 1, 0, 0, 0] B16) s H = regNext (evOpsGo P Γ call r16_19.1 r16_19.1 s H) := at_region (by kernel_rfl) r16_19.2 s H
attribute [simp] r16_19
@[simp] theorem n16_20 (s : List V) (H : Heap) : evCode P Γ call n f m (cAt [1, 1, 0, 1, 0, 0, 1, 1, 0, 0, 1] B16) s H = seqNext P Γ call n f m (cAt [1, 1, 0, 1, 0, 0, 1, 1, 0, 0, 1, 1] B16) (evCode P Γ call n f m (cAt [1, 1, 0, 1, 0, 0, 1, 1, 0, 0, 1, 0] B16) s H) := at_seq (by kernel_rfl) rfl rfl s H
@[simp] theorem n16_21 (s : List V) (H : Heap) : evCode P Γ call n f m (cAt [1, 1, 0, 1, 0, 0, 1, 1, 0, 0, 1, 0] B16) s H = seqNext P Γ call n f m (cAt [1, 1, 0, 1, 0, 0, 1, 1, 0, 0, 1, 0, 1] B16) (evCode P Γ call n f m (cAt [1, 1, 0, 1, 0, 0, 1, 1, 0, 0, 1, 0, 0] B16) s H) := at_seq (by kernel_rfl) rfl rfl s H
noncomputable def r16_22 : {l : List Oper // opsOf (cAt [1, 1, 0, 1, 0, 0, 1, 1, 0, 0, 1, 0, 0] B16) = l} := by
  apply Subtype.mk
  dsimp only [opsOf, cAt, kids, B16, bodyOf, Try.f16, List.getD, List.getElem?_cons_zero, List.getElem?_cons_succ, Option.getD_some]
@[simp] theorem n16_22 (s : List V) (H : Heap) : evCode P Γ call n f m (cAt [1, 1, 0, 1, 0, 0, 1, 1, 0, 0, 1, 0, 0] B16) s H = regNext (evOpsGo P Γ call r16_22.1 r16_22.1 s H) := at_region (by kernel_rfl) r16_22.2 s H
attribute [simp] r16_22
@[simp] theorem n16_23 (s : List V) (H : Heap) : evCode P Γ call n f m (cAt [1, 1, 0, 1, 0, 0, 1, 1, 0, 0, 1, 0, 1] B16) s H = seqNext P Γ call n f m (cAt [1, 1, 0, 1, 0, 0, 1, 1, 0, 0, 1, 0, 1, 1] B16) (evCode P Γ call n f m (cAt [1, 1, 0, 1, 0, 0, 1, 1, 0, 0, 1, 0, 1, 0] B16) s H) := at_seq (by kernel_rfl) rfl rfl s H
noncomputable def r16_24 : {l : List Oper // opsOf (cAt [1, 1, 0, 1, 0, 0, 1, 1, 0, 0, 1, 0, 1, 0] B16) = l} := by
  apply Subtype.mk
  dsimp only [opsOf, cAt, kids, B16, bodyOf, Try.f16, List.getD, List.getElem?_cons_zero, List.getElem?_cons_succ, Option.getD_some]
@[simp] theorem n16_24 (s : List V) (H : Heap) : evCode P Γ call n f m (cAt [1, 1, 0, 1, 0, 0, 1, 1, 0, 0, 1, 0, 1, 0] B16) s H = regNext (evOpsGo P Γ call r16_24.1 r16_24.1 s H) := at_region (by kernel_rfl) r16_24.2 s H
attribute [simp] r16_24
@[simp] theorem n16_25 (s : List V) (H : Heap) : evCode P Γ call n f m (cAt [1, 1, 0, 1, 0, 0, 1, 1, 0, 0, 1, 0, 1, 1] B16) s H = condW P Γ call n f m (cAt [1, 1, 0, 1, 0, 0, 1, 1, 0, 0, 1, 0, 1, 1, 0] B16) (cAt [1, 1, 0, 1, 0, 0, 1, 1, 0, 0, 1, 0, 1, 1, 1] B16) s H (evOperand Γ s (.tmp 17)) := at_cond (by kernel_rfl) (by kernel_rfl) rfl rfl s H
@[simp] theorem n16_26 (s : List V) (H : Heap) : evCode P Γ call n f m (cAt [1, 1, 0, 1, 0, 0, 1, 1, 0, 0, 1, 0, 1, 1, 0] B16) s H = seqNext P Γ call n f m (cAt [1, 1, 0, 1, 0, 0, 1, 1, 0, 0, 1, 0, 1, 1, 0, 1] B16) (evCode P Γ call n f m (cAt [1, 1, 0, 1, 0, 0, 1, 1, 0, 0, 1, 0, 1, 1, 0, 0] B16) s H) := at_seq (by kernel_rfl) rfl rfl s H
noncomputable def r16_27 : {l : List Oper // opsOf (cAt [1, 1, 0, 1, 0, 0, 1, 1, 0, 0, 1, 0, 1, 1, 0, 0] B16) = l} := by
  apply Subtype.mk
  dsimp only [opsOf, cAt, kids, B16, bodyOf, Try.f16, List.getD, List.getElem?_cons_zero, List.getElem?_cons_succ, Option.getD_some]
@[simp] theorem n16_27 (s : List V) (H : Heap) : evCode P Γ call n f m (cAt [1, 1, 0, 1, 0, 0, 1, 1, 0, 0, 1, 0, 1, 1, 0, 0] B16) s H = regNext (evOpsGo P Γ call r16_27.1 r16_27.1 s H) := at_region (by kernel_rfl) r16_27.2 s H
attribute [simp] r16_27
@[simp] theorem n16_28 (s : List V) (H : Heap) : evCode P Γ call n f m (cAt [1, 1, 0, 1, 0, 0, 1, 1, 0, 0, 1, 0, 1, 1, 0, 1] B16) s H = some (.ret, s, H) := at_ret (by kernel_rfl) s H
@[simp] theorem n16_29 (s : List V) (H : Heap) : evCode P Γ call n f m (cAt [1, 1, 0, 1, 0, 0, 1, 1, 0, 0, 1, 0, 1, 1, 1] B16) s H = some (.normal, s, H) := at_skip (by kernel_rfl) s H
@[simp] theorem n16_30 (s : List V) (H : Heap) : evCode P Γ call n f m (cAt [1, 1, 0, 1, 0, 0, 1, 1, 0, 0, 1, 1] B16) s H = seqNext P Γ call n f m (cAt [1, 1, 0, 1, 0, 0, 1, 1, 0, 0, 1, 1, 1] B16) (evCode P Γ call n f m (cAt [1, 1, 0, 1, 0, 0, 1, 1, 0, 0, 1, 1, 0] B16) s H) := at_seq (by kernel_rfl) rfl rfl s H
noncomputable def r16_31 : {l : List Oper // opsOf (cAt [1, 1, 0, 1, 0, 0, 1, 1, 0, 0, 1, 1, 0] B16) = l} := by
  apply Subtype.mk
  dsimp only [opsOf, cAt, kids, B16, bodyOf, Try.f16, List.getD, List.getElem?_cons_zero, List.getElem?_cons_succ, Option.getD_some]
@[simp] theorem n16_31 (s : List V) (H : Heap) : evCode P Γ call n f m (cAt [1, 1, 0, 1, 0, 0, 1, 1, 0, 0, 1, 1, 0] B16) s H = regNext (evOpsGo P Γ call r16_31.1 r16_31.1 s H) := at_region (by kernel_rfl) r16_31.2 s H
attribute [simp] r16_31
@[simp] theorem n16_32 (s : List V) (H : Heap) : evCode P Γ call n f m (cAt [1, 1, 0, 1, 0, 0, 1, 1, 0, 0, 1, 1, 1] B16) s H = seqNext P Γ call n f m (cAt [1, 1, 0, 1, 0, 0, 1, 1, 0, 0, 1, 1, 1, 1] B16) (evCode P Γ call n f m (cAt [1, 1, 0, 1, 0, 0, 1, 1, 0, 0, 1, 1, 1, 0] B16) s H) := at_seq (by kernel_rfl) rfl rfl s H
noncomputable def r16_33 : {l : List Oper // opsOf (cAt [1, 1, 0, 1, 0, 0, 1, 1, 0, 0, 1, 1, 1, 0] B16) = l} := by
  apply Subtype.mk
  dsimp only [opsOf, cAt, kids, B16, bodyOf, Try.f16, List.getD, List.getElem?_cons_zero, List.getElem?_cons_succ, Option.getD_some]
@[simp] theorem n16_33 (s : List V) (H : Heap) : evCode P Γ call n f m (cAt [1, 1, 0, 1, 0, 0, 1, 1, 0, 0, 1, 1, 1, 0] B16) s H = regNext (evOpsGo P Γ call r16_33.1 r16_33.1 s H) := at_region (by kernel_rfl) r16_33.2 s H
attribute [simp] r16_33
@[simp] theorem n16_34 (s : List V) (H : Heap) : evCode P Γ call n f m (cAt [1, 1, 0, 1, 0, 0, 1, 1, 0, 0, 1, 1, 1, 1] B16) s H = condW P Γ call n f m (cAt [1, 1, 0, 1, 0, 0, 1, 1, 0, 0, 1, 1, 1, 1, 0] B16) (cAt [1, 1, 0, 1, 0, 0, 1, 1, 0, 0, 1, 1, 1, 1, 1] B16) s H (evOperand Γ s (.tmp 27)) := at_cond (by kernel_rfl) (by kernel_rfl) rfl rfl s H
@[simp] theorem n16_35 (s : List V) (H : Heap) : evCode P Γ call n f m (cAt [1, 1, 0, 1, 0, 0, 1, 1, 0, 0, 1, 1, 1, 1, 0] B16) s H = seqNext P Γ call n f m (cAt [1, 1, 0, 1, 0, 0, 1, 1, 0, 0, 1, 1, 1, 1, 0, 1] B16) (evCode P Γ call n f m (cAt [1, 1, 0, 1, 0, 0, 1, 1, 0, 0, 1, 1, 1, 1, 0, 0] B16) s H) := at_seq (by kernel_rfl) rfl rfl s H
noncomputable def r16_36 : {l : List Oper // opsOf (cAt [1, 1, 0, 1, 0, 0, 1, 1, 0, 0, 1, 1, 1, 1, 0, 0] B16) = l} := by
  apply Subtype.mk
  dsimp only [opsOf, cAt, kids, B16, bodyOf, Try.f16, List.getD, List.getElem?_cons_zero, List.getElem?_cons_succ, Option.getD_some]
@[simp] theorem n16_36 (s : List V) (H : Heap) : evCode P Γ call n f m (cAt [1, 1, 0, 1, 0, 0, 1, 1, 0, 0, 1, 1, 1, 1, 0, 0] B16) s H = regNext (evOpsGo P Γ call r16_36.1 r16_36.1 s H) := at_region (by kernel_rfl) r16_36.2 s H
attribute [simp] r16_36
@[simp] theorem n16_37 (s : List V) (H : Heap) : evCode P Γ call n f m (cAt [1, 1, 0, 1, 0, 0, 1, 1, 0, 0, 1, 1, 1, 1, 0, 1] B16) s H = some (.ret, s, H) := at_ret (by kernel_rfl) s H
@[simp] theorem n16_38 (s : List V) (H : Heap) : evCode P Γ call n f m (cAt [1, 1, 0, 1, 0, 0, 1, 1, 0, 0, 1, 1, 1, 1, 1] B16) s H = some (.normal, s, H) := at_skip (by kernel_rfl) s H
noncomputable def r16_39 : {l : List Oper // opsOf (cAt [1, 1, 0, 1, 0, 0, 1, 1, 1] B16) = l} := by
  apply Subtype.mk
  dsimp only [opsOf, cAt, kids, B16, bodyOf, Try.f16, List.getD, List.getElem?_cons_zero, List.getElem?_cons_succ, Option.getD_some]
@[simp] theorem n16_39 (s : List V) (H : Heap) : evCode P Γ call n f m (cAt [1, 1, 0, 1, 0, 0, 1, 1, 1] B16) s H = regNext (evOpsGo P Γ call r16_39.1 r16_39.1 s H) := at_region (by kernel_rfl) r16_39.2 s H
attribute [simp] r16_39
@[simp] theorem n16_40 (s : List V) (H : Heap) : evCode P Γ call n f m (cAt [1, 1, 1] B16) s H = seqNext P Γ call n f m (cAt [1, 1, 1, 1] B16) (evCode P Γ call n f m (cAt [1, 1, 1, 0] B16) s H) := at_seq (by kernel_rfl) rfl rfl s H
noncomputable def r16_41 : {l : List Oper // opsOf (cAt [1, 1, 1, 0] B16) = l} := by
  apply Subtype.mk
  dsimp only [opsOf, cAt, kids, B16, bodyOf, Try.f16, List.getD, List.getElem?_cons_zero, List.getElem?_cons_succ, Option.getD_some]
@[simp] theorem n16_41 (s : List V) (H : Heap) : evCode P Γ call n f m (cAt [1, 1, 1, 0] B16) s H = regNext (evOpsGo P Γ call r16_41.1 r16_41.1 s H) := at_region (by kernel_rfl) r16_41.2 s H
attribute [simp] r16_41
@[simp] theorem n16_42 (s : List V) (H : Heap) : evCode P Γ call n f m (cAt [1, 1, 1, 1] B16) s H = some (.ret, s, H) := at_ret (by kernel_rfl) s H
theorem b16 {k : Nat} (ho : ∀ args H, Γ.orc 16 args H = none) (args : List V) (H : Heap) (ha : args.length ≤ 33) : evF Try.prog Γ (k + 1) 16 args H = bodyEnd Try.prog [.tmp 2, .tmp 3] H.length (evCode Try.prog Γ (evF Try.prog Γ k) k 16 H.length (cAt [] B16) (mkL 33 V.undef (enumV 0 args)) H) := body_at Try.func16 (by decide) rfl ho rfl rfl args H ha
noncomputable def B17 : Code := bodyOf Try.f17
@[simp] theorem n17_1 (s : List V) (H : Heap) : evCode P Γ call n f m (cAt [] B17) s H = seqNext P Γ call n f m (cAt [1] B17) (evCode P Γ call n f m (cAt [0] B17) s H) := at_seq (by kernel_rfl) rfl rfl s H
noncomputable def r17_2 : {l : List Oper // opsOf (cAt [0] B17) = l} := by
  apply Subtype.mk
  dsimp only [opsOf, cAt, kids, B17, bodyOf, Try.f17, List.getD, List.getElem?_cons_zero, List.getElem?_cons_succ, Option.getD_some]
@[simp] theorem n17_2 (s : List V) (H : Heap) : evCode P Γ call n f m (cAt [0] B17) s H = regNext (evOpsGo P Γ call r17_2.1 r17_2.1 s H) := at_region (by kernel_rfl) r17_2.2 s H
attribute [simp] r17_2
@[simp] theorem n17_3 (s : List V) (H : Heap) : evCode P Γ call n f m (cAt [1] B17) s H = seqNext P Γ call n f m (cAt [1, 1] B17) (evCode P Γ call n f m (cAt [1, 0] B17) s H) := at_seq (by kernel_rfl) rfl rfl s H
@[simp] theorem n17_4 (s : List V) (H : Heap) : evCode P Γ call n f m (cAt [1, 0] B17) s H = seqNext P Γ call n f m (cAt [1, 0, 1] B17) (evCode P Γ call n f m (cAt [1, 0, 0] B17) s H) := at_seq (by kernel_rfl) rfl rfl s H
noncomputable def r17_5 : {l : List Oper // opsOf (cAt [1, 0, 0] B17) = l} := by
  apply Subtype.mk
  dsimp only [opsOf, cAt, kids, B17, bodyOf, Try.f17, List.getD, List.getElem?_cons_zero, List.getElem?_cons_succ, Option.getD_some]
@[simp] theorem n17_5 (s : List V) (H : Heap) : evCode P Γ call n f m (cAt [1, 0, 0] B17) s H = regNext (evOpsGo P Γ call r17_5.1 r17_5.1 s H) := at_region (by kernel_rfl) r17_5.2 s H
attribute [simp] r17_5
@[simp] theorem n17_6 (s : List V) (H : Heap) : evCode P Γ call n f m (cAt [1, 0, 1] B17) s H = condW P Γ call n f m (cAt [1, 0, 1, 0] B17) (cAt [1, 0, 1, 1] B17) s H (evOperand Γ s (.tmp 10)) := at_cond (by kernel_rfl) (by kernel_rfl) rfl rfl s H
@[simp] theorem n17_7 (s : List V) (H : Heap) : evCode P Γ call n f m (cAt [1, 0, 1, 0] B17) s H = seqNext P Γ call n f m (cAt [1, 0, 1, 0, 1] B17) (evCode P Γ call n f m (cAt [1, 0, 1, 0, 0] B17) s H) := at_seq (by kernel_rfl) rfl rfl s H
noncomputable def r17_8 : {l : List Oper // opsOf (cAt [1, 0, 1, 0, 0] B17) = l} := by
  apply Subtype.mk
  dsimp only [opsOf, cAt, kids, B17, bodyOf, Try.f17, List.getD, List.getElem?_cons_zero, List.getElem?_cons_succ, Option.getD_some]
@[simp] theorem n17_8 (s : List V) (H : Heap) : evCode P Γ call n f m (cAt [1, 0, 1, 0, 0] B17) s H = regNext (evOpsGo P Γ call r17_8.1 r17_8.1 s H) := at_region (by kernel_rfl) r17_8.2 s H
attribute [simp] r17_8
@[simp] theorem n17_9 (s : List V) (H : Heap) : evCode P Γ call n f m (cAt [1, 0, 1, 0, 1] B17) s H = some (.ret, s, H) := at_ret (by kernel_rfl) s H
@[simp] theorem n17_10 (s : List V) (H : Heap) : evCode P Γ call n f m (cAt [1, 0, 1, 1] B17) s H = some (.normal, s, H) := at_skip (by kernel_rfl) s H
@[simp] theorem n17_11 (s : List V) (H : Heap) : evCode P Γ call n f m (cAt [1, 1] B17) s H = seqNext P Γ call n f m (cAt [1, 1, 1] B17) (evCode P Γ call n f m (cAt [1, 1, 0] B17) s H) := at_seq (by kernel_rfl) rfl rfl s H
@[simp] theorem n17_12 (s : List V) (H : Heap) : evCode P Γ call n f m (cAt [1, 1, 0] B17) s H = seqNext P Γ call n f m (cAt [1, 1, 0, 1] B17) (evCode P Γ call n f m (cAt [1, 1, 0, 0] B17) s H) := at_seq (by kernel_rfl) rfl rfl s H
noncomputable def r17_13 : {l : List Oper // opsOf (cAt [1, 1, 0, 0] B17) = l} := by
  apply Subtype.mk
  dsimp only [opsOf, cAt, kids, B17, bodyOf, Try.f17, List.getD, List.getElem?_cons_zero, List.getElem?_cons_succ, Option.getD_some]
@[simp] theorem n17_13 (s : List V) (H : Heap) : evCode P Γ call n f m (cAt [1, 1, 0, 0] B17) s H = regNext (evOpsGo P Γ call r17_13.1 r17_13.1 s H) := at_region (by kernel_rfl) r17_13.2 s H
attribute [simp] r17_13
@[simp] theorem n17_14 (s : List V) (H : Heap) : evCode P Γ call n f m (cAt [1, 1, 0, 1] B17) s H = blockNext 0 (evCode P Γ call n f m (cAt [1, 1, 0, 1, 0] B17) s H) := at_block (by kernel_rfl) rfl s H
@[simp] theorem n17_15 (s : List V) (H : Heap) : evCode P Γ call n f m (cAt [1, 1, 0, 1, 0] B17) s H = evLoopC P Γ call n f m (cAt [1, 1, 0, 1, 0, 0] B17) n s H := at_loop (by kernel_rfl) rfl s H
noncomputable abbrev L17_4 : Code := cAt [1, 1, 0, 1, 0, 0] B17
@[simp] theorem n17_15f : firstRegion (cAt [1, 1, 0, 1, 0, 0] B17) = 4 := by kernel_rfl
@[simp] theorem n17_16 (s : List V) (H : Heap) : evCode P Γ call n f m (cAt [1, 1, 0, 1, 0, 0] B17) s H = seqNext P Γ call n f m (cAt [1, 1, 0, 1, 0, 0, 1] B17) (evCode P Γ call n f m (cAt [1, 1, 0, 1, 0, 0, 0] B17) s H) := at_seq (by kernel_rfl) rfl rfl s H
noncomputable def r17_17 : {l : List Oper // opsOf (cAt [1, 1, 0, 1, 0, 0, 0] B17) = l} := by
  apply Subtype.mk
  dsimp only [opsOf, cAt, kids, B17, bodyOf, Try.f17, List.getD, List.getElem?_cons_zero, List.getElem?_cons_succ, Option.getD_some]
@[simp] theorem n17_17 (s : List V) (H : Heap) : evCode P Γ call n f m (cAt [1, 1, 0, 1, 0, 0, 0] B17) s H = regNext (evOpsGo P Γ call r17_17.1 r17_17.1 s H) := at_region (by kernel_rfl) r17_17.2 s H
attribute [simp] r17_17
@[simp] theorem n17_18 (s : List V) (H : Heap) : evCode P Γ call n f m (cAt [1, 1, 0, 1, 0, 0, 1] B17) s H = seqNext P Γ call n f m (cAt [1, 1, 0, 1, 0, 0, 1, 1] B17) (evCode P Γ call n f m (cAt [1, 1, 0, 1, 0, 0, 1, 0] B17) s H) := at_seq (by kernel_rfl) rfl rfl s H
@[simp] theorem n17_19 (s : List V) (H : Heap) : evCode P Γ call n f m (cAt [1, 1, 0, 1, 0, 0, 1, 0] B17) s H = condW P Γ call n f m (cAt [1, 1, 0, 1, 0, 0, 1, 0, 0] B17) (cAt [1, 1, 0, 1, 0, 0, 1, 0, 1] B17) s H (evOperand Γ s (.tmp 14)) := at_cond (by kernel_rfl) (by kernel_rfl) rfl rfl s H
@[simp] theorem n17_20 (s : List V) (H : Heap) : evCode P Γ call n f m (cAt [1, 1, 0, 1, 0, 0, 1, 0, 0] B17) s H = some (.normal, s, H) := at_skip (by kernel_rfl) s H
@[simp] theorem n17_21 (s : List V) (H : Heap) : evCode P Γ call n f m (cAt [1, 1, 0, 1, 0, 0, 1, 0, 1] B17) s H = some (.exit 0, s, H) := at_exit (by kernel_rfl) s H
@[simp] theorem n17_22 (s : List V) (H : Heap) : evCode P Γ call n f m (cAt [1, 1, 0, 1, 0, 0, 1, 1] B17) s H = seqNext P Γ call n f m (cAt [1, 1, 0, 1, 0, 0, 1, 1, 1] B17) (evCode P Γ call n f m (cAt [1, 1, 0, 1, 0, 0, 1, 1, 0] B17) s H) := at_seq (by kernel_rfl) rfl rfl s H
@[simp] theorem n17_23 (s : List V) (H : Heap) : evCode P Γ call n f m (cAt [1, 1, 0, 1, 0, 0, 1, 1, 0] B17) s H = blockNext 1 (evCode P Γ call n f m (cAt [1, 1, 0, 1, 0, 0, 1, 1, 0, 0] B17) s H) := at_block (by kernel_rfl) rfl s H
@[simp] theorem n17_24 (s : List V) (H : Heap) : evCode P Γ call n f m (cAt [1, 1, 0, 1, 0, 0, 1, 1, 0, 0] B17) s H = seqNext P Γ call n f m (cAt [1, 1, 0, 1, 0, 0, 1, 1, 0, 0, 1] B17) (evCode P Γ call n f m (cAt [1, 1, 0, 1, 0, 0, 1, 1, 0, 0, 0] B17) s H) := at_seq (by kernel_rfl) rfl rfl s H
noncomputable def r17_25 : {l : List Oper // opsOf (cAt [1, 1, 0, 1, 0, 0, 1, 1, 0, 0, 0] B17) = l} := by
  apply Subtype.mk
  dsimp only [opsOf, cAt, kids, B17, bodyOf, Try.f17, List.getD, List.getElem?_cons_zero, List.getElem?_cons_succ, Option.getD_some]
@[simp] theorem n17_25 (s : List V) (H : Heap) : evCode P Γ call n f m (cAt [1, 1, 0, 1, 0, 0, 1, 1, 0, 0, 0] B17) s H = regNext (evOpsGo P Γ call r17_25.1 r17_25.1 s H) := at_region (by kernel_rfl) r17_25.2 s H
attribute [simp] r17_25
@[simp] theorem n17_26 (s : List V) (H : Heap) : evCode P Γ call n f m (cAt [1, 1, 0, 1, 0, 0, 1, 1, 0, 0, 1] B17) s H = seqNext P Γ call n f m (cAt [1, 1, 0, 1, 0, 0, 1, 1, 0, 0, 1, 1] B17) (evCode P Γ call n f m (cAt [1, 1, 0, 1, 0, 0, 1, 1, 0, 0, 1, 0] B17) s H) := at_seq (by kernel_rfl) rfl rfl s H
noncomputable def r17_27 : {l : List Oper // opsOf (cAt [1, 1, 0, 1, 0, 0, 1, 1, 0, 0, 1, 0] B17) = l} := by
  apply Subtype.mk
  dsimp only [opsOf, cAt, kids, B17, bodyOf, Try.f17, List.getD, List.getElem?_cons_zero, List.getElem?_cons_succ, Option.getD_some]
@[simp] theorem n17_27 (s : List V) (H : Heap) : evCode P Γ call n f m (cAt [1, 1, 0, 1, 0, 0, 1, 1, 0, 0, 1, 0] B17) s H = regNext (drawR P Γ call r17_27.1 [([1, 4, 5, 6, 7], [17, 20, 21, 22, 23]), ([0, 4, 5, 6, 7], [16, 20, 21, 22, 23]), ([4, 5, 6, 7], [20, 21, 22, 23]), ([4, 5, 6, 7], [20, 21, 22, 23]), ([0, 1, 2, 3, 5], [16, 17, 18, 19, 21]), ([0, 1, 2, 3, 4], [16, 17, 18, 19, 20]), ([0, 1, 2, 3], [16, 17, 18, 19]), ([0, 1, 2, 3], [16, 17, 18, 19]), ([], [])] s H) := at_drawT (by kernel_rfl) r17_27.2 (by kernel_rfl) s H
attribute [simp] r17_27
@[simp] theorem n17_28 (s : List V) (H : Heap) : evCode P Γ call n f m (cAt [1, 1, 0, 1, 0, 0, 1, 1, 0, 0, 1, 1] B17) s H = condW P Γ call n f m (cAt [1, 1, 0, 1, 0, 0, 1, 1, 0, 0, 1, 1, 0] B17) (cAt [1, 1, 0, 1, 0, 0, 1, 1, 0, 0, 1, 1, 1] B17) s H (evOperand Γ s (.tmp 24)) := at_cond (by kernel_rfl) (by kernel_rfl) rfl rfl s H
@[simp] theorem n17_29 (s : List V) (H : Heap) : evCode P Γ call n f m (cAt [1, 1, 0, 1, 0, 0, 1, 1, 0, 0, 1, 1, 0] B17) s H = seqNext P Γ call n f m (cAt [1, 1, 0, 1, 0, 0, 1, 1, 0, 0, 1, 1, 0, 1] B17) (evCode P Γ call n f m (cAt [1, 1, 0, 1, 0, 0, 1, 1, 0, 0, 1, 1, 0, 0] B17) s H) := at_seq (by kernel_rfl) rfl rfl s H
noncomputable def r17_30 : {l : List Oper // opsOf (cAt [1, 1, 0, 1, 0, 0, 1, 1, 0, 0, 1, 1, 0, 0] B17) = l} := by
  apply Subtype.mk
  dsimp only [opsOf, cAt, kids, B17, bodyOf, Try.f17, List.getD, List.getElem?_cons_zero, List.getElem?_cons_succ, Option.getD_some]
@[simp] theorem n17_30 (s : List V) (H : Heap) : evCode P Γ call n f m (cAt [1, 1, 0, 1, 0, 0, 1, 1, 0, 0, 1, 1, 0, 0] B17) s H = regNext (evOpsGo P Γ call r17_30.1 r17_30.1 s H) := at_region (by kernel_rfl) r17_30.2 s H
attribute [simp] r17_30
@[simp] theorem n17_31 (s : List V) (H : Heap) : evCode P Γ call n f m (cAt [1, 1, 0, 1, 0, 0, 1, 1, 0, 0, 1, 1, 0, 1] B17) s H = some (.ret, s, H) := at_ret (by kernel_rfl) s H
@[simp] theorem n17_32 (s : List V) (H : Heap) : evCode P Γ call n f m (cAt [1, 1, 0, 1, 0, 0, 1, 1, 0, 0, 1, 1, 1] B17) s H = some (.normal, s, H) := at_skip (by kernel_rfl) s H
noncomputable def r17_33 : {l : List Oper // opsOf (cAt [1, 1, 0, 1, 0, 0, 1, 1, 1] B17) = l} := by
  apply Subtype.mk
  dsimp only [opsOf, cAt, kids, B17, bodyOf, Try.f17, List.getD, List.getElem?_cons_zero, List.getElem?_cons_succ, Option.getD_some]
@[simp] theorem n17_33 (s : List V) (H : Heap) : evCode P Γ call n f m (cAt [1, 1, 0, 1, 0, 0, 1, 1, 1] B17) s H = regNext (evOpsGo P Γ call r17_33.1 r17_33.1 s H) := at_region (by kernel_rfl) r17_33.2 s H
attribute [simp] r17_33
@[simp] theorem n17_34 (s : List V) (H : Heap) : evCode P Γ call n f m (cAt [1, 1, 1] B17) s H = seqNext P Γ call n f m (cAt [1, 1, 1, 1] B17) (evCode P Γ call n f m (cAt [1, 1, 1, 0] B17) s H) := at_seq (by kernel_rfl) rfl rfl s H
noncomputable def r17_35 : {l : List Oper // opsOf (cAt [1, 1, 1, 0] B17) = l} := by
  apply Subtype.mk
  dsimp only [opsOf, cAt, kids, B17, bodyOf, Try.f17, List.getD, List.getElem?_cons_zero, List.getElem?_cons_succ, Option.getD_some]
@[simp] theorem n17_35 (s : List V) (H : Heap) : evCode P Γ call n f m (cAt [1, 1, 1, 0] B17) s H = regNext (evOpsGo P Γ call r17_35.1 r17_35.1 s H) := at_region (by kernel_rfl) r17_35.2 s H
attribute [simp] r17_35
@[simp] theorem n17_36 (s : List V) (H : Heap) : evCode P Γ call n f m (cAt [1, 1, 1, 1] B17) s H = some (.ret, s, H) := at_ret (by kernel_rfl) s H
theorem b17 {k : Nat} (ho : ∀ args H, Γ.orc 17 args H = none) (args : List V) (H : Heap) (ha : args.length ≤ 26) : evF Try.prog Γ (k + 1) 17 args H = bodyEnd Try.prog [.tmp 4] H.length (evCode Try.prog Γ (evF Try.prog Γ k) k 17 H.length (cAt [] B17) (mkL 26 V.undef (enumV 0 args)) H) := body_at Try.func17 (by decide) rfl ho rfl rfl args H ha
noncomputable def B18 : Code := bodyOf Try.f18
@[simp] theorem n18_1 (s : List V) (H : Heap) : evCode P Γ call n f m (cAt [] B18) s H = seqNext P Γ call n f m (cAt [1] B18) (evCode P Γ call n f m (cAt [0] B18) s H) := at_seq (by kernel_rfl) rfl rfl s H
noncomputable def r18_2 : {l : List Oper // opsOf (cAt [0] B18) = l} := by
  apply Subtype.mk
  dsimp only [opsOf, cAt, kids, B18, bodyOf, Try.f18, List.getD, List.getElem?_cons_zero, List.getElem?_cons_succ, Option.getD_some]
@[simp] theorem n18_2 (s : List V) (H : Heap) : evCode P Γ call n f m (cAt [0] B18) s H = regNext (evOpsGo P Γ call r18_2.1 r18_2.1 s H) := at_region (by kernel_rfl) r18_2.2 s H
attribute [simp] r18_2
@[simp] theorem n18_3 (s : List V) (H : Heap) : evCode P Γ call n f m (cAt [1] B18) s H = seqNext P Γ call n f m (cAt [1, 1] B18) (evCode P Γ call n f m (cAt [1, 0] B18) s H) := at_seq (by kernel_rfl) rfl rfl s H
noncomputable def r18_4 : {l : List Oper // opsOf (cAt [1, 0] B18) = l} := by
  apply Subtype.mk
  dsimp only [opsOf, cAt, kids, B18, bodyOf, Try.f18, List.getD, List.getElem?_cons_zero, List.getElem?_cons_succ, Option.getD_some]
@[simp] theorem n18_4 (s : List V) (H : Heap) : evCode P Γ call n f m (cAt [1, 0] B18) s H = regNext (evOpsGo P Γ call r18_4.1 r18_4.1 s H) := at_region (by kernel_rfl) r18_4.2 s H
attribute [simp] r18_4
@[simp] theorem n18_5 (s : List V) (H : Heap) : evCode P Γ call n f m (cAt [1, 1] B18) s H = some (.ret, s, H) := at_ret (by kernel_rfl) s H
theorem b18 {k : Nat} (ho : ∀ args H, Γ.orc 18 args H = none) (args : List V) (H : Heap) (ha : args.length ≤ 9) : evF Try.prog Γ (k + 1) 18 args H = bodyEnd Try.prog [.tmp 4] H.length (evCode Try.prog Γ (evF Try.prog Γ k) k 18 H.length (cAt [] B18) (mkL 9 V.undef (enumV 0 args)) H) := body_at Try.func18 (by decide) rfl ho rfl rfl args H ha
noncomputable def B19 : Code := bodyOf Try.f19
@[simp] theorem n19_1 (s : List V) (H : Heap) : evCode P Γ call n f m (cAt [] B19) s H = seqNext P Γ call n f m (cAt [1] B19) (evCode P Γ call n f m (cAt [0] B19) s H) := at_seq (by kernel_rfl) rfl rfl s H
noncomputable def r19_2 : {l : List Oper // opsOf (cAt [0] B19) = l} := by
  apply Subtype.mk
  dsimp only [opsOf, cAt, kids, B19, bodyOf, Try.f19, List.getD, List.getElem?_cons_zero, List.getElem?_cons_succ, Option.getD_some]
@[simp] theorem n19_2 (s : List V) (H : Heap) : evCode P Γ call n f m (cAt [0] B19) s H = regNext (evOpsGo P Γ call r19_2.1 r19_2.1 s H) := at_region (by kernel_rfl) r19_2.2 s H
attribute [simp] r19_2
@[simp] theorem n19_3 (s : List V) (H : Heap) : evCode P Γ call n f m (cAt [1] B19) s H = seqNext P Γ call n f m (cAt [1, 1] B19) (evCode P Γ call n f m (cAt [1, 0] B19) s H) := at_seq (by kernel_rfl) rfl rfl s H
noncomputable def r19_4 : {l : List Oper // opsOf (cAt [1, 0] B19) = l} := by
  apply Subtype.mk
  dsimp only [opsOf, cAt, kids, B19, bodyOf, Try.f19, List.getD, List.getElem?_cons_zero, List.getElem?_cons_succ, Option.getD_some]
@[simp] theorem n19_4 (s : List V) (H : Heap) : evCode P Γ call n f m (cAt [1, 0] B19) s H = regNext (evOpsGo P Γ call r19_4.1 r19_4.1 s H) := at_region (by kernel_rfl) r19_4.2 s H
attribute [simp] r19_4
@[simp] theorem n19_5 (s : List V) (H : Heap) : evCode P Γ call n f m (cAt [1, 1] B19) s H = some (.ret, s, H) := at_ret (by kernel_rfl) s H
theorem b19 {k : Nat} (ho : ∀ args H, Γ.orc 19 args H = none) (args : List V) (H : Heap) (ha : args.length ≤ 8) : evF Try.prog Γ (k + 1) 19 args H = bodyEnd Try.prog [.tmp 3] H.length (evCode Try.prog Γ (evF Try.prog Γ k) k 19 H.length (cAt [] B19) (mkL 8 V.undef (enumV 0 args)) H) := body_at Try.func19 (by decide) rfl ho rfl rfl args H ha
noncomputable def B20 : Code := bodyOf Try.f20
@[simp] theorem n20_1 (s : List V) (H : Heap) : evCode P Γ call n f m (cAt [] B20) s H = seqNext P Γ call n f m (cAt [1] B20) (evCode P Γ call n f m (cAt [0] B20) s H) := at_seq (by kernel_rfl) rfl rfl s H
noncomputable def r20_2 : {l : List Oper // opsOf (cAt [0] B20) = l} := by
  apply Subtype.mk
  dsimp only [opsOf, cAt, kids, B20, bodyOf, Try.f20, List.getD, List.getElem?_cons_zero, List.getElem?_cons_succ, Option.getD_some]
@[simp] theorem n20_2 (s : List V) (H : Heap) : evCode P Γ call n f m (cAt [0] B20) s H = regNext (evOpsGo P Γ call r20_2.1 r20_2.1 s H) := at_region (by kernel_rfl) r20_2.2 s H
attribute [simp] r20_2
@[simp] theorem n20_3 (s : List V) (H : Heap) : evCode P Γ call n f m (cAt [1] B20) s H = seqNext P Γ call n f m (cAt [1, 1] B20) (evCode P Γ call n f m (cAt [1, 0] B20) s H) := at_seq (by kernel_rfl) rfl rfl s H
noncomputable def r20_4 : {l : List Oper // opsOf (cAt [1, 0] B20) = l} := by
  apply Subtype.mk
  dsimp only [opsOf, cAt, kids, B20, bodyOf, Try.f20, List.getD, List.getElem?_cons_zero, List.getElem?_cons_succ, Option.getD_some]
@[simp] theorem n20_4 (s : List V) (H : Heap) : evCode P Γ call n f m (cAt [1, 0] B20) s H = regNext (evOpsGo P Γ call r20_4.1 r20_4.1 s H) := at_region (by kernel_rfl) r20_4.2 s H
attribute [simp] r20_4
@[simp] theorem n20_5 (s : List V) (H : Heap) : evCode P Γ call n f m (cAt [1, 1] B20) s H = some (.ret, s, H) := at_ret (by kernel_rfl) s H
theorem b20 {k : Nat} (ho : ∀ args H, Γ.orc 20 args H = none) (args : List V) (H : Heap) (ha : args.length ≤ 9) : evF Try.prog Γ (k + 1) 20 args H = bodyEnd Try.prog [.tmp 4] H.length (evCode Try.prog Γ (evF Try.prog Γ k) k 20 H.length (cAt [] B20) (mkL 9 V.undef (enumV 0 args)) H) := body_at Try.func20 (by decide) rfl ho rfl rfl args H ha
noncomputable def B37 : Code := bodyOf Try.f37
@[simp] theorem n37_1 (s : List V) (H : Heap) : evCode P Γ call n f m (cAt [] B37) s H = seqNext P Γ call n f m (cAt [1] B37) (evCode P Γ call n f m (cAt [0] B37) s H) := at_seq (by kernel_rfl) rfl rfl s H
noncomputable def r37_2 : {l : List Oper // opsOf (cAt [0] B37) = l} := by
  apply Subtype.mk
  dsimp only [opsOf, cAt, kids, B37, bodyOf, Try.f37, List.getD, List.getElem?_cons_zero, List.getElem?_cons_succ, Option.getD_some]
@[simp] theorem n37_2 (s : List V) (H : Heap) : evCode P Γ call n f m (cAt [0] B37) s H = regNext (evOpsGo P Γ call r37_2.1 r37_2.1 s H) := at_region (by kernel_rfl) r37_2.2 s H
attribute [simp] r37_2
@[simp] theorem n37_3 (s : List V) (H : Heap) : evCode P Γ call n f m (cAt [1] B37) s H = seqNext P Γ call n f m (cAt [1, 1] B37) (evCode P Γ call n f m (cAt [1, 0] B37) s H) := at_seq (by kernel_rfl) rfl rfl s H
@[simp] theorem n37_4 (s : List V) (H : Heap) : evCode P Γ call n f m (cAt [1, 0] B37) s H = seqNext P Γ call n f m (cAt [1, 0, 1] B37) (evCode P Γ call n f m (cAt [1, 0, 0] B37) s H) := at_seq (by kernel_rfl) rfl rfl s H
noncomputable def r37_5 : {l : List Oper // opsOf (cAt [1, 0, 0] B37) = l} := by
  apply Subtype.mk
  dsimp only [opsOf, cAt, kids, B37, bodyOf, Try.f37, List.getD, List.getElem?_cons_zero, List.getElem?_cons_succ, Option.getD_some]
@[simp] theorem n37_5 (s : List V) (H : Heap) : evCode P Γ call n f m (cAt [1, 0, 0] B37) s H = regNext (evOpsGo P Γ call r37_5.1 r37_5.1 s H) := at_region (by kernel_rfl) r37_5.2 s H
attribute [simp] r37_5
@[simp] theorem n37_6 (s : List V) (H : Heap) : evCode P Γ call n f m (cAt [1, 0, 1] B37) s H = seqNext P Γ call n f m (cAt [1, 0, 1, 1] B37) (evCode P Γ call n f m (cAt [1, 0, 1, 0] B37) s H) := at_seq (by kernel_rfl) rfl rfl s H
noncomputable def r37_7 : {l : List Oper // opsOf (cAt [1, 0, 1, 0] B37) = l} := by
  apply Subtype.mk
  dsimp only [opsOf, cAt, kids, B37, bodyOf, Try.f37, List.getD, List.getElem?_cons_zero, List.getElem?_cons_succ, Option.getD_some]
@[simp] theorem n37_7 (s : List V) (H : Heap) : evCode P Γ call n f m (cAt [1, 0, 1, 0] B37) s H = regNext (evOpsGo P Γ call r37_7.1 r37_7.1 s H) := at_region (by kernel_rfl) r37_7.2 s H
attribute [simp] r37_7
@[simp] theorem n37_8 (s : List V) (H : Heap) : evCode P Γ call n f m (cAt [1, 0, 1, 1] B37) s H = condW P Γ call n f m (cAt [1, 0, 1, 1, 0] B37) (cAt [1, 0, 1, 1, 1] B37) s H (evOperand Γ s (.tmp 13)) := at_cond (by kernel_rfl) (by kernel_rfl) rfl rfl s H
@[simp] theorem n37_9 (s : List V) (H : Heap) : evCode P Γ call n f m (cAt [1, 0, 1, 1, 0] B37) s H = seqNext P Γ call n f m (cAt [1, 0, 1, 1, 0, 1] B37) (evCode P Γ call n f m (cAt [1, 0, 1, 1, 0, 0] B37) s H) := at_seq (by kernel_rfl) rfl rfl s H
noncomputable def r37_10 : {l : List Oper // opsOf (cAt [1, 0, 1, 1, 0, 0] B37) = l} := by
  apply Subtype.mk
  dsimp only [opsOf, cAt, kids, B37, bodyOf, Try.f37, List.getD, List.getElem?_cons_zero, List.getElem?_cons_succ, Option.getD_some]
@[simp] theorem n37_10 (s : List V) (H : Heap) : evCode P Γ call n f m (cAt [1, 0, 1, 1, 0, 0] B37) s H = regNext (evOpsGo P Γ call r37_10.1 r37_10.1 s H) := at_region (by kernel_rfl) r37_10.2 s H
attribute [simp] r37_10
@[simp] theorem n37_11 (s : List V) (H : Heap) : evCode P Γ call n f m (cAt [1, 0, 1, 1, 0, 1] B37) s H = some (.ret, s, H) := at_ret (by kernel_rfl) s H
@[simp] theorem n37_12 (s : List V) (H : Heap) : evCode P Γ call n f m (cAt [1, 0, 1, 1, 1] B37) s H = some (.normal, s, H) := at_skip (by kernel_rfl) s H
@[simp] theorem n37_13 (s : List V) (H : Heap) : evCode P Γ call n f m (cAt [1, 1] B37) s H = seqNext P Γ call n f m (cAt [1, 1, 1] B37) (evCode P Γ call n f m (cAt [1, 1, 0] B37) s H) := at_seq (by kernel_rfl) rfl rfl s H
noncomputable def r37_14 : {l : List Oper // opsOf (cAt [1, 1, 0] B37) = l} := by
  apply Subtype.mk
  dsimp only [opsOf, cAt, kids, B37, bodyOf, Try.f37, List.getD, List.getElem?_cons_zero, List.getElem?_cons_succ, Option.getD_some]
@[simp] theorem n37_14 (s : List V) (H : Heap) : evCode P Γ call n f m (cAt [1, 1, 0] B37) s H = regNext (evOpsGo P Γ call r37_14.1 r37_14.1 s H) := at_region (by kernel_rfl) r37_14.2 s H
attribute [simp] r37_14
@[simp] theorem n37_15 (s : List V) (H : Heap) : evCode P Γ call n f m (cAt [1, 1, 1] B37) s H = seqNext P Γ call n f m (cAt [1, 1, 1, 1] B37) (evCode P Γ call n f m (cAt [1, 1, 1, 0] B37) s H) := at_seq (by kernel_rfl) rfl rfl s H
@[simp] theorem n37_16 (s : List V) (H : Heap) : evCode P Γ call n f m (cAt [1, 1, 1, 0] B37) s H = seqNext P Γ call n f m (cAt [1, 1, 1, 0, 1] B37) (evCode P Γ call n f m (cAt [1, 1, 1, 0, 0] B37) s H) := at_seq (by kernel_rfl) rfl rfl s H
noncomputable def r37_17 : {l : List Oper // opsOf (cAt [1, 1, 1, 0, 0] B37) = l} := by
  apply Subtype.mk
  dsimp only [opsOf, cAt, kids, B37, bodyOf, Try.f37, List.getD, List.getElem?_cons_zero, List.getElem?_cons_succ, Option.getD_some]
@[simp] theorem n37_17 (s : List V) (H : Heap) : evCode P Γ call n f m (cAt [1, 1, 1, 0, 0] B37) s H = regNext (evOpsGo P Γ call r37_17.1 r37_17.1 s H) := at_region (by kernel_rfl) r37_17.2 s H
attribute [simp] r37_17
@[simp] theorem n37_18 (s : List V) (H : Heap) : evCode P Γ call n f m (cAt [1, 1, 1, 0, 1] B37) s H = blockNext 0 (evCode P Γ call n f m (cAt [1, 1, 1, 0, 1, 0] B37) s H) := at_block (by kernel_rfl) rfl s H
@[simp] theorem n37_19 (s : List V) (H : Heap) : evCode P Γ call n f m (cAt [1, 1, 1, 0, 1, 0] B37) s H = evLoopC P Γ call n f m (cAt [1, 1, 1, 0, 1, 0, 0] B37) n s H := at_loop (by kernel_rfl) rfl s H
noncomputable abbrev L37_6 : Code := cAt [1, 1, 1, 0, 1, 0, 0] B37
@[simp] theorem n37_19f : firstRegion (cAt [1, 1, 1, 0, 1, 0, 0] B37) = 6 := by kernel_rfl
@[simp] theorem n37_20 (s : List V) (H : Heap) : evCode P Γ call n f m (cAt [1, 1, 1, 0, 1, 0, 0] B37) s H = seqNext P Γ call n f m (cAt [1, 1, 1, 0, 1, 0, 0, 1] B37) (evCode P Γ call n f m (cAt [1, 1, 1, 0, 1, 0, 0, 0] B37) s H) := at_seq (by kernel_rfl) rfl rfl s H
noncomputable def r37_21 : {l : List Oper // opsOf (cAt [1, 1, 1, 0, 1, 0, 0, 0] B37) = l} := by
  apply Subtype.mk
  dsimp only [opsOf, cAt, kids, B37, bodyOf, Try.f37, List.getD, List.getElem?_cons_zero, List.getElem?_cons_succ, Option.getD_some]
@[simp] theorem n37_21 (s : List V) (H : Heap) : evCode P Γ call n f m (cAt [1, 1, 1, 0, 1, 0, 0, 0] B37) s H = regNext (evOpsGo P Γ call r37_21.1 r37_21.1 s H) := at_region (by kernel_rfl) r37_21.2 s H
attribute [simp] r37_21
@[simp] theorem n37_22 (s : List V) (H : Heap) : evCode P Γ call n f m (cAt [1, 1, 1, 0, 1, 0, 0, 1] B37) s H = seqNext P Γ call n f m (cAt [1, 1, 1, 0, 1, 0, 0, 1, 1] B37) (evCode P Γ call n f m (cAt [1, 1, 1, 0, 1, 0, 0, 1, 0] B37) s H) := at_seq (by kernel_rfl) rfl rfl s H
@[simp] theorem n37_23 (s : List V) (H : Heap) : evCode P Γ call n f m (cAt [1, 1, 1, 0, 1, 0, 0, 1, 0] B37) s H = condW P Γ call n f m (cAt [1, 1, 1, 0, 1, 0, 0, 1, 0, 0] B37) (cAt [1, 1, 1, 0, 1, 0, 0, 1, 0, 1] B37) s H (evOperand Γ s (.tmp 18)) := at_cond (by kernel_rfl) (by kernel_rfl) rfl rfl s H
@[simp] theorem n37_24 (s : List V) (H : Heap) : evCode P Γ call n f m (cAt [1, 1, 1, 0, 1, 0, 0, 1, 0, 0] B37) s H = some (.normal, s, H) := at_skip (by kernel_rfl) s H
@[simp] theorem n37_25 (s : List V) (H : Heap) : evCode P Γ call n f m (cAt [1, 1, 1, 0, 1, 0, 0, 1, 0, 1] B37) s H = some (.exit 0, s, H) := at_exit (by kernel_rfl) s H
@[simp] theorem n37_26 (s : List V) (H : Heap) : evCode P Γ call n f m (cAt [1, 1, 1, 0, 1, 0, 0, 1, 1] B37) s H = seqNext P Γ call n f m (cAt [1, 1, 1, 0, 1, 0, 0, 1, 1, 1] B37) (evCode P Γ call n f m (cAt [1, 1, 1, 0, 1, 0, 0, 1, 1, 0] B37) s H) := at_seq (by kernel_rfl) rfl rfl s H
@[simp] theorem n37_27 (s : List V) (H : Heap) : evCode P Γ call n f m (cAt [1, 1, 1, 0, 1, 0, 0, 1, 1, 0] B37) s H = blockNext 1 (evCode P Γ call n f m (cAt [1, 1, 1, 0, 1, 0, 0, 1, 1, 0, 0] B37) s H) := at_block (by kernel_rfl) rfl s H
@[simp] theorem n37_28 (s : List V) (H : Heap) : evCode P Γ call n f m (cAt [1, 1, 1, 0, 1, 0, 0, 1, 1, 0, 0] B37) s H = seqNext P Γ call n f m (cAt [1, 1, 1, 0, 1, 0, 0, 1, 1, 0, 0, 1] B37) (evCode P Γ call n f m (cAt [1, 1, 1, 0, 1, 0, 0, 1, 1, 0, 0, 0] B37) s H) := at_seq (by kernel_rfl) rfl rfl s H
noncomputable def r37_29 : {l : List Oper // opsOf (cAt [1, 1, 1, 0, 1, 0, 0, 1, 1, 0, 0, 0] B37) = l} := by
  apply Subtype.mk
  dsimp only [opsOf, cAt, kids, B37, bodyOf, Try.f37, List.getD, List.getElem?_cons_zero, List.getElem?_cons_succ, Option.getD_some]
@[simp] theorem n37_29 (s : List V) (H : Heap) : evCode P Γ call n f m (cAt [1, 1, 1, 0, 1, 0, 0, 1, 1, 0, 0, 0] B37) s H = regNext (evOpsGo P Γ call r37_29.1 r37_29.1 s H) := at_region (by kernel_rfl) r37_29.2 s H
attribute [simp] r37_29
@[simp] theorem n37_30 (s : List V) (H : Heap) : evCode P Γ call n f m (cAt [1, 1, 1, 0, 1, 0, 0, 1, 1, 0, 0, 1] B37) s H = seqNext P Γ call n f m (cAt [1, 1, 1, 0, 1, 0, 0, 1, 1, 0, 0, 1, 1] B37) (evCode P Γ call n f m (cAt [1, 1, 1, 0, 1, 0, 0, 1, 1, 0, 0, 1, 0] B37) s H) := at_seq (by kernel_rfl) rfl rfl s H
noncomputable def r37_31 : {l : List Oper // opsOf (cAt [1, 1, 1, 0, 1, 0, 0, 1, 1, 0, 0, 1, 0] B37) = l} := by
  apply Subtype.mk
  dsimp only [opsOf, cAt, kids, B37, bodyOf, Try.f37, List.getD, List.getElem?_cons_zero, List.getElem?_cons_succ, Option.getD_some]
@[simp] theorem n37_31 (s : List V) (H : Heap) : evCode P Γ call n f m (cAt [1, 1, 1, 0, 1, 0, 0, 1, 1, 0, 0, 1, 0] B37) s H = regNext (evOpsGo P Γ call r37_31.1 r37_31.1 s H) := at_region (by kernel_rfl) r37_31.2 s H
attribute [simp] r37_31
@[simp] theorem n37_32 (s : List V) (H : Heap) : evCode P Γ call n f m (cAt [1, 1, 1, 0, 1, 0, 0, 1, 1, 0, 0, 1, 1] B37) s H = condW P Γ call n f m (cAt [1, 1, 1, 0, 1, 0, 0, 1, 1, 0, 0, 1, 1, 0] B37) (cAt [1, 1, 1, 0, 1, 0, 0, 1, 1, 0, 0, 1, 1, 1] B37) s H (evOperand Γ s (.tmp 23)) := at_cond (by kernel_rfl) (by kernel_rfl) rfl rfl s H
noncomputable def r37_33 : {l : List Oper // opsOf (cAt [1, 1, 1, 0, 1, 0, 0, 1, 1, 0, 0, 1, 1, 0] B37) = l} := by
  apply Subtype.mk
  dsimp only [opsOf, cAt, kids, B37, bodyOf, Try.f37, List.getD, List.getElem?_cons_zero, List.getElem?_cons_succ, Option.getD_some]
@[simp] theorem n37_33 (s : List V) (H : Heap) : evCode P Γ call n f m (cAt [1, 1, 1, 0, 1, 0, 0, 1, 1, 0, 0, 1, 1, 0] B37) s H = regNext (evOpsGo P Γ call r37_33.1 r37_33.1 s H) := at_region (by kernel_rfl) r37_33.2 s H
attribute [simp] r37_33
@[simp] theorem n37_34 (s : List V) (H : Heap) : evCode P Γ call n f m (cAt [1, 1, 1, 0, 1, 0, 0, 1, 1, 0, 0, 1, 1, 1] B37) s H = some (.normal, s, H) := at_skip (by kernel_rfl) s H
noncomputable def r37_35 : {l : List Oper // opsOf (cAt [1, 1, 1, 0, 1, 0, 0, 1, 1, 1] B37) = l} := by
  apply Subtype.mk
  dsimp only [opsOf, cAt, kids, B37, bodyOf, Try.f37, List.getD, List.getElem?_cons_zero, List.getElem?_cons_succ, Option.getD_some]
@[simp] theorem n37_35 (s : List V) (H : Heap) : evCode P Γ call n f m (cAt [1, 1, 1, 0, 1, 0, 0, 1, 1, 1] B37) s H = regNext (evOpsGo P Γ call r37_35.1 r37_35.1 s H) := at_region (by kernel_rfl) r37_35.2 s H
attribute [simp] r37_35
@[simp] theorem n37_36 (s : List V) (H : Heap) : evCode P Γ call n f m (cAt [1, 1, 1, 1] B37) s H = seqNext P Γ call n f m (cAt [1, 1, 1, 1, 1] B37) (evCode P Γ call n f m (cAt [1, 1, 1, 1, 0] B37) s H) := at_seq (by kernel_rfl) rfl rfl s H
noncomputable def r37_37 : {l : List Oper // opsOf (cAt [1, 1, 1, 1, 0] B37) = l} := by
  apply Subtype.mk
  dsimp only [opsOf, cAt, kids, B37, bodyOf, Try.f37, List.getD, List.getElem?_cons_zero, List.getElem?_cons_succ, Option.getD_some]
@[simp] theorem n37_37 (s : List V) (H : Heap) : evCode P Γ call n f m (cAt [1, 1, 1, 1, 0] B37) s H = regNext (evOpsGo P Γ call r37_37.1 r37_37.1 s H) := at_region (by kernel_rfl) r37_37.2 s H
attribute [simp] r37_37
@[simp] theorem n37_38 (s : List V) (H : Heap) : evCode P Γ call n f m (cAt [1, 1, 1, 1, 1] B37) s H = some (.ret, s, H) := at_ret (by kernel_rfl) s H
theorem b37 {k : Nat} (ho : ∀ args H, Γ.orc 37 args H = none) (args : List V) (H : Heap) (ha : args.length ≤ 30) : evF Try.prog Γ (k + 1) 37 args H = bodyEnd Try.prog [.tmp 4, .tmp 5] H.length (evCode Try.prog Γ (evF Try.prog Γ k) k 37 H.length (cAt [] B37) (mkL 30 V.undef (enumV 0 args)) H) := body_at Try.func37 (by decide) rfl ho rfl rfl args H ha
noncomputable def B38 : Code := bodyOf Try.f38
@[simp] theorem n38_1 (s : List V) (H : Heap) : evCode P Γ call n f m (cAt [] B38) s H = seqNext P Γ call n f m (cAt [1] B38) (evCode P Γ call n f m (cAt [0] B38) s H) := at_seq (by kernel_rfl) rfl rfl s H
noncomputable def r38_2 : {l : List Oper // opsOf (cAt [0] B38) = l} := by
  apply Subtype.mk
  dsimp only [opsOf, cAt, kids, B38, bodyOf, Try.f38, List.getD, List.getElem?_cons_zero, List.getElem?_cons_succ, Option.getD_some]
@[simp] theorem n38_2 (s : List V) (H : Heap) : evCode P Γ call n f m (cAt [0] B38) s H = regNext (evOpsGo P Γ call r38_2.1 r38_2.1 s H) := at_region (by kernel_rfl) r38_2.2 s H
attribute [simp] r38_2
@[simp] theorem n38_3 (s : List V) (H : Heap) : evCode P Γ call n f m (cAt [1] B38) s H = seqNext P Γ call n f m (cAt [1, 1] B38) (evCode P Γ call n f m (cAt [1, 0] B38) s H) := at_seq (by kernel_rfl) rfl rfl s H
noncomputable def r38_4 : {l : List Oper // opsOf (cAt [1, 0] B38) = l} := by
  apply Subtype.mk
  dsimp only [opsOf, cAt, kids, B38, bodyOf, Try.f38, List.getD, List.getElem?_cons_zero, List.getElem?_cons_succ, Option.getD_some]
@[simp] theorem n38_4 (s : List V) (H : Heap) : evCode P Γ call n f m (cAt [1, 0] B38) s H = regNext (evOpsGo P Γ call r38_4.1 r38_4.1 s H) := at_region (by kernel_rfl) r38_4.2 s H
attribute [simp] r38_4
@[simp] theorem n38_5 (s : List V) (H : Heap) : evCode P Γ call n f m (cAt [1, 1] B38) s H = some (.ret, s, H) := at_ret (by kernel_rfl) s H
theorem b38 {k : Nat} (ho : ∀ args H, Γ.orc 38 args H = none) (args : List V) (H : Heap) (ha : args.length ≤ 20) : evF Try.prog Γ (k + 1) 38 args H = bodyEnd Try.prog [.tmp 4] H.length (evCode Try.prog Γ (evF Try.prog Γ k) k 38 H.length (cAt [] B38) (mkL 20 V.undef (enumV 0 args)) H) := body_at Try.func38 (by decide) rfl ho rfl rfl args H ha
noncomputable def B39 : Code := bodyOf Try.f39
@[simp] theorem n39_1 (s : List V) (H : Heap) : evCode P Γ call n f m (cAt [] B39) s H = seqNext P Γ call n f m (cAt [1] B39) (evCode P Γ call n f m (cAt [0] B39) s H) := at_seq (by kernel_rfl) rfl rfl s H
noncomputable def r39_2 : {l : List Oper // opsOf (cAt [0] B39) = l} := by
  apply Subtype.mk
  dsimp only [opsOf, cAt, kids, B39, bodyOf, Try.f39, List.getD, List.getElem?_cons_zero, List.getElem?_cons_succ, Option.getD_some]
@[simp] theorem n39_2 (s : List V) (H : Heap) : evCode P Γ call n f m (cAt [0] B39) s H = regNext (evOpsGo P Γ call r39_2.1 r39_2.1 s H) := at_region (by kernel_rfl) r39_2.2 s H
attribute [simp] r39_2
@[simp] theorem n39_3 (s : List V) (H : Heap) : evCode P Γ call n f m (cAt [1] B39) s H = seqNext P Γ call n f m (cAt [1, 1] B39) (evCode P Γ call n f m (cAt [1, 0] B39) s H) := at_seq (by kernel_rfl) rfl rfl s H
noncomputable def r39_4 : {l : List Oper // opsOf (cAt [1, 0] B39) = l} := by
  apply Subtype.mk
  dsimp only [opsOf, cAt, kids, B39, bodyOf, Try.f39, List.getD, List.getElem?_cons_zero, List.getElem?_cons_succ, Option.getD_some]
@[simp] theorem n39_4 (s : List V) (H : Heap) : evCode P Γ call n f m (cAt [1, 0] B39) s H = regNext (evOpsGo P Γ call r39_4.1 r39_4.1 s H) := at_region (by kernel_rfl) r39_4.2 s H
attribute [simp] r39_4
@[simp] theorem n39_5 (s : List V) (H : Heap) : evCode P Γ call n f m (cAt [1, 1] B39) s H = some (.ret, s, H) := at_ret (by kernel_rfl) s H
theorem b39 {k : Nat} (ho : ∀ args H, Γ.orc 39 args H = none) (args : List V) (H : Heap) (ha : args.length ≤ 15) : evF Try.prog Γ (k + 1) 39 args H = bodyEnd Try.prog [.tmp 4] H.length (evCode Try.prog Γ (evF Try.prog Γ k) k 39 H.length (cAt [] B39) (mkL 15 V.undef (enumV 0 args)) H) := body_at Try.func39 (by decide) rfl ho rfl rfl args H ha
noncomputable def B40 : Code := bodyOf Try.f40
@[simp] theorem n40_1 (s : List V) (H : Heap) : evCode P Γ call n f m (cAt [] B40) s H = seqNext P Γ call n f m (cAt [1] B40) (evCode P Γ call n f m (cAt [0] B40) s H) := at_seq (by kernel_rfl) rfl rfl s H
noncomputable def r40_2 : {l : List Oper // opsOf (cAt [0] B40) = l} := by
  apply Subtype.mk
  dsimp only [opsOf, cAt, kids, B40, bodyOf, Try.f40, List.getD, List.getElem?_cons_zero, List.getElem?_cons_succ, Option.getD_some]
@[simp] theorem n40_2 (s : List V) (H : Heap) : evCode P Γ call n f m (cAt [0] B40) s H = regNext (evOpsGo P Γ call r40_2.1 r40_2.1 s H) := at_region (by kernel_rfl) r40_2.2 s H
attribute [simp] r40_2
@[simp] theorem n40_3 (s : List V) (H : Heap) : evCode P Γ call n f m (cAt [1] B40) s H = seqNext P Γ call n f m (cAt [1, 1] B40) (evCode P Γ call n f m (cAt [1, 0] B40) s H) := at_seq (by kernel_rfl) rfl rfl s H
@[simp] theorem n40_4 (s : List V) (H : Heap) : evCode P Γ call n f m (cAt [1, 0] B40) s H = seqNext P Γ call n f m (cAt [1, 0, 1] B40) (evCode P Γ call n f m (cAt [1, 0, 0] B40) s H) := at_seq (by kernel_rfl) rfl rfl s H
noncomputable def r40_5 : {l : List Oper // opsOf (cAt [1, 0, 0] B40) = l} := by
  apply Subtype.mk
  dsimp only [opsOf, cAt, kids, B40, bodyOf, Try.f40, List.getD, List.getElem?_cons_zero, List.getElem?_cons_succ, Option.getD_some]
@[simp] theorem n40_5 (s : List V) (H : Heap) : evCode P Γ call n f m (cAt [1, 0, 0] B40) s H = regNext (evOpsGo P Γ call r40_5.1 r40_5.1 s H) := at_region (by kernel_rfl) r40_5.2 s H
attribute [simp] r40_5
@[simp] theorem n40_6 (s : List V) (H : Heap) : evCode P Γ call n f m (cAt [1, 0, 1] B40) s H = blockNext 0 (evCode P Γ call n f m (cAt [1, 0, 1, 0] B40) s H) := at_block (by kernel_rfl) rfl s H
@[simp] theorem n40_7 (s : List V) (H : Heap) : evCode P Γ call n f m (cAt [1, 0, 1, 0] B40) s H = evLoopC P Γ call n f m (cAt [1, 0, 1, 0, 0] B40) n s H := at_loop (by kernel_rfl) rfl s H
noncomputable abbrev L40_2 : Code := cAt [1, 0, 1, 0, 0] B40
@[simp] theorem n40_7f : firstRegion (cAt [1, 0, 1, 0, 0] B40) = 2 := by kernel_rfl
@[simp] theorem n40_8 (s : List V) (H : Heap) : evCode P Γ call n f m (cAt [1, 0, 1, 0, 0] B40) s H = seqNext P Γ call n f m (cAt [1, 0, 1, 0, 0, 1] B40) (evCode P Γ call n f m (cAt [1, 0, 1, 0, 0, 0] B40) s H) := at_seq (by kernel_rfl) rfl rfl s H
noncomputable def r40_9 : {l : List Oper // opsOf (cAt [1, 0, 1, 0, 0, 0] B40) = l} := by
  apply Subtype.mk
  dsimp only [opsOf, cAt, kids, B40, bodyOf, Try.f40, List.getD, List.getElem?_cons_zero, List.getElem?_cons_succ, Option.getD_some]
@[simp] theorem n40_9 (s : List V) (H : Heap) : evCode P Γ call n f m (cAt [1, 0, 1, 0, 0, 0] B40) s H = regNext (evOpsGo P Γ call r40_9.1 r40_9.1 s H) := at_region (by kernel_rfl) r40_9.2 s H
attribute [simp] r40_9
@[simp] theorem n40_10 (s : List V) (H : Heap) : evCode P Γ call n f m (cAt [1, 0, 1, 0, 0, 1] B40) s H = seqNext P Γ call n f m (cAt [1, 0, 1, 0, 0, 1, 1] B40) (evCode P Γ call n f m (cAt [1, 0, 1, 0, 0, 1, 0] B40) s H) := at_seq (by kernel_rfl) rfl rfl s H
@[simp] theorem n40_11 (s : List V) (H : Heap) : evCode P Γ call n f m (cAt [1, 0, 1, 0, 0, 1, 0] B40) s H = condW P Γ call n f m (cAt [1, 0, 1, 0, 0, 1, 0, 0] B40) (cAt [1, 0, 1, 0, 0, 1, 0, 1] B40) s H (evOperand Γ s (.tmp 9)) := at_cond (by kernel_rfl) (by kernel_rfl) rfl rfl s H
@[simp] theorem n40_12 (s : List V) (H : Heap) : evCode P Γ call n f m (cAt [1, 0, 1, 0, 0, 1, 0, 0] B40) s H = some (.normal, s, H) := at_skip (by kernel_rfl) s H
@[simp] theorem n40_13 (s : List V) (H : Heap) : evCode P Γ call n f m (cAt [1, 0, 1, 0, 0, 1, 0, 1] B40) s H = some (.exit 0, s, H) := at_exit (by kernel_rfl) s H
@[simp] theorem n40_14 (s : List V) (H : Heap) : evCode P Γ call n f m (cAt [1, 0, 1, 0, 0, 1, 1] B40) s H = seqNext P Γ call n f m (cAt [1, 0, 1, 0, 0, 1, 1, 1] B40) (evCode P Γ call n f m (cAt [1, 0, 1, 0, 0, 1, 1, 0] B40) s H) := at_seq (by kernel_rfl) rfl rfl s H
@[simp] theorem n40_15 (s : List V) (H : Heap) : evCode P Γ call n f m (cAt [1, 0, 1, 0, 0, 1, 1, 0] B40) s H = blockNext 1 (evCode P Γ call n f m (cAt [1, 0, 1, 0, 0, 1, 1, 0, 0] B40) s H) := at_block (by kernel_rfl) rfl s H
@[simp] theorem n40_16 (s : List V) (H : Heap) : evCode P Γ call n f m (cAt [1, 0, 1, 0, 0, 1, 1, 0, 0] B40) s H = seqNext P Γ call n f m (cAt [1, 0, 1, 0, 0, 1, 1, 0, 0, 1] B40) (evCode P Γ call n f m (cAt [1, 0, 1, 0, 0, 1, 1, 0, 0, 0] B40) s H) := at_seq (by kernel_rfl) rfl rfl s H
noncomputable def r40_17 : {l : List Oper // opsOf (cAt [1, 0, 1, 0, 0, 1, 1, 0, 0, 0] B40) = l} := by
  apply Subtype.mk
  dsimp only [opsOf, cAt, kids, B40, bodyOf, Try.f40, List.getD, List.getElem?_cons_zero, List.getElem?_cons_succ, Option.getD_some]
@[simp] theorem n40_17 (s : List V) (H : Heap) : evCode P Γ call n f m (cAt [1, 0, 1, 0, 0, 1, 1, 0, 0, 0] B40) s H = regNext (evOpsGo P Γ call r40_17.1 r40_17.1 s H) := at_region (by kernel_rfl) r40_17.2 s H
attribute [simp] r40_17
@[simp] theorem n40_18 (s : List V) (H : Heap) : evCode P Γ call n f m (cAt [1, 0, 1, 0, 0, 1, 1, 0, 0, 1] B40) s H = seqNext P Γ call n f m (cAt [1, 0, 1, 0, 0, 1, 1, 0, 0, 1, 1] B40) (evCode P Γ call n f m (cAt [1, 0, 1, 0, 0, 1, 1, 0, 0, 1, 0] B40) s H) := at_seq (by kernel_rfl) rfl rfl s H
noncomputable def r40_19 : {l : List Oper // opsOf (cAt [1, 0, 1, 0, 0, 1, 1, 0, 0, 1, 0] B40) = l} := by
  apply Subtype.mk
  dsimp only [opsOf, cAt, kids, B40, bodyOf, Try.f40, List.getD, List.getElem?_cons_zero, List.getElem?_cons_succ, Option.getD_some]
@[simp] theorem n40_19 (s : List V) (H : Heap) : evCode P Γ call n f m (cAt [1, 0, 1, 0, 0, 1, 1, 0, 0, 1, 0] B40) s H = regNext (evOpsGo P Γ call r40_19.1 r40_19.1 s H) := at_region (by kernel_rfl) r40_19.2 s H
attribute [simp] r40_19
@[simp] theorem n40_20 (s : List V) (H : Heap) : evCode P Γ call n f m (cAt [1, 0, 1, 0, 0, 1, 1, 0, 0, 1, 1] B40) s H = condW P Γ call n f m (cAt [1, 0, 1, 0, 0, 1, 1, 0, 0, 1, 1, 0] B40) (cAt [1, 0, 1, 0, 0, 1, 1, 0, 0, 1, 1, 1] B40) s H (evOperand Γ s (.tmp 16)) := at_cond (by kernel_rfl) (by kernel_rfl) rfl rfl s H
@[simp] theorem n40_21 (s : List V) (H : Heap) : evCode P Γ call n f m (cAt [1, 0, 1, 0, 0, 1, 1, 0, 0, 1, 1, 0] B40) s H = seqNext P Γ call n f m (cAt [1, 0, 1, 0, 0, 1, 1, 0, 0, 1, 1, 0, 1] B40) (evCode P Γ call n f m (cAt [1, 0, 1, 0, 0, 1, 1, 0, 0, 1, 1, 0, 0] B40) s H) := at_seq (by kernel_rfl) rfl rfl s H
noncomputable def r40_22 : {l : List Oper // opsOf (cAt [1, 0, 1, 0, 0, 1, 1, 0, 0, 1, 1, 0, 0] B40) = l} := by
  apply Subtype.mk
  dsimp only [opsOf, cAt, kids, B40, bodyOf, Try.f40, List.getD, List.getElem?_cons_zero, List.getElem?_cons_succ, Option.getD_some]
@[simp] theorem n40_22 (s : List V) (H : Heap) : evCode P Γ call n f m (cAt [1, 0, 1, 0, 0, 1, 1, 0, 0, 1, 1, 0, 0] B40) s H = regNext (evOpsGo P Γ call r40_22.1 r40_22.1 s H) := at_region (by kernel_rfl) r40_22.2 s H
attribute [simp] r40_22
@[simp] theorem n40_23 (s : List V) (H : Heap) : evCode P Γ call n f m (cAt [1, 0, 1, 0, 0, 1, 1, 0, 0, 1, 1, 0, 1] B40) s H = some (.ret, s, H) := at_ret (by kernel_rfl) s H
@[simp] theorem n40_24 (s : List V) (H : Heap) : evCode P Γ call n f m (cAt [1, 0, 1, 0, 0, 1, 1, 0, 0, 1, 1, 1] B40) s H = some (.normal, s, H) := at_skip (by kernel_rfl) s H
noncomputable def r40_25 : {l : List Oper // opsOf (cAt [1, 0, 1, 0, 0, 1, 1, 1] B40) = l} := by
  apply Subtype.mk
  dsimp only [opsOf, cAt, kids, B40, bodyOf, Try.f40, List.getD, List.getElem?_cons_zero, List.getElem?_cons_succ, Option.getD_some]
@[simp] theorem n40_25 (s : List V) (H : Heap) : evCode P Γ call n f m (cAt [1, 0, 1, 0, 0, 1, 1, 1] B40) s H = regNext (evOpsGo P Γ call r40_25.1 r40_25.1 s H) := at_region (by kernel_rfl) r40_25.2 s H
attribute [simp] r40_25
@[simp] theorem n40_26 (s : List V) (H : Heap) : evCode P Γ call n f m (cAt [1, 1] B40) s H = seqNext P Γ call n f m (cAt [1, 1, 1] B40) (evCode P Γ call n f m (cAt [1, 1, 0] B40) s H) := at_seq (by kernel_rfl) rfl rfl s H
noncomputable def r40_27 : {l : List Oper // opsOf (cAt [1, 1, 0] B40) = l} := by
  apply Subtype.mk
  dsimp only [opsOf, cAt, kids, B40, bodyOf, Try.f40, List.getD, List.getElem?_cons_zero, List.getElem?_cons_succ, Option.getD_some]
@[simp] theorem n40_27 (s : List V) (H : Heap) : evCode P Γ call n f m (cAt [1, 1, 0] B40) s H = regNext (evOpsGo P Γ call r40_27.1 r40_27.1 s H) := at_region (by kernel_rfl) r40_27.2 s H
attribute [simp] r40_27
@[simp] theorem n40_28 (s : List V) (H : Heap) : evCode P Γ call n f m (cAt [1, 1, 1] B40) s H = some (.ret, s, H) := at_ret (by kernel_rfl) s H
theorem b40 {k : Nat} (ho : ∀ args H, Γ.orc 40 args H = none) (args : List V) (H : Heap) (ha : args.length ≤ 19) : evF Try.prog Γ (k + 1) 40 args H = bodyEnd Try.prog [.tmp 4] H.length (evCode Try.prog Γ (evF Try.prog Γ k) k 40 H.length (cAt [] B40) (mkL 19 V.undef (enumV 0 args)) H) := body_at Try.func40 (by decide) rfl ho rfl rfl args H ha
noncomputable def B41 : Code := bodyOf Try.f41
@[simp] theorem n41_1 (s : List V) (H : Heap) : evCode P Γ call n f m (cAt [] B41) s H = seqNext P Γ call n f m (cAt [1] B41) (evCode P Γ call n f m (cAt [0] B41) s H) := at_seq (by kernel_rfl) rfl rfl s H
noncomputable def r41_2 : {l : List Oper // opsOf (cAt [0] B41) = l} := by
  apply Subtype.mk
  dsimp only [opsOf, cAt, kids, B41, bodyOf, Try.f41, List.getD, List.getElem?_cons_zero, List.getElem?_cons_succ, Option.getD_some]
@[simp] theorem n41_2 (s : List V) (H : Heap) : evCode P Γ call n f m (cAt [0] B41) s H = regNext (evOpsGo P Γ call r41_2.1 r41_2.1 s H) := at_region (by kernel_rfl) r41_2.2 s H
attribute [simp] r41_2
@[simp] theorem n41_3 (s : List V) (H : Heap) : evCode P Γ call n f m (cAt [1] B41) s H = seqNext P Γ call n f m (cAt [1, 1] B41) (evCode P Γ call n f m (cAt [1, 0] B41) s H) := at_seq (by kernel_rfl) rfl rfl s H
@[simp] theorem n41_4 (s : List V) (H : Heap) : evCode P Γ call n f m (cAt [1, 0] B41) s H = seqNext P Γ call n f m (cAt [1, 0, 1] B41) (evCode P Γ call n f m (cAt [1, 0, 0] B41) s H) := at_seq (by kernel_rfl) rfl rfl s H
noncomputable def r41_5 : {l : List Oper // opsOf (cAt [1, 0, 0] B41) = l} := by
  apply Subtype.mk
  dsimp only [opsOf, cAt, kids, B41, bodyOf, Try.f41, List.getD, List.getElem?_cons_zero, List.getElem?_cons_succ, Option.getD_some]
@[simp] theorem n41_5 (s : List V) (H : Heap) : evCode P Γ call n f m (cAt [1, 0, 0] B41) s H = regNext (evOpsGo P Γ call r41_5.1 r41_5.1 s H) := at_region (by kernel_rfl) r41_5.2 s H
attribute [simp] r41_5
@[simp] theorem n41_6 (s : List V) (H : Heap) : evCode P Γ call n f m (cAt [1, 0, 1] B41) s H = blockNext 0 (evCode P Γ call n f m (cAt [1, 0, 1, 0] B41) s H) := at_block (by kernel_rfl) rfl s H
@[simp] theorem n41_7 (s : List V) (H : Heap) : evCode P Γ call n f m (cAt [1, 0, 1, 0] B41) s H = evLoopC P Γ call n f m (cAt [1, 0, 1, 0, 0] B41) n s H := at_loop (by kernel_rfl) rfl s H
noncomputable abbrev L41_2 : Code := cAt [1, 0, 1, 0, 0] B41
@[simp] theorem n41_7f : firstRegion (cAt [1, 0, 1, 0, 0] B41) = 2 := by kernel_rfl
@[simp] theorem n41_8 (s : List V) (H : Heap) : evCode P Γ call n f m (cAt [1, 0, 1, 0, 0] B41) s H = seqNext P Γ call n f m (cAt [1, 0, 1, 0, 0, 1] B41) (evCode P Γ call n f m (cAt [1, 0, 1, 0, 0, 0] B41) s H) := at_seq (by kernel_rfl) rfl rfl s H
noncomputable def r41_9 : {l : List Oper // opsOf (cAt [1, 0, 1, 0, 0, 0] B41) = l} := by
  apply Subtype.mk
  dsimp only [opsOf, cAt, kids, B41, bodyOf, Try.f41, List.getD, List.getElem?_cons_zero, List.getElem?_cons_succ, Option.getD_some]
@[simp] theorem n41_9 (s : List V) (H : Heap) : evCode P Γ call n f m (cAt [1, 0, 1, 0, 0, 0] B41) s H = regNext (evOpsGo P Γ call r41_9.1 r41_9.1 s H) := at_region (by kernel_rfl) r41_9.2 s H
attribute [simp] r41_9
@[simp] theorem n41_10 (s : List V) (H : Heap) : evCode P Γ call n f m (cAt [1, 0, 1, 0, 0, 1] B41) s H = seqNext P Γ call n f m (cAt [1, 0, 1, 0, 0, 1, 1] B41) (evCode P Γ call n f m (cAt [1, 0, 1, 0, 0, 1, 0] B41) s H) := at_seq (by kernel_rfl) rfl rfl s H
@[simp] theorem n41_11 (s : List V) (H : Heap) : evCode P Γ call n f m (cAt [1, 0, 1, 0, 0, 1, 0] B41) s H = condW P Γ call n f m (cAt [1, 0, 1, 0, 0, 1, 0, 0] B41) (cAt [1, 0, 1, 0, 0, 1, 0, 1] B41) s H (evOperand Γ s (.tmp 9)) := at_cond (by kernel_rfl) (by kernel_rfl) rfl rfl s H
@[simp] theorem n41_12 (s : List V) (H : Heap) : evCode P Γ call n f m (cAt [1, 0, 1, 0, 0, 1, 0, 0] B41) s H = some (.normal, s, H) := at_skip (by kernel_rfl) s H
@[simp] theorem n41_13 (s : List V) (H : Heap) : evCode P Γ call n f m (cAt [1, 0, 1, 0, 0, 1, 0, 1] B41) s H = some (.exit 0, s, H) := at_exit (by kernel_rfl) s H
@[simp] theorem n41_14 (s : List V) (H : Heap) : evCode P Γ call n f m (cAt [1, 0, 1, 0, 0, 1, 1] B41) s H = seqNext P Γ call n f m (cAt [1, 0, 1, 0, 0, 1, 1, 1] B41) (evCode P Γ call n f m (cAt [1, 0, 1, 0, 0, 1, 1, 0] B41) s H) := at_seq (by kernel_rfl) rfl rfl s H
@[simp] theorem n41_15 (s : List V) (H : Heap) : evCode P Γ call n f m (cAt [1, 0, 1, 0, 0, 1, 1, 0] B41) s H = blockNext 1 (evCode P Γ call n f m (cAt [1, 0, 1, 0, 0, 1, 1, 0, 0] B41) s H) := at_block (by kernel_rfl) rfl s H
@[simp] theorem n41_16 (s : List V) (H : Heap) : evCode P Γ call n f m (cAt [1, 0, 1, 0, 0, 1, 1, 0, 0] B41) s H = seqNext P Γ call n f m (cAt [1, 0, 1, 0, 0, 1, 1, 0, 0, 1] B41) (evCode P Γ call n f m (cAt [1, 0, 1, 0, 0, 1, 1, 0, 0, 0] B41) s H) := at_seq (by kernel_rfl) rfl rfl s H
noncomputable def r41_17 : {l : List Oper // opsOf (cAt [1, 0, 1, 0, 0, 1, 1, 0, 0, 0] B41) = l} := by
  apply Subtype.mk
  dsimp only [opsOf, cAt, kids, B41, bodyOf, Try.f41, List.getD, List.getElem?_cons_zero, List.getElem?_cons_succ, Option.getD_some]
@[simp] theorem n41_17 (s : List V) (H : Heap) : evCode P Γ call n f m (cAt [1, 0, 1, 0, 0, 1, 1, 0, 0, 0] B41) s H = regNext (evOpsGo P Γ call r41_17.1 r41_17.1 s H) := at_region (by kernel_rfl) r41_17.2 s H
attribute [simp] r41_17
@[simp] theorem n41_18 (s : List V) (H : Heap) : evCode P Γ call n f m (cAt [1, 0, 1, 0, 0, 1, 1, 0, 0, 1] B41) s H = seqNext P Γ call n f m (cAt [1, 0, 1, 0, 0, 1, 1, 0, 0, 1, 1] B41) (evCode P Γ call n f m (cAt [1, 0, 1, 0, 0, 1, 1, 0, 0, 1, 0] B41) s H) := at_seq (by kernel_rfl) rfl rfl s H
noncomputable def r41_19 : {l : List Oper // opsOf (cAt [1, 0, 1, 0, 0, 1, 1, 0, 0, 1, 0] B41) = l} := by
  apply Subtype.mk
  dsimp only [opsOf, cAt, kids, B41, bodyOf, Try.f41, List.getD, List.getElem?_cons_zero, List.getElem?_cons_succ, Option.getD_some]
@[simp] theorem n41_19 (s : List V) (H : Heap) : evCode P Γ call n f m (cAt [1, 0, 1, 0, 0, 1, 1, 0, 0, 1, 0] B41) s H = regNext (drawR P Γ call r41_19.1 [([1, 2, 3, 4], [12, 13, 14, 15]), ([0, 2], [11, 13]), ([0, 1], [11, 12]), ([0], [11]), ([0], [11]), ([], [])] s H) := at_drawT (by kernel_rfl) r41_19.2 (by kernel_rfl) s H
attribute [simp] r41_19
@[simp] theorem n41_20 (s : List V) (H : Heap) : evCode P Γ call n f m (cAt [1, 0, 1, 0, 0, 1, 1, 0, 0, 1, 1] B41) s H = condW P Γ call n f m (cAt [1, 0, 1, 0, 0, 1, 1, 0, 0, 1, 1, 0] B41) (cAt [1, 0, 1, 0, 0, 1, 1, 0, 0, 1, 1, 1] B41) s H (evOperand Γ s (.tmp 16)) := at_cond (by kernel_rfl) (by kernel_rfl) rfl rfl s H
@[simp] theorem n41_21 (s : List V) (H : Heap) : evCode P Γ call n f m (cAt [1, 0, 1, 0, 0, 1, 1, 0, 0, 1, 1, 0] B41) s H = seqNext P Γ call n f m (cAt [1, 0, 1, 0, 0, 1, 1, 0, 0, 1, 1, 0, 1] B41) (evCode P Γ call n f m (cAt [1, 0, 1, 0, 0, 1, 1, 0, 0, 1, 1, 0, 0] B41) s H) := at_seq (by kernel_rfl) rfl rfl s H
noncomputable def r41_22 : {l : List Oper // opsOf (cAt [1, 0, 1, 0, 0, 1, 1, 0, 0, 1, 1, 0, 0] B41) = l} := by
  apply Subtype.mk
  dsimp only [opsOf, cAt, kids, B41, bodyOf, Try.f41, List.getD, List.getElem?_cons_zero, List.getElem?_cons_succ, Option.getD_some]
@[simp] theorem n41_22 (s : List V) (H : Heap) : evCode P Γ call n f m (cAt [1, 0, 1, 0, 0, 1, 1, 0, 0, 1, 1, 0, 0] B41) s H = regNext (evOpsGo P Γ call r41_22.1 r41_22.1 s H) := at_region (by kernel_rfl) r41_22.2 s H
attribute [simp] r41_22
@[simp] theorem n41_23 (s : List V) (H : Heap) : evCode P Γ call n f m (cAt [1, 0, 1, 0, 0, 1, 1, 0, 0, 1, 1, 0, 1] B41) s H = some (.ret, s, H) := at_ret (by kernel_rfl) s H
@[simp] theorem n41_24 (s : List V) (H : Heap) : evCode P Γ call n f m (cAt [1, 0, 1, 0, 0, 1, 1, 0, 0, 1, 1, 1] B41) s H = some (.normal, s, H) := at_skip (by kernel_rfl) s H
noncomputable def r41_25 : {l : List Oper // opsOf (cAt [1, 0, 1, 0, 0, 1, 1, 1] B41) = l} := by
  apply Subtype.mk
  dsimp only [opsOf, cAt, kids, B41, bodyOf, Try.f41, List.getD, List.getElem?_cons_zero, List.getElem?_cons_succ, Option.getD_some]
@[simp] theorem n41_25 (s : List V) (H : Heap) : evCode P Γ call n f m (cAt [1, 0, 1, 0, 0, 1, 1, 1] B41) s H = regNext (evOpsGo P Γ call r41_25.1 r41_25.1 s H) := at_region (by kernel_rfl) r41_25.2 s H
attribute [simp] r41_25
@[simp] theorem n41_26 (s : List V) (H : Heap) : evCode P Γ call n f m (cAt [1, 1] B41) s H = seqNext P Γ call n f m (cAt [1, 1, 1] B41) (evCode P Γ call n f m (cAt [1, 1, 0] B41) s H) := at_seq (by kernel_rfl) rfl rfl s H
noncomputable def r41_27 : {l : List Oper // opsOf (cAt [1, 1, 0] B41) = l} := by
  apply Subtype.mk
  dsimp only [opsOf, cAt, kids, B41, bodyOf, Try.f41, List.getD, List.getElem?_cons_zero, List.getElem?_cons_succ, Option.getD_some]
@[simp] theorem n41_27 (s : List V) (H : Heap) : evCode P Γ call n f m (cAt [1, 1, 0] B41) s H = regNext (evOpsGo P Γ call r41_27.1 r41_27.1 s H) := at_region (by kernel_rfl) r41_27.2 s H
attribute [simp] r41_27
@[simp] theorem n41_28 (s : List V) (H : Heap) : evCode P Γ call n f m (cAt [1, 1, 1] B41) s H = some (.ret, s, H) := at_ret (by kernel_rfl) s H
theorem b41 {k : Nat} (ho : ∀ args H, Γ.orc 41 args H = none) (args : List V) (H : Heap) (ha : args.length ≤ 19) : evF Try.prog Γ (k + 1) 41 args H = bodyEnd Try.prog [.tmp 4] H.length (evCode Try.prog Γ (evF Try.prog Γ k) k 41 H.length (cAt [] B41) (mkL 19 V.undef (enumV 0 args)) H) := body_at Try.func41 (by decide) rfl ho rfl rfl args H ha
end
end Go.Ev.Try
