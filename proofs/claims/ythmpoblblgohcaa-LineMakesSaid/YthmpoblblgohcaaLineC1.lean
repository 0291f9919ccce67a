/-
  CODE BY NAMES, printed by wip/tools/codes.py (own work).
-/
import Derived.Test.YthmpoblblgohcaaLineG
set_option maxRecDepth 100000
set_option linter.unusedVariables false
namespace Go.Ev.Try
open Go Go.Ev Go.Proofs
section
variable {P : Program} {Γ : Env} {call : CallF} {n f m : Nat}

noncomputable def B4 : Code := bodyOf Try.f4
@[simp] theorem n4_1 (s : List V) (H : Heap) : evCode P Γ call n f m (cAt [] B4) s H = seqNext P Γ call n f m (cAt [1] B4) (evCode P Γ call n f m (cAt [0] B4) s H) := at_seq (by kernel_rfl) rfl rfl s H
noncomputable def r4_2 : {l : List Oper // opsOf (cAt [0] B4) = l} := by
  apply Subtype.mk
  dsimp only [opsOf, cAt, kids, B4, bodyOf, Try.f4, List.getD, List.getElem?_cons_zero, List.getElem?_cons_succ, Option.getD_some]
@[simp] theorem n4_2 (s : List V) (H : Heap) : evCode P Γ call n f m (cAt [0] B4) s H = regNext (evOpsGo P Γ call r4_2.1 r4_2.1 s H) := at_region (by kernel_rfl) r4_2.2 s H
attribute [simp] r4_2
@[simp] theorem n4_3 (s : List V) (H : Heap) : evCode P Γ call n f m (cAt [1] B4) s H = seqNext P Γ call n f m (cAt [1, 1] B4) (evCode P Γ call n f m (cAt [1, 0] B4) s H) := at_seq (by kernel_rfl) rfl rfl s H
noncomputable def r4_4 : {l : List Oper // opsOf (cAt [1, 0] B4) = l} := by
  apply Subtype.mk
  dsimp only [opsOf, cAt, kids, B4, bodyOf, Try.f4, List.getD, List.getElem?_cons_zero, List.getElem?_cons_succ, Option.getD_some]
@[simp] theorem n4_4 (s : List V) (H : Heap) : evCode P Γ call n f m (cAt [1, 0] B4) s H = regNext (evOpsGo P Γ call r4_4.1 r4_4.1 s H) := at_region (by kernel_rfl) r4_4.2 s H
attribute [simp] r4_4
@[simp] theorem n4_5 (s : List V) (H : Heap) : evCode P Γ call n f m (cAt [1, 1] B4) s H = seqNext P Γ call n f m (cAt [1, 1, 1] B4) (evCode P Γ call n f m (cAt [1, 1, 0] B4) s H) := at_seq (by kernel_rfl) rfl rfl s H
noncomputable def r4_6 : {l : List Oper // opsOf (cAt [1, 1, 0] B4) = l} := by
  apply Subtype.mk
  dsimp only [opsOf, cAt, kids, B4, bodyOf, Try.f4, List.getD, List.getElem?_cons_zero, List.getElem?_cons_succ, Option.getD_some]
@[simp] theorem n4_6 (s : List V) (H : Heap) : evCode P Γ call n f m (cAt [1, 1, 0] B4) s H = regNext (evOpsGo P Γ call r4_6.1 r4_6.1 s H) := at_region (by kernel_rfl) r4_6.2 s H
attribute [simp] r4_6
@[simp] theorem n4_7 (s : List V) (H : Heap) : evCode P Γ call n f m (cAt [1, 1, 1] B4) s H = seqNext P Γ call n f m (cAt [1, 1, 1, 1] B4) (evCode P Γ call n f m (cAt [1, 1, 1, 0] B4) s H) := at_seq (by kernel_rfl) rfl rfl s H
noncomputable def r4_8 : {l : List Oper // opsOf (cAt [1, 1, 1, 0] B4) = l} := by
  apply Subtype.mk
  dsimp only [opsOf, cAt, kids, B4, bodyOf, Try.f4, List.getD, List.getElem?_cons_zero, List.getElem?_cons_succ, Option.getD_some]
@[simp] theorem n4_8 (s : List V) (H : Heap) : evCode P Γ call n f m (cAt [1, 1, 1, 0] B4) s H = regNext (evOpsGo P Γ call r4_8.1 r4_8.1 s H) := at_region (by kernel_rfl) r4_8.2 s H
attribute [simp] r4_8
@[simp] theorem n4_9 (s : List V) (H : Heap) : evCode P Γ call n f m (cAt [1, 1, 1, 1] B4) s H = seqNext P Γ call n f m (cAt [1, 1, 1, 1, 1] B4) (evCode P Γ call n f m (cAt [1, 1, 1, 1, 0] B4) s H) := at_seq (by kernel_rfl) rfl rfl s H
noncomputable def r4_10 : {l : List Oper // opsOf (cAt [1, 1, 1, 1, 0] B4) = l} := by
  apply Subtype.mk
  dsimp only [opsOf, cAt, kids, B4, bodyOf, Try.f4, List.getD, List.getElem?_cons_zero, List.getElem?_cons_succ, Option.getD_some]
@[simp] theorem n4_10 (s : List V) (H : Heap) : evCode P Γ call n f m (cAt [1, 1, 1, 1, 0] B4) s H = regNext (evOpsGo P Γ call r4_10.1 r4_10.1 s H) := at_region (by kernel_rfl) r4_10.2 s H
attribute [simp] r4_10
@[simp] theorem n4_11 (s : List V) (H : Heap) : evCode P Γ call n f m (cAt [1, 1, 1, 1, 1] B4) s H = seqNext P Γ call n f m (cAt [1, 1, 1, 1, 1, 1] B4) (evCode P Γ call n f m (cAt [1, 1, 1, 1, 1, 0] B4) s H) := at_seq (by kernel_rfl) rfl rfl s H
noncomputable def r4_12 : {l : List Oper // opsOf (cAt [1, 1, 1, 1, 1, 0] B4) = l} := by
  apply Subtype.mk
  dsimp only [opsOf, cAt, kids, B4, bodyOf, Try.f4, List.getD, List.getElem?_cons_zero, List.getElem?_cons_succ, Option.getD_some]
@[simp] theorem n4_12 (s : List V) (H : Heap) : evCode P Γ call n f m (cAt [1, 1, 1, 1, 1, 0] B4) s H = regNext (evOpsGo P Γ call r4_12.1 r4_12.1 s H) := at_region (by kernel_rfl) r4_12.2 s H
attribute [simp] r4_12
@[simp] theorem n4_13 (s : List V) (H : Heap) : evCode P Γ call n f m (cAt [1, 1, 1, 1, 1, 1] B4) s H = seqNext P Γ call n f m (cAt [1, 1, 1, 1, 1, 1, 1] B4) (evCode P Γ call n f m (cAt [1, 1, 1, 1, 1, 1, 0] B4) s H) := at_seq (by kernel_rfl) rfl rfl s H
noncomputable def r4_14 : {l : List Oper // opsOf (cAt [1, 1, 1, 1, 1, 1, 0] B4) = l} := by
  apply Subtype.mk
  dsimp only [opsOf, cAt, kids, B4, bodyOf, Try.f4, List.getD, List.getElem?_cons_zero, List.getElem?_cons_succ, Option.getD_some]
@[simp] theorem n4_14 (s : List V) (H : Heap) : evCode P Γ call n f m (cAt [1, 1, 1, 1, 1, 1, 0] B4) s H = regNext (evOpsGo P Γ call r4_14.1 r4_14.1 s H) := at_region (by kernel_rfl) r4_14.2 s H
attribute [simp] r4_14
@[simp] theorem n4_15 (s : List V) (H : Heap) : evCode P Γ call n f m (cAt [1, 1, 1, 1, 1, 1, 1] B4) s H = seqNext P Γ call n f m (cAt [1, 1, 1, 1, 1, 1, 1, 1] B4) (evCode P Γ call n f m (cAt [1, 1, 1, 1, 1, 1, 1, 0] B4) s H) := at_seq (by kernel_rfl) rfl rfl s H
noncomputable def r4_16 : {l : List Oper // opsOf (cAt [1, 1, 1, 1, 1, 1, 1, 0] B4) = l} := by
  apply Subtype.mk
  dsimp only [opsOf, cAt, kids, B4, bodyOf, Try.f4, List.getD, List.getElem?_cons_zero, List.getElem?_cons_succ, Option.getD_some]
@[simp] theorem n4_16 (s : List V) (H : Heap) : evCode P Γ call n f m (cAt [1, 1, 1, 1, 1, 1, 1, 0] B4) s H = regNext (drawR P Γ call r4_16.1 [([1, 3, 4, 5, 6], [51, 53, 54, 55, 56]), ([0, 3, 4, 5, 6], [50, 53, 54, 55, 56]), ([3, 4, 5, 6], [53, 54, 55, 56]), ([0, 1, 2, 4, 6], [50, 51, 52, 54, 56]), ([0, 1, 2, 3, 6], [50, 51, 52, 53, 56]), ([0, 1, 2, 6], [50, 51, 52, 56]), ([0, 1, 2, 3, 4, 5], [50, 51, 52, 53, 54, 55]), ([], []), ([], []), ([], []), ([11], [60]), ([10, 12], [59, 15]), ([11], [60]), ([], [])] s H) := at_drawT (by kernel_rfl) r4_16.2 (by kernel_rfl) s H
attribute [simp] r4_16
@[simp] theorem n4_17 (s : List V) (H : Heap) : evCode P Γ call n f m (cAt [1, 1, 1, 1, 1, 1, 1, 1] B4) s H = seqNext P Γ call n f m (cAt [1, 1, 1, 1, 1, 1, 1, 1, 1] B4) (evCode P Γ call n f m (cAt [1, 1, 1, 1, 1, 1, 1, 1, 0] B4) s H) := at_seq (by kernel_rfl) rfl rfl s H
@[simp] theorem n4_18 (s : List V) (H : Heap) : evCode P Γ call n f m (cAt [1, 1, 1, 1, 1, 1, 1, 1, 0] B4) s H = seqNext P Γ call n f m (cAt [1, 1, 1, 1, 1, 1, 1, 1, 0, 1] B4) (evCode P Γ call n f m (cAt [1, 1, 1, 1, 1, 1, 1, 1, 0, 0] B4) s H) := at_seq (by kernel_rfl) rfl rfl s H
noncomputable def r4_19 : {l : List Oper // opsOf (cAt [1, 1, 1, 1, 1, 1, 1, 1, 0, 0] B4) = l} := by
  apply Subtype.mk
  dsimp only [opsOf, cAt, kids, B4, bodyOf, Try.f4, List.getD, List.getElem?_cons_zero, List.getElem?_cons_succ, Option.getD_some]
@[simp] theorem n4_19 (s : List V) (H : Heap) : evCode P Γ call n f m (cAt [1, 1, 1, 1, 1, 1, 1, 1, 0, 0] B4) s H = regNext (evOpsGo P Γ call r4_19.1 r4_19.1 s H) := at_region (by kernel_rfl) r4_19.2 s H
attribute [simp] r4_19
@[simp] theorem n4_20 (s : List V) (H : Heap) : evCode P Γ call n f m (cAt [1, 1, 1, 1, 1, 1, 1, 1, 0, 1] B4) s H = condW P Γ call n f m (cAt [1, 1, 1, 1, 1, 1, 1, 1, 0, 1, 0] B4) (cAt [1, 1, 1, 1, 1, 1, 1, 1, 0, 1, 1] B4) s H (evOperand Γ s (.tmp 78)) := at_cond (by kernel_rfl) (by kernel_rfl) rfl rfl s H
@[simp] theorem n4_21 (s : List V) (H : Heap) : evCode P Γ call n f m (cAt [1, 1, 1, 1, 1, 1, 1, 1, 0, 1, 0] B4) s H = seqNext P Γ call n f m (cAt [1, 1, 1, 1, 1, 1, 1, 1, 0, 1, 0, 1] B4) (evCode P Γ call n f m (cAt [1, 1, 1, 1, 1, 1, 1, 1, 0, 1, 0, 0] B4) s H) := at_seq (by kernel_rfl) rfl rfl s H
noncomputable def r4_22 : {l : List Oper // opsOf (cAt [1, 1, 1, 1, 1, 1, 1, 1, 0, 1, 0, 0] B4) = l} := by
  apply Subtype.mk
  dsimp only [opsOf, cAt, kids, B4, bodyOf, Try.f4, List.getD, List.getElem?_cons_zero, List.getElem?_cons_succ, Option.getD_some]
@[simp] theorem n4_22 (s : List V) (H : Heap) : evCode P Γ call n f m (cAt [1, 1, 1, 1, 1, 1, 1, 1, 0, 1, 0, 0] B4) s H = regNext (evOpsGo P Γ call r4_22.1 r4_22.1 s H) := at_region (by kernel_rfl) r4_22.2 s H
attribute [simp] r4_22
@[simp] theorem n4_23 (s : List V) (H : Heap) : evCode P Γ call n f m (cAt [1, 1, 1, 1, 1, 1, 1, 1, 0, 1, 0, 1] B4) s H = some (.ret, s, H) := at_ret (by kernel_rfl) s H
@[simp] theorem n4_24 (s : List V) (H : Heap) : evCode P Γ call n f m (cAt [1, 1, 1, 1, 1, 1, 1, 1, 0, 1, 1] B4) s H = some (.normal, s, H) := at_skip (by kernel_rfl) s H
@[simp] theorem n4_25 (s : List V) (H : Heap) : evCode P Γ call n f m (cAt [1, 1, 1, 1, 1, 1, 1, 1, 1] B4) s H = seqNext P Γ call n f m (cAt [1, 1, 1, 1, 1, 1, 1, 1, 1, 1] B4) (evCode P Γ call n f m (cAt [1, 1, 1, 1, 1, 1, 1, 1, 1, 0] B4) s H) := at_seq (by kernel_rfl) rfl rfl s H
noncomputable def r4_26 : {l : List Oper // opsOf (cAt [1, 1, 1, 1, 1, 1, 1, 1, 1, 0] B4) = l} := by
  apply Subtype.mk
  dsimp only [opsOf, cAt, kids, B4, bodyOf, Try.f4, List.getD, List.getElem?_cons_zero, List.getElem?_cons_succ, Option.getD_some]
@[simp] theorem n4_26 (s : List V) (H : Heap) : evCode P Γ call n f m (cAt [1, 1, 1, 1, 1, 1, 1, 1, 1, 0] B4) s H = regNext (evOpsGo P Γ call r4_26.1 r4_26.1 s H) := at_region (by kernel_rfl) r4_26.2 s H
attribute [simp] r4_26
@[simp] theorem n4_27 (s : List V) (H : Heap) : evCode P Γ call n f m (cAt [1, 1, 1, 1, 1, 1, 1, 1, 1, 1] B4) s H = some (.ret, s, H) := at_ret (by kernel_rfl) s H
theorem b4 {k : Nat} (ho : ∀ args H, Γ.orc 4 args H = none) (args : List V) (H : Heap) (ha : args.length ≤ 88) : evF Try.prog Γ (k + 1) 4 args H = bodyEnd Try.prog [.tmp 6] H.length (evCode Try.prog Γ (evF Try.prog Γ k) k 4 H.length (cAt [] B4) (mkL 88 V.undef (enumV 0 args)) H) := body_at Try.func4 (by decide) rfl ho rfl rfl args H ha
noncomputable def B16 : Code := bodyOf Try.f16
@[simp] theorem n16_1 (s : List V) (H : Heap) : evCode P Γ call n f m (cAt [] B16) s H = seqNext P Γ call n f m (cAt [1] B16) (evCode P Γ call n f m (cAt [0] B16) s H) := at_seq (by kernel_rfl) rfl rfl s H
noncomputable def r16_2 : {l : List Oper // opsOf (cAt [0] B16) = l} := by
  apply Subtype.mk
  dsimp only [opsOf, cAt, kids, B16, bodyOf, Try.f16, List.getD, List.getElem?_cons_zero, List.getElem?_cons_succ, Option.getD_some]
@[simp] theorem n16_2 (s : List V) (H : Heap) : evCode P Γ call n f m (cAt [0] B16) s H = regNext (evOpsGo P Γ call r16_2.1 r16_2.1 s H) := at_region (by kernel_rfl) r16_2.2 s H
attribute [simp] r16_2
@[simp] theorem n16_3 (s : List V) (H : Heap) : evCode P Γ call n f m (cAt [1] B16) s H = seqNext P Γ call n f m (cAt [1, 1] B16) (evCode P Γ call n f m (cAt [1, 0] B16) s H) := at_seq (by kernel_rfl) rfl rfl s H
noncomputable def r16_4 : {l : List Oper // opsOf (cAt [1, 0] B16) = l} := by
  apply Subtype.mk
  dsimp only [opsOf, cAt, kids, B16, bodyOf, Try.f16, List.getD, List.getElem?_cons_zero, List.getElem?_cons_succ, Option.getD_some]
@[simp] theorem n16_4 (s : List V) (H : Heap) : evCode P Γ call n f m (cAt [1, 0] B16) s H = regNext (evOpsGo P Γ call r16_4.1 r16_4.1 s H) := at_region (by kernel_rfl) r16_4.2 s H
attribute [simp] r16_4
@[simp] theorem n16_5 (s : List V) (H : Heap) : evCode P Γ call n f m (cAt [1, 1] B16) s H = seqNext P Γ call n f m (cAt [1, 1, 1] B16) (evCode P Γ call n f m (cAt [1, 1, 0] B16) s H) := at_seq (by kernel_rfl) rfl rfl s H
@[simp] theorem n16_6 (s : List V) (H : Heap) : evCode P Γ call n f m (cAt [1, 1, 0] B16) s H = seqNext P Γ call n f m (cAt [1, 1, 0, 1] B16) (evCode P Γ call n f m (cAt [1, 1, 0, 0] B16) s H) := at_seq (by kernel_rfl) rfl rfl s H
noncomputable def r16_7 : {l : List Oper // opsOf (cAt [1, 1, 0, 0] B16) = l} := by
  apply Subtype.mk
  dsimp only [opsOf, cAt, kids, B16, bodyOf, Try.f16, List.getD, List.getElem?_cons_zero, List.getElem?_cons_succ, Option.getD_some]
@[simp] theorem n16_7 (s : List V) (H : Heap) : evCode P Γ call n f m (cAt [1, 1, 0, 0] B16) s H = regNext (evOpsGo P Γ call r16_7.1 r16_7.1 s H) := at_region (by kernel_rfl) r16_7.2 s H
attribute [simp] r16_7
@[simp] theorem n16_8 (s : List V) (H : Heap) : evCode P Γ call n f m (cAt [1, 1, 0, 1] B16) s H = blockNext 0 (evCode P Γ call n f m (cAt [1, 1, 0, 1, 0] B16) s H) := at_block (by kernel_rfl) rfl s H
@[simp] theorem n16_9 (s : List V) (H : Heap) : evCode P Γ call n f m (cAt [1, 1, 0, 1, 0] B16) s H = evLoopC P Γ call n f m (cAt [1, 1, 0, 1, 0, 0] B16) n s H := at_loop (by kernel_rfl) rfl s H
noncomputable abbrev L16_3 : Code := cAt [1, 1, 0, 1, 0, 0] B16
@[simp] theorem n16_9f : firstRegion (cAt [1, 1, 0, 1, 0, 0] B16) = 3 := by kernel_rfl
@[simp] theorem n16_10 (s : List V) (H : Heap) : evCode P Γ call n f m (cAt [1, 1, 0, 1, 0, 0] B16) s H = seqNext P Γ call n f m (cAt [1, 1, 0, 1, 0, 0, 1] B16) (evCode P Γ call n f m (cAt [1, 1, 0, 1, 0, 0, 0] B16) s H) := at_seq (by kernel_rfl) rfl rfl s H
noncomputable def r16_11 : {l : List Oper // opsOf (cAt [1, 1, 0, 1, 0, 0, 0] B16) = l} := by
  apply Subtype.mk
  dsimp only [opsOf, cAt, kids, B16, bodyOf, Try.f16, List.getD, List.getElem?_cons_zero, List.getElem?_cons_succ, Option.getD_some]
@[simp] theorem n16_11 (s : List V) (H : Heap) : evCode P Γ call n f m (cAt [1, 1, 0, 1, 0, 0, 0] B16) s H = regNext (evOpsGo P Γ call r16_11.1 r16_11.1 s H) := at_region (by kernel_rfl) r16_11.2 s H
attribute [simp] r16_11
@[simp] theorem n16_12 (s : List V) (H : Heap) : evCode P Γ call n f m (cAt [1, 1, 0, 1, 0, 0, 1] B16) s H = seqNext P Γ call n f m (cAt [1, 1, 0, 1, 0, 0, 1, 1] B16) (evCode P Γ call n f m (cAt [1, 1, 0, 1, 0, 0, 1, 0] B16) s H) := at_seq (by kernel_rfl) rfl rfl s H
@[simp] theorem n16_13 (s : List V) (H : Heap) : evCode P Γ call n f m (cAt [1, 1, 0, 1, 0, 0, 1, 0] B16) s H = condW P Γ call n f m (cAt [1, 1, 0, 1, 0, 0, 1, 0, 0] B16) (cAt [1, 1, 0, 1, 0, 0, 1, 0, 1] B16) s H (evOperand Γ s (.tmp 11)) := at_cond (by kernel_rfl) (by kernel_rfl) rfl rfl s H
@[simp] theorem n16_14 (s : List V) (H : Heap) : evCode P Γ call n f m (cAt [1, 1, 0, 1, 0, 0, 1, 0, 0] B16) s H = some (.normal, s, H) := at_skip (by kernel_rfl) s H
@[simp] theorem n16_15 (s : List V) (H : Heap) : evCode P Γ call n f m (cAt [1, 1, 0, 1, 0, 0, 1, 0, 1] B16) s H = some (.exit 0, s, H) := at_exit (by kernel_rfl) s H
@[simp] theorem n16_16 (s : List V) (H : Heap) : evCode P Γ call n f m (cAt [1, 1, 0, 1, 0, 0, 1, 1] B16) s H = seqNext P Γ call n f m (cAt [1, 1, 0, 1, 0, 0, 1, 1, 1] B16) (evCode P Γ call n f m (cAt [1, 1, 0, 1, 0, 0, 1, 1, 0] B16) s H) := at_seq (by kernel_rfl) rfl rfl s H
@[simp] theorem n16_17 (s : List V) (H : Heap) : evCode P Γ call n f m (cAt [1, 1, 0, 1, 0, 0, 1, 1, 0] B16) s H = blockNext 1 (evCode P Γ call n f m (cAt [1, 1, 0, 1, 0, 0, 1, 1, 0, 0] B16) s H) := at_block (by kernel_rfl) rfl s H
@[simp] theorem n16_18 (s : List V) (H : Heap) : evCode P Γ call n f m (cAt [1, 1, 0, 1, 0, 0, 1, 1, 0, 0] B16) s H = seqNext P Γ call n f m (cAt [1, 1, 0, 1, 0, 0, 1, 1, 0, 0, 1] B16) (evCode P Γ call n f m (cAt [1, 1, 0, 1, 0, 0, 1, 1, 0, 0, 0] B16) s H) := at_seq (by kernel_rfl) rfl rfl s H
noncomputable def r16_19 : {l : List Oper // opsOf (cAt [1, 1, 0, 1, 0, 0, 1, 1, 0, 0, 0] B16) = l} := by
  apply Subtype.mk
  dsimp only [opsOf, cAt, kids, B16, bodyOf, Try.f16, List.getD, List.getElem?_cons_zero, List.getElem?_cons_succ, Option.getD_some]
@[simp] theorem n16_19 (s : List V) (H : Heap) : evCode P Γ call n f m (cAt [1, 1, 0, 1, 0, 0, 1, 1, 0, 0, 0] B16) s H = regNext (evOpsGo P Γ call r16_19.1 r16_19.1 s H) := at_region (by kernel_rfl) r16_19.2 s H
attribute [simp] r16_19
@[simp] theorem n16_20 (s : List V) (H : Heap) : evCode P Γ call n f m (cAt [1, 1, 0, 1, 0, 0, 1, 1, 0, 0, 1] B16) s H = seqNext P Γ call n f m (cAt [1, 1, 0, 1, 0, 0, 1, 1, 0, 0, 1, 1] B16) (evCode P Γ call n f m (cAt [1, 1, 0, 1, 0, 0, 1, 1, 0, 0, 1, 0] B16) s H) := at_seq (by kernel_rfl) rfl rfl s H
@[simp] theorem n16_21 (s : List V) (H : Heap) : evCode P Γ call n f m (cAt [1, 1, 0, 1, 0, 0, 1, 1, 0, 0, 1, 0] B16) s H = seqNext P Γ call n f m (cAt [1, 1, 0, 1, 0, 0, 1, 1, 0, 0, 1, 0, 1] B16) (evCode P Γ call n f m (cAt [1, 1, 0, 1, 0, 0, 1, 1, 0, 0, 1, 0, 0] B16) s H) := at_seq (by kernel_rfl) rfl rfl s H
noncomputable def r16_22 : {l : List Oper // opsOf (cAt [1, 1, 0, 1, 0, 0, 1, 1, 0, 0, 1, 0, 0] B16) = l} := by
  apply Subtype.mk
  dsimp only [opsOf, cAt, kids, B16, bodyOf, Try.f16, List.getD, List.getElem?_cons_zero, List.getElem?_cons_succ, Option.getD_some]
@[simp] theorem n16_22 (s : List V) (H : Heap) : evCode P Γ call n f m (cAt [1, 1, 0, 1, 0, 0, 1, 1, 0, 0, 1, 0, 0] B16) s H = regNext (evOpsGo P Γ call r16_22.1 r16_22.1 s H) := at_region (by kernel_rfl) r16_22.2 s H
attribute [simp] r16_22
@[simp] theorem n16_23 (s : List V) (H : Heap) : evCode P Γ call n f m (cAt [1, 1, 0, 1, 0, 0, 1, 1, 0, 0, 1, 0, 1] B16) s H = seqNext P Γ call n f m (cAt [1, 1, 0, 1, 0, 0, 1, 1, 0, 0, 1, 0, 1, 1] B16) (evCode P Γ call n f m (cAt [1, 1, 0, 1, 0, 0, 1, 1, 0, 0, 1, 0, 1, 0] B16) s H) := at_seq (by kernel_rfl) rfl rfl s H
noncomputable def r16_24 : {l : List Oper // opsOf (cAt [1, 1, 0, 1, 0, 0, 1, 1, 0, 0, 1, 0, 1, 0] B16) = l} := by
  apply Subtype.mk
  dsimp only [opsOf, cAt, kids, B16, bodyOf, Try.f16, List.getD, List.getElem?_cons_zero, List.getElem?_cons_succ, Option.getD_some]
@[simp] theorem n16_24 (s : List V) (H : Heap) : evCode P Γ call n f m (cAt [1, 1, 0, 1, 0, 0, 1, 1, 0, 0, 1, 0, 1, 0] B16) s H = regNext (evOpsGo P Γ call r16_24.1 r16_24.1 s H) := at_region (by kernel_rfl) r16_24.2 s H
attribute [simp] r16_24
@[simp] theorem n16_25 (s : List V) (H : Heap) : evCode P Γ call n f m (cAt [1, 1, 0, 1, 0, 0, 1, 1, 0, 0, 1, 0, 1, 1] B16) s H = condW P Γ call n f m (cAt [1, 1, 0, 1, 0, 0, 1, 1, 0, 0, 1, 0, 1, 1, 0] B16) (cAt [1, 1, 0, 1, 0, 0, 1, 1, 0, 0, 1, 0, 1, 1, 1] B16) s H (evOperand Γ s (.tmp 17)) := at_cond (by kernel_rfl) (by kernel_rfl) rfl rfl s H
@[simp] theorem n16_26 (s : List V) (H : Heap) : evCode P Γ call n f m (cAt [1, 1, 0, 1, 0, 0, 1, 1, 0, 0, 1, 0, 1, 1, 0] B16) s H = seqNext P Γ call n f m (cAt [1, 1, 0, 1, 0, 0, 1, 1, 0, 0, 1, 0, 1, 1, 0, 1] B16) (evCode P Γ call n f m (cAt [1, 1, 0, 1, 0, 0, 1, 1, 0, 0, 1, 0, 1, 1, 0, 0] B16) s H) := at_seq (by kernel_rfl) rfl rfl s H
noncomputable def r16_27 : {l : List Oper // opsOf (cAt [1, 1, 0, 1, 0, 0, 1, 1, 0, 0, 1, 0, 1, 1, 0, 0] B16) = l} := by
  apply Subtype.mk
  dsimp only [opsOf, cAt, kids, B16, bodyOf, Try.f16, List.getD, List.getElem?_cons_zero, List.getElem?_cons_succ, Option.getD_some]
@[simp] theorem n16_27 (s : List V) (H : Heap) : evCode P Γ call n f m (cAt [1, 1, 0, 1, 0, 0, 1, 1, 0, 0, 1, 0, 1, 1, 0, 0] B16) s H = regNext (evOpsGo P Γ call r16_27.1 r16_27.1 s H) := at_region (by kernel_rfl) r16_27.2 s H
attribute [simp] r16_27
@[simp] theorem n16_28 (s : List V) (H : Heap) : evCode P Γ call n f m (cAt [1, 1, 0, 1, 0, 0, 1, 1, 0, 0, 1, 0, 1, 1, 0, 1] B16) s H = some (.ret, s, H) := at_ret (by kernel_rfl) s H
@[simp] theorem n16_29 (s : List V) (H : Heap) : evCode P Γ call n f m (cAt [1, 1, 0, 1, 0, 0, 1, 1, 0, 0, 1, 0, 1, 1, 1] B16) s H = some (.normal, s, H) := at_skip (by kernel_rfl) s H
@[simp] theorem n16_30 (s : List V) (H : Heap) : evCode P Γ call n f m (cAt [1, 1, 0, 1, 0, 0, 1, 1, 0, 0, 1, 1] B16) s H = seqNext P Γ call n f m (cAt [1, 1, 0, 1, 0, 0, 1, 1, 0, 0, 1, 1, 1] B16) (evCode P Γ call n f m (cAt [1, 1, 0, 1, 0, 0, 1, 1, 0, 0, 1, 1, 0] B16) s H) := at_seq (by kernel_rfl) rfl rfl s H
noncomputable def r16_31 : {l : List Oper // opsOf (cAt [1, 1, 0, 1, 0, 0, 1, 1, 0, 0, 1, 1, 0] B16) = l} := by
  apply Subtype.mk
  dsimp only [opsOf, cAt, kids, B16, bodyOf, Try.f16, List.getD, List.getElem?_cons_zero, List.getElem?_cons_succ, Option.getD_some]
@[simp] theorem n16_31 (s : List V) (H : Heap) : evCode P Γ call n f m (cAt [1, 1, 0, 1, 0, 0, 1, 1, 0, 0, 1, 1, 0] B16) s H = regNext (evOpsGo P Γ call r16_31.1 r16_31.1 s H) := at_region (by kernel_rfl) r16_31.2 s H
attribute [simp] r16_31
@[simp] theorem n16_32 (s : List V) (H : Heap) : evCode P Γ call n f m (cAt [1, 1, 0, 1, 0, 0, 1, 1, 0, 0, 1, 1, 1] B16) s H = seqNext P Γ call n f m (cAt [1, 1, 0, 1, 0, 0, 1, 1, 0, 0, 1, 1, 1, 1] B16) (evCode P Γ call n f m (cAt [1, 1, 0, 1, 0, 0, 1, 1, 0, 0, 1, 1, 1, 0] B16) s H) := at_seq (by kernel_rfl) rfl rfl s H
noncomputable def r16_33 : {l : List Oper // opsOf (cAt [1, 1, 0, 1, 0, 0, 1, 1, 0, 0, 1, 1, 1, 0] B16) = l} := by
  apply Subtype.mk
  dsimp only [opsOf, cAt, kids, B16, bodyOf, Try.f16, List.getD, List.getElem?_cons_zero, List.getElem?_cons_succ, Option.getD_some]
@[simp] theorem n16_33 (s : List V) (H : Heap) : evCode P Γ call n f m (cAt [1, 1, 0, 1, 0, 0, 1, 1, 0, 0, 1, 1, 1, 0] B16) s H = regNext (evOpsGo P Γ call r16_33.1 r16_33.1 s H) := at_region (by kernel_rfl) r16_33.2 s H
attribute [simp] r16_33
@[simp] theorem n16_34 (s : List V) (H : Heap) : evCode P Γ call n f m (cAt [1, 1, 0, 1, 0, 0, 1, 1, 0, 0, 1, 1, 1, 1] B16) s H = condW P Γ call n f m (cAt [1, 1, 0, 1, 0, 0, 1, 1, 0, 0, 1, 1, 1, 1, 0] B16) (cAt [1, 1, 0, 1, 0, 0, 1, 1, 0, 0, 1, 1, 1, 1, 1] B16) s H (evOperand Γ s (.tmp 27)) := at_cond (by kernel_rfl) (by kernel_rfl) rfl rfl s H
@[simp] theorem n16_35 (s : List V) (H : Heap) : evCode P Γ call n f m (cAt [1, 1, 0, 1, 0, 0, 1, 1, 0, 0, 1, 1, 1, 1, 0] B16) s H = seqNext P Γ call n f m (cAt [1, 1, 0, 1, 0, 0, 1, 1, 0, 0, 1, 1, 1, 1, 0, 1] B16) (evCode P Γ call n f m (cAt [1, 1, 0, 1, 0, 0, 1, 1, 0, 0, 1, 1, 1, 1, 0, 0] B16) s H) := at_seq (by kernel_rfl) rfl rfl s H
noncomputable def r16_36 : {l : List Oper // opsOf (cAt [1, 1, 0, 1, 0, 0, 1, 1, 0, 0, 1, 1, 1, 1, 0, 0] B16) = l} := by
  apply Subtype.mk
  dsimp only [opsOf, cAt, kids, B16, bodyOf, Try.f16, List.getD, List.getElem?_cons_zero, List.getElem?_cons_succ, Option.getD_some]
@[simp] theorem n16_36 (s : List V) (H : Heap) : evCode P Γ call n f m (cAt [1, 1, 0, 1, 0, 0, 1, 1, 0, 0, 1, 1, 1, 1, 0, 0] B16) s H = regNext (evOpsGo P Γ call r16_36.1 r16_36.1 s H) := at_region (by kernel_rfl) r16_36.2 s H
attribute [simp] r16_36
@[simp] theorem n16_37 (s : List V) (H : Heap) : evCode P Γ call n f m (cAt [1, 1, 0, 1, 0, 0, 1, 1, 0, 0, 1, 1, 1, 1, 0, 1] B16) s H = some (.ret, s, H) := at_ret (by kernel_rfl) s H
@[simp] theorem n16_38 (s : List V) (H : Heap) : evCode P Γ call n f m (cAt [1, 1, 0, 1, 0, 0, 1, 1, 0, 0, 1, 1, 1, 1, 1] B16) s H = some (.normal, s, H) := at_skip (by kernel_rfl) s H
noncomputable def r16_39 : {l : List Oper // opsOf (cAt [1, 1, 0, 1, 0, 0, 1, 1, 1] B16) = l} := by
  apply Subtype.mk
  dsimp only [opsOf, cAt, kids, B16, bodyOf, Try.f16, List.getD, List.getElem?_cons_zero, List.getElem?_cons_succ, Option.getD_some]
@[simp] theorem n16_39 (s : List V) (H : Heap) : evCode P Γ call n f m (cAt [1, 1, 0, 1, 0, 0, 1, 1, 1] B16) s H = regNext (evOpsGo P Γ call r16_39.1 r16_39.1 s H) := at_region (by kernel_rfl) r16_39.2 s H
attribute [simp] r16_39
@[simp] theorem n16_40 (s : List V) (H : Heap) : evCode P Γ call n f m (cAt [1, 1, 1] B16) s H = seqNext P Γ call n f m (cAt [1, 1, 1, 1] B16) (evCode P Γ call n f m (cAt [1, 1, 1, 0] B16) s H) := at_seq (by kernel_rfl) rfl rfl s H
noncomputable def r16_41 : {l : List Oper // opsOf (cAt [1, 1, 1, 0] B16) = l} := by
  apply Subtype.mk
  dsimp only [opsOf, cAt, kids, B16, bodyOf, Try.f16, List.getD, List.getElem?_cons_zero, List.getElem?_cons_succ, Option.getD_some]
@[simp] theorem n16_41 (s : List V) (H : Heap) : evCode P Γ call n f m (cAt [1, 1, 1, 0] B16) s H = regNext (evOpsGo P Γ call r16_41.1 r16_41.1 s H) := at_region (by kernel_rfl) r16_41.2 s H
attribute [simp] r16_41
@[simp] theorem n16_42 (s : List V) (H : Heap) : evCode P Γ call n f m (cAt [1, 1, 1, 1] B16) s H = some (.ret, s, H) := at_ret (by kernel_rfl) s H
theorem b16 {k : Nat} (ho : ∀ args H, Γ.orc 16 args H = none) (args : List V) (H : Heap) (ha : args.length ≤ 33) : evF Try.prog Γ (k + 1) 16 args H = bodyEnd Try.prog [.tmp 2, .tmp 3] H.length (evCode Try.prog Γ (evF Try.prog Γ k) k 16 H.length (cAt [] B16) (mkL 33 V.undef (enumV 0 args)) H) := body_at Try.func16 (by decide) rfl ho rfl rfl args H ha
noncomputable def B17 : Code := bodyOf Try.f17
@[simp] theorem n17_1 (s : List V) (H : Heap) : evCode P Γ call n f m (cAt [] B17) s H = seqNext P Γ call n f m (cAt [1] B17) (evCode P Γ call n f m (cAt [0] B17) s H) := at_seq (by kernel_rfl) rfl rfl s H
noncomputable def r17_2 : {l : List Oper // opsOf (cAt [0] B17) = l} := by
  apply Subtype.mk
  dsimp only [opsOf, cAt, kids, B17, bodyOf, Try.f17, List.getD, List.getElem?_cons_zero, List.getElem?_cons_succ, Option.getD_some]
@[simp] theorem n17_2 (s : List V) (H : Heap) : evCode P Γ call n f m (cAt [0] B17) s H = regNext (evOpsGo P Γ call r17_2.1 r17_2.1 s H) := at_region (by kernel_rfl) r17_2.2 s H
attribute [simp] r17_2
@[simp] theorem n17_3 (s : List V) (H : Heap) : evCode P Γ call n f m (cAt [1] B17) s H = seqNext P Γ call n f m (cAt [1, 1] B17) (evCode P Γ call n f m (cAt [1, 0] B17) s H) := at_seq (by kernel_rfl) rfl rfl s H
@[simp] theorem n17_4 (s : List V) (H : Heap) : evCode P Γ call n f m (cAt [1, 0] B17) s H = seqNext P Γ call n f m (cAt [1, 0, 1] B17) (evCode P Γ call n f m (cAt [1, 0, 0] B17) s H) := at_seq (by kernel_rfl) rfl rfl s H
noncomputable def r17_5 : {l : List Oper // opsOf (cAt [1, 0, 0] B17) = l} := by
  apply Subtype.mk
  dsimp only [opsOf, cAt, kids, B17, bodyOf, Try.f17, List.getD, List.getElem?_cons_zero, List.getElem?_cons_succ, Option.getD_some]
@[simp] theorem n17_5 (s : List V) (H : Heap) : evCode P Γ call n f m (cAt [1, 0, 0] B17) s H = regNext (evOpsGo P Γ call r17_5.1 r17_5.1 s H) := at_region (by kernel_rfl) r17_5.2 s H
attribute [simp] r17_5
@[simp] theorem n17_6 (s : List V) (H : Heap) : evCode P Γ call n f m (cAt [1, 0, 1] B17) s H = condW P Γ call n f m (cAt [1, 0, 1, 0] B17) (cAt [1, 0, 1, 1] B17) s H (evOperand Γ s (.tmp 10)) := at_cond (by kernel_rfl) (by kernel_rfl) rfl rfl s H
@[simp] theorem n17_7 (s : List V) (H : Heap) : evCode P Γ call n f m (cAt [1, 0, 1, 0] B17) s H = seqNext P Γ call n f m (cAt [1, 0, 1, 0, 1] B17) (evCode P Γ call n f m (cAt [1, 0, 1, 0, 0] B17) s H) := at_seq (by kernel_rfl) rfl rfl s H
noncomputable def r17_8 : {l : List Oper // opsOf (cAt [1, 0, 1, 0, 0] B17) = l} := by
  apply Subtype.mk
  dsimp only [opsOf, cAt, kids, B17, bodyOf, Try.f17, List.getD, List.getElem?_cons_zero, List.getElem?_cons_succ, Option.getD_some]
@[simp] theorem n17_8 (s : List V) (H : Heap) : evCode P Γ call n f m (cAt [1, 0, 1, 0, 0] B17) s H = regNext (evOpsGo P Γ call r17_8.1 r17_8.1 s H) := at_region (by kernel_rfl) r17_8.2 s H
attribute [simp] r17_8
@[simp] theorem n17_9 (s : List V) (H : Heap) : evCode P Γ call n f m (cAt [1, 0, 1, 0, 1] B17) s H = some (.ret, s, H) := at_ret (by kernel_rfl) s H
@[simp] theorem n17_10 (s : List V) (H : Heap) : evCode P Γ call n f m (cAt [1, 0, 1, 1] B17) s H = some (.normal, s, H) := at_skip (by kernel_rfl) s H
@[simp] theorem n17_11 (s : List V) (H : Heap) : evCode P Γ call n f m (cAt [1, 1] B17) s H = seqNext P Γ call n f m (cAt [1, 1, 1] B17) (evCode P Γ call n f m (cAt [1, 1, 0] B17) s H) := at_seq (by kernel_rfl) rfl rfl s H
@[simp] theorem n17_12 (s : List V) (H : Heap) : evCode P Γ call n f m (cAt [1, 1, 0] B17) s H = seqNext P Γ call n f m (cAt [1, 1, 0, 1] B17) (evCode P Γ call n f m (cAt [1, 1, 0, 0] B17) s H) := at_seq (by kernel_rfl) rfl rfl s H
noncomputable def r17_13 : {l : List Oper // opsOf (cAt [1, 1, 0, 0] B17) = l} := by
  apply Subtype.mk
  dsimp only [opsOf, cAt, kids, B17, bodyOf, Try.f17, List.getD, List.getElem?_cons_zero, List.getElem?_cons_succ, Option.getD_some]
@[simp] theorem n17_13 (s : List V) (H : Heap) : evCode P Γ call n f m (cAt [1, 1, 0, 0] B17) s H = regNext (evOpsGo P Γ call r17_13.1 r17_13.1 s H) := at_region (by kernel_rfl) r17_13.2 s H
attribute [simp] r17_13
@[simp] theorem n17_14 (s : List V) (H : Heap) : evCode P Γ call n f m (cAt [1, 1, 0, 1] B17) s H = blockNext 0 (evCode P Γ call n f m (cAt [1, 1, 0, 1, 0] B17) s H) := at_block (by kernel_rfl) rfl s H
@[simp] theorem n17_15 (s : List V) (H : Heap) : evCode P Γ call n f m (cAt [1, 1, 0, 1, 0] B17) s H = evLoopC P Γ call n f m (cAt [1, 1, 0, 1, 0, 0] B17) n s H := at_loop (by kernel_rfl) rfl s H
noncomputable abbrev L17_4 : Code := cAt [1, 1, 0, 1, 0, 0] B17
@[simp] theorem n17_15f : firstRegion (cAt [1, 1, 0, 1, 0, 0] B17) = 4 := by kernel_rfl
@[simp] theorem n17_16 (s : List V) (H : Heap) : evCode P Γ call n f m (cAt [1, 1, 0, 1, 0, 0] B17) s H = seqNext P Γ call n f m (cAt [1, 1, 0, 1, 0, 0, 1] B17) (evCode P Γ call n f m (cAt [1, 1, 0, 1, 0, 0, 0] B17) s H) := at_seq (by kernel_rfl) rfl rfl s H
noncomputable def r17_17 : {l : List Oper // opsOf (cAt [1, 1, 0, 1, 0, 0, 0] B17) = l} := by
  apply Subtype.mk
  dsimp only [opsOf, cAt, kids, B17, bodyOf, Try.f17, List.getD, List.getElem?_cons_zero, List.getElem?_cons_succ, Option.getD_some]
@[simp] theorem n17_17 (s : List V) (H : Heap) : evCode P Γ call n f m (cAt [1, 1, 0, 1, 0, 0, 0] B17) s H = regNext (evOpsGo P Γ call r17_17.1 r17_17.1 s H) := at_region (by kernel_rfl) r17_17.2 s H
attribute [simp] r17_17
@[simp] theorem n17_18 (s : List V) (H : Heap) : evCode P Γ call n f m (cAt [1, 1, 0, 1, 0, 0, 1] B17) s H = seqNext P Γ call n f m (cAt [1, 1, 0, 1, 0, 0, 1, 1] B17) (evCode P Γ call n f m (cAt [1, 1, 0, 1, 0, 0, 1, 0] B17) s H) := at_seq (by kernel_rfl) rfl rfl s H
@[simp] theorem n17_19 (s : List V) (H : Heap) : evCode P Γ call n f m (cAt [1, 1, 0, 1, 0, 0, 1, 0] B17) s H = condW P Γ call n f m (cAt [1, 1, 0, 1, 0, 0, 1, 0, 0] B17) (cAt [1, 1, 0, 1, 0, 0, 1, 0, 1] B17) s H (evOperand Γ s (.tmp 14)) := at_cond (by kernel_rfl) (by kernel_rfl) rfl rfl s H
@[simp] theorem n17_20 (s : List V) (H : Heap) : evCode P Γ call n f m (cAt [1, 1, 0, 1, 0, 0, 1, 0, 0] B17) s H = some (.normal, s, H) := at_skip (by kernel_rfl) s H
@[simp] theorem n17_21 (s : List V) (H : Heap) : evCode P Γ call n f m (cAt [1, 1, 0, 1, 0, 0, 1, 0, 1] B17) s H = some (.exit 0, s, H) := at_exit (by kernel_rfl) s H
@[simp] theorem n17_22 (s : List V) (H : Heap) : evCode P Γ call n f m (cAt [1, 1, 0, 1, 0, 0, 1, 1] B17) s H = seqNext P Γ call n f m (cAt [1, 1, 0, 1, 0, 0, 1, 1, 1] B17) (evCode P Γ call n f m (cAt [1, 1, 0, 1, 0, 0, 1, 1, 0] B17) s H) := at_seq (by kernel_rfl) rfl rfl s H
@[simp] theorem n17_23 (s : List V) (H : Heap) : evCode P Γ call n f m (cAt [1, 1, 0, 1, 0, 0, 1, 1, 0] B17) s H = blockNext 1 (evCode P Γ call n f m (cAt [1, 1, 0, 1, 0, 0, 1, 1, 0, 0] B17) s H) := at_block (by kernel_rfl) rfl s H
@[simp] theorem n17_24 (s : List V) (H : Heap) : evCode P Γ call n f m (cAt [1, 1, 0, 1, 0, 0, 1, 1, 0, 0] B17) s H = seqNext P Γ call n f m (cAt [1, 1, 0, 1, 0, 0, 1, 1, 0, 0, 1] B17) (evCode P Γ call n f m (cAt [1, 1, 0, 1, 0, 0, 1, 1, 0, 0, 0] B17) s H) := at_seq (by kernel_rfl) rfl rfl s H
noncomputable def r17_25 : {l : List Oper // opsOf (cAt [1, 1, 0, 1, 0, 0, 1, 1, 0, 0, 0] B17) = l} := by
  apply Subtype.mk
  dsimp only [opsOf, cAt, kids, B17, bodyOf, Try.f17, List.getD, List.getElem?_cons_zero, List.getElem?_cons_succ, Option.getD_some]
@[simp] theorem n17_25 (s : List V) (H : Heap) : evCode P Γ call n f m (cAt [1, 1, 0, 1, 0, 0, 1, 1, 0, 0, 0] B17) s H = regNext (evOpsGo P Γ call r17_25.1 r17_25.1 s H) := at_region (by kernel_rfl) r17_25.2 s H
attribute [simp] r17_25
@[simp] theorem n17_26 (s : List V) (H : Heap) : evCode P Γ call n f m (cAt [1, 1, 0, 1, 0, 0, 1, 1, 0, 0, 1] B17) s H = seqNext P Γ call n f m (cAt [1, 1, 0, 1, 0, 0, 1, 1, 0, 0, 1, 1] B17) (evCode P Γ call n f m (cAt [1, 1, 0, 1, 0, 0, 1, 1, 0, 0, 1, 0] B17) s H) := at_seq (by kernel_rfl) rfl rfl s H
noncomputable def r17_27 : {l : List Oper // opsOf (cAt [1, 1, 0, 1, 0, 0, 1, 1, 0, 0, 1, 0] B17) = l} := by
  apply Subtype.mk
  dsimp only [opsOf, cAt, kids, B17, bodyOf, Try.f17, List.getD, List.getElem?_cons_zero, List.getElem?_cons_succ, Option.getD_some]
@[simp] theorem n17_27 (s : List V) (H : Heap) : evCode P Γ call n f m (cAt [1, 1, 0, 1, 0, 0, 1, 1, 0, 0, 1, 0] B17) s H = regNext (drawR P Γ call r17_27.1 [([1, 4, 5, 6, 7], [17, 20, 21, 22, 23]), ([0, 4, 5, 6, 7], [16, 20, 21, 22, 23]), ([4, 5, 6, 7], [20, 21, 22, 23]), ([4, 5, 6, 7], [20, 21, 22, 23]), ([0, 1, 2, 3, 5], [16, 17, 18, 19, 21]), ([0, 1, 2, 3, 4], [16, 17, 18, 19, 20]), ([0, 1, 2, 3], [16, 17, 18, 19]), ([0, 1, 2, 3], [16, 17, 18, 19]), ([], [])] s H) := at_drawT (by kernel_rfl) r17_27.2 (by kernel_rfl) s H
attribute [simp] r17_27
@[simp] theorem n17_28 (s : List V) (H : Heap) : evCode P Γ call n f m (cAt [1, 1, 0, 1, 0, 0, 1, 1, 0, 0, 1, 1] B17) s H = condW P Γ call n f m (cAt [1, 1, 0, 1, 0, 0, 1, 1, 0, 0, 1, 1, 0] B17) (cAt [1, 1, 0, 1, 0, 0, 1, 1, 0, 0, 1, 1, 1] B17) s H (evOperand Γ s (.tmp 24)) := at_cond (by kernel_rfl) (by kernel_rfl) rfl rfl s H
@[simp] theorem n17_29 (s : List V) (H : Heap) : evCode P Γ call n f m (cAt [1, 1, 0, 1, 0, 0, 1, 1, 0, 0, 1, 1, 0] B17) s H = seqNext P Γ call n f m (cAt [1, 1, 0, 1, 0, 0, 1, 1, 0, 0, 1, 1, 0, 1] B17) (evCode P Γ call n f m (cAt [1, 1, 0, 1, 0, 0, 1, 1, 0, 0, 1, 1, 0, 0] B17) s H) := at_seq (by kernel_rfl) rfl rfl s H
noncomputable def r17_30 : {l : List Oper // opsOf (cAt [1, 1, 0, 1, 0, 0, 1, 1, 0, 0, 1, 1, 0, 0] B17) = l} := by
  apply Subtype.mk
  dsimp only [opsOf, cAt, kids, B17, bodyOf, Try.f17, List.getD, List.getElem?_cons_zero, List.getElem?_cons_succ, Option.getD_some]
@[simp] theorem n17_30 (s : List V) (H : Heap) : evCode P Γ call n f m (cAt [1, 1, 0, 1, 0, 0, 1, 1, 0, 0, 1, 1, 0, 0] B17) s H = regNext (evOpsGo P Γ call r17_30.1 r17_30.1 s H) := at_region (by kernel_rfl) r17_30.2 s H
attribute [simp] r17_30
@[simp] theorem n17_31 (s : List V) (H : Heap) : evCode P Γ call n f m (cAt [1, 1, 0, 1, 0, 0, 1, 1, 0, 0, 1, 1, 0, 1] B17) s H = some (.ret, s, H) := at_ret (by kernel_rfl) s H
@[simp] theorem n17_32 (s : List V) (H : Heap) : evCode P Γ call n f m (cAt [1, 1, 0, 1, 0, 0, 1, 1, 0, 0, 1, 1, 1] B17) s H = some (.normal, s, H) := at_skip (by kernel_rfl) s H
noncomputable def r17_33 : {l : List Oper // opsOf (cAt [1, 1, 0, 1, 0, 0, 1, 1, 1] B17) = l} := by
  apply Subtype.mk
  dsimp only [opsOf, cAt, kids, B17, bodyOf, Try.f17, List.getD, List.getElem?_cons_zero, List.getElem?_cons_succ, Option.getD_some]
@[simp] theorem n17_33 (s : List V) (H : Heap) : evCode P Γ call n f m (cAt [1, 1, 0, 1, 0, 0, 1, 1, 1] B17) s H = regNext (evOpsGo P Γ call r17_33.1 r17_33.1 s H) := at_region (by kernel_rfl) r17_33.2 s H
attribute [simp] r17_33
@[simp] theorem n17_34 (s : List V) (H : Heap) : evCode P Γ call n f m (cAt [1, 1, 1] B17) s H = seqNext P Γ call n f m (cAt [1, 1, 1, 1] B17) (evCode P Γ call n f m (cAt [1, 1, 1, 0] B17) s H) := at_seq (by kernel_rfl) rfl rfl s H
noncomputable def r17_35 : {l : List Oper // opsOf (cAt [1, 1, 1, 0] B17) = l} := by
  apply Subtype.mk
  dsimp only [opsOf, cAt, kids, B17, bodyOf, Try.f17, List.getD, List.getElem?_cons_zero, List.getElem?_cons_succ, Option.getD_some]
@[simp] theorem n17_35 (s : List V) (H : Heap) : evCode P Γ call n f m (cAt [1, 1, 1, 0] B17) s H = regNext (evOpsGo P Γ call r17_35.1 r17_35.1 s H) := at_region (by kernel_rfl) r17_35.2 s H
attribute [simp] r17_35
@[simp] theorem n17_36 (s : List V) (H : Heap) : evCode P Γ call n f m (cAt [1, 1, 1, 1] B17) s H = some (.ret, s, H) := at_ret (by kernel_rfl) s H
theorem b17 {k : Nat} (ho : ∀ args H, Γ.orc 17 args H = none) (args : List V) (H : Heap) (ha : args.length ≤ 26) : evF Try.prog Γ (k + 1) 17 args H = bodyEnd Try.prog [.tmp 4] H.length (evCode Try.prog Γ (evF Try.prog Γ k) k 17 H.length (cAt [] B17) (mkL 26 V.undef (enumV 0 args)) H) := body_at Try.func17 (by decide) rfl ho rfl rfl args H ha
end
end Go.Ev.Try
