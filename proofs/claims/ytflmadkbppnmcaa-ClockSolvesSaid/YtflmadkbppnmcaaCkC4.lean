/-
  CODE BY NAMES, printed by wip/tools/codes.py (own work).
-/
import Derived.Test.YtflmadkbppnmcaaCkG
set_option maxRecDepth 100000
set_option linter.unusedVariables false
namespace Go.Ev.Try
open Go Go.Ev Go.Proofs
section
variable {P : Program} {Γ : Env} {call : CallF} {n f m : Nat}

noncomputable def B40 : Code := bodyOf Try.f40
@[simp] theorem n40_1 (s : List V) (H : Heap) : evCode P Γ call n f m (cAt [] B40) s H = seqNext P Γ call n f m (cAt [1] B40) (evCode P Γ call n f m (cAt [0] B40) s H) := at_seq (by kernel_rfl) rfl rfl s H
noncomputable def r40_2 : {l : List Oper // opsOf (cAt [0] B40) = l} := by
  apply Subtype.mk
  dsimp only [opsOf, cAt, kids, B40, bodyOf, Try.f40, List.getD, List.getElem?_cons_zero, List.getElem?_cons_succ, Option.getD_some]
@[simp] theorem n40_2 (s : List V) (H : Heap) : evCode P Γ call n f m (cAt [0] B40) s H = regNext (evOpsGo P Γ call r40_2.1 r40_2.1 s H) := at_region (by kernel_rfl) r40_2.2 s H
attribute [simp] r40_2
@[simp] theorem n40_3 (s : List V) (H : Heap) : evCode P Γ call n f m (cAt [1] B40) s H = seqNext P Γ call n f m (cAt [1, 1] B40) (evCode P Γ call n f m (cAt [1, 0] B40) s H) := at_seq (by kernel_rfl) rfl rfl s H
@[simp] theorem n40_4 (s : List V) (H : Heap) : evCode P Γ call n f m (cAt [1, 0] B40) s H = seqNext P Γ call n f m (cAt [1, 0, 1] B40) (evCode P Γ call n f m (cAt [1, 0, 0] B40) s H) := at_seq (by kernel_rfl) rfl rfl s H
noncomputable def r40_5 : {l : List Oper // opsOf (cAt [1, 0, 0] B40) = l} := by
  apply Subtype.mk
  dsimp only [opsOf, cAt, kids, B40, bodyOf, Try.f40, List.getD, List.getElem?_cons_zero, List.getElem?_cons_succ, Option.getD_some]
@[simp] theorem n40_5 (s : List V) (H : Heap) : evCode P Γ call n f m (cAt [1, 0, 0] B40) s H = regNext (evOpsGo P Γ call r40_5.1 r40_5.1 s H) := at_region (by kernel_rfl) r40_5.2 s H
attribute [simp] r40_5
@[simp] theorem n40_6 (s : List V) (H : Heap) : evCode P Γ call n f m (cAt [1, 0, 1] B40) s H = condW P Γ call n f m (cAt [1, 0, 1, 0] B40) (cAt [1, 0, 1, 1] B40) s H (evOperand Γ s (.tmp 6)) := at_cond (by kernel_rfl) (by kernel_rfl) rfl rfl s H
noncomputable def r40_7 : {l : List Oper // opsOf (cAt [1, 0, 1, 0] B40) = l} := by
  apply Subtype.mk
  dsimp only [opsOf, cAt, kids, B40, bodyOf, Try.f40, List.getD, List.getElem?_cons_zero, List.getElem?_cons_succ, Option.getD_some]
@[simp] theorem n40_7 (s : List V) (H : Heap) : evCode P Γ call n f m (cAt [1, 0, 1, 0] B40) s H = regNext (evOpsGo P Γ call r40_7.1 r40_7.1 s H) := at_region (by kernel_rfl) r40_7.2 s H
attribute [simp] r40_7
@[simp] theorem n40_8 (s : List V) (H : Heap) : evCode P Γ call n f m (cAt [1, 0, 1, 1] B40) s H = some (.normal, s, H) := at_skip (by kernel_rfl) s H
@[simp] theorem n40_9 (s : List V) (H : Heap) : evCode P Γ call n f m (cAt [1, 1] B40) s H = seqNext P Γ call n f m (cAt [1, 1, 1] B40) (evCode P Γ call n f m (cAt [1, 1, 0] B40) s H) := at_seq (by kernel_rfl) rfl rfl s H
@[simp] theorem n40_10 (s : List V) (H : Heap) : evCode P Γ call n f m (cAt [1, 1, 0] B40) s H = seqNext P Γ call n f m (cAt [1, 1, 0, 1] B40) (evCode P Γ call n f m (cAt [1, 1, 0, 0] B40) s H) := at_seq (by kernel_rfl) rfl rfl s H
noncomputable def r40_11 : {l : List Oper // opsOf (cAt [1, 1, 0, 0] B40) = l} := by
  apply Subtype.mk
  dsimp only [opsOf, cAt, kids, B40, bodyOf, Try.f40, List.getD, List.getElem?_cons_zero, List.getElem?_cons_succ, Option.getD_some]
@[simp] theorem n40_11 (s : List V) (H : Heap) : evCode P Γ call n f m (cAt [1, 1, 0, 0] B40) s H = regNext (evOpsGo P Γ call r40_11.1 r40_11.1 s H) := at_region (by kernel_rfl) r40_11.2 s H
attribute [simp] r40_11
@[simp] theorem n40_12 (s : List V) (H : Heap) : evCode P Γ call n f m (cAt [1, 1, 0, 1] B40) s H = seqNext P Γ call n f m (cAt [1, 1, 0, 1, 1] B40) (evCode P Γ call n f m (cAt [1, 1, 0, 1, 0] B40) s H) := at_seq (by kernel_rfl) rfl rfl s H
noncomputable def r40_13 : {l : List Oper // opsOf (cAt [1, 1, 0, 1, 0] B40) = l} := by
  apply Subtype.mk
  dsimp only [opsOf, cAt, kids, B40, bodyOf, Try.f40, List.getD, List.getElem?_cons_zero, List.getElem?_cons_succ, Option.getD_some]
@[simp] theorem n40_13 (s : List V) (H : Heap) : evCode P Γ call n f m (cAt [1, 1, 0, 1, 0] B40) s H = regNext (evOpsGo P Γ call r40_13.1 r40_13.1 s H) := at_region (by kernel_rfl) r40_13.2 s H
attribute [simp] r40_13
@[simp] theorem n40_14 (s : List V) (H : Heap) : evCode P Γ call n f m (cAt [1, 1, 0, 1, 1] B40) s H = condW P Γ call n f m (cAt [1, 1, 0, 1, 1, 0] B40) (cAt [1, 1, 0, 1, 1, 1] B40) s H (evOperand Γ s (.tmp 16)) := at_cond (by kernel_rfl) (by kernel_rfl) rfl rfl s H
noncomputable def r40_15 : {l : List Oper // opsOf (cAt [1, 1, 0, 1, 1, 0] B40) = l} := by
  apply Subtype.mk
  dsimp only [opsOf, cAt, kids, B40, bodyOf, Try.f40, List.getD, List.getElem?_cons_zero, List.getElem?_cons_succ, Option.getD_some]
@[simp] theorem n40_15 (s : List V) (H : Heap) : evCode P Γ call n f m (cAt [1, 1, 0, 1, 1, 0] B40) s H = regNext (evOpsGo P Γ call r40_15.1 r40_15.1 s H) := at_region (by kernel_rfl) r40_15.2 s H
attribute [simp] r40_15
@[simp] theorem n40_16 (s : List V) (H : Heap) : evCode P Γ call n f m (cAt [1, 1, 0, 1, 1, 1] B40) s H = some (.normal, s, H) := at_skip (by kernel_rfl) s H
@[simp] theorem n40_17 (s : List V) (H : Heap) : evCode P Γ call n f m (cAt [1, 1, 1] B40) s H = seqNext P Γ call n f m (cAt [1, 1, 1, 1] B40) (evCode P Γ call n f m (cAt [1, 1, 1, 0] B40) s H) := at_seq (by kernel_rfl) rfl rfl s H
noncomputable def r40_18 : {l : List Oper // opsOf (cAt [1, 1, 1, 0] B40) = l} := by
  apply Subtype.mk
  dsimp only [opsOf, cAt, kids, B40, bodyOf, Try.f40, List.getD, List.getElem?_cons_zero, List.getElem?_cons_succ, Option.getD_some]
@[simp] theorem n40_18 (s : List V) (H : Heap) : evCode P Γ call n f m (cAt [1, 1, 1, 0] B40) s H = regNext (evOpsGo P Γ call r40_18.1 r40_18.1 s H) := at_region (by kernel_rfl) r40_18.2 s H
attribute [simp] r40_18
@[simp] theorem n40_19 (s : List V) (H : Heap) : evCode P Γ call n f m (cAt [1, 1, 1, 1] B40) s H = some (.ret, s, H) := at_ret (by kernel_rfl) s H
theorem b40 {k : Nat} (ho : ∀ args H, Γ.orc 40 args H = none) (args : List V) (H : Heap) (ha : args.length ≤ 27) : evF Try.prog Γ (k + 1) 40 args H = bodyEnd Try.prog [.tmp 4] H.length (evCode Try.prog Γ (evF Try.prog Γ k) k 40 H.length (cAt [] B40) (mkL 27 V.undef (enumV 0 args)) H) := body_at Try.func40 (by decide) rfl ho rfl rfl args H ha
noncomputable def B21 : Code := bodyOf Try.f21
@[simp] theorem n21_1 (s : List V) (H : Heap) : evCode P Γ call n f m (cAt [] B21) s H = seqNext P Γ call n f m (cAt [1] B21) (evCode P Γ call n f m (cAt [0] B21) s H) := at_seq (by kernel_rfl) rfl rfl s H
noncomputable def r21_2 : {l : List Oper // opsOf (cAt [0] B21) = l} := by
  apply Subtype.mk
  dsimp only [opsOf, cAt, kids, B21, bodyOf, Try.f21, List.getD, List.getElem?_cons_zero, List.getElem?_cons_succ, Option.getD_some]
@[simp] theorem n21_2 (s : List V) (H : Heap) : evCode P Γ call n f m (cAt [0] B21) s H = regNext (evOpsGo P Γ call r21_2.1 r21_2.1 s H) := at_region (by kernel_rfl) r21_2.2 s H
attribute [simp] r21_2
@[simp] theorem n21_3 (s : List V) (H : Heap) : evCode P Γ call n f m (cAt [1] B21) s H = seqNext P Γ call n f m (cAt [1, 1] B21) (evCode P Γ call n f m (cAt [1, 0] B21) s H) := at_seq (by kernel_rfl) rfl rfl s H
@[simp] theorem n21_4 (s : List V) (H : Heap) : evCode P Γ call n f m (cAt [1, 0] B21) s H = seqNext P Γ call n f m (cAt [1, 0, 1] B21) (evCode P Γ call n f m (cAt [1, 0, 0] B21) s H) := at_seq (by kernel_rfl) rfl rfl s H
noncomputable def r21_5 : {l : List Oper // opsOf (cAt [1, 0, 0] B21) = l} := by
  apply Subtype.mk
  dsimp only [opsOf, cAt, kids, B21, bodyOf, Try.f21, List.getD, List.getElem?_cons_zero, List.getElem?_cons_succ, Option.getD_some]
@[simp] theorem n21_5 (s : List V) (H : Heap) : evCode P Γ call n f m (cAt [1, 0, 0] B21) s H = regNext (evOpsGo P Γ call r21_5.1 r21_5.1 s H) := at_region (by kernel_rfl) r21_5.2 s H
attribute [simp] r21_5
@[simp] theorem n21_6 (s : List V) (H : Heap) : evCode P Γ call n f m (cAt [1, 0, 1] B21) s H = condW P Γ call n f m (cAt [1, 0, 1, 0] B21) (cAt [1, 0, 1, 1] B21) s H (evOperand Γ s (.tmp 10)) := at_cond (by kernel_rfl) (by kernel_rfl) rfl rfl s H
@[simp] theorem n21_7 (s : List V) (H : Heap) : evCode P Γ call n f m (cAt [1, 0, 1, 0] B21) s H = seqNext P Γ call n f m (cAt [1, 0, 1, 0, 1] B21) (evCode P Γ call n f m (cAt [1, 0, 1, 0, 0] B21) s H) := at_seq (by kernel_rfl) rfl rfl s H
noncomputable def r21_8 : {l : List Oper // opsOf (cAt [1, 0, 1, 0, 0] B21) = l} := by
  apply Subtype.mk
  dsimp only [opsOf, cAt, kids, B21, bodyOf, Try.f21, List.getD, List.getElem?_cons_zero, List.getElem?_cons_succ, Option.getD_some]
@[simp] theorem n21_8 (s : List V) (H : Heap) : evCode P Γ call n f m (cAt [1, 0, 1, 0, 0] B21) s H = regNext (evOpsGo P Γ call r21_8.1 r21_8.1 s H) := at_region (by kernel_rfl) r21_8.2 s H
attribute [simp] r21_8
@[simp] theorem n21_9 (s : List V) (H : Heap) : evCode P Γ call n f m (cAt [1, 0, 1, 0, 1] B21) s H = some (.ret, s, H) := at_ret (by kernel_rfl) s H
@[simp] theorem n21_10 (s : List V) (H : Heap) : evCode P Γ call n f m (cAt [1, 0, 1, 1] B21) s H = some (.normal, s, H) := at_skip (by kernel_rfl) s H
@[simp] theorem n21_11 (s : List V) (H : Heap) : evCode P Γ call n f m (cAt [1, 1] B21) s H = seqNext P Γ call n f m (cAt [1, 1, 1] B21) (evCode P Γ call n f m (cAt [1, 1, 0] B21) s H) := at_seq (by kernel_rfl) rfl rfl s H
@[simp] theorem n21_12 (s : List V) (H : Heap) : evCode P Γ call n f m (cAt [1, 1, 0] B21) s H = seqNext P Γ call n f m (cAt [1, 1, 0, 1] B21) (evCode P Γ call n f m (cAt [1, 1, 0, 0] B21) s H) := at_seq (by kernel_rfl) rfl rfl s H
noncomputable def r21_13 : {l : List Oper // opsOf (cAt [1, 1, 0, 0] B21) = l} := by
  apply Subtype.mk
  dsimp only [opsOf, cAt, kids, B21, bodyOf, Try.f21, List.getD, List.getElem?_cons_zero, List.getElem?_cons_succ, Option.getD_some]
@[simp] theorem n21_13 (s : List V) (H : Heap) : evCode P Γ call n f m (cAt [1, 1, 0, 0] B21) s H = regNext (evOpsGo P Γ call r21_13.1 r21_13.1 s H) := at_region (by kernel_rfl) r21_13.2 s H
attribute [simp] r21_13
@[simp] theorem n21_14 (s : List V) (H : Heap) : evCode P Γ call n f m (cAt [1, 1, 0, 1] B21) s H = blockNext 0 (evCode P Γ call n f m (cAt [1, 1, 0, 1, 0] B21) s H) := at_block (by kernel_rfl) rfl s H
@[simp] theorem n21_15 (s : List V) (H : Heap) : evCode P Γ call n f m (cAt [1, 1, 0, 1, 0] B21) s H = evLoopC P Γ call n f m (cAt [1, 1, 0, 1, 0, 0] B21) n s H := at_loop (by kernel_rfl) rfl s H
noncomputable abbrev L21_4 : Code := cAt [1, 1, 0, 1, 0, 0] B21
@[simp] theorem n21_15f : firstRegion (cAt [1, 1, 0, 1, 0, 0] B21) = 4 := by kernel_rfl
@[simp] theorem n21_16 (s : List V) (H : Heap) : evCode P Γ call n f m (cAt [1, 1, 0, 1, 0, 0] B21) s H = seqNext P Γ call n f m (cAt [1, 1, 0, 1, 0, 0, 1] B21) (evCode P Γ call n f m (cAt [1, 1, 0, 1, 0, 0, 0] B21) s H) := at_seq (by kernel_rfl) rfl rfl s H
noncomputable def r21_17 : {l : List Oper // opsOf (cAt [1, 1, 0, 1, 0, 0, 0] B21) = l} := by
  apply Subtype.mk
  dsimp only [opsOf, cAt, kids, B21, bodyOf, Try.f21, List.getD, List.getElem?_cons_zero, List.getElem?_cons_succ, Option.getD_some]
@[simp] theorem n21_17 (s : List V) (H : Heap) : evCode P Γ call n f m (cAt [1, 1, 0, 1, 0, 0, 0] B21) s H = regNext (evOpsGo P Γ call r21_17.1 r21_17.1 s H) := at_region (by kernel_rfl) r21_17.2 s H
attribute [simp] r21_17
@[simp] theorem n21_18 (s : List V) (H : Heap) : evCode P Γ call n f m (cAt [1, 1, 0, 1, 0, 0, 1] B21) s H = seqNext P Γ call n f m (cAt [1, 1, 0, 1, 0, 0, 1, 1] B21) (evCode P Γ call n f m (cAt [1, 1, 0, 1, 0, 0, 1, 0] B21) s H) := at_seq (by kernel_rfl) rfl rfl s H
@[simp] theorem n21_19 (s : List V) (H : Heap) : evCode P Γ call n f m (cAt [1, 1, 0, 1, 0, 0, 1, 0] B21) s H = condW P Γ call n f m (cAt [1, 1, 0, 1, 0, 0, 1, 0, 0] B21) (cAt [1, 1, 0, 1, 0, 0, 1, 0, 1] B21) s H (evOperand Γ s (.tmp 14)) := at_cond (by kernel_rfl) (by kernel_rfl) rfl rfl s H
@[simp] theorem n21_20 (s : List V) (H : Heap) : evCode P Γ call n f m (cAt [1, 1, 0, 1, 0, 0, 1, 0, 0] B21) s H = some (.normal, s, H) := at_skip (by kernel_rfl) s H
@[simp] theorem n21_21 (s : List V) (H : Heap) : evCode P Γ call n f m (cAt [1, 1, 0, 1, 0, 0, 1, 0, 1] B21) s H = some (.exit 0, s, H) := at_exit (by kernel_rfl) s H
@[simp] theorem n21_22 (s : List V) (H : Heap) : evCode P Γ call n f m (cAt [1, 1, 0, 1, 0, 0, 1, 1] B21) s H = seqNext P Γ call n f m (cAt [1, 1, 0, 1, 0, 0, 1, 1, 1] B21) (evCode P Γ call n f m (cAt [1, 1, 0, 1, 0, 0, 1, 1, 0] B21) s H) := at_seq (by kernel_rfl) rfl rfl s H
@[simp] theorem n21_23 (s : List V) (H : Heap) : evCode P Γ call n f m (cAt [1, 1, 0, 1, 0, 0, 1, 1, 0] B21) s H = blockNext 1 (evCode P Γ call n f m (cAt [1, 1, 0, 1, 0, 0, 1, 1, 0, 0] B21) s H) := at_block (by kernel_rfl) rfl s H
@[simp] theorem n21_24 (s : List V) (H : Heap) : evCode P Γ call n f m (cAt [1, 1, 0, 1, 0, 0, 1, 1, 0, 0] B21) s H = seqNext P Γ call n f m (cAt [1, 1, 0, 1, 0, 0, 1, 1, 0, 0, 1] B21) (evCode P Γ call n f m (cAt [1, 1, 0, 1, 0, 0, 1, 1, 0, 0, 0] B21) s H) := at_seq (by kernel_rfl) rfl rfl s H
noncomputable def r21_25 : {l : List Oper // opsOf (cAt [1, 1, 0, 1, 0, 0, 1, 1, 0, 0, 0] B21) = l} := by
  apply Subtype.mk
  dsimp only [opsOf, cAt, kids, B21, bodyOf, Try.f21, List.getD, List.getElem?_cons_zero, List.getElem?_cons_succ, Option.getD_some]
@[simp] theorem n21_25 (s : List V) (H : Heap) : evCode P Γ call n f m (cAt [1, 1, 0, 1, 0, 0, 1, 1, 0, 0, 0] B21) s H = regNext (evOpsGo P Γ call r21_25.1 r21_25.1 s H) := at_region (by kernel_rfl) r21_25.2 s H
attribute [simp] r21_25
@[simp] theorem n21_26 (s : List V) (H : Heap) : evCode P Γ call n f m (cAt [1, 1, 0, 1, 0, 0, 1, 1, 0, 0, 1] B21) s H = seqNext P Γ call n f m (cAt [1, 1, 0, 1, 0, 0, 1, 1, 0, 0, 1, 1] B21) (evCode P Γ call n f m (cAt [1, 1, 0, 1, 0, 0, 1, 1, 0, 0, 1, 0] B21) s H) := at_seq (by kernel_rfl) rfl rfl s H
noncomputable def r21_27 : {l : List Oper // opsOf (cAt [1, 1, 0, 1, 0, 0, 1, 1, 0, 0, 1, 0] B21) = l} := by
  apply Subtype.mk
  dsimp only [opsOf, cAt, kids, B21, bodyOf, Try.f21, List.getD, List.getElem?_cons_zero, List.getElem?_cons_succ, Option.getD_some]
@[simp] theorem n21_27 (s : List V) (H : Heap) : evCode P Γ call n f m (cAt [1, 1, 0, 1, 0, 0, 1, 1, 0, 0, 1, 0] B21) s H = regNext (drawR P Γ call r21_27.1 [([1, 4, 5, 6, 7], [17, 20, 21, 22, 23]), ([0, 4, 5, 6, 7], [16, 20, 21, 22, 23]), ([4, 5, 6, 7], [20, 21, 22, 23]), ([4, 5, 6, 7], [20, 21, 22, 23]), ([0, 1, 2, 3, 5], [16, 17, 18, 19, 21]), ([0, 1, 2, 3, 4], [16, 17, 18, 19, 20]), ([0, 1, 2, 3], [16, 17, 18, 19]), ([0, 1, 2, 3], [16, 17, 18, 19]), ([], [])] s H) := at_drawT (by kernel_rfl) r21_27.2 (by kernel_rfl) s H
attribute [simp] r21_27
@[simp] theorem n21_28 (s : List V) (H : Heap) : evCode P Γ call n f m (cAt [1, 1, 0, 1, 0, 0, 1, 1, 0, 0, 1, 1] B21) s H = condW P Γ call n f m (cAt [1, 1, 0, 1, 0, 0, 1, 1, 0, 0, 1, 1, 0] B21) (cAt [1, 1, 0, 1, 0, 0, 1, 1, 0, 0, 1, 1, 1] B21) s H (evOperand Γ s (.tmp 24)) := at_cond (by kernel_rfl) (by kernel_rfl) rfl rfl s H
@[simp] theorem n21_29 (s : List V) (H : Heap) : evCode P Γ call n f m (cAt [1, 1, 0, 1, 0, 0, 1, 1, 0, 0, 1, 1, 0] B21) s H = seqNext P Γ call n f m (cAt [1, 1, 0, 1, 0, 0, 1, 1, 0, 0, 1, 1, 0, 1] B21) (evCode P Γ call n f m (cAt [1, 1, 0, 1, 0, 0, 1, 1, 0, 0, 1, 1, 0, 0] B21) s H) := at_seq (by kernel_rfl) rfl rfl s H
noncomputable def r21_30 : {l : List Oper // opsOf (cAt [1, 1, 0, 1, 0, 0, 1, 1, 0, 0, 1, 1, 0, 0] B21) = l} := by
  apply Subtype.mk
  dsimp only [opsOf, cAt, kids, B21, bodyOf, Try.f21, List.getD, List.getElem?_cons_zero, List.getElem?_cons_succ, Option.getD_some]
@[simp] theorem n21_30 (s : List V) (H : Heap) : evCode P Γ call n f m (cAt [1, 1, 0, 1, 0, 0, 1, 1, 0, 0, 1, 1, 0, 0] B21) s H = regNext (evOpsGo P Γ call r21_30.1 r21_30.1 s H) := at_region (by kernel_rfl) r21_30.2 s H
attribute [simp] r21_30
@[simp] theorem n21_31 (s : List V) (H : Heap) : evCode P Γ call n f m (cAt [1, 1, 0, 1, 0, 0, 1, 1, 0, 0, 1, 1, 0, 1] B21) s H = some (.ret, s, H) := at_ret (by kernel_rfl) s H
@[simp] theorem n21_32 (s : List V) (H : Heap) : evCode P Γ call n f m (cAt [1, 1, 0, 1, 0, 0, 1, 1, 0, 0, 1, 1, 1] B21) s H = some (.normal, s, H) := at_skip (by kernel_rfl) s H
noncomputable def r21_33 : {l : List Oper // opsOf (cAt [1, 1, 0, 1, 0, 0, 1, 1, 1] B21) = l} := by
  apply Subtype.mk
  dsimp only [opsOf, cAt, kids, B21, bodyOf, Try.f21, List.getD, List.getElem?_cons_zero, List.getElem?_cons_succ, Option.getD_some]
@[simp] theorem n21_33 (s : List V) (H : Heap) : evCode P Γ call n f m (cAt [1, 1, 0, 1, 0, 0, 1, 1, 1] B21) s H = regNext (evOpsGo P Γ call r21_33.1 r21_33.1 s H) := at_region (by kernel_rfl) r21_33.2 s H
attribute [simp] r21_33
@[simp] theorem n21_34 (s : List V) (H : Heap) : evCode P Γ call n f m (cAt [1, 1, 1] B21) s H = seqNext P Γ call n f m (cAt [1, 1, 1, 1] B21) (evCode P Γ call n f m (cAt [1, 1, 1, 0] B21) s H) := at_seq (by kernel_rfl) rfl rfl s H
noncomputable def r21_35 : {l : List Oper // opsOf (cAt [1, 1, 1, 0] B21) = l} := by
  apply Subtype.mk
  dsimp only [opsOf, cAt, kids, B21, bodyOf, Try.f21, List.getD, List.getElem?_cons_zero, List.getElem?_cons_succ, Option.getD_some]
@[simp] theorem n21_35 (s : List V) (H : Heap) : evCode P Γ call n f m (cAt [1, 1, 1, 0] B21) s H = regNext (evOpsGo P Γ call r21_35.1 r21_35.1 s H) := at_region (by kernel_rfl) r21_35.2 s H
attribute [simp] r21_35
@[simp] theorem n21_36 (s : List V) (H : Heap) : evCode P Γ call n f m (cAt [1, 1, 1, 1] B21) s H = some (.ret, s, H) := at_ret (by kernel_rfl) s H
theorem b21 {k : Nat} (ho : ∀ args H, Γ.orc 21 args H = none) (args : List V) (H : Heap) (ha : args.length ≤ 26) : evF Try.prog Γ (k + 1) 21 args H = bodyEnd Try.prog [.tmp 4] H.length (evCode Try.prog Γ (evF Try.prog Γ k) k 21 H.length (cAt [] B21) (mkL 26 V.undef (enumV 0 args)) H) := body_at Try.func21 (by decide) rfl ho rfl rfl args H ha
noncomputable def B4 : Code := bodyOf Try.f4
@[simp] theorem n4_1 (s : List V) (H : Heap) : evCode P Γ call n f m (cAt [] B4) s H = seqNext P Γ call n f m (cAt [1] B4) (evCode P Γ call n f m (cAt [0] B4) s H) := at_seq (by kernel_rfl) rfl rfl s H
noncomputable def r4_2 : {l : List Oper // opsOf (cAt [0] B4) = l} := by
  apply Subtype.mk
  dsimp only [opsOf, cAt, kids, B4, bodyOf, Try.f4, List.getD, List.getElem?_cons_zero, List.getElem?_cons_succ, Option.getD_some]
@[simp] theorem n4_2 (s : List V) (H : Heap) : evCode P Γ call n f m (cAt [0] B4) s H = regNext (evOpsGo P Γ call r4_2.1 r4_2.1 s H) := at_region (by kernel_rfl) r4_2.2 s H
attribute [simp] r4_2
@[simp] theorem n4_3 (s : List V) (H : Heap) : evCode P Γ call n f m (cAt [1] B4) s H = seqNext P Γ call n f m (cAt [1, 1] B4) (evCode P Γ call n f m (cAt [1, 0] B4) s H) := at_seq (by kernel_rfl) rfl rfl s H
noncomputable def r4_4 : {l : List Oper // opsOf (cAt [1, 0] B4) = l} := by
  apply Subtype.mk
  dsimp only [opsOf, cAt, kids, B4, bodyOf, Try.f4, List.getD, List.getElem?_cons_zero, List.getElem?_cons_succ, Option.getD_some]
@[simp] theorem n4_4 (s : List V) (H : Heap) : evCode P Γ call n f m (cAt [1, 0] B4) s H = regNext (evOpsGo P Γ call r4_4.1 r4_4.1 s H) := at_region (by kernel_rfl) r4_4.2 s H
attribute [simp] r4_4
@[simp] theorem n4_5 (s : List V) (H : Heap) : evCode P Γ call n f m (cAt [1, 1] B4) s H = seqNext P Γ call n f m (cAt [1, 1, 1] B4) (evCode P Γ call n f m (cAt [1, 1, 0] B4) s H) := at_seq (by kernel_rfl) rfl rfl s H
@[simp] theorem n4_6 (s : List V) (H : Heap) : evCode P Γ call n f m (cAt [1, 1, 0] B4) s H = seqNext P Γ call n f m (cAt [1, 1, 0, 1] B4) (evCode P Γ call n f m (cAt [1, 1, 0, 0] B4) s H) := at_seq (by kernel_rfl) rfl rfl s H
noncomputable def r4_7 : {l : List Oper // opsOf (cAt [1, 1, 0, 0] B4) = l} := by
  apply Subtype.mk
  dsimp only [opsOf, cAt, kids, B4, bodyOf, Try.f4, List.getD, List.getElem?_cons_zero, List.getElem?_cons_succ, Option.getD_some]
@[simp] theorem n4_7 (s : List V) (H : Heap) : evCode P Γ call n f m (cAt [1, 1, 0, 0] B4) s H = regNext (evOpsGo P Γ call r4_7.1 r4_7.1 s H) := at_region (by kernel_rfl) r4_7.2 s H
attribute [simp] r4_7
@[simp] theorem n4_8 (s : List V) (H : Heap) : evCode P Γ call n f m (cAt [1, 1, 0, 1] B4) s H = seqNext P Γ call n f m (cAt [1, 1, 0, 1, 1] B4) (evCode P Γ call n f m (cAt [1, 1, 0, 1, 0] B4) s H) := at_seq (by kernel_rfl) rfl rfl s H
noncomputable def r4_9 : {l : List Oper // opsOf (cAt [1, 1, 0, 1, 0] B4) = l} := by
  apply Subtype.mk
  dsimp only [opsOf, cAt, kids, B4, bodyOf, Try.f4, List.getD, List.getElem?_cons_zero, List.getElem?_cons_succ, Option.getD_some]
@[simp] theorem n4_9 (s : List V) (H : Heap) : evCode P Γ call n f m (cAt [1, 1, 0, 1, 0] B4) s H = regNext (evOpsGo P Γ call r4_9.1 r4_9.1 s H) := at_region (by kernel_rfl) r4_9.2 s H
attribute [simp] r4_9
@[simp] theorem n4_10 (s : List V) (H : Heap) : evCode P Γ call n f m (cAt [1, 1, 0, 1, 1] B4) s H = condW P Γ call n f m (cAt [1, 1, 0, 1, 1, 0] B4) (cAt [1, 1, 0, 1, 1, 1] B4) s H (evOperand Γ s (.tmp 20)) := at_cond (by kernel_rfl) (by kernel_rfl) rfl rfl s H
@[simp] theorem n4_11 (s : List V) (H : Heap) : evCode P Γ call n f m (cAt [1, 1, 0, 1, 1, 0] B4) s H = seqNext P Γ call n f m (cAt [1, 1, 0, 1, 1, 0, 1] B4) (evCode P Γ call n f m (cAt [1, 1, 0, 1, 1, 0, 0] B4) s H) := at_seq (by kernel_rfl) rfl rfl s H
noncomputable def r4_12 : {l : List Oper // opsOf (cAt [1, 1, 0, 1, 1, 0, 0] B4) = l} := by
  apply Subtype.mk
  dsimp only [opsOf, cAt, kids, B4, bodyOf, Try.f4, List.getD, List.getElem?_cons_zero, List.getElem?_cons_succ, Option.getD_some]
@[simp] theorem n4_12 (s : List V) (H : Heap) : evCode P Γ call n f m (cAt [1, 1, 0, 1, 1, 0, 0] B4) s H = regNext (evOpsGo P Γ call r4_12.1 r4_12.1 s H) := at_region (by kernel_rfl) r4_12.2 s H
attribute [simp] r4_12
@[simp] theorem n4_13 (s : List V) (H : Heap) : evCode P Γ call n f m (cAt [1, 1, 0, 1, 1, 0, 1] B4) s H = some (.ret, s, H) := at_ret (by kernel_rfl) s H
@[simp] theorem n4_14 (s : List V) (H : Heap) : evCode P Γ call n f m (cAt [1, 1, 0, 1, 1, 1] B4) s H = some (.normal, s, H) := at_skip (by kernel_rfl) s H
@[simp] theorem n4_15 (s : List V) (H : Heap) : evCode P Γ call n f m (cAt [1, 1, 1] B4) s H = seqNext P Γ call n f m (cAt [1, 1, 1, 1] B4) (evCode P Γ call n f m (cAt [1, 1, 1, 0] B4) s H) := at_seq (by kernel_rfl) rfl rfl s H
@[simp] theorem n4_16 (s : List V) (H : Heap) : evCode P Γ call n f m (cAt [1, 1, 1, 0] B4) s H = seqNext P Γ call n f m (cAt [1, 1, 1, 0, 1] B4) (evCode P Γ call n f m (cAt [1, 1, 1, 0, 0] B4) s H) := at_seq (by kernel_rfl) rfl rfl s H
noncomputable def r4_17 : {l : List Oper // opsOf (cAt [1, 1, 1, 0, 0] B4) = l} := by
  apply Subtype.mk
  dsimp only [opsOf, cAt, kids, B4, bodyOf, Try.f4, List.getD, List.getElem?_cons_zero, List.getElem?_cons_succ, Option.getD_some]
@[simp] theorem n4_17 (s : List V) (H : Heap) : evCode P Γ call n f m (cAt [1, 1, 1, 0, 0] B4) s H = regNext (evOpsGo P Γ call r4_17.1 r4_17.1 s H) := at_region (by kernel_rfl) r4_17.2 s H
attribute [simp] r4_17
@[simp] theorem n4_18 (s : List V) (H : Heap) : evCode P Γ call n f m (cAt [1, 1, 1, 0, 1] B4) s H = seqNext P Γ call n f m (cAt [1, 1, 1, 0, 1, 1] B4) (evCode P Γ call n f m (cAt [1, 1, 1, 0, 1, 0] B4) s H) := at_seq (by kernel_rfl) rfl rfl s H
noncomputable def r4_19 : {l : List Oper // opsOf (cAt [1, 1, 1, 0, 1, 0] B4) = l} := by
  apply Subtype.mk
  dsimp only [opsOf, cAt, kids, B4, bodyOf, Try.f4, List.getD, List.getElem?_cons_zero, List.getElem?_cons_succ, Option.getD_some]
@[simp] theorem n4_19 (s : List V) (H : Heap) : evCode P Γ call n f m (cAt [1, 1, 1, 0, 1, 0] B4) s H = regNext (evOpsGo P Γ call r4_19.1 r4_19.1 s H) := at_region (by kernel_rfl) r4_19.2 s H
attribute [simp] r4_19
@[simp] theorem n4_20 (s : List V) (H : Heap) : evCode P Γ call n f m (cAt [1, 1, 1, 0, 1, 1] B4) s H = condW P Γ call n f m (cAt [1, 1, 1, 0, 1, 1, 0] B4) (cAt [1, 1, 1, 0, 1, 1, 1] B4) s H (evOperand Γ s (.tmp 38)) := at_cond (by kernel_rfl) (by kernel_rfl) rfl rfl s H
@[simp] theorem n4_21 (s : List V) (H : Heap) : evCode P Γ call n f m (cAt [1, 1, 1, 0, 1, 1, 0] B4) s H = seqNext P Γ call n f m (cAt [1, 1, 1, 0, 1, 1, 0, 1] B4) (evCode P Γ call n f m (cAt [1, 1, 1, 0, 1, 1, 0, 0] B4) s H) := at_seq (by kernel_rfl) rfl rfl s H
noncomputable def r4_22 : {l : List Oper // opsOf (cAt [1, 1, 1, 0, 1, 1, 0, 0] B4) = l} := by
  apply Subtype.mk
  dsimp only [opsOf, cAt, kids, B4, bodyOf, Try.f4, List.getD, List.getElem?_cons_zero, List.getElem?_cons_succ, Option.getD_some]
@[simp] theorem n4_22 (s : List V) (H : Heap) : evCode P Γ call n f m (cAt [1, 1, 1, 0, 1, 1, 0, 0] B4) s H = regNext (evOpsGo P Γ call r4_22.1 r4_22.1 s H) := at_region (by kernel_rfl) r4_22.2 s H
attribute [simp] r4_22
@[simp] theorem n4_23 (s : List V) (H : Heap) : evCode P Γ call n f m (cAt [1, 1, 1, 0, 1, 1, 0, 1] B4) s H = some (.ret, s, H) := at_ret (by kernel_rfl) s H
@[simp] theorem n4_24 (s : List V) (H : Heap) : evCode P Γ call n f m (cAt [1, 1, 1, 0, 1, 1, 1] B4) s H = some (.normal, s, H) := at_skip (by kernel_rfl) s H
@[simp] theorem n4_25 (s : List V) (H : Heap) : evCode P Γ call n f m (cAt [1, 1, 1, 1] B4) s H = seqNext P Γ call n f m (cAt [1, 1, 1, 1, 1] B4) (evCode P Γ call n f m (cAt [1, 1, 1, 1, 0] B4) s H) := at_seq (by kernel_rfl) rfl rfl s H
noncomputable def r4_26 : {l : List Oper // opsOf (cAt [1, 1, 1, 1, 0] B4) = l} := by
  apply Subtype.mk
  dsimp only [opsOf, cAt, kids, B4, bodyOf, Try.f4, List.getD, List.getElem?_cons_zero, List.getElem?_cons_succ, Option.getD_some]
@[simp] theorem n4_26 (s : List V) (H : Heap) : evCode P Γ call n f m (cAt [1, 1, 1, 1, 0] B4) s H = regNext (evOpsGo P Γ call r4_26.1 r4_26.1 s H) := at_region (by kernel_rfl) r4_26.2 s H
attribute [simp] r4_26
@[simp] theorem n4_27 (s : List V) (H : Heap) : evCode P Γ call n f m (cAt [1, 1, 1, 1, 1] B4) s H = some (.ret, s, H) := at_ret (by kernel_rfl) s H
theorem b4 {k : Nat} (ho : ∀ args H, Γ.orc 4 args H = none) (args : List V) (H : Heap) (ha : args.length ≤ 61) : evF Try.prog Γ (k + 1) 4 args H = bodyEnd Try.prog [.tmp 4] H.length (evCode Try.prog Γ (evF Try.prog Γ k) k 4 H.length (cAt [] B4) (mkL 61 V.undef (enumV 0 args)) H) := body_at Try.func4 (by decide) rfl ho rfl rfl args H ha
end
end Go.Ev.Try
