/-
  CODE BY NAMES, printed by wip/tools/codes.py (own work).
-/
import Derived.Test.YtnalmdnfoicokaaRdG
set_option maxRecDepth 100000
set_option linter.unusedVariables false
namespace Go.Ev.Try
open Go Go.Ev Go.Proofs
section
variable {P : Program} {Γ : Env} {call : CallF} {n f m : Nat}

noncomputable def B14 : Code := bodyOf Try.f14
@[simp] theorem n14_1 (s : List V) (H : Heap) : evCode P Γ call n f m (cAt [] B14) s H = seqNext P Γ call n f m (cAt [1] B14) (evCode P Γ call n f m (cAt [0] B14) s H) := at_seq (by kernel_rfl) rfl rfl s H
noncomputable def r14_2 : {l : List Oper // opsOf (cAt [0] B14) = l} := by
  apply Subtype.mk
  dsimp only [opsOf, cAt, kids, B14, bodyOf, Try.f14, List.getD, List.getElem?_cons_zero, List.getElem?_cons_succ, Option.getD_some]
@[simp] theorem n14_2 (s : List V) (H : Heap) : evCode P Γ call n f m (cAt [0] B14) s H = regNext (evOpsGo P Γ call r14_2.1 r14_2.1 s H) := at_region (by kernel_rfl) r14_2.2 s H
attribute [simp] r14_2
@[simp] theorem n14_3 (s : List V) (H : Heap) : evCode P Γ call n f m (cAt [1] B14) s H = seqNext P Γ call n f m (cAt [1, 1] B14) (evCode P Γ call n f m (cAt [1, 0] B14) s H) := at_seq (by kernel_rfl) rfl rfl s H
noncomputable def r14_4 : {l : List Oper // opsOf (cAt [1, 0] B14) = l} := by
  apply Subtype.mk
  dsimp only [opsOf, cAt, kids, B14, bodyOf, Try.f14, List.getD, List.getElem?_cons_zero, List.getElem?_cons_succ, Option.getD_some]
@[simp] theorem n14_4 (s : List V) (H : Heap) : evCode P Γ call n f m (cAt [1, 0] B14) s H = regNext (evOpsGo P Γ call r14_4.1 r14_4.1 s H) := at_region (by kernel_rfl) r14_4.2 s H
attribute [simp] r14_4
@[simp] theorem n14_5 (s : List V) (H : Heap) : evCode P Γ call n f m (cAt [1, 1] B14) s H = some (.ret, s, H) := at_ret (by kernel_rfl) s H
theorem b14 {k : Nat} (ho : ∀ args H, Γ.orc 14 args H = none) (args : List V) (H : Heap) (ha : args.length ≤ 38) : evF Try.prog Γ (k + 1) 14 args H = bodyEnd Try.prog [.tmp 4] H.length (evCode Try.prog Γ (evF Try.prog Γ k) k 14 H.length (cAt [] B14) (mkL 38 V.undef (enumV 0 args)) H) := body_at Try.func14 (by decide) rfl ho rfl rfl args H ha
noncomputable def B15 : Code := bodyOf Try.f15
@[simp] theorem n15_1 (s : List V) (H : Heap) : evCode P Γ call n f m (cAt [] B15) s H = seqNext P Γ call n f m (cAt [1] B15) (evCode P Γ call n f m (cAt [0] B15) s H) := at_seq (by kernel_rfl) rfl rfl s H
noncomputable def r15_2 : {l : List Oper // opsOf (cAt [0] B15) = l} := by
  apply Subtype.mk
  dsimp only [opsOf, cAt, kids, B15, bodyOf, Try.f15, List.getD, List.getElem?_cons_zero, List.getElem?_cons_succ, Option.getD_some]
@[simp] theorem n15_2 (s : List V) (H : Heap) : evCode P Γ call n f m (cAt [0] B15) s H = regNext (evOpsGo P Γ call r15_2.1 r15_2.1 s H) := at_region (by kernel_rfl) r15_2.2 s H
attribute [simp] r15_2
@[simp] theorem n15_3 (s : List V) (H : Heap) : evCode P Γ call n f m (cAt [1] B15) s H = seqNext P Γ call n f m (cAt [1, 1] B15) (evCode P Γ call n f m (cAt [1, 0] B15) s H) := at_seq (by kernel_rfl) rfl rfl s H
noncomputable def r15_4 : {l : List Oper // opsOf (cAt [1, 0] B15) = l} := by
  apply Subtype.mk
  dsimp only [opsOf, cAt, kids, B15, bodyOf, Try.f15, List.getD, List.getElem?_cons_zero, List.getElem?_cons_succ, Option.getD_some]
@[simp] theorem n15_4 (s : List V) (H : Heap) : evCode P Γ call n f m (cAt [1, 0] B15) s H = regNext (evOpsGo P Γ call r15_4.1 r15_4.1 s H) := at_region (by kernel_rfl) r15_4.2 s H
attribute [simp] r15_4
@[simp] theorem n15_5 (s : List V) (H : Heap) : evCode P Γ call n f m (cAt [1, 1] B15) s H = seqNext P Γ call n f m (cAt [1, 1, 1] B15) (evCode P Γ call n f m (cAt [1, 1, 0] B15) s H) := at_seq (by kernel_rfl) rfl rfl s H
@[simp] theorem n15_6 (s : List V) (H : Heap) : evCode P Γ call n f m (cAt [1, 1, 0] B15) s H = seqNext P Γ call n f m (cAt [1, 1, 0, 1] B15) (evCode P Γ call n f m (cAt [1, 1, 0, 0] B15) s H) := at_seq (by kernel_rfl) rfl rfl s H
noncomputable def r15_7 : {l : List Oper // opsOf (cAt [1, 1, 0, 0] B15) = l} := by
  apply Subtype.mk
  dsimp only [opsOf, cAt, kids, B15, bodyOf, Try.f15, List.getD, List.getElem?_cons_zero, List.getElem?_cons_succ, Option.getD_some]
@[simp] theorem n15_7 (s : List V) (H : Heap) : evCode P Γ call n f m (cAt [1, 1, 0, 0] B15) s H = regNext (evOpsGo P Γ call r15_7.1 r15_7.1 s H) := at_region (by kernel_rfl) r15_7.2 s H
attribute [simp] r15_7
@[simp] theorem n15_8 (s : List V) (H : Heap) : evCode P Γ call n f m (cAt [1, 1, 0, 1] B15) s H = blockNext 0 (evCode P Γ call n f m (cAt [1, 1, 0, 1, 0] B15) s H) := at_block (by kernel_rfl) rfl s H
@[simp] theorem n15_9 (s : List V) (H : Heap) : evCode P Γ call n f m (cAt [1, 1, 0, 1, 0] B15) s H = evLoopC P Γ call n f m (cAt [1, 1, 0, 1, 0, 0] B15) n s H := at_loop (by kernel_rfl) rfl s H
noncomputable abbrev L15_3 : Code := cAt [1, 1, 0, 1, 0, 0] B15
@[simp] theorem n15_9f : firstRegion (cAt [1, 1, 0, 1, 0, 0] B15) = 3 := by kernel_rfl
@[simp] theorem n15_10 (s : List V) (H : Heap) : evCode P Γ call n f m (cAt [1, 1, 0, 1, 0, 0] B15) s H = seqNext P Γ call n f m (cAt [1, 1, 0, 1, 0, 0, 1] B15) (evCode P Γ call n f m (cAt [1, 1, 0, 1, 0, 0, 0] B15) s H) := at_seq (by kernel_rfl) rfl rfl s H
noncomputable def r15_11 : {l : List Oper // opsOf (cAt [1, 1, 0, 1, 0, 0, 0] B15) = l} := by
  apply Subtype.mk
  dsimp only [opsOf, cAt, kids, B15, bodyOf, Try.f15, List.getD, List.getElem?_cons_zero, List.getElem?_cons_succ, Option.getD_some]
@[simp] theorem n15_11 (s : List V) (H : Heap) : evCode P Γ call n f m (cAt [1, 1, 0, 1, 0, 0, 0] B15) s H = regNext (evOpsGo P Γ call r15_11.1 r15_11.1 s H) := at_region (by kernel_rfl) r15_11.2 s H
attribute [simp] r15_11
@[simp] theorem n15_12 (s : List V) (H : Heap) : evCode P Γ call n f m (cAt [1, 1, 0, 1, 0, 0, 1] B15) s H = seqNext P Γ call n f m (cAt [1, 1, 0, 1, 0, 0, 1, 1] B15) (evCode P Γ call n f m (cAt [1, 1, 0, 1, 0, 0, 1, 0] B15) s H) := at_seq (by kernel_rfl) rfl rfl s H
@[simp] theorem n15_13 (s : List V) (H : Heap) : evCode P Γ call n f m (cAt [1, 1, 0, 1, 0, 0, 1, 0] B15) s H = condW P Γ call n f m (cAt [1, 1, 0, 1, 0, 0, 1, 0, 0] B15) (cAt [1, 1, 0, 1, 0, 0, 1, 0, 1] B15) s H (evOperand Γ s (.tmp 18)) := at_cond (by kernel_rfl) (by kernel_rfl) rfl rfl s H
@[simp] theorem n15_14 (s : List V) (H : Heap) : evCode P Γ call n f m (cAt [1, 1, 0, 1, 0, 0, 1, 0, 0] B15) s H = some (.normal, s, H) := at_skip (by kernel_rfl) s H
@[simp] theorem n15_15 (s : List V) (H : Heap) : evCode P Γ call n f m (cAt [1, 1, 0, 1, 0, 0, 1, 0, 1] B15) s H = some (.exit 0, s, H) := at_exit (by kernel_rfl) s H
@[simp] theorem n15_16 (s : List V) (H : Heap) : evCode P Γ call n f m (cAt [1, 1, 0, 1, 0, 0, 1, 1] B15) s H = seqNext P Γ call n f m (cAt [1, 1, 0, 1, 0, 0, 1, 1, 1] B15) (evCode P Γ call n f m (cAt [1, 1, 0, 1, 0, 0, 1, 1, 0] B15) s H) := at_seq (by kernel_rfl) rfl rfl s H
@[simp] theorem n15_17 (s : List V) (H : Heap) : evCode P Γ call n f m (cAt [1, 1, 0, 1, 0, 0, 1, 1, 0] B15) s H = blockNext 1 (evCode P Γ call n f m (cAt [1, 1, 0, 1, 0, 0, 1, 1, 0, 0] B15) s H) := at_block (by kernel_rfl) rfl s H
@[simp] theorem n15_18 (s : List V) (H : Heap) : evCode P Γ call n f m (cAt [1, 1, 0, 1, 0, 0, 1, 1, 0, 0] B15) s H = seqNext P Γ call n f m (cAt [1, 1, 0, 1, 0, 0, 1, 1, 0, 0, 1] B15) (evCode P Γ call n f m (cAt [1, 1, 0, 1, 0, 0, 1, 1, 0, 0, 0] B15) s H) := at_seq (by kernel_rfl) rfl rfl s H
noncomputable def r15_19 : {l : List Oper // opsOf (cAt [1, 1, 0, 1, 0, 0, 1, 1, 0, 0, 0] B15) = l} := by
  apply Subtype.mk
  dsimp only [opsOf, cAt, kids, B15, bodyOf, Try.f15, List.getD, List.getElem?_cons_zero, List.getElem?_cons_succ, Option.getD_some]
@[simp] theorem n15_19 (s : List V) (H : Heap) : evCode P Γ call n f m (cAt [1, 1, 0, 1, 0, 0, 1, 1, 0, 0, 0] B15) s H = regNext (evOpsGo P Γ call r15_19.1 r15_19.1 s H) := at_region (by kernel_rfl) r15_19.2 s H
attribute [simp] r15_19
@[simp] theorem n15_20 (s : List V) (H : Heap) : evCode P Γ call n f m (cAt [1, 1, 0, 1, 0, 0, 1, 1, 0, 0, 1] B15) s H = seqNext P Γ call n f m (cAt [1, 1, 0, 1, 0, 0, 1, 1, 0, 0, 1, 1] B15) (evCode P Γ call n f m (cAt [1, 1, 0, 1, 0, 0, 1, 1, 0, 0, 1, 0] B15) s H) := at_seq (by kernel_rfl) rfl rfl s H
noncomputable def r15_21 : {l : List Oper // opsOf (cAt [1, 1, 0, 1, 0, 0, 1, 1, 0, 0, 1, 0] B15) = l} := by
  apply Subtype.mk
  dsimp only [opsOf, cAt, kids, B15, bodyOf, Try.f15, List.getD, List.getElem?_cons_zero, List.getElem?_cons_succ, Option.getD_some]
@[simp] theorem n15_21 (s : List V) (H : Heap) : evCode P Γ call n f m (cAt [1, 1, 0, 1, 0, 0, 1, 1, 0, 0, 1, 0] B15) s H = regNext (evOpsGo P Γ call r15_21.1 r15_21.1 s H) := at_region (by kernel_rfl) r15_21.2 s H
attribute [simp] r15_21
@[simp] theorem n15_22 (s : List V) (H : Heap) : evCode P Γ call n f m (cAt [1, 1, 0, 1, 0, 0, 1, 1, 0, 0, 1, 1] B15) s H = seqNext P Γ call n f m (cAt [1, 1, 0, 1, 0, 0, 1, 1, 0, 0, 1, 1, 1] B15) (evCode P Γ call n f m (cAt [1, 1, 0, 1, 0, 0, 1, 1, 0, 0, 1, 1, 0] B15) s H) := at_seq (by kernel_rfl) rfl rfl s H
@[simp] theorem n15_23 (s : List V) (H : Heap) : evCode P Γ call n f m (cAt [1, 1, 0, 1, 0, 0, 1, 1, 0, 0, 1, 1, 0] B15) s H = seqNext P Γ call n f m (cAt [1, 1, 0, 1, 0, 0, 1, 1, 0, 0, 1, 1, 0, 1] B15) (evCode P Γ call n f m (cAt [1, 1, 0, 1, 0, 0, 1, 1, 0, 0, 1, 1, 0, 0] B15) s H) := at_seq (by kernel_rfl) rfl rfl s H
noncomputable def r15_24 : {l : List Oper // opsOf (cAt [1, 1, 0, 1, 0, 0, 1, 1, 0, 0, 1, 1, 0, 0] B15) = l} := by
  apply Subtype.mk
  dsimp only [opsOf, cAt, kids, B15, bodyOf, Try.f15, List.getD, List.getElem?_cons_zero, List.getElem?_cons_succ, Option.getD_some]
@[simp] theorem n15_24 (s : List V) (H : Heap) : evCode P Γ call n f m (cAt [1, 1, 0, 1, 0, 0, 1, 1, 0, 0, 1, 1, 0, 0] B15) s H = regNext (evOpsGo P Γ call r15_24.1 r15_24.1 s H) := at_region (by kernel_rfl) r15_24.2 s H
attribute [simp] r15_24
@[simp] theorem n15_25 (s : List V) (H : Heap) : evCode P Γ call n f m (cAt [1, 1, 0, 1, 0, 0, 1, 1, 0, 0, 1, 1, 0, 1] B15) s H = blockNext 2 (evCode P Γ call n f m (cAt [1, 1, 0, 1, 0, 0, 1, 1, 0, 0, 1, 1, 0, 1, 0] B15) s H) := at_block (by kernel_rfl) rfl s H
@[simp] theorem n15_26 (s : List V) (H : Heap) : evCode P Γ call n f m (cAt [1, 1, 0, 1, 0, 0, 1, 1, 0, 0, 1, 1, 0, 1, 0] B15) s H = evLoopC P Γ call n f m (cAt [1, 1, 0, 1, 0, 0, 1, 1, 0, 0, 1, 1, 0, 1, 0, 0] B15) n s H := at_loop (by kernel_rfl) rfl s H
noncomputable abbrev L15_7 : Code := cAt [1, 1, 0, 1, 0, 0, 1, 1, 0, 0, 1, 1, 0, 1, 0, 0] B15
@[simp] theorem n15_26f : firstRegion (cAt [1, 1, 0, 1, 0, 0, 1, 1, 0, 0, 1, 1, 0, 1, 0, 0] B15) = 7 := by kernel_rfl
@[simp] theorem n15_27 (s : List V) (H : Heap) : evCode P Γ call n f m (cAt [1, 1, 0, 1, 0, 0, 1, 1, 0, 0, 1, 1, 0, 1, 0, 0] B15) s H = seqNext P Γ call n f m (cAt [1, 1, 0, 1, 0, 0, 1, 1, 0, 0, 1, 1, 0, 1, 0, 0, 1] B15) (evCode P Γ call n f m (cAt [1, 1, 0, 1, 0, 0, 1, 1, 0, 0, 1, 1, 0, 1, 0, 0, 0] B15) s H) := at_seq (by kernel_rfl) rfl rfl s H
noncomputable def r15_28 : {l : List Oper // opsOf (cAt [1, 1, 0, 1, 0, 0, 1, 1, 0, 0, 1, 1, 0, 1, 0, 0, 0] B15) = l} := by
  apply Subtype.mk
  dsimp only [opsOf, cAt, kids, B15, bodyOf, Try.f15, List.getD, List.getElem?_cons_zero, List.getElem?_cons_succ, Option.getD_some]
@[simp] theorem n15_28 (s : List V) (H : Heap) : evCode P Γ call n f m (cAt [1, 1, 0, 1, 0, 0, 1, 1, 0, 0, 1, 1, 0, 1, 0, 0, 0] B15) s H = regNext (evOpsGo P Γ call r15_28.1 r15_28.1 s H) := at_region (by kernel_rfl) r15_28.2 s H
attribute [simp] r15_28
@[simp] theorem n15_29 (s : List V) (H : Heap) : evCode P Γ call n f m (cAt [1, 1, 0, 1, 0, 0, 1, 1, 0, 0, 1, 1, 0, 1, 0, 0, 1] B15) s H = seqNext P Γ call n f m (cAt [1, 1, 0, 1, 0, 0, 1, 1, 0, 0, 1, 1, 0, 1, 0, 0, 1, 1] B15) (evCode P Γ call n f m (cAt [1, 1, 0, 1, 0, 0, 1, 1, 0, 0, 1, 1, 0, 1, 0, 0, 1, 0] B15) s H) := at_seq (by kernel_rfl) rfl rfl s H
@[simp] theorem n15_30 (s : List V) (H : Heap) : evCode P Γ call n f m (cAt [1, 1, 0, 1, 0, 0, 1, 1, 0, 0, 1, 1, 0, 1, 0, 0, 1, 0] B15) s H = condW P Γ call n f m (cAt [1, 1, 0, 1, 0, 0, 1, 1, 0, 0, 1, 1, 0, 1, 0, 0, 1, 0, 0] B15) (cAt [1, 1, 0, 1, 0, 0, 1, 1, 0, 0, 1, 1, 0, 1, 0, 0, 1, 0, 1] B15) s H (evOperand Γ s (.tmp 27)) := at_cond (by kernel_rfl) (by kernel_rfl) rfl rfl s H
@[simp] theorem n15_31 (s : List V) (H : Heap) : evCode P Γ call n f m (cAt [1, 1, 0, 1, 0, 0, 1, 1, 0, 0, 1, 1, 0, 1, 0, 0, 1, 0, 0] B15) s H = some (.normal, s, H) := at_skip (by kernel_rfl) s H
@[simp] theorem n15_32 (s : List V) (H : Heap) : evCode P Γ call n f m (cAt [1, 1, 0, 1, 0, 0, 1, 1, 0, 0, 1, 1, 0, 1, 0, 0, 1, 0, 1] B15) s H = some (.exit 2, s, H) := at_exit (by kernel_rfl) s H
@[simp] theorem n15_33 (s : List V) (H : Heap) : evCode P Γ call n f m (cAt [1, 1, 0, 1, 0, 0, 1, 1, 0, 0, 1, 1, 0, 1, 0, 0, 1, 1] B15) s H = seqNext P Γ call n f m (cAt [1, 1, 0, 1, 0, 0, 1, 1, 0, 0, 1, 1, 0, 1, 0, 0, 1, 1, 1] B15) (evCode P Γ call n f m (cAt [1, 1, 0, 1, 0, 0, 1, 1, 0, 0, 1, 1, 0, 1, 0, 0, 1, 1, 0] B15) s H) := at_seq (by kernel_rfl) rfl rfl s H
@[simp] theorem n15_34 (s : List V) (H : Heap) : evCode P Γ call n f m (cAt [1, 1, 0, 1, 0, 0, 1, 1, 0, 0, 1, 1, 0, 1, 0, 0, 1, 1, 0] B15) s H = blockNext 3 (evCode P Γ call n f m (cAt [1, 1, 0, 1, 0, 0, 1, 1, 0, 0, 1, 1, 0, 1, 0, 0, 1, 1, 0, 0] B15) s H) := at_block (by kernel_rfl) rfl s H
@[simp] theorem n15_35 (s : List V) (H : Heap) : evCode P Γ call n f m (cAt [1, 1, 0, 1, 0, 0, 1, 1, 0, 0, 1, 1, 0, 1, 0, 0, 1, 1, 0, 0] B15) s H = seqNext P Γ call n f m (cAt [1, 1, 0, 1, 0, 0, 1, 1, 0, 0, 1, 1, 0, 1, 0, 0, 1, 1, 0, 0, 1] B15) (evCode P Γ call n f m (cAt [1, 1, 0, 1, 0, 0, 1, 1, 0, 0, 1, 1, 0, 1, 0, 0, 1, 1, 0, 0, 0] B15) s H) := at_seq (by kernel_rfl) rfl rfl s H
noncomputable def r15_36 : {l : List Oper // opsOf (cAt [1, 1, 0, 1, 0, 0, 1, 1, 0, 0, 1, 1, 0, 1, 0, 0, 1, 1, 0, 0, 0] B15) = l} := by
  apply Subtype.mk
  dsimp only [opsOf, cAt, kids, B15, bodyOf, Try.f15, List.getD, List.getElem?_cons_zero, List.getElem?_cons_succ, Option.getD_some]
@[simp] theorem n15_36 (s : List V) (H : Heap) : evCode P Γ call n f m (cAt [1, 1, 0, 1, 0, 0, 1, 1, 0, 0, 1, 1, 0, 1, 0, 0, 1, 1, 0, 0, 0] B15) s H = regNext (evOpsGo P Γ call r15_36.1 r15_36.1 s H) := at_region (by kernel_rfl) r15_36.2 s H
attribute [simp] r15_36
@[simp] theorem n15_37 (s : List V) (H : Heap) : evCode P Γ call n f m (cAt [1, 1, 0, 1, 0, 0, 1, 1, 0, 0, 1, 1, 0, 1, 0, 0, 1, 1, 0, 0, 1] B15) s H = seqNext P Γ call n f m (cAt [1, 1, 0, 1, 0, 0, 1, 1, 0, 0, 1, 1, 0, 1, 0, 0, 1, 1, 0, 0, 1, 1] B15) (evCode P Γ call n f m (cAt [1, 1, 0, 1, 0, 0, 1, 1, 0, 0, 1, 1, 0, 1, 0, 0, 1, 1, 0, 0, 1, 0] B15) s H) := at_seq (by kernel_rfl) rfl rfl s H
noncomputable def r15_38 : {l : List Oper // opsOf (cAt [1, 1, 0, 1, 0, 0, 1, 1, 0, 0, 1, 1, 0, 1, 0, 0, 1, 1, 0, 0, 1, 0] B15) = l} := by
  apply Subtype.mk
  dsimp only [opsOf, cAt, kids, B15, bodyOf, Try.f15, List.getD, List.getElem?_cons_zero, List.getElem?_cons_succ, Option.getD_some]
@[simp] theorem n15_38 (s : List V) (H : Heap) : evCode P Γ call n f m (cAt [1, 1, 0, 1, 0, 0, 1, 1, 0, 0, 1, 1, 0, 1, 0, 0, 1, 1, 0, 0, 1, 0] B15) s H = regNext (evOpsGo P Γ call r15_38.1 r15_38.1 s H) := at_region (by kernel_rfl) r15_38.2 s H
attribute [simp] r15_38
@[simp] theorem n15_39 (s : List V) (H : Heap) : evCode P Γ call n f m (cAt [1, 1, 0, 1, 0, 0, 1, 1, 0, 0, 1, 1, 0, 1, 0, 0, 1, 1, 0, 0, 1, 1] B15) s H = condW P Γ call n f m (cAt [1, 1, 0, 1, 0, 0, 1, 1, 0, 0, 1, 1, 0, 1, 0, 0, 1, 1, 0, 0, 1, 1, 0] B15) (cAt [1, 1, 0, 1, 0, 0, 1, 1, 0, 0, 1, 1, 0, 1, 0, 0, 1, 1, 0, 0, 1, 1, 1] B15) s H (evOperand Γ s (.tmp 50)) := at_cond (by kernel_rfl) (by kernel_rfl) rfl rfl s H
noncomputable def r15_40 : {l : List Oper // opsOf (cAt [1, 1, 0, 1, 0, 0, 1, 1, 0, 0, 1, 1, 0, 1, 0, 0, 1, 1, 0, 0, 1, 1, 0] B15) = l} := by
  apply Subtype.mk
  dsimp only [opsOf, cAt, kids, B15, bodyOf, Try.f15, List.getD, List.getElem?_cons_zero, List.getElem?_cons_succ, Option.getD_some]
@[simp] theorem n15_40 (s : List V) (H : Heap) : evCode P Γ call n f m (cAt [1, 1, 0, 1, 0, 0, 1, 1, 0, 0, 1, 1, 0, 1, 0, 0, 1, 1, 0, 0, 1, 1, 0] B15) s H = regNext (evOpsGo P Γ call r15_40.1 r15_40.1 s H) := at_region (by kernel_rfl) r15_40.2 s H
attribute [simp] r15_40
@[simp] theorem n15_41 (s : List V) (H : Heap) : evCode P Γ call n f m (cAt [1, 1, 0, 1, 0, 0, 1, 1, 0, 0, 1, 1, 0, 1, 0, 0, 1, 1, 0, 0, 1, 1, 1] B15) s H = some (.normal, s, H) := at_skip (by kernel_rfl) s H
noncomputable def r15_42 : {l : List Oper // opsOf (cAt [1, 1, 0, 1, 0, 0, 1, 1, 0, 0, 1, 1, 0, 1, 0, 0, 1, 1, 1] B15) = l} := by
  apply Subtype.mk
  dsimp only [opsOf, cAt, kids, B15, bodyOf, Try.f15, List.getD, List.getElem?_cons_zero, List.getElem?_cons_succ, Option.getD_some]
@[simp] theorem n15_42 (s : List V) (H : Heap) : evCode P Γ call n f m (cAt [1, 1, 0, 1, 0, 0, 1, 1, 0, 0, 1, 1, 0, 1, 0, 0, 1, 1, 1] B15) s H = regNext (evOpsGo P Γ call r15_42.1 r15_42.1 s H) := at_region (by kernel_rfl) r15_42.2 s H
attribute [simp] r15_42
noncomputable def r15_43 : {l : List Oper // opsOf (cAt [1, 1, 0, 1, 0, 0, 1, 1, 0, 0, 1, 1, 1] B15) = l} := by
  apply Subtype.mk
  dsimp only [opsOf, cAt, kids, B15, bodyOf, Try.f15, List.getD, List.getElem?_cons_zero, List.getElem?_cons_succ, Option.getD_some]
@[simp] theorem n15_43 (s : List V) (H : Heap) : evCode P Γ call n f m (cAt [1, 1, 0, 1, 0, 0, 1, 1, 0, 0, 1, 1, 1] B15) s H = regNext (evOpsGo P Γ call r15_43.1 r15_43.1 s H) := at_region (by kernel_rfl) r15_43.2 s H
attribute [simp] r15_43
noncomputable def r15_44 : {l : List Oper // opsOf (cAt [1, 1, 0, 1, 0, 0, 1, 1, 1] B15) = l} := by
  apply Subtype.mk
  dsimp only [opsOf, cAt, kids, B15, bodyOf, Try.f15, List.getD, List.getElem?_cons_zero, List.getElem?_cons_succ, Option.getD_some]
@[simp] theorem n15_44 (s : List V) (H : Heap) : evCode P Γ call n f m (cAt [1, 1, 0, 1, 0, 0, 1, 1, 1] B15) s H = regNext (evOpsGo P Γ call r15_44.1 r15_44.1 s H) := at_region (by kernel_rfl) r15_44.2 s H
attribute [simp] r15_44
@[simp] theorem n15_45 (s : List V) (H : Heap) : evCode P Γ call n f m (cAt [1, 1, 1] B15) s H = seqNext P Γ call n f m (cAt [1, 1, 1, 1] B15) (evCode P Γ call n f m (cAt [1, 1, 1, 0] B15) s H) := at_seq (by kernel_rfl) rfl rfl s H
noncomputable def r15_46 : {l : List Oper // opsOf (cAt [1, 1, 1, 0] B15) = l} := by
  apply Subtype.mk
  dsimp only [opsOf, cAt, kids, B15, bodyOf, Try.f15, List.getD, List.getElem?_cons_zero, List.getElem?_cons_succ, Option.getD_some]
@[simp] theorem n15_46 (s : List V) (H : Heap) : evCode P Γ call n f m (cAt [1, 1, 1, 0] B15) s H = regNext (evOpsGo P Γ call r15_46.1 r15_46.1 s H) := at_region (by kernel_rfl) r15_46.2 s H
attribute [simp] r15_46
@[simp] theorem n15_47 (s : List V) (H : Heap) : evCode P Γ call n f m (cAt [1, 1, 1, 1] B15) s H = some (.ret, s, H) := at_ret (by kernel_rfl) s H
theorem b15 {k : Nat} (ho : ∀ args H, Γ.orc 15 args H = none) (args : List V) (H : Heap) (ha : args.length ≤ 63) : evF Try.prog Γ (k + 1) 15 args H = bodyEnd Try.prog [.cell 4 27] H.length (evCode Try.prog Γ (evF Try.prog Γ k) k 15 H.length (cAt [] B15) (mkL 63 V.undef (enumV 0 args)) H) := body_at Try.func15 (by decide) rfl ho rfl rfl args H ha
noncomputable def B16 : Code := bodyOf Try.f16
@[simp] theorem n16_1 (s : List V) (H : Heap) : evCode P Γ call n f m (cAt [] B16) s H = seqNext P Γ call n f m (cAt [1] B16) (evCode P Γ call n f m (cAt [0] B16) s H) := at_seq (by kernel_rfl) rfl rfl s H
noncomputable def r16_2 : {l : List Oper // opsOf (cAt [0] B16) = l} := by
  apply Subtype.mk
  dsimp only [opsOf, cAt, kids, B16, bodyOf, Try.f16, List.getD, List.getElem?_cons_zero, List.getElem?_cons_succ, Option.getD_some]
@[simp] theorem n16_2 (s : List V) (H : Heap) : evCode P Γ call n f m (cAt [0] B16) s H = regNext (evOpsGo P Γ call r16_2.1 r16_2.1 s H) := at_region (by kernel_rfl) r16_2.2 s H
attribute [simp] r16_2
@[simp] theorem n16_3 (s : List V) (H : Heap) : evCode P Γ call n f m (cAt [1] B16) s H = seqNext P Γ call n f m (cAt [1, 1] B16) (evCode P Γ call n f m (cAt [1, 0] B16) s H) := at_seq (by kernel_rfl) rfl rfl s H
noncomputable def r16_4 : {l : List Oper // opsOf (cAt [1, 0] B16) = l} := by
  apply Subtype.mk
  dsimp only [opsOf, cAt, kids, B16, bodyOf, Try.f16, List.getD, List.getElem?_cons_zero, List.getElem?_cons_succ, Option.getD_some]
@[simp] theorem n16_4 (s : List V) (H : Heap) : evCode P Γ call n f m (cAt [1, 0] B16) s H = regNext (evOpsGo P Γ call r16_4.1 r16_4.1 s H) := at_region (by kernel_rfl) r16_4.2 s H
attribute [simp] r16_4
@[simp] theorem n16_5 (s : List V) (H : Heap) : evCode P Γ call n f m (cAt [1, 1] B16) s H = seqNext P Γ call n f m (cAt [1, 1, 1] B16) (evCode P Γ call n f m (cAt [1, 1, 0] B16) s H) := at_seq (by kernel_rfl) rfl rfl s H
noncomputable def r16_6 : {l : List Oper // opsOf (cAt [1, 1, 0] B16) = l} := by
  apply Subtype.mk
  dsimp only [opsOf, cAt, kids, B16, bodyOf, Try.f16, List.getD, List.getElem?_cons_zero, List.getElem?_cons_succ, Option.getD_some]
@[simp] theorem n16_6 (s : List V) (H : Heap) : evCode P Γ call n f m (cAt [1, 1, 0] B16) s H = regNext (evOpsGo P Γ call r16_6.1 r16_6.1 s H) := at_region (by kernel_rfl) r16_6.2 s H
attribute [simp] r16_6
@[simp] theorem n16_7 (s : List V) (H : Heap) : evCode P Γ call n f m (cAt [1, 1, 1] B16) s H = some (.ret, s, H) := at_ret (by kernel_rfl) s H
theorem b16 {k : Nat} (ho : ∀ args H, Γ.orc 16 args H = none) (args : List V) (H : Heap) (ha : args.length ≤ 33) : evF Try.prog Γ (k + 1) 16 args H = bodyEnd Try.prog [.tmp 0] H.length (evCode Try.prog Γ (evF Try.prog Γ k) k 16 H.length (cAt [] B16) (mkL 33 V.undef (enumV 0 args)) H) := body_at Try.func16 (by decide) rfl ho rfl rfl args H ha
noncomputable def B17 : Code := bodyOf Try.f17
@[simp] theorem n17_1 (s : List V) (H : Heap) : evCode P Γ call n f m (cAt [] B17) s H = seqNext P Γ call n f m (cAt [1] B17) (evCode P Γ call n f m (cAt [0] B17) s H) := at_seq (by kernel_rfl) rfl rfl s H
noncomputable def r17_2 : {l : List Oper // opsOf (cAt [0] B17) = l} := by
  apply Subtype.mk
  dsimp only [opsOf, cAt, kids, B17, bodyOf, Try.f17, List.getD, List.getElem?_cons_zero, List.getElem?_cons_succ, Option.getD_some]
@[simp] theorem n17_2 (s : List V) (H : Heap) : evCode P Γ call n f m (cAt [0] B17) s H = regNext (evOpsGo P Γ call r17_2.1 r17_2.1 s H) := at_region (by kernel_rfl) r17_2.2 s H
attribute [simp] r17_2
@[simp] theorem n17_3 (s : List V) (H : Heap) : evCode P Γ call n f m (cAt [1] B17) s H = seqNext P Γ call n f m (cAt [1, 1] B17) (evCode P Γ call n f m (cAt [1, 0] B17) s H) := at_seq (by kernel_rfl) rfl rfl s H
noncomputable def r17_4 : {l : List Oper // opsOf (cAt [1, 0] B17) = l} := by
  apply Subtype.mk
  dsimp only [opsOf, cAt, kids, B17, bodyOf, Try.f17, List.getD, List.getElem?_cons_zero, List.getElem?_cons_succ, Option.getD_some]
@[simp] theorem n17_4 (s : List V) (H : Heap) : evCode P Γ call n f m (cAt [1, 0] B17) s H = regNext (evOpsGo P Γ call r17_4.1 r17_4.1 s H) := at_region (by kernel_rfl) r17_4.2 s H
attribute [simp] r17_4
@[simp] theorem n17_5 (s : List V) (H : Heap) : evCode P Γ call n f m (cAt [1, 1] B17) s H = some (.ret, s, H) := at_ret (by kernel_rfl) s H
theorem b17 {k : Nat} (ho : ∀ args H, Γ.orc 17 args H = none) (args : List V) (H : Heap) (ha : args.length ≤ 17) : evF Try.prog Γ (k + 1) 17 args H = bodyEnd Try.prog [.tmp 4] H.length (evCode Try.prog Γ (evF Try.prog Γ k) k 17 H.length (cAt [] B17) (mkL 17 V.undef (enumV 0 args)) H) := body_at Try.func17 (by decide) rfl ho rfl rfl args H ha
noncomputable def B45 : Code := bodyOf Try.f45
@[simp] theorem n45_1 (s : List V) (H : Heap) : evCode P Γ call n f m (cAt [] B45) s H = seqNext P Γ call n f m (cAt [1] B45) (evCode P Γ call n f m (cAt [0] B45) s H) := at_seq (by kernel_rfl) rfl rfl s H
noncomputable def r45_2 : {l : List Oper // opsOf (cAt [0] B45) = l} := by
  apply Subtype.mk
  dsimp only [opsOf, cAt, kids, B45, bodyOf, Try.f45, List.getD, List.getElem?_cons_zero, List.getElem?_cons_succ, Option.getD_some]
@[simp] theorem n45_2 (s : List V) (H : Heap) : evCode P Γ call n f m (cAt [0] B45) s H = regNext (evOpsGo P Γ call r45_2.1 r45_2.1 s H) := at_region (by kernel_rfl) r45_2.2 s H
attribute [simp] r45_2
@[simp] theorem n45_3 (s : List V) (H : Heap) : evCode P Γ call n f m (cAt [1] B45) s H = seqNext P Γ call n f m (cAt [1, 1] B45) (evCode P Γ call n f m (cAt [1, 0] B45) s H) := at_seq (by kernel_rfl) rfl rfl s H
noncomputable def r45_4 : {l : List Oper // opsOf (cAt [1, 0] B45) = l} := by
  apply Subtype.mk
  dsimp only [opsOf, cAt, kids, B45, bodyOf, Try.f45, List.getD, List.getElem?_cons_zero, List.getElem?_cons_succ, Option.getD_some]
@[simp] theorem n45_4 (s : List V) (H : Heap) : evCode P Γ call n f m (cAt [1, 0] B45) s H = regNext (evOpsGo P Γ call r45_4.1 r45_4.1 s H) := at_region (by kernel_rfl) r45_4.2 s H
attribute [simp] r45_4
@[simp] theorem n45_5 (s : List V) (H : Heap) : evCode P Γ call n f m (cAt [1, 1] B45) s H = seqNext P Γ call n f m (cAt [1, 1, 1] B45) (evCode P Γ call n f m (cAt [1, 1, 0] B45) s H) := at_seq (by kernel_rfl) rfl rfl s H
@[simp] theorem n45_6 (s : List V) (H : Heap) : evCode P Γ call n f m (cAt [1, 1, 0] B45) s H = blockNext 0 (evCode P Γ call n f m (cAt [1, 1, 0, 0] B45) s H) := at_block (by kernel_rfl) rfl s H
@[simp] theorem n45_7 (s : List V) (H : Heap) : evCode P Γ call n f m (cAt [1, 1, 0, 0] B45) s H = evLoopC P Γ call n f m (cAt [1, 1, 0, 0, 0] B45) n s H := at_loop (by kernel_rfl) rfl s H
noncomputable abbrev L45_2 : Code := cAt [1, 1, 0, 0, 0] B45
@[simp] theorem n45_7f : firstRegion (cAt [1, 1, 0, 0, 0] B45) = 2 := by kernel_rfl
@[simp] theorem n45_8 (s : List V) (H : Heap) : evCode P Γ call n f m (cAt [1, 1, 0, 0, 0] B45) s H = seqNext P Γ call n f m (cAt [1, 1, 0, 0, 0, 1] B45) (evCode P Γ call n f m (cAt [1, 1, 0, 0, 0, 0] B45) s H) := at_seq (by kernel_rfl) rfl rfl s H
@[simp] theorem n45_9 (s : List V) (H : Heap) : evCode P Γ call n f m (cAt [1, 1, 0, 0, 0, 0] B45) s H = seqNext P Γ call n f m (cAt [1, 1, 0, 0, 0, 0, 1] B45) (evCode P Γ call n f m (cAt [1, 1, 0, 0, 0, 0, 0] B45) s H) := at_seq (by kernel_rfl) rfl rfl s H
noncomputable def r45_10 : {l : List Oper // opsOf (cAt [1, 1, 0, 0, 0, 0, 0] B45) = l} := by
  apply Subtype.mk
  dsimp only [opsOf, cAt, kids, B45, bodyOf, Try.f45, List.getD, List.getElem?_cons_zero, List.getElem?_cons_succ, Option.getD_some]
@[simp] theorem n45_10 (s : List V) (H : Heap) : evCode P Γ call n f m (cAt [1, 1, 0, 0, 0, 0, 0] B45) s H = regNext (evOpsGo P Γ call r45_10.1 r45_10.1 s H) := at_region (by kernel_rfl) r45_10.2 s H
attribute [simp] r45_10
@[simp] theorem n45_11 (s : List V) (H : Heap) : evCode P Γ call n f m (cAt [1, 1, 0, 0, 0, 0, 1] B45) s H = condW P Γ call n f m (cAt [1, 1, 0, 0, 0, 0, 1, 0] B45) (cAt [1, 1, 0, 0, 0, 0, 1, 1] B45) s H (evOperand Γ s (.tmp 6)) := at_cond (by kernel_rfl) (by kernel_rfl) rfl rfl s H
@[simp] theorem n45_12 (s : List V) (H : Heap) : evCode P Γ call n f m (cAt [1, 1, 0, 0, 0, 0, 1, 0] B45) s H = some (.normal, s, H) := at_skip (by kernel_rfl) s H
@[simp] theorem n45_13 (s : List V) (H : Heap) : evCode P Γ call n f m (cAt [1, 1, 0, 0, 0, 0, 1, 1] B45) s H = some (.exit 0, s, H) := at_exit (by kernel_rfl) s H
@[simp] theorem n45_14 (s : List V) (H : Heap) : evCode P Γ call n f m (cAt [1, 1, 0, 0, 0, 1] B45) s H = blockNext 1 (evCode P Γ call n f m (cAt [1, 1, 0, 0, 0, 1, 0] B45) s H) := at_block (by kernel_rfl) rfl s H
@[simp] theorem n45_15 (s : List V) (H : Heap) : evCode P Γ call n f m (cAt [1, 1, 0, 0, 0, 1, 0] B45) s H = seqNext P Γ call n f m (cAt [1, 1, 0, 0, 0, 1, 0, 1] B45) (evCode P Γ call n f m (cAt [1, 1, 0, 0, 0, 1, 0, 0] B45) s H) := at_seq (by kernel_rfl) rfl rfl s H
noncomputable def r45_16 : {l : List Oper // opsOf (cAt [1, 1, 0, 0, 0, 1, 0, 0] B45) = l} := by
  apply Subtype.mk
  dsimp only [opsOf, cAt, kids, B45, bodyOf, Try.f45, List.getD, List.getElem?_cons_zero, List.getElem?_cons_succ, Option.getD_some]
@[simp] theorem n45_16 (s : List V) (H : Heap) : evCode P Γ call n f m (cAt [1, 1, 0, 0, 0, 1, 0, 0] B45) s H = regNext (evOpsGo P Γ call r45_16.1 r45_16.1 s H) := at_region (by kernel_rfl) r45_16.2 s H
attribute [simp] r45_16
noncomputable def r45_17 : {l : List Oper // opsOf (cAt [1, 1, 0, 0, 0, 1, 0, 1] B45) = l} := by
  apply Subtype.mk
  dsimp only [opsOf, cAt, kids, B45, bodyOf, Try.f45, List.getD, List.getElem?_cons_zero, List.getElem?_cons_succ, Option.getD_some]
@[simp] theorem n45_17 (s : List V) (H : Heap) : evCode P Γ call n f m (cAt [1, 1, 0, 0, 0, 1, 0, 1] B45) s H = regNext (evOpsGo P Γ call r45_17.1 r45_17.1 s H) := at_region (by kernel_rfl) r45_17.2 s H
attribute [simp] r45_17
@[simp] theorem n45_18 (s : List V) (H : Heap) : evCode P Γ call n f m (cAt [1, 1, 1] B45) s H = seqNext P Γ call n f m (cAt [1, 1, 1, 1] B45) (evCode P Γ call n f m (cAt [1, 1, 1, 0] B45) s H) := at_seq (by kernel_rfl) rfl rfl s H
noncomputable def r45_19 : {l : List Oper // opsOf (cAt [1, 1, 1, 0] B45) = l} := by
  apply Subtype.mk
  dsimp only [opsOf, cAt, kids, B45, bodyOf, Try.f45, List.getD, List.getElem?_cons_zero, List.getElem?_cons_succ, Option.getD_some]
@[simp] theorem n45_19 (s : List V) (H : Heap) : evCode P Γ call n f m (cAt [1, 1, 1, 0] B45) s H = regNext (evOpsGo P Γ call r45_19.1 r45_19.1 s H) := at_region (by kernel_rfl) r45_19.2 s H
attribute [simp] r45_19
@[simp] theorem n45_20 (s : List V) (H : Heap) : evCode P Γ call n f m (cAt [1, 1, 1, 1] B45) s H = some (.ret, s, H) := at_ret (by kernel_rfl) s H
theorem b45 {k : Nat} (ho : ∀ args H, Γ.orc 45 args H = none) (args : List V) (H : Heap) (ha : args.length ≤ 18) : evF Try.prog Γ (k + 1) 45 args H = bodyEnd Try.prog [.tmp 2] H.length (evCode Try.prog Γ (evF Try.prog Γ k) k 45 H.length (cAt [] B45) (mkL 18 V.undef (enumV 0 args)) H) := body_at Try.func45 (by decide) rfl ho rfl rfl args H ha
noncomputable def B46 : Code := bodyOf Try.f46
@[simp] theorem n46_1 (s : List V) (H : Heap) : evCode P Γ call n f m (cAt [] B46) s H = seqNext P Γ call n f m (cAt [1] B46) (evCode P Γ call n f m (cAt [0] B46) s H) := at_seq (by kernel_rfl) rfl rfl s H
noncomputable def r46_2 : {l : List Oper // opsOf (cAt [0] B46) = l} := by
  apply Subtype.mk
  dsimp only [opsOf, cAt, kids, B46, bodyOf, Try.f46, List.getD, List.getElem?_cons_zero, List.getElem?_cons_succ, Option.getD_some]
@[simp] theorem n46_2 (s : List V) (H : Heap) : evCode P Γ call n f m (cAt [0] B46) s H = regNext (evOpsGo P Γ call r46_2.1 r46_2.1 s H) := at_region (by kernel_rfl) r46_2.2 s H
attribute [simp] r46_2
@[simp] theorem n46_3 (s : List V) (H : Heap) : evCode P Γ call n f m (cAt [1] B46) s H = seqNext P Γ call n f m (cAt [1, 1] B46) (evCode P Γ call n f m (cAt [1, 0] B46) s H) := at_seq (by kernel_rfl) rfl rfl s H
noncomputable def r46_4 : {l : List Oper // opsOf (cAt [1, 0] B46) = l} := by
  apply Subtype.mk
  dsimp only [opsOf, cAt, kids, B46, bodyOf, Try.f46, List.getD, List.getElem?_cons_zero, List.getElem?_cons_succ, Option.getD_some]
@[simp] theorem n46_4 (s : List V) (H : Heap) : evCode P Γ call n f m (cAt [1, 0] B46) s H = regNext (evOpsGo P Γ call r46_4.1 r46_4.1 s H) := at_region (by kernel_rfl) r46_4.2 s H
attribute [simp] r46_4
@[simp] theorem n46_5 (s : List V) (H : Heap) : evCode P Γ call n f m (cAt [1, 1] B46) s H = seqNext P Γ call n f m (cAt [1, 1, 1] B46) (evCode P Γ call n f m (cAt [1, 1, 0] B46) s H) := at_seq (by kernel_rfl) rfl rfl s H
noncomputable def r46_6 : {l : List Oper // opsOf (cAt [1, 1, 0] B46) = l} := by
  apply Subtype.mk
  dsimp only [opsOf, cAt, kids, B46, bodyOf, Try.f46, List.getD, List.getElem?_cons_zero, List.getElem?_cons_succ, Option.getD_some]
@[simp] theorem n46_6 (s : List V) (H : Heap) : evCode P Γ call n f m (cAt [1, 1, 0] B46) s H = regNext (evOpsGo P Γ call r46_6.1 r46_6.1 s H) := at_region (by kernel_rfl) r46_6.2 s H
attribute [simp] r46_6
@[simp] theorem n46_7 (s : List V) (H : Heap) : evCode P Γ call n f m (cAt [1, 1, 1] B46) s H = seqNext P Γ call n f m (cAt [1, 1, 1, 1] B46) (evCode P Γ call n f m (cAt [1, 1, 1, 0] B46) s H) := at_seq (by kernel_rfl) rfl rfl s H
noncomputable def r46_8 : {l : List Oper // opsOf (cAt [1, 1, 1, 0] B46) = l} := by
  apply Subtype.mk
  dsimp only [opsOf, cAt, kids, B46, bodyOf, Try.f46, List.getD, List.getElem?_cons_zero, List.getElem?_cons_succ, Option.getD_some]
@[simp] theorem n46_8 (s : List V) (H : Heap) : evCode P Γ call n f m (cAt [1, 1, 1, 0] B46) s H = regNext (evOpsGo P Γ call r46_8.1 r46_8.1 s H) := at_region (by kernel_rfl) r46_8.2 s H
attribute [simp] r46_8
@[simp] theorem n46_9 (s : List V) (H : Heap) : evCode P Γ call n f m (cAt [1, 1, 1, 1] B46) s H = some (.ret, s, H) := at_ret (by kernel_rfl) s H
theorem b46 {k : Nat} (ho : ∀ args H, Γ.orc 46 args H = none) (args : List V) (H : Heap) (ha : args.length ≤ 6) : evF Try.prog Γ (k + 1) 46 args H = bodyEnd Try.prog [.tmp 0] H.length (evCode Try.prog Γ (evF Try.prog Γ k) k 46 H.length (cAt [] B46) (mkL 6 V.undef (enumV 0 args)) H) := body_at Try.func46 (by decide) rfl ho rfl rfl args H ha
noncomputable def B47 : Code := bodyOf Try.f47
@[simp] theorem n47_1 (s : List V) (H : Heap) : evCode P Γ call n f m (cAt [] B47) s H = seqNext P Γ call n f m (cAt [1] B47) (evCode P Γ call n f m (cAt [0] B47) s H) := at_seq (by kernel_rfl) rfl rfl s H
noncomputable def r47_2 : {l : List Oper // opsOf (cAt [0] B47) = l} := by
  apply Subtype.mk
  dsimp only [opsOf, cAt, kids, B47, bodyOf, Try.f47, List.getD, List.getElem?_cons_zero, List.getElem?_cons_succ, Option.getD_some]
@[simp] theorem n47_2 (s : List V) (H : Heap) : evCode P Γ call n f m (cAt [0] B47) s H = regNext (evOpsGo P Γ call r47_2.1 r47_2.1 s H) := at_region (by kernel_rfl) r47_2.2 s H
attribute [simp] r47_2
@[simp] theorem n47_3 (s : List V) (H : Heap) : evCode P Γ call n f m (cAt [1] B47) s H = seqNext P Γ call n f m (cAt [1, 1] B47) (evCode P Γ call n f m (cAt [1, 0] B47) s H) := at_seq (by kernel_rfl) rfl rfl s H
noncomputable def r47_4 : {l : List Oper // opsOf (cAt [1, 0] B47) = l} := by
  apply Subtype.mk
  dsimp only [opsOf, cAt, kids, B47, bodyOf, Try.f47, List.getD, List.getElem?_cons_zero, List.getElem?_cons_succ, Option.getD_some]
@[simp] theorem n47_4 (s : List V) (H : Heap) : evCode P Γ call n f m (cAt [1, 0] B47) s H = regNext (evOpsGo P Γ call r47_4.1 r47_4.1 s H) := at_region (by kernel_rfl) r47_4.2 s H
attribute [simp] r47_4
@[simp] theorem n47_5 (s : List V) (H : Heap) : evCode P Γ call n f m (cAt [1, 1] B47) s H = some (.ret, s, H) := at_ret (by kernel_rfl) s H
theorem b47 {k : Nat} (ho : ∀ args H, Γ.orc 47 args H = none) (args : List V) (H : Heap) (ha : args.length ≤ 26) : evF Try.prog Γ (k + 1) 47 args H = bodyEnd Try.prog [.tmp 4] H.length (evCode Try.prog Γ (evF Try.prog Γ k) k 47 H.length (cAt [] B47) (mkL 26 V.undef (enumV 0 args)) H) := body_at Try.func47 (by decide) rfl ho rfl rfl args H ha
end
end Go.Ev.Try
