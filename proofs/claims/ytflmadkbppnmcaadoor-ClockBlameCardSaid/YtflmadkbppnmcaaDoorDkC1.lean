/-
  CODE BY NAMES, printed by wip/tools/codes.py (own work).
-/
import Derived.Test.YtflmadkbppnmcaaDoorDkC0
set_option maxRecDepth 100000
set_option linter.unusedVariables false
namespace Go.Ev.Tryd
open Go Go.Ev Go.Proofs
section
variable {P : Program} {Γ : Env} {call : CallF} {n f m : Nat}

noncomputable def B26 : Code := bodyOf Tryd.f26
@[simp] theorem n26_1 (s : List V) (H : Heap) : evCode P Γ call n f m (cAt [] B26) s H = seqNext P Γ call n f m (cAt [1] B26) (evCode P Γ call n f m (cAt [0] B26) s H) := at_seq (by kernel_rfl) rfl rfl s H
noncomputable def r26_2 : {l : List Oper // opsOf (cAt [0] B26) = l} := by
  apply Subtype.mk
  dsimp only [opsOf, cAt, kids, B26, bodyOf, Tryd.f26, List.getD, List.getElem?_cons_zero, List.getElem?_cons_succ, Option.getD_some]
@[simp] theorem n26_2 (s : List V) (H : Heap) : evCode P Γ call n f m (cAt [0] B26) s H = regNext (evOpsGo P Γ call r26_2.1 r26_2.1 s H) := at_region (by kernel_rfl) r26_2.2 s H
attribute [simp] r26_2
@[simp] theorem n26_3 (s : List V) (H : Heap) : evCode P Γ call n f m (cAt [1] B26) s H = seqNext P Γ call n f m (cAt [1, 1] B26) (evCode P Γ call n f m (cAt [1, 0] B26) s H) := at_seq (by kernel_rfl) rfl rfl s H
noncomputable def r26_4 : {l : List Oper // opsOf (cAt [1, 0] B26) = l} := by
  apply Subtype.mk
  dsimp only [opsOf, cAt, kids, B26, bodyOf, Tryd.f26, List.getD, List.getElem?_cons_zero, List.getElem?_cons_succ, Option.getD_some]
@[simp] theorem n26_4 (s : List V) (H : Heap) : evCode P Γ call n f m (cAt [1, 0] B26) s H = regNext (evOpsGo P Γ call r26_4.1 r26_4.1 s H) := at_region (by kernel_rfl) r26_4.2 s H
attribute [simp] r26_4
@[simp] theorem n26_5 (s : List V) (H : Heap) : evCode P Γ call n f m (cAt [1, 1] B26) s H = seqNext P Γ call n f m (cAt [1, 1, 1] B26) (evCode P Γ call n f m (cAt [1, 1, 0] B26) s H) := at_seq (by kernel_rfl) rfl rfl s H
@[simp] theorem n26_6 (s : List V) (H : Heap) : evCode P Γ call n f m (cAt [1, 1, 0] B26) s H = seqNext P Γ call n f m (cAt [1, 1, 0, 1] B26) (evCode P Γ call n f m (cAt [1, 1, 0, 0] B26) s H) := at_seq (by kernel_rfl) rfl rfl s H
noncomputable def r26_7 : {l : List Oper // opsOf (cAt [1, 1, 0, 0] B26) = l} := by
  apply Subtype.mk
  dsimp only [opsOf, cAt, kids, B26, bodyOf, Tryd.f26, List.getD, List.getElem?_cons_zero, List.getElem?_cons_succ, Option.getD_some]
@[simp] theorem n26_7 (s : List V) (H : Heap) : evCode P Γ call n f m (cAt [1, 1, 0, 0] B26) s H = regNext (evOpsGo P Γ call r26_7.1 r26_7.1 s H) := at_region (by kernel_rfl) r26_7.2 s H
attribute [simp] r26_7
@[simp] theorem n26_8 (s : List V) (H : Heap) : evCode P Γ call n f m (cAt [1, 1, 0, 1] B26) s H = blockNext 0 (evCode P Γ call n f m (cAt [1, 1, 0, 1, 0] B26) s H) := at_block (by kernel_rfl) rfl s H
@[simp] theorem n26_9 (s : List V) (H : Heap) : evCode P Γ call n f m (cAt [1, 1, 0, 1, 0] B26) s H = evLoopC P Γ call n f m (cAt [1, 1, 0, 1, 0, 0] B26) n s H := at_loop (by kernel_rfl) rfl s H
noncomputable abbrev L26_3 : Code := cAt [1, 1, 0, 1, 0, 0] B26
@[simp] theorem n26_9f : firstRegion (cAt [1, 1, 0, 1, 0, 0] B26) = 3 := by kernel_rfl
@[simp] theorem n26_10 (s : List V) (H : Heap) : evCode P Γ call n f m (cAt [1, 1, 0, 1, 0, 0] B26) s H = seqNext P Γ call n f m (cAt [1, 1, 0, 1, 0, 0, 1] B26) (evCode P Γ call n f m (cAt [1, 1, 0, 1, 0, 0, 0] B26) s H) := at_seq (by kernel_rfl) rfl rfl s H
noncomputable def r26_11 : {l : List Oper // opsOf (cAt [1, 1, 0, 1, 0, 0, 0] B26) = l} := by
  apply Subtype.mk
  dsimp only [opsOf, cAt, kids, B26, bodyOf, Tryd.f26, List.getD, List.getElem?_cons_zero, List.getElem?_cons_succ, Option.getD_some]
@[simp] theorem n26_11 (s : List V) (H : Heap) : evCode P Γ call n f m (cAt [1, 1, 0, 1, 0, 0, 0] B26) s H = regNext (evOpsGo P Γ call r26_11.1 r26_11.1 s H) := at_region (by kernel_rfl) r26_11.2 s H
attribute [simp] r26_11
@[simp] theorem n26_12 (s : List V) (H : Heap) : evCode P Γ call n f m (cAt [1, 1, 0, 1, 0, 0, 1] B26) s H = seqNext P Γ call n f m (cAt [1, 1, 0, 1, 0, 0, 1, 1] B26) (evCode P Γ call n f m (cAt [1, 1, 0, 1, 0, 0, 1, 0] B26) s H) := at_seq (by kernel_rfl) rfl rfl s H
@[simp] theorem n26_13 (s : List V) (H : Heap) : evCode P Γ call n f m (cAt [1, 1, 0, 1, 0, 0, 1, 0] B26) s H = condW P Γ call n f m (cAt [1, 1, 0, 1, 0, 0, 1, 0, 0] B26) (cAt [1, 1, 0, 1, 0, 0, 1, 0, 1] B26) s H (evOperand Γ s (.tmp 9)) := at_cond (by kernel_rfl) (by kernel_rfl) rfl rfl s H
@[simp] theorem n26_14 (s : List V) (H : Heap) : evCode P Γ call n f m (cAt [1, 1, 0, 1, 0, 0, 1, 0, 0] B26) s H = some (.normal, s, H) := at_skip (by kernel_rfl) s H
@[simp] theorem n26_15 (s : List V) (H : Heap) : evCode P Γ call n f m (cAt [1, 1, 0, 1, 0, 0, 1, 0, 1] B26) s H = some (.exit 0, s, H) := at_exit (by kernel_rfl) s H
@[simp] theorem n26_16 (s : List V) (H : Heap) : evCode P Γ call n f m (cAt [1, 1, 0, 1, 0, 0, 1, 1] B26) s H = seqNext P Γ call n f m (cAt [1, 1, 0, 1, 0, 0, 1, 1, 1] B26) (evCode P Γ call n f m (cAt [1, 1, 0, 1, 0, 0, 1, 1, 0] B26) s H) := at_seq (by kernel_rfl) rfl rfl s H
@[simp] theorem n26_17 (s : List V) (H : Heap) : evCode P Γ call n f m (cAt [1, 1, 0, 1, 0, 0, 1, 1, 0] B26) s H = blockNext 1 (evCode P Γ call n f m (cAt [1, 1, 0, 1, 0, 0, 1, 1, 0, 0] B26) s H) := at_block (by kernel_rfl) rfl s H
@[simp] theorem n26_18 (s : List V) (H : Heap) : evCode P Γ call n f m (cAt [1, 1, 0, 1, 0, 0, 1, 1, 0, 0] B26) s H = seqNext P Γ call n f m (cAt [1, 1, 0, 1, 0, 0, 1, 1, 0, 0, 1] B26) (evCode P Γ call n f m (cAt [1, 1, 0, 1, 0, 0, 1, 1, 0, 0, 0] B26) s H) := at_seq (by kernel_rfl) rfl rfl s H
noncomputable def r26_19 : {l : List Oper // opsOf (cAt [1, 1, 0, 1, 0, 0, 1, 1, 0, 0, 0] B26) = l} := by
  apply Subtype.mk
  dsimp only [opsOf, cAt, kids, B26, bodyOf, Tryd.f26, List.getD, List.getElem?_cons_zero, List.getElem?_cons_succ, Option.getD_some]
@[simp] theorem n26_19 (s : List V) (H : Heap) : evCode P Γ call n f m (cAt [1, 1, 0, 1, 0, 0, 1, 1, 0, 0, 0] B26) s H = regNext (evOpsGo P Γ call r26_19.1 r26_19.1 s H) := at_region (by kernel_rfl) r26_19.2 s H
attribute [simp] r26_19
noncomputable def r26_20 : {l : List Oper // opsOf (cAt [1, 1, 0, 1, 0, 0, 1, 1, 0, 0, 1] B26) = l} := by
  apply Subtype.mk
  dsimp only [opsOf, cAt, kids, B26, bodyOf, Tryd.f26, List.getD, List.getElem?_cons_zero, List.getElem?_cons_succ, Option.getD_some]
@[simp] theorem n26_20 (s : List V) (H : Heap) : evCode P Γ call n f m (cAt [1, 1, 0, 1, 0, 0, 1, 1, 0, 0, 1] B26) s H = regNext (evOpsGo P Γ call r26_20.1 r26_20.1 s H) := at_region (by kernel_rfl) r26_20.2 s H
attribute [simp] r26_20
noncomputable def r26_21 : {l : List Oper // opsOf (cAt [1, 1, 0, 1, 0, 0, 1, 1, 1] B26) = l} := by
  apply Subtype.mk
  dsimp only [opsOf, cAt, kids, B26, bodyOf, Tryd.f26, List.getD, List.getElem?_cons_zero, List.getElem?_cons_succ, Option.getD_some]
@[simp] theorem n26_21 (s : List V) (H : Heap) : evCode P Γ call n f m (cAt [1, 1, 0, 1, 0, 0, 1, 1, 1] B26) s H = regNext (evOpsGo P Γ call r26_21.1 r26_21.1 s H) := at_region (by kernel_rfl) r26_21.2 s H
attribute [simp] r26_21
@[simp] theorem n26_22 (s : List V) (H : Heap) : evCode P Γ call n f m (cAt [1, 1, 1] B26) s H = seqNext P Γ call n f m (cAt [1, 1, 1, 1] B26) (evCode P Γ call n f m (cAt [1, 1, 1, 0] B26) s H) := at_seq (by kernel_rfl) rfl rfl s H
noncomputable def r26_23 : {l : List Oper // opsOf (cAt [1, 1, 1, 0] B26) = l} := by
  apply Subtype.mk
  dsimp only [opsOf, cAt, kids, B26, bodyOf, Tryd.f26, List.getD, List.getElem?_cons_zero, List.getElem?_cons_succ, Option.getD_some]
@[simp] theorem n26_23 (s : List V) (H : Heap) : evCode P Γ call n f m (cAt [1, 1, 1, 0] B26) s H = regNext (evOpsGo P Γ call r26_23.1 r26_23.1 s H) := at_region (by kernel_rfl) r26_23.2 s H
attribute [simp] r26_23
@[simp] theorem n26_24 (s : List V) (H : Heap) : evCode P Γ call n f m (cAt [1, 1, 1, 1] B26) s H = seqNext P Γ call n f m (cAt [1, 1, 1, 1, 1] B26) (evCode P Γ call n f m (cAt [1, 1, 1, 1, 0] B26) s H) := at_seq (by kernel_rfl) rfl rfl s H
noncomputable def r26_25 : {l : List Oper // opsOf (cAt [1, 1, 1, 1, 0] B26) = l} := by
  apply Subtype.mk
  dsimp only [opsOf, cAt, kids, B26, bodyOf, Tryd.f26, List.getD, List.getElem?_cons_zero, List.getElem?_cons_succ, Option.getD_some]
@[simp] theorem n26_25 (s : List V) (H : Heap) : evCode P Γ call n f m (cAt [1, 1, 1, 1, 0] B26) s H = regNext (evOpsGo P Γ call r26_25.1 r26_25.1 s H) := at_region (by kernel_rfl) r26_25.2 s H
attribute [simp] r26_25
@[simp] theorem n26_26 (s : List V) (H : Heap) : evCode P Γ call n f m (cAt [1, 1, 1, 1, 1] B26) s H = some (.ret, s, H) := at_ret (by kernel_rfl) s H
theorem b26 {k : Nat} (ho : ∀ args H, Γ.orc 26 args H = none) (args : List V) (H : Heap) (ha : args.length ≤ 22) : evF Tryd.prog Γ (k + 1) 26 args H = bodyEnd Tryd.prog [.tmp 2] H.length (evCode Tryd.prog Γ (evF Tryd.prog Γ k) k 26 H.length (cAt [] B26) (mkL 22 V.undef (enumV 0 args)) H) := body_at Tryd.func26 (by decide) rfl ho rfl rfl args H ha
noncomputable def B23 : Code := bodyOf Tryd.f23
@[simp] theorem n23_1 (s : List V) (H : Heap) : evCode P Γ call n f m (cAt [] B23) s H = seqNext P Γ call n f m (cAt [1] B23) (evCode P Γ call n f m (cAt [0] B23) s H) := at_seq (by kernel_rfl) rfl rfl s H
noncomputable def r23_2 : {l : List Oper // opsOf (cAt [0] B23) = l} := by
  apply Subtype.mk
  dsimp only [opsOf, cAt, kids, B23, bodyOf, Tryd.f23, List.getD, List.getElem?_cons_zero, List.getElem?_cons_succ, Option.getD_some]
@[simp] theorem n23_2 (s : List V) (H : Heap) : evCode P Γ call n f m (cAt [0] B23) s H = regNext (evOpsGo P Γ call r23_2.1 r23_2.1 s H) := at_region (by kernel_rfl) r23_2.2 s H
attribute [simp] r23_2
@[simp] theorem n23_3 (s : List V) (H : Heap) : evCode P Γ call n f m (cAt [1] B23) s H = seqNext P Γ call n f m (cAt [1, 1] B23) (evCode P Γ call n f m (cAt [1, 0] B23) s H) := at_seq (by kernel_rfl) rfl rfl s H
@[simp] theorem n23_4 (s : List V) (H : Heap) : evCode P Γ call n f m (cAt [1, 0] B23) s H = seqNext P Γ call n f m (cAt [1, 0, 1] B23) (evCode P Γ call n f m (cAt [1, 0, 0] B23) s H) := at_seq (by kernel_rfl) rfl rfl s H
noncomputable def r23_5 : {l : List Oper // opsOf (cAt [1, 0, 0] B23) = l} := by
  apply Subtype.mk
  dsimp only [opsOf, cAt, kids, B23, bodyOf, Tryd.f23, List.getD, List.getElem?_cons_zero, List.getElem?_cons_succ, Option.getD_some]
@[simp] theorem n23_5 (s : List V) (H : Heap) : evCode P Γ call n f m (cAt [1, 0, 0] B23) s H = regNext (evOpsGo P Γ call r23_5.1 r23_5.1 s H) := at_region (by kernel_rfl) r23_5.2 s H
attribute [simp] r23_5
@[simp] theorem n23_6 (s : List V) (H : Heap) : evCode P Γ call n f m (cAt [1, 0, 1] B23) s H = condW P Γ call n f m (cAt [1, 0, 1, 0] B23) (cAt [1, 0, 1, 1] B23) s H (evOperand Γ s (.tmp 22)) := at_cond (by kernel_rfl) (by kernel_rfl) rfl rfl s H
@[simp] theorem n23_7 (s : List V) (H : Heap) : evCode P Γ call n f m (cAt [1, 0, 1, 0] B23) s H = seqNext P Γ call n f m (cAt [1, 0, 1, 0, 1] B23) (evCode P Γ call n f m (cAt [1, 0, 1, 0, 0] B23) s H) := at_seq (by kernel_rfl) rfl rfl s H
noncomputable def r23_8 : {l : List Oper // opsOf (cAt [1, 0, 1, 0, 0] B23) = l} := by
  apply Subtype.mk
  dsimp only [opsOf, cAt, kids, B23, bodyOf, Tryd.f23, List.getD, List.getElem?_cons_zero, List.getElem?_cons_succ, Option.getD_some]
@[simp] theorem n23_8 (s : List V) (H : Heap) : evCode P Γ call n f m (cAt [1, 0, 1, 0, 0] B23) s H = regNext (evOpsGo P Γ call r23_8.1 r23_8.1 s H) := at_region (by kernel_rfl) r23_8.2 s H
attribute [simp] r23_8
@[simp] theorem n23_9 (s : List V) (H : Heap) : evCode P Γ call n f m (cAt [1, 0, 1, 0, 1] B23) s H = some (.ret, s, H) := at_ret (by kernel_rfl) s H
@[simp] theorem n23_10 (s : List V) (H : Heap) : evCode P Γ call n f m (cAt [1, 0, 1, 1] B23) s H = some (.normal, s, H) := at_skip (by kernel_rfl) s H
@[simp] theorem n23_11 (s : List V) (H : Heap) : evCode P Γ call n f m (cAt [1, 1] B23) s H = seqNext P Γ call n f m (cAt [1, 1, 1] B23) (evCode P Γ call n f m (cAt [1, 1, 0] B23) s H) := at_seq (by kernel_rfl) rfl rfl s H
@[simp] theorem n23_12 (s : List V) (H : Heap) : evCode P Γ call n f m (cAt [1, 1, 0] B23) s H = seqNext P Γ call n f m (cAt [1, 1, 0, 1] B23) (evCode P Γ call n f m (cAt [1, 1, 0, 0] B23) s H) := at_seq (by kernel_rfl) rfl rfl s H
noncomputable def r23_13 : {l : List Oper // opsOf (cAt [1, 1, 0, 0] B23) = l} := by
  apply Subtype.mk
  dsimp only [opsOf, cAt, kids, B23, bodyOf, Tryd.f23, List.getD, List.getElem?_cons_zero, List.getElem?_cons_succ, Option.getD_some]
@[simp] theorem n23_13 (s : List V) (H : Heap) : evCode P Γ call n f m (cAt [1, 1, 0, 0] B23) s H = regNext (evOpsGo P Γ call r23_13.1 r23_13.1 s H) := at_region (by kernel_rfl) r23_13.2 s H
attribute [simp] r23_13
@[simp] theorem n23_14 (s : List V) (H : Heap) : evCode P Γ call n f m (cAt [1, 1, 0, 1] B23) s H = blockNext 0 (evCode P Γ call n f m (cAt [1, 1, 0, 1, 0] B23) s H) := at_block (by kernel_rfl) rfl s H
@[simp] theorem n23_15 (s : List V) (H : Heap) : evCode P Γ call n f m (cAt [1, 1, 0, 1, 0] B23) s H = evLoopC P Γ call n f m (cAt [1, 1, 0, 1, 0, 0] B23) n s H := at_loop (by kernel_rfl) rfl s H
noncomputable abbrev L23_4 : Code := cAt [1, 1, 0, 1, 0, 0] B23
@[simp] theorem n23_15f : firstRegion (cAt [1, 1, 0, 1, 0, 0] B23) = 4 := by kernel_rfl
@[simp] theorem n23_16 (s : List V) (H : Heap) : evCode P Γ call n f m (cAt [1, 1, 0, 1, 0, 0] B23) s H = seqNext P Γ call n f m (cAt [1, 1, 0, 1, 0, 0, 1] B23) (evCode P Γ call n f m (cAt [1, 1, 0, 1, 0, 0, 0] B23) s H) := at_seq (by kernel_rfl) rfl rfl s H
noncomputable def r23_17 : {l : List Oper // opsOf (cAt [1, 1, 0, 1, 0, 0, 0] B23) = l} := by
  apply Subtype.mk
  dsimp only [opsOf, cAt, kids, B23, bodyOf, Tryd.f23, List.getD, List.getElem?_cons_zero, List.getElem?_cons_succ, Option.getD_some]
@[simp] theorem n23_17 (s : List V) (H : Heap) : evCode P Γ call n f m (cAt [1, 1, 0, 1, 0, 0, 0] B23) s H = regNext (evOpsGo P Γ call r23_17.1 r23_17.1 s H) := at_region (by kernel_rfl) r23_17.2 s H
attribute [simp] r23_17
@[simp] theorem n23_18 (s : List V) (H : Heap) : evCode P Γ call n f m (cAt [1, 1, 0, 1, 0, 0, 1] B23) s H = seqNext P Γ call n f m (cAt [1, 1, 0, 1, 0, 0, 1, 1] B23) (evCode P Γ call n f m (cAt [1, 1, 0, 1, 0, 0, 1, 0] B23) s H) := at_seq (by kernel_rfl) rfl rfl s H
@[simp] theorem n23_19 (s : List V) (H : Heap) : evCode P Γ call n f m (cAt [1, 1, 0, 1, 0, 0, 1, 0] B23) s H = condW P Γ call n f m (cAt [1, 1, 0, 1, 0, 0, 1, 0, 0] B23) (cAt [1, 1, 0, 1, 0, 0, 1, 0, 1] B23) s H (evOperand Γ s (.tmp 26)) := at_cond (by kernel_rfl) (by kernel_rfl) rfl rfl s H
@[simp] theorem n23_20 (s : List V) (H : Heap) : evCode P Γ call n f m (cAt [1, 1, 0, 1, 0, 0, 1, 0, 0] B23) s H = some (.normal, s, H) := at_skip (by kernel_rfl) s H
@[simp] theorem n23_21 (s : List V) (H : Heap) : evCode P Γ call n f m (cAt [1, 1, 0, 1, 0, 0, 1, 0, 1] B23) s H = some (.exit 0, s, H) := at_exit (by kernel_rfl) s H
@[simp] theorem n23_22 (s : List V) (H : Heap) : evCode P Γ call n f m (cAt [1, 1, 0, 1, 0, 0, 1, 1] B23) s H = seqNext P Γ call n f m (cAt [1, 1, 0, 1, 0, 0, 1, 1, 1] B23) (evCode P Γ call n f m (cAt [1, 1, 0, 1, 0, 0, 1, 1, 0] B23) s H) := at_seq (by kernel_rfl) rfl rfl s H
@[simp] theorem n23_23 (s : List V) (H : Heap) : evCode P Γ call n f m (cAt [1, 1, 0, 1, 0, 0, 1, 1, 0] B23) s H = blockNext 1 (evCode P Γ call n f m (cAt [1, 1, 0, 1, 0, 0, 1, 1, 0, 0] B23) s H) := at_block (by kernel_rfl) rfl s H
@[simp] theorem n23_24 (s : List V) (H : Heap) : evCode P Γ call n f m (cAt [1, 1, 0, 1, 0, 0, 1, 1, 0, 0] B23) s H = seqNext P Γ call n f m (cAt [1, 1, 0, 1, 0, 0, 1, 1, 0, 0, 1] B23) (evCode P Γ call n f m (cAt [1, 1, 0, 1, 0, 0, 1, 1, 0, 0, 0] B23) s H) := at_seq (by kernel_rfl) rfl rfl s H
noncomputable def r23_25 : {l : List Oper // opsOf (cAt [1, 1, 0, 1, 0, 0, 1, 1, 0, 0, 0] B23) = l} := by
  apply Subtype.mk
  dsimp only [opsOf, cAt, kids, B23, bodyOf, Tryd.f23, List.getD, List.getElem?_cons_zero, List.getElem?_cons_succ, Option.getD_some]
@[simp] theorem n23_25 (s : List V) (H : Heap) : evCode P Γ call n f m (cAt [1, 1, 0, 1, 0, 0, 1, 1, 0, 0, 0] B23) s H = regNext (evOpsGo P Γ call r23_25.1 r23_25.1 s H) := at_region (by kernel_rfl) r23_25.2 s H
attribute [simp] r23_25
@[simp] theorem n23_26 (s : List V) (H : Heap) : evCode P Γ call n f m (cAt [1, 1, 0, 1, 0, 0, 1, 1, 0, 0, 1] B23) s H = seqNext P Γ call n f m (cAt [1, 1, 0, 1, 0, 0, 1, 1, 0, 0, 1, 1] B23) (evCode P Γ call n f m (cAt [1, 1, 0, 1, 0, 0, 1, 1, 0, 0, 1, 0] B23) s H) := at_seq (by kernel_rfl) rfl rfl s H
@[simp] theorem n23_27 (s : List V) (H : Heap) : evCode P Γ call n f m (cAt [1, 1, 0, 1, 0, 0, 1, 1, 0, 0, 1, 0] B23) s H = seqNext P Γ call n f m (cAt [1, 1, 0, 1, 0, 0, 1, 1, 0, 0, 1, 0, 1] B23) (evCode P Γ call n f m (cAt [1, 1, 0, 1, 0, 0, 1, 1, 0, 0, 1, 0, 0] B23) s H) := at_seq (by kernel_rfl) rfl rfl s H
noncomputable def r23_28 : {l : List Oper // opsOf (cAt [1, 1, 0, 1, 0, 0, 1, 1, 0, 0, 1, 0, 0] B23) = l} := by
  apply Subtype.mk
  dsimp only [opsOf, cAt, kids, B23, bodyOf, Tryd.f23, List.getD, List.getElem?_cons_zero, List.getElem?_cons_succ, Option.getD_some]
@[simp] theorem n23_28 (s : List V) (H : Heap) : evCode P Γ call n f m (cAt [1, 1, 0, 1, 0, 0, 1, 1, 0, 0, 1, 0, 0] B23) s H = regNext (evOpsGo P Γ call r23_28.1 r23_28.1 s H) := at_region (by kernel_rfl) r23_28.2 s H
attribute [simp] r23_28
@[simp] theorem n23_29 (s : List V) (H : Heap) : evCode P Γ call n f m (cAt [1, 1, 0, 1, 0, 0, 1, 1, 0, 0, 1, 0, 1] B23) s H = condW P Γ call n f m (cAt [1, 1, 0, 1, 0, 0, 1, 1, 0, 0, 1, 0, 1, 0] B23) (cAt [1, 1, 0, 1, 0, 0, 1, 1, 0, 0, 1, 0, 1, 1] B23) s H (evOperand Γ s (.tmp 32)) := at_cond (by kernel_rfl) (by kernel_rfl) rfl rfl s H
@[simp] theorem n23_30 (s : List V) (H : Heap) : evCode P Γ call n f m (cAt [1, 1, 0, 1, 0, 0, 1, 1, 0, 0, 1, 0, 1, 0] B23) s H = seqNext P Γ call n f m (cAt [1, 1, 0, 1, 0, 0, 1, 1, 0, 0, 1, 0, 1, 0, 1] B23) (evCode P Γ call n f m (cAt [1, 1, 0, 1, 0, 0, 1, 1, 0, 0, 1, 0, 1, 0, 0] B23) s H) := at_seq (by kernel_rfl) rfl rfl s H
noncomputable def r23_31 : {l : List Oper // opsOf (cAt [1, 1, 0, 1, 0, 0, 1, 1, 0, 0, 1, 0, 1, 0, 0] B23) = l} := by
  apply Subtype.mk
  dsimp only [opsOf, cAt, kids, B23, bodyOf, Tryd.f23, List.getD, List.getElem?_cons_zero, List.getElem?_cons_succ, Option.getD_some]
@[simp] theorem n23_31 (s : List V) (H : Heap) : evCode P Γ call n f m (cAt [1, 1, 0, 1, 0, 0, 1, 1, 0, 0, 1, 0, 1, 0, 0] B23) s H = regNext (evOpsGo P Γ call r23_31.1 r23_31.1 s H) := at_region (by kernel_rfl) r23_31.2 s H
attribute [simp] r23_31
@[simp] theorem n23_32 (s : List V) (H : Heap) : evCode P Γ call n f m (cAt [1, 1, 0, 1, 0, 0, 1, 1, 0, 0, 1, 0, 1, 0, 1] B23) s H = some (.ret, s, H) := at_ret (by kernel_rfl) s H
@[simp] theorem n23_33 (s : List V) (H : Heap) : evCode P Γ call n f m (cAt [1, 1, 0, 1, 0, 0, 1, 1, 0, 0, 1, 0, 1, 1] B23) s H = some (.normal, s, H) := at_skip (by kernel_rfl) s H
@[simp] theorem n23_34 (s : List V) (H : Heap) : evCode P Γ call n f m (cAt [1, 1, 0, 1, 0, 0, 1, 1, 0, 0, 1, 1] B23) s H = seqNext P Γ call n f m (cAt [1, 1, 0, 1, 0, 0, 1, 1, 0, 0, 1, 1, 1] B23) (evCode P Γ call n f m (cAt [1, 1, 0, 1, 0, 0, 1, 1, 0, 0, 1, 1, 0] B23) s H) := at_seq (by kernel_rfl) rfl rfl s H
noncomputable def r23_35 : {l : List Oper // opsOf (cAt [1, 1, 0, 1, 0, 0, 1, 1, 0, 0, 1, 1, 0] B23) = l} := by
  apply Subtype.mk
  dsimp only [opsOf, cAt, kids, B23, bodyOf, Tryd.f23, List.getD, List.getElem?_cons_zero, List.getElem?_cons_succ, Option.getD_some]
@[simp] theorem n23_35 (s : List V) (H : Heap) : evCode P Γ call n f m (cAt [1, 1, 0, 1, 0, 0, 1, 1, 0, 0, 1, 1, 0] B23) s H = regNext (evOpsGo P Γ call r23_35.1 r23_35.1 s H) := at_region (by kernel_rfl) r23_35.2 s H
attribute [simp] r23_35
@[simp] theorem n23_36 (s : List V) (H : Heap) : evCode P Γ call n f m (cAt [1, 1, 0, 1, 0, 0, 1, 1, 0, 0, 1, 1, 1] B23) s H = condW P Γ call n f m (cAt [1, 1, 0, 1, 0, 0, 1, 1, 0, 0, 1, 1, 1, 0] B23) (cAt [1, 1, 0, 1, 0, 0, 1, 1, 0, 0, 1, 1, 1, 1] B23) s H (evOperand Γ s (.tmp 50)) := at_cond (by kernel_rfl) (by kernel_rfl) rfl rfl s H
@[simp] theorem n23_37 (s : List V) (H : Heap) : evCode P Γ call n f m (cAt [1, 1, 0, 1, 0, 0, 1, 1, 0, 0, 1, 1, 1, 0] B23) s H = seqNext P Γ call n f m (cAt [1, 1, 0, 1, 0, 0, 1, 1, 0, 0, 1, 1, 1, 0, 1] B23) (evCode P Γ call n f m (cAt [1, 1, 0, 1, 0, 0, 1, 1, 0, 0, 1, 1, 1, 0, 0] B23) s H) := at_seq (by kernel_rfl) rfl rfl s H
noncomputable def r23_38 : {l : List Oper // opsOf (cAt [1, 1, 0, 1, 0, 0, 1, 1, 0, 0, 1, 1, 1, 0, 0] B23) = l} := by
  apply Subtype.mk
  dsimp only [opsOf, cAt, kids, B23, bodyOf, Tryd.f23, List.getD, List.getElem?_cons_zero, List.getElem?_cons_succ, Option.getD_some]
@[simp] theorem n23_38 (s : List V) (H : Heap) : evCode P Γ call n f m (cAt [1, 1, 0, 1, 0, 0, 1, 1, 0, 0, 1, 1, 1, 0, 0] B23) s H = regNext (evOpsGo P Γ call r23_38.1 r23_38.1 s H) := at_region (by kernel_rfl) r23_38.2 s H
attribute [simp] r23_38
@[simp] theorem n23_39 (s : List V) (H : Heap) : evCode P Γ call n f m (cAt [1, 1, 0, 1, 0, 0, 1, 1, 0, 0, 1, 1, 1, 0, 1] B23) s H = some (.ret, s, H) := at_ret (by kernel_rfl) s H
@[simp] theorem n23_40 (s : List V) (H : Heap) : evCode P Γ call n f m (cAt [1, 1, 0, 1, 0, 0, 1, 1, 0, 0, 1, 1, 1, 1] B23) s H = some (.normal, s, H) := at_skip (by kernel_rfl) s H
noncomputable def r23_41 : {l : List Oper // opsOf (cAt [1, 1, 0, 1, 0, 0, 1, 1, 1] B23) = l} := by
  apply Subtype.mk
  dsimp only [opsOf, cAt, kids, B23, bodyOf, Tryd.f23, List.getD, List.getElem?_cons_zero, List.getElem?_cons_succ, Option.getD_some]
@[simp] theorem n23_41 (s : List V) (H : Heap) : evCode P Γ call n f m (cAt [1, 1, 0, 1, 0, 0, 1, 1, 1] B23) s H = regNext (evOpsGo P Γ call r23_41.1 r23_41.1 s H) := at_region (by kernel_rfl) r23_41.2 s H
attribute [simp] r23_41
@[simp] theorem n23_42 (s : List V) (H : Heap) : evCode P Γ call n f m (cAt [1, 1, 1] B23) s H = seqNext P Γ call n f m (cAt [1, 1, 1, 1] B23) (evCode P Γ call n f m (cAt [1, 1, 1, 0] B23) s H) := at_seq (by kernel_rfl) rfl rfl s H
@[simp] theorem n23_43 (s : List V) (H : Heap) : evCode P Γ call n f m (cAt [1, 1, 1, 0] B23) s H = seqNext P Γ call n f m (cAt [1, 1, 1, 0, 1] B23) (evCode P Γ call n f m (cAt [1, 1, 1, 0, 0] B23) s H) := at_seq (by kernel_rfl) rfl rfl s H
noncomputable def r23_44 : {l : List Oper // opsOf (cAt [1, 1, 1, 0, 0] B23) = l} := by
  apply Subtype.mk
  dsimp only [opsOf, cAt, kids, B23, bodyOf, Tryd.f23, List.getD, List.getElem?_cons_zero, List.getElem?_cons_succ, Option.getD_some]
@[simp] theorem n23_44 (s : List V) (H : Heap) : evCode P Γ call n f m (cAt [1, 1, 1, 0, 0] B23) s H = regNext (evOpsGo P Γ call r23_44.1 r23_44.1 s H) := at_region (by kernel_rfl) r23_44.2 s H
attribute [simp] r23_44
@[simp] theorem n23_45 (s : List V) (H : Heap) : evCode P Γ call n f m (cAt [1, 1, 1, 0, 1] B23) s H = blockNext 2 (evCode P Γ call n f m (cAt [1, 1, 1, 0, 1, 0] B23) s H) := at_block (by kernel_rfl) rfl s H
@[simp] theorem n23_46 (s : List V) (H : Heap) : evCode P Γ call n f m (cAt [1, 1, 1, 0, 1, 0] B23) s H = evLoopC P Γ call n f m (cAt [1, 1, 1, 0, 1, 0, 0] B23) n s H := at_loop (by kernel_rfl) rfl s H
noncomputable abbrev L23_12 : Code := cAt [1, 1, 1, 0, 1, 0, 0] B23
@[simp] theorem n23_46f : firstRegion (cAt [1, 1, 1, 0, 1, 0, 0] B23) = 12 := by kernel_rfl
@[simp] theorem n23_47 (s : List V) (H : Heap) : evCode P Γ call n f m (cAt [1, 1, 1, 0, 1, 0, 0] B23) s H = seqNext P Γ call n f m (cAt [1, 1, 1, 0, 1, 0, 0, 1] B23) (evCode P Γ call n f m (cAt [1, 1, 1, 0, 1, 0, 0, 0] B23) s H) := at_seq (by kernel_rfl) rfl rfl s H
noncomputable def r23_48 : {l : List Oper // opsOf (cAt [1, 1, 1, 0, 1, 0, 0, 0] B23) = l} := by
  apply Subtype.mk
  dsimp only [opsOf, cAt, kids, B23, bodyOf, Tryd.f23, List.getD, List.getElem?_cons_zero, List.getElem?_cons_succ, Option.getD_some]
@[simp] theorem n23_48 (s : List V) (H : Heap) : evCode P Γ call n f m (cAt [1, 1, 1, 0, 1, 0, 0, 0] B23) s H = regNext (evOpsGo P Γ call r23_48.1 r23_48.1 s H) := at_region (by kernel_rfl) r23_48.2 s H
attribute [simp] r23_48
@[simp] theorem n23_49 (s : List V) (H : Heap) : evCode P Γ call n f m (cAt [1, 1, 1, 0, 1, 0, 0, 1] B23) s H = seqNext P Γ call n f m (cAt [1, 1, 1, 0, 1, 0, 0, 1, 1] B23) (evCode P Γ call n f m (cAt [1, 1, 1, 0, 1, 0, 0, 1, 0] B23) s H) := at_seq (by kernel_rfl) rfl rfl s H
@[simp] theorem n23_50 (s : List V) (H : Heap) : evCode P Γ call n f m (cAt [1, 1, 1, 0, 1, 0, 0, 1, 0] B23) s H = condW P Γ call n f m (cAt [1, 1, 1, 0, 1, 0, 0, 1, 0, 0] B23) (cAt [1, 1, 1, 0, 1, 0, 0, 1, 0, 1] B23) s H (evOperand Γ s (.tmp 55)) := at_cond (by kernel_rfl) (by kernel_rfl) rfl rfl s H
@[simp] theorem n23_51 (s : List V) (H : Heap) : evCode P Γ call n f m (cAt [1, 1, 1, 0, 1, 0, 0, 1, 0, 0] B23) s H = some (.normal, s, H) := at_skip (by kernel_rfl) s H
@[simp] theorem n23_52 (s : List V) (H : Heap) : evCode P Γ call n f m (cAt [1, 1, 1, 0, 1, 0, 0, 1, 0, 1] B23) s H = some (.exit 2, s, H) := at_exit (by kernel_rfl) s H
@[simp] theorem n23_53 (s : List V) (H : Heap) : evCode P Γ call n f m (cAt [1, 1, 1, 0, 1, 0, 0, 1, 1] B23) s H = seqNext P Γ call n f m (cAt [1, 1, 1, 0, 1, 0, 0, 1, 1, 1] B23) (evCode P Γ call n f m (cAt [1, 1, 1, 0, 1, 0, 0, 1, 1, 0] B23) s H) := at_seq (by kernel_rfl) rfl rfl s H
@[simp] theorem n23_54 (s : List V) (H : Heap) : evCode P Γ call n f m (cAt [1, 1, 1, 0, 1, 0, 0, 1, 1, 0] B23) s H = blockNext 3 (evCode P Γ call n f m (cAt [1, 1, 1, 0, 1, 0, 0, 1, 1, 0, 0] B23) s H) := at_block (by kernel_rfl) rfl s H
@[simp] theorem n23_55 (s : List V) (H : Heap) : evCode P Γ call n f m (cAt [1, 1, 1, 0, 1, 0, 0, 1, 1, 0, 0] B23) s H = seqNext P Γ call n f m (cAt [1, 1, 1, 0, 1, 0, 0, 1, 1, 0, 0, 1] B23) (evCode P Γ call n f m (cAt [1, 1, 1, 0, 1, 0, 0, 1, 1, 0, 0, 0] B23) s H) := at_seq (by kernel_rfl) rfl rfl s H
noncomputable def r23_56 : {l : List Oper // opsOf (cAt [1, 1, 1, 0, 1, 0, 0, 1, 1, 0, 0, 0] B23) = l} := by
  apply Subtype.mk
  dsimp only [opsOf, cAt, kids, B23, bodyOf, Tryd.f23, List.getD, List.getElem?_cons_zero, List.getElem?_cons_succ, Option.getD_some]
@[simp] theorem n23_56 (s : List V) (H : Heap) : evCode P Γ call n f m (cAt [1, 1, 1, 0, 1, 0, 0, 1, 1, 0, 0, 0] B23) s H = regNext (evOpsGo P Γ call r23_56.1 r23_56.1 s H) := at_region (by kernel_rfl) r23_56.2 s H
attribute [simp] r23_56
@[simp] theorem n23_57 (s : List V) (H : Heap) : evCode P Γ call n f m (cAt [1, 1, 1, 0, 1, 0, 0, 1, 1, 0, 0, 1] B23) s H = blockNext 4 (evCode P Γ call n f m (cAt [1, 1, 1, 0, 1, 0, 0, 1, 1, 0, 0, 1, 0] B23) s H) := at_block (by kernel_rfl) rfl s H
@[simp] theorem n23_58 (s : List V) (H : Heap) : evCode P Γ call n f m (cAt [1, 1, 1, 0, 1, 0, 0, 1, 1, 0, 0, 1, 0] B23) s H = seqNext P Γ call n f m (cAt [1, 1, 1, 0, 1, 0, 0, 1, 1, 0, 0, 1, 0, 1] B23) (evCode P Γ call n f m (cAt [1, 1, 1, 0, 1, 0, 0, 1, 1, 0, 0, 1, 0, 0] B23) s H) := at_seq (by kernel_rfl) rfl rfl s H
noncomputable def r23_59 : {l : List Oper // opsOf (cAt [1, 1, 1, 0, 1, 0, 0, 1, 1, 0, 0, 1, 0, 0] B23) = l} := by
  apply Subtype.mk
  dsimp only [opsOf, cAt, kids, B23, bodyOf, Tryd.f23, List.getD, List.getElem?_cons_zero, List.getElem?_cons_succ, Option.getD_some]
@[simp] theorem n23_59 (s : List V) (H : Heap) : evCode P Γ call n f m (cAt [1, 1, 1, 0, 1, 0, 0, 1, 1, 0, 0, 1, 0, 0] B23) s H = regNext (evOpsGo P Γ call r23_59.1 r23_59.1 s H) := at_region (by kernel_rfl) r23_59.2 s H
attribute [simp] r23_59
@[simp] theorem n23_60 (s : List V) (H : Heap) : evCode P Γ call n f m (cAt [1, 1, 1, 0, 1, 0, 0, 1, 1, 0, 0, 1, 0, 1] B23) s H = condW P Γ call n f m (cAt [1, 1, 1, 0, 1, 0, 0, 1, 1, 0, 0, 1, 0, 1, 0] B23) (cAt [1, 1, 1, 0, 1, 0, 0, 1, 1, 0, 0, 1, 0, 1, 1] B23) s H (evOperand Γ s (.tmp 58)) := at_cond (by kernel_rfl) (by kernel_rfl) rfl rfl s H
@[simp] theorem n23_61 (s : List V) (H : Heap) : evCode P Γ call n f m (cAt [1, 1, 1, 0, 1, 0, 0, 1, 1, 0, 0, 1, 0, 1, 0] B23) s H = seqNext P Γ call n f m (cAt [1, 1, 1, 0, 1, 0, 0, 1, 1, 0, 0, 1, 0, 1, 0, 1] B23) (evCode P Γ call n f m (cAt [1, 1, 1, 0, 1, 0, 0, 1, 1, 0, 0, 1, 0, 1, 0, 0] B23) s H) := at_seq (by kernel_rfl) rfl rfl s H
noncomputable def r23_62 : {l : List Oper // opsOf (cAt [1, 1, 1, 0, 1, 0, 0, 1, 1, 0, 0, 1, 0, 1, 0, 0] B23) = l} := by
  apply Subtype.mk
  dsimp only [opsOf, cAt, kids, B23, bodyOf, Tryd.f23, List.getD, List.getElem?_cons_zero, List.getElem?_cons_succ, Option.getD_some]
@[simp] theorem n23_62 (s : List V) (H : Heap) : evCode P Γ call n f m (cAt [1, 1, 1, 0, 1, 0, 0, 1, 1, 0, 0, 1, 0, 1, 0, 0] B23) s H = regNext (evOpsGo P Γ call r23_62.1 r23_62.1 s H) := at_region (by kernel_rfl) r23_62.2 s H
attribute [simp] r23_62
@[simp] theorem n23_63 (s : List V) (H : Heap) : evCode P Γ call n f m (cAt [1, 1, 1, 0, 1, 0, 0, 1, 1, 0, 0, 1, 0, 1, 0, 1] B23) s H = some (.ret, s, H) := at_ret (by kernel_rfl) s H
@[simp] theorem n23_64 (s : List V) (H : Heap) : evCode P Γ call n f m (cAt [1, 1, 1, 0, 1, 0, 0, 1, 1, 0, 0, 1, 0, 1, 1] B23) s H = seqNext P Γ call n f m (cAt [1, 1, 1, 0, 1, 0, 0, 1, 1, 0, 0, 1, 0, 1, 1, 1] B23) (evCode P Γ call n f m (cAt [1, 1, 1, 0, 1, 0, 0, 1, 1, 0, 0, 1, 0, 1, 1, 0] B23) s H) := at_seq (by kernel_rfl) rfl rfl s H
noncomputable def r23_65 : {l : List Oper // opsOf (cAt [1, 1, 1, 0, 1, 0, 0, 1, 1, 0, 0, 1, 0, 1, 1, 0] B23) = l} := by
  apply Subtype.mk
  dsimp only [opsOf, cAt, kids, B23, bodyOf, Tryd.f23, List.getD, List.getElem?_cons_zero, List.getElem?_cons_succ, Option.getD_some]
@[simp] theorem n23_65 (s : List V) (H : Heap) : evCode P Γ call n f m (cAt [1, 1, 1, 0, 1, 0, 0, 1, 1, 0, 0, 1, 0, 1, 1, 0] B23) s H = regNext (evOpsGo P Γ call r23_65.1 r23_65.1 s H) := at_region (by kernel_rfl) r23_65.2 s H
attribute [simp] r23_65
@[simp] theorem n23_66 (s : List V) (H : Heap) : evCode P Γ call n f m (cAt [1, 1, 1, 0, 1, 0, 0, 1, 1, 0, 0, 1, 0, 1, 1, 1] B23) s H = condW P Γ call n f m (cAt [1, 1, 1, 0, 1, 0, 0, 1, 1, 0, 0, 1, 0, 1, 1, 1, 0] B23) (cAt [1, 1, 1, 0, 1, 0, 0, 1, 1, 0, 0, 1, 0, 1, 1, 1, 1] B23) s H (evOperand Γ s (.tmp 81)) := at_cond (by kernel_rfl) (by kernel_rfl) rfl rfl s H
@[simp] theorem n23_67 (s : List V) (H : Heap) : evCode P Γ call n f m (cAt [1, 1, 1, 0, 1, 0, 0, 1, 1, 0, 0, 1, 0, 1, 1, 1, 0] B23) s H = seqNext P Γ call n f m (cAt [1, 1, 1, 0, 1, 0, 0, 1, 1, 0, 0, 1, 0, 1, 1, 1, 0, 1] B23) (evCode P Γ call n f m (cAt [1, 1, 1, 0, 1, 0, 0, 1, 1, 0, 0, 1, 0, 1, 1, 1, 0, 0] B23) s H) := at_seq (by kernel_rfl) rfl rfl s H
noncomputable def r23_68 : {l : List Oper // opsOf (cAt [1, 1, 1, 0, 1, 0, 0, 1, 1, 0, 0, 1, 0, 1, 1, 1, 0, 0] B23) = l} := by
  apply Subtype.mk
  dsimp only [opsOf, cAt, kids, B23, bodyOf, Tryd.f23, List.getD, List.getElem?_cons_zero, List.getElem?_cons_succ, Option.getD_some]
@[simp] theorem n23_68 (s : List V) (H : Heap) : evCode P Γ call n f m (cAt [1, 1, 1, 0, 1, 0, 0, 1, 1, 0, 0, 1, 0, 1, 1, 1, 0, 0] B23) s H = regNext (evOpsGo P Γ call r23_68.1 r23_68.1 s H) := at_region (by kernel_rfl) r23_68.2 s H
attribute [simp] r23_68
@[simp] theorem n23_69 (s : List V) (H : Heap) : evCode P Γ call n f m (cAt [1, 1, 1, 0, 1, 0, 0, 1, 1, 0, 0, 1, 0, 1, 1, 1, 0, 1] B23) s H = some (.ret, s, H) := at_ret (by kernel_rfl) s H
@[simp] theorem n23_70 (s : List V) (H : Heap) : evCode P Γ call n f m (cAt [1, 1, 1, 0, 1, 0, 0, 1, 1, 0, 0, 1, 0, 1, 1, 1, 1] B23) s H = seqNext P Γ call n f m (cAt [1, 1, 1, 0, 1, 0, 0, 1, 1, 0, 0, 1, 0, 1, 1, 1, 1, 1] B23) (evCode P Γ call n f m (cAt [1, 1, 1, 0, 1, 0, 0, 1, 1, 0, 0, 1, 0, 1, 1, 1, 1, 0] B23) s H) := at_seq (by kernel_rfl) rfl rfl s H
noncomputable def r23_71 : {l : List Oper // opsOf (cAt [1, 1, 1, 0, 1, 0, 0, 1, 1, 0, 0, 1, 0, 1, 1, 1, 1, 0] B23) = l} := by
  apply Subtype.mk
  dsimp only [opsOf, cAt, kids, B23, bodyOf, Tryd.f23, List.getD, List.getElem?_cons_zero, List.getElem?_cons_succ, Option.getD_some]
@[simp] theorem n23_71 (s : List V) (H : Heap) : evCode P Γ call n f m (cAt [1, 1, 1, 0, 1, 0, 0, 1, 1, 0, 0, 1, 0, 1, 1, 1, 1, 0] B23) s H = regNext (evOpsGo P Γ call r23_71.1 r23_71.1 s H) := at_region (by kernel_rfl) r23_71.2 s H
attribute [simp] r23_71
@[simp] theorem n23_72 (s : List V) (H : Heap) : evCode P Γ call n f m (cAt [1, 1, 1, 0, 1, 0, 0, 1, 1, 0, 0, 1, 0, 1, 1, 1, 1, 1] B23) s H = condW P Γ call n f m (cAt [1, 1, 1, 0, 1, 0, 0, 1, 1, 0, 0, 1, 0, 1, 1, 1, 1, 1, 0] B23) (cAt [1, 1, 1, 0, 1, 0, 0, 1, 1, 0, 0, 1, 0, 1, 1, 1, 1, 1, 1] B23) s H (evOperand Γ s (.tmp 87)) := at_cond (by kernel_rfl) (by kernel_rfl) rfl rfl s H
@[simp] theorem n23_73 (s : List V) (H : Heap) : evCode P Γ call n f m (cAt [1, 1, 1, 0, 1, 0, 0, 1, 1, 0, 0, 1, 0, 1, 1, 1, 1, 1, 0] B23) s H = seqNext P Γ call n f m (cAt [1, 1, 1, 0, 1, 0, 0, 1, 1, 0, 0, 1, 0, 1, 1, 1, 1, 1, 0, 1] B23) (evCode P Γ call n f m (cAt [1, 1, 1, 0, 1, 0, 0, 1, 1, 0, 0, 1, 0, 1, 1, 1, 1, 1, 0, 0] B23) s H) := at_seq (by kernel_rfl) rfl rfl s H
noncomputable def r23_74 : {l : List Oper // opsOf (cAt [1, 1, 1, 0, 1, 0, 0, 1, 1, 0, 0, 1, 0, 1, 1, 1, 1, 1, 0, 0] B23) = l} := by
  apply Subtype.mk
  dsimp only [opsOf, cAt, kids, B23, bodyOf, Tryd.f23, List.getD, List.getElem?_cons_zero, List.getElem?_cons_succ, Option.getD_some]
@[simp] theorem n23_74 (s : List V) (H : Heap) : evCode P Γ call n f m (cAt [1, 1, 1, 0, 1, 0, 0, 1, 1, 0, 0, 1, 0, 1, 1, 1, 1, 1, 0, 0] B23) s H = regNext (evOpsGo P Γ call r23_74.1 r23_74.1 s H) := at_region (by kernel_rfl) r23_74.2 s H
attribute [simp] r23_74
@[simp] theorem n23_75 (s : List V) (H : Heap) : evCode P Γ call n f m (cAt [1, 1, 1, 0, 1, 0, 0, 1, 1, 0, 0, 1, 0, 1, 1, 1, 1, 1, 0, 1] B23) s H = some (.ret, s, H) := at_ret (by kernel_rfl) s H
@[simp] theorem n23_76 (s : List V) (H : Heap) : evCode P Γ call n f m (cAt [1, 1, 1, 0, 1, 0, 0, 1, 1, 0, 0, 1, 0, 1, 1, 1, 1, 1, 1] B23) s H = some (.normal, s, H) := at_skip (by kernel_rfl) s H
noncomputable def r23_77 : {l : List Oper // opsOf (cAt [1, 1, 1, 0, 1, 0, 0, 1, 1, 1] B23) = l} := by
  apply Subtype.mk
  dsimp only [opsOf, cAt, kids, B23, bodyOf, Tryd.f23, List.getD, List.getElem?_cons_zero, List.getElem?_cons_succ, Option.getD_some]
@[simp] theorem n23_77 (s : List V) (H : Heap) : evCode P Γ call n f m (cAt [1, 1, 1, 0, 1, 0, 0, 1, 1, 1] B23) s H = regNext (evOpsGo P Γ call r23_77.1 r23_77.1 s H) := at_region (by kernel_rfl) r23_77.2 s H
attribute [simp] r23_77
@[simp] theorem n23_78 (s : List V) (H : Heap) : evCode P Γ call n f m (cAt [1, 1, 1, 1] B23) s H = seqNext P Γ call n f m (cAt [1, 1, 1, 1, 1] B23) (evCode P Γ call n f m (cAt [1, 1, 1, 1, 0] B23) s H) := at_seq (by kernel_rfl) rfl rfl s H
noncomputable def r23_79 : {l : List Oper // opsOf (cAt [1, 1, 1, 1, 0] B23) = l} := by
  apply Subtype.mk
  dsimp only [opsOf, cAt, kids, B23, bodyOf, Tryd.f23, List.getD, List.getElem?_cons_zero, List.getElem?_cons_succ, Option.getD_some]
@[simp] theorem n23_79 (s : List V) (H : Heap) : evCode P Γ call n f m (cAt [1, 1, 1, 1, 0] B23) s H = regNext (evOpsGo P Γ call r23_79.1 r23_79.1 s H) := at_region (by kernel_rfl) r23_79.2 s H
attribute [simp] r23_79
@[simp] theorem n23_80 (s : List V) (H : Heap) : evCode P Γ call n f m (cAt [1, 1, 1, 1, 1] B23) s H = some (.ret, s, H) := at_ret (by kernel_rfl) s H
theorem b23 {k : Nat} (ho : ∀ args H, Γ.orc 23 args H = none) (args : List V) (H : Heap) (ha : args.length ≤ 104) : evF Tryd.prog Γ (k + 1) 23 args H = bodyEnd Tryd.prog [.tmp 4] H.length (evCode Tryd.prog Γ (evF Tryd.prog Γ k) k 23 H.length (cAt [] B23) (mkL 104 V.undef (enumV 0 args)) H) := body_at Tryd.func23 (by decide) rfl ho rfl rfl args H ha
end
end Go.Ev.Tryd
