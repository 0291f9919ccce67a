/-
  CODE BY NAMES, printed by wip/tools/codes.py (own work).
-/
import Derived.Test.YtmcakfjbefelgaaDoorAkG
set_option maxRecDepth 100000
set_option linter.unusedVariables false
namespace Go.Ev.Tryd
open Go Go.Ev Go.Proofs
section
variable {P : Program} {Γ : Env} {call : CallF} {n f m : Nat}

noncomputable def B8 : Code := bodyOf Tryd.f8
@[simp] theorem n8_1 (s : List V) (H : Heap) : evCode P Γ call n f m (cAt [] B8) s H = seqNext P Γ call n f m (cAt [1] B8) (evCode P Γ call n f m (cAt [0] B8) s H) := at_seq (by kernel_rfl) rfl rfl s H
noncomputable def r8_2 : {l : List Oper // opsOf (cAt [0] B8) = l} := by
  apply Subtype.mk
  dsimp only [opsOf, cAt, kids, B8, bodyOf, Tryd.f8, List.getD, List.getElem?_cons_zero, List.getElem?_cons_succ, Option.getD_some]
@[simp] theorem n8_2 (s : List V) (H : Heap) : evCode P Γ call n f m (cAt [0] B8) s H = regNext (evOpsGo P Γ call r8_2.1 r8_2.1 s H) := at_region (by kernel_rfl) r8_2.2 s H
attribute [simp] r8_2
@[simp] theorem n8_3 (s : List V) (H : Heap) : evCode P Γ call n f m (cAt [1] B8) s H = seqNext P Γ call n f m (cAt [1, 1] B8) (evCode P Γ call n f m (cAt [1, 0] B8) s H) := at_seq (by kernel_rfl) rfl rfl s H
noncomputable def r8_4 : {l : List Oper // opsOf (cAt [1, 0] B8) = l} := by
  apply Subtype.mk
  dsimp only [opsOf, cAt, kids, B8, bodyOf, Tryd.f8, List.getD, List.getElem?_cons_zero, List.getElem?_cons_succ, Option.getD_some]
@[simp] theorem n8_4 (s : List V) (H : Heap) : evCode P Γ call n f m (cAt [1, 0] B8) s H = regNext (evOpsGo P Γ call r8_4.1 r8_4.1 s H) := at_region (by kernel_rfl) r8_4.2 s H
attribute [simp] r8_4
@[simp] theorem n8_5 (s : List V) (H : Heap) : evCode P Γ call n f m (cAt [1, 1] B8) s H = seqNext P Γ call n f m (cAt [1, 1, 1] B8) (evCode P Γ call n f m (cAt [1, 1, 0] B8) s H) := at_seq (by kernel_rfl) rfl rfl s H
@[simp] theorem n8_6 (s : List V) (H : Heap) : evCode P Γ call n f m (cAt [1, 1, 0] B8) s H = seqNext P Γ call n f m (cAt [1, 1, 0, 1] B8) (evCode P Γ call n f m (cAt [1, 1, 0, 0] B8) s H) := at_seq (by kernel_rfl) rfl rfl s H
noncomputable def r8_7 : {l : List Oper // opsOf (cAt [1, 1, 0, 0] B8) = l} := by
  apply Subtype.mk
  dsimp only [opsOf, cAt, kids, B8, bodyOf, Tryd.f8, List.getD, List.getElem?_cons_zero, List.getElem?_cons_succ, Option.getD_some]
@[simp] theorem n8_7 (s : List V) (H : Heap) : evCode P Γ call n f m (cAt [1, 1, 0, 0] B8) s H = regNext (evOpsGo P Γ call r8_7.1 r8_7.1 s H) := at_region (by kernel_rfl) r8_7.2 s H
attribute [simp] r8_7
@[simp] theorem n8_8 (s : List V) (H : Heap) : evCode P Γ call n f m (cAt [1, 1, 0, 1] B8) s H = blockNext 0 (evCode P Γ call n f m (cAt [1, 1, 0, 1, 0] B8) s H) := at_block (by kernel_rfl) rfl s H
@[simp] theorem n8_9 (s : List V) (H : Heap) : evCode P Γ call n f m (cAt [1, 1, 0, 1, 0] B8) s H = evLoopC P Γ call n f m (cAt [1, 1, 0, 1, 0, 0] B8) n s H := at_loop (by kernel_rfl) rfl s H
noncomputable abbrev L8_3 : Code := cAt [1, 1, 0, 1, 0, 0] B8
@[simp] theorem n8_9f : firstRegion (cAt [1, 1, 0, 1, 0, 0] B8) = 3 := by kernel_rfl
@[simp] theorem n8_10 (s : List V) (H : Heap) : evCode P Γ call n f m (cAt [1, 1, 0, 1, 0, 0] B8) s H = seqNext P Γ call n f m (cAt [1, 1, 0, 1, 0, 0, 1] B8) (evCode P Γ call n f m (cAt [1, 1, 0, 1, 0, 0, 0] B8) s H) := at_seq (by kernel_rfl) rfl rfl s H
noncomputable def r8_11 : {l : List Oper // opsOf (cAt [1, 1, 0, 1, 0, 0, 0] B8) = l} := by
  apply Subtype.mk
  dsimp only [opsOf, cAt, kids, B8, bodyOf, Tryd.f8, List.getD, List.getElem?_cons_zero, List.getElem?_cons_succ, Option.getD_some]
@[simp] theorem n8_11 (s : List V) (H : Heap) : evCode P Γ call n f m (cAt [1, 1, 0, 1, 0, 0, 0] B8) s H = regNext (evOpsGo P Γ call r8_11.1 r8_11.1 s H) := at_region (by kernel_rfl) r8_11.2 s H
attribute [simp] r8_11
@[simp] theorem n8_12 (s : List V) (H : Heap) : evCode P Γ call n f m (cAt [1, 1, 0, 1, 0, 0, 1] B8) s H = seqNext P Γ call n f m (cAt [1, 1, 0, 1, 0, 0, 1, 1] B8) (evCode P Γ call n f m (cAt [1, 1, 0, 1, 0, 0, 1, 0] B8) s H) := at_seq (by kernel_rfl) rfl rfl s H
@[simp] theorem n8_13 (s : List V) (H : Heap) : evCode P Γ call n f m (cAt [1, 1, 0, 1, 0, 0, 1, 0] B8) s H = condW P Γ call n f m (cAt [1, 1, 0, 1, 0, 0, 1, 0, 0] B8) (cAt [1, 1, 0, 1, 0, 0, 1, 0, 1] B8) s H (evOperand Γ s (.tmp 10)) := at_cond (by kernel_rfl) (by kernel_rfl) rfl rfl s H
@[simp] theorem n8_14 (s : List V) (H : Heap) : evCode P Γ call n f m (cAt [1, 1, 0, 1, 0, 0, 1, 0, 0] B8) s H = some (.normal, s, H) := at_skip (by kernel_rfl) s H
@[simp] theorem n8_15 (s : List V) (H : Heap) : evCode P Γ call n f m (cAt [1, 1, 0, 1, 0, 0, 1, 0, 1] B8) s H = some (.exit 0, s, H) := at_exit (by kernel_rfl) s H
@[simp] theorem n8_16 (s : List V) (H : Heap) : evCode P Γ call n f m (cAt [1, 1, 0, 1, 0, 0, 1, 1] B8) s H = seqNext P Γ call n f m (cAt [1, 1, 0, 1, 0, 0, 1, 1, 1] B8) (evCode P Γ call n f m (cAt [1, 1, 0, 1, 0, 0, 1, 1, 0] B8) s H) := at_seq (by kernel_rfl) rfl rfl s H
@[simp] theorem n8_17 (s : List V) (H : Heap) : evCode P Γ call n f m (cAt [1, 1, 0, 1, 0, 0, 1, 1, 0] B8) s H = blockNext 1 (evCode P Γ call n f m (cAt [1, 1, 0, 1, 0, 0, 1, 1, 0, 0] B8) s H) := at_block (by kernel_rfl) rfl s H
@[simp] theorem n8_18 (s : List V) (H : Heap) : evCode P Γ call n f m (cAt [1, 1, 0, 1, 0, 0, 1, 1, 0, 0] B8) s H = seqNext P Γ call n f m (cAt [1, 1, 0, 1, 0, 0, 1, 1, 0, 0, 1] B8) (evCode P Γ call n f m (cAt [1, 1, 0, 1, 0, 0, 1, 1, 0, 0, 0] B8) s H) := at_seq (by kernel_rfl) rfl rfl s H
noncomputable def r8_19 : {l : List Oper // opsOf (cAt [1, 1, 0, 1, 0, 0, 1, 1, 0, 0, 0] B8) = l} := by
  apply Subtype.mk
  dsimp only [opsOf, cAt, kids, B8, bodyOf, Tryd.f8, List.getD, List.getElem?_cons_zero, List.getElem?_cons_succ, Option.getD_some]
@[simp] theorem n8_19 (s : List V) (H : Heap) : evCode P Γ call n f m (cAt [1, 1, 0, 1, 0, 0, 1, 1, 0, 0, 0] B8) s H = regNext (evOpsGo P Γ call r8_19.1 r8_19.1 s H) := at_region (by kernel_rfl) r8_19.2 s H
attribute [simp] r8_19
noncomputable def r8_20 : {l : List Oper // opsOf (cAt [1, 1, 0, 1, 0, 0, 1, 1, 0, 0, 1] B8) = l} := by
  apply Subtype.mk
  dsimp only [opsOf, cAt, kids, B8, bodyOf, Tryd.f8, List.getD, List.getElem?_cons_zero, List.getElem?_cons_succ, Option.getD_some]
@[simp] theorem n8_20 (s : List V) (H : Heap) : evCode P Γ call n f m (cAt [1, 1, 0, 1, 0, 0, 1, 1, 0, 0, 1] B8) s H = regNext (evOpsGo P Γ call r8_20.1 r8_20.1 s H) := at_region (by kernel_rfl) r8_20.2 s H
attribute [simp] r8_20
noncomputable def r8_21 : {l : List Oper // opsOf (cAt [1, 1, 0, 1, 0, 0, 1, 1, 1] B8) = l} := by
  apply Subtype.mk
  dsimp only [opsOf, cAt, kids, B8, bodyOf, Tryd.f8, List.getD, List.getElem?_cons_zero, List.getElem?_cons_succ, Option.getD_some]
@[simp] theorem n8_21 (s : List V) (H : Heap) : evCode P Γ call n f m (cAt [1, 1, 0, 1, 0, 0, 1, 1, 1] B8) s H = regNext (evOpsGo P Γ call r8_21.1 r8_21.1 s H) := at_region (by kernel_rfl) r8_21.2 s H
attribute [simp] r8_21
@[simp] theorem n8_22 (s : List V) (H : Heap) : evCode P Γ call n f m (cAt [1, 1, 1] B8) s H = seqNext P Γ call n f m (cAt [1, 1, 1, 1] B8) (evCode P Γ call n f m (cAt [1, 1, 1, 0] B8) s H) := at_seq (by kernel_rfl) rfl rfl s H
noncomputable def r8_23 : {l : List Oper // opsOf (cAt [1, 1, 1, 0] B8) = l} := by
  apply Subtype.mk
  dsimp only [opsOf, cAt, kids, B8, bodyOf, Tryd.f8, List.getD, List.getElem?_cons_zero, List.getElem?_cons_succ, Option.getD_some]
@[simp] theorem n8_23 (s : List V) (H : Heap) : evCode P Γ call n f m (cAt [1, 1, 1, 0] B8) s H = regNext (evOpsGo P Γ call r8_23.1 r8_23.1 s H) := at_region (by kernel_rfl) r8_23.2 s H
attribute [simp] r8_23
@[simp] theorem n8_24 (s : List V) (H : Heap) : evCode P Γ call n f m (cAt [1, 1, 1, 1] B8) s H = some (.ret, s, H) := at_ret (by kernel_rfl) s H
theorem b8 {k : Nat} (ho : ∀ args H, Γ.orc 8 args H = none) (args : List V) (H : Heap) (ha : args.length ≤ 19) : evF Tryd.prog Γ (k + 1) 8 args H = bodyEnd Tryd.prog [.tmp 2] H.length (evCode Tryd.prog Γ (evF Tryd.prog Γ k) k 8 H.length (cAt [] B8) (mkL 19 V.undef (enumV 0 args)) H) := body_at Tryd.func8 (by decide) rfl ho rfl rfl args H ha
noncomputable def B26 : Code := bodyOf Tryd.f26
@[simp] theorem n26_1 (s : List V) (H : Heap) : evCode P Γ call n f m (cAt [] B26) s H = seqNext P Γ call n f m (cAt [1] B26) (evCode P Γ call n f m (cAt [0] B26) s H) := at_seq (by kernel_rfl) rfl rfl s H
noncomputable def r26_2 : {l : List Oper // opsOf (cAt [0] B26) = l} := by
  apply Subtype.mk
  dsimp only [opsOf, cAt, kids, B26, bodyOf, Tryd.f26, List.getD, List.getElem?_cons_zero, List.getElem?_cons_succ, Option.getD_some]
@[simp] theorem n26_2 (s : List V) (H : Heap) : evCode P Γ call n f m (cAt [0] B26) s H = regNext (evOpsGo P Γ call r26_2.1 r26_2.1 s H) := at_region (by kernel_rfl) r26_2.2 s H
attribute [simp] r26_2
@[simp] theorem n26_3 (s : List V) (H : Heap) : evCode P Γ call n f m (cAt [1] B26) s H = seqNext P Γ call n f m (cAt [1, 1] B26) (evCode P Γ call n f m (cAt [1, 0] B26) s H) := at_seq (by kernel_rfl) rfl rfl s H
@[simp] theorem n26_4 (s : List V) (H : Heap) : evCode P Γ call n f m (cAt [1, 0] B26) s H = seqNext P Γ call n f m (cAt [1, 0, 1] B26) (evCode P Γ call n f m (cAt [1, 0, 0] B26) s H) := at_seq (by kernel_rfl) rfl rfl s H
noncomputable def r26_5 : {l : List Oper // opsOf (cAt [1, 0, 0] B26) = l} := by
  apply Subtype.mk
  dsimp only [opsOf, cAt, kids, B26, bodyOf, Tryd.f26, List.getD, List.getElem?_cons_zero, List.getElem?_cons_succ, Option.getD_some]
@[simp] theorem n26_5 (s : List V) (H : Heap) : evCode P Γ call n f m (cAt [1, 0, 0] B26) s H = regNext (evOpsGo P Γ call r26_5.1 r26_5.1 s H) := at_region (by kernel_rfl) r26_5.2 s H
attribute [simp] r26_5
@[simp] theorem n26_6 (s : List V) (H : Heap) : evCode P Γ call n f m (cAt [1, 0, 1] B26) s H = seqNext P Γ call n f m (cAt [1, 0, 1, 1] B26) (evCode P Γ call n f m (cAt [1, 0, 1, 0] B26) s H) := at_seq (by kernel_rfl) rfl rfl s H
noncomputable def r26_7 : {l : List Oper // opsOf (cAt [1, 0, 1, 0] B26) = l} := by
  apply Subtype.mk
  dsimp only [opsOf, cAt, kids, B26, bodyOf, Tryd.f26, List.getD, List.getElem?_cons_zero, List.getElem?_cons_succ, Option.getD_some]
@[simp] theorem n26_7 (s : List V) (H : Heap) : evCode P Γ call n f m (cAt [1, 0, 1, 0] B26) s H = regNext (evOpsGo P Γ call r26_7.1 r26_7.1 s H) := at_region (by kernel_rfl) r26_7.2 s H
attribute [simp] r26_7
@[simp] theorem n26_8 (s : List V) (H : Heap) : evCode P Γ call n f m (cAt [1, 0, 1, 1] B26) s H = condW P Γ call n f m (cAt [1, 0, 1, 1, 0] B26) (cAt [1, 0, 1, 1, 1] B26) s H (evOperand Γ s (.tmp 10)) := at_cond (by kernel_rfl) (by kernel_rfl) rfl rfl s H
@[simp] theorem n26_9 (s : List V) (H : Heap) : evCode P Γ call n f m (cAt [1, 0, 1, 1, 0] B26) s H = seqNext P Γ call n f m (cAt [1, 0, 1, 1, 0, 1] B26) (evCode P Γ call n f m (cAt [1, 0, 1, 1, 0, 0] B26) s H) := at_seq (by kernel_rfl) rfl rfl s H
noncomputable def r26_10 : {l : List Oper // opsOf (cAt [1, 0, 1, 1, 0, 0] B26) = l} := by
  apply Subtype.mk
  dsimp only [opsOf, cAt, kids, B26, bodyOf, Tryd.f26, List.getD, List.getElem?_cons_zero, List.getElem?_cons_succ, Option.getD_some]
@[simp] theorem n26_10 (s : List V) (H : Heap) : evCode P Γ call n f m (cAt [1, 0, 1, 1, 0, 0] B26) s H = regNext (evOpsGo P Γ call r26_10.1 r26_10.1 s H) := at_region (by kernel_rfl) r26_10.2 s H
attribute [simp] r26_10
@[simp] theorem n26_11 (s : List V) (H : Heap) : evCode P Γ call n f m (cAt [1, 0, 1, 1, 0, 1] B26) s H = some (.ret, s, H) := at_ret (by kernel_rfl) s H
@[simp] theorem n26_12 (s : List V) (H : Heap) : evCode P Γ call n f m (cAt [1, 0, 1, 1, 1] B26) s H = some (.normal, s, H) := at_skip (by kernel_rfl) s H
@[simp] theorem n26_13 (s : List V) (H : Heap) : evCode P Γ call n f m (cAt [1, 1] B26) s H = seqNext P Γ call n f m (cAt [1, 1, 1] B26) (evCode P Γ call n f m (cAt [1, 1, 0] B26) s H) := at_seq (by kernel_rfl) rfl rfl s H
@[simp] theorem n26_14 (s : List V) (H : Heap) : evCode P Γ call n f m (cAt [1, 1, 0] B26) s H = seqNext P Γ call n f m (cAt [1, 1, 0, 1] B26) (evCode P Γ call n f m (cAt [1, 1, 0, 0] B26) s H) := at_seq (by kernel_rfl) rfl rfl s H
noncomputable def r26_15 : {l : List Oper // opsOf (cAt [1, 1, 0, 0] B26) = l} := by
  apply Subtype.mk
  dsimp only [opsOf, cAt, kids, B26, bodyOf, Tryd.f26, List.getD, List.getElem?_cons_zero, List.getElem?_cons_succ, Option.getD_some]
@[simp] theorem n26_15 (s : List V) (H : Heap) : evCode P Γ call n f m (cAt [1, 1, 0, 0] B26) s H = regNext (evOpsGo P Γ call r26_15.1 r26_15.1 s H) := at_region (by kernel_rfl) r26_15.2 s H
attribute [simp] r26_15
@[simp] theorem n26_16 (s : List V) (H : Heap) : evCode P Γ call n f m (cAt [1, 1, 0, 1] B26) s H = blockNext 0 (evCode P Γ call n f m (cAt [1, 1, 0, 1, 0] B26) s H) := at_block (by kernel_rfl) rfl s H
@[simp] theorem n26_17 (s : List V) (H : Heap) : evCode P Γ call n f m (cAt [1, 1, 0, 1, 0] B26) s H = evLoopC P Γ call n f m (cAt [1, 1, 0, 1, 0, 0] B26) n s H := at_loop (by kernel_rfl) rfl s H
noncomputable abbrev L26_5 : Code := cAt [1, 1, 0, 1, 0, 0] B26
@[simp] theorem n26_17f : firstRegion (cAt [1, 1, 0, 1, 0, 0] B26) = 5 := by kernel_rfl
@[simp] theorem n26_18 (s : List V) (H : Heap) : evCode P Γ call n f m (cAt [1, 1, 0, 1, 0, 0] B26) s H = seqNext P Γ call n f m (cAt [1, 1, 0, 1, 0, 0, 1] B26) (evCode P Γ call n f m (cAt [1, 1, 0, 1, 0, 0, 0] B26) s H) := at_seq (by kernel_rfl) rfl rfl s H
noncomputable def r26_19 : {l : List Oper // opsOf (cAt [1, 1, 0, 1, 0, 0, 0] B26) = l} := by
  apply Subtype.mk
  dsimp only [opsOf, cAt, kids, B26, bodyOf, Tryd.f26, List.getD, List.getElem?_cons_zero, List.getElem?_cons_succ, Option.getD_some]
@[simp] theorem n26_19 (s : List V) (H : Heap) : evCode P Γ call n f m (cAt [1, 1, 0, 1, 0, 0, 0] B26) s H = regNext (evOpsGo P Γ call r26_19.1 r26_19.1 s H) := at_region (by kernel_rfl) r26_19.2 s H
attribute [simp] r26_19
@[simp] theorem n26_20 (s : List V) (H : Heap) : evCode P Γ call n f m (cAt [1, 1, 0, 1, 0, 0, 1] B26) s H = seqNext P Γ call n f m (cAt [1, 1, 0, 1, 0, 0, 1, 1] B26) (evCode P Γ call n f m (cAt [1, 1, 0, 1, 0, 0, 1, 0] B26) s H) := at_seq (by kernel_rfl) rfl rfl s H
@[simp] theorem n26_21 (s : List V) (H : Heap) : evCode P Γ call n f m (cAt [1, 1, 0, 1, 0, 0, 1, 0] B26) s H = condW P Γ call n f m (cAt [1, 1, 0, 1, 0, 0, 1, 0, 0] B26) (cAt [1, 1, 0, 1, 0, 0, 1, 0, 1] B26) s H (evOperand Γ s (.tmp 16)) := at_cond (by kernel_rfl) (by kernel_rfl) rfl rfl s H
@[simp] theorem n26_22 (s : List V) (H : Heap) : evCode P Γ call n f m (cAt [1, 1, 0, 1, 0, 0, 1, 0, 0] B26) s H = some (.normal, s, H) := at_skip (by kernel_rfl) s H
@[simp] theorem n26_23 (s : List V) (H : Heap) : evCode P Γ call n f m (cAt [1, 1, 0, 1, 0, 0, 1, 0, 1] B26) s H = some (.exit 0, s, H) := at_exit (by kernel_rfl) s H
@[simp] theorem n26_24 (s : List V) (H : Heap) : evCode P Γ call n f m (cAt [1, 1, 0, 1, 0, 0, 1, 1] B26) s H = seqNext P Γ call n f m (cAt [1, 1, 0, 1, 0, 0, 1, 1, 1] B26) (evCode P Γ call n f m (cAt [1, 1, 0, 1, 0, 0, 1, 1, 0] B26) s H) := at_seq (by kernel_rfl) rfl rfl s H
@[simp] theorem n26_25 (s : List V) (H : Heap) : evCode P Γ call n f m (cAt [1, 1, 0, 1, 0, 0, 1, 1, 0] B26) s H = blockNext 1 (evCode P Γ call n f m (cAt [1, 1, 0, 1, 0, 0, 1, 1, 0, 0] B26) s H) := at_block (by kernel_rfl) rfl s H
@[simp] theorem n26_26 (s : List V) (H : Heap) : evCode P Γ call n f m (cAt [1, 1, 0, 1, 0, 0, 1, 1, 0, 0] B26) s H = seqNext P Γ call n f m (cAt [1, 1, 0, 1, 0, 0, 1, 1, 0, 0, 1] B26) (evCode P Γ call n f m (cAt [1, 1, 0, 1, 0, 0, 1, 1, 0, 0, 0] B26) s H) := at_seq (by kernel_rfl) rfl rfl s H
noncomputable def r26_27 : {l : List Oper // opsOf (cAt [1, 1, 0, 1, 0, 0, 1, 1, 0, 0, 0] B26) = l} := by
  apply Subtype.mk
  dsimp only [opsOf, cAt, kids, B26, bodyOf, Tryd.f26, List.getD, List.getElem?_cons_zero, List.getElem?_cons_succ, Option.getD_some]
@[simp] theorem n26_27 (s : List V) (H : Heap) : evCode P Γ call n f m (cAt [1, 1, 0, 1, 0, 0, 1, 1, 0, 0, 0] B26) s H = regNext (evOpsGo P Γ call r26_27.1 r26_27.1 s H) := at_region (by kernel_rfl) r26_27.2 s H
attribute [simp] r26_27
@[simp] theorem n26_28 (s : List V) (H : Heap) : evCode P Γ call n f m (cAt [1, 1, 0, 1, 0, 0, 1, 1, 0, 0, 1] B26) s H = seqNext P Γ call n f m (cAt [1, 1, 0, 1, 0, 0, 1, 1, 0, 0, 1, 1] B26) (evCode P Γ call n f m (cAt [1, 1, 0, 1, 0, 0, 1, 1, 0, 0, 1, 0] B26) s H) := at_seq (by kernel_rfl) rfl rfl s H
noncomputable def r26_29 : {l : List Oper // opsOf (cAt [1, 1, 0, 1, 0, 0, 1, 1, 0, 0, 1, 0] B26) = l} := by
  apply Subtype.mk
  dsimp only [opsOf, cAt, kids, B26, bodyOf, Tryd.f26, List.getD, List.getElem?_cons_zero, List.getElem?_cons_succ, Option.getD_some]
@[simp] theorem n26_29 (s : List V) (H : Heap) : evCode P Γ call n f m (cAt [1, 1, 0, 1, 0, 0, 1, 1, 0, 0, 1, 0] B26) s H = regNext (evOpsGo P Γ call r26_29.1 r26_29.1 s H) := at_region (by kernel_rfl) r26_29.2 s H
attribute [simp] r26_29
@[simp] theorem n26_30 (s : List V) (H : Heap) : evCode P Γ call n f m (cAt [1, 1, 0, 1, 0, 0, 1, 1, 0, 0, 1, 1] B26) s H = seqNext P Γ call n f m (cAt [1, 1, 0, 1, 0, 0, 1, 1, 0, 0, 1, 1, 1] B26) (evCode P Γ call n f m (cAt [1, 1, 0, 1, 0, 0, 1, 1, 0, 0, 1, 1, 0] B26) s H) := at_seq (by kernel_rfl) rfl rfl s H
noncomputable def r26_31 : {l : List Oper // opsOf (cAt [1, 1, 0, 1, 0, 0, 1, 1, 0, 0, 1, 1, 0] B26) = l} := by
  apply Subtype.mk
  dsimp only [opsOf, cAt, kids, B26, bodyOf, Tryd.f26, List.getD, List.getElem?_cons_zero, List.getElem?_cons_succ, Option.getD_some]
@[simp] theorem n26_31 (s : List V) (H : Heap) : evCode P Γ call n f m (cAt [1, 1, 0, 1, 0, 0, 1, 1, 0, 0, 1, 1, 0] B26) s H = regNext (evOpsGo P Γ call r26_31.1 r26_31.1 s H) := at_region (by kernel_rfl) r26_31.2 s H
attribute [simp] r26_31
@[simp] theorem n26_32 (s : List V) (H : Heap) : evCode P Γ call n f m (cAt [1, 1, 0, 1, 0, 0, 1, 1, 0, 0, 1, 1, 1] B26) s H = condW P Γ call n f m (cAt [1, 1, 0, 1, 0, 0, 1, 1, 0, 0, 1, 1, 1, 0] B26) (cAt [1, 1, 0, 1, 0, 0, 1, 1, 0, 0, 1, 1, 1, 1] B26) s H (evOperand Γ s (.tmp 22)) := at_cond (by kernel_rfl) (by kernel_rfl) rfl rfl s H
@[simp] theorem n26_33 (s : List V) (H : Heap) : evCode P Γ call n f m (cAt [1, 1, 0, 1, 0, 0, 1, 1, 0, 0, 1, 1, 1, 0] B26) s H = seqNext P Γ call n f m (cAt [1, 1, 0, 1, 0, 0, 1, 1, 0, 0, 1, 1, 1, 0, 1] B26) (evCode P Γ call n f m (cAt [1, 1, 0, 1, 0, 0, 1, 1, 0, 0, 1, 1, 1, 0, 0] B26) s H) := at_seq (by kernel_rfl) rfl rfl s H
noncomputable def r26_34 : {l : List Oper // opsOf (cAt [1, 1, 0, 1, 0, 0, 1, 1, 0, 0, 1, 1, 1, 0, 0] B26) = l} := by
  apply Subtype.mk
  dsimp only [opsOf, cAt, kids, B26, bodyOf, Tryd.f26, List.getD, List.getElem?_cons_zero, List.getElem?_cons_succ, Option.getD_some]
@[simp] theorem n26_34 (s : List V) (H : Heap) : evCode P Γ call n f m (cAt [1, 1, 0, 1, 0, 0, 1, 1, 0, 0, 1, 1, 1, 0, 0] B26) s H = regNext (evOpsGo P Γ call r26_34.1 r26_34.1 s H) := at_region (by kernel_rfl) r26_34.2 s H
attribute [simp] r26_34
@[simp] theorem n26_35 (s : List V) (H : Heap) : evCode P Γ call n f m (cAt [1, 1, 0, 1, 0, 0, 1, 1, 0, 0, 1, 1, 1, 0, 1] B26) s H = some (.ret, s, H) := at_ret (by kernel_rfl) s H
@[simp] theorem n26_36 (s : List V) (H : Heap) : evCode P Γ call n f m (cAt [1, 1, 0, 1, 0, 0, 1, 1, 0, 0, 1, 1, 1, 1] B26) s H = some (.normal, s, H) := at_skip (by kernel_rfl) s H
noncomputable def r26_37 : {l : List Oper // opsOf (cAt [1, 1, 0, 1, 0, 0, 1, 1, 1] B26) = l} := by
  apply Subtype.mk
  dsimp only [opsOf, cAt, kids, B26, bodyOf, Tryd.f26, List.getD, List.getElem?_cons_zero, List.getElem?_cons_succ, Option.getD_some]
@[simp] theorem n26_37 (s : List V) (H : Heap) : evCode P Γ call n f m (cAt [1, 1, 0, 1, 0, 0, 1, 1, 1] B26) s H = regNext (evOpsGo P Γ call r26_37.1 r26_37.1 s H) := at_region (by kernel_rfl) r26_37.2 s H
attribute [simp] r26_37
@[simp] theorem n26_38 (s : List V) (H : Heap) : evCode P Γ call n f m (cAt [1, 1, 1] B26) s H = seqNext P Γ call n f m (cAt [1, 1, 1, 1] B26) (evCode P Γ call n f m (cAt [1, 1, 1, 0] B26) s H) := at_seq (by kernel_rfl) rfl rfl s H
noncomputable def r26_39 : {l : List Oper // opsOf (cAt [1, 1, 1, 0] B26) = l} := by
  apply Subtype.mk
  dsimp only [opsOf, cAt, kids, B26, bodyOf, Tryd.f26, List.getD, List.getElem?_cons_zero, List.getElem?_cons_succ, Option.getD_some]
@[simp] theorem n26_39 (s : List V) (H : Heap) : evCode P Γ call n f m (cAt [1, 1, 1, 0] B26) s H = regNext (evOpsGo P Γ call r26_39.1 r26_39.1 s H) := at_region (by kernel_rfl) r26_39.2 s H
attribute [simp] r26_39
@[simp] theorem n26_40 (s : List V) (H : Heap) : evCode P Γ call n f m (cAt [1, 1, 1, 1] B26) s H = some (.ret, s, H) := at_ret (by kernel_rfl) s H
theorem b26 {k : Nat} (ho : ∀ args H, Γ.orc 26 args H = none) (args : List V) (H : Heap) (ha : args.length ≤ 25) : evF Tryd.prog Γ (k + 1) 26 args H = bodyEnd Tryd.prog [.tmp 2] H.length (evCode Tryd.prog Γ (evF Tryd.prog Γ k) k 26 H.length (cAt [] B26) (mkL 25 V.undef (enumV 0 args)) H) := body_at Tryd.func26 (by decide) rfl ho rfl rfl args H ha
noncomputable def B27 : Code := bodyOf Tryd.f27
@[simp] theorem n27_1 (s : List V) (H : Heap) : evCode P Γ call n f m (cAt [] B27) s H = seqNext P Γ call n f m (cAt [1] B27) (evCode P Γ call n f m (cAt [0] B27) s H) := at_seq (by kernel_rfl) rfl rfl s H
noncomputable def r27_2 : {l : List Oper // opsOf (cAt [0] B27) = l} := by
  apply Subtype.mk
  dsimp only [opsOf, cAt, kids, B27, bodyOf, Tryd.f27, List.getD, List.getElem?_cons_zero, List.getElem?_cons_succ, Option.getD_some]
@[simp] theorem n27_2 (s : List V) (H : Heap) : evCode P Γ call n f m (cAt [0] B27) s H = regNext (evOpsGo P Γ call r27_2.1 r27_2.1 s H) := at_region (by kernel_rfl) r27_2.2 s H
attribute [simp] r27_2
@[simp] theorem n27_3 (s : List V) (H : Heap) : evCode P Γ call n f m (cAt [1] B27) s H = seqNext P Γ call n f m (cAt [1, 1] B27) (evCode P Γ call n f m (cAt [1, 0] B27) s H) := at_seq (by kernel_rfl) rfl rfl s H
noncomputable def r27_4 : {l : List Oper // opsOf (cAt [1, 0] B27) = l} := by
  apply Subtype.mk
  dsimp only [opsOf, cAt, kids, B27, bodyOf, Tryd.f27, List.getD, List.getElem?_cons_zero, List.getElem?_cons_succ, Option.getD_some]
@[simp] theorem n27_4 (s : List V) (H : Heap) : evCode P Γ call n f m (cAt [1, 0] B27) s H = regNext (evOpsGo P Γ call r27_4.1 r27_4.1 s H) := at_region (by kernel_rfl) r27_4.2 s H
attribute [simp] r27_4
@[simp] theorem n27_5 (s : List V) (H : Heap) : evCode P Γ call n f m (cAt [1, 1] B27) s H = seqNext P Γ call n f m (cAt [1, 1, 1] B27) (evCode P Γ call n f m (cAt [1, 1, 0] B27) s H) := at_seq (by kernel_rfl) rfl rfl s H
@[simp] theorem n27_6 (s : List V) (H : Heap) : evCode P Γ call n f m (cAt [1, 1, 0] B27) s H = seqNext P Γ call n f m (cAt [1, 1, 0, 1] B27) (evCode P Γ call n f m (cAt [1, 1, 0, 0] B27) s H) := at_seq (by kernel_rfl) rfl rfl s H
noncomputable def r27_7 : {l : List Oper // opsOf (cAt [1, 1, 0, 0] B27) = l} := by
  apply Subtype.mk
  dsimp only [opsOf, cAt, kids, B27, bodyOf, Tryd.f27, List.getD, List.getElem?_cons_zero, List.getElem?_cons_succ, Option.getD_some]
@[simp] theorem n27_7 (s : List V) (H : Heap) : evCode P Γ call n f m (cAt [1, 1, 0, 0] B27) s H = regNext (evOpsGo P Γ call r27_7.1 r27_7.1 s H) := at_region (by kernel_rfl) r27_7.2 s H
attribute [simp] r27_7
@[simp] theorem n27_8 (s : List V) (H : Heap) : evCode P Γ call n f m (cAt [1, 1, 0, 1] B27) s H = blockNext 0 (evCode P Γ call n f m (cAt [1, 1, 0, 1, 0] B27) s H) := at_block (by kernel_rfl) rfl s H
@[simp] theorem n27_9 (s : List V) (H : Heap) : evCode P Γ call n f m (cAt [1, 1, 0, 1, 0] B27) s H = evLoopC P Γ call n f m (cAt [1, 1, 0, 1, 0, 0] B27) n s H := at_loop (by kernel_rfl) rfl s H
noncomputable abbrev L27_3 : Code := cAt [1, 1, 0, 1, 0, 0] B27
@[simp] theorem n27_9f : firstRegion (cAt [1, 1, 0, 1, 0, 0] B27) = 3 := by kernel_rfl
@[simp] theorem n27_10 (s : List V) (H : Heap) : evCode P Γ call n f m (cAt [1, 1, 0, 1, 0, 0] B27) s H = seqNext P Γ call n f m (cAt [1, 1, 0, 1, 0, 0, 1] B27) (evCode P Γ call n f m (cAt [1, 1, 0, 1, 0, 0, 0] B27) s H) := at_seq (by kernel_rfl) rfl rfl s H
noncomputable def r27_11 : {l : List Oper // opsOf (cAt [1, 1, 0, 1, 0, 0, 0] B27) = l} := by
  apply Subtype.mk
  dsimp only [opsOf, cAt, kids, B27, bodyOf, Tryd.f27, List.getD, List.getElem?_cons_zero, List.getElem?_cons_succ, Option.getD_some]
@[simp] theorem n27_11 (s : List V) (H : Heap) : evCode P Γ call n f m (cAt [1, 1, 0, 1, 0, 0, 0] B27) s H = regNext (evOpsGo P Γ call r27_11.1 r27_11.1 s H) := at_region (by kernel_rfl) r27_11.2 s H
attribute [simp] r27_11
@[simp] theorem n27_12 (s : List V) (H : Heap) : evCode P Γ call n f m (cAt [1, 1, 0, 1, 0, 0, 1] B27) s H = seqNext P Γ call n f m (cAt [1, 1, 0, 1, 0, 0, 1, 1] B27) (evCode P Γ call n f m (cAt [1, 1, 0, 1, 0, 0, 1, 0] B27) s H) := at_seq (by kernel_rfl) rfl rfl s H
@[simp] theorem n27_13 (s : List V) (H : Heap) : evCode P Γ call n f m (cAt [1, 1, 0, 1, 0, 0, 1, 0] B27) s H = condW P Γ call n f m (cAt [1, 1, 0, 1, 0, 0, 1, 0, 0] B27) (cAt [1, 1, 0, 1, 0, 0, 1, 0, 1] B27) s H (evOperand Γ s (.tmp 12)) := at_cond (by kernel_rfl) (by kernel_rfl) rfl rfl s H
@[simp] theorem n27_14 (s : List V) (H : Heap) : evCode P Γ call n f m (cAt [1, 1, 0, 1, 0, 0, 1, 0, 0] B27) s H = some (.normal, s, H) := at_skip (by kernel_rfl) s H
@[simp] theorem n27_15 (s : List V) (H : Heap) : evCode P Γ call n f m (cAt [1, 1, 0, 1, 0, 0, 1, 0, 1] B27) s H = some (.exit 0, s, H) := at_exit (by kernel_rfl) s H
@[simp] theorem n27_16 (s : List V) (H : Heap) : evCode P Γ call n f m (cAt [1, 1, 0, 1, 0, 0, 1, 1] B27) s H = seqNext P Γ call n f m (cAt [1, 1, 0, 1, 0, 0, 1, 1, 1] B27) (evCode P Γ call n f m (cAt [1, 1, 0, 1, 0, 0, 1, 1, 0] B27) s H) := at_seq (by kernel_rfl) rfl rfl s H
@[simp] theorem n27_17 (s : List V) (H : Heap) : evCode P Γ call n f m (cAt [1, 1, 0, 1, 0, 0, 1, 1, 0] B27) s H = blockNext 1 (evCode P Γ call n f m (cAt [1, 1, 0, 1, 0, 0, 1, 1, 0, 0] B27) s H) := at_block (by kernel_rfl) rfl s H
@[simp] theorem n27_18 (s : List V) (H : Heap) : evCode P Γ call n f m (cAt [1, 1, 0, 1, 0, 0, 1, 1, 0, 0] B27) s H = seqNext P Γ call n f m (cAt [1, 1, 0, 1, 0, 0, 1, 1, 0, 0, 1] B27) (evCode P Γ call n f m (cAt [1, 1, 0, 1, 0, 0, 1, 1, 0, 0, 0] B27) s H) := at_seq (by kernel_rfl) rfl rfl s H
noncomputable def r27_19 : {l : List Oper // opsOf (cAt [1, 1, 0, 1, 0, 0, 1, 1, 0, 0, 0] B27) = l} := by
  apply Subtype.mk
  dsimp only [opsOf, cAt, kids, B27, bodyOf, Tryd.f27, List.getD, List.getElem?_cons_zero, List.getElem?_cons_succ, Option.getD_some]
@[simp] theorem n27_19 (s : List V) (H : Heap) : evCode P Γ call n f m (cAt [1, 1, 0, 1, 0, 0, 1, 1, 0, 0, 0] B27) s H = regNext (evOpsGo P Γ call r27_19.1 r27_19.1 s H) := at_region (by kernel_rfl) r27_19.2 s H
attribute [simp] r27_19
noncomputable def r27_20 : {l : List Oper // opsOf (cAt [1, 1, 0, 1, 0, 0, 1, 1, 0, 0, 1] B27) = l} := by
  apply Subtype.mk
  dsimp only [opsOf, cAt, kids, B27, bodyOf, Tryd.f27, List.getD, List.getElem?_cons_zero, List.getElem?_cons_succ, Option.getD_some]
@[simp] theorem n27_20 (s : List V) (H : Heap) : evCode P Γ call n f m (cAt [1, 1, 0, 1, 0, 0, 1, 1, 0, 0, 1] B27) s H = regNext (evOpsGo P Γ call r27_20.1 r27_20.1 s H) := at_region (by kernel_rfl) r27_20.2 s H
attribute [simp] r27_20
noncomputable def r27_21 : {l : List Oper // opsOf (cAt [1, 1, 0, 1, 0, 0, 1, 1, 1] B27) = l} := by
  apply Subtype.mk
  dsimp only [opsOf, cAt, kids, B27, bodyOf, Tryd.f27, List.getD, List.getElem?_cons_zero, List.getElem?_cons_succ, Option.getD_some]
@[simp] theorem n27_21 (s : List V) (H : Heap) : evCode P Γ call n f m (cAt [1, 1, 0, 1, 0, 0, 1, 1, 1] B27) s H = regNext (evOpsGo P Γ call r27_21.1 r27_21.1 s H) := at_region (by kernel_rfl) r27_21.2 s H
attribute [simp] r27_21
@[simp] theorem n27_22 (s : List V) (H : Heap) : evCode P Γ call n f m (cAt [1, 1, 1] B27) s H = seqNext P Γ call n f m (cAt [1, 1, 1, 1] B27) (evCode P Γ call n f m (cAt [1, 1, 1, 0] B27) s H) := at_seq (by kernel_rfl) rfl rfl s H
noncomputable def r27_23 : {l : List Oper // opsOf (cAt [1, 1, 1, 0] B27) = l} := by
  apply Subtype.mk
  dsimp only [opsOf, cAt, kids, B27, bodyOf, Tryd.f27, List.getD, List.getElem?_cons_zero, List.getElem?_cons_succ, Option.getD_some]
@[simp] theorem n27_23 (s : List V) (H : Heap) : evCode P Γ call n f m (cAt [1, 1, 1, 0] B27) s H = regNext (evOpsGo P Γ call r27_23.1 r27_23.1 s H) := at_region (by kernel_rfl) r27_23.2 s H
attribute [simp] r27_23
@[simp] theorem n27_24 (s : List V) (H : Heap) : evCode P Γ call n f m (cAt [1, 1, 1, 1] B27) s H = some (.ret, s, H) := at_ret (by kernel_rfl) s H
theorem b27 {k : Nat} (ho : ∀ args H, Γ.orc 27 args H = none) (args : List V) (H : Heap) (ha : args.length ≤ 21) : evF Tryd.prog Γ (k + 1) 27 args H = bodyEnd Tryd.prog [.tmp 2] H.length (evCode Tryd.prog Γ (evF Tryd.prog Γ k) k 27 H.length (cAt [] B27) (mkL 21 V.undef (enumV 0 args)) H) := body_at Tryd.func27 (by decide) rfl ho rfl rfl args H ha
noncomputable def B28 : Code := bodyOf Tryd.f28
@[simp] theorem n28_1 (s : List V) (H : Heap) : evCode P Γ call n f m (cAt [] B28) s H = seqNext P Γ call n f m (cAt [1] B28) (evCode P Γ call n f m (cAt [0] B28) s H) := at_seq (by kernel_rfl) rfl rfl s H
noncomputable def r28_2 : {l : List Oper // opsOf (cAt [0] B28) = l} := by
  apply Subtype.mk
  dsimp only [opsOf, cAt, kids, B28, bodyOf, Tryd.f28, List.getD, List.getElem?_cons_zero, List.getElem?_cons_succ, Option.getD_some]
@[simp] theorem n28_2 (s : List V) (H : Heap) : evCode P Γ call n f m (cAt [0] B28) s H = regNext (evOpsGo P Γ call r28_2.1 r28_2.1 s H) := at_region (by kernel_rfl) r28_2.2 s H
attribute [simp] r28_2
@[simp] theorem n28_3 (s : List V) (H : Heap) : evCode P Γ call n f m (cAt [1] B28) s H = seqNext P Γ call n f m (cAt [1, 1] B28) (evCode P Γ call n f m (cAt [1, 0] B28) s H) := at_seq (by kernel_rfl) rfl rfl s H
@[simp] theorem n28_4 (s : List V) (H : Heap) : evCode P Γ call n f m (cAt [1, 0] B28) s H = seqNext P Γ call n f m (cAt [1, 0, 1] B28) (evCode P Γ call n f m (cAt [1, 0, 0] B28) s H) := at_seq (by kernel_rfl) rfl rfl s H
noncomputable def r28_5 : {l : List Oper // opsOf (cAt [1, 0, 0] B28) = l} := by
  apply Subtype.mk
  dsimp only [opsOf, cAt, kids, B28, bodyOf, Tryd.f28, List.getD, List.getElem?_cons_zero, List.getElem?_cons_succ, Option.getD_some]
@[simp] theorem n28_5 (s : List V) (H : Heap) : evCode P Γ call n f m (cAt [1, 0, 0] B28) s H = regNext (evOpsGo P Γ call r28_5.1 r28_5.1 s H) := at_region (by kernel_rfl) r28_5.2 s H
attribute [simp] r28_5
@[simp] theorem n28_6 (s : List V) (H : Heap) : evCode P Γ call n f m (cAt [1, 0, 1] B28) s H = condW P Γ call n f m (cAt [1, 0, 1, 0] B28) (cAt [1, 0, 1, 1] B28) s H (evOperand Γ s (.tmp 11)) := at_cond (by kernel_rfl) (by kernel_rfl) rfl rfl s H
@[simp] theorem n28_7 (s : List V) (H : Heap) : evCode P Γ call n f m (cAt [1, 0, 1, 0] B28) s H = seqNext P Γ call n f m (cAt [1, 0, 1, 0, 1] B28) (evCode P Γ call n f m (cAt [1, 0, 1, 0, 0] B28) s H) := at_seq (by kernel_rfl) rfl rfl s H
noncomputable def r28_8 : {l : List Oper // opsOf (cAt [1, 0, 1, 0, 0] B28) = l} := by
  apply Subtype.mk
  dsimp only [opsOf, cAt, kids, B28, bodyOf, Tryd.f28, List.getD, List.getElem?_cons_zero, List.getElem?_cons_succ, Option.getD_some]
@[simp] theorem n28_8 (s : List V) (H : Heap) : evCode P Γ call n f m (cAt [1, 0, 1, 0, 0] B28) s H = regNext (evOpsGo P Γ call r28_8.1 r28_8.1 s H) := at_region (by kernel_rfl) r28_8.2 s H
attribute [simp] r28_8
@[simp] theorem n28_9 (s : List V) (H : Heap) : evCode P Γ call n f m (cAt [1, 0, 1, 0, 1] B28) s H = some (.ret, s, H) := at_ret (by kernel_rfl) s H
@[simp] theorem n28_10 (s : List V) (H : Heap) : evCode P Γ call n f m (cAt [1, 0, 1, 1] B28) s H = some (.normal, s, H) := at_skip (by kernel_rfl) s H
@[simp] theorem n28_11 (s : List V) (H : Heap) : evCode P Γ call n f m (cAt [1, 1] B28) s H = seqNext P Γ call n f m (cAt [1, 1, 1] B28) (evCode P Γ call n f m (cAt [1, 1, 0] B28) s H) := at_seq (by kernel_rfl) rfl rfl s H
noncomputable def r28_12 : {l : List Oper // opsOf (cAt [1, 1, 0] B28) = l} := by
  apply Subtype.mk
  dsimp only [opsOf, cAt, kids, B28, bodyOf, Tryd.f28, List.getD, List.getElem?_cons_zero, List.getElem?_cons_succ, Option.getD_some]
@[simp] theorem n28_12 (s : List V) (H : Heap) : evCode P Γ call n f m (cAt [1, 1, 0] B28) s H = regNext (evOpsGo P Γ call r28_12.1 r28_12.1 s H) := at_region (by kernel_rfl) r28_12.2 s H
attribute [simp] r28_12
@[simp] theorem n28_13 (s : List V) (H : Heap) : evCode P Γ call n f m (cAt [1, 1, 1] B28) s H = seqNext P Γ call n f m (cAt [1, 1, 1, 1] B28) (evCode P Γ call n f m (cAt [1, 1, 1, 0] B28) s H) := at_seq (by kernel_rfl) rfl rfl s H
@[simp] theorem n28_14 (s : List V) (H : Heap) : evCode P Γ call n f m (cAt [1, 1, 1, 0] B28) s H = seqNext P Γ call n f m (cAt [1, 1, 1, 0, 1] B28) (evCode P Γ call n f m (cAt [1, 1, 1, 0, 0] B28) s H) := at_seq (by kernel_rfl) rfl rfl s H
noncomputable def r28_15 : {l : List Oper // opsOf (cAt [1, 1, 1, 0, 0] B28) = l} := by
  apply Subtype.mk
  dsimp only [opsOf, cAt, kids, B28, bodyOf, Tryd.f28, List.getD, List.getElem?_cons_zero, List.getElem?_cons_succ, Option.getD_some]
@[simp] theorem n28_15 (s : List V) (H : Heap) : evCode P Γ call n f m (cAt [1, 1, 1, 0, 0] B28) s H = regNext (evOpsGo P Γ call r28_15.1 r28_15.1 s H) := at_region (by kernel_rfl) r28_15.2 s H
attribute [simp] r28_15
@[simp] theorem n28_16 (s : List V) (H : Heap) : evCode P Γ call n f m (cAt [1, 1, 1, 0, 1] B28) s H = condW P Γ call n f m (cAt [1, 1, 1, 0, 1, 0] B28) (cAt [1, 1, 1, 0, 1, 1] B28) s H (evOperand Γ s (.tmp 61)) := at_cond (by kernel_rfl) (by kernel_rfl) rfl rfl s H
@[simp] theorem n28_17 (s : List V) (H : Heap) : evCode P Γ call n f m (cAt [1, 1, 1, 0, 1, 0] B28) s H = seqNext P Γ call n f m (cAt [1, 1, 1, 0, 1, 0, 1] B28) (evCode P Γ call n f m (cAt [1, 1, 1, 0, 1, 0, 0] B28) s H) := at_seq (by kernel_rfl) rfl rfl s H
noncomputable def r28_18 : {l : List Oper // opsOf (cAt [1, 1, 1, 0, 1, 0, 0] B28) = l} := by
  apply Subtype.mk
  dsimp only [opsOf, cAt, kids, B28, bodyOf, Tryd.f28, List.getD, List.getElem?_cons_zero, List.getElem?_cons_succ, Option.getD_some]
@[simp] theorem n28_18 (s : List V) (H : Heap) : evCode P Γ call n f m (cAt [1, 1, 1, 0, 1, 0, 0] B28) s H = regNext (evOpsGo P Γ call r28_18.1 r28_18.1 s H) := at_region (by kernel_rfl) r28_18.2 s H
attribute [simp] r28_18
@[simp] theorem n28_19 (s : List V) (H : Heap) : evCode P Γ call n f m (cAt [1, 1, 1, 0, 1, 0, 1] B28) s H = some (.ret, s, H) := at_ret (by kernel_rfl) s H
@[simp] theorem n28_20 (s : List V) (H : Heap) : evCode P Γ call n f m (cAt [1, 1, 1, 0, 1, 1] B28) s H = some (.normal, s, H) := at_skip (by kernel_rfl) s H
@[simp] theorem n28_21 (s : List V) (H : Heap) : evCode P Γ call n f m (cAt [1, 1, 1, 1] B28) s H = seqNext P Γ call n f m (cAt [1, 1, 1, 1, 1] B28) (evCode P Γ call n f m (cAt [1, 1, 1, 1, 0] B28) s H) := at_seq (by kernel_rfl) rfl rfl s H
@[simp] theorem n28_22 (s : List V) (H : Heap) : evCode P Γ call n f m (cAt [1, 1, 1, 1, 0] B28) s H = seqNext P Γ call n f m (cAt [1, 1, 1, 1, 0, 1] B28) (evCode P Γ call n f m (cAt [1, 1, 1, 1, 0, 0] B28) s H) := at_seq (by kernel_rfl) rfl rfl s H
noncomputable def r28_23 : {l : List Oper // opsOf (cAt [1, 1, 1, 1, 0, 0] B28) = l} := by
  apply Subtype.mk
  dsimp only [opsOf, cAt, kids, B28, bodyOf, Tryd.f28, List.getD, List.getElem?_cons_zero, List.getElem?_cons_succ, Option.getD_some]
@[simp] theorem n28_23 (s : List V) (H : Heap) : evCode P Γ call n f m (cAt [1, 1, 1, 1, 0, 0] B28) s H = regNext (evOpsGo P Γ call r28_23.1 r28_23.1 s H) := at_region (by kernel_rfl) r28_23.2 s H
attribute [simp] r28_23
@[simp] theorem n28_24 (s : List V) (H : Heap) : evCode P Γ call n f m (cAt [1, 1, 1, 1, 0, 1] B28) s H = blockNext 0 (evCode P Γ call n f m (cAt [1, 1, 1, 1, 0, 1, 0] B28) s H) := at_block (by kernel_rfl) rfl s H
@[simp] theorem n28_25 (s : List V) (H : Heap) : evCode P Γ call n f m (cAt [1, 1, 1, 1, 0, 1, 0] B28) s H = seqNext P Γ call n f m (cAt [1, 1, 1, 1, 0, 1, 0, 1] B28) (evCode P Γ call n f m (cAt [1, 1, 1, 1, 0, 1, 0, 0] B28) s H) := at_seq (by kernel_rfl) rfl rfl s H
@[simp] theorem n28_26 (s : List V) (H : Heap) : evCode P Γ call n f m (cAt [1, 1, 1, 1, 0, 1, 0, 0] B28) s H = seqNext P Γ call n f m (cAt [1, 1, 1, 1, 0, 1, 0, 0, 1] B28) (evCode P Γ call n f m (cAt [1, 1, 1, 1, 0, 1, 0, 0, 0] B28) s H) := at_seq (by kernel_rfl) rfl rfl s H
noncomputable def r28_27 : {l : List Oper // opsOf (cAt [1, 1, 1, 1, 0, 1, 0, 0, 0] B28) = l} := by
  apply Subtype.mk
  dsimp only [opsOf, cAt, kids, B28, bodyOf, Tryd.f28, List.getD, List.getElem?_cons_zero, List.getElem?_cons_succ, Option.getD_some]
@[simp] theorem n28_27 (s : List V) (H : Heap) : evCode P Γ call n f m (cAt [1, 1, 1, 1, 0, 1, 0, 0, 0] B28) s H = regNext (evOpsGo P Γ call r28_27.1 r28_27.1 s H) := at_region (by kernel_rfl) r28_27.2 s H
attribute [simp] r28_27
@[simp] theorem n28_28 (s : List V) (H : Heap) : evCode P Γ call n f m (cAt [1, 1, 1, 1, 0, 1, 0, 0, 1] B28) s H = condW P Γ call n f m (cAt [1, 1, 1, 1, 0, 1, 0, 0, 1, 0] B28) (cAt [1, 1, 1, 1, 0, 1, 0, 0, 1, 1] B28) s H (evOperand Γ s (.tmp 64)) := at_cond (by kernel_rfl) (by kernel_rfl) rfl rfl s H
@[simp] theorem n28_29 (s : List V) (H : Heap) : evCode P Γ call n f m (cAt [1, 1, 1, 1, 0, 1, 0, 0, 1, 0] B28) s H = some (.normal, s, H) := at_skip (by kernel_rfl) s H
noncomputable def r28_30 : {l : List Oper // opsOf (cAt [1, 1, 1, 1, 0, 1, 0, 0, 1, 1] B28) = l} := by
  apply Subtype.mk
  dsimp only [opsOf, cAt, kids, B28, bodyOf, Tryd.f28, List.getD, List.getElem?_cons_zero, List.getElem?_cons_succ, Option.getD_some]
@[simp] theorem n28_30 (s : List V) (H : Heap) : evCode P Γ call n f m (cAt [1, 1, 1, 1, 0, 1, 0, 0, 1, 1] B28) s H = regNext (evOpsGo P Γ call r28_30.1 r28_30.1 s H) := at_region (by kernel_rfl) r28_30.2 s H
attribute [simp] r28_30
@[simp] theorem n28_31 (s : List V) (H : Heap) : evCode P Γ call n f m (cAt [1, 1, 1, 1, 0, 1, 0, 1] B28) s H = condW P Γ call n f m (cAt [1, 1, 1, 1, 0, 1, 0, 1, 0] B28) (cAt [1, 1, 1, 1, 0, 1, 0, 1, 1] B28) s H (evOperand Γ s (.tmp 64)) := at_cond (by kernel_rfl) (by kernel_rfl) rfl rfl s H
@[simp] theorem n28_32 (s : List V) (H : Heap) : evCode P Γ call n f m (cAt [1, 1, 1, 1, 0, 1, 0, 1, 0] B28) s H = seqNext P Γ call n f m (cAt [1, 1, 1, 1, 0, 1, 0, 1, 0, 1] B28) (evCode P Γ call n f m (cAt [1, 1, 1, 1, 0, 1, 0, 1, 0, 0] B28) s H) := at_seq (by kernel_rfl) rfl rfl s H
noncomputable def r28_33 : {l : List Oper // opsOf (cAt [1, 1, 1, 1, 0, 1, 0, 1, 0, 0] B28) = l} := by
  apply Subtype.mk
  dsimp only [opsOf, cAt, kids, B28, bodyOf, Tryd.f28, List.getD, List.getElem?_cons_zero, List.getElem?_cons_succ, Option.getD_some]
@[simp] theorem n28_33 (s : List V) (H : Heap) : evCode P Γ call n f m (cAt [1, 1, 1, 1, 0, 1, 0, 1, 0, 0] B28) s H = regNext (evOpsGo P Γ call r28_33.1 r28_33.1 s H) := at_region (by kernel_rfl) r28_33.2 s H
attribute [simp] r28_33
@[simp] theorem n28_34 (s : List V) (H : Heap) : evCode P Γ call n f m (cAt [1, 1, 1, 1, 0, 1, 0, 1, 0, 1] B28) s H = condW P Γ call n f m (cAt [1, 1, 1, 1, 0, 1, 0, 1, 0, 1, 0] B28) (cAt [1, 1, 1, 1, 0, 1, 0, 1, 0, 1, 1] B28) s H (evOperand Γ s (.tmp 70)) := at_cond (by kernel_rfl) (by kernel_rfl) rfl rfl s H
@[simp] theorem n28_35 (s : List V) (H : Heap) : evCode P Γ call n f m (cAt [1, 1, 1, 1, 0, 1, 0, 1, 0, 1, 0] B28) s H = seqNext P Γ call n f m (cAt [1, 1, 1, 1, 0, 1, 0, 1, 0, 1, 0, 1] B28) (evCode P Γ call n f m (cAt [1, 1, 1, 1, 0, 1, 0, 1, 0, 1, 0, 0] B28) s H) := at_seq (by kernel_rfl) rfl rfl s H
noncomputable def r28_36 : {l : List Oper // opsOf (cAt [1, 1, 1, 1, 0, 1, 0, 1, 0, 1, 0, 0] B28) = l} := by
  apply Subtype.mk
  dsimp only [opsOf, cAt, kids, B28, bodyOf, Tryd.f28, List.getD, List.getElem?_cons_zero, List.getElem?_cons_succ, Option.getD_some]
@[simp] theorem n28_36 (s : List V) (H : Heap) : evCode P Γ call n f m (cAt [1, 1, 1, 1, 0, 1, 0, 1, 0, 1, 0, 0] B28) s H = regNext (evOpsGo P Γ call r28_36.1 r28_36.1 s H) := at_region (by kernel_rfl) r28_36.2 s H
attribute [simp] r28_36
@[simp] theorem n28_37 (s : List V) (H : Heap) : evCode P Γ call n f m (cAt [1, 1, 1, 1, 0, 1, 0, 1, 0, 1, 0, 1] B28) s H = some (.ret, s, H) := at_ret (by kernel_rfl) s H
@[simp] theorem n28_38 (s : List V) (H : Heap) : evCode P Γ call n f m (cAt [1, 1, 1, 1, 0, 1, 0, 1, 0, 1, 1] B28) s H = some (.normal, s, H) := at_skip (by kernel_rfl) s H
@[simp] theorem n28_39 (s : List V) (H : Heap) : evCode P Γ call n f m (cAt [1, 1, 1, 1, 0, 1, 0, 1, 1] B28) s H = seqNext P Γ call n f m (cAt [1, 1, 1, 1, 0, 1, 0, 1, 1, 1] B28) (evCode P Γ call n f m (cAt [1, 1, 1, 1, 0, 1, 0, 1, 1, 0] B28) s H) := at_seq (by kernel_rfl) rfl rfl s H
noncomputable def r28_40 : {l : List Oper // opsOf (cAt [1, 1, 1, 1, 0, 1, 0, 1, 1, 0] B28) = l} := by
  apply Subtype.mk
  dsimp only [opsOf, cAt, kids, B28, bodyOf, Tryd.f28, List.getD, List.getElem?_cons_zero, List.getElem?_cons_succ, Option.getD_some]
@[simp] theorem n28_40 (s : List V) (H : Heap) : evCode P Γ call n f m (cAt [1, 1, 1, 1, 0, 1, 0, 1, 1, 0] B28) s H = regNext (evOpsGo P Γ call r28_40.1 r28_40.1 s H) := at_region (by kernel_rfl) r28_40.2 s H
attribute [simp] r28_40
@[simp] theorem n28_41 (s : List V) (H : Heap) : evCode P Γ call n f m (cAt [1, 1, 1, 1, 0, 1, 0, 1, 1, 1] B28) s H = condW P Γ call n f m (cAt [1, 1, 1, 1, 0, 1, 0, 1, 1, 1, 0] B28) (cAt [1, 1, 1, 1, 0, 1, 0, 1, 1, 1, 1] B28) s H (evOperand Γ s (.tmp 71)) := at_cond (by kernel_rfl) (by kernel_rfl) rfl rfl s H
@[simp] theorem n28_42 (s : List V) (H : Heap) : evCode P Γ call n f m (cAt [1, 1, 1, 1, 0, 1, 0, 1, 1, 1, 0] B28) s H = seqNext P Γ call n f m (cAt [1, 1, 1, 1, 0, 1, 0, 1, 1, 1, 0, 1] B28) (evCode P Γ call n f m (cAt [1, 1, 1, 1, 0, 1, 0, 1, 1, 1, 0, 0] B28) s H) := at_seq (by kernel_rfl) rfl rfl s H
noncomputable def r28_43 : {l : List Oper // opsOf (cAt [1, 1, 1, 1, 0, 1, 0, 1, 1, 1, 0, 0] B28) = l} := by
  apply Subtype.mk
  dsimp only [opsOf, cAt, kids, B28, bodyOf, Tryd.f28, List.getD, List.getElem?_cons_zero, List.getElem?_cons_succ, Option.getD_some]
@[simp] theorem n28_43 (s : List V) (H : Heap) : evCode P Γ call n f m (cAt [1, 1, 1, 1, 0, 1, 0, 1, 1, 1, 0, 0] B28) s H = regNext (evOpsGo P Γ call r28_43.1 r28_43.1 s H) := at_region (by kernel_rfl) r28_43.2 s H
attribute [simp] r28_43
@[simp] theorem n28_44 (s : List V) (H : Heap) : evCode P Γ call n f m (cAt [1, 1, 1, 1, 0, 1, 0, 1, 1, 1, 0, 1] B28) s H = condW P Γ call n f m (cAt [1, 1, 1, 1, 0, 1, 0, 1, 1, 1, 0, 1, 0] B28) (cAt [1, 1, 1, 1, 0, 1, 0, 1, 1, 1, 0, 1, 1] B28) s H (evOperand Γ s (.tmp 87)) := at_cond (by kernel_rfl) (by kernel_rfl) rfl rfl s H
@[simp] theorem n28_45 (s : List V) (H : Heap) : evCode P Γ call n f m (cAt [1, 1, 1, 1, 0, 1, 0, 1, 1, 1, 0, 1, 0] B28) s H = seqNext P Γ call n f m (cAt [1, 1, 1, 1, 0, 1, 0, 1, 1, 1, 0, 1, 0, 1] B28) (evCode P Γ call n f m (cAt [1, 1, 1, 1, 0, 1, 0, 1, 1, 1, 0, 1, 0, 0] B28) s H) := at_seq (by kernel_rfl) rfl rfl s H
noncomputable def r28_46 : {l : List Oper // opsOf (cAt [1, 1, 1, 1, 0, 1, 0, 1, 1, 1, 0, 1, 0, 0] B28) = l} := by
  apply Subtype.mk
  dsimp only [opsOf, cAt, kids, B28, bodyOf, Tryd.f28, List.getD, List.getElem?_cons_zero, List.getElem?_cons_succ, Option.getD_some]
@[simp] theorem n28_46 (s : List V) (H : Heap) : evCode P Γ call n f m (cAt [1, 1, 1, 1, 0, 1, 0, 1, 1, 1, 0, 1, 0, 0] B28) s H = regNext (evOpsGo P Γ call r28_46.1 r28_46.1 s H) := at_region (by kernel_rfl) r28_46.2 s H
attribute [simp] r28_46
@[simp] theorem n28_47 (s : List V) (H : Heap) : evCode P Γ call n f m (cAt [1, 1, 1, 1, 0, 1, 0, 1, 1, 1, 0, 1, 0, 1] B28) s H = some (.ret, s, H) := at_ret (by kernel_rfl) s H
@[simp] theorem n28_48 (s : List V) (H : Heap) : evCode P Γ call n f m (cAt [1, 1, 1, 1, 0, 1, 0, 1, 1, 1, 0, 1, 1] B28) s H = some (.normal, s, H) := at_skip (by kernel_rfl) s H
@[simp] theorem n28_49 (s : List V) (H : Heap) : evCode P Γ call n f m (cAt [1, 1, 1, 1, 0, 1, 0, 1, 1, 1, 1] B28) s H = seqNext P Γ call n f m (cAt [1, 1, 1, 1, 0, 1, 0, 1, 1, 1, 1, 1] B28) (evCode P Γ call n f m (cAt [1, 1, 1, 1, 0, 1, 0, 1, 1, 1, 1, 0] B28) s H) := at_seq (by kernel_rfl) rfl rfl s H
noncomputable def r28_50 : {l : List Oper // opsOf (cAt [1, 1, 1, 1, 0, 1, 0, 1, 1, 1, 1, 0] B28) = l} := by
  apply Subtype.mk
  dsimp only [opsOf, cAt, kids, B28, bodyOf, Tryd.f28, List.getD, List.getElem?_cons_zero, List.getElem?_cons_succ, Option.getD_some]
@[simp] theorem n28_50 (s : List V) (H : Heap) : evCode P Γ call n f m (cAt [1, 1, 1, 1, 0, 1, 0, 1, 1, 1, 1, 0] B28) s H = regNext (evOpsGo P Γ call r28_50.1 r28_50.1 s H) := at_region (by kernel_rfl) r28_50.2 s H
attribute [simp] r28_50
@[simp] theorem n28_51 (s : List V) (H : Heap) : evCode P Γ call n f m (cAt [1, 1, 1, 1, 0, 1, 0, 1, 1, 1, 1, 1] B28) s H = condW P Γ call n f m (cAt [1, 1, 1, 1, 0, 1, 0, 1, 1, 1, 1, 1, 0] B28) (cAt [1, 1, 1, 1, 0, 1, 0, 1, 1, 1, 1, 1, 1] B28) s H (evOperand Γ s (.tmp 88)) := at_cond (by kernel_rfl) (by kernel_rfl) rfl rfl s H
@[simp] theorem n28_52 (s : List V) (H : Heap) : evCode P Γ call n f m (cAt [1, 1, 1, 1, 0, 1, 0, 1, 1, 1, 1, 1, 0] B28) s H = seqNext P Γ call n f m (cAt [1, 1, 1, 1, 0, 1, 0, 1, 1, 1, 1, 1, 0, 1] B28) (evCode P Γ call n f m (cAt [1, 1, 1, 1, 0, 1, 0, 1, 1, 1, 1, 1, 0, 0] B28) s H) := at_seq (by kernel_rfl) rfl rfl s H
noncomputable def r28_53 : {l : List Oper // opsOf (cAt [1, 1, 1, 1, 0, 1, 0, 1, 1, 1, 1, 1, 0, 0] B28) = l} := by
  apply Subtype.mk
  dsimp only [opsOf, cAt, kids, B28, bodyOf, Tryd.f28, List.getD, List.getElem?_cons_zero, List.getElem?_cons_succ, Option.getD_some]
@[simp] theorem n28_53 (s : List V) (H : Heap) : evCode P Γ call n f m (cAt [1, 1, 1, 1, 0, 1, 0, 1, 1, 1, 1, 1, 0, 0] B28) s H = regNext (evOpsGo P Γ call r28_53.1 r28_53.1 s H) := at_region (by kernel_rfl) r28_53.2 s H
attribute [simp] r28_53
@[simp] theorem n28_54 (s : List V) (H : Heap) : evCode P Γ call n f m (cAt [1, 1, 1, 1, 0, 1, 0, 1, 1, 1, 1, 1, 0, 1] B28) s H = condW P Γ call n f m (cAt [1, 1, 1, 1, 0, 1, 0, 1, 1, 1, 1, 1, 0, 1, 0] B28) (cAt [1, 1, 1, 1, 0, 1, 0, 1, 1, 1, 1, 1, 0, 1, 1] B28) s H (evOperand Γ s (.tmp 104)) := at_cond (by kernel_rfl) (by kernel_rfl) rfl rfl s H
@[simp] theorem n28_55 (s : List V) (H : Heap) : evCode P Γ call n f m (cAt [1, 1, 1, 1, 0, 1, 0, 1, 1, 1, 1, 1, 0, 1, 0] B28) s H = seqNext P Γ call n f m (cAt [1, 1, 1, 1, 0, 1, 0, 1, 1, 1, 1, 1, 0, 1, 0, 1] B28) (evCode P Γ call n f m (cAt [1, 1, 1, 1, 0, 1, 0, 1, 1, 1, 1, 1, 0, 1, 0, 0] B28) s H) := at_seq (by kernel_rfl) rfl rfl s H
noncomputable def r28_56 : {l : List Oper // opsOf (cAt [1, 1, 1, 1, 0, 1, 0, 1, 1, 1, 1, 1, 0, 1, 0, 0] B28) = l} := by
  apply Subtype.mk
  dsimp only [opsOf, cAt, kids, B28, bodyOf, Tryd.f28, List.getD, List.getElem?_cons_zero, List.getElem?_cons_succ, Option.getD_some]
@[simp] theorem n28_56 (s : List V) (H : Heap) : evCode P Γ call n f m (cAt [1, 1, 1, 1, 0, 1, 0, 1, 1, 1, 1, 1, 0, 1, 0, 0] B28) s H = regNext (evOpsGo P Γ call r28_56.1 r28_56.1 s H) := at_region (by kernel_rfl) r28_56.2 s H
attribute [simp] r28_56
@[simp] theorem n28_57 (s : List V) (H : Heap) : evCode P Γ call n f m (cAt [1, 1, 1, 1, 0, 1, 0, 1, 1, 1, 1, 1, 0, 1, 0, 1] B28) s H = some (.ret, s, H) := at_ret (by kernel_rfl) s H
@[simp] theorem n28_58 (s : List V) (H : Heap) : evCode P Γ call n f m (cAt [1, 1, 1, 1, 0, 1, 0, 1, 1, 1, 1, 1, 0, 1, 1] B28) s H = some (.normal, s, H) := at_skip (by kernel_rfl) s H
@[simp] theorem n28_59 (s : List V) (H : Heap) : evCode P Γ call n f m (cAt [1, 1, 1, 1, 0, 1, 0, 1, 1, 1, 1, 1, 1] B28) s H = some (.normal, s, H) := at_skip (by kernel_rfl) s H
@[simp] theorem n28_60 (s : List V) (H : Heap) : evCode P Γ call n f m (cAt [1, 1, 1, 1, 1] B28) s H = seqNext P Γ call n f m (cAt [1, 1, 1, 1, 1, 1] B28) (evCode P Γ call n f m (cAt [1, 1, 1, 1, 1, 0] B28) s H) := at_seq (by kernel_rfl) rfl rfl s H
noncomputable def r28_61 : {l : List Oper // opsOf (cAt [1, 1, 1, 1, 1, 0] B28) = l} := by
  apply Subtype.mk
  dsimp only [opsOf, cAt, kids, B28, bodyOf, Tryd.f28, List.getD, List.getElem?_cons_zero, List.getElem?_cons_succ, Option.getD_some]
@[simp] theorem n28_61 (s : List V) (H : Heap) : evCode P Γ call n f m (cAt [1, 1, 1, 1, 1, 0] B28) s H = regNext (evOpsGo P Γ call r28_61.1 r28_61.1 s H) := at_region (by kernel_rfl) r28_61.2 s H
attribute [simp] r28_61
@[simp] theorem n28_62 (s : List V) (H : Heap) : evCode P Γ call n f m (cAt [1, 1, 1, 1, 1, 1] B28) s H = some (.ret, s, H) := at_ret (by kernel_rfl) s H
theorem b28 {k : Nat} (ho : ∀ args H, Γ.orc 28 args H = none) (args : List V) (H : Heap) (ha : args.length ≤ 105) : evF Tryd.prog Γ (k + 1) 28 args H = bodyEnd Tryd.prog [.tmp 2] H.length (evCode Tryd.prog Γ (evF Tryd.prog Γ k) k 28 H.length (cAt [] B28) (mkL 105 V.undef (enumV 0 args)) H) := body_at Tryd.func28 (by decide) rfl ho rfl rfl args H ha
noncomputable def B53 : Code := bodyOf Tryd.f53
@[simp] theorem n53_1 (s : List V) (H : Heap) : evCode P Γ call n f m (cAt [] B53) s H = seqNext P Γ call n f m (cAt [1] B53) (evCode P Γ call n f m (cAt [0] B53) s H) := at_seq (by kernel_rfl) rfl rfl s H
noncomputable def r53_2 : {l : List Oper // opsOf (cAt [0] B53) = l} := by
  apply Subtype.mk
  dsimp only [opsOf, cAt, kids, B53, bodyOf, Tryd.f53, List.getD, List.getElem?_cons_zero, List.getElem?_cons_succ, Option.getD_some]
@[simp] theorem n53_2 (s : List V) (H : Heap) : evCode P Γ call n f m (cAt [0] B53) s H = regNext (evOpsGo P Γ call r53_2.1 r53_2.1 s H) := at_region (by kernel_rfl) r53_2.2 s H
attribute [simp] r53_2
@[simp] theorem n53_3 (s : List V) (H : Heap) : evCode P Γ call n f m (cAt [1] B53) s H = seqNext P Γ call n f m (cAt [1, 1] B53) (evCode P Γ call n f m (cAt [1, 0] B53) s H) := at_seq (by kernel_rfl) rfl rfl s H
noncomputable def r53_4 : {l : List Oper // opsOf (cAt [1, 0] B53) = l} := by
  apply Subtype.mk
  dsimp only [opsOf, cAt, kids, B53, bodyOf, Tryd.f53, List.getD, List.getElem?_cons_zero, List.getElem?_cons_succ, Option.getD_some]
@[simp] theorem n53_4 (s : List V) (H : Heap) : evCode P Γ call n f m (cAt [1, 0] B53) s H = regNext (drawR P Γ call r53_4.1 [([13, 14, 15, 16, 17, 18], [19, 20, 21, 22, 23, 24]), ([13, 14, 15, 16, 17, 18], [19, 20, 21, 22, 23, 24]), ([13, 14, 15, 16, 17, 18], [19, 20, 21, 22, 23, 24]), ([13, 14, 15, 16, 17, 18], [19, 20, 21, 22, 23, 24]), ([13, 14, 15, 16, 17, 18], [19, 20, 21, 22, 23, 24]), ([13, 14, 15, 16, 17, 18], [19, 20, 21, 22, 23, 24]), ([13, 14, 15, 16, 17, 18], [19, 20, 21, 22, 23, 24]), ([13, 14, 15, 16, 17, 18], [19, 20, 21, 22, 23, 24]), ([13, 14, 15, 16, 17, 18], [19, 20, 21, 22, 23, 24]), ([13, 14, 15, 16, 17, 18, 19, 20, 21, 22, 23, 24, 25, 26, 27, 28], [19, 20, 21, 22, 23, 24, 25, 26, 27, 28, 29, 30, 31, 32, 33, 34]), ([13, 14, 15, 16, 17, 18, 19, 20, 21, 22, 23, 24, 25, 26, 27, 28], [19, 20, 21, 22, 23, 24, 25, 26, 27, 28, 29, 30, 31, 32, 33, 34]), ([13, 14, 15, 16, 17, 18, 19, 20, 21, 22, 23, 24, 25, 26, 27, 28], [19, 20, 21, 22, 23, 24, 25, 26, 27, 28, 29, 30, 31, 32, 33, 34]), ([13, 14, 15, 16, 17, 18, 19, 20, 21, 22, 23, 24, 25, 26, 27, 28], [19, 20, 21, 22, 23, 24, 25, 26, 27, 28, 29, 30, 31, 32, 33, 34]), ([0, 1, 2, 3, 4, 5, 6, 7, 8, 9, 10, 11, 12, 16, 17, 18, 19, 20, 21, 22, 23, 24, 25, 26, 27, 28, 29], [6, 7, 8, 9, 10, 11, 12, 13, 14, 15, 16, 17, 18, 22, 23, 24, 25, 26, 27, 28, 29, 30, 31, 32, 33, 34, 3]), ([0, 1, 2, 3, 4, 5, 6, 7, 8, 9, 10, 11, 12, 16, 17, 18, 19, 20, 21, 22, 23, 24, 25, 26, 27, 28, 29], [6, 7, 8, 9, 10, 11, 12, 13, 14, 15, 16, 17, 18, 22, 23, 24, 25, 26, 27, 28, 29, 30, 31, 32, 33, 34, 3]), ([0, 1, 2, 3, 4, 5, 6, 7, 8, 9, 10, 11, 12, 16, 17, 18, 19, 20, 21, 22, 23, 24, 25, 26, 27, 28, 29], [6, 7, 8, 9, 10, 11, 12, 13, 14, 15, 16, 17, 18, 22, 23, 24, 25, 26, 27, 28, 29, 30, 31, 32, 33, 34, 3]), ([0, 1, 2, 3, 4, 5, 6, 7, 8, 9, 10, 11, 12, 13, 14, 15], [6, 7, 8, 9, 10, 11, 12, 13, 14, 15, 16, 17, 18, 19, 20, 21]), ([0, 1, 2, 3, 4, 5, 6, 7, 8, 9, 10, 11, 12, 13, 14, 15], [6, 7, 8, 9, 10, 11, 12, 13, 14, 15, 16, 17, 18, 19, 20, 21]), ([0, 1, 2, 3, 4, 5, 6, 7, 8, 9, 10, 11, 12, 13, 14, 15], [6, 7, 8, 9, 10, 11, 12, 13, 14, 15, 16, 17, 18, 19, 20, 21]), ([9, 10, 11, 12, 13, 14, 15], [15, 16, 17, 18, 19, 20, 21]), ([9, 10, 11, 12, 13, 14, 15], [15, 16, 17, 18, 19, 20, 21]), ([9, 10, 11, 12, 13, 14, 15], [15, 16, 17, 18, 19, 20, 21]), ([9, 10, 11, 12, 13, 14, 15], [15, 16, 17, 18, 19, 20, 21]), ([9, 10, 11, 12, 13, 14, 15], [15, 16, 17, 18, 19, 20, 21]), ([9, 10, 11, 12, 13, 14, 15], [15, 16, 17, 18, 19, 20, 21]), ([9, 10, 11, 12, 13, 14, 15, 29, 30], [15, 16, 17, 18, 19, 20, 21, 3, 4]), ([9, 10, 11, 12, 13, 14, 15, 29, 30], [15, 16, 17, 18, 19, 20, 21, 3, 4]), ([9, 10, 11, 12, 13, 14, 15, 29, 30], [15, 16, 17, 18, 19, 20, 21, 3, 4]), ([9, 10, 11, 12, 13, 14, 15, 29, 30], [15, 16, 17, 18, 19, 20, 21, 3, 4]), ([13, 14, 15, 25, 26, 27, 28], [19, 20, 21, 31, 32, 33, 34]), ([25, 26, 27, 28], [31, 32, 33, 34]), ([], [])] s H) := at_drawT (by kernel_rfl) r53_4.2 (by kernel_rfl) s H
attribute [simp] r53_4
@[simp] theorem n53_5 (s : List V) (H : Heap) : evCode P Γ call n f m (cAt [1, 1] B53) s H = seqNext P Γ call n f m (cAt [1, 1, 1] B53) (evCode P Γ call n f m (cAt [1, 1, 0] B53) s H) := at_seq (by kernel_rfl) rfl rfl s H
@[simp] theorem n53_6 (s : List V) (H : Heap) : evCode P Γ call n f m (cAt [1, 1, 0] B53) s H = blockNext 0 (evCode P Γ call n f m (cAt [1, 1, 0, 0] B53) s H) := at_block (by kernel_rfl) rfl s H
@[simp] theorem n53_7 (s : List V) (H : Heap) : evCode P Γ call n f m (cAt [1, 1, 0, 0] B53) s H = seqNext P Γ call n f m (cAt [1, 1, 0, 0, 1] B53) (evCode P Γ call n f m (cAt [1, 1, 0, 0, 0] B53) s H) := at_seq (by kernel_rfl) rfl rfl s H
noncomputable def r53_8 : {l : List Oper // opsOf (cAt [1, 1, 0, 0, 0] B53) = l} := by
  apply Subtype.mk
  dsimp only [opsOf, cAt, kids, B53, bodyOf, Tryd.f53, List.getD, List.getElem?_cons_zero, List.getElem?_cons_succ, Option.getD_some]
@[simp] theorem n53_8 (s : List V) (H : Heap) : evCode P Γ call n f m (cAt [1, 1, 0, 0, 0] B53) s H = regNext (evOpsGo P Γ call r53_8.1 r53_8.1 s H) := at_region (by kernel_rfl) r53_8.2 s H
attribute [simp] r53_8
@[simp] theorem n53_9 (s : List V) (H : Heap) : evCode P Γ call n f m (cAt [1, 1, 0, 0, 1] B53) s H = condW P Γ call n f m (cAt [1, 1, 0, 0, 1, 0] B53) (cAt [1, 1, 0, 0, 1, 1] B53) s H (evOperand Γ s (.tmp 35)) := at_cond (by kernel_rfl) (by kernel_rfl) rfl rfl s H
@[simp] theorem n53_10 (s : List V) (H : Heap) : evCode P Γ call n f m (cAt [1, 1, 0, 0, 1, 0] B53) s H = seqNext P Γ call n f m (cAt [1, 1, 0, 0, 1, 0, 1] B53) (evCode P Γ call n f m (cAt [1, 1, 0, 0, 1, 0, 0] B53) s H) := at_seq (by kernel_rfl) rfl rfl s H
noncomputable def r53_11 : {l : List Oper // opsOf (cAt [1, 1, 0, 0, 1, 0, 0] B53) = l} := by
  apply Subtype.mk
  dsimp only [opsOf, cAt, kids, B53, bodyOf, Tryd.f53, List.getD, List.getElem?_cons_zero, List.getElem?_cons_succ, Option.getD_some]
@[simp] theorem n53_11 (s : List V) (H : Heap) : evCode P Γ call n f m (cAt [1, 1, 0, 0, 1, 0, 0] B53) s H = regNext (evOpsGo P Γ call r53_11.1 r53_11.1 s H) := at_region (by kernel_rfl) r53_11.2 s H
attribute [simp] r53_11
@[simp] theorem n53_12 (s : List V) (H : Heap) : evCode P Γ call n f m (cAt [1, 1, 0, 0, 1, 0, 1] B53) s H = some (.ret, s, H) := at_ret (by kernel_rfl) s H
@[simp] theorem n53_13 (s : List V) (H : Heap) : evCode P Γ call n f m (cAt [1, 1, 0, 0, 1, 1] B53) s H = seqNext P Γ call n f m (cAt [1, 1, 0, 0, 1, 1, 1] B53) (evCode P Γ call n f m (cAt [1, 1, 0, 0, 1, 1, 0] B53) s H) := at_seq (by kernel_rfl) rfl rfl s H
noncomputable def r53_14 : {l : List Oper // opsOf (cAt [1, 1, 0, 0, 1, 1, 0] B53) = l} := by
  apply Subtype.mk
  dsimp only [opsOf, cAt, kids, B53, bodyOf, Tryd.f53, List.getD, List.getElem?_cons_zero, List.getElem?_cons_succ, Option.getD_some]
@[simp] theorem n53_14 (s : List V) (H : Heap) : evCode P Γ call n f m (cAt [1, 1, 0, 0, 1, 1, 0] B53) s H = regNext (evOpsGo P Γ call r53_14.1 r53_14.1 s H) := at_region (by kernel_rfl) r53_14.2 s H
attribute [simp] r53_14
@[simp] theorem n53_15 (s : List V) (H : Heap) : evCode P Γ call n f m (cAt [1, 1, 0, 0, 1, 1, 1] B53) s H = condW P Γ call n f m (cAt [1, 1, 0, 0, 1, 1, 1, 0] B53) (cAt [1, 1, 0, 0, 1, 1, 1, 1] B53) s H (evOperand Γ s (.tmp 44)) := at_cond (by kernel_rfl) (by kernel_rfl) rfl rfl s H
@[simp] theorem n53_16 (s : List V) (H : Heap) : evCode P Γ call n f m (cAt [1, 1, 0, 0, 1, 1, 1, 0] B53) s H = seqNext P Γ call n f m (cAt [1, 1, 0, 0, 1, 1, 1, 0, 1] B53) (evCode P Γ call n f m (cAt [1, 1, 0, 0, 1, 1, 1, 0, 0] B53) s H) := at_seq (by kernel_rfl) rfl rfl s H
noncomputable def r53_17 : {l : List Oper // opsOf (cAt [1, 1, 0, 0, 1, 1, 1, 0, 0] B53) = l} := by
  apply Subtype.mk
  dsimp only [opsOf, cAt, kids, B53, bodyOf, Tryd.f53, List.getD, List.getElem?_cons_zero, List.getElem?_cons_succ, Option.getD_some]
@[simp] theorem n53_17 (s : List V) (H : Heap) : evCode P Γ call n f m (cAt [1, 1, 0, 0, 1, 1, 1, 0, 0] B53) s H = regNext (evOpsGo P Γ call r53_17.1 r53_17.1 s H) := at_region (by kernel_rfl) r53_17.2 s H
attribute [simp] r53_17
@[simp] theorem n53_18 (s : List V) (H : Heap) : evCode P Γ call n f m (cAt [1, 1, 0, 0, 1, 1, 1, 0, 1] B53) s H = some (.ret, s, H) := at_ret (by kernel_rfl) s H
@[simp] theorem n53_19 (s : List V) (H : Heap) : evCode P Γ call n f m (cAt [1, 1, 0, 0, 1, 1, 1, 1] B53) s H = seqNext P Γ call n f m (cAt [1, 1, 0, 0, 1, 1, 1, 1, 1] B53) (evCode P Γ call n f m (cAt [1, 1, 0, 0, 1, 1, 1, 1, 0] B53) s H) := at_seq (by kernel_rfl) rfl rfl s H
@[simp] theorem n53_20 (s : List V) (H : Heap) : evCode P Γ call n f m (cAt [1, 1, 0, 0, 1, 1, 1, 1, 0] B53) s H = seqNext P Γ call n f m (cAt [1, 1, 0, 0, 1, 1, 1, 1, 0, 1] B53) (evCode P Γ call n f m (cAt [1, 1, 0, 0, 1, 1, 1, 1, 0, 0] B53) s H) := at_seq (by kernel_rfl) rfl rfl s H
noncomputable def r53_21 : {l : List Oper // opsOf (cAt [1, 1, 0, 0, 1, 1, 1, 1, 0, 0] B53) = l} := by
  apply Subtype.mk
  dsimp only [opsOf, cAt, kids, B53, bodyOf, Tryd.f53, List.getD, List.getElem?_cons_zero, List.getElem?_cons_succ, Option.getD_some]
@[simp] theorem n53_21 (s : List V) (H : Heap) : evCode P Γ call n f m (cAt [1, 1, 0, 0, 1, 1, 1, 1, 0, 0] B53) s H = regNext (evOpsGo P Γ call r53_21.1 r53_21.1 s H) := at_region (by kernel_rfl) r53_21.2 s H
attribute [simp] r53_21
@[simp] theorem n53_22 (s : List V) (H : Heap) : evCode P Γ call n f m (cAt [1, 1, 0, 0, 1, 1, 1, 1, 0, 1] B53) s H = condW P Γ call n f m (cAt [1, 1, 0, 0, 1, 1, 1, 1, 0, 1, 0] B53) (cAt [1, 1, 0, 0, 1, 1, 1, 1, 0, 1, 1] B53) s H (evOperand Γ s (.tmp 87)) := at_cond (by kernel_rfl) (by kernel_rfl) rfl rfl s H
@[simp] theorem n53_23 (s : List V) (H : Heap) : evCode P Γ call n f m (cAt [1, 1, 0, 0, 1, 1, 1, 1, 0, 1, 0] B53) s H = some (.normal, s, H) := at_skip (by kernel_rfl) s H
noncomputable def r53_24 : {l : List Oper // opsOf (cAt [1, 1, 0, 0, 1, 1, 1, 1, 0, 1, 1] B53) = l} := by
  apply Subtype.mk
  dsimp only [opsOf, cAt, kids, B53, bodyOf, Tryd.f53, List.getD, List.getElem?_cons_zero, List.getElem?_cons_succ, Option.getD_some]
@[simp] theorem n53_24 (s : List V) (H : Heap) : evCode P Γ call n f m (cAt [1, 1, 0, 0, 1, 1, 1, 1, 0, 1, 1] B53) s H = regNext (evOpsGo P Γ call r53_24.1 r53_24.1 s H) := at_region (by kernel_rfl) r53_24.2 s H
attribute [simp] r53_24
@[simp] theorem n53_25 (s : List V) (H : Heap) : evCode P Γ call n f m (cAt [1, 1, 0, 0, 1, 1, 1, 1, 1] B53) s H = condW P Γ call n f m (cAt [1, 1, 0, 0, 1, 1, 1, 1, 1, 0] B53) (cAt [1, 1, 0, 0, 1, 1, 1, 1, 1, 1] B53) s H (evOperand Γ s (.tmp 87)) := at_cond (by kernel_rfl) (by kernel_rfl) rfl rfl s H
@[simp] theorem n53_26 (s : List V) (H : Heap) : evCode P Γ call n f m (cAt [1, 1, 0, 0, 1, 1, 1, 1, 1, 0] B53) s H = seqNext P Γ call n f m (cAt [1, 1, 0, 0, 1, 1, 1, 1, 1, 0, 1] B53) (evCode P Γ call n f m (cAt [1, 1, 0, 0, 1, 1, 1, 1, 1, 0, 0] B53) s H) := at_seq (by kernel_rfl) rfl rfl s H
noncomputable def r53_27 : {l : List Oper // opsOf (cAt [1, 1, 0, 0, 1, 1, 1, 1, 1, 0, 0] B53) = l} := by
  apply Subtype.mk
  dsimp only [opsOf, cAt, kids, B53, bodyOf, Tryd.f53, List.getD, List.getElem?_cons_zero, List.getElem?_cons_succ, Option.getD_some]
@[simp] theorem n53_27 (s : List V) (H : Heap) : evCode P Γ call n f m (cAt [1, 1, 0, 0, 1, 1, 1, 1, 1, 0, 0] B53) s H = regNext (evOpsGo P Γ call r53_27.1 r53_27.1 s H) := at_region (by kernel_rfl) r53_27.2 s H
attribute [simp] r53_27
@[simp] theorem n53_28 (s : List V) (H : Heap) : evCode P Γ call n f m (cAt [1, 1, 0, 0, 1, 1, 1, 1, 1, 0, 1] B53) s H = some (.ret, s, H) := at_ret (by kernel_rfl) s H
@[simp] theorem n53_29 (s : List V) (H : Heap) : evCode P Γ call n f m (cAt [1, 1, 0, 0, 1, 1, 1, 1, 1, 1] B53) s H = seqNext P Γ call n f m (cAt [1, 1, 0, 0, 1, 1, 1, 1, 1, 1, 1] B53) (evCode P Γ call n f m (cAt [1, 1, 0, 0, 1, 1, 1, 1, 1, 1, 0] B53) s H) := at_seq (by kernel_rfl) rfl rfl s H
noncomputable def r53_30 : {l : List Oper // opsOf (cAt [1, 1, 0, 0, 1, 1, 1, 1, 1, 1, 0] B53) = l} := by
  apply Subtype.mk
  dsimp only [opsOf, cAt, kids, B53, bodyOf, Tryd.f53, List.getD, List.getElem?_cons_zero, List.getElem?_cons_succ, Option.getD_some]
@[simp] theorem n53_30 (s : List V) (H : Heap) : evCode P Γ call n f m (cAt [1, 1, 0, 0, 1, 1, 1, 1, 1, 1, 0] B53) s H = regNext (evOpsGo P Γ call r53_30.1 r53_30.1 s H) := at_region (by kernel_rfl) r53_30.2 s H
attribute [simp] r53_30
@[simp] theorem n53_31 (s : List V) (H : Heap) : evCode P Γ call n f m (cAt [1, 1, 0, 0, 1, 1, 1, 1, 1, 1, 1] B53) s H = condW P Γ call n f m (cAt [1, 1, 0, 0, 1, 1, 1, 1, 1, 1, 1, 0] B53) (cAt [1, 1, 0, 0, 1, 1, 1, 1, 1, 1, 1, 1] B53) s H (evOperand Γ s (.tmp 111)) := at_cond (by kernel_rfl) (by kernel_rfl) rfl rfl s H
@[simp] theorem n53_32 (s : List V) (H : Heap) : evCode P Γ call n f m (cAt [1, 1, 0, 0, 1, 1, 1, 1, 1, 1, 1, 0] B53) s H = seqNext P Γ call n f m (cAt [1, 1, 0, 0, 1, 1, 1, 1, 1, 1, 1, 0, 1] B53) (evCode P Γ call n f m (cAt [1, 1, 0, 0, 1, 1, 1, 1, 1, 1, 1, 0, 0] B53) s H) := at_seq (by kernel_rfl) rfl rfl s H
noncomputable def r53_33 : {l : List Oper // opsOf (cAt [1, 1, 0, 0, 1, 1, 1, 1, 1, 1, 1, 0, 0] B53) = l} := by
  apply Subtype.mk
  dsimp only [opsOf, cAt, kids, B53, bodyOf, Tryd.f53, List.getD, List.getElem?_cons_zero, List.getElem?_cons_succ, Option.getD_some]
@[simp] theorem n53_33 (s : List V) (H : Heap) : evCode P Γ call n f m (cAt [1, 1, 0, 0, 1, 1, 1, 1, 1, 1, 1, 0, 0] B53) s H = regNext (evOpsGo P Γ call r53_33.1 r53_33.1 s H) := at_region (by kernel_rfl) r53_33.2 s H
attribute [simp] r53_33
@[simp] theorem n53_34 (s : List V) (H : Heap) : evCode P Γ call n f m (cAt [1, 1, 0, 0, 1, 1, 1, 1, 1, 1, 1, 0, 1] B53) s H = some (.ret, s, H) := at_ret (by kernel_rfl) s H
@[simp] theorem n53_35 (s : List V) (H : Heap) : evCode P Γ call n f m (cAt [1, 1, 0, 0, 1, 1, 1, 1, 1, 1, 1, 1] B53) s H = some (.normal, s, H) := at_skip (by kernel_rfl) s H
@[simp] theorem n53_36 (s : List V) (H : Heap) : evCode P Γ call n f m (cAt [1, 1, 1] B53) s H = seqNext P Γ call n f m (cAt [1, 1, 1, 1] B53) (evCode P Γ call n f m (cAt [1, 1, 1, 0] B53) s H) := at_seq (by kernel_rfl) rfl rfl s H
noncomputable def r53_37 : {l : List Oper // opsOf (cAt [1, 1, 1, 0] B53) = l} := by
  apply Subtype.mk
  dsimp only [opsOf, cAt, kids, B53, bodyOf, Tryd.f53, List.getD, List.getElem?_cons_zero, List.getElem?_cons_succ, Option.getD_some]
@[simp] theorem n53_37 (s : List V) (H : Heap) : evCode P Γ call n f m (cAt [1, 1, 1, 0] B53) s H = regNext (evOpsGo P Γ call r53_37.1 r53_37.1 s H) := at_region (by kernel_rfl) r53_37.2 s H
attribute [simp] r53_37
@[simp] theorem n53_38 (s : List V) (H : Heap) : evCode P Γ call n f m (cAt [1, 1, 1, 1] B53) s H = some (.ret, s, H) := at_ret (by kernel_rfl) s H
theorem b53 {k : Nat} (ho : ∀ args H, Γ.orc 53 args H = none) (args : List V) (H : Heap) (ha : args.length ≤ 130) : evF Tryd.prog Γ (k + 1) 53 args H = bodyEnd Tryd.prog [.tmp 2] H.length (evCode Tryd.prog Γ (evF Tryd.prog Γ k) k 53 H.length (cAt [] B53) (mkL 130 V.undef (enumV 0 args)) H) := body_at Tryd.func53 (by decide) rfl ho rfl rfl args H ha
noncomputable def B54 : Code := bodyOf Tryd.f54
@[simp] theorem n54_1 (s : List V) (H : Heap) : evCode P Γ call n f m (cAt [] B54) s H = seqNext P Γ call n f m (cAt [1] B54) (evCode P Γ call n f m (cAt [0] B54) s H) := at_seq (by kernel_rfl) rfl rfl s H
noncomputable def r54_2 : {l : List Oper // opsOf (cAt [0] B54) = l} := by
  apply Subtype.mk
  dsimp only [opsOf, cAt, kids, B54, bodyOf, Tryd.f54, List.getD, List.getElem?_cons_zero, List.getElem?_cons_succ, Option.getD_some]
@[simp] theorem n54_2 (s : List V) (H : Heap) : evCode P Γ call n f m (cAt [0] B54) s H = regNext (evOpsGo P Γ call r54_2.1 r54_2.1 s H) := at_region (by kernel_rfl) r54_2.2 s H
attribute [simp] r54_2
@[simp] theorem n54_3 (s : List V) (H : Heap) : evCode P Γ call n f m (cAt [1] B54) s H = seqNext P Γ call n f m (cAt [1, 1] B54) (evCode P Γ call n f m (cAt [1, 0] B54) s H) := at_seq (by kernel_rfl) rfl rfl s H
@[simp] theorem n54_4 (s : List V) (H : Heap) : evCode P Γ call n f m (cAt [1, 0] B54) s H = seqNext P Γ call n f m (cAt [1, 0, 1] B54) (evCode P Γ call n f m (cAt [1, 0, 0] B54) s H) := at_seq (by kernel_rfl) rfl rfl s H
noncomputable def r54_5 : {l : List Oper // opsOf (cAt [1, 0, 0] B54) = l} := by
  apply Subtype.mk
  dsimp only [opsOf, cAt, kids, B54, bodyOf, Tryd.f54, List.getD, List.getElem?_cons_zero, List.getElem?_cons_succ, Option.getD_some]
@[simp] theorem n54_5 (s : List V) (H : Heap) : evCode P Γ call n f m (cAt [1, 0, 0] B54) s H = regNext (evOpsGo P Γ call r54_5.1 r54_5.1 s H) := at_region (by kernel_rfl) r54_5.2 s H
attribute [simp] r54_5
@[simp] theorem n54_6 (s : List V) (H : Heap) : evCode P Γ call n f m (cAt [1, 0, 1] B54) s H = blockNext 0 (evCode P Γ call n f m (cAt [1, 0, 1, 0] B54) s H) := at_block (by kernel_rfl) rfl s H
@[simp] theorem n54_7 (s : List V) (H : Heap) : evCode P Γ call n f m (cAt [1, 0, 1, 0] B54) s H = evLoopC P Γ call n f m (cAt [1, 0, 1, 0, 0] B54) n s H := at_loop (by kernel_rfl) rfl s H
noncomputable abbrev L54_2 : Code := cAt [1, 0, 1, 0, 0] B54
@[simp] theorem n54_7f : firstRegion (cAt [1, 0, 1, 0, 0] B54) = 2 := by kernel_rfl
@[simp] theorem n54_8 (s : List V) (H : Heap) : evCode P Γ call n f m (cAt [1, 0, 1, 0, 0] B54) s H = seqNext P Γ call n f m (cAt [1, 0, 1, 0, 0, 1] B54) (evCode P Γ call n f m (cAt [1, 0, 1, 0, 0, 0] B54) s H) := at_seq (by kernel_rfl) rfl rfl s H
noncomputable def r54_9 : {l : List Oper // opsOf (cAt [1, 0, 1, 0, 0, 0] B54) = l} := by
  apply Subtype.mk
  dsimp only [opsOf, cAt, kids, B54, bodyOf, Tryd.f54, List.getD, List.getElem?_cons_zero, List.getElem?_cons_succ, Option.getD_some]
@[simp] theorem n54_9 (s : List V) (H : Heap) : evCode P Γ call n f m (cAt [1, 0, 1, 0, 0, 0] B54) s H = regNext (evOpsGo P Γ call r54_9.1 r54_9.1 s H) := at_region (by kernel_rfl) r54_9.2 s H
attribute [simp] r54_9
@[simp] theorem n54_10 (s : List V) (H : Heap) : evCode P Γ call n f m (cAt [1, 0, 1, 0, 0, 1] B54) s H = seqNext P Γ call n f m (cAt [1, 0, 1, 0, 0, 1, 1] B54) (evCode P Γ call n f m (cAt [1, 0, 1, 0, 0, 1, 0] B54) s H) := at_seq (by kernel_rfl) rfl rfl s H
@[simp] theorem n54_11 (s : List V) (H : Heap) : evCode P Γ call n f m (cAt [1, 0, 1, 0, 0, 1, 0] B54) s H = condW P Γ call n f m (cAt [1, 0, 1, 0, 0, 1, 0, 0] B54) (cAt [1, 0, 1, 0, 0, 1, 0, 1] B54) s H (evOperand Γ s (.tmp 9)) := at_cond (by kernel_rfl) (by kernel_rfl) rfl rfl s H
@[simp] theorem n54_12 (s : List V) (H : Heap) : evCode P Γ call n f m (cAt [1, 0, 1, 0, 0, 1, 0, 0] B54) s H = some (.normal, s, H) := at_skip (by kernel_rfl) s H
@[simp] theorem n54_13 (s : List V) (H : Heap) : evCode P Γ call n f m (cAt [1, 0, 1, 0, 0, 1, 0, 1] B54) s H = some (.exit 0, s, H) := at_exit (by kernel_rfl) s H
@[simp] theorem n54_14 (s : List V) (H : Heap) : evCode P Γ call n f m (cAt [1, 0, 1, 0, 0, 1, 1] B54) s H = seqNext P Γ call n f m (cAt [1, 0, 1, 0, 0, 1, 1, 1] B54) (evCode P Γ call n f m (cAt [1, 0, 1, 0, 0, 1, 1, 0] B54) s H) := at_seq (by kernel_rfl) rfl rfl s H
@[simp] theorem n54_15 (s : List V) (H : Heap) : evCode P Γ call n f m (cAt [1, 0, 1, 0, 0, 1, 1, 0] B54) s H = blockNext 1 (evCode P Γ call n f m (cAt [1, 0, 1, 0, 0, 1, 1, 0, 0] B54) s H) := at_block (by kernel_rfl) rfl s H
@[simp] theorem n54_16 (s : List V) (H : Heap) : evCode P Γ call n f m (cAt [1, 0, 1, 0, 0, 1, 1, 0, 0] B54) s H = seqNext P Γ call n f m (cAt [1, 0, 1, 0, 0, 1, 1, 0, 0, 1] B54) (evCode P Γ call n f m (cAt [1, 0, 1, 0, 0, 1, 1, 0, 0, 0] B54) s H) := at_seq (by kernel_rfl) rfl rfl s H
noncomputable def r54_17 : {l : List Oper // opsOf (cAt [1, 0, 1, 0, 0, 1, 1, 0, 0, 0] B54) = l} := by
  apply Subtype.mk
  dsimp only [opsOf, cAt, kids, B54, bodyOf, Tryd.f54, List.getD, List.getElem?_cons_zero, List.getElem?_cons_succ, Option.getD_some]
@[simp] theorem n54_17 (s : List V) (H : Heap) : evCode P Γ call n f m (cAt [1, 0, 1, 0, 0, 1, 1, 0, 0, 0] B54) s H = regNext (evOpsGo P Γ call r54_17.1 r54_17.1 s H) := at_region (by kernel_rfl) r54_17.2 s H
attribute [simp] r54_17
@[simp] theorem n54_18 (s : List V) (H : Heap) : evCode P Γ call n f m (cAt [1, 0, 1, 0, 0, 1, 1, 0, 0, 1] B54) s H = seqNext P Γ call n f m (cAt [1, 0, 1, 0, 0, 1, 1, 0, 0, 1, 1] B54) (evCode P Γ call n f m (cAt [1, 0, 1, 0, 0, 1, 1, 0, 0, 1, 0] B54) s H) := at_seq (by kernel_rfl) rfl rfl s H
@[simp] theorem n54_19 (s : List V) (H : Heap) : evCode P Γ call n f m (cAt [1, 0, 1, 0, 0, 1, 1, 0, 0, 1, 0] B54) s H = seqNext P Γ call n f m (cAt [1, 0, 1, 0, 0, 1, 1, 0, 0, 1, 0, 1] B54) (evCode P Γ call n f m (cAt [1, 0, 1, 0, 0, 1, 1, 0, 0, 1, 0, 0] B54) s H) := at_seq (by kernel_rfl) rfl rfl s H
noncomputable def r54_20 : {l : List Oper // opsOf (cAt [1, 0, 1, 0, 0, 1, 1, 0, 0, 1, 0, 0] B54) = l} := by
  apply Subtype.mk
  dsimp only [opsOf, cAt, kids, B54, bodyOf, Tryd.f54, List.getD, List.getElem?_cons_zero, List.getElem?_cons_succ, Option.getD_some]
@[simp] theorem n54_20 (s : List V) (H : Heap) : evCode P Γ call n f m (cAt [1, 0, 1, 0, 0, 1, 1, 0, 0, 1, 0, 0] B54) s H = regNext (evOpsGo P Γ call r54_20.1 r54_20.1 s H) := at_region (by kernel_rfl) r54_20.2 s H
attribute [simp] r54_20
@[simp] theorem n54_21 (s : List V) (H : Heap) : evCode P Γ call n f m (cAt [1, 0, 1, 0, 0, 1, 1, 0, 0, 1, 0, 1] B54) s H = condW P Γ call n f m (cAt [1, 0, 1, 0, 0, 1, 1, 0, 0, 1, 0, 1, 0] B54) (cAt [1, 0, 1, 0, 0, 1, 1, 0, 0, 1, 0, 1, 1] B54) s H (evOperand Γ s (.tmp 34)) := at_cond (by kernel_rfl) (by kernel_rfl) rfl rfl s H
@[simp] theorem n54_22 (s : List V) (H : Heap) : evCode P Γ call n f m (cAt [1, 0, 1, 0, 0, 1, 1, 0, 0, 1, 0, 1, 0] B54) s H = some (.exit 1, s, H) := at_exit (by kernel_rfl) s H
@[simp] theorem n54_23 (s : List V) (H : Heap) : evCode P Γ call n f m (cAt [1, 0, 1, 0, 0, 1, 1, 0, 0, 1, 0, 1, 1] B54) s H = some (.normal, s, H) := at_skip (by kernel_rfl) s H
@[simp] theorem n54_24 (s : List V) (H : Heap) : evCode P Γ call n f m (cAt [1, 0, 1, 0, 0, 1, 1, 0, 0, 1, 1] B54) s H = seqNext P Γ call n f m (cAt [1, 0, 1, 0, 0, 1, 1, 0, 0, 1, 1, 1] B54) (evCode P Γ call n f m (cAt [1, 0, 1, 0, 0, 1, 1, 0, 0, 1, 1, 0] B54) s H) := at_seq (by kernel_rfl) rfl rfl s H
noncomputable def r54_25 : {l : List Oper // opsOf (cAt [1, 0, 1, 0, 0, 1, 1, 0, 0, 1, 1, 0] B54) = l} := by
  apply Subtype.mk
  dsimp only [opsOf, cAt, kids, B54, bodyOf, Tryd.f54, List.getD, List.getElem?_cons_zero, List.getElem?_cons_succ, Option.getD_some]
@[simp] theorem n54_25 (s : List V) (H : Heap) : evCode P Γ call n f m (cAt [1, 0, 1, 0, 0, 1, 1, 0, 0, 1, 1, 0] B54) s H = regNext (evOpsGo P Γ call r54_25.1 r54_25.1 s H) := at_region (by kernel_rfl) r54_25.2 s H
attribute [simp] r54_25
@[simp] theorem n54_26 (s : List V) (H : Heap) : evCode P Γ call n f m (cAt [1, 0, 1, 0, 0, 1, 1, 0, 0, 1, 1, 1] B54) s H = some (.ret, s, H) := at_ret (by kernel_rfl) s H
noncomputable def r54_27 : {l : List Oper // opsOf (cAt [1, 0, 1, 0, 0, 1, 1, 1] B54) = l} := by
  apply Subtype.mk
  dsimp only [opsOf, cAt, kids, B54, bodyOf, Tryd.f54, List.getD, List.getElem?_cons_zero, List.getElem?_cons_succ, Option.getD_some]
@[simp] theorem n54_27 (s : List V) (H : Heap) : evCode P Γ call n f m (cAt [1, 0, 1, 0, 0, 1, 1, 1] B54) s H = regNext (evOpsGo P Γ call r54_27.1 r54_27.1 s H) := at_region (by kernel_rfl) r54_27.2 s H
attribute [simp] r54_27
@[simp] theorem n54_28 (s : List V) (H : Heap) : evCode P Γ call n f m (cAt [1, 1] B54) s H = seqNext P Γ call n f m (cAt [1, 1, 1] B54) (evCode P Γ call n f m (cAt [1, 1, 0] B54) s H) := at_seq (by kernel_rfl) rfl rfl s H
noncomputable def r54_29 : {l : List Oper // opsOf (cAt [1, 1, 0] B54) = l} := by
  apply Subtype.mk
  dsimp only [opsOf, cAt, kids, B54, bodyOf, Tryd.f54, List.getD, List.getElem?_cons_zero, List.getElem?_cons_succ, Option.getD_some]
@[simp] theorem n54_29 (s : List V) (H : Heap) : evCode P Γ call n f m (cAt [1, 1, 0] B54) s H = regNext (evOpsGo P Γ call r54_29.1 r54_29.1 s H) := at_region (by kernel_rfl) r54_29.2 s H
attribute [simp] r54_29
@[simp] theorem n54_30 (s : List V) (H : Heap) : evCode P Γ call n f m (cAt [1, 1, 1] B54) s H = some (.ret, s, H) := at_ret (by kernel_rfl) s H
theorem b54 {k : Nat} (ho : ∀ args H, Γ.orc 54 args H = none) (args : List V) (H : Heap) (ha : args.length ≤ 44) : evF Tryd.prog Γ (k + 1) 54 args H = bodyEnd Tryd.prog [.tmp 2] H.length (evCode Tryd.prog Γ (evF Tryd.prog Γ k) k 54 H.length (cAt [] B54) (mkL 44 V.undef (enumV 0 args)) H) := body_at Tryd.func54 (by decide) rfl ho rfl rfl args H ha
noncomputable def B55 : Code := bodyOf Tryd.f55
@[simp] theorem n55_1 (s : List V) (H : Heap) : evCode P Γ call n f m (cAt [] B55) s H = seqNext P Γ call n f m (cAt [1] B55) (evCode P Γ call n f m (cAt [0] B55) s H) := at_seq (by kernel_rfl) rfl rfl s H
noncomputable def r55_2 : {l : List Oper // opsOf (cAt [0] B55) = l} := by
  apply Subtype.mk
  dsimp only [opsOf, cAt, kids, B55, bodyOf, Tryd.f55, List.getD, List.getElem?_cons_zero, List.getElem?_cons_succ, Option.getD_some]
@[simp] theorem n55_2 (s : List V) (H : Heap) : evCode P Γ call n f m (cAt [0] B55) s H = regNext (evOpsGo P Γ call r55_2.1 r55_2.1 s H) := at_region (by kernel_rfl) r55_2.2 s H
attribute [simp] r55_2
@[simp] theorem n55_3 (s : List V) (H : Heap) : evCode P Γ call n f m (cAt [1] B55) s H = seqNext P Γ call n f m (cAt [1, 1] B55) (evCode P Γ call n f m (cAt [1, 0] B55) s H) := at_seq (by kernel_rfl) rfl rfl s H
@[simp] theorem n55_4 (s : List V) (H : Heap) : evCode P Γ call n f m (cAt [1, 0] B55) s H = seqNext P Γ call n f m (cAt [1, 0, 1] B55) (evCode P Γ call n f m (cAt [1, 0, 0] B55) s H) := at_seq (by kernel_rfl) rfl rfl s H
noncomputable def r55_5 : {l : List Oper // opsOf (cAt [1, 0, 0] B55) = l} := by
  apply Subtype.mk
  dsimp only [opsOf, cAt, kids, B55, bodyOf, Tryd.f55, List.getD, List.getElem?_cons_zero, List.getElem?_cons_succ, Option.getD_some]
@[simp] theorem n55_5 (s : List V) (H : Heap) : evCode P Γ call n f m (cAt [1, 0, 0] B55) s H = regNext (evOpsGo P Γ call r55_5.1 r55_5.1 s H) := at_region (by kernel_rfl) r55_5.2 s H
attribute [simp] r55_5
@[simp] theorem n55_6 (s : List V) (H : Heap) : evCode P Γ call n f m (cAt [1, 0, 1] B55) s H = blockNext 0 (evCode P Γ call n f m (cAt [1, 0, 1, 0] B55) s H) := at_block (by kernel_rfl) rfl s H
@[simp] theorem n55_7 (s : List V) (H : Heap) : evCode P Γ call n f m (cAt [1, 0, 1, 0] B55) s H = evLoopC P Γ call n f m (cAt [1, 0, 1, 0, 0] B55) n s H := at_loop (by kernel_rfl) rfl s H
noncomputable abbrev L55_2 : Code := cAt [1, 0, 1, 0, 0] B55
@[simp] theorem n55_7f : firstRegion (cAt [1, 0, 1, 0, 0] B55) = 2 := by kernel_rfl
@[simp] theorem n55_8 (s : List V) (H : Heap) : evCode P Γ call n f m (cAt [1, 0, 1, 0, 0] B55) s H = seqNext P Γ call n f m (cAt [1, 0, 1, 0, 0, 1] B55) (evCode P Γ call n f m (cAt [1, 0, 1, 0, 0, 0] B55) s H) := at_seq (by kernel_rfl) rfl rfl s H
noncomputable def r55_9 : {l : List Oper // opsOf (cAt [1, 0, 1, 0, 0, 0] B55) = l} := by
  apply Subtype.mk
  dsimp only [opsOf, cAt, kids, B55, bodyOf, Tryd.f55, List.getD, List.getElem?_cons_zero, List.getElem?_cons_succ, Option.getD_some]
@[simp] theorem n55_9 (s : List V) (H : Heap) : evCode P Γ call n f m (cAt [1, 0, 1, 0, 0, 0] B55) s H = regNext (evOpsGo P Γ call r55_9.1 r55_9.1 s H) := at_region (by kernel_rfl) r55_9.2 s H
attribute [simp] r55_9
@[simp] theorem n55_10 (s : List V) (H : Heap) : evCode P Γ call n f m (cAt [1, 0, 1, 0, 0, 1] B55) s H = seqNext P Γ call n f m (cAt [1, 0, 1, 0, 0, 1, 1] B55) (evCode P Γ call n f m (cAt [1, 0, 1, 0, 0, 1, 0] B55) s H) := at_seq (by kernel_rfl) rfl rfl s H
@[simp] theorem n55_11 (s : List V) (H : Heap) : evCode P Γ call n f m (cAt [1, 0, 1, 0, 0, 1, 0] B55) s H = condW P Γ call n f m (cAt [1, 0, 1, 0, 0, 1, 0, 0] B55) (cAt [1, 0, 1, 0, 0, 1, 0, 1] B55) s H (evOperand Γ s (.tmp 13)) := at_cond (by kernel_rfl) (by kernel_rfl) rfl rfl s H
@[simp] theorem n55_12 (s : List V) (H : Heap) : evCode P Γ call n f m (cAt [1, 0, 1, 0, 0, 1, 0, 0] B55) s H = some (.normal, s, H) := at_skip (by kernel_rfl) s H
@[simp] theorem n55_13 (s : List V) (H : Heap) : evCode P Γ call n f m (cAt [1, 0, 1, 0, 0, 1, 0, 1] B55) s H = some (.exit 0, s, H) := at_exit (by kernel_rfl) s H
@[simp] theorem n55_14 (s : List V) (H : Heap) : evCode P Γ call n f m (cAt [1, 0, 1, 0, 0, 1, 1] B55) s H = seqNext P Γ call n f m (cAt [1, 0, 1, 0, 0, 1, 1, 1] B55) (evCode P Γ call n f m (cAt [1, 0, 1, 0, 0, 1, 1, 0] B55) s H) := at_seq (by kernel_rfl) rfl rfl s H
@[simp] theorem n55_15 (s : List V) (H : Heap) : evCode P Γ call n f m (cAt [1, 0, 1, 0, 0, 1, 1, 0] B55) s H = blockNext 1 (evCode P Γ call n f m (cAt [1, 0, 1, 0, 0, 1, 1, 0, 0] B55) s H) := at_block (by kernel_rfl) rfl s H
@[simp] theorem n55_16 (s : List V) (H : Heap) : evCode P Γ call n f m (cAt [1, 0, 1, 0, 0, 1, 1, 0, 0] B55) s H = seqNext P Γ call n f m (cAt [1, 0, 1, 0, 0, 1, 1, 0, 0, 1] B55) (evCode P Γ call n f m (cAt [1, 0, 1, 0, 0, 1, 1, 0, 0, 0] B55) s H) := at_seq (by kernel_rfl) rfl rfl s H
noncomputable def r55_17 : {l : List Oper // opsOf (cAt [1, 0, 1, 0, 0, 1, 1, 0, 0, 0] B55) = l} := by
  apply Subtype.mk
  dsimp only [opsOf, cAt, kids, B55, bodyOf, Tryd.f55, List.getD, List.getElem?_cons_zero, List.getElem?_cons_succ, Option.getD_some]
@[simp] theorem n55_17 (s : List V) (H : Heap) : evCode P Γ call n f m (cAt [1, 0, 1, 0, 0, 1, 1, 0, 0, 0] B55) s H = regNext (evOpsGo P Γ call r55_17.1 r55_17.1 s H) := at_region (by kernel_rfl) r55_17.2 s H
attribute [simp] r55_17
@[simp] theorem n55_18 (s : List V) (H : Heap) : evCode P Γ call n f m (cAt [1, 0, 1, 0, 0, 1, 1, 0, 0, 1] B55) s H = seqNext P Γ call n f m (cAt [1, 0, 1, 0, 0, 1, 1, 0, 0, 1, 1] B55) (evCode P Γ call n f m (cAt [1, 0, 1, 0, 0, 1, 1, 0, 0, 1, 0] B55) s H) := at_seq (by kernel_rfl) rfl rfl s H
noncomputable def r55_19 : {l : List Oper // opsOf (cAt [1, 0, 1, 0, 0, 1, 1, 0, 0, 1, 0] B55) = l} := by
  apply Subtype.mk
  dsimp only [opsOf, cAt, kids, B55, bodyOf, Tryd.f55, List.getD, List.getElem?_cons_zero, List.getElem?_cons_succ, Option.getD_some]
@[simp] theorem n55_19 (s : List V) (H : Heap) : evCode P Γ call n f m (cAt [1, 0, 1, 0, 0, 1, 1, 0, 0, 1, 0] B55) s H = regNext (evOpsGo P Γ call r55_19.1 r55_19.1 s H) := at_region (by kernel_rfl) r55_19.2 s H
attribute [simp] r55_19
@[simp] theorem n55_20 (s : List V) (H : Heap) : evCode P Γ call n f m (cAt [1, 0, 1, 0, 0, 1, 1, 0, 0, 1, 1] B55) s H = condW P Γ call n f m (cAt [1, 0, 1, 0, 0, 1, 1, 0, 0, 1, 1, 0] B55) (cAt [1, 0, 1, 0, 0, 1, 1, 0, 0, 1, 1, 1] B55) s H (evOperand Γ s (.tmp 29)) := at_cond (by kernel_rfl) (by kernel_rfl) rfl rfl s H
@[simp] theorem n55_21 (s : List V) (H : Heap) : evCode P Γ call n f m (cAt [1, 0, 1, 0, 0, 1, 1, 0, 0, 1, 1, 0] B55) s H = seqNext P Γ call n f m (cAt [1, 0, 1, 0, 0, 1, 1, 0, 0, 1, 1, 0, 1] B55) (evCode P Γ call n f m (cAt [1, 0, 1, 0, 0, 1, 1, 0, 0, 1, 1, 0, 0] B55) s H) := at_seq (by kernel_rfl) rfl rfl s H
noncomputable def r55_22 : {l : List Oper // opsOf (cAt [1, 0, 1, 0, 0, 1, 1, 0, 0, 1, 1, 0, 0] B55) = l} := by
  apply Subtype.mk
  dsimp only [opsOf, cAt, kids, B55, bodyOf, Tryd.f55, List.getD, List.getElem?_cons_zero, List.getElem?_cons_succ, Option.getD_some]
@[simp] theorem n55_22 (s : List V) (H : Heap) : evCode P Γ call n f m (cAt [1, 0, 1, 0, 0, 1, 1, 0, 0, 1, 1, 0, 0] B55) s H = regNext (evOpsGo P Γ call r55_22.1 r55_22.1 s H) := at_region (by kernel_rfl) r55_22.2 s H
attribute [simp] r55_22
@[simp] theorem n55_23 (s : List V) (H : Heap) : evCode P Γ call n f m (cAt [1, 0, 1, 0, 0, 1, 1, 0, 0, 1, 1, 0, 1] B55) s H = some (.ret, s, H) := at_ret (by kernel_rfl) s H
@[simp] theorem n55_24 (s : List V) (H : Heap) : evCode P Γ call n f m (cAt [1, 0, 1, 0, 0, 1, 1, 0, 0, 1, 1, 1] B55) s H = some (.normal, s, H) := at_skip (by kernel_rfl) s H
noncomputable def r55_25 : {l : List Oper // opsOf (cAt [1, 0, 1, 0, 0, 1, 1, 1] B55) = l} := by
  apply Subtype.mk
  dsimp only [opsOf, cAt, kids, B55, bodyOf, Tryd.f55, List.getD, List.getElem?_cons_zero, List.getElem?_cons_succ, Option.getD_some]
@[simp] theorem n55_25 (s : List V) (H : Heap) : evCode P Γ call n f m (cAt [1, 0, 1, 0, 0, 1, 1, 1] B55) s H = regNext (evOpsGo P Γ call r55_25.1 r55_25.1 s H) := at_region (by kernel_rfl) r55_25.2 s H
attribute [simp] r55_25
@[simp] theorem n55_26 (s : List V) (H : Heap) : evCode P Γ call n f m (cAt [1, 1] B55) s H = seqNext P Γ call n f m (cAt [1, 1, 1] B55) (evCode P Γ call n f m (cAt [1, 1, 0] B55) s H) := at_seq (by kernel_rfl) rfl rfl s H
noncomputable def r55_27 : {l : List Oper // opsOf (cAt [1, 1, 0] B55) = l} := by
  apply Subtype.mk
  dsimp only [opsOf, cAt, kids, B55, bodyOf, Tryd.f55, List.getD, List.getElem?_cons_zero, List.getElem?_cons_succ, Option.getD_some]
@[simp] theorem n55_27 (s : List V) (H : Heap) : evCode P Γ call n f m (cAt [1, 1, 0] B55) s H = regNext (evOpsGo P Γ call r55_27.1 r55_27.1 s H) := at_region (by kernel_rfl) r55_27.2 s H
attribute [simp] r55_27
@[simp] theorem n55_28 (s : List V) (H : Heap) : evCode P Γ call n f m (cAt [1, 1, 1] B55) s H = some (.ret, s, H) := at_ret (by kernel_rfl) s H
theorem b55 {k : Nat} (ho : ∀ args H, Γ.orc 55 args H = none) (args : List V) (H : Heap) (ha : args.length ≤ 31) : evF Tryd.prog Γ (k + 1) 55 args H = bodyEnd Tryd.prog [.tmp 6] H.length (evCode Tryd.prog Γ (evF Tryd.prog Γ k) k 55 H.length (cAt [] B55) (mkL 31 V.undef (enumV 0 args)) H) := body_at Tryd.func55 (by decide) rfl ho rfl rfl args H ha
noncomputable def B70 : Code := bodyOf Tryd.f70
@[simp] theorem n70_1 (s : List V) (H : Heap) : evCode P Γ call n f m (cAt [] B70) s H = seqNext P Γ call n f m (cAt [1] B70) (evCode P Γ call n f m (cAt [0] B70) s H) := at_seq (by kernel_rfl) rfl rfl s H
noncomputable def r70_2 : {l : List Oper // opsOf (cAt [0] B70) = l} := by
  apply Subtype.mk
  dsimp only [opsOf, cAt, kids, B70, bodyOf, Tryd.f70, List.getD, List.getElem?_cons_zero, List.getElem?_cons_succ, Option.getD_some]
@[simp] theorem n70_2 (s : List V) (H : Heap) : evCode P Γ call n f m (cAt [0] B70) s H = regNext (evOpsGo P Γ call r70_2.1 r70_2.1 s H) := at_region (by kernel_rfl) r70_2.2 s H
attribute [simp] r70_2
@[simp] theorem n70_3 (s : List V) (H : Heap) : evCode P Γ call n f m (cAt [1] B70) s H = seqNext P Γ call n f m (cAt [1, 1] B70) (evCode P Γ call n f m (cAt [1, 0] B70) s H) := at_seq (by kernel_rfl) rfl rfl s H
noncomputable def r70_4 : {l : List Oper // opsOf (cAt [1, 0] B70) = l} := by
  apply Subtype.mk
  dsimp only [opsOf, cAt, kids, B70, bodyOf, Tryd.f70, List.getD, List.getElem?_cons_zero, List.getElem?_cons_succ, Option.getD_some]
@[simp] theorem n70_4 (s : List V) (H : Heap) : evCode P Γ call n f m (cAt [1, 0] B70) s H = regNext (evOpsGo P Γ call r70_4.1 r70_4.1 s H) := at_region (by kernel_rfl) r70_4.2 s H
attribute [simp] r70_4
@[simp] theorem n70_5 (s : List V) (H : Heap) : evCode P Γ call n f m (cAt [1, 1] B70) s H = some (.ret, s, H) := at_ret (by kernel_rfl) s H
theorem b70 {k : Nat} (ho : ∀ args H, Γ.orc 70 args H = none) (args : List V) (H : Heap) (ha : args.length ≤ 5) : evF Tryd.prog Γ (k + 1) 70 args H = bodyEnd Tryd.prog [.tmp 2] H.length (evCode Tryd.prog Γ (evF Tryd.prog Γ k) k 70 H.length (cAt [] B70) (mkL 5 V.undef (enumV 0 args)) H) := body_at Tryd.func70 (by decide) rfl ho rfl rfl args H ha
noncomputable def B71 : Code := bodyOf Tryd.f71
@[simp] theorem n71_1 (s : List V) (H : Heap) : evCode P Γ call n f m (cAt [] B71) s H = seqNext P Γ call n f m (cAt [1] B71) (evCode P Γ call n f m (cAt [0] B71) s H) := at_seq (by kernel_rfl) rfl rfl s H
noncomputable def r71_2 : {l : List Oper // opsOf (cAt [0] B71) = l} := by
  apply Subtype.mk
  dsimp only [opsOf, cAt, kids, B71, bodyOf, Tryd.f71, List.getD, List.getElem?_cons_zero, List.getElem?_cons_succ, Option.getD_some]
@[simp] theorem n71_2 (s : List V) (H : Heap) : evCode P Γ call n f m (cAt [0] B71) s H = regNext (evOpsGo P Γ call r71_2.1 r71_2.1 s H) := at_region (by kernel_rfl) r71_2.2 s H
attribute [simp] r71_2
@[simp] theorem n71_3 (s : List V) (H : Heap) : evCode P Γ call n f m (cAt [1] B71) s H = seqNext P Γ call n f m (cAt [1, 1] B71) (evCode P Γ call n f m (cAt [1, 0] B71) s H) := at_seq (by kernel_rfl) rfl rfl s H
noncomputable def r71_4 : {l : List Oper // opsOf (cAt [1, 0] B71) = l} := by
  apply Subtype.mk
  dsimp only [opsOf, cAt, kids, B71, bodyOf, Tryd.f71, List.getD, List.getElem?_cons_zero, List.getElem?_cons_succ, Option.getD_some]
@[simp] theorem n71_4 (s : List V) (H : Heap) : evCode P Γ call n f m (cAt [1, 0] B71) s H = regNext (evOpsGo P Γ call r71_4.1 r71_4.1 s H) := at_region (by kernel_rfl) r71_4.2 s H
attribute [simp] r71_4
@[simp] theorem n71_5 (s : List V) (H : Heap) : evCode P Γ call n f m (cAt [1, 1] B71) s H = some (.ret, s, H) := at_ret (by kernel_rfl) s H
theorem b71 {k : Nat} (ho : ∀ args H, Γ.orc 71 args H = none) (args : List V) (H : Heap) (ha : args.length ≤ 16) : evF Tryd.prog Γ (k + 1) 71 args H = bodyEnd Tryd.prog [.tmp 2] H.length (evCode Tryd.prog Γ (evF Tryd.prog Γ k) k 71 H.length (cAt [] B71) (mkL 16 V.undef (enumV 0 args)) H) := body_at Tryd.func71 (by decide) rfl ho rfl rfl args H ha
noncomputable def B82 : Code := bodyOf Tryd.f82
@[simp] theorem n82_1 (s : List V) (H : Heap) : evCode P Γ call n f m (cAt [] B82) s H = seqNext P Γ call n f m (cAt [1] B82) (evCode P Γ call n f m (cAt [0] B82) s H) := at_seq (by kernel_rfl) rfl rfl s H
noncomputable def r82_2 : {l : List Oper // opsOf (cAt [0] B82) = l} := by
  apply Subtype.mk
  dsimp only [opsOf, cAt, kids, B82, bodyOf, Tryd.f82, List.getD, List.getElem?_cons_zero, List.getElem?_cons_succ, Option.getD_some]
@[simp] theorem n82_2 (s : List V) (H : Heap) : evCode P Γ call n f m (cAt [0] B82) s H = regNext (evOpsGo P Γ call r82_2.1 r82_2.1 s H) := at_region (by kernel_rfl) r82_2.2 s H
attribute [simp] r82_2
@[simp] theorem n82_3 (s : List V) (H : Heap) : evCode P Γ call n f m (cAt [1] B82) s H = seqNext P Γ call n f m (cAt [1, 1] B82) (evCode P Γ call n f m (cAt [1, 0] B82) s H) := at_seq (by kernel_rfl) rfl rfl s H
@[simp] theorem n82_4 (s : List V) (H : Heap) : evCode P Γ call n f m (cAt [1, 0] B82) s H = seqNext P Γ call n f m (cAt [1, 0, 1] B82) (evCode P Γ call n f m (cAt [1, 0, 0] B82) s H) := at_seq (by kernel_rfl) rfl rfl s H
noncomputable def r82_5 : {l : List Oper // opsOf (cAt [1, 0, 0] B82) = l} := by
  apply Subtype.mk
  dsimp only [opsOf, cAt, kids, B82, bodyOf, Tryd.f82, List.getD, List.getElem?_cons_zero, List.getElem?_cons_succ, Option.getD_some]
@[simp] theorem n82_5 (s : List V) (H : Heap) : evCode P Γ call n f m (cAt [1, 0, 0] B82) s H = regNext (evOpsGo P Γ call r82_5.1 r82_5.1 s H) := at_region (by kernel_rfl) r82_5.2 s H
attribute [simp] r82_5
@[simp] theorem n82_6 (s : List V) (H : Heap) : evCode P Γ call n f m (cAt [1, 0, 1] B82) s H = condW P Γ call n f m (cAt [1, 0, 1, 0] B82) (cAt [1, 0, 1, 1] B82) s H (evOperand Γ s (.tmp 21)) := at_cond (by kernel_rfl) (by kernel_rfl) rfl rfl s H
@[simp] theorem n82_7 (s : List V) (H : Heap) : evCode P Γ call n f m (cAt [1, 0, 1, 0] B82) s H = seqNext P Γ call n f m (cAt [1, 0, 1, 0, 1] B82) (evCode P Γ call n f m (cAt [1, 0, 1, 0, 0] B82) s H) := at_seq (by kernel_rfl) rfl rfl s H
noncomputable def r82_8 : {l : List Oper // opsOf (cAt [1, 0, 1, 0, 0] B82) = l} := by
  apply Subtype.mk
  dsimp only [opsOf, cAt, kids, B82, bodyOf, Tryd.f82, List.getD, List.getElem?_cons_zero, List.getElem?_cons_succ, Option.getD_some]
@[simp] theorem n82_8 (s : List V) (H : Heap) : evCode P Γ call n f m (cAt [1, 0, 1, 0, 0] B82) s H = regNext (evOpsGo P Γ call r82_8.1 r82_8.1 s H) := at_region (by kernel_rfl) r82_8.2 s H
attribute [simp] r82_8
@[simp] theorem n82_9 (s : List V) (H : Heap) : evCode P Γ call n f m (cAt [1, 0, 1, 0, 1] B82) s H = some (.ret, s, H) := at_ret (by kernel_rfl) s H
@[simp] theorem n82_10 (s : List V) (H : Heap) : evCode P Γ call n f m (cAt [1, 0, 1, 1] B82) s H = some (.normal, s, H) := at_skip (by kernel_rfl) s H
@[simp] theorem n82_11 (s : List V) (H : Heap) : evCode P Γ call n f m (cAt [1, 1] B82) s H = seqNext P Γ call n f m (cAt [1, 1, 1] B82) (evCode P Γ call n f m (cAt [1, 1, 0] B82) s H) := at_seq (by kernel_rfl) rfl rfl s H
@[simp] theorem n82_12 (s : List V) (H : Heap) : evCode P Γ call n f m (cAt [1, 1, 0] B82) s H = seqNext P Γ call n f m (cAt [1, 1, 0, 1] B82) (evCode P Γ call n f m (cAt [1, 1, 0, 0] B82) s H) := at_seq (by kernel_rfl) rfl rfl s H
noncomputable def r82_13 : {l : List Oper // opsOf (cAt [1, 1, 0, 0] B82) = l} := by
  apply Subtype.mk
  dsimp only [opsOf, cAt, kids, B82, bodyOf, Tryd.f82, List.getD, List.getElem?_cons_zero, List.getElem?_cons_succ, Option.getD_some]
@[simp] theorem n82_13 (s : List V) (H : Heap) : evCode P Γ call n f m (cAt [1, 1, 0, 0] B82) s H = regNext (evOpsGo P Γ call r82_13.1 r82_13.1 s H) := at_region (by kernel_rfl) r82_13.2 s H
attribute [simp] r82_13
@[simp] theorem n82_14 (s : List V) (H : Heap) : evCode P Γ call n f m (cAt [1, 1, 0, 1] B82) s H = blockNext 0 (evCode P Γ call n f m (cAt [1, 1, 0, 1, 0] B82) s H) := at_block (by kernel_rfl) rfl s H
@[simp] theorem n82_15 (s : List V) (H : Heap) : evCode P Γ call n f m (cAt [1, 1, 0, 1, 0] B82) s H = evLoopC P Γ call n f m (cAt [1, 1, 0, 1, 0, 0] B82) n s H := at_loop (by kernel_rfl) rfl s H
noncomputable abbrev L82_4 : Code := cAt [1, 1, 0, 1, 0, 0] B82
@[simp] theorem n82_15f : firstRegion (cAt [1, 1, 0, 1, 0, 0] B82) = 4 := by kernel_rfl
@[simp] theorem n82_16 (s : List V) (H : Heap) : evCode P Γ call n f m (cAt [1, 1, 0, 1, 0, 0] B82) s H = seqNext P Γ call n f m (cAt [1, 1, 0, 1, 0, 0, 1] B82) (evCode P Γ call n f m (cAt [1, 1, 0, 1, 0, 0, 0] B82) s H) := at_seq (by kernel_rfl) rfl rfl s H
noncomputable def r82_17 : {l : List Oper // opsOf (cAt [1, 1, 0, 1, 0, 0, 0] B82) = l} := by
  apply Subtype.mk
  dsimp only [opsOf, cAt, kids, B82, bodyOf, Tryd.f82, List.getD, List.getElem?_cons_zero, List.getElem?_cons_succ, Option.getD_some]
@[simp] theorem n82_17 (s : List V) (H : Heap) : evCode P Γ call n f m (cAt [1, 1, 0, 1, 0, 0, 0] B82) s H = regNext (evOpsGo P Γ call r82_17.1 r82_17.1 s H) := at_region (by kernel_rfl) r82_17.2 s H
attribute [simp] r82_17
@[simp] theorem n82_18 (s : List V) (H : Heap) : evCode P Γ call n f m (cAt [1, 1, 0, 1, 0, 0, 1] B82) s H = seqNext P Γ call n f m (cAt [1, 1, 0, 1, 0, 0, 1, 1] B82) (evCode P Γ call n f m (cAt [1, 1, 0, 1, 0, 0, 1, 0] B82) s H) := at_seq (by kernel_rfl) rfl rfl s H
@[simp] theorem n82_19 (s : List V) (H : Heap) : evCode P Γ call n f m (cAt [1, 1, 0, 1, 0, 0, 1, 0] B82) s H = condW P Γ call n f m (cAt [1, 1, 0, 1, 0, 0, 1, 0, 0] B82) (cAt [1, 1, 0, 1, 0, 0, 1, 0, 1] B82) s H (evOperand Γ s (.tmp 25)) := at_cond (by kernel_rfl) (by kernel_rfl) rfl rfl s H
@[simp] theorem n82_20 (s : List V) (H : Heap) : evCode P Γ call n f m (cAt [1, 1, 0, 1, 0, 0, 1, 0, 0] B82) s H = some (.normal, s, H) := at_skip (by kernel_rfl) s H
@[simp] theorem n82_21 (s : List V) (H : Heap) : evCode P Γ call n f m (cAt [1, 1, 0, 1, 0, 0, 1, 0, 1] B82) s H = some (.exit 0, s, H) := at_exit (by kernel_rfl) s H
@[simp] theorem n82_22 (s : List V) (H : Heap) : evCode P Γ call n f m (cAt [1, 1, 0, 1, 0, 0, 1, 1] B82) s H = seqNext P Γ call n f m (cAt [1, 1, 0, 1, 0, 0, 1, 1, 1] B82) (evCode P Γ call n f m (cAt [1, 1, 0, 1, 0, 0, 1, 1, 0] B82) s H) := at_seq (by kernel_rfl) rfl rfl s H
@[simp] theorem n82_23 (s : List V) (H : Heap) : evCode P Γ call n f m (cAt [1, 1, 0, 1, 0, 0, 1, 1, 0] B82) s H = blockNext 1 (evCode P Γ call n f m (cAt [1, 1, 0, 1, 0, 0, 1, 1, 0, 0] B82) s H) := at_block (by kernel_rfl) rfl s H
@[simp] theorem n82_24 (s : List V) (H : Heap) : evCode P Γ call n f m (cAt [1, 1, 0, 1, 0, 0, 1, 1, 0, 0] B82) s H = seqNext P Γ call n f m (cAt [1, 1, 0, 1, 0, 0, 1, 1, 0, 0, 1] B82) (evCode P Γ call n f m (cAt [1, 1, 0, 1, 0, 0, 1, 1, 0, 0, 0] B82) s H) := at_seq (by kernel_rfl) rfl rfl s H
noncomputable def r82_25 : {l : List Oper // opsOf (cAt [1, 1, 0, 1, 0, 0, 1, 1, 0, 0, 0] B82) = l} := by
  apply Subtype.mk
  dsimp only [opsOf, cAt, kids, B82, bodyOf, Tryd.f82, List.getD, List.getElem?_cons_zero, List.getElem?_cons_succ, Option.getD_some]
@[simp] theorem n82_25 (s : List V) (H : Heap) : evCode P Γ call n f m (cAt [1, 1, 0, 1, 0, 0, 1, 1, 0, 0, 0] B82) s H = regNext (evOpsGo P Γ call r82_25.1 r82_25.1 s H) := at_region (by kernel_rfl) r82_25.2 s H
attribute [simp] r82_25
@[simp] theorem n82_26 (s : List V) (H : Heap) : evCode P Γ call n f m (cAt [1, 1, 0, 1, 0, 0, 1, 1, 0, 0, 1] B82) s H = seqNext P Γ call n f m (cAt [1, 1, 0, 1, 0, 0, 1, 1, 0, 0, 1, 1] B82) (evCode P Γ call n f m (cAt [1, 1, 0, 1, 0, 0, 1, 1, 0, 0, 1, 0] B82) s H) := at_seq (by kernel_rfl) rfl rfl s H
noncomputable def r82_27 : {l : List Oper // opsOf (cAt [1, 1, 0, 1, 0, 0, 1, 1, 0, 0, 1, 0] B82) = l} := by
  apply Subtype.mk
  dsimp only [opsOf, cAt, kids, B82, bodyOf, Tryd.f82, List.getD, List.getElem?_cons_zero, List.getElem?_cons_succ, Option.getD_some]
@[simp] theorem n82_27 (s : List V) (H : Heap) : evCode P Γ call n f m (cAt [1, 1, 0, 1, 0, 0, 1, 1, 0, 0, 1, 0] B82) s H = regNext (evOpsGo P Γ call r82_27.1 r82_27.1 s H) := at_region (by kernel_rfl) r82_27.2 s H
attribute [simp] r82_27
@[simp] theorem n82_28 (s : List V) (H : Heap) : evCode P Γ call n f m (cAt [1, 1, 0, 1, 0, 0, 1, 1, 0, 0, 1, 1] B82) s H = seqNext P Γ call n f m (cAt [1, 1, 0, 1, 0, 0, 1, 1, 0, 0, 1, 1, 1] B82) (evCode P Γ call n f m (cAt [1, 1, 0, 1, 0, 0, 1, 1, 0, 0, 1, 1, 0] B82) s H) := at_seq (by kernel_rfl) rfl rfl s H
noncomputable def r82_29 : {l : List Oper // opsOf (cAt [1, 1, 0, 1, 0, 0, 1, 1, 0, 0, 1, 1, 0] B82) = l} := by
  apply Subtype.mk
  dsimp only [opsOf, cAt, kids, B82, bodyOf, Tryd.f82, List.getD, List.getElem?_cons_zero, List.getElem?_cons_succ, Option.getD_some]
@[simp] theorem n82_29 (s : List V) (H : Heap) : evCode P Γ call n f m (cAt [1, 1, 0, 1, 0, 0, 1, 1, 0, 0, 1, 1, 0] B82) s H = regNext (evOpsGo P Γ call r82_29.1 r82_29.1 s H) := at_region (by kernel_rfl) r82_29.2 s H
attribute [simp] r82_29
@[simp] theorem n82_30 (s : List V) (H : Heap) : evCode P Γ call n f m (cAt [1, 1, 0, 1, 0, 0, 1, 1, 0, 0, 1, 1, 1] B82) s H = condW P Γ call n f m (cAt [1, 1, 0, 1, 0, 0, 1, 1, 0, 0, 1, 1, 1, 0] B82) (cAt [1, 1, 0, 1, 0, 0, 1, 1, 0, 0, 1, 1, 1, 1] B82) s H (evOperand Γ s (.tmp 47)) := at_cond (by kernel_rfl) (by kernel_rfl) rfl rfl s H
@[simp] theorem n82_31 (s : List V) (H : Heap) : evCode P Γ call n f m (cAt [1, 1, 0, 1, 0, 0, 1, 1, 0, 0, 1, 1, 1, 0] B82) s H = seqNext P Γ call n f m (cAt [1, 1, 0, 1, 0, 0, 1, 1, 0, 0, 1, 1, 1, 0, 1] B82) (evCode P Γ call n f m (cAt [1, 1, 0, 1, 0, 0, 1, 1, 0, 0, 1, 1, 1, 0, 0] B82) s H) := at_seq (by kernel_rfl) rfl rfl s H
noncomputable def r82_32 : {l : List Oper // opsOf (cAt [1, 1, 0, 1, 0, 0, 1, 1, 0, 0, 1, 1, 1, 0, 0] B82) = l} := by
  apply Subtype.mk
  dsimp only [opsOf, cAt, kids, B82, bodyOf, Tryd.f82, List.getD, List.getElem?_cons_zero, List.getElem?_cons_succ, Option.getD_some]
@[simp] theorem n82_32 (s : List V) (H : Heap) : evCode P Γ call n f m (cAt [1, 1, 0, 1, 0, 0, 1, 1, 0, 0, 1, 1, 1, 0, 0] B82) s H = regNext (evOpsGo P Γ call r82_32.1 r82_32.1 s H) := at_region (by kernel_rfl) r82_32.2 s H
attribute [simp] r82_32
@[simp] theorem n82_33 (s : List V) (H : Heap) : evCode P Γ call n f m (cAt [1, 1, 0, 1, 0, 0, 1, 1, 0, 0, 1, 1, 1, 0, 1] B82) s H = some (.ret, s, H) := at_ret (by kernel_rfl) s H
@[simp] theorem n82_34 (s : List V) (H : Heap) : evCode P Γ call n f m (cAt [1, 1, 0, 1, 0, 0, 1, 1, 0, 0, 1, 1, 1, 1] B82) s H = some (.normal, s, H) := at_skip (by kernel_rfl) s H
noncomputable def r82_35 : {l : List Oper // opsOf (cAt [1, 1, 0, 1, 0, 0, 1, 1, 1] B82) = l} := by
  apply Subtype.mk
  dsimp only [opsOf, cAt, kids, B82, bodyOf, Tryd.f82, List.getD, List.getElem?_cons_zero, List.getElem?_cons_succ, Option.getD_some]
@[simp] theorem n82_35 (s : List V) (H : Heap) : evCode P Γ call n f m (cAt [1, 1, 0, 1, 0, 0, 1, 1, 1] B82) s H = regNext (evOpsGo P Γ call r82_35.1 r82_35.1 s H) := at_region (by kernel_rfl) r82_35.2 s H
attribute [simp] r82_35
@[simp] theorem n82_36 (s : List V) (H : Heap) : evCode P Γ call n f m (cAt [1, 1, 1] B82) s H = seqNext P Γ call n f m (cAt [1, 1, 1, 1] B82) (evCode P Γ call n f m (cAt [1, 1, 1, 0] B82) s H) := at_seq (by kernel_rfl) rfl rfl s H
noncomputable def r82_37 : {l : List Oper // opsOf (cAt [1, 1, 1, 0] B82) = l} := by
  apply Subtype.mk
  dsimp only [opsOf, cAt, kids, B82, bodyOf, Tryd.f82, List.getD, List.getElem?_cons_zero, List.getElem?_cons_succ, Option.getD_some]
@[simp] theorem n82_37 (s : List V) (H : Heap) : evCode P Γ call n f m (cAt [1, 1, 1, 0] B82) s H = regNext (evOpsGo P Γ call r82_37.1 r82_37.1 s H) := at_region (by kernel_rfl) r82_37.2 s H
attribute [simp] r82_37
@[simp] theorem n82_38 (s : List V) (H : Heap) : evCode P Γ call n f m (cAt [1, 1, 1, 1] B82) s H = some (.ret, s, H) := at_ret (by kernel_rfl) s H
theorem b82 {k : Nat} (ho : ∀ args H, Γ.orc 82 args H = none) (args : List V) (H : Heap) (ha : args.length ≤ 49) : evF Tryd.prog Γ (k + 1) 82 args H = bodyEnd Tryd.prog [.tmp 2] H.length (evCode Tryd.prog Γ (evF Tryd.prog Γ k) k 82 H.length (cAt [] B82) (mkL 49 V.undef (enumV 0 args)) H) := body_at Tryd.func82 (by decide) rfl ho rfl rfl args H ha
noncomputable def B83 : Code := bodyOf Tryd.f83
@[simp] theorem n83_1 (s : List V) (H : Heap) : evCode P Γ call n f m (cAt [] B83) s H = seqNext P Γ call n f m (cAt [1] B83) (evCode P Γ call n f m (cAt [0] B83) s H) := at_seq (by kernel_rfl) rfl rfl s H
noncomputable def r83_2 : {l : List Oper // opsOf (cAt [0] B83) = l} := by
  apply Subtype.mk
  dsimp only [opsOf, cAt, kids, B83, bodyOf, Tryd.f83, List.getD, List.getElem?_cons_zero, List.getElem?_cons_succ, Option.getD_some]
@[simp] theorem n83_2 (s : List V) (H : Heap) : evCode P Γ call n f m (cAt [0] B83) s H = regNext (evOpsGo P Γ call r83_2.1 r83_2.1 s H) := at_region (by kernel_rfl) r83_2.2 s H
attribute [simp] r83_2
@[simp] theorem n83_3 (s : List V) (H : Heap) : evCode P Γ call n f m (cAt [1] B83) s H = seqNext P Γ call n f m (cAt [1, 1] B83) (evCode P Γ call n f m (cAt [1, 0] B83) s H) := at_seq (by kernel_rfl) rfl rfl s H
noncomputable def r83_4 : {l : List Oper // opsOf (cAt [1, 0] B83) = l} := by
  apply Subtype.mk
  dsimp only [opsOf, cAt, kids, B83, bodyOf, Tryd.f83, List.getD, List.getElem?_cons_zero, List.getElem?_cons_succ, Option.getD_some]
@[simp] theorem n83_4 (s : List V) (H : Heap) : evCode P Γ call n f m (cAt [1, 0] B83) s H = regNext (evOpsGo P Γ call r83_4.1 r83_4.1 s H) := at_region (by kernel_rfl) r83_4.2 s H
attribute [simp] r83_4
@[simp] theorem n83_5 (s : List V) (H : Heap) : evCode P Γ call n f m (cAt [1, 1] B83) s H = some (.ret, s, H) := at_ret (by kernel_rfl) s H
theorem b83 {k : Nat} (ho : ∀ args H, Γ.orc 83 args H = none) (args : List V) (H : Heap) (ha : args.length ≤ 9) : evF Tryd.prog Γ (k + 1) 83 args H = bodyEnd Tryd.prog [.tmp 4] H.length (evCode Tryd.prog Γ (evF Tryd.prog Γ k) k 83 H.length (cAt [] B83) (mkL 9 V.undef (enumV 0 args)) H) := body_at Tryd.func83 (by decide) rfl ho rfl rfl args H ha
noncomputable def B84 : Code := bodyOf Tryd.f84
@[simp] theorem n84_1 (s : List V) (H : Heap) : evCode P Γ call n f m (cAt [] B84) s H = seqNext P Γ call n f m (cAt [1] B84) (evCode P Γ call n f m (cAt [0] B84) s H) := at_seq (by kernel_rfl) rfl rfl s H
noncomputable def r84_2 : {l : List Oper // opsOf (cAt [0] B84) = l} := by
  apply Subtype.mk
  dsimp only [opsOf, cAt, kids, B84, bodyOf, Tryd.f84, List.getD, List.getElem?_cons_zero, List.getElem?_cons_succ, Option.getD_some]
@[simp] theorem n84_2 (s : List V) (H : Heap) : evCode P Γ call n f m (cAt [0] B84) s H = regNext (evOpsGo P Γ call r84_2.1 r84_2.1 s H) := at_region (by kernel_rfl) r84_2.2 s H
attribute [simp] r84_2
@[simp] theorem n84_3 (s : List V) (H : Heap) : evCode P Γ call n f m (cAt [1] B84) s H = seqNext P Γ call n f m (cAt [1, 1] B84) (evCode P Γ call n f m (cAt [1, 0] B84) s H) := at_seq (by kernel_rfl) rfl rfl s H
noncomputable def r84_4 : {l : List Oper // opsOf (cAt [1, 0] B84) = l} := by
  apply Subtype.mk
  dsimp only [opsOf, cAt, kids, B84, bodyOf, Tryd.f84, List.getD, List.getElem?_cons_zero, List.getElem?_cons_succ, Option.getD_some]
@[simp] theorem n84_4 (s : List V) (H : Heap) : evCode P Γ call n f m (cAt [1, 0] B84) s H = regNext (evOpsGo P Γ call r84_4.1 r84_4.1 s H) := at_region (by kernel_rfl) r84_4.2 s H
attribute [simp] r84_4
@[simp] theorem n84_5 (s : List V) (H : Heap) : evCode P Γ call n f m (cAt [1, 1] B84) s H = some (.ret, s, H) := at_ret (by kernel_rfl) s H
theorem b84 {k : Nat} (ho : ∀ args H, Γ.orc 84 args H = none) (args : List V) (H : Heap) (ha : args.length ≤ 13) : evF Tryd.prog Γ (k + 1) 84 args H = bodyEnd Tryd.prog [.tmp 2] H.length (evCode Tryd.prog Γ (evF Tryd.prog Γ k) k 84 H.length (cAt [] B84) (mkL 13 V.undef (enumV 0 args)) H) := body_at Tryd.func84 (by decide) rfl ho rfl rfl args H ha
noncomputable def B97 : Code := bodyOf Tryd.f97
@[simp] theorem n97_1 (s : List V) (H : Heap) : evCode P Γ call n f m (cAt [] B97) s H = seqNext P Γ call n f m (cAt [1] B97) (evCode P Γ call n f m (cAt [0] B97) s H) := at_seq (by kernel_rfl) rfl rfl s H
noncomputable def r97_2 : {l : List Oper // opsOf (cAt [0] B97) = l} := by
  apply Subtype.mk
  dsimp only [opsOf, cAt, kids, B97, bodyOf, Tryd.f97, List.getD, List.getElem?_cons_zero, List.getElem?_cons_succ, Option.getD_some]
@[simp] theorem n97_2 (s : List V) (H : Heap) : evCode P Γ call n f m (cAt [0] B97) s H = regNext (evOpsGo P Γ call r97_2.1 r97_2.1 s H) := at_region (by kernel_rfl) r97_2.2 s H
attribute [simp] r97_2
@[simp] theorem n97_3 (s : List V) (H : Heap) : evCode P Γ call n f m (cAt [1] B97) s H = seqNext P Γ call n f m (cAt [1, 1] B97) (evCode P Γ call n f m (cAt [1, 0] B97) s H) := at_seq (by kernel_rfl) rfl rfl s H
noncomputable def r97_4 : {l : List Oper // opsOf (cAt [1, 0] B97) = l} := by
  apply Subtype.mk
  dsimp only [opsOf, cAt, kids, B97, bodyOf, Tryd.f97, List.getD, List.getElem?_cons_zero, List.getElem?_cons_succ, Option.getD_some]
@[simp] theorem n97_4 (s : List V) (H : Heap) : evCode P Γ call n f m (cAt [1, 0] B97) s H = regNext (evOpsGo P Γ call r97_4.1 r97_4.1 s H) := at_region (by kernel_rfl) r97_4.2 s H
attribute [simp] r97_4
@[simp] theorem n97_5 (s : List V) (H : Heap) : evCode P Γ call n f m (cAt [1, 1] B97) s H = some (.ret, s, H) := at_ret (by kernel_rfl) s H
theorem b97 {k : Nat} (ho : ∀ args H, Γ.orc 97 args H = none) (args : List V) (H : Heap) (ha : args.length ≤ 8) : evF Tryd.prog Γ (k + 1) 97 args H = bodyEnd Tryd.prog [.tmp 4] H.length (evCode Tryd.prog Γ (evF Tryd.prog Γ k) k 97 H.length (cAt [] B97) (mkL 8 V.undef (enumV 0 args)) H) := body_at Tryd.func97 (by decide) rfl ho rfl rfl args H ha
noncomputable def B106 : Code := bodyOf Tryd.f106
@[simp] theorem n106_1 (s : List V) (H : Heap) : evCode P Γ call n f m (cAt [] B106) s H = seqNext P Γ call n f m (cAt [1] B106) (evCode P Γ call n f m (cAt [0] B106) s H) := at_seq (by kernel_rfl) rfl rfl s H
noncomputable def r106_2 : {l : List Oper // opsOf (cAt [0] B106) = l} := by
  apply Subtype.mk
  dsimp only [opsOf, cAt, kids, B106, bodyOf, Tryd.f106, List.getD, List.getElem?_cons_zero, List.getElem?_cons_succ, Option.getD_some]
@[simp] theorem n106_2 (s : List V) (H : Heap) : evCode P Γ call n f m (cAt [0] B106) s H = regNext (evOpsGo P Γ call r106_2.1 r106_2.1 s H) := at_region (by kernel_rfl) r106_2.2 s H
attribute [simp] r106_2
@[simp] theorem n106_3 (s : List V) (H : Heap) : evCode P Γ call n f m (cAt [1] B106) s H = seqNext P Γ call n f m (cAt [1, 1] B106) (evCode P Γ call n f m (cAt [1, 0] B106) s H) := at_seq (by kernel_rfl) rfl rfl s H
@[simp] theorem n106_4 (s : List V) (H : Heap) : evCode P Γ call n f m (cAt [1, 0] B106) s H = seqNext P Γ call n f m (cAt [1, 0, 1] B106) (evCode P Γ call n f m (cAt [1, 0, 0] B106) s H) := at_seq (by kernel_rfl) rfl rfl s H
noncomputable def r106_5 : {l : List Oper // opsOf (cAt [1, 0, 0] B106) = l} := by
  apply Subtype.mk
  dsimp only [opsOf, cAt, kids, B106, bodyOf, Tryd.f106, List.getD, List.getElem?_cons_zero, List.getElem?_cons_succ, Option.getD_some]
@[simp] theorem n106_5 (s : List V) (H : Heap) : evCode P Γ call n f m (cAt [1, 0, 0] B106) s H = regNext (evOpsGo P Γ call r106_5.1 r106_5.1 s H) := at_region (by kernel_rfl) r106_5.2 s H
attribute [simp] r106_5
@[simp] theorem n106_6 (s : List V) (H : Heap) : evCode P Γ call n f m (cAt [1, 0, 1] B106) s H = blockNext 0 (evCode P Γ call n f m (cAt [1, 0, 1, 0] B106) s H) := at_block (by kernel_rfl) rfl s H
@[simp] theorem n106_7 (s : List V) (H : Heap) : evCode P Γ call n f m (cAt [1, 0, 1, 0] B106) s H = evLoopC P Γ call n f m (cAt [1, 0, 1, 0, 0] B106) n s H := at_loop (by kernel_rfl) rfl s H
noncomputable abbrev L106_2 : Code := cAt [1, 0, 1, 0, 0] B106
@[simp] theorem n106_7f : firstRegion (cAt [1, 0, 1, 0, 0] B106) = 2 := by kernel_rfl
@[simp] theorem n106_8 (s : List V) (H : Heap) : evCode P Γ call n f m (cAt [1, 0, 1, 0, 0] B106) s H = seqNext P Γ call n f m (cAt [1, 0, 1, 0, 0, 1] B106) (evCode P Γ call n f m (cAt [1, 0, 1, 0, 0, 0] B106) s H) := at_seq (by kernel_rfl) rfl rfl s H
noncomputable def r106_9 : {l : List Oper // opsOf (cAt [1, 0, 1, 0, 0, 0] B106) = l} := by
  apply Subtype.mk
  dsimp only [opsOf, cAt, kids, B106, bodyOf, Tryd.f106, List.getD, List.getElem?_cons_zero, List.getElem?_cons_succ, Option.getD_some]
@[simp] theorem n106_9 (s : List V) (H : Heap) : evCode P Γ call n f m (cAt [1, 0, 1, 0, 0, 0] B106) s H = regNext (evOpsGo P Γ call r106_9.1 r106_9.1 s H) := at_region (by kernel_rfl) r106_9.2 s H
attribute [simp] r106_9
@[simp] theorem n106_10 (s : List V) (H : Heap) : evCode P Γ call n f m (cAt [1, 0, 1, 0, 0, 1] B106) s H = seqNext P Γ call n f m (cAt [1, 0, 1, 0, 0, 1, 1] B106) (evCode P Γ call n f m (cAt [1, 0, 1, 0, 0, 1, 0] B106) s H) := at_seq (by kernel_rfl) rfl rfl s H
@[simp] theorem n106_11 (s : List V) (H : Heap) : evCode P Γ call n f m (cAt [1, 0, 1, 0, 0, 1, 0] B106) s H = condW P Γ call n f m (cAt [1, 0, 1, 0, 0, 1, 0, 0] B106) (cAt [1, 0, 1, 0, 0, 1, 0, 1] B106) s H (evOperand Γ s (.tmp 12)) := at_cond (by kernel_rfl) (by kernel_rfl) rfl rfl s H
@[simp] theorem n106_12 (s : List V) (H : Heap) : evCode P Γ call n f m (cAt [1, 0, 1, 0, 0, 1, 0, 0] B106) s H = some (.normal, s, H) := at_skip (by kernel_rfl) s H
@[simp] theorem n106_13 (s : List V) (H : Heap) : evCode P Γ call n f m (cAt [1, 0, 1, 0, 0, 1, 0, 1] B106) s H = some (.exit 0, s, H) := at_exit (by kernel_rfl) s H
@[simp] theorem n106_14 (s : List V) (H : Heap) : evCode P Γ call n f m (cAt [1, 0, 1, 0, 0, 1, 1] B106) s H = blockNext 1 (evCode P Γ call n f m (cAt [1, 0, 1, 0, 0, 1, 1, 0] B106) s H) := at_block (by kernel_rfl) rfl s H
@[simp] theorem n106_15 (s : List V) (H : Heap) : evCode P Γ call n f m (cAt [1, 0, 1, 0, 0, 1, 1, 0] B106) s H = seqNext P Γ call n f m (cAt [1, 0, 1, 0, 0, 1, 1, 0, 1] B106) (evCode P Γ call n f m (cAt [1, 0, 1, 0, 0, 1, 1, 0, 0] B106) s H) := at_seq (by kernel_rfl) rfl rfl s H
noncomputable def r106_16 : {l : List Oper // opsOf (cAt [1, 0, 1, 0, 0, 1, 1, 0, 0] B106) = l} := by
  apply Subtype.mk
  dsimp only [opsOf, cAt, kids, B106, bodyOf, Tryd.f106, List.getD, List.getElem?_cons_zero, List.getElem?_cons_succ, Option.getD_some]
@[simp] theorem n106_16 (s : List V) (H : Heap) : evCode P Γ call n f m (cAt [1, 0, 1, 0, 0, 1, 1, 0, 0] B106) s H = regNext (evOpsGo P Γ call r106_16.1 r106_16.1 s H) := at_region (by kernel_rfl) r106_16.2 s H
attribute [simp] r106_16
@[simp] theorem n106_17 (s : List V) (H : Heap) : evCode P Γ call n f m (cAt [1, 0, 1, 0, 0, 1, 1, 0, 1] B106) s H = seqNext P Γ call n f m (cAt [1, 0, 1, 0, 0, 1, 1, 0, 1, 1] B106) (evCode P Γ call n f m (cAt [1, 0, 1, 0, 0, 1, 1, 0, 1, 0] B106) s H) := at_seq (by kernel_rfl) rfl rfl s H
noncomputable def r106_18 : {l : List Oper // opsOf (cAt [1, 0, 1, 0, 0, 1, 1, 0, 1, 0] B106) = l} := by
  apply Subtype.mk
  dsimp only [opsOf, cAt, kids, B106, bodyOf, Tryd.f106, List.getD, List.getElem?_cons_zero, List.getElem?_cons_succ, Option.getD_some]
@[simp] theorem n106_18 (s : List V) (H : Heap) : evCode P Γ call n f m (cAt [1, 0, 1, 0, 0, 1, 1, 0, 1, 0] B106) s H = regNext (evOpsGo P Γ call r106_18.1 r106_18.1 s H) := at_region (by kernel_rfl) r106_18.2 s H
attribute [simp] r106_18
@[simp] theorem n106_19 (s : List V) (H : Heap) : evCode P Γ call n f m (cAt [1, 0, 1, 0, 0, 1, 1, 0, 1, 1] B106) s H = condW P Γ call n f m (cAt [1, 0, 1, 0, 0, 1, 1, 0, 1, 1, 0] B106) (cAt [1, 0, 1, 0, 0, 1, 1, 0, 1, 1, 1] B106) s H (evOperand Γ s (.tmp 19)) := at_cond (by kernel_rfl) (by kernel_rfl) rfl rfl s H
@[simp] theorem n106_20 (s : List V) (H : Heap) : evCode P Γ call n f m (cAt [1, 0, 1, 0, 0, 1, 1, 0, 1, 1, 0] B106) s H = seqNext P Γ call n f m (cAt [1, 0, 1, 0, 0, 1, 1, 0, 1, 1, 0, 1] B106) (evCode P Γ call n f m (cAt [1, 0, 1, 0, 0, 1, 1, 0, 1, 1, 0, 0] B106) s H) := at_seq (by kernel_rfl) rfl rfl s H
noncomputable def r106_21 : {l : List Oper // opsOf (cAt [1, 0, 1, 0, 0, 1, 1, 0, 1, 1, 0, 0] B106) = l} := by
  apply Subtype.mk
  dsimp only [opsOf, cAt, kids, B106, bodyOf, Tryd.f106, List.getD, List.getElem?_cons_zero, List.getElem?_cons_succ, Option.getD_some]
@[simp] theorem n106_21 (s : List V) (H : Heap) : evCode P Γ call n f m (cAt [1, 0, 1, 0, 0, 1, 1, 0, 1, 1, 0, 0] B106) s H = regNext (evOpsGo P Γ call r106_21.1 r106_21.1 s H) := at_region (by kernel_rfl) r106_21.2 s H
attribute [simp] r106_21
@[simp] theorem n106_22 (s : List V) (H : Heap) : evCode P Γ call n f m (cAt [1, 0, 1, 0, 0, 1, 1, 0, 1, 1, 0, 1] B106) s H = some (.ret, s, H) := at_ret (by kernel_rfl) s H
@[simp] theorem n106_23 (s : List V) (H : Heap) : evCode P Γ call n f m (cAt [1, 0, 1, 0, 0, 1, 1, 0, 1, 1, 1] B106) s H = some (.normal, s, H) := at_skip (by kernel_rfl) s H
@[simp] theorem n106_24 (s : List V) (H : Heap) : evCode P Γ call n f m (cAt [1, 1] B106) s H = seqNext P Γ call n f m (cAt [1, 1, 1] B106) (evCode P Γ call n f m (cAt [1, 1, 0] B106) s H) := at_seq (by kernel_rfl) rfl rfl s H
noncomputable def r106_25 : {l : List Oper // opsOf (cAt [1, 1, 0] B106) = l} := by
  apply Subtype.mk
  dsimp only [opsOf, cAt, kids, B106, bodyOf, Tryd.f106, List.getD, List.getElem?_cons_zero, List.getElem?_cons_succ, Option.getD_some]
@[simp] theorem n106_25 (s : List V) (H : Heap) : evCode P Γ call n f m (cAt [1, 1, 0] B106) s H = regNext (evOpsGo P Γ call r106_25.1 r106_25.1 s H) := at_region (by kernel_rfl) r106_25.2 s H
attribute [simp] r106_25
@[simp] theorem n106_26 (s : List V) (H : Heap) : evCode P Γ call n f m (cAt [1, 1, 1] B106) s H = some (.ret, s, H) := at_ret (by kernel_rfl) s H
theorem b106 {k : Nat} (ho : ∀ args H, Γ.orc 106 args H = none) (args : List V) (H : Heap) (ha : args.length ≤ 21) : evF Tryd.prog Γ (k + 1) 106 args H = bodyEnd Tryd.prog [.tmp 6] H.length (evCode Tryd.prog Γ (evF Tryd.prog Γ k) k 106 H.length (cAt [] B106) (mkL 21 V.undef (enumV 0 args)) H) := body_at Tryd.func106 (by decide) rfl ho rfl rfl args H ha
end
end Go.Ev.Tryd
