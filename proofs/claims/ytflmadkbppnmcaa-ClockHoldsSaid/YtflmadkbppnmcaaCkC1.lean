/-
  CODE BY NAMES, printed by wip/tools/codes.py (own work).
-/
import Derived.Test.YtflmadkbppnmcaaCkC0
set_option maxRecDepth 100000
set_option linter.unusedVariables false
namespace Go.Ev.Try
open Go Go.Ev Go.Proofs
section
variable {P : Program} {Γ : Env} {call : CallF} {n f m : Nat}

noncomputable def B10 : Code := bodyOf Try.f10
@[simp] theorem n10_1 (s : List V) (H : Heap) : evCode P Γ call n f m (cAt [] B10) s H = seqNext P Γ call n f m (cAt [1] B10) (evCode P Γ call n f m (cAt [0] B10) s H) := at_seq (by kernel_rfl) rfl rfl s H
noncomputable def r10_2 : {l : List Oper // opsOf (cAt [0] B10) = l} := by
  apply Subtype.mk
  dsimp only [opsOf, cAt, kids, B10, bodyOf, Try.f10, List.getD, List.getElem?_cons_zero, List.getElem?_cons_succ, Option.getD_some]
@[simp] theorem n10_2 (s : List V) (H : Heap) : evCode P Γ call n f m (cAt [0] B10) s H = regNext (evOpsGo P Γ call r10_2.1 r10_2.1 s H) := at_region (by kernel_rfl) r10_2.2 s H
attribute [simp] r10_2
@[simp] theorem n10_3 (s : List V) (H : Heap) : evCode P Γ call n f m (cAt [1] B10) s H = seqNext P Γ call n f m (cAt [1, 1] B10) (evCode P Γ call n f m (cAt [1, 0] B10) s H) := at_seq (by kernel_rfl) rfl rfl s H
noncomputable def r10_4 : {l : List Oper // opsOf (cAt [1, 0] B10) = l} := by
  apply Subtype.mk
  dsimp only [opsOf, cAt, kids, B10, bodyOf, Try.f10, List.getD, List.getElem?_cons_zero, List.getElem?_cons_succ, Option.getD_some]
@[simp] theorem n10_4 (s : List V) (H : Heap) : evCode P Γ call n f m (cAt [1, 0] B10) s H = regNext (evOpsGo P Γ call r10_4.1 r10_4.1 s H) := at_region (by kernel_rfl) r10_4.2 s H
attribute [simp] r10_4
@[simp] theorem n10_5 (s : List V) (H : Heap) : evCode P Γ call n f m (cAt [1, 1] B10) s H = seqNext P Γ call n f m (cAt [1, 1, 1] B10) (evCode P Γ call n f m (cAt [1, 1, 0] B10) s H) := at_seq (by kernel_rfl) rfl rfl s H
@[simp] theorem n10_6 (s : List V) (H : Heap) : evCode P Γ call n f m (cAt [1, 1, 0] B10) s H = seqNext P Γ call n f m (cAt [1, 1, 0, 1] B10) (evCode P Γ call n f m (cAt [1, 1, 0, 0] B10) s H) := at_seq (by kernel_rfl) rfl rfl s H
noncomputable def r10_7 : {l : List Oper // opsOf (cAt [1, 1, 0, 0] B10) = l} := by
  apply Subtype.mk
  dsimp only [opsOf, cAt, kids, B10, bodyOf, Try.f10, List.getD, List.getElem?_cons_zero, List.getElem?_cons_succ, Option.getD_some]
@[simp] theorem n10_7 (s : List V) (H : Heap) : evCode P Γ call n f m (cAt [1, 1, 0, 0] B10) s H = regNext (evOpsGo P Γ call r10_7.1 r10_7.1 s H) := at_region (by kernel_rfl) r10_7.2 s H
attribute [simp] r10_7
@[simp] theorem n10_8 (s : List V) (H : Heap) : evCode P Γ call n f m (cAt [1, 1, 0, 1] B10) s H = blockNext 0 (evCode P Γ call n f m (cAt [1, 1, 0, 1, 0] B10) s H) := at_block (by kernel_rfl) rfl s H
@[simp] theorem n10_9 (s : List V) (H : Heap) : evCode P Γ call n f m (cAt [1, 1, 0, 1, 0] B10) s H = evLoopC P Γ call n f m (cAt [1, 1, 0, 1, 0, 0] B10) n s H := at_loop (by kernel_rfl) rfl s H
noncomputable abbrev L10_3 : Code := cAt [1, 1, 0, 1, 0, 0] B10
@[simp] theorem n10_9f : firstRegion (cAt [1, 1, 0, 1, 0, 0] B10) = 3 := by kernel_rfl
@[simp] theorem n10_10 (s : List V) (H : Heap) : evCode P Γ call n f m (cAt [1, 1, 0, 1, 0, 0] B10) s H = seqNext P Γ call n f m (cAt [1, 1, 0, 1, 0, 0, 1] B10) (evCode P Γ call n f m (cAt [1, 1, 0, 1, 0, 0, 0] B10) s H) := at_seq (by kernel_rfl) rfl rfl s H
noncomputable def r10_11 : {l : List Oper // opsOf (cAt [1, 1, 0, 1, 0, 0, 0] B10) = l} := by
  apply Subtype.mk
  dsimp only [opsOf, cAt, kids, B10, bodyOf, Try.f10, List.getD, List.getElem?_cons_zero, List.getElem?_cons_succ, Option.getD_some]
@[simp] theorem n10_11 (s : List V) (H : Heap) : evCode P Γ call n f m (cAt [1, 1, 0, 1, 0, 0, 0] B10) s H = regNext (evOpsGo P Γ call r10_11.1 r10_11.1 s H) := at_region (by kernel_rfl) r10_11.2 s H
attribute [simp] r10_11
@[simp] theorem n10_12 (s : List V) (H : Heap) : evCode P Γ call n f m (cAt [1, 1, 0, 1, 0, 0, 1] B10) s H = seqNext P Γ call n f m (cAt [1, 1, 0, 1, 0, 0, 1, 1] B10) (evCode P Γ call n f m (cAt [1, 1, 0, 1, 0, 0, 1, 0] B10) s H) := at_seq (by kernel_rfl) rfl rfl s H
@[simp] theorem n10_13 (s : List V) (H : Heap) : evCode P Γ call n f m (cAt [1, 1, 0, 1, 0, 0, 1, 0] B10) s H = condW P Γ call n f m (cAt [1, 1, 0, 1, 0, 0, 1, 0, 0] B10) (cAt [1, 1, 0, 1, 0, 0, 1, 0, 1] B10) s H (evOperand Γ s (.tmp 9)) := at_cond (by kernel_rfl) (by kernel_rfl) rfl rfl s H
@[simp] theorem n10_14 (s : List V) (H : Heap) : evCode P Γ call n f m (cAt [1, 1, 0, 1, 0, 0, 1, 0, 0] B10) s H = some (.normal, s, H) := at_skip (by kernel_rfl) s H
@[simp] theorem n10_15 (s : List V) (H : Heap) : evCode P Γ call n f m (cAt [1, 1, 0, 1, 0, 0, 1, 0, 1] B10) s H = some (.exit 0, s, H) := at_exit (by kernel_rfl) s H
@[simp] theorem n10_16 (s : List V) (H : Heap) : evCode P Γ call n f m (cAt [1, 1, 0, 1, 0, 0, 1, 1] B10) s H = seqNext P Γ call n f m (cAt [1, 1, 0, 1, 0, 0, 1, 1, 1] B10) (evCode P Γ call n f m (cAt [1, 1, 0, 1, 0, 0, 1, 1, 0] B10) s H) := at_seq (by kernel_rfl) rfl rfl s H
@[simp] theorem n10_17 (s : List V) (H : Heap) : evCode P Γ call n f m (cAt [1, 1, 0, 1, 0, 0, 1, 1, 0] B10) s H = blockNext 1 (evCode P Γ call n f m (cAt [1, 1, 0, 1, 0, 0, 1, 1, 0, 0] B10) s H) := at_block (by kernel_rfl) rfl s H
@[simp] theorem n10_18 (s : List V) (H : Heap) : evCode P Γ call n f m (cAt [1, 1, 0, 1, 0, 0, 1, 1, 0, 0] B10) s H = seqNext P Γ call n f m (cAt [1, 1, 0, 1, 0, 0, 1, 1, 0, 0, 1] B10) (evCode P Γ call n f m (cAt [1, 1, 0, 1, 0, 0, 1, 1, 0, 0, 0] B10) s H) := at_seq (by kernel_rfl) rfl rfl s H
noncomputable def r10_19 : {l : List Oper // opsOf (cAt [1, 1, 0, 1, 0, 0, 1, 1, 0, 0, 0] B10) = l} := by
  apply Subtype.mk
  dsimp only [opsOf, cAt, kids, B10, bodyOf, Try.f10, List.getD, List.getElem?_cons_zero, List.getElem?_cons_succ, Option.getD_some]
@[simp] theorem n10_19 (s : List V) (H : Heap) : evCode P Γ call n f m (cAt [1, 1, 0, 1, 0, 0, 1, 1, 0, 0, 0] B10) s H = regNext (evOpsGo P Γ call r10_19.1 r10_19.1 s H) := at_region (by kernel_rfl) r10_19.2 s H
attribute [simp] r10_19
noncomputable def r10_20 : {l : List Oper // opsOf (cAt [1, 1, 0, 1, 0, 0, 1, 1, 0, 0, 1] B10) = l} := by
  apply Subtype.mk
  dsimp only [opsOf, cAt, kids, B10, bodyOf, Try.f10, List.getD, List.getElem?_cons_zero, List.getElem?_cons_succ, Option.getD_some]
@[simp] theorem n10_20 (s : List V) (H : Heap) : evCode P Γ call n f m (cAt [1, 1, 0, 1, 0, 0, 1, 1, 0, 0, 1] B10) s H = regNext (evOpsGo P Γ call r10_20.1 r10_20.1 s H) := at_region (by kernel_rfl) r10_20.2 s H
attribute [simp] r10_20
noncomputable def r10_21 : {l : List Oper // opsOf (cAt [1, 1, 0, 1, 0, 0, 1, 1, 1] B10) = l} := by
  apply Subtype.mk
  dsimp only [opsOf, cAt, kids, B10, bodyOf, Try.f10, List.getD, List.getElem?_cons_zero, List.getElem?_cons_succ, Option.getD_some]
@[simp] theorem n10_21 (s : List V) (H : Heap) : evCode P Γ call n f m (cAt [1, 1, 0, 1, 0, 0, 1, 1, 1] B10) s H = regNext (evOpsGo P Γ call r10_21.1 r10_21.1 s H) := at_region (by kernel_rfl) r10_21.2 s H
attribute [simp] r10_21
@[simp] theorem n10_22 (s : List V) (H : Heap) : evCode P Γ call n f m (cAt [1, 1, 1] B10) s H = seqNext P Γ call n f m (cAt [1, 1, 1, 1] B10) (evCode P Γ call n f m (cAt [1, 1, 1, 0] B10) s H) := at_seq (by kernel_rfl) rfl rfl s H
noncomputable def r10_23 : {l : List Oper // opsOf (cAt [1, 1, 1, 0] B10) = l} := by
  apply Subtype.mk
  dsimp only [opsOf, cAt, kids, B10, bodyOf, Try.f10, List.getD, List.getElem?_cons_zero, List.getElem?_cons_succ, Option.getD_some]
@[simp] theorem n10_23 (s : List V) (H : Heap) : evCode P Γ call n f m (cAt [1, 1, 1, 0] B10) s H = regNext (evOpsGo P Γ call r10_23.1 r10_23.1 s H) := at_region (by kernel_rfl) r10_23.2 s H
attribute [simp] r10_23
@[simp] theorem n10_24 (s : List V) (H : Heap) : evCode P Γ call n f m (cAt [1, 1, 1, 1] B10) s H = seqNext P Γ call n f m (cAt [1, 1, 1, 1, 1] B10) (evCode P Γ call n f m (cAt [1, 1, 1, 1, 0] B10) s H) := at_seq (by kernel_rfl) rfl rfl s H
noncomputable def r10_25 : {l : List Oper // opsOf (cAt [1, 1, 1, 1, 0] B10) = l} := by
  apply Subtype.mk
  dsimp only [opsOf, cAt, kids, B10, bodyOf, Try.f10, List.getD, List.getElem?_cons_zero, List.getElem?_cons_succ, Option.getD_some]
@[simp] theorem n10_25 (s : List V) (H : Heap) : evCode P Γ call n f m (cAt [1, 1, 1, 1, 0] B10) s H = regNext (evOpsGo P Γ call r10_25.1 r10_25.1 s H) := at_region (by kernel_rfl) r10_25.2 s H
attribute [simp] r10_25
@[simp] theorem n10_26 (s : List V) (H : Heap) : evCode P Γ call n f m (cAt [1, 1, 1, 1, 1] B10) s H = some (.ret, s, H) := at_ret (by kernel_rfl) s H
theorem b10 {k : Nat} (ho : ∀ args H, Γ.orc 10 args H = none) (args : List V) (H : Heap) (ha : args.length ≤ 22) : evF Try.prog Γ (k + 1) 10 args H = bodyEnd Try.prog [.tmp 2] H.length (evCode Try.prog Γ (evF Try.prog Γ k) k 10 H.length (cAt [] B10) (mkL 22 V.undef (enumV 0 args)) H) := body_at Try.func10 (by decide) rfl ho rfl rfl args H ha
noncomputable def B11 : Code := bodyOf Try.f11
@[simp] theorem n11_1 (s : List V) (H : Heap) : evCode P Γ call n f m (cAt [] B11) s H = seqNext P Γ call n f m (cAt [1] B11) (evCode P Γ call n f m (cAt [0] B11) s H) := at_seq (by kernel_rfl) rfl rfl s H
noncomputable def r11_2 : {l : List Oper // opsOf (cAt [0] B11) = l} := by
  apply Subtype.mk
  dsimp only [opsOf, cAt, kids, B11, bodyOf, Try.f11, List.getD, List.getElem?_cons_zero, List.getElem?_cons_succ, Option.getD_some]
@[simp] theorem n11_2 (s : List V) (H : Heap) : evCode P Γ call n f m (cAt [0] B11) s H = regNext (evOpsGo P Γ call r11_2.1 r11_2.1 s H) := at_region (by kernel_rfl) r11_2.2 s H
attribute [simp] r11_2
@[simp] theorem n11_3 (s : List V) (H : Heap) : evCode P Γ call n f m (cAt [1] B11) s H = seqNext P Γ call n f m (cAt [1, 1] B11) (evCode P Γ call n f m (cAt [1, 0] B11) s H) := at_seq (by kernel_rfl) rfl rfl s H
noncomputable def r11_4 : {l : List Oper // opsOf (cAt [1, 0] B11) = l} := by
  apply Subtype.mk
  dsimp only [opsOf, cAt, kids, B11, bodyOf, Try.f11, List.getD, List.getElem?_cons_zero, List.getElem?_cons_succ, Option.getD_some]
@[simp] theorem n11_4 (s : List V) (H : Heap) : evCode P Γ call n f m (cAt [1, 0] B11) s H = regNext (evOpsGo P Γ call r11_4.1 r11_4.1 s H) := at_region (by kernel_rfl) r11_4.2 s H
attribute [simp] r11_4
@[simp] theorem n11_5 (s : List V) (H : Heap) : evCode P Γ call n f m (cAt [1, 1] B11) s H = seqNext P Γ call n f m (cAt [1, 1, 1] B11) (evCode P Γ call n f m (cAt [1, 1, 0] B11) s H) := at_seq (by kernel_rfl) rfl rfl s H
@[simp] theorem n11_6 (s : List V) (H : Heap) : evCode P Γ call n f m (cAt [1, 1, 0] B11) s H = seqNext P Γ call n f m (cAt [1, 1, 0, 1] B11) (evCode P Γ call n f m (cAt [1, 1, 0, 0] B11) s H) := at_seq (by kernel_rfl) rfl rfl s H
noncomputable def r11_7 : {l : List Oper // opsOf (cAt [1, 1, 0, 0] B11) = l} := by
  apply Subtype.mk
  dsimp only [opsOf, cAt, kids, B11, bodyOf, Try.f11, List.getD, List.getElem?_cons_zero, List.getElem?_cons_succ, Option.getD_some]
@[simp] theorem n11_7 (s : List V) (H : Heap) : evCode P Γ call n f m (cAt [1, 1, 0, 0] B11) s H = regNext (evOpsGo P Γ call r11_7.1 r11_7.1 s H) := at_region (by kernel_rfl) r11_7.2 s H
attribute [simp] r11_7
@[simp] theorem n11_8 (s : List V) (H : Heap) : evCode P Γ call n f m (cAt [1, 1, 0, 1] B11) s H = blockNext 0 (evCode P Γ call n f m (cAt [1, 1, 0, 1, 0] B11) s H) := at_block (by kernel_rfl) rfl s H
@[simp] theorem n11_9 (s : List V) (H : Heap) : evCode P Γ call n f m (cAt [1, 1, 0, 1, 0] B11) s H = evLoopC P Γ call n f m (cAt [1, 1, 0, 1, 0, 0] B11) n s H := at_loop (by kernel_rfl) rfl s H
noncomputable abbrev L11_3 : Code := cAt [1, 1, 0, 1, 0, 0] B11
@[simp] theorem n11_9f : firstRegion (cAt [1, 1, 0, 1, 0, 0] B11) = 3 := by kernel_rfl
@[simp] theorem n11_10 (s : List V) (H : Heap) : evCode P Γ call n f m (cAt [1, 1, 0, 1, 0, 0] B11) s H = seqNext P Γ call n f m (cAt [1, 1, 0, 1, 0, 0, 1] B11) (evCode P Γ call n f m (cAt [1, 1, 0, 1, 0, 0, 0] B11) s H) := at_seq (by kernel_rfl) rfl rfl s H
noncomputable def r11_11 : {l : List Oper // opsOf (cAt [1, 1, 0, 1, 0, 0, 0] B11) = l} := by
  apply Subtype.mk
  dsimp only [opsOf, cAt, kids, B11, bodyOf, Try.f11, List.getD, List.getElem?_cons_zero, List.getElem?_cons_succ, Option.getD_some]
@[simp] theorem n11_11 (s : List V) (H : Heap) : evCode P Γ call n f m (cAt [1, 1, 0, 1, 0, 0, 0] B11) s H = regNext (evOpsGo P Γ call r11_11.1 r11_11.1 s H) := at_region (by kernel_rfl) r11_11.2 s H
attribute [simp] r11_11
@[simp] theorem n11_12 (s : List V) (H : Heap) : evCode P Γ call n f m (cAt [1, 1, 0, 1, 0, 0, 1] B11) s H = seqNext P Γ call n f m (cAt [1, 1, 0, 1, 0, 0, 1, 1] B11) (evCode P Γ call n f m (cAt [1, 1, 0, 1, 0, 0, 1, 0] B11) s H) := at_seq (by kernel_rfl) rfl rfl s H
@[simp] theorem n11_13 (s : List V) (H : Heap) : evCode P Γ call n f m (cAt [1, 1, 0, 1, 0, 0, 1, 0] B11) s H = condW P Γ call n f m (cAt [1, 1, 0, 1, 0, 0, 1, 0, 0] B11) (cAt [1, 1, 0, 1, 0, 0, 1, 0, 1] B11) s H (evOperand Γ s (.tmp 10)) := at_cond (by kernel_rfl) (by kernel_rfl) rfl rfl s H
@[simp] theorem n11_14 (s : List V) (H : Heap) : evCode P Γ call n f m (cAt [1, 1, 0, 1, 0, 0, 1, 0, 0] B11) s H = some (.normal, s, H) := at_skip (by kernel_rfl) s H
@[simp] theorem n11_15 (s : List V) (H : Heap) : evCode P Γ call n f m (cAt [1, 1, 0, 1, 0, 0, 1, 0, 1] B11) s H = some (.exit 0, s, H) := at_exit (by kernel_rfl) s H
@[simp] theorem n11_16 (s : List V) (H : Heap) : evCode P Γ call n f m (cAt [1, 1, 0, 1, 0, 0, 1, 1] B11) s H = seqNext P Γ call n f m (cAt [1, 1, 0, 1, 0, 0, 1, 1, 1] B11) (evCode P Γ call n f m (cAt [1, 1, 0, 1, 0, 0, 1, 1, 0] B11) s H) := at_seq (by kernel_rfl) rfl rfl s H
@[simp] theorem n11_17 (s : List V) (H : Heap) : evCode P Γ call n f m (cAt [1, 1, 0, 1, 0, 0, 1, 1, 0] B11) s H = blockNext 1 (evCode P Γ call n f m (cAt [1, 1, 0, 1, 0, 0, 1, 1, 0, 0] B11) s H) := at_block (by kernel_rfl) rfl s H
@[simp] theorem n11_18 (s : List V) (H : Heap) : evCode P Γ call n f m (cAt [1, 1, 0, 1, 0, 0, 1, 1, 0, 0] B11) s H = seqNext P Γ call n f m (cAt [1, 1, 0, 1, 0, 0, 1, 1, 0, 0, 1] B11) (evCode P Γ call n f m (cAt [1, 1, 0, 1, 0, 0, 1, 1, 0, 0, 0] B11) s H) := at_seq (by kernel_rfl) rfl rfl s H
noncomputable def r11_19 : {l : List Oper // opsOf (cAt [1, 1, 0, 1, 0, 0, 1, 1, 0, 0, 0] B11) = l} := by
  apply Subtype.mk
  dsimp only [opsOf, cAt, kids, B11, bodyOf, Try.f11, List.getD, List.getElem?_cons_zero, List.getElem?_cons_succ, Option.getD_some]
@[simp] theorem n11_19 (s : List V) (H : Heap) : evCode P Γ call n f m (cAt [1, 1, 0, 1, 0, 0, 1, 1, 0, 0, 0] B11) s H = regNext (evOpsGo P Γ call r11_19.1 r11_19.1 s H) := at_region (by kernel_rfl) r11_19.2 s H
attribute [simp] r11_19
@[simp] theorem n11_20 (s : List V) (H : Heap) : evCode P Γ call n f m (cAt [1, 1, 0, 1, 0, 0, 1, 1, 0, 0, 1] B11) s H = seqNext P Γ call n f m (cAt [1, 1, 0, 1, 0, 0, 1, 1, 0, 0, 1, 1] B11) (evCode P Γ call n f m (cAt [1, 1, 0, 1, 0, 0, 1, 1, 0, 0, 1, 0] B11) s H) := at_seq (by kernel_rfl) rfl rfl s H
noncomputable def r11_21 : {l : List Oper // opsOf (cAt [1, 1, 0, 1, 0, 0, 1, 1, 0, 0, 1, 0] B11) = l} := by
  apply Subtype.mk
  dsimp only [opsOf, cAt, kids, B11, bodyOf, Try.f11, List.getD, List.getElem?_cons_zero, List.getElem?_cons_succ, Option.getD_some]
@[simp] theorem n11_21 (s : List V) (H : Heap) : evCode P Γ call n f m (cAt [1, 1, 0, 1, 0, 0, 1, 1, 0, 0, 1, 0] B11) s H = regNext (evOpsGo P Γ call r11_21.1 r11_21.1 s H) := at_region (by kernel_rfl) r11_21.2 s H
attribute [simp] r11_21
@[simp] theorem n11_22 (s : List V) (H : Heap) : evCode P Γ call n f m (cAt [1, 1, 0, 1, 0, 0, 1, 1, 0, 0, 1, 1] B11) s H = seqNext P Γ call n f m (cAt [1, 1, 0, 1, 0, 0, 1, 1, 0, 0, 1, 1, 1] B11) (evCode P Γ call n f m (cAt [1, 1, 0, 1, 0, 0, 1, 1, 0, 0, 1, 1, 0] B11) s H) := at_seq (by kernel_rfl) rfl rfl s H
@[simp] theorem n11_23 (s : List V) (H : Heap) : evCode P Γ call n f m (cAt [1, 1, 0, 1, 0, 0, 1, 1, 0, 0, 1, 1, 0] B11) s H = blockNext 2 (evCode P Γ call n f m (cAt [1, 1, 0, 1, 0, 0, 1, 1, 0, 0, 1, 1, 0, 0] B11) s H) := at_block (by kernel_rfl) rfl s H
@[simp] theorem n11_24 (s : List V) (H : Heap) : evCode P Γ call n f m (cAt [1, 1, 0, 1, 0, 0, 1, 1, 0, 0, 1, 1, 0, 0] B11) s H = evLoopC P Γ call n f m (cAt [1, 1, 0, 1, 0, 0, 1, 1, 0, 0, 1, 1, 0, 0, 0] B11) n s H := at_loop (by kernel_rfl) rfl s H
noncomputable abbrev L11_6 : Code := cAt [1, 1, 0, 1, 0, 0, 1, 1, 0, 0, 1, 1, 0, 0, 0] B11
@[simp] theorem n11_24f : firstRegion (cAt [1, 1, 0, 1, 0, 0, 1, 1, 0, 0, 1, 1, 0, 0, 0] B11) = 6 := by kernel_rfl
@[simp] theorem n11_25 (s : List V) (H : Heap) : evCode P Γ call n f m (cAt [1, 1, 0, 1, 0, 0, 1, 1, 0, 0, 1, 1, 0, 0, 0] B11) s H = seqNext P Γ call n f m (cAt [1, 1, 0, 1, 0, 0, 1, 1, 0, 0, 1, 1, 0, 0, 0, 1] B11) (evCode P Γ call n f m (cAt [1, 1, 0, 1, 0, 0, 1, 1, 0, 0, 1, 1, 0, 0, 0, 0] B11) s H) := at_seq (by kernel_rfl) rfl rfl s H
@[simp] theorem n11_26 (s : List V) (H : Heap) : evCode P Γ call n f m (cAt [1, 1, 0, 1, 0, 0, 1, 1, 0, 0, 1, 1, 0, 0, 0, 0] B11) s H = seqNext P Γ call n f m (cAt [1, 1, 0, 1, 0, 0, 1, 1, 0, 0, 1, 1, 0, 0, 0, 0, 1] B11) (evCode P Γ call n f m (cAt [1, 1, 0, 1, 0, 0, 1, 1, 0, 0, 1, 1, 0, 0, 0, 0, 0] B11) s H) := at_seq (by kernel_rfl) rfl rfl s H
noncomputable def r11_27 : {l : List Oper // opsOf (cAt [1, 1, 0, 1, 0, 0, 1, 1, 0, 0, 1, 1, 0, 0, 0, 0, 0] B11) = l} := by
  apply Subtype.mk
  dsimp only [opsOf, cAt, kids, B11, bodyOf, Try.f11, List.getD, List.getElem?_cons_zero, List.getElem?_cons_succ, Option.getD_some]
@[simp] theorem n11_27 (s : List V) (H : Heap) : evCode P Γ call n f m (cAt [1, 1, 0, 1, 0, 0, 1, 1, 0, 0, 1, 1, 0, 0, 0, 0, 0] B11) s H = regNext (drawR P Γ call r11_27.1 [([1, 2], [14, 15]), ([0], [13]), ([0], [13]), ([], []), ([], []), ([6, 9, 10], [19, 22, 23]), ([5, 9, 10], [18, 22, 23]), ([9, 10], [22, 23]), ([9, 10], [22, 23]), ([5, 6, 7, 8], [18, 19, 20, 21]), ([5, 6, 7, 8], [18, 19, 20, 21]), ([], []), ([], [])] s H) := at_drawT (by kernel_rfl) r11_27.2 (by kernel_rfl) s H
attribute [simp] r11_27
@[simp] theorem n11_28 (s : List V) (H : Heap) : evCode P Γ call n f m (cAt [1, 1, 0, 1, 0, 0, 1, 1, 0, 0, 1, 1, 0, 0, 0, 0, 1] B11) s H = condW P Γ call n f m (cAt [1, 1, 0, 1, 0, 0, 1, 1, 0, 0, 1, 1, 0, 0, 0, 0, 1, 0] B11) (cAt [1, 1, 0, 1, 0, 0, 1, 1, 0, 0, 1, 1, 0, 0, 0, 0, 1, 1] B11) s H (evOperand Γ s (.tmp 25)) := at_cond (by kernel_rfl) (by kernel_rfl) rfl rfl s H
@[simp] theorem n11_29 (s : List V) (H : Heap) : evCode P Γ call n f m (cAt [1, 1, 0, 1, 0, 0, 1, 1, 0, 0, 1, 1, 0, 0, 0, 0, 1, 0] B11) s H = some (.normal, s, H) := at_skip (by kernel_rfl) s H
@[simp] theorem n11_30 (s : List V) (H : Heap) : evCode P Γ call n f m (cAt [1, 1, 0, 1, 0, 0, 1, 1, 0, 0, 1, 1, 0, 0, 0, 0, 1, 1] B11) s H = some (.exit 2, s, H) := at_exit (by kernel_rfl) s H
@[simp] theorem n11_31 (s : List V) (H : Heap) : evCode P Γ call n f m (cAt [1, 1, 0, 1, 0, 0, 1, 1, 0, 0, 1, 1, 0, 0, 0, 1] B11) s H = blockNext 3 (evCode P Γ call n f m (cAt [1, 1, 0, 1, 0, 0, 1, 1, 0, 0, 1, 1, 0, 0, 0, 1, 0] B11) s H) := at_block (by kernel_rfl) rfl s H
noncomputable def r11_32 : {l : List Oper // opsOf (cAt [1, 1, 0, 1, 0, 0, 1, 1, 0, 0, 1, 1, 0, 0, 0, 1, 0] B11) = l} := by
  apply Subtype.mk
  dsimp only [opsOf, cAt, kids, B11, bodyOf, Try.f11, List.getD, List.getElem?_cons_zero, List.getElem?_cons_succ, Option.getD_some]
@[simp] theorem n11_32 (s : List V) (H : Heap) : evCode P Γ call n f m (cAt [1, 1, 0, 1, 0, 0, 1, 1, 0, 0, 1, 1, 0, 0, 0, 1, 0] B11) s H = regNext (evOpsGo P Γ call r11_32.1 r11_32.1 s H) := at_region (by kernel_rfl) r11_32.2 s H
attribute [simp] r11_32
@[simp] theorem n11_33 (s : List V) (H : Heap) : evCode P Γ call n f m (cAt [1, 1, 0, 1, 0, 0, 1, 1, 0, 0, 1, 1, 1] B11) s H = seqNext P Γ call n f m (cAt [1, 1, 0, 1, 0, 0, 1, 1, 0, 0, 1, 1, 1, 1] B11) (evCode P Γ call n f m (cAt [1, 1, 0, 1, 0, 0, 1, 1, 0, 0, 1, 1, 1, 0] B11) s H) := at_seq (by kernel_rfl) rfl rfl s H
noncomputable def r11_34 : {l : List Oper // opsOf (cAt [1, 1, 0, 1, 0, 0, 1, 1, 0, 0, 1, 1, 1, 0] B11) = l} := by
  apply Subtype.mk
  dsimp only [opsOf, cAt, kids, B11, bodyOf, Try.f11, List.getD, List.getElem?_cons_zero, List.getElem?_cons_succ, Option.getD_some]
@[simp] theorem n11_34 (s : List V) (H : Heap) : evCode P Γ call n f m (cAt [1, 1, 0, 1, 0, 0, 1, 1, 0, 0, 1, 1, 1, 0] B11) s H = regNext (drawR P Γ call r11_34.1 [([1, 2], [29, 30]), ([0], [28]), ([0], [28]), ([], []), ([], []), ([6, 9, 10], [34, 37, 38]), ([5, 9, 10], [33, 37, 38]), ([9, 10], [37, 38]), ([9, 10], [37, 38]), ([5, 6, 7, 8], [33, 34, 35, 36]), ([5, 6, 7, 8], [33, 34, 35, 36]), ([], []), ([], [])] s H) := at_drawT (by kernel_rfl) r11_34.2 (by kernel_rfl) s H
attribute [simp] r11_34
@[simp] theorem n11_35 (s : List V) (H : Heap) : evCode P Γ call n f m (cAt [1, 1, 0, 1, 0, 0, 1, 1, 0, 0, 1, 1, 1, 1] B11) s H = condW P Γ call n f m (cAt [1, 1, 0, 1, 0, 0, 1, 1, 0, 0, 1, 1, 1, 1, 0] B11) (cAt [1, 1, 0, 1, 0, 0, 1, 1, 0, 0, 1, 1, 1, 1, 1] B11) s H (evOperand Γ s (.tmp 40)) := at_cond (by kernel_rfl) (by kernel_rfl) rfl rfl s H
noncomputable def r11_36 : {l : List Oper // opsOf (cAt [1, 1, 0, 1, 0, 0, 1, 1, 0, 0, 1, 1, 1, 1, 0] B11) = l} := by
  apply Subtype.mk
  dsimp only [opsOf, cAt, kids, B11, bodyOf, Try.f11, List.getD, List.getElem?_cons_zero, List.getElem?_cons_succ, Option.getD_some]
@[simp] theorem n11_36 (s : List V) (H : Heap) : evCode P Γ call n f m (cAt [1, 1, 0, 1, 0, 0, 1, 1, 0, 0, 1, 1, 1, 1, 0] B11) s H = regNext (evOpsGo P Γ call r11_36.1 r11_36.1 s H) := at_region (by kernel_rfl) r11_36.2 s H
attribute [simp] r11_36
@[simp] theorem n11_37 (s : List V) (H : Heap) : evCode P Γ call n f m (cAt [1, 1, 0, 1, 0, 0, 1, 1, 0, 0, 1, 1, 1, 1, 1] B11) s H = some (.normal, s, H) := at_skip (by kernel_rfl) s H
noncomputable def r11_38 : {l : List Oper // opsOf (cAt [1, 1, 0, 1, 0, 0, 1, 1, 1] B11) = l} := by
  apply Subtype.mk
  dsimp only [opsOf, cAt, kids, B11, bodyOf, Try.f11, List.getD, List.getElem?_cons_zero, List.getElem?_cons_succ, Option.getD_some]
@[simp] theorem n11_38 (s : List V) (H : Heap) : evCode P Γ call n f m (cAt [1, 1, 0, 1, 0, 0, 1, 1, 1] B11) s H = regNext (evOpsGo P Γ call r11_38.1 r11_38.1 s H) := at_region (by kernel_rfl) r11_38.2 s H
attribute [simp] r11_38
@[simp] theorem n11_39 (s : List V) (H : Heap) : evCode P Γ call n f m (cAt [1, 1, 1] B11) s H = seqNext P Γ call n f m (cAt [1, 1, 1, 1] B11) (evCode P Γ call n f m (cAt [1, 1, 1, 0] B11) s H) := at_seq (by kernel_rfl) rfl rfl s H
noncomputable def r11_40 : {l : List Oper // opsOf (cAt [1, 1, 1, 0] B11) = l} := by
  apply Subtype.mk
  dsimp only [opsOf, cAt, kids, B11, bodyOf, Try.f11, List.getD, List.getElem?_cons_zero, List.getElem?_cons_succ, Option.getD_some]
@[simp] theorem n11_40 (s : List V) (H : Heap) : evCode P Γ call n f m (cAt [1, 1, 1, 0] B11) s H = regNext (evOpsGo P Γ call r11_40.1 r11_40.1 s H) := at_region (by kernel_rfl) r11_40.2 s H
attribute [simp] r11_40
@[simp] theorem n11_41 (s : List V) (H : Heap) : evCode P Γ call n f m (cAt [1, 1, 1, 1] B11) s H = some (.ret, s, H) := at_ret (by kernel_rfl) s H
theorem b11 {k : Nat} (ho : ∀ args H, Γ.orc 11 args H = none) (args : List V) (H : Heap) (ha : args.length ≤ 49) : evF Try.prog Γ (k + 1) 11 args H = bodyEnd Try.prog [.tmp 2] H.length (evCode Try.prog Γ (evF Try.prog Γ k) k 11 H.length (cAt [] B11) (mkL 49 V.undef (enumV 0 args)) H) := body_at Try.func11 (by decide) rfl ho rfl rfl args H ha
noncomputable def B12 : Code := bodyOf Try.f12
@[simp] theorem n12_1 (s : List V) (H : Heap) : evCode P Γ call n f m (cAt [] B12) s H = seqNext P Γ call n f m (cAt [1] B12) (evCode P Γ call n f m (cAt [0] B12) s H) := at_seq (by kernel_rfl) rfl rfl s H
noncomputable def r12_2 : {l : List Oper // opsOf (cAt [0] B12) = l} := by
  apply Subtype.mk
  dsimp only [opsOf, cAt, kids, B12, bodyOf, Try.f12, List.getD, List.getElem?_cons_zero, List.getElem?_cons_succ, Option.getD_some]
@[simp] theorem n12_2 (s : List V) (H : Heap) : evCode P Γ call n f m (cAt [0] B12) s H = regNext (evOpsGo P Γ call r12_2.1 r12_2.1 s H) := at_region (by kernel_rfl) r12_2.2 s H
attribute [simp] r12_2
@[simp] theorem n12_3 (s : List V) (H : Heap) : evCode P Γ call n f m (cAt [1] B12) s H = seqNext P Γ call n f m (cAt [1, 1] B12) (evCode P Γ call n f m (cAt [1, 0] B12) s H) := at_seq (by kernel_rfl) rfl rfl s H
@[simp] theorem n12_4 (s : List V) (H : Heap) : evCode P Γ call n f m (cAt [1, 0] B12) s H = seqNext P Γ call n f m (cAt [1, 0, 1] B12) (evCode P Γ call n f m (cAt [1, 0, 0] B12) s H) := at_seq (by kernel_rfl) rfl rfl s H
noncomputable def r12_5 : {l : List Oper // opsOf (cAt [1, 0, 0] B12) = l} := by
  apply Subtype.mk
  dsimp only [opsOf, cAt, kids, B12, bodyOf, Try.f12, List.getD, List.getElem?_cons_zero, List.getElem?_cons_succ, Option.getD_some]
@[simp] theorem n12_5 (s : List V) (H : Heap) : evCode P Γ call n f m (cAt [1, 0, 0] B12) s H = regNext (evOpsGo P Γ call r12_5.1 r12_5.1 s H) := at_region (by kernel_rfl) r12_5.2 s H
attribute [simp] r12_5
@[simp] theorem n12_6 (s : List V) (H : Heap) : evCode P Γ call n f m (cAt [1, 0, 1] B12) s H = condW P Γ call n f m (cAt [1, 0, 1, 0] B12) (cAt [1, 0, 1, 1] B12) s H (evOperand Γ s (.tmp 22)) := at_cond (by kernel_rfl) (by kernel_rfl) rfl rfl s H
@[simp] theorem n12_7 (s : List V) (H : Heap) : evCode P Γ call n f m (cAt [1, 0, 1, 0] B12) s H = seqNext P Γ call n f m (cAt [1, 0, 1, 0, 1] B12) (evCode P Γ call n f m (cAt [1, 0, 1, 0, 0] B12) s H) := at_seq (by kernel_rfl) rfl rfl s H
noncomputable def r12_8 : {l : List Oper // opsOf (cAt [1, 0, 1, 0, 0] B12) = l} := by
  apply Subtype.mk
  dsimp only [opsOf, cAt, kids, B12, bodyOf, Try.f12, List.getD, List.getElem?_cons_zero, List.getElem?_cons_succ, Option.getD_some]
@[simp] theorem n12_8 (s : List V) (H : Heap) : evCode P Γ call n f m (cAt [1, 0, 1, 0, 0] B12) s H = regNext (evOpsGo P Γ call r12_8.1 r12_8.1 s H) := at_region (by kernel_rfl) r12_8.2 s H
attribute [simp] r12_8
@[simp] theorem n12_9 (s : List V) (H : Heap) : evCode P Γ call n f m (cAt [1, 0, 1, 0, 1] B12) s H = some (.ret, s, H) := at_ret (by kernel_rfl) s H
@[simp] theorem n12_10 (s : List V) (H : Heap) : evCode P Γ call n f m (cAt [1, 0, 1, 1] B12) s H = some (.normal, s, H) := at_skip (by kernel_rfl) s H
@[simp] theorem n12_11 (s : List V) (H : Heap) : evCode P Γ call n f m (cAt [1, 1] B12) s H = seqNext P Γ call n f m (cAt [1, 1, 1] B12) (evCode P Γ call n f m (cAt [1, 1, 0] B12) s H) := at_seq (by kernel_rfl) rfl rfl s H
@[simp] theorem n12_12 (s : List V) (H : Heap) : evCode P Γ call n f m (cAt [1, 1, 0] B12) s H = seqNext P Γ call n f m (cAt [1, 1, 0, 1] B12) (evCode P Γ call n f m (cAt [1, 1, 0, 0] B12) s H) := at_seq (by kernel_rfl) rfl rfl s H
noncomputable def r12_13 : {l : List Oper // opsOf (cAt [1, 1, 0, 0] B12) = l} := by
  apply Subtype.mk
  dsimp only [opsOf, cAt, kids, B12, bodyOf, Try.f12, List.getD, List.getElem?_cons_zero, List.getElem?_cons_succ, Option.getD_some]
@[simp] theorem n12_13 (s : List V) (H : Heap) : evCode P Γ call n f m (cAt [1, 1, 0, 0] B12) s H = regNext (evOpsGo P Γ call r12_13.1 r12_13.1 s H) := at_region (by kernel_rfl) r12_13.2 s H
attribute [simp] r12_13
@[simp] theorem n12_14 (s : List V) (H : Heap) : evCode P Γ call n f m (cAt [1, 1, 0, 1] B12) s H = blockNext 0 (evCode P Γ call n f m (cAt [1, 1, 0, 1, 0] B12) s H) := at_block (by kernel_rfl) rfl s H
@[simp] theorem n12_15 (s : List V) (H : Heap) : evCode P Γ call n f m (cAt [1, 1, 0, 1, 0] B12) s H = evLoopC P Γ call n f m (cAt [1, 1, 0, 1, 0, 0] B12) n s H := at_loop (by kernel_rfl) rfl s H
noncomputable abbrev L12_4 : Code := cAt [1, 1, 0, 1, 0, 0] B12
@[simp] theorem n12_15f : firstRegion (cAt [1, 1, 0, 1, 0, 0] B12) = 4 := by kernel_rfl
@[simp] theorem n12_16 (s : List V) (H : Heap) : evCode P Γ call n f m (cAt [1, 1, 0, 1, 0, 0] B12) s H = seqNext P Γ call n f m (cAt [1, 1, 0, 1, 0, 0, 1] B12) (evCode P Γ call n f m (cAt [1, 1, 0, 1, 0, 0, 0] B12) s H) := at_seq (by kernel_rfl) rfl rfl s H
noncomputable def r12_17 : {l : List Oper // opsOf (cAt [1, 1, 0, 1, 0, 0, 0] B12) = l} := by
  apply Subtype.mk
  dsimp only [opsOf, cAt, kids, B12, bodyOf, Try.f12, List.getD, List.getElem?_cons_zero, List.getElem?_cons_succ, Option.getD_some]
@[simp] theorem n12_17 (s : List V) (H : Heap) : evCode P Γ call n f m (cAt [1, 1, 0, 1, 0, 0, 0] B12) s H = regNext (evOpsGo P Γ call r12_17.1 r12_17.1 s H) := at_region (by kernel_rfl) r12_17.2 s H
attribute [simp] r12_17
@[simp] theorem n12_18 (s : List V) (H : Heap) : evCode P Γ call n f m (cAt [1, 1, 0, 1, 0, 0, 1] B12) s H = seqNext P Γ call n f m (cAt [1, 1, 0, 1, 0, 0, 1, 1] B12) (evCode P Γ call n f m (cAt [1, 1, 0, 1, 0, 0, 1, 0] B12) s H) := at_seq (by kernel_rfl) rfl rfl s H
@[simp] theorem n12_19 (s : List V) (H : Heap) : evCode P Γ call n f m (cAt [1, 1, 0, 1, 0, 0, 1, 0] B12) s H = condW P Γ call n f m (cAt [1, 1, 0, 1, 0, 0, 1, 0, 0] B12) (cAt [1, 1, 0, 1, 0, 0, 1, 0, 1] B12) s H (evOperand Γ s (.tmp 26)) := at_cond (by kernel_rfl) (by kernel_rfl) rfl rfl s H
@[simp] theorem n12_20 (s : List V) (H : Heap) : evCode P Γ call n f m (cAt [1, 1, 0, 1, 0, 0, 1, 0, 0] B12) s H = some (.normal, s, H) := at_skip (by kernel_rfl) s H
@[simp] theorem n12_21 (s : List V) (H : Heap) : evCode P Γ call n f m (cAt [1, 1, 0, 1, 0, 0, 1, 0, 1] B12) s H = some (.exit 0, s, H) := at_exit (by kernel_rfl) s H
@[simp] theorem n12_22 (s : List V) (H : Heap) : evCode P Γ call n f m (cAt [1, 1, 0, 1, 0, 0, 1, 1] B12) s H = seqNext P Γ call n f m (cAt [1, 1, 0, 1, 0, 0, 1, 1, 1] B12) (evCode P Γ call n f m (cAt [1, 1, 0, 1, 0, 0, 1, 1, 0] B12) s H) := at_seq (by kernel_rfl) rfl rfl s H
@[simp] theorem n12_23 (s : List V) (H : Heap) : evCode P Γ call n f m (cAt [1, 1, 0, 1, 0, 0, 1, 1, 0] B12) s H = blockNext 1 (evCode P Γ call n f m (cAt [1, 1, 0, 1, 0, 0, 1, 1, 0, 0] B12) s H) := at_block (by kernel_rfl) rfl s H
@[simp] theorem n12_24 (s : List V) (H : Heap) : evCode P Γ call n f m (cAt [1, 1, 0, 1, 0, 0, 1, 1, 0, 0] B12) s H = seqNext P Γ call n f m (cAt [1, 1, 0, 1, 0, 0, 1, 1, 0, 0, 1] B12) (evCode P Γ call n f m (cAt [1, 1, 0, 1, 0, 0, 1, 1, 0, 0, 0] B12) s H) := at_seq (by kernel_rfl) rfl rfl s H
noncomputable def r12_25 : {l : List Oper // opsOf (cAt [1, 1, 0, 1, 0, 0, 1, 1, 0, 0, 0] B12) = l} := by
  apply Subtype.mk
  dsimp only [opsOf, cAt, kids, B12, bodyOf, Try.f12, List.getD, List.getElem?_cons_zero, List.getElem?_cons_succ, Option.getD_some]
@[simp] theorem n12_25 (s : List V) (H : Heap) : evCode P Γ call n f m (cAt [1, 1, 0, 1, 0, 0, 1, 1, 0, 0, 0] B12) s H = regNext (evOpsGo P Γ call r12_25.1 r12_25.1 s H) := at_region (by kernel_rfl) r12_25.2 s H
attribute [simp] r12_25
@[simp] theorem n12_26 (s : List V) (H : Heap) : evCode P Γ call n f m (cAt [1, 1, 0, 1, 0, 0, 1, 1, 0, 0, 1] B12) s H = seqNext P Γ call n f m (cAt [1, 1, 0, 1, 0, 0, 1, 1, 0, 0, 1, 1] B12) (evCode P Γ call n f m (cAt [1, 1, 0, 1, 0, 0, 1, 1, 0, 0, 1, 0] B12) s H) := at_seq (by kernel_rfl) rfl rfl s H
@[simp] theorem n12_27 (s : List V) (H : Heap) : evCode P Γ call n f m (cAt [1, 1, 0, 1, 0, 0, 1, 1, 0, 0, 1, 0] B12) s H = seqNext P Γ call n f m (cAt [1, 1, 0, 1, 0, 0, 1, 1, 0, 0, 1, 0, 1] B12) (evCode P Γ call n f m (cAt [1, 1, 0, 1, 0, 0, 1, 1, 0, 0, 1, 0, 0] B12) s H) := at_seq (by kernel_rfl) rfl rfl s H
noncomputable def r12_28 : {l : List Oper // opsOf (cAt [1, 1, 0, 1, 0, 0, 1, 1, 0, 0, 1, 0, 0] B12) = l} := by
  apply Subtype.mk
  dsimp only [opsOf, cAt, kids, B12, bodyOf, Try.f12, List.getD, List.getElem?_cons_zero, List.getElem?_cons_succ, Option.getD_some]
@[simp] theorem n12_28 (s : List V) (H : Heap) : evCode P Γ call n f m (cAt [1, 1, 0, 1, 0, 0, 1, 1, 0, 0, 1, 0, 0] B12) s H = regNext (evOpsGo P Γ call r12_28.1 r12_28.1 s H) := at_region (by kernel_rfl) r12_28.2 s H
attribute [simp] r12_28
@[simp] theorem n12_29 (s : List V) (H : Heap) : evCode P Γ call n f m (cAt [1, 1, 0, 1, 0, 0, 1, 1, 0, 0, 1, 0, 1] B12) s H = condW P Γ call n f m (cAt [1, 1, 0, 1, 0, 0, 1, 1, 0, 0, 1, 0, 1, 0] B12) (cAt [1, 1, 0, 1, 0, 0, 1, 1, 0, 0, 1, 0, 1, 1] B12) s H (evOperand Γ s (.tmp 32)) := at_cond (by kernel_rfl) (by kernel_rfl) rfl rfl s H
@[simp] theorem n12_30 (s : List V) (H : Heap) : evCode P Γ call n f m (cAt [1, 1, 0, 1, 0, 0, 1, 1, 0, 0, 1, 0, 1, 0] B12) s H = seqNext P Γ call n f m (cAt [1, 1, 0, 1, 0, 0, 1, 1, 0, 0, 1, 0, 1, 0, 1] B12) (evCode P Γ call n f m (cAt [1, 1, 0, 1, 0, 0, 1, 1, 0, 0, 1, 0, 1, 0, 0] B12) s H) := at_seq (by kernel_rfl) rfl rfl s H
noncomputable def r12_31 : {l : List Oper // opsOf (cAt [1, 1, 0, 1, 0, 0, 1, 1, 0, 0, 1, 0, 1, 0, 0] B12) = l} := by
  apply Subtype.mk
  dsimp only [opsOf, cAt, kids, B12, bodyOf, Try.f12, List.getD, List.getElem?_cons_zero, List.getElem?_cons_succ, Option.getD_some]
@[simp] theorem n12_31 (s : List V) (H : Heap) : evCode P Γ call n f m (cAt [1, 1, 0, 1, 0, 0, 1, 1, 0, 0, 1, 0, 1, 0, 0] B12) s H = regNext (evOpsGo P Γ call r12_31.1 r12_31.1 s H) := at_region (by kernel_rfl) r12_31.2 s H
attribute [simp] r12_31
@[simp] theorem n12_32 (s : List V) (H : Heap) : evCode P Γ call n f m (cAt [1, 1, 0, 1, 0, 0, 1, 1, 0, 0, 1, 0, 1, 0, 1] B12) s H = some (.ret, s, H) := at_ret (by kernel_rfl) s H
@[simp] theorem n12_33 (s : List V) (H : Heap) : evCode P Γ call n f m (cAt [1, 1, 0, 1, 0, 0, 1, 1, 0, 0, 1, 0, 1, 1] B12) s H = some (.normal, s, H) := at_skip (by kernel_rfl) s H
@[simp] theorem n12_34 (s : List V) (H : Heap) : evCode P Γ call n f m (cAt [1, 1, 0, 1, 0, 0, 1, 1, 0, 0, 1, 1] B12) s H = seqNext P Γ call n f m (cAt [1, 1, 0, 1, 0, 0, 1, 1, 0, 0, 1, 1, 1] B12) (evCode P Γ call n f m (cAt [1, 1, 0, 1, 0, 0, 1, 1, 0, 0, 1, 1, 0] B12) s H) := at_seq (by kernel_rfl) rfl rfl s H
noncomputable def r12_35 : {l : List Oper // opsOf (cAt [1, 1, 0, 1, 0, 0, 1, 1, 0, 0, 1, 1, 0] B12) = l} := by
  apply Subtype.mk
  dsimp only [opsOf, cAt, kids, B12, bodyOf, Try.f12, List.getD, List.getElem?_cons_zero, List.getElem?_cons_succ, Option.getD_some]
@[simp] theorem n12_35 (s : List V) (H : Heap) : evCode P Γ call n f m (cAt [1, 1, 0, 1, 0, 0, 1, 1, 0, 0, 1, 1, 0] B12) s H = regNext (evOpsGo P Γ call r12_35.1 r12_35.1 s H) := at_region (by kernel_rfl) r12_35.2 s H
attribute [simp] r12_35
@[simp] theorem n12_36 (s : List V) (H : Heap) : evCode P Γ call n f m (cAt [1, 1, 0, 1, 0, 0, 1, 1, 0, 0, 1, 1, 1] B12) s H = condW P Γ call n f m (cAt [1, 1, 0, 1, 0, 0, 1, 1, 0, 0, 1, 1, 1, 0] B12) (cAt [1, 1, 0, 1, 0, 0, 1, 1, 0, 0, 1, 1, 1, 1] B12) s H (evOperand Γ s (.tmp 50)) := at_cond (by kernel_rfl) (by kernel_rfl) rfl rfl s H
@[simp] theorem n12_37 (s : List V) (H : Heap) : evCode P Γ call n f m (cAt [1, 1, 0, 1, 0, 0, 1, 1, 0, 0, 1, 1, 1, 0] B12) s H = seqNext P Γ call n f m (cAt [1, 1, 0, 1, 0, 0, 1, 1, 0, 0, 1, 1, 1, 0, 1] B12) (evCode P Γ call n f m (cAt [1, 1, 0, 1, 0, 0, 1, 1, 0, 0, 1, 1, 1, 0, 0] B12) s H) := at_seq (by kernel_rfl) rfl rfl s H
noncomputable def r12_38 : {l : List Oper // opsOf (cAt [1, 1, 0, 1, 0, 0, 1, 1, 0, 0, 1, 1, 1, 0, 0] B12) = l} := by
  apply Subtype.mk
  dsimp only [opsOf, cAt, kids, B12, bodyOf, Try.f12, List.getD, List.getElem?_cons_zero, List.getElem?_cons_succ, Option.getD_some]
@[simp] theorem n12_38 (s : List V) (H : Heap) : evCode P Γ call n f m (cAt [1, 1, 0, 1, 0, 0, 1, 1, 0, 0, 1, 1, 1, 0, 0] B12) s H = regNext (evOpsGo P Γ call r12_38.1 r12_38.1 s H) := at_region (by kernel_rfl) r12_38.2 s H
attribute [simp] r12_38
@[simp] theorem n12_39 (s : List V) (H : Heap) : evCode P Γ call n f m (cAt [1, 1, 0, 1, 0, 0, 1, 1, 0, 0, 1, 1, 1, 0, 1] B12) s H = some (.ret, s, H) := at_ret (by kernel_rfl) s H
@[simp] theorem n12_40 (s : List V) (H : Heap) : evCode P Γ call n f m (cAt [1, 1, 0, 1, 0, 0, 1, 1, 0, 0, 1, 1, 1, 1] B12) s H = some (.normal, s, H) := at_skip (by kernel_rfl) s H
noncomputable def r12_41 : {l : List Oper // opsOf (cAt [1, 1, 0, 1, 0, 0, 1, 1, 1] B12) = l} := by
  apply Subtype.mk
  dsimp only [opsOf, cAt, kids, B12, bodyOf, Try.f12, List.getD, List.getElem?_cons_zero, List.getElem?_cons_succ, Option.getD_some]
@[simp] theorem n12_41 (s : List V) (H : Heap) : evCode P Γ call n f m (cAt [1, 1, 0, 1, 0, 0, 1, 1, 1] B12) s H = regNext (evOpsGo P Γ call r12_41.1 r12_41.1 s H) := at_region (by kernel_rfl) r12_41.2 s H
attribute [simp] r12_41
@[simp] theorem n12_42 (s : List V) (H : Heap) : evCode P Γ call n f m (cAt [1, 1, 1] B12) s H = seqNext P Γ call n f m (cAt [1, 1, 1, 1] B12) (evCode P Γ call n f m (cAt [1, 1, 1, 0] B12) s H) := at_seq (by kernel_rfl) rfl rfl s H
@[simp] theorem n12_43 (s : List V) (H : Heap) : evCode P Γ call n f m (cAt [1, 1, 1, 0] B12) s H = seqNext P Γ call n f m (cAt [1, 1, 1, 0, 1] B12) (evCode P Γ call n f m (cAt [1, 1, 1, 0, 0] B12) s H) := at_seq (by kernel_rfl) rfl rfl s H
noncomputable def r12_44 : {l : List Oper // opsOf (cAt [1, 1, 1, 0, 0] B12) = l} := by
  apply Subtype.mk
  dsimp only [opsOf, cAt, kids, B12, bodyOf, Try.f12, List.getD, List.getElem?_cons_zero, List.getElem?_cons_succ, Option.getD_some]
@[simp] theorem n12_44 (s : List V) (H : Heap) : evCode P Γ call n f m (cAt [1, 1, 1, 0, 0] B12) s H = regNext (evOpsGo P Γ call r12_44.1 r12_44.1 s H) := at_region (by kernel_rfl) r12_44.2 s H
attribute [simp] r12_44
@[simp] theorem n12_45 (s : List V) (H : Heap) : evCode P Γ call n f m (cAt [1, 1, 1, 0, 1] B12) s H = blockNext 2 (evCode P Γ call n f m (cAt [1, 1, 1, 0, 1, 0] B12) s H) := at_block (by kernel_rfl) rfl s H
@[simp] theorem n12_46 (s : List V) (H : Heap) : evCode P Γ call n f m (cAt [1, 1, 1, 0, 1, 0] B12) s H = evLoopC P Γ call n f m (cAt [1, 1, 1, 0, 1, 0, 0] B12) n s H := at_loop (by kernel_rfl) rfl s H
noncomputable abbrev L12_12 : Code := cAt [1, 1, 1, 0, 1, 0, 0] B12
@[simp] theorem n12_46f : firstRegion (cAt [1, 1, 1, 0, 1, 0, 0] B12) = 12 := by kernel_rfl
@[simp] theorem n12_47 (s : List V) (H : Heap) : evCode P Γ call n f m (cAt [1, 1, 1, 0, 1, 0, 0] B12) s H = seqNext P Γ call n f m (cAt [1, 1, 1, 0, 1, 0, 0, 1] B12) (evCode P Γ call n f m (cAt [1, 1, 1, 0, 1, 0, 0, 0] B12) s H) := at_seq (by kernel_rfl) rfl rfl s H
noncomputable def r12_48 : {l : List Oper // opsOf (cAt [1, 1, 1, 0, 1, 0, 0, 0] B12) = l} := by
  apply Subtype.mk
  dsimp only [opsOf, cAt, kids, B12, bodyOf, Try.f12, List.getD, List.getElem?_cons_zero, List.getElem?_cons_succ, Option.getD_some]
@[simp] theorem n12_48 (s : List V) (H : Heap) : evCode P Γ call n f m (cAt [1, 1, 1, 0, 1, 0, 0, 0] B12) s H = regNext (evOpsGo P Γ call r12_48.1 r12_48.1 s H) := at_region (by kernel_rfl) r12_48.2 s H
attribute [simp] r12_48
@[simp] theorem n12_49 (s : List V) (H : Heap) : evCode P Γ call n f m (cAt [1, 1, 1, 0, 1, 0, 0, 1] B12) s H = seqNext P Γ call n f m (cAt [1, 1, 1, 0, 1, 0, 0, 1, 1] B12) (evCode P Γ call n f m (cAt [1, 1, 1, 0, 1, 0, 0, 1, 0] B12) s H) := at_seq (by kernel_rfl) rfl rfl s H
@[simp] theorem n12_50 (s : List V) (H : Heap) : evCode P Γ call n f m (cAt [1, 1, 1, 0, 1, 0, 0, 1, 0] B12) s H = condW P Γ call n f m (cAt [1, 1, 1, 0, 1, 0, 0, 1, 0, 0] B12) (cAt [1, 1, 1, 0, 1, 0, 0, 1, 0, 1] B12) s H (evOperand Γ s (.tmp 55)) := at_cond (by kernel_rfl) (by kernel_rfl) rfl rfl s H
@[simp] theorem n12_51 (s : List V) (H : Heap) : evCode P Γ call n f m (cAt [1, 1, 1, 0, 1, 0, 0, 1, 0, 0] B12) s H = some (.normal, s, H) := at_skip (by kernel_rfl) s H
@[simp] theorem n12_52 (s : List V) (H : Heap) : evCode P Γ call n f m (cAt [1, 1, 1, 0, 1, 0, 0, 1, 0, 1] B12) s H = some (.exit 2, s, H) := at_exit (by kernel_rfl) s H
@[simp] theorem n12_53 (s : List V) (H : Heap) : evCode P Γ call n f m (cAt [1, 1, 1, 0, 1, 0, 0, 1, 1] B12) s H = seqNext P Γ call n f m (cAt [1, 1, 1, 0, 1, 0, 0, 1, 1, 1] B12) (evCode P Γ call n f m (cAt [1, 1, 1, 0, 1, 0, 0, 1, 1, 0] B12) s H) := at_seq (by kernel_rfl) rfl rfl s H
@[simp] theorem n12_54 (s : List V) (H : Heap) : evCode P Γ call n f m (cAt [1, 1, 1, 0, 1, 0, 0, 1, 1, 0] B12) s H = blockNext 3 (evCode P Γ call n f m (cAt [1, 1, 1, 0, 1, 0, 0, 1, 1, 0, 0] B12) s H) := at_block (by kernel_rfl) rfl s H
@[simp] theorem n12_55 (s : List V) (H : Heap) : evCode P Γ call n f m (cAt [1, 1, 1, 0, 1, 0, 0, 1, 1, 0, 0] B12) s H = seqNext P Γ call n f m (cAt [1, 1, 1, 0, 1, 0, 0, 1, 1, 0, 0, 1] B12) (evCode P Γ call n f m (cAt [1, 1, 1, 0, 1, 0, 0, 1, 1, 0, 0, 0] B12) s H) := at_seq (by kernel_rfl) rfl rfl s H
noncomputable def r12_56 : {l : List Oper // opsOf (cAt [1, 1, 1, 0, 1, 0, 0, 1, 1, 0, 0, 0] B12) = l} := by
  apply Subtype.mk
  dsimp only [opsOf, cAt, kids, B12, bodyOf, Try.f12, List.getD, List.getElem?_cons_zero, List.getElem?_cons_succ, Option.getD_some]
@[simp] theorem n12_56 (s : List V) (H : Heap) : evCode P Γ call n f m (cAt [1, 1, 1, 0, 1, 0, 0, 1, 1, 0, 0, 0] B12) s H = regNext (evOpsGo P Γ call r12_56.1 r12_56.1 s H) := at_region (by kernel_rfl) r12_56.2 s H
attribute [simp] r12_56
@[simp] theorem n12_57 (s : List V) (H : Heap) : evCode P Γ call n f m (cAt [1, 1, 1, 0, 1, 0, 0, 1, 1, 0, 0, 1] B12) s H = blockNext 4 (evCode P Γ call n f m (cAt [1, 1, 1, 0, 1, 0, 0, 1, 1, 0, 0, 1, 0] B12) s H) := at_block (by kernel_rfl) rfl s H
@[simp] theorem n12_58 (s : List V) (H : Heap) : evCode P Γ call n f m (cAt [1, 1, 1, 0, 1, 0, 0, 1, 1, 0, 0, 1, 0] B12) s H = seqNext P Γ call n f m (cAt [1, 1, 1, 0, 1, 0, 0, 1, 1, 0, 0, 1, 0, 1] B12) (evCode P Γ call n f m (cAt [1, 1, 1, 0, 1, 0, 0, 1, 1, 0, 0, 1, 0, 0] B12) s H) := at_seq (by kernel_rfl) rfl rfl s H
noncomputable def r12_59 : {l : List Oper // opsOf (cAt [1, 1, 1, 0, 1, 0, 0, 1, 1, 0, 0, 1, 0, 0] B12) = l} := by
  apply Subtype.mk
  dsimp only [opsOf, cAt, kids, B12, bodyOf, Try.f12, List.getD, List.getElem?_cons_zero, List.getElem?_cons_succ, Option.getD_some]
@[simp] theorem n12_59 (s : List V) (H : Heap) : evCode P Γ call n f m (cAt [1, 1, 1, 0, 1, 0, 0, 1, 1, 0, 0, 1, 0, 0] B12) s H = regNext (evOpsGo P Γ call r12_59.1 r12_59.1 s H) := at_region (by kernel_rfl) r12_59.2 s H
attribute [simp] r12_59
@[simp] theorem n12_60 (s : List V) (H : Heap) : evCode P Γ call n f m (cAt [1, 1, 1, 0, 1, 0, 0, 1, 1, 0, 0, 1, 0, 1] B12) s H = condW P Γ call n f m (cAt [1, 1, 1, 0, 1, 0, 0, 1, 1, 0, 0, 1, 0, 1, 0] B12) (cAt [1, 1, 1, 0, 1, 0, 0, 1, 1, 0, 0, 1, 0, 1, 1] B12) s H (evOperand Γ s (.tmp 58)) := at_cond (by kernel_rfl) (by kernel_rfl) rfl rfl s H
@[simp] theorem n12_61 (s : List V) (H : Heap) : evCode P Γ call n f m (cAt [1, 1, 1, 0, 1, 0, 0, 1, 1, 0, 0, 1, 0, 1, 0] B12) s H = seqNext P Γ call n f m (cAt [1, 1, 1, 0, 1, 0, 0, 1, 1, 0, 0, 1, 0, 1, 0, 1] B12) (evCode P Γ call n f m (cAt [1, 1, 1, 0, 1, 0, 0, 1, 1, 0, 0, 1, 0, 1, 0, 0] B12) s H) := at_seq (by kernel_rfl) rfl rfl s H
noncomputable def r12_62 : {l : List Oper // opsOf (cAt [1, 1, 1, 0, 1, 0, 0, 1, 1, 0, 0, 1, 0, 1, 0, 0] B12) = l} := by
  apply Subtype.mk
  dsimp only [opsOf, cAt, kids, B12, bodyOf, Try.f12, List.getD, List.getElem?_cons_zero, List.getElem?_cons_succ, Option.getD_some]
@[simp] theorem n12_62 (s : List V) (H : Heap) : evCode P Γ call n f m (cAt [1, 1, 1, 0, 1, 0, 0, 1, 1, 0, 0, 1, 0, 1, 0, 0] B12) s H = regNext (evOpsGo P Γ call r12_62.1 r12_62.1 s H) := at_region (by kernel_rfl) r12_62.2 s H
attribute [simp] r12_62
@[simp] theorem n12_63 (s : List V) (H : Heap) : evCode P Γ call n f m (cAt [1, 1, 1, 0, 1, 0, 0, 1, 1, 0, 0, 1, 0, 1, 0, 1] B12) s H = some (.ret, s, H) := at_ret (by kernel_rfl) s H
@[simp] theorem n12_64 (s : List V) (H : Heap) : evCode P Γ call n f m (cAt [1, 1, 1, 0, 1, 0, 0, 1, 1, 0, 0, 1, 0, 1, 1] B12) s H = seqNext P Γ call n f m (cAt [1, 1, 1, 0, 1, 0, 0, 1, 1, 0, 0, 1, 0, 1, 1, 1] B12) (evCode P Γ call n f m (cAt [1, 1, 1, 0, 1, 0, 0, 1, 1, 0, 0, 1, 0, 1, 1, 0] B12) s H) := at_seq (by kernel_rfl) rfl rfl s H
noncomputable def r12_65 : {l : List Oper // opsOf (cAt [1, 1, 1, 0, 1, 0, 0, 1, 1, 0, 0, 1, 0, 1, 1, 0] B12) = l} := by
  apply Subtype.mk
  dsimp only [opsOf, cAt, kids, B12, bodyOf, Try.f12, List.getD, List.getElem?_cons_zero, List.getElem?_cons_succ, Option.getD_some]
@[simp] theorem n12_65 (s : List V) (H : Heap) : evCode P Γ call n f m (cAt [1, 1, 1, 0, 1, 0, 0, 1, 1, 0, 0, 1, 0, 1, 1, 0] B12) s H = regNext (evOpsGo P Γ call r12_65.1 r12_65.1 s H) := at_region (by kernel_rfl) r12_65.2 s H
attribute [simp] r12_65
@[simp] theorem n12_66 (s : List V) (H : Heap) : evCode P Γ call n f m (cAt [1, 1, 1, 0, 1, 0, 0, 1, 1, 0, 0, 1, 0, 1, 1, 1] B12) s H = condW P Γ call n f m (cAt [1, 1, 1, 0, 1, 0, 0, 1, 1, 0, 0, 1, 0, 1, 1, 1, 0] B12) (cAt [1, 1, 1, 0, 1, 0, 0, 1, 1, 0, 0, 1, 0, 1, 1, 1, 1] B12) s H (evOperand Γ s (.tmp 81)) := at_cond (by kernel_rfl) (by kernel_rfl) rfl rfl s H
@[simp] theorem n12_67 (s : List V) (H : Heap) : evCode P Γ call n f m (cAt [1, 1, 1, 0, 1, 0, 0, 1, 1, 0, 0, 1, 0, 1, 1, 1, 0] B12) s H = seqNext P Γ call n f m (cAt [1, 1, 1, 0, 1, 0, 0, 1, 1, 0, 0, 1, 0, 1, 1, 1, 0, 1] B12) (evCode P Γ call n f m (cAt [1, 1, 1, 0, 1, 0, 0, 1, 1, 0, 0, 1, 0, 1, 1, 1, 0, 0] B12) s H) := at_seq (by kernel_rfl) rfl rfl s H
noncomputable def r12_68 : {l : List Oper // opsOf (cAt [1, 1, 1, 0, 1, 0, 0, 1, 1, 0, 0, 1, 0, 1, 1, 1, 0, 0] B12) = l} := by
  apply Subtype.mk
  dsimp only [opsOf, cAt, kids, B12, bodyOf, Try.f12, List.getD, List.getElem?_cons_zero, List.getElem?_cons_succ, Option.getD_some]
@[simp] theorem n12_68 (s : List V) (H : Heap) : evCode P Γ call n f m (cAt [1, 1, 1, 0, 1, 0, 0, 1, 1, 0, 0, 1, 0, 1, 1, 1, 0, 0] B12) s H = regNext (evOpsGo P Γ call r12_68.1 r12_68.1 s H) := at_region (by kernel_rfl) r12_68.2 s H
attribute [simp] r12_68
@[simp] theorem n12_69 (s : List V) (H : Heap) : evCode P Γ call n f m (cAt [1, 1, 1, 0, 1, 0, 0, 1, 1, 0, 0, 1, 0, 1, 1, 1, 0, 1] B12) s H = some (.ret, s, H) := at_ret (by kernel_rfl) s H
@[simp] theorem n12_70 (s : List V) (H : Heap) : evCode P Γ call n f m (cAt [1, 1, 1, 0, 1, 0, 0, 1, 1, 0, 0, 1, 0, 1, 1, 1, 1] B12) s H = seqNext P Γ call n f m (cAt [1, 1, 1, 0, 1, 0, 0, 1, 1, 0, 0, 1, 0, 1, 1, 1, 1, 1] B12) (evCode P Γ call n f m (cAt [1, 1, 1, 0, 1, 0, 0, 1, 1, 0, 0, 1, 0, 1, 1, 1, 1, 0] B12) s H) := at_seq (by kernel_rfl) rfl rfl s H
noncomputable def r12_71 : {l : List Oper // opsOf (cAt [1, 1, 1, 0, 1, 0, 0, 1, 1, 0, 0, 1, 0, 1, 1, 1, 1, 0] B12) = l} := by
  apply Subtype.mk
  dsimp only [opsOf, cAt, kids, B12, bodyOf, Try.f12, List.getD, List.getElem?_cons_zero, List.getElem?_cons_succ, Option.getD_some]
@[simp] theorem n12_71 (s : List V) (H : Heap) : evCode P Γ call n f m (cAt [1, 1, 1, 0, 1, 0, 0, 1, 1, 0, 0, 1, 0, 1, 1, 1, 1, 0] B12) s H = regNext (evOpsGo P Γ call r12_71.1 r12_71.1 s H) := at_region (by kernel_rfl) r12_71.2 s H
attribute [simp] r12_71
@[simp] theorem n12_72 (s : List V) (H : Heap) : evCode P Γ call n f m (cAt [1, 1, 1, 0, 1, 0, 0, 1, 1, 0, 0, 1, 0, 1, 1, 1, 1, 1] B12) s H = condW P Γ call n f m (cAt [1, 1, 1, 0, 1, 0, 0, 1, 1, 0, 0, 1, 0, 1, 1, 1, 1, 1, 0] B12) (cAt [1, 1, 1, 0, 1, 0, 0, 1, 1, 0, 0, 1, 0, 1, 1, 1, 1, 1, 1] B12) s H (evOperand Γ s (.tmp 87)) := at_cond (by kernel_rfl) (by kernel_rfl) rfl rfl s H
@[simp] theorem n12_73 (s : List V) (H : Heap) : evCode P Γ call n f m (cAt [1, 1, 1, 0, 1, 0, 0, 1, 1, 0, 0, 1, 0, 1, 1, 1, 1, 1, 0] B12) s H = seqNext P Γ call n f m (cAt [1, 1, 1, 0, 1, 0, 0, 1, 1, 0, 0, 1, 0, 1, 1, 1, 1, 1, 0, 1] B12) (evCode P Γ call n f m (cAt [1, 1, 1, 0, 1, 0, 0, 1, 1, 0, 0, 1, 0, 1, 1, 1, 1, 1, 0, 0] B12) s H) := at_seq (by kernel_rfl) rfl rfl s H
noncomputable def r12_74 : {l : List Oper // opsOf (cAt [1, 1, 1, 0, 1, 0, 0, 1, 1, 0, 0, 1, 0, 1, 1, 1, 1, 1, 0, 0] B12) = l} := by
  apply Subtype.mk
  dsimp only [opsOf, cAt, kids, B12, bodyOf, Try.f12, List.getD, List.getElem?_cons_zero, List.getElem?_cons_succ, Option.getD_some]
@[simp] theorem n12_74 (s : List V) (H : Heap) : evCode P Γ call n f m (cAt [1, 1, 1, 0, 1, 0, 0, 1, 1, 0, 0, 1, 0, 1, 1, 1, 1, 1, 0, 0] B12) s H = regNext (evOpsGo P Γ call r12_74.1 r12_74.1 s H) := at_region (by kernel_rfl) r12_74.2 s H
attribute [simp] r12_74
@[simp] theorem n12_75 (s : List V) (H : Heap) : evCode P Γ call n f m (cAt [1, 1, 1, 0, 1, 0, 0, 1, 1, 0, 0, 1, 0, 1, 1, 1, 1, 1, 0, 1] B12) s H = some (.ret, s, H) := at_ret (by kernel_rfl) s H
@[simp] theorem n12_76 (s : List V) (H : Heap) : evCode P Γ call n f m (cAt [1, 1, 1, 0, 1, 0, 0, 1, 1, 0, 0, 1, 0, 1, 1, 1, 1, 1, 1] B12) s H = some (.normal, s, H) := at_skip (by kernel_rfl) s H
noncomputable def r12_77 : {l : List Oper // opsOf (cAt [1, 1, 1, 0, 1, 0, 0, 1, 1, 1] B12) = l} := by
  apply Subtype.mk
  dsimp only [opsOf, cAt, kids, B12, bodyOf, Try.f12, List.getD, List.getElem?_cons_zero, List.getElem?_cons_succ, Option.getD_some]
@[simp] theorem n12_77 (s : List V) (H : Heap) : evCode P Γ call n f m (cAt [1, 1, 1, 0, 1, 0, 0, 1, 1, 1] B12) s H = regNext (evOpsGo P Γ call r12_77.1 r12_77.1 s H) := at_region (by kernel_rfl) r12_77.2 s H
attribute [simp] r12_77
@[simp] theorem n12_78 (s : List V) (H : Heap) : evCode P Γ call n f m (cAt [1, 1, 1, 1] B12) s H = seqNext P Γ call n f m (cAt [1, 1, 1, 1, 1] B12) (evCode P Γ call n f m (cAt [1, 1, 1, 1, 0] B12) s H) := at_seq (by kernel_rfl) rfl rfl s H
noncomputable def r12_79 : {l : List Oper // opsOf (cAt [1, 1, 1, 1, 0] B12) = l} := by
  apply Subtype.mk
  dsimp only [opsOf, cAt, kids, B12, bodyOf, Try.f12, List.getD, List.getElem?_cons_zero, List.getElem?_cons_succ, Option.getD_some]
@[simp] theorem n12_79 (s : List V) (H : Heap) : evCode P Γ call n f m (cAt [1, 1, 1, 1, 0] B12) s H = regNext (evOpsGo P Γ call r12_79.1 r12_79.1 s H) := at_region (by kernel_rfl) r12_79.2 s H
attribute [simp] r12_79
@[simp] theorem n12_80 (s : List V) (H : Heap) : evCode P Γ call n f m (cAt [1, 1, 1, 1, 1] B12) s H = some (.ret, s, H) := at_ret (by kernel_rfl) s H
theorem b12 {k : Nat} (ho : ∀ args H, Γ.orc 12 args H = none) (args : List V) (H : Heap) (ha : args.length ≤ 104) : evF Try.prog Γ (k + 1) 12 args H = bodyEnd Try.prog [.tmp 4] H.length (evCode Try.prog Γ (evF Try.prog Γ k) k 12 H.length (cAt [] B12) (mkL 104 V.undef (enumV 0 args)) H) := body_at Try.func12 (by decide) rfl ho rfl rfl args H ha
noncomputable def B13 : Code := bodyOf Try.f13
@[simp] theorem n13_1 (s : List V) (H : Heap) : evCode P Γ call n f m (cAt [] B13) s H = seqNext P Γ call n f m (cAt [1] B13) (evCode P Γ call n f m (cAt [0] B13) s H) := at_seq (by kernel_rfl) rfl rfl s H
noncomputable def r13_2 : {l : List Oper // opsOf (cAt [0] B13) = l} := by
  apply Subtype.mk
  dsimp only [opsOf, cAt, kids, B13, bodyOf, Try.f13, List.getD, List.getElem?_cons_zero, List.getElem?_cons_succ, Option.getD_some]
@[simp] theorem n13_2 (s : List V) (H : Heap) : evCode P Γ call n f m (cAt [0] B13) s H = regNext (evOpsGo P Γ call r13_2.1 r13_2.1 s H) := at_region (by kernel_rfl) r13_2.2 s H
attribute [simp] r13_2
@[simp] theorem n13_3 (s : List V) (H : Heap) : evCode P Γ call n f m (cAt [1] B13) s H = seqNext P Γ call n f m (cAt [1, 1] B13) (evCode P Γ call n f m (cAt [1, 0] B13) s H) := at_seq (by kernel_rfl) rfl rfl s H
@[simp] theorem n13_4 (s : List V) (H : Heap) : evCode P Γ call n f m (cAt [1, 0] B13) s H = seqNext P Γ call n f m (cAt [1, 0, 1] B13) (evCode P Γ call n f m (cAt [1, 0, 0] B13) s H) := at_seq (by kernel_rfl) rfl rfl s H
noncomputable def r13_5 : {l : List Oper // opsOf (cAt [1, 0, 0] B13) = l} := by
  apply Subtype.mk
  dsimp only [opsOf, cAt, kids, B13, bodyOf, Try.f13, List.getD, List.getElem?_cons_zero, List.getElem?_cons_succ, Option.getD_some]
@[simp] theorem n13_5 (s : List V) (H : Heap) : evCode P Γ call n f m (cAt [1, 0, 0] B13) s H = regNext (evOpsGo P Γ call r13_5.1 r13_5.1 s H) := at_region (by kernel_rfl) r13_5.2 s H
attribute [simp] r13_5
@[simp] theorem n13_6 (s : List V) (H : Heap) : evCode P Γ call n f m (cAt [1, 0, 1] B13) s H = condW P Γ call n f m (cAt [1, 0, 1, 0] B13) (cAt [1, 0, 1, 1] B13) s H (evOperand Γ s (.tmp 24)) := at_cond (by kernel_rfl) (by kernel_rfl) rfl rfl s H
@[simp] theorem n13_7 (s : List V) (H : Heap) : evCode P Γ call n f m (cAt [1, 0, 1, 0] B13) s H = seqNext P Γ call n f m (cAt [1, 0, 1, 0, 1] B13) (evCode P Γ call n f m (cAt [1, 0, 1, 0, 0] B13) s H) := at_seq (by kernel_rfl) rfl rfl s H
noncomputable def r13_8 : {l : List Oper // opsOf (cAt [1, 0, 1, 0, 0] B13) = l} := by
  apply Subtype.mk
  dsimp only [opsOf, cAt, kids, B13, bodyOf, Try.f13, List.getD, List.getElem?_cons_zero, List.getElem?_cons_succ, Option.getD_some]
@[simp] theorem n13_8 (s : List V) (H : Heap) : evCode P Γ call n f m (cAt [1, 0, 1, 0, 0] B13) s H = regNext (evOpsGo P Γ call r13_8.1 r13_8.1 s H) := at_region (by kernel_rfl) r13_8.2 s H
attribute [simp] r13_8
@[simp] theorem n13_9 (s : List V) (H : Heap) : evCode P Γ call n f m (cAt [1, 0, 1, 0, 1] B13) s H = some (.ret, s, H) := at_ret (by kernel_rfl) s H
@[simp] theorem n13_10 (s : List V) (H : Heap) : evCode P Γ call n f m (cAt [1, 0, 1, 1] B13) s H = some (.normal, s, H) := at_skip (by kernel_rfl) s H
@[simp] theorem n13_11 (s : List V) (H : Heap) : evCode P Γ call n f m (cAt [1, 1] B13) s H = seqNext P Γ call n f m (cAt [1, 1, 1] B13) (evCode P Γ call n f m (cAt [1, 1, 0] B13) s H) := at_seq (by kernel_rfl) rfl rfl s H
@[simp] theorem n13_12 (s : List V) (H : Heap) : evCode P Γ call n f m (cAt [1, 1, 0] B13) s H = seqNext P Γ call n f m (cAt [1, 1, 0, 1] B13) (evCode P Γ call n f m (cAt [1, 1, 0, 0] B13) s H) := at_seq (by kernel_rfl) rfl rfl s H
noncomputable def r13_13 : {l : List Oper // opsOf (cAt [1, 1, 0, 0] B13) = l} := by
  apply Subtype.mk
  dsimp only [opsOf, cAt, kids, B13, bodyOf, Try.f13, List.getD, List.getElem?_cons_zero, List.getElem?_cons_succ, Option.getD_some]
@[simp] theorem n13_13 (s : List V) (H : Heap) : evCode P Γ call n f m (cAt [1, 1, 0, 0] B13) s H = regNext (evOpsGo P Γ call r13_13.1 r13_13.1 s H) := at_region (by kernel_rfl) r13_13.2 s H
attribute [simp] r13_13
@[simp] theorem n13_14 (s : List V) (H : Heap) : evCode P Γ call n f m (cAt [1, 1, 0, 1] B13) s H = blockNext 0 (evCode P Γ call n f m (cAt [1, 1, 0, 1, 0] B13) s H) := at_block (by kernel_rfl) rfl s H
@[simp] theorem n13_15 (s : List V) (H : Heap) : evCode P Γ call n f m (cAt [1, 1, 0, 1, 0] B13) s H = evLoopC P Γ call n f m (cAt [1, 1, 0, 1, 0, 0] B13) n s H := at_loop (by kernel_rfl) rfl s H
noncomputable abbrev L13_4 : Code := cAt [1, 1, 0, 1, 0, 0] B13
@[simp] theorem n13_15f : firstRegion (cAt [1, 1, 0, 1, 0, 0] B13) = 4 := by kernel_rfl
@[simp] theorem n13_16 (s : List V) (H : Heap) : evCode P Γ call n f m (cAt [1, 1, 0, 1, 0, 0] B13) s H = seqNext P Γ call n f m (cAt [1, 1, 0, 1, 0, 0, 1] B13) (evCode P Γ call n f m (cAt [1, 1, 0, 1, 0, 0, 0] B13) s H) := at_seq (by kernel_rfl) rfl rfl s H
noncomputable def r13_17 : {l : List Oper // opsOf (cAt [1, 1, 0, 1, 0, 0, 0] B13) = l} := by
  apply Subtype.mk
  dsimp only [opsOf, cAt, kids, B13, bodyOf, Try.f13, List.getD, List.getElem?_cons_zero, List.getElem?_cons_succ, Option.getD_some]
@[simp] theorem n13_17 (s : List V) (H : Heap) : evCode P Γ call n f m (cAt [1, 1, 0, 1, 0, 0, 0] B13) s H = regNext (evOpsGo P Γ call r13_17.1 r13_17.1 s H) := at_region (by kernel_rfl) r13_17.2 s H
attribute [simp] r13_17
@[simp] theorem n13_18 (s : List V) (H : Heap) : evCode P Γ call n f m (cAt [1, 1, 0, 1, 0, 0, 1] B13) s H = seqNext P Γ call n f m (cAt [1, 1, 0, 1, 0, 0, 1, 1] B13) (evCode P Γ call n f m (cAt [1, 1, 0, 1, 0, 0, 1, 0] B13) s H) := at_seq (by kernel_rfl) rfl rfl s H
@[simp] theorem n13_19 (s : List V) (H : Heap) : evCode P Γ call n f m (cAt [1, 1, 0, 1, 0, 0, 1, 0] B13) s H = condW P Γ call n f m (cAt [1, 1, 0, 1, 0, 0, 1, 0, 0] B13) (cAt [1, 1, 0, 1, 0, 0, 1, 0, 1] B13) s H (evOperand Γ s (.tmp 28)) := at_cond (by kernel_rfl) (by kernel_rfl) rfl rfl s H
@[simp] theorem n13_20 (s : List V) (H : Heap) : evCode P Γ call n f m (cAt [1, 1, 0, 1, 0, 0, 1, 0, 0] B13) s H = some (.normal, s, H) := at_skip (by kernel_rfl) s H
@[simp] theorem n13_21 (s : List V) (H : Heap) : evCode P Γ call n f m (cAt [1, 1, 0, 1, 0, 0, 1, 0, 1] B13) s H = some (.exit 0, s, H) := at_exit (by kernel_rfl) s H
@[simp] theorem n13_22 (s : List V) (H : Heap) : evCode P Γ call n f m (cAt [1, 1, 0, 1, 0, 0, 1, 1] B13) s H = seqNext P Γ call n f m (cAt [1, 1, 0, 1, 0, 0, 1, 1, 1] B13) (evCode P Γ call n f m (cAt [1, 1, 0, 1, 0, 0, 1, 1, 0] B13) s H) := at_seq (by kernel_rfl) rfl rfl s H
@[simp] theorem n13_23 (s : List V) (H : Heap) : evCode P Γ call n f m (cAt [1, 1, 0, 1, 0, 0, 1, 1, 0] B13) s H = blockNext 1 (evCode P Γ call n f m (cAt [1, 1, 0, 1, 0, 0, 1, 1, 0, 0] B13) s H) := at_block (by kernel_rfl) rfl s H
@[simp] theorem n13_24 (s : List V) (H : Heap) : evCode P Γ call n f m (cAt [1, 1, 0, 1, 0, 0, 1, 1, 0, 0] B13) s H = seqNext P Γ call n f m (cAt [1, 1, 0, 1, 0, 0, 1, 1, 0, 0, 1] B13) (evCode P Γ call n f m (cAt [1, 1, 0, 1, 0, 0, 1, 1, 0, 0, 0] B13) s H) := at_seq (by kernel_rfl) rfl rfl s H
noncomputable def r13_25 : {l : List Oper // opsOf (cAt [1, 1, 0, 1, 0, 0, 1, 1, 0, 0, 0] B13) = l} := by
  apply Subtype.mk
  dsimp only [opsOf, cAt, kids, B13, bodyOf, Try.f13, List.getD, List.getElem?_cons_zero, List.getElem?_cons_succ, Option.getD_some]
@[simp] theorem n13_25 (s : List V) (H : Heap) : evCode P Γ call n f m (cAt [1, 1, 0, 1, 0, 0, 1, 1, 0, 0, 0] B13) s H = regNext (evOpsGo P Γ call r13_25.1 r13_25.1 s H) := at_region (by kernel_rfl) r13_25.2 s H
attribute [simp] r13_25
@[simp] theorem n13_26 (s : List V) (H : Heap) : evCode P Γ call n f m (cAt [1, 1, 0, 1, 0, 0, 1, 1, 0, 0, 1] B13) s H = seqNext P Γ call n f m (cAt [1, 1, 0, 1, 0, 0, 1, 1, 0, 0, 1, 1] B13) (evCode P Γ call n f m (cAt [1, 1, 0, 1, 0, 0, 1, 1, 0, 0, 1, 0] B13) s H) := at_seq (by kernel_rfl) rfl rfl s H
@[simp] theorem n13_27 (s : List V) (H : Heap) : evCode P Γ call n f m (cAt [1, 1, 0, 1, 0, 0, 1, 1, 0, 0, 1, 0] B13) s H = seqNext P Γ call n f m (cAt [1, 1, 0, 1, 0, 0, 1, 1, 0, 0, 1, 0, 1] B13) (evCode P Γ call n f m (cAt [1, 1, 0, 1, 0, 0, 1, 1, 0, 0, 1, 0, 0] B13) s H) := at_seq (by kernel_rfl) rfl rfl s H
noncomputable def r13_28 : {l : List Oper // opsOf (cAt [1, 1, 0, 1, 0, 0, 1, 1, 0, 0, 1, 0, 0] B13) = l} := by
  apply Subtype.mk
  dsimp only [opsOf, cAt, kids, B13, bodyOf, Try.f13, List.getD, List.getElem?_cons_zero, List.getElem?_cons_succ, Option.getD_some]
@[simp] theorem n13_28 (s : List V) (H : Heap) : evCode P Γ call n f m (cAt [1, 1, 0, 1, 0, 0, 1, 1, 0, 0, 1, 0, 0] B13) s H = regNext (evOpsGo P Γ call r13_28.1 r13_28.1 s H) := at_region (by kernel_rfl) r13_28.2 s H
attribute [simp] r13_28
@[simp] theorem n13_29 (s : List V) (H : Heap) : evCode P Γ call n f m (cAt [1, 1, 0, 1, 0, 0, 1, 1, 0, 0, 1, 0, 1] B13) s H = condW P Γ call n f m (cAt [1, 1, 0, 1, 0, 0, 1, 1, 0, 0, 1, 0, 1, 0] B13) (cAt [1, 1, 0, 1, 0, 0, 1, 1, 0, 0, 1, 0, 1, 1] B13) s H (evOperand Γ s (.tmp 34)) := at_cond (by kernel_rfl) (by kernel_rfl) rfl rfl s H
@[simp] theorem n13_30 (s : List V) (H : Heap) : evCode P Γ call n f m (cAt [1, 1, 0, 1, 0, 0, 1, 1, 0, 0, 1, 0, 1, 0] B13) s H = seqNext P Γ call n f m (cAt [1, 1, 0, 1, 0, 0, 1, 1, 0, 0, 1, 0, 1, 0, 1] B13) (evCode P Γ call n f m (cAt [1, 1, 0, 1, 0, 0, 1, 1, 0, 0, 1, 0, 1, 0, 0] B13) s H) := at_seq (by kernel_rfl) rfl rfl s H
noncomputable def r13_31 : {l : List Oper // opsOf (cAt [1, 1, 0, 1, 0, 0, 1, 1, 0, 0, 1, 0, 1, 0, 0] B13) = l} := by
  apply Subtype.mk
  dsimp only [opsOf, cAt, kids, B13, bodyOf, Try.f13, List.getD, List.getElem?_cons_zero, List.getElem?_cons_succ, Option.getD_some]
@[simp] theorem n13_31 (s : List V) (H : Heap) : evCode P Γ call n f m (cAt [1, 1, 0, 1, 0, 0, 1, 1, 0, 0, 1, 0, 1, 0, 0] B13) s H = regNext (evOpsGo P Γ call r13_31.1 r13_31.1 s H) := at_region (by kernel_rfl) r13_31.2 s H
attribute [simp] r13_31
@[simp] theorem n13_32 (s : List V) (H : Heap) : evCode P Γ call n f m (cAt [1, 1, 0, 1, 0, 0, 1, 1, 0, 0, 1, 0, 1, 0, 1] B13) s H = some (.ret, s, H) := at_ret (by kernel_rfl) s H
@[simp] theorem n13_33 (s : List V) (H : Heap) : evCode P Γ call n f m (cAt [1, 1, 0, 1, 0, 0, 1, 1, 0, 0, 1, 0, 1, 1] B13) s H = some (.normal, s, H) := at_skip (by kernel_rfl) s H
@[simp] theorem n13_34 (s : List V) (H : Heap) : evCode P Γ call n f m (cAt [1, 1, 0, 1, 0, 0, 1, 1, 0, 0, 1, 1] B13) s H = seqNext P Γ call n f m (cAt [1, 1, 0, 1, 0, 0, 1, 1, 0, 0, 1, 1, 1] B13) (evCode P Γ call n f m (cAt [1, 1, 0, 1, 0, 0, 1, 1, 0, 0, 1, 1, 0] B13) s H) := at_seq (by kernel_rfl) rfl rfl s H
noncomputable def r13_35 : {l : List Oper // opsOf (cAt [1, 1, 0, 1, 0, 0, 1, 1, 0, 0, 1, 1, 0] B13) = l} := by
  apply Subtype.mk
  dsimp only [opsOf, cAt, kids, B13, bodyOf, Try.f13, List.getD, List.getElem?_cons_zero, List.getElem?_cons_succ, Option.getD_some]
@[simp] theorem n13_35 (s : List V) (H : Heap) : evCode P Γ call n f m (cAt [1, 1, 0, 1, 0, 0, 1, 1, 0, 0, 1, 1, 0] B13) s H = regNext (evOpsGo P Γ call r13_35.1 r13_35.1 s H) := at_region (by kernel_rfl) r13_35.2 s H
attribute [simp] r13_35
@[simp] theorem n13_36 (s : List V) (H : Heap) : evCode P Γ call n f m (cAt [1, 1, 0, 1, 0, 0, 1, 1, 0, 0, 1, 1, 1] B13) s H = blockNext 2 (evCode P Γ call n f m (cAt [1, 1, 0, 1, 0, 0, 1, 1, 0, 0, 1, 1, 1, 0] B13) s H) := at_block (by kernel_rfl) rfl s H
@[simp] theorem n13_37 (s : List V) (H : Heap) : evCode P Γ call n f m (cAt [1, 1, 0, 1, 0, 0, 1, 1, 0, 0, 1, 1, 1, 0] B13) s H = evLoopC P Γ call n f m (cAt [1, 1, 0, 1, 0, 0, 1, 1, 0, 0, 1, 1, 1, 0, 0] B13) n s H := at_loop (by kernel_rfl) rfl s H
noncomputable abbrev L13_9 : Code := cAt [1, 1, 0, 1, 0, 0, 1, 1, 0, 0, 1, 1, 1, 0, 0] B13
@[simp] theorem n13_37f : firstRegion (cAt [1, 1, 0, 1, 0, 0, 1, 1, 0, 0, 1, 1, 1, 0, 0] B13) = 9 := by kernel_rfl
@[simp] theorem n13_38 (s : List V) (H : Heap) : evCode P Γ call n f m (cAt [1, 1, 0, 1, 0, 0, 1, 1, 0, 0, 1, 1, 1, 0, 0] B13) s H = seqNext P Γ call n f m (cAt [1, 1, 0, 1, 0, 0, 1, 1, 0, 0, 1, 1, 1, 0, 0, 1] B13) (evCode P Γ call n f m (cAt [1, 1, 0, 1, 0, 0, 1, 1, 0, 0, 1, 1, 1, 0, 0, 0] B13) s H) := at_seq (by kernel_rfl) rfl rfl s H
noncomputable def r13_39 : {l : List Oper // opsOf (cAt [1, 1, 0, 1, 0, 0, 1, 1, 0, 0, 1, 1, 1, 0, 0, 0] B13) = l} := by
  apply Subtype.mk
  dsimp only [opsOf, cAt, kids, B13, bodyOf, Try.f13, List.getD, List.getElem?_cons_zero, List.getElem?_cons_succ, Option.getD_some]
@[simp] theorem n13_39 (s : List V) (H : Heap) : evCode P Γ call n f m (cAt [1, 1, 0, 1, 0, 0, 1, 1, 0, 0, 1, 1, 1, 0, 0, 0] B13) s H = regNext (evOpsGo P Γ call r13_39.1 r13_39.1 s H) := at_region (by kernel_rfl) r13_39.2 s H
attribute [simp] r13_39
@[simp] theorem n13_40 (s : List V) (H : Heap) : evCode P Γ call n f m (cAt [1, 1, 0, 1, 0, 0, 1, 1, 0, 0, 1, 1, 1, 0, 0, 1] B13) s H = seqNext P Γ call n f m (cAt [1, 1, 0, 1, 0, 0, 1, 1, 0, 0, 1, 1, 1, 0, 0, 1, 1] B13) (evCode P Γ call n f m (cAt [1, 1, 0, 1, 0, 0, 1, 1, 0, 0, 1, 1, 1, 0, 0, 1, 0] B13) s H) := at_seq (by kernel_rfl) rfl rfl s H
@[simp] theorem n13_41 (s : List V) (H : Heap) : evCode P Γ call n f m (cAt [1, 1, 0, 1, 0, 0, 1, 1, 0, 0, 1, 1, 1, 0, 0, 1, 0] B13) s H = condW P Γ call n f m (cAt [1, 1, 0, 1, 0, 0, 1, 1, 0, 0, 1, 1, 1, 0, 0, 1, 0, 0] B13) (cAt [1, 1, 0, 1, 0, 0, 1, 1, 0, 0, 1, 1, 1, 0, 0, 1, 0, 1] B13) s H (evOperand Γ s (.tmp 42)) := at_cond (by kernel_rfl) (by kernel_rfl) rfl rfl s H
@[simp] theorem n13_42 (s : List V) (H : Heap) : evCode P Γ call n f m (cAt [1, 1, 0, 1, 0, 0, 1, 1, 0, 0, 1, 1, 1, 0, 0, 1, 0, 0] B13) s H = some (.normal, s, H) := at_skip (by kernel_rfl) s H
@[simp] theorem n13_43 (s : List V) (H : Heap) : evCode P Γ call n f m (cAt [1, 1, 0, 1, 0, 0, 1, 1, 0, 0, 1, 1, 1, 0, 0, 1, 0, 1] B13) s H = some (.exit 2, s, H) := at_exit (by kernel_rfl) s H
@[simp] theorem n13_44 (s : List V) (H : Heap) : evCode P Γ call n f m (cAt [1, 1, 0, 1, 0, 0, 1, 1, 0, 0, 1, 1, 1, 0, 0, 1, 1] B13) s H = seqNext P Γ call n f m (cAt [1, 1, 0, 1, 0, 0, 1, 1, 0, 0, 1, 1, 1, 0, 0, 1, 1, 1] B13) (evCode P Γ call n f m (cAt [1, 1, 0, 1, 0, 0, 1, 1, 0, 0, 1, 1, 1, 0, 0, 1, 1, 0] B13) s H) := at_seq (by kernel_rfl) rfl rfl s H
@[simp] theorem n13_45 (s : List V) (H : Heap) : evCode P Γ call n f m (cAt [1, 1, 0, 1, 0, 0, 1, 1, 0, 0, 1, 1, 1, 0, 0, 1, 1, 0] B13) s H = blockNext 3 (evCode P Γ call n f m (cAt [1, 1, 0, 1, 0, 0, 1, 1, 0, 0, 1, 1, 1, 0, 0, 1, 1, 0, 0] B13) s H) := at_block (by kernel_rfl) rfl s H
@[simp] theorem n13_46 (s : List V) (H : Heap) : evCode P Γ call n f m (cAt [1, 1, 0, 1, 0, 0, 1, 1, 0, 0, 1, 1, 1, 0, 0, 1, 1, 0, 0] B13) s H = seqNext P Γ call n f m (cAt [1, 1, 0, 1, 0, 0, 1, 1, 0, 0, 1, 1, 1, 0, 0, 1, 1, 0, 0, 1] B13) (evCode P Γ call n f m (cAt [1, 1, 0, 1, 0, 0, 1, 1, 0, 0, 1, 1, 1, 0, 0, 1, 1, 0, 0, 0] B13) s H) := at_seq (by kernel_rfl) rfl rfl s H
noncomputable def r13_47 : {l : List Oper // opsOf (cAt [1, 1, 0, 1, 0, 0, 1, 1, 0, 0, 1, 1, 1, 0, 0, 1, 1, 0, 0, 0] B13) = l} := by
  apply Subtype.mk
  dsimp only [opsOf, cAt, kids, B13, bodyOf, Try.f13, List.getD, List.getElem?_cons_zero, List.getElem?_cons_succ, Option.getD_some]
@[simp] theorem n13_47 (s : List V) (H : Heap) : evCode P Γ call n f m (cAt [1, 1, 0, 1, 0, 0, 1, 1, 0, 0, 1, 1, 1, 0, 0, 1, 1, 0, 0, 0] B13) s H = regNext (evOpsGo P Γ call r13_47.1 r13_47.1 s H) := at_region (by kernel_rfl) r13_47.2 s H
attribute [simp] r13_47
@[simp] theorem n13_48 (s : List V) (H : Heap) : evCode P Γ call n f m (cAt [1, 1, 0, 1, 0, 0, 1, 1, 0, 0, 1, 1, 1, 0, 0, 1, 1, 0, 0, 1] B13) s H = seqNext P Γ call n f m (cAt [1, 1, 0, 1, 0, 0, 1, 1, 0, 0, 1, 1, 1, 0, 0, 1, 1, 0, 0, 1, 1] B13) (evCode P Γ call n f m (cAt [1, 1, 0, 1, 0, 0, 1, 1, 0, 0, 1, 1, 1, 0, 0, 1, 1, 0, 0, 1, 0] B13) s H) := at_seq (by kernel_rfl) rfl rfl s H
noncomputable def r13_49 : {l : List Oper // opsOf (cAt [1, 1, 0, 1, 0, 0, 1, 1, 0, 0, 1, 1, 1, 0, 0, 1, 1, 0, 0, 1, 0] B13) = l} := by
  apply Subtype.mk
  dsimp only [opsOf, cAt, kids, B13, bodyOf, Try.f13, List.getD, List.getElem?_cons_zero, List.getElem?_cons_succ, Option.getD_some]
@[simp] theorem n13_49 (s : List V) (H : Heap) : evCode P Γ call n f m (cAt [1, 1, 0, 1, 0, 0, 1, 1, 0, 0, 1, 1, 1, 0, 0, 1, 1, 0, 0, 1, 0] B13) s H = regNext (evOpsGo P Γ call r13_49.1 r13_49.1 s H) := at_region (by kernel_rfl) r13_49.2 s H
attribute [simp] r13_49
@[simp] theorem n13_50 (s : List V) (H : Heap) : evCode P Γ call n f m (cAt [1, 1, 0, 1, 0, 0, 1, 1, 0, 0, 1, 1, 1, 0, 0, 1, 1, 0, 0, 1, 1] B13) s H = condW P Γ call n f m (cAt [1, 1, 0, 1, 0, 0, 1, 1, 0, 0, 1, 1, 1, 0, 0, 1, 1, 0, 0, 1, 1, 0] B13) (cAt [1, 1, 0, 1, 0, 0, 1, 1, 0, 0, 1, 1, 1, 0, 0, 1, 1, 0, 0, 1, 1, 1] B13) s H (evOperand Γ s (.tmp 50)) := at_cond (by kernel_rfl) (by kernel_rfl) rfl rfl s H
@[simp] theorem n13_51 (s : List V) (H : Heap) : evCode P Γ call n f m (cAt [1, 1, 0, 1, 0, 0, 1, 1, 0, 0, 1, 1, 1, 0, 0, 1, 1, 0, 0, 1, 1, 0] B13) s H = seqNext P Γ call n f m (cAt [1, 1, 0, 1, 0, 0, 1, 1, 0, 0, 1, 1, 1, 0, 0, 1, 1, 0, 0, 1, 1, 0, 1] B13) (evCode P Γ call n f m (cAt [1, 1, 0, 1, 0, 0, 1, 1, 0, 0, 1, 1, 1, 0, 0, 1, 1, 0, 0, 1, 1, 0, 0] B13) s H) := at_seq (by kernel_rfl) rfl rfl s H
noncomputable def r13_52 : {l : List Oper // opsOf (cAt [1, 1, 0, 1, 0, 0, 1, 1, 0, 0, 1, 1, 1, 0, 0, 1, 1, 0, 0, 1, 1, 0, 0] B13) = l} := by
  apply Subtype.mk
  dsimp only [opsOf, cAt, kids, B13, bodyOf, Try.f13, List.getD, List.getElem?_cons_zero, List.getElem?_cons_succ, Option.getD_some]
@[simp] theorem n13_52 (s : List V) (H : Heap) : evCode P Γ call n f m (cAt [1, 1, 0, 1, 0, 0, 1, 1, 0, 0, 1, 1, 1, 0, 0, 1, 1, 0, 0, 1, 1, 0, 0] B13) s H = regNext (evOpsGo P Γ call r13_52.1 r13_52.1 s H) := at_region (by kernel_rfl) r13_52.2 s H
attribute [simp] r13_52
@[simp] theorem n13_53 (s : List V) (H : Heap) : evCode P Γ call n f m (cAt [1, 1, 0, 1, 0, 0, 1, 1, 0, 0, 1, 1, 1, 0, 0, 1, 1, 0, 0, 1, 1, 0, 1] B13) s H = some (.ret, s, H) := at_ret (by kernel_rfl) s H
@[simp] theorem n13_54 (s : List V) (H : Heap) : evCode P Γ call n f m (cAt [1, 1, 0, 1, 0, 0, 1, 1, 0, 0, 1, 1, 1, 0, 0, 1, 1, 0, 0, 1, 1, 1] B13) s H = some (.normal, s, H) := at_skip (by kernel_rfl) s H
noncomputable def r13_55 : {l : List Oper // opsOf (cAt [1, 1, 0, 1, 0, 0, 1, 1, 0, 0, 1, 1, 1, 0, 0, 1, 1, 1] B13) = l} := by
  apply Subtype.mk
  dsimp only [opsOf, cAt, kids, B13, bodyOf, Try.f13, List.getD, List.getElem?_cons_zero, List.getElem?_cons_succ, Option.getD_some]
@[simp] theorem n13_55 (s : List V) (H : Heap) : evCode P Γ call n f m (cAt [1, 1, 0, 1, 0, 0, 1, 1, 0, 0, 1, 1, 1, 0, 0, 1, 1, 1] B13) s H = regNext (evOpsGo P Γ call r13_55.1 r13_55.1 s H) := at_region (by kernel_rfl) r13_55.2 s H
attribute [simp] r13_55
noncomputable def r13_56 : {l : List Oper // opsOf (cAt [1, 1, 0, 1, 0, 0, 1, 1, 1] B13) = l} := by
  apply Subtype.mk
  dsimp only [opsOf, cAt, kids, B13, bodyOf, Try.f13, List.getD, List.getElem?_cons_zero, List.getElem?_cons_succ, Option.getD_some]
@[simp] theorem n13_56 (s : List V) (H : Heap) : evCode P Γ call n f m (cAt [1, 1, 0, 1, 0, 0, 1, 1, 1] B13) s H = regNext (evOpsGo P Γ call r13_56.1 r13_56.1 s H) := at_region (by kernel_rfl) r13_56.2 s H
attribute [simp] r13_56
@[simp] theorem n13_57 (s : List V) (H : Heap) : evCode P Γ call n f m (cAt [1, 1, 1] B13) s H = seqNext P Γ call n f m (cAt [1, 1, 1, 1] B13) (evCode P Γ call n f m (cAt [1, 1, 1, 0] B13) s H) := at_seq (by kernel_rfl) rfl rfl s H
@[simp] theorem n13_58 (s : List V) (H : Heap) : evCode P Γ call n f m (cAt [1, 1, 1, 0] B13) s H = seqNext P Γ call n f m (cAt [1, 1, 1, 0, 1] B13) (evCode P Γ call n f m (cAt [1, 1, 1, 0, 0] B13) s H) := at_seq (by kernel_rfl) rfl rfl s H
noncomputable def r13_59 : {l : List Oper // opsOf (cAt [1, 1, 1, 0, 0] B13) = l} := by
  apply Subtype.mk
  dsimp only [opsOf, cAt, kids, B13, bodyOf, Try.f13, List.getD, List.getElem?_cons_zero, List.getElem?_cons_succ, Option.getD_some]
@[simp] theorem n13_59 (s : List V) (H : Heap) : evCode P Γ call n f m (cAt [1, 1, 1, 0, 0] B13) s H = regNext (evOpsGo P Γ call r13_59.1 r13_59.1 s H) := at_region (by kernel_rfl) r13_59.2 s H
attribute [simp] r13_59
@[simp] theorem n13_60 (s : List V) (H : Heap) : evCode P Γ call n f m (cAt [1, 1, 1, 0, 1] B13) s H = blockNext 4 (evCode P Γ call n f m (cAt [1, 1, 1, 0, 1, 0] B13) s H) := at_block (by kernel_rfl) rfl s H
@[simp] theorem n13_61 (s : List V) (H : Heap) : evCode P Γ call n f m (cAt [1, 1, 1, 0, 1, 0] B13) s H = evLoopC P Γ call n f m (cAt [1, 1, 1, 0, 1, 0, 0] B13) n s H := at_loop (by kernel_rfl) rfl s H
noncomputable abbrev L13_16 : Code := cAt [1, 1, 1, 0, 1, 0, 0] B13
@[simp] theorem n13_61f : firstRegion (cAt [1, 1, 1, 0, 1, 0, 0] B13) = 16 := by kernel_rfl
@[simp] theorem n13_62 (s : List V) (H : Heap) : evCode P Γ call n f m (cAt [1, 1, 1, 0, 1, 0, 0] B13) s H = seqNext P Γ call n f m (cAt [1, 1, 1, 0, 1, 0, 0, 1] B13) (evCode P Γ call n f m (cAt [1, 1, 1, 0, 1, 0, 0, 0] B13) s H) := at_seq (by kernel_rfl) rfl rfl s H
noncomputable def r13_63 : {l : List Oper // opsOf (cAt [1, 1, 1, 0, 1, 0, 0, 0] B13) = l} := by
  apply Subtype.mk
  dsimp only [opsOf, cAt, kids, B13, bodyOf, Try.f13, List.getD, List.getElem?_cons_zero, List.getElem?_cons_succ, Option.getD_some]
@[simp] theorem n13_63 (s : List V) (H : Heap) : evCode P Γ call n f m (cAt [1, 1, 1, 0, 1, 0, 0, 0] B13) s H = regNext (evOpsGo P Γ call r13_63.1 r13_63.1 s H) := at_region (by kernel_rfl) r13_63.2 s H
attribute [simp] r13_63
@[simp] theorem n13_64 (s : List V) (H : Heap) : evCode P Γ call n f m (cAt [1, 1, 1, 0, 1, 0, 0, 1] B13) s H = seqNext P Γ call n f m (cAt [1, 1, 1, 0, 1, 0, 0, 1, 1] B13) (evCode P Γ call n f m (cAt [1, 1, 1, 0, 1, 0, 0, 1, 0] B13) s H) := at_seq (by kernel_rfl) rfl rfl s H
@[simp] theorem n13_65 (s : List V) (H : Heap) : evCode P Γ call n f m (cAt [1, 1, 1, 0, 1, 0, 0, 1, 0] B13) s H = condW P Γ call n f m (cAt [1, 1, 1, 0, 1, 0, 0, 1, 0, 0] B13) (cAt [1, 1, 1, 0, 1, 0, 0, 1, 0, 1] B13) s H (evOperand Γ s (.tmp 56)) := at_cond (by kernel_rfl) (by kernel_rfl) rfl rfl s H
@[simp] theorem n13_66 (s : List V) (H : Heap) : evCode P Γ call n f m (cAt [1, 1, 1, 0, 1, 0, 0, 1, 0, 0] B13) s H = some (.normal, s, H) := at_skip (by kernel_rfl) s H
@[simp] theorem n13_67 (s : List V) (H : Heap) : evCode P Γ call n f m (cAt [1, 1, 1, 0, 1, 0, 0, 1, 0, 1] B13) s H = some (.exit 4, s, H) := at_exit (by kernel_rfl) s H
@[simp] theorem n13_68 (s : List V) (H : Heap) : evCode P Γ call n f m (cAt [1, 1, 1, 0, 1, 0, 0, 1, 1] B13) s H = seqNext P Γ call n f m (cAt [1, 1, 1, 0, 1, 0, 0, 1, 1, 1] B13) (evCode P Γ call n f m (cAt [1, 1, 1, 0, 1, 0, 0, 1, 1, 0] B13) s H) := at_seq (by kernel_rfl) rfl rfl s H
@[simp] theorem n13_69 (s : List V) (H : Heap) : evCode P Γ call n f m (cAt [1, 1, 1, 0, 1, 0, 0, 1, 1, 0] B13) s H = blockNext 5 (evCode P Γ call n f m (cAt [1, 1, 1, 0, 1, 0, 0, 1, 1, 0, 0] B13) s H) := at_block (by kernel_rfl) rfl s H
@[simp] theorem n13_70 (s : List V) (H : Heap) : evCode P Γ call n f m (cAt [1, 1, 1, 0, 1, 0, 0, 1, 1, 0, 0] B13) s H = seqNext P Γ call n f m (cAt [1, 1, 1, 0, 1, 0, 0, 1, 1, 0, 0, 1] B13) (evCode P Γ call n f m (cAt [1, 1, 1, 0, 1, 0, 0, 1, 1, 0, 0, 0] B13) s H) := at_seq (by kernel_rfl) rfl rfl s H
noncomputable def r13_71 : {l : List Oper // opsOf (cAt [1, 1, 1, 0, 1, 0, 0, 1, 1, 0, 0, 0] B13) = l} := by
  apply Subtype.mk
  dsimp only [opsOf, cAt, kids, B13, bodyOf, Try.f13, List.getD, List.getElem?_cons_zero, List.getElem?_cons_succ, Option.getD_some]
@[simp] theorem n13_71 (s : List V) (H : Heap) : evCode P Γ call n f m (cAt [1, 1, 1, 0, 1, 0, 0, 1, 1, 0, 0, 0] B13) s H = regNext (evOpsGo P Γ call r13_71.1 r13_71.1 s H) := at_region (by kernel_rfl) r13_71.2 s H
attribute [simp] r13_71
@[simp] theorem n13_72 (s : List V) (H : Heap) : evCode P Γ call n f m (cAt [1, 1, 1, 0, 1, 0, 0, 1, 1, 0, 0, 1] B13) s H = seqNext P Γ call n f m (cAt [1, 1, 1, 0, 1, 0, 0, 1, 1, 0, 0, 1, 1] B13) (evCode P Γ call n f m (cAt [1, 1, 1, 0, 1, 0, 0, 1, 1, 0, 0, 1, 0] B13) s H) := at_seq (by kernel_rfl) rfl rfl s H
@[simp] theorem n13_73 (s : List V) (H : Heap) : evCode P Γ call n f m (cAt [1, 1, 1, 0, 1, 0, 0, 1, 1, 0, 0, 1, 0] B13) s H = seqNext P Γ call n f m (cAt [1, 1, 1, 0, 1, 0, 0, 1, 1, 0, 0, 1, 0, 1] B13) (evCode P Γ call n f m (cAt [1, 1, 1, 0, 1, 0, 0, 1, 1, 0, 0, 1, 0, 0] B13) s H) := at_seq (by kernel_rfl) rfl rfl s H
noncomputable def r13_74 : {l : List Oper // opsOf (cAt [1, 1, 1, 0, 1, 0, 0, 1, 1, 0, 0, 1, 0, 0] B13) = l} := by
  apply Subtype.mk
  dsimp only [opsOf, cAt, kids, B13, bodyOf, Try.f13, List.getD, List.getElem?_cons_zero, List.getElem?_cons_succ, Option.getD_some]
@[simp] theorem n13_74 (s : List V) (H : Heap) : evCode P Γ call n f m (cAt [1, 1, 1, 0, 1, 0, 0, 1, 1, 0, 0, 1, 0, 0] B13) s H = regNext (evOpsGo P Γ call r13_74.1 r13_74.1 s H) := at_region (by kernel_rfl) r13_74.2 s H
attribute [simp] r13_74
@[simp] theorem n13_75 (s : List V) (H : Heap) : evCode P Γ call n f m (cAt [1, 1, 1, 0, 1, 0, 0, 1, 1, 0, 0, 1, 0, 1] B13) s H = condW P Γ call n f m (cAt [1, 1, 1, 0, 1, 0, 0, 1, 1, 0, 0, 1, 0, 1, 0] B13) (cAt [1, 1, 1, 0, 1, 0, 0, 1, 1, 0, 0, 1, 0, 1, 1] B13) s H (evOperand Γ s (.tmp 80)) := at_cond (by kernel_rfl) (by kernel_rfl) rfl rfl s H
@[simp] theorem n13_76 (s : List V) (H : Heap) : evCode P Γ call n f m (cAt [1, 1, 1, 0, 1, 0, 0, 1, 1, 0, 0, 1, 0, 1, 0] B13) s H = seqNext P Γ call n f m (cAt [1, 1, 1, 0, 1, 0, 0, 1, 1, 0, 0, 1, 0, 1, 0, 1] B13) (evCode P Γ call n f m (cAt [1, 1, 1, 0, 1, 0, 0, 1, 1, 0, 0, 1, 0, 1, 0, 0] B13) s H) := at_seq (by kernel_rfl) rfl rfl s H
noncomputable def r13_77 : {l : List Oper // opsOf (cAt [1, 1, 1, 0, 1, 0, 0, 1, 1, 0, 0, 1, 0, 1, 0, 0] B13) = l} := by
  apply Subtype.mk
  dsimp only [opsOf, cAt, kids, B13, bodyOf, Try.f13, List.getD, List.getElem?_cons_zero, List.getElem?_cons_succ, Option.getD_some]
@[simp] theorem n13_77 (s : List V) (H : Heap) : evCode P Γ call n f m (cAt [1, 1, 1, 0, 1, 0, 0, 1, 1, 0, 0, 1, 0, 1, 0, 0] B13) s H = regNext (evOpsGo P Γ call r13_77.1 r13_77.1 s H) := at_region (by kernel_rfl) r13_77.2 s H
attribute [simp] r13_77
@[simp] theorem n13_78 (s : List V) (H : Heap) : evCode P Γ call n f m (cAt [1, 1, 1, 0, 1, 0, 0, 1, 1, 0, 0, 1, 0, 1, 0, 1] B13) s H = some (.ret, s, H) := at_ret (by kernel_rfl) s H
@[simp] theorem n13_79 (s : List V) (H : Heap) : evCode P Γ call n f m (cAt [1, 1, 1, 0, 1, 0, 0, 1, 1, 0, 0, 1, 0, 1, 1] B13) s H = some (.normal, s, H) := at_skip (by kernel_rfl) s H
@[simp] theorem n13_80 (s : List V) (H : Heap) : evCode P Γ call n f m (cAt [1, 1, 1, 0, 1, 0, 0, 1, 1, 0, 0, 1, 1] B13) s H = seqNext P Γ call n f m (cAt [1, 1, 1, 0, 1, 0, 0, 1, 1, 0, 0, 1, 1, 1] B13) (evCode P Γ call n f m (cAt [1, 1, 1, 0, 1, 0, 0, 1, 1, 0, 0, 1, 1, 0] B13) s H) := at_seq (by kernel_rfl) rfl rfl s H
@[simp] theorem n13_81 (s : List V) (H : Heap) : evCode P Γ call n f m (cAt [1, 1, 1, 0, 1, 0, 0, 1, 1, 0, 0, 1, 1, 0] B13) s H = seqNext P Γ call n f m (cAt [1, 1, 1, 0, 1, 0, 0, 1, 1, 0, 0, 1, 1, 0, 1] B13) (evCode P Γ call n f m (cAt [1, 1, 1, 0, 1, 0, 0, 1, 1, 0, 0, 1, 1, 0, 0] B13) s H) := at_seq (by kernel_rfl) rfl rfl s H
noncomputable def r13_82 : {l : List Oper // opsOf (cAt [1, 1, 1, 0, 1, 0, 0, 1, 1, 0, 0, 1, 1, 0, 0] B13) = l} := by
  apply Subtype.mk
  dsimp only [opsOf, cAt, kids, B13, bodyOf, Try.f13, List.getD, List.getElem?_cons_zero, List.getElem?_cons_succ, Option.getD_some]
@[simp] theorem n13_82 (s : List V) (H : Heap) : evCode P Γ call n f m (cAt [1, 1, 1, 0, 1, 0, 0, 1, 1, 0, 0, 1, 1, 0, 0] B13) s H = regNext (evOpsGo P Γ call r13_82.1 r13_82.1 s H) := at_region (by kernel_rfl) r13_82.2 s H
attribute [simp] r13_82
@[simp] theorem n13_83 (s : List V) (H : Heap) : evCode P Γ call n f m (cAt [1, 1, 1, 0, 1, 0, 0, 1, 1, 0, 0, 1, 1, 0, 1] B13) s H = condW P Γ call n f m (cAt [1, 1, 1, 0, 1, 0, 0, 1, 1, 0, 0, 1, 1, 0, 1, 0] B13) (cAt [1, 1, 1, 0, 1, 0, 0, 1, 1, 0, 0, 1, 1, 0, 1, 1] B13) s H (evOperand Γ s (.tmp 85)) := at_cond (by kernel_rfl) (by kernel_rfl) rfl rfl s H
@[simp] theorem n13_84 (s : List V) (H : Heap) : evCode P Γ call n f m (cAt [1, 1, 1, 0, 1, 0, 0, 1, 1, 0, 0, 1, 1, 0, 1, 0] B13) s H = seqNext P Γ call n f m (cAt [1, 1, 1, 0, 1, 0, 0, 1, 1, 0, 0, 1, 1, 0, 1, 0, 1] B13) (evCode P Γ call n f m (cAt [1, 1, 1, 0, 1, 0, 0, 1, 1, 0, 0, 1, 1, 0, 1, 0, 0] B13) s H) := at_seq (by kernel_rfl) rfl rfl s H
noncomputable def r13_85 : {l : List Oper // opsOf (cAt [1, 1, 1, 0, 1, 0, 0, 1, 1, 0, 0, 1, 1, 0, 1, 0, 0] B13) = l} := by
  apply Subtype.mk
  dsimp only [opsOf, cAt, kids, B13, bodyOf, Try.f13, List.getD, List.getElem?_cons_zero, List.getElem?_cons_succ, Option.getD_some]
@[simp] theorem n13_85 (s : List V) (H : Heap) : evCode P Γ call n f m (cAt [1, 1, 1, 0, 1, 0, 0, 1, 1, 0, 0, 1, 1, 0, 1, 0, 0] B13) s H = regNext (evOpsGo P Γ call r13_85.1 r13_85.1 s H) := at_region (by kernel_rfl) r13_85.2 s H
attribute [simp] r13_85
@[simp] theorem n13_86 (s : List V) (H : Heap) : evCode P Γ call n f m (cAt [1, 1, 1, 0, 1, 0, 0, 1, 1, 0, 0, 1, 1, 0, 1, 0, 1] B13) s H = some (.ret, s, H) := at_ret (by kernel_rfl) s H
@[simp] theorem n13_87 (s : List V) (H : Heap) : evCode P Γ call n f m (cAt [1, 1, 1, 0, 1, 0, 0, 1, 1, 0, 0, 1, 1, 0, 1, 1] B13) s H = some (.normal, s, H) := at_skip (by kernel_rfl) s H
@[simp] theorem n13_88 (s : List V) (H : Heap) : evCode P Γ call n f m (cAt [1, 1, 1, 0, 1, 0, 0, 1, 1, 0, 0, 1, 1, 1] B13) s H = seqNext P Γ call n f m (cAt [1, 1, 1, 0, 1, 0, 0, 1, 1, 0, 0, 1, 1, 1, 1] B13) (evCode P Γ call n f m (cAt [1, 1, 1, 0, 1, 0, 0, 1, 1, 0, 0, 1, 1, 1, 0] B13) s H) := at_seq (by kernel_rfl) rfl rfl s H
noncomputable def r13_89 : {l : List Oper // opsOf (cAt [1, 1, 1, 0, 1, 0, 0, 1, 1, 0, 0, 1, 1, 1, 0] B13) = l} := by
  apply Subtype.mk
  dsimp only [opsOf, cAt, kids, B13, bodyOf, Try.f13, List.getD, List.getElem?_cons_zero, List.getElem?_cons_succ, Option.getD_some]
@[simp] theorem n13_89 (s : List V) (H : Heap) : evCode P Γ call n f m (cAt [1, 1, 1, 0, 1, 0, 0, 1, 1, 0, 0, 1, 1, 1, 0] B13) s H = regNext (evOpsGo P Γ call r13_89.1 r13_89.1 s H) := at_region (by kernel_rfl) r13_89.2 s H
attribute [simp] r13_89
@[simp] theorem n13_90 (s : List V) (H : Heap) : evCode P Γ call n f m (cAt [1, 1, 1, 0, 1, 0, 0, 1, 1, 0, 0, 1, 1, 1, 1] B13) s H = condW P Γ call n f m (cAt [1, 1, 1, 0, 1, 0, 0, 1, 1, 0, 0, 1, 1, 1, 1, 0] B13) (cAt [1, 1, 1, 0, 1, 0, 0, 1, 1, 0, 0, 1, 1, 1, 1, 1] B13) s H (evOperand Γ s (.tmp 100)) := at_cond (by kernel_rfl) (by kernel_rfl) rfl rfl s H
@[simp] theorem n13_91 (s : List V) (H : Heap) : evCode P Γ call n f m (cAt [1, 1, 1, 0, 1, 0, 0, 1, 1, 0, 0, 1, 1, 1, 1, 0] B13) s H = seqNext P Γ call n f m (cAt [1, 1, 1, 0, 1, 0, 0, 1, 1, 0, 0, 1, 1, 1, 1, 0, 1] B13) (evCode P Γ call n f m (cAt [1, 1, 1, 0, 1, 0, 0, 1, 1, 0, 0, 1, 1, 1, 1, 0, 0] B13) s H) := at_seq (by kernel_rfl) rfl rfl s H
noncomputable def r13_92 : {l : List Oper // opsOf (cAt [1, 1, 1, 0, 1, 0, 0, 1, 1, 0, 0, 1, 1, 1, 1, 0, 0] B13) = l} := by
  apply Subtype.mk
  dsimp only [opsOf, cAt, kids, B13, bodyOf, Try.f13, List.getD, List.getElem?_cons_zero, List.getElem?_cons_succ, Option.getD_some]
@[simp] theorem n13_92 (s : List V) (H : Heap) : evCode P Γ call n f m (cAt [1, 1, 1, 0, 1, 0, 0, 1, 1, 0, 0, 1, 1, 1, 1, 0, 0] B13) s H = regNext (evOpsGo P Γ call r13_92.1 r13_92.1 s H) := at_region (by kernel_rfl) r13_92.2 s H
attribute [simp] r13_92
@[simp] theorem n13_93 (s : List V) (H : Heap) : evCode P Γ call n f m (cAt [1, 1, 1, 0, 1, 0, 0, 1, 1, 0, 0, 1, 1, 1, 1, 0, 1] B13) s H = some (.ret, s, H) := at_ret (by kernel_rfl) s H
@[simp] theorem n13_94 (s : List V) (H : Heap) : evCode P Γ call n f m (cAt [1, 1, 1, 0, 1, 0, 0, 1, 1, 0, 0, 1, 1, 1, 1, 1] B13) s H = some (.normal, s, H) := at_skip (by kernel_rfl) s H
noncomputable def r13_95 : {l : List Oper // opsOf (cAt [1, 1, 1, 0, 1, 0, 0, 1, 1, 1] B13) = l} := by
  apply Subtype.mk
  dsimp only [opsOf, cAt, kids, B13, bodyOf, Try.f13, List.getD, List.getElem?_cons_zero, List.getElem?_cons_succ, Option.getD_some]
@[simp] theorem n13_95 (s : List V) (H : Heap) : evCode P Γ call n f m (cAt [1, 1, 1, 0, 1, 0, 0, 1, 1, 1] B13) s H = regNext (evOpsGo P Γ call r13_95.1 r13_95.1 s H) := at_region (by kernel_rfl) r13_95.2 s H
attribute [simp] r13_95
@[simp] theorem n13_96 (s : List V) (H : Heap) : evCode P Γ call n f m (cAt [1, 1, 1, 1] B13) s H = seqNext P Γ call n f m (cAt [1, 1, 1, 1, 1] B13) (evCode P Γ call n f m (cAt [1, 1, 1, 1, 0] B13) s H) := at_seq (by kernel_rfl) rfl rfl s H
noncomputable def r13_97 : {l : List Oper // opsOf (cAt [1, 1, 1, 1, 0] B13) = l} := by
  apply Subtype.mk
  dsimp only [opsOf, cAt, kids, B13, bodyOf, Try.f13, List.getD, List.getElem?_cons_zero, List.getElem?_cons_succ, Option.getD_some]
@[simp] theorem n13_97 (s : List V) (H : Heap) : evCode P Γ call n f m (cAt [1, 1, 1, 1, 0] B13) s H = regNext (evOpsGo P Γ call r13_97.1 r13_97.1 s H) := at_region (by kernel_rfl) r13_97.2 s H
attribute [simp] r13_97
@[simp] theorem n13_98 (s : List V) (H : Heap) : evCode P Γ call n f m (cAt [1, 1, 1, 1, 1] B13) s H = some (.ret, s, H) := at_ret (by kernel_rfl) s H
theorem b13 {k : Nat} (ho : ∀ args H, Γ.orc 13 args H = none) (args : List V) (H : Heap) (ha : args.length ≤ 102) : evF Try.prog Γ (k + 1) 13 args H = bodyEnd Try.prog [.tmp 4] H.length (evCode Try.prog Γ (evF Try.prog Γ k) k 13 H.length (cAt [] B13) (mkL 102 V.undef (enumV 0 args)) H) := body_at Try.func13 (by decide) rfl ho rfl rfl args H ha
end
end Go.Ev.Try
