/-
  CODE BY NAMES, printed by wip/tools/codes.py (own work).
-/
import Derived.Test.YtflmadkbppnmcaaDoorDkG
set_option maxRecDepth 100000
set_option linter.unusedVariables false
namespace Go.Ev.Tryd
open Go Go.Ev Go.Proofs
section
variable {P : Program} {Γ : Env} {call : CallF} {n f m : Nat}

noncomputable def B8 : Code := bodyOf Tryd.f8
@[simp] theorem n8_1 (s : List V) (H : Heap) : evCode P Γ call n f m (cAt [] B8) s H = seqNext P Γ call n f m (cAt [1] B8) (evCode P Γ call n f m (cAt [0] B8) s H) := at_seq (by kernel_rfl) rfl rfl s H
noncomputable def r8_2 : {l : List Oper // opsOf (cAt [0] B8) = l} := by
  apply Subtype.mk
  dsimp only [opsOf, cAt, kids, B8, bodyOf, Tryd.f8, List.getD, List.getElem?_cons_zero, List.getElem?_cons_succ, Option.getD_some]
@[simp] theorem n8_2 (s : List V) (H : Heap) : evCode P Γ call n f m (cAt [0] B8) s H = regNext (evOpsGo P Γ call r8_2.1 r8_2.1 s H) := at_region (by kernel_rfl) r8_2.2 s H
attribute [simp] r8_2
@[simp] theorem n8_3 (s : List V) (H : Heap) : evCode P Γ call n f m (cAt [1] B8) s H = seqNext P Γ call n f m (cAt [1, 1] B8) (evCode P Γ call n f m (cAt [1, 0] B8) s H) := at_seq (by kernel_rfl) rfl rfl s H
@[simp] theorem n8_4 (s : List V) (H : Heap) : evCode P Γ call n f m (cAt [1, 0] B8) s H = seqNext P Γ call n f m (cAt [1, 0, 1] B8) (evCode P Γ call n f m (cAt [1, 0, 0] B8) s H) := at_seq (by kernel_rfl) rfl rfl s H
noncomputable def r8_5 : {l : List Oper // opsOf (cAt [1, 0, 0] B8) = l} := by
  apply Subtype.mk
  dsimp only [opsOf, cAt, kids, B8, bodyOf, Tryd.f8, List.getD, List.getElem?_cons_zero, List.getElem?_cons_succ, Option.getD_some]
@[simp] theorem n8_5 (s : List V) (H : Heap) : evCode P Γ call n f m (cAt [1, 0, 0] B8) s H = regNext (evOpsGo P Γ call r8_5.1 r8_5.1 s H) := at_region (by kernel_rfl) r8_5.2 s H
attribute [simp] r8_5
@[simp] theorem n8_6 (s : List V) (H : Heap) : evCode P Γ call n f m (cAt [1, 0, 1] B8) s H = seqNext P Γ call n f m (cAt [1, 0, 1, 1] B8) (evCode P Γ call n f m (cAt [1, 0, 1, 0] B8) s H) := at_seq (by kernel_rfl) rfl rfl s H
noncomputable def r8_7 : {l : List Oper // opsOf (cAt [1, 0, 1, 0] B8) = l} := by
  apply Subtype.mk
  dsimp only [opsOf, cAt, kids, B8, bodyOf, Tryd.f8, List.getD, List.getElem?_cons_zero, List.getElem?_cons_succ, Option.getD_some]
@[simp] theorem n8_7 (s : List V) (H : Heap) : evCode P Γ call n f m (cAt [1, 0, 1, 0] B8) s H = regNext (evOpsGo P Γ call r8_7.1 r8_7.1 s H) := at_region (by kernel_rfl) r8_7.2 s H
attribute [simp] r8_7
@[simp] theorem n8_8 (s : List V) (H : Heap) : evCode P Γ call n f m (cAt [1, 0, 1, 1] B8) s H = condW P Γ call n f m (cAt [1, 0, 1, 1, 0] B8) (cAt [1, 0, 1, 1, 1] B8) s H (evOperand Γ s (.tmp 13)) := at_cond (by kernel_rfl) (by kernel_rfl) rfl rfl s H
@[simp] theorem n8_9 (s : List V) (H : Heap) : evCode P Γ call n f m (cAt [1, 0, 1, 1, 0] B8) s H = seqNext P Γ call n f m (cAt [1, 0, 1, 1, 0, 1] B8) (evCode P Γ call n f m (cAt [1, 0, 1, 1, 0, 0] B8) s H) := at_seq (by kernel_rfl) rfl rfl s H
noncomputable def r8_10 : {l : List Oper // opsOf (cAt [1, 0, 1, 1, 0, 0] B8) = l} := by
  apply Subtype.mk
  dsimp only [opsOf, cAt, kids, B8, bodyOf, Tryd.f8, List.getD, List.getElem?_cons_zero, List.getElem?_cons_succ, Option.getD_some]
@[simp] theorem n8_10 (s : List V) (H : Heap) : evCode P Γ call n f m (cAt [1, 0, 1, 1, 0, 0] B8) s H = regNext (evOpsGo P Γ call r8_10.1 r8_10.1 s H) := at_region (by kernel_rfl) r8_10.2 s H
attribute [simp] r8_10
@[simp] theorem n8_11 (s : List V) (H : Heap) : evCode P Γ call n f m (cAt [1, 0, 1, 1, 0, 1] B8) s H = some (.ret, s, H) := at_ret (by kernel_rfl) s H
@[simp] theorem n8_12 (s : List V) (H : Heap) : evCode P Γ call n f m (cAt [1, 0, 1, 1, 1] B8) s H = some (.normal, s, H) := at_skip (by kernel_rfl) s H
@[simp] theorem n8_13 (s : List V) (H : Heap) : evCode P Γ call n f m (cAt [1, 1] B8) s H = seqNext P Γ call n f m (cAt [1, 1, 1] B8) (evCode P Γ call n f m (cAt [1, 1, 0] B8) s H) := at_seq (by kernel_rfl) rfl rfl s H
noncomputable def r8_14 : {l : List Oper // opsOf (cAt [1, 1, 0] B8) = l} := by
  apply Subtype.mk
  dsimp only [opsOf, cAt, kids, B8, bodyOf, Tryd.f8, List.getD, List.getElem?_cons_zero, List.getElem?_cons_succ, Option.getD_some]
@[simp] theorem n8_14 (s : List V) (H : Heap) : evCode P Γ call n f m (cAt [1, 1, 0] B8) s H = regNext (evOpsGo P Γ call r8_14.1 r8_14.1 s H) := at_region (by kernel_rfl) r8_14.2 s H
attribute [simp] r8_14
@[simp] theorem n8_15 (s : List V) (H : Heap) : evCode P Γ call n f m (cAt [1, 1, 1] B8) s H = seqNext P Γ call n f m (cAt [1, 1, 1, 1] B8) (evCode P Γ call n f m (cAt [1, 1, 1, 0] B8) s H) := at_seq (by kernel_rfl) rfl rfl s H
@[simp] theorem n8_16 (s : List V) (H : Heap) : evCode P Γ call n f m (cAt [1, 1, 1, 0] B8) s H = seqNext P Γ call n f m (cAt [1, 1, 1, 0, 1] B8) (evCode P Γ call n f m (cAt [1, 1, 1, 0, 0] B8) s H) := at_seq (by kernel_rfl) rfl rfl s H
noncomputable def r8_17 : {l : List Oper // opsOf (cAt [1, 1, 1, 0, 0] B8) = l} := by
  apply Subtype.mk
  dsimp only [opsOf, cAt, kids, B8, bodyOf, Tryd.f8, List.getD, List.getElem?_cons_zero, List.getElem?_cons_succ, Option.getD_some]
@[simp] theorem n8_17 (s : List V) (H : Heap) : evCode P Γ call n f m (cAt [1, 1, 1, 0, 0] B8) s H = regNext (evOpsGo P Γ call r8_17.1 r8_17.1 s H) := at_region (by kernel_rfl) r8_17.2 s H
attribute [simp] r8_17
@[simp] theorem n8_18 (s : List V) (H : Heap) : evCode P Γ call n f m (cAt [1, 1, 1, 0, 1] B8) s H = condW P Γ call n f m (cAt [1, 1, 1, 0, 1, 0] B8) (cAt [1, 1, 1, 0, 1, 1] B8) s H (evOperand Γ s (.tmp 22)) := at_cond (by kernel_rfl) (by kernel_rfl) rfl rfl s H
@[simp] theorem n8_19 (s : List V) (H : Heap) : evCode P Γ call n f m (cAt [1, 1, 1, 0, 1, 0] B8) s H = seqNext P Γ call n f m (cAt [1, 1, 1, 0, 1, 0, 1] B8) (evCode P Γ call n f m (cAt [1, 1, 1, 0, 1, 0, 0] B8) s H) := at_seq (by kernel_rfl) rfl rfl s H
noncomputable def r8_20 : {l : List Oper // opsOf (cAt [1, 1, 1, 0, 1, 0, 0] B8) = l} := by
  apply Subtype.mk
  dsimp only [opsOf, cAt, kids, B8, bodyOf, Tryd.f8, List.getD, List.getElem?_cons_zero, List.getElem?_cons_succ, Option.getD_some]
@[simp] theorem n8_20 (s : List V) (H : Heap) : evCode P Γ call n f m (cAt [1, 1, 1, 0, 1, 0, 0] B8) s H = regNext (evOpsGo P Γ call r8_20.1 r8_20.1 s H) := at_region (by kernel_rfl) r8_20.2 s H
attribute [simp] r8_20
@[simp] theorem n8_21 (s : List V) (H : Heap) : evCode P Γ call n f m (cAt [1, 1, 1, 0, 1, 0, 1] B8) s H = some (.ret, s, H) := at_ret (by kernel_rfl) s H
@[simp] theorem n8_22 (s : List V) (H : Heap) : evCode P Γ call n f m (cAt [1, 1, 1, 0, 1, 1] B8) s H = some (.normal, s, H) := at_skip (by kernel_rfl) s H
@[simp] theorem n8_23 (s : List V) (H : Heap) : evCode P Γ call n f m (cAt [1, 1, 1, 1] B8) s H = seqNext P Γ call n f m (cAt [1, 1, 1, 1, 1] B8) (evCode P Γ call n f m (cAt [1, 1, 1, 1, 0] B8) s H) := at_seq (by kernel_rfl) rfl rfl s H
noncomputable def r8_24 : {l : List Oper // opsOf (cAt [1, 1, 1, 1, 0] B8) = l} := by
  apply Subtype.mk
  dsimp only [opsOf, cAt, kids, B8, bodyOf, Tryd.f8, List.getD, List.getElem?_cons_zero, List.getElem?_cons_succ, Option.getD_some]
@[simp] theorem n8_24 (s : List V) (H : Heap) : evCode P Γ call n f m (cAt [1, 1, 1, 1, 0] B8) s H = regNext (evOpsGo P Γ call r8_24.1 r8_24.1 s H) := at_region (by kernel_rfl) r8_24.2 s H
attribute [simp] r8_24
@[simp] theorem n8_25 (s : List V) (H : Heap) : evCode P Γ call n f m (cAt [1, 1, 1, 1, 1] B8) s H = some (.ret, s, H) := at_ret (by kernel_rfl) s H
theorem b8 {k : Nat} (ho : ∀ args H, Γ.orc 8 args H = none) (args : List V) (H : Heap) (ha : args.length ≤ 31) : evF Tryd.prog Γ (k + 1) 8 args H = bodyEnd Tryd.prog [.tmp 4, .tmp 5] H.length (evCode Tryd.prog Γ (evF Tryd.prog Γ k) k 8 H.length (cAt [] B8) (mkL 31 V.undef (enumV 0 args)) H) := body_at Tryd.func8 (by decide) rfl ho rfl rfl args H ha
noncomputable def B24 : Code := bodyOf Tryd.f24
@[simp] theorem n24_1 (s : List V) (H : Heap) : evCode P Γ call n f m (cAt [] B24) s H = seqNext P Γ call n f m (cAt [1] B24) (evCode P Γ call n f m (cAt [0] B24) s H) := at_seq (by kernel_rfl) rfl rfl s H
noncomputable def r24_2 : {l : List Oper // opsOf (cAt [0] B24) = l} := by
  apply Subtype.mk
  dsimp only [opsOf, cAt, kids, B24, bodyOf, Tryd.f24, List.getD, List.getElem?_cons_zero, List.getElem?_cons_succ, Option.getD_some]
@[simp] theorem n24_2 (s : List V) (H : Heap) : evCode P Γ call n f m (cAt [0] B24) s H = regNext (evOpsGo P Γ call r24_2.1 r24_2.1 s H) := at_region (by kernel_rfl) r24_2.2 s H
attribute [simp] r24_2
@[simp] theorem n24_3 (s : List V) (H : Heap) : evCode P Γ call n f m (cAt [1] B24) s H = seqNext P Γ call n f m (cAt [1, 1] B24) (evCode P Γ call n f m (cAt [1, 0] B24) s H) := at_seq (by kernel_rfl) rfl rfl s H
noncomputable def r24_4 : {l : List Oper // opsOf (cAt [1, 0] B24) = l} := by
  apply Subtype.mk
  dsimp only [opsOf, cAt, kids, B24, bodyOf, Tryd.f24, List.getD, List.getElem?_cons_zero, List.getElem?_cons_succ, Option.getD_some]
@[simp] theorem n24_4 (s : List V) (H : Heap) : evCode P Γ call n f m (cAt [1, 0] B24) s H = regNext (evOpsGo P Γ call r24_4.1 r24_4.1 s H) := at_region (by kernel_rfl) r24_4.2 s H
attribute [simp] r24_4
@[simp] theorem n24_5 (s : List V) (H : Heap) : evCode P Γ call n f m (cAt [1, 1] B24) s H = seqNext P Γ call n f m (cAt [1, 1, 1] B24) (evCode P Γ call n f m (cAt [1, 1, 0] B24) s H) := at_seq (by kernel_rfl) rfl rfl s H
noncomputable def r24_6 : {l : List Oper // opsOf (cAt [1, 1, 0] B24) = l} := by
  apply Subtype.mk
  dsimp only [opsOf, cAt, kids, B24, bodyOf, Tryd.f24, List.getD, List.getElem?_cons_zero, List.getElem?_cons_succ, Option.getD_some]
@[simp] theorem n24_6 (s : List V) (H : Heap) : evCode P Γ call n f m (cAt [1, 1, 0] B24) s H = regNext (evOpsGo P Γ call r24_6.1 r24_6.1 s H) := at_region (by kernel_rfl) r24_6.2 s H
attribute [simp] r24_6
@[simp] theorem n24_7 (s : List V) (H : Heap) : evCode P Γ call n f m (cAt [1, 1, 1] B24) s H = seqNext P Γ call n f m (cAt [1, 1, 1, 1] B24) (evCode P Γ call n f m (cAt [1, 1, 1, 0] B24) s H) := at_seq (by kernel_rfl) rfl rfl s H
noncomputable def r24_8 : {l : List Oper // opsOf (cAt [1, 1, 1, 0] B24) = l} := by
  apply Subtype.mk
  dsimp only [opsOf, cAt, kids, B24, bodyOf, Tryd.f24, List.getD, List.getElem?_cons_zero, List.getElem?_cons_succ, Option.getD_some]
@[simp] theorem n24_8 (s : List V) (H : Heap) : evCode P Γ call n f m (cAt [1, 1, 1, 0] B24) s H = regNext (evOpsGo P Γ call r24_8.1 r24_8.1 s H) := at_region (by kernel_rfl) r24_8.2 s H
attribute [simp] r24_8
@[simp] theorem n24_9 (s : List V) (H : Heap) : evCode P Γ call n f m (cAt [1, 1, 1, 1] B24) s H = some (.ret, s, H) := at_ret (by kernel_rfl) s H
theorem b24 {k : Nat} (ho : ∀ args H, Γ.orc 24 args H = none) (args : List V) (H : Heap) (ha : args.length ≤ 15) : evF Tryd.prog Γ (k + 1) 24 args H = bodyEnd Tryd.prog [.tmp 4, .tmp 5] H.length (evCode Tryd.prog Γ (evF Tryd.prog Γ k) k 24 H.length (cAt [] B24) (mkL 15 V.undef (enumV 0 args)) H) := body_at Tryd.func24 (by decide) rfl ho rfl rfl args H ha
noncomputable def B25 : Code := bodyOf Tryd.f25
@[simp] theorem n25_1 (s : List V) (H : Heap) : evCode P Γ call n f m (cAt [] B25) s H = seqNext P Γ call n f m (cAt [1] B25) (evCode P Γ call n f m (cAt [0] B25) s H) := at_seq (by kernel_rfl) rfl rfl s H
noncomputable def r25_2 : {l : List Oper // opsOf (cAt [0] B25) = l} := by
  apply Subtype.mk
  dsimp only [opsOf, cAt, kids, B25, bodyOf, Tryd.f25, List.getD, List.getElem?_cons_zero, List.getElem?_cons_succ, Option.getD_some]
@[simp] theorem n25_2 (s : List V) (H : Heap) : evCode P Γ call n f m (cAt [0] B25) s H = regNext (evOpsGo P Γ call r25_2.1 r25_2.1 s H) := at_region (by kernel_rfl) r25_2.2 s H
attribute [simp] r25_2
@[simp] theorem n25_3 (s : List V) (H : Heap) : evCode P Γ call n f m (cAt [1] B25) s H = seqNext P Γ call n f m (cAt [1, 1] B25) (evCode P Γ call n f m (cAt [1, 0] B25) s H) := at_seq (by kernel_rfl) rfl rfl s H
noncomputable def r25_4 : {l : List Oper // opsOf (cAt [1, 0] B25) = l} := by
  apply Subtype.mk
  dsimp only [opsOf, cAt, kids, B25, bodyOf, Tryd.f25, List.getD, List.getElem?_cons_zero, List.getElem?_cons_succ, Option.getD_some]
@[simp] theorem n25_4 (s : List V) (H : Heap) : evCode P Γ call n f m (cAt [1, 0] B25) s H = regNext (evOpsGo P Γ call r25_4.1 r25_4.1 s H) := at_region (by kernel_rfl) r25_4.2 s H
attribute [simp] r25_4
@[simp] theorem n25_5 (s : List V) (H : Heap) : evCode P Γ call n f m (cAt [1, 1] B25) s H = seqNext P Γ call n f m (cAt [1, 1, 1] B25) (evCode P Γ call n f m (cAt [1, 1, 0] B25) s H) := at_seq (by kernel_rfl) rfl rfl s H
@[simp] theorem n25_6 (s : List V) (H : Heap) : evCode P Γ call n f m (cAt [1, 1, 0] B25) s H = seqNext P Γ call n f m (cAt [1, 1, 0, 1] B25) (evCode P Γ call n f m (cAt [1, 1, 0, 0] B25) s H) := at_seq (by kernel_rfl) rfl rfl s H
noncomputable def r25_7 : {l : List Oper // opsOf (cAt [1, 1, 0, 0] B25) = l} := by
  apply Subtype.mk
  dsimp only [opsOf, cAt, kids, B25, bodyOf, Tryd.f25, List.getD, List.getElem?_cons_zero, List.getElem?_cons_succ, Option.getD_some]
@[simp] theorem n25_7 (s : List V) (H : Heap) : evCode P Γ call n f m (cAt [1, 1, 0, 0] B25) s H = regNext (evOpsGo P Γ call r25_7.1 r25_7.1 s H) := at_region (by kernel_rfl) r25_7.2 s H
attribute [simp] r25_7
@[simp] theorem n25_8 (s : List V) (H : Heap) : evCode P Γ call n f m (cAt [1, 1, 0, 1] B25) s H = blockNext 0 (evCode P Γ call n f m (cAt [1, 1, 0, 1, 0] B25) s H) := at_block (by kernel_rfl) rfl s H
@[simp] theorem n25_9 (s : List V) (H : Heap) : evCode P Γ call n f m (cAt [1, 1, 0, 1, 0] B25) s H = evLoopC P Γ call n f m (cAt [1, 1, 0, 1, 0, 0] B25) n s H := at_loop (by kernel_rfl) rfl s H
noncomputable abbrev L25_3 : Code := cAt [1, 1, 0, 1, 0, 0] B25
@[simp] theorem n25_9f : firstRegion (cAt [1, 1, 0, 1, 0, 0] B25) = 3 := by kernel_rfl
@[simp] theorem n25_10 (s : List V) (H : Heap) : evCode P Γ call n f m (cAt [1, 1, 0, 1, 0, 0] B25) s H = seqNext P Γ call n f m (cAt [1, 1, 0, 1, 0, 0, 1] B25) (evCode P Γ call n f m (cAt [1, 1, 0, 1, 0, 0, 0] B25) s H) := at_seq (by kernel_rfl) rfl rfl s H
noncomputable def r25_11 : {l : List Oper // opsOf (cAt [1, 1, 0, 1, 0, 0, 0] B25) = l} := by
  apply Subtype.mk
  dsimp only [opsOf, cAt, kids, B25, bodyOf, Tryd.f25, List.getD, List.getElem?_cons_zero, List.getElem?_cons_succ, Option.getD_some]
@[simp] theorem n25_11 (s : List V) (H : Heap) : evCode P Γ call n f m (cAt [1, 1, 0, 1, 0, 0, 0] B25) s H = regNext (evOpsGo P Γ call r25_11.1 r25_11.1 s H) := at_region (by kernel_rfl) r25_11.2 s H
attribute [simp] r25_11
@[simp] theorem n25_12 (s : List V) (H : Heap) : evCode P Γ call n f m (cAt [1, 1, 0, 1, 0, 0, 1] B25) s H = seqNext P Γ call n f m (cAt [1, 1, 0, 1, 0, 0, 1, 1] B25) (evCode P Γ call n f m (cAt [1, 1, 0, 1, 0, 0, 1, 0] B25) s H) := at_seq (by kernel_rfl) rfl rfl s H
@[simp] theorem n25_13 (s : List V) (H : Heap) : evCode P Γ call n f m (cAt [1, 1, 0, 1, 0, 0, 1, 0] B25) s H = condW P Γ call n f m (cAt [1, 1, 0, 1, 0, 0, 1, 0, 0] B25) (cAt [1, 1, 0, 1, 0, 0, 1, 0, 1] B25) s H (evOperand Γ s (.tmp 11)) := at_cond (by kernel_rfl) (by kernel_rfl) rfl rfl s H
@[simp] theorem n25_14 (s : List V) (H : Heap) : evCode P Γ call n f m (cAt [1, 1, 0, 1, 0, 0, 1, 0, 0] B25) s H = some (.normal, s, H) := at_skip (by kernel_rfl) s H
@[simp] theorem n25_15 (s : List V) (H : Heap) : evCode P Γ call n f m (cAt [1, 1, 0, 1, 0, 0, 1, 0, 1] B25) s H = some (.exit 0, s, H) := at_exit (by kernel_rfl) s H
@[simp] theorem n25_16 (s : List V) (H : Heap) : evCode P Γ call n f m (cAt [1, 1, 0, 1, 0, 0, 1, 1] B25) s H = seqNext P Γ call n f m (cAt [1, 1, 0, 1, 0, 0, 1, 1, 1] B25) (evCode P Γ call n f m (cAt [1, 1, 0, 1, 0, 0, 1, 1, 0] B25) s H) := at_seq (by kernel_rfl) rfl rfl s H
@[simp] theorem n25_17 (s : List V) (H : Heap) : evCode P Γ call n f m (cAt [1, 1, 0, 1, 0, 0, 1, 1, 0] B25) s H = blockNext 1 (evCode P Γ call n f m (cAt [1, 1, 0, 1, 0, 0, 1, 1, 0, 0] B25) s H) := at_block (by kernel_rfl) rfl s H
@[simp] theorem n25_18 (s : List V) (H : Heap) : evCode P Γ call n f m (cAt [1, 1, 0, 1, 0, 0, 1, 1, 0, 0] B25) s H = seqNext P Γ call n f m (cAt [1, 1, 0, 1, 0, 0, 1, 1, 0, 0, 1] B25) (evCode P Γ call n f m (cAt [1, 1, 0, 1, 0, 0, 1, 1, 0, 0, 0] B25) s H) := at_seq (by kernel_rfl) rfl rfl s H
noncomputable def r25_19 : {l : List Oper // opsOf (cAt [1, 1, 0, 1, 0, 0, 1, 1, 0, 0, 0] B25) = l} := by
  apply Subtype.mk
  dsimp only [opsOf, cAt, kids, B25, bodyOf, Tryd.f25, List.getD, List.getElem?_cons_zero, List.getElem?_cons_succ, Option.getD_some]
@[simp] theorem n25_19 (s : List V) (H : Heap) : evCode P Γ call n f m (cAt [1, 1, 0, 1, 0, 0, 1, 1, 0, 0, 0] B25) s H = regNext (evOpsGo P Γ call r25_19.1 r25_19.1 s H) := at_region (by kernel_rfl) r25_19.2 s H
attribute [simp] r25_19
noncomputable def r25_20 : {l : List Oper // opsOf (cAt [1, 1, 0, 1, 0, 0, 1, 1, 0, 0, 1] B25) = l} := by
  apply Subtype.mk
  dsimp only [opsOf, cAt, kids, B25, bodyOf, Tryd.f25, List.getD, List.getElem?_cons_zero, List.getElem?_cons_succ, Option.getD_some]
@[simp] theorem n25_20 (s : List V) (H : Heap) : evCode P Γ call n f m (cAt [1, 1, 0, 1, 0, 0, 1, 1, 0, 0, 1] B25) s H = regNext (drawR P Γ call r25_20.1 [([1, 2, 3, 4, 5, 6, 7, 8, 9, 10, 11, 12, 13, 14, 15, 16, 17, 18, 19], [14, 15, 16, 17, 18, 19, 20, 21, 22, 23, 24, 25, 26, 27, 28, 29, 30, 31, 32]), ([0, 2, 3, 4, 10, 11, 12, 13, 14, 15, 16, 17], [13, 15, 16, 17, 23, 24, 25, 26, 27, 28, 29, 30]), ([0, 1, 3, 10, 11, 12, 13, 14, 15, 16, 17], [13, 14, 16, 23, 24, 25, 26, 27, 28, 29, 30]), ([0, 1, 2, 10, 11, 12, 13, 14, 15, 16, 17], [13, 14, 15, 23, 24, 25, 26, 27, 28, 29, 30]), ([0, 1, 10, 11, 12, 13, 14, 15, 16, 17], [13, 14, 23, 24, 25, 26, 27, 28, 29, 30]), ([0, 10, 11, 12, 13, 14, 15, 16, 17], [13, 23, 24, 25, 26, 27, 28, 29, 30]), ([0, 10, 11, 12, 13, 14, 15, 16, 17], [13, 23, 24, 25, 26, 27, 28, 29, 30]), ([0, 10, 11, 12, 13, 14, 15, 16, 17], [13, 23, 24, 25, 26, 27, 28, 29, 30]), ([0, 10, 11, 12, 13, 14, 15, 16, 17], [13, 23, 24, 25, 26, 27, 28, 29, 30]), ([0, 10, 11, 12, 13, 14, 15, 16, 17], [13, 23, 24, 25, 26, 27, 28, 29, 30]), ([0, 1, 2, 3, 4, 5, 6, 7, 8, 9, 13, 14, 15], [13, 14, 15, 16, 17, 18, 19, 20, 21, 22, 26, 27, 28]), ([0, 1, 2, 3, 4, 5, 6, 7, 8, 9, 13, 14, 15], [13, 14, 15, 16, 17, 18, 19, 20, 21, 22, 26, 27, 28]), ([0, 1, 2, 3, 4, 5, 6, 7, 8, 9, 13, 14, 15], [13, 14, 15, 16, 17, 18, 19, 20, 21, 22, 26, 27, 28]), ([0, 1, 2, 3, 4, 5, 6, 7, 8, 9, 10, 11, 12, 14], [13, 14, 15, 16, 17, 18, 19, 20, 21, 22, 23, 24, 25, 27]), ([0, 1, 2, 3, 4, 5, 6, 7, 8, 9, 10, 11, 12, 13], [13, 14, 15, 16, 17, 18, 19, 20, 21, 22, 23, 24, 25, 26]), ([0, 1, 2, 3, 4, 5, 6, 7, 8, 9, 10, 11, 12], [13, 14, 15, 16, 17, 18, 19, 20, 21, 22, 23, 24, 25]), ([0, 1, 2, 3, 4, 5, 6, 7, 8, 9], [13, 14, 15, 16, 17, 18, 19, 20, 21, 22]), ([0, 1, 2, 3, 4, 5, 6, 7, 8, 9], [13, 14, 15, 16, 17, 18, 19, 20, 21, 22]), ([0], [13]), ([0], [13]), ([], []), ([], [])] s H) := at_drawT (by kernel_rfl) r25_20.2 (by kernel_rfl) s H
attribute [simp] r25_20
noncomputable def r25_21 : {l : List Oper // opsOf (cAt [1, 1, 0, 1, 0, 0, 1, 1, 1] B25) = l} := by
  apply Subtype.mk
  dsimp only [opsOf, cAt, kids, B25, bodyOf, Tryd.f25, List.getD, List.getElem?_cons_zero, List.getElem?_cons_succ, Option.getD_some]
@[simp] theorem n25_21 (s : List V) (H : Heap) : evCode P Γ call n f m (cAt [1, 1, 0, 1, 0, 0, 1, 1, 1] B25) s H = regNext (evOpsGo P Γ call r25_21.1 r25_21.1 s H) := at_region (by kernel_rfl) r25_21.2 s H
attribute [simp] r25_21
@[simp] theorem n25_22 (s : List V) (H : Heap) : evCode P Γ call n f m (cAt [1, 1, 1] B25) s H = seqNext P Γ call n f m (cAt [1, 1, 1, 1] B25) (evCode P Γ call n f m (cAt [1, 1, 1, 0] B25) s H) := at_seq (by kernel_rfl) rfl rfl s H
noncomputable def r25_23 : {l : List Oper // opsOf (cAt [1, 1, 1, 0] B25) = l} := by
  apply Subtype.mk
  dsimp only [opsOf, cAt, kids, B25, bodyOf, Tryd.f25, List.getD, List.getElem?_cons_zero, List.getElem?_cons_succ, Option.getD_some]
@[simp] theorem n25_23 (s : List V) (H : Heap) : evCode P Γ call n f m (cAt [1, 1, 1, 0] B25) s H = regNext (evOpsGo P Γ call r25_23.1 r25_23.1 s H) := at_region (by kernel_rfl) r25_23.2 s H
attribute [simp] r25_23
@[simp] theorem n25_24 (s : List V) (H : Heap) : evCode P Γ call n f m (cAt [1, 1, 1, 1] B25) s H = some (.ret, s, H) := at_ret (by kernel_rfl) s H
theorem b25 {k : Nat} (ho : ∀ args H, Γ.orc 25 args H = none) (args : List V) (H : Heap) (ha : args.length ≤ 36) : evF Tryd.prog Γ (k + 1) 25 args H = bodyEnd Tryd.prog [.tmp 6] H.length (evCode Tryd.prog Γ (evF Tryd.prog Γ k) k 25 H.length (cAt [] B25) (mkL 36 V.undef (enumV 0 args)) H) := body_at Tryd.func25 (by decide) rfl ho rfl rfl args H ha
noncomputable def B30 : Code := bodyOf Tryd.f30
@[simp] theorem n30_1 (s : List V) (H : Heap) : evCode P Γ call n f m (cAt [] B30) s H = seqNext P Γ call n f m (cAt [1] B30) (evCode P Γ call n f m (cAt [0] B30) s H) := at_seq (by kernel_rfl) rfl rfl s H
noncomputable def r30_2 : {l : List Oper // opsOf (cAt [0] B30) = l} := by
  apply Subtype.mk
  dsimp only [opsOf, cAt, kids, B30, bodyOf, Tryd.f30, List.getD, List.getElem?_cons_zero, List.getElem?_cons_succ, Option.getD_some]
@[simp] theorem n30_2 (s : List V) (H : Heap) : evCode P Γ call n f m (cAt [0] B30) s H = regNext (evOpsGo P Γ call r30_2.1 r30_2.1 s H) := at_region (by kernel_rfl) r30_2.2 s H
attribute [simp] r30_2
@[simp] theorem n30_3 (s : List V) (H : Heap) : evCode P Γ call n f m (cAt [1] B30) s H = seqNext P Γ call n f m (cAt [1, 1] B30) (evCode P Γ call n f m (cAt [1, 0] B30) s H) := at_seq (by kernel_rfl) rfl rfl s H
noncomputable def r30_4 : {l : List Oper // opsOf (cAt [1, 0] B30) = l} := by
  apply Subtype.mk
  dsimp only [opsOf, cAt, kids, B30, bodyOf, Tryd.f30, List.getD, List.getElem?_cons_zero, List.getElem?_cons_succ, Option.getD_some]
@[simp] theorem n30_4 (s : List V) (H : Heap) : evCode P Γ call n f m (cAt [1, 0] B30) s H = regNext (evOpsGo P Γ call r30_4.1 r30_4.1 s H) := at_region (by kernel_rfl) r30_4.2 s H
attribute [simp] r30_4
@[simp] theorem n30_5 (s : List V) (H : Heap) : evCode P Γ call n f m (cAt [1, 1] B30) s H = seqNext P Γ call n f m (cAt [1, 1, 1] B30) (evCode P Γ call n f m (cAt [1, 1, 0] B30) s H) := at_seq (by kernel_rfl) rfl rfl s H
noncomputable def r30_6 : {l : List Oper // opsOf (cAt [1, 1, 0] B30) = l} := by
  apply Subtype.mk
  dsimp only [opsOf, cAt, kids, B30, bodyOf, Tryd.f30, List.getD, List.getElem?_cons_zero, List.getElem?_cons_succ, Option.getD_some]
@[simp] theorem n30_6 (s : List V) (H : Heap) : evCode P Γ call n f m (cAt [1, 1, 0] B30) s H = regNext (evOpsGo P Γ call r30_6.1 r30_6.1 s H) := at_region (by kernel_rfl) r30_6.2 s H
attribute [simp] r30_6
@[simp] theorem n30_7 (s : List V) (H : Heap) : evCode P Γ call n f m (cAt [1, 1, 1] B30) s H = seqNext P Γ call n f m (cAt [1, 1, 1, 1] B30) (evCode P Γ call n f m (cAt [1, 1, 1, 0] B30) s H) := at_seq (by kernel_rfl) rfl rfl s H
@[simp] theorem n30_8 (s : List V) (H : Heap) : evCode P Γ call n f m (cAt [1, 1, 1, 0] B30) s H = blockNext 0 (evCode P Γ call n f m (cAt [1, 1, 1, 0, 0] B30) s H) := at_block (by kernel_rfl) rfl s H
@[simp] theorem n30_9 (s : List V) (H : Heap) : evCode P Γ call n f m (cAt [1, 1, 1, 0, 0] B30) s H = evLoopC P Γ call n f m (cAt [1, 1, 1, 0, 0, 0] B30) n s H := at_loop (by kernel_rfl) rfl s H
noncomputable abbrev L30_3 : Code := cAt [1, 1, 1, 0, 0, 0] B30
@[simp] theorem n30_9f : firstRegion (cAt [1, 1, 1, 0, 0, 0] B30) = 3 := by kernel_rfl
@[simp] theorem n30_10 (s : List V) (H : Heap) : evCode P Γ call n f m (cAt [1, 1, 1, 0, 0, 0] B30) s H = seqNext P Γ call n f m (cAt [1, 1, 1, 0, 0, 0, 1] B30) (evCode P Γ call n f m (cAt [1, 1, 1, 0, 0, 0, 0] B30) s H) := at_seq (by kernel_rfl) rfl rfl s H
@[simp] theorem n30_11 (s : List V) (H : Heap) : evCode P Γ call n f m (cAt [1, 1, 1, 0, 0, 0, 0] B30) s H = seqNext P Γ call n f m (cAt [1, 1, 1, 0, 0, 0, 0, 1] B30) (evCode P Γ call n f m (cAt [1, 1, 1, 0, 0, 0, 0, 0] B30) s H) := at_seq (by kernel_rfl) rfl rfl s H
noncomputable def r30_12 : {l : List Oper // opsOf (cAt [1, 1, 1, 0, 0, 0, 0, 0] B30) = l} := by
  apply Subtype.mk
  dsimp only [opsOf, cAt, kids, B30, bodyOf, Tryd.f30, List.getD, List.getElem?_cons_zero, List.getElem?_cons_succ, Option.getD_some]
@[simp] theorem n30_12 (s : List V) (H : Heap) : evCode P Γ call n f m (cAt [1, 1, 1, 0, 0, 0, 0, 0] B30) s H = regNext (evOpsGo P Γ call r30_12.1 r30_12.1 s H) := at_region (by kernel_rfl) r30_12.2 s H
attribute [simp] r30_12
@[simp] theorem n30_13 (s : List V) (H : Heap) : evCode P Γ call n f m (cAt [1, 1, 1, 0, 0, 0, 0, 1] B30) s H = condW P Γ call n f m (cAt [1, 1, 1, 0, 0, 0, 0, 1, 0] B30) (cAt [1, 1, 1, 0, 0, 0, 0, 1, 1] B30) s H (evOperand Γ s (.tmp 15)) := at_cond (by kernel_rfl) (by kernel_rfl) rfl rfl s H
@[simp] theorem n30_14 (s : List V) (H : Heap) : evCode P Γ call n f m (cAt [1, 1, 1, 0, 0, 0, 0, 1, 0] B30) s H = some (.normal, s, H) := at_skip (by kernel_rfl) s H
@[simp] theorem n30_15 (s : List V) (H : Heap) : evCode P Γ call n f m (cAt [1, 1, 1, 0, 0, 0, 0, 1, 1] B30) s H = some (.exit 0, s, H) := at_exit (by kernel_rfl) s H
@[simp] theorem n30_16 (s : List V) (H : Heap) : evCode P Γ call n f m (cAt [1, 1, 1, 0, 0, 0, 1] B30) s H = blockNext 1 (evCode P Γ call n f m (cAt [1, 1, 1, 0, 0, 0, 1, 0] B30) s H) := at_block (by kernel_rfl) rfl s H
@[simp] theorem n30_17 (s : List V) (H : Heap) : evCode P Γ call n f m (cAt [1, 1, 1, 0, 0, 0, 1, 0] B30) s H = seqNext P Γ call n f m (cAt [1, 1, 1, 0, 0, 0, 1, 0, 1] B30) (evCode P Γ call n f m (cAt [1, 1, 1, 0, 0, 0, 1, 0, 0] B30) s H) := at_seq (by kernel_rfl) rfl rfl s H
noncomputable def r30_18 : {l : List Oper // opsOf (cAt [1, 1, 1, 0, 0, 0, 1, 0, 0] B30) = l} := by
  apply Subtype.mk
  dsimp only [opsOf, cAt, kids, B30, bodyOf, Tryd.f30, List.getD, List.getElem?_cons_zero, List.getElem?_cons_succ, Option.getD_some]
@[simp] theorem n30_18 (s : List V) (H : Heap) : evCode P Γ call n f m (cAt [1, 1, 1, 0, 0, 0, 1, 0, 0] B30) s H = regNext (evOpsGo P Γ call r30_18.1 r30_18.1 s H) := at_region (by kernel_rfl) r30_18.2 s H
attribute [simp] r30_18
@[simp] theorem n30_19 (s : List V) (H : Heap) : evCode P Γ call n f m (cAt [1, 1, 1, 0, 0, 0, 1, 0, 1] B30) s H = seqNext P Γ call n f m (cAt [1, 1, 1, 0, 0, 0, 1, 0, 1, 1] B30) (evCode P Γ call n f m (cAt [1, 1, 1, 0, 0, 0, 1, 0, 1, 0] B30) s H) := at_seq (by kernel_rfl) rfl rfl s H
noncomputable def r30_20 : {l : List Oper // opsOf (cAt [1, 1, 1, 0, 0, 0, 1, 0, 1, 0] B30) = l} := by
  apply Subtype.mk
  dsimp only [opsOf, cAt, kids, B30, bodyOf, Tryd.f30, List.getD, List.getElem?_cons_zero, List.getElem?_cons_succ, Option.getD_some]
@[simp] theorem n30_20 (s : List V) (H : Heap) : evCode P Γ call n f m (cAt [1, 1, 1, 0, 0, 0, 1, 0, 1, 0] B30) s H = regNext (evOpsGo P Γ call r30_20.1 r30_20.1 s H) := at_region (by kernel_rfl) r30_20.2 s H
attribute [simp] r30_20
@[simp] theorem n30_21 (s : List V) (H : Heap) : evCode P Γ call n f m (cAt [1, 1, 1, 0, 0, 0, 1, 0, 1, 1] B30) s H = condW P Γ call n f m (cAt [1, 1, 1, 0, 0, 0, 1, 0, 1, 1, 0] B30) (cAt [1, 1, 1, 0, 0, 0, 1, 0, 1, 1, 1] B30) s H (evOperand Γ s (.tmp 27)) := at_cond (by kernel_rfl) (by kernel_rfl) rfl rfl s H
noncomputable def r30_22 : {l : List Oper // opsOf (cAt [1, 1, 1, 0, 0, 0, 1, 0, 1, 1, 0] B30) = l} := by
  apply Subtype.mk
  dsimp only [opsOf, cAt, kids, B30, bodyOf, Tryd.f30, List.getD, List.getElem?_cons_zero, List.getElem?_cons_succ, Option.getD_some]
@[simp] theorem n30_22 (s : List V) (H : Heap) : evCode P Γ call n f m (cAt [1, 1, 1, 0, 0, 0, 1, 0, 1, 1, 0] B30) s H = regNext (evOpsGo P Γ call r30_22.1 r30_22.1 s H) := at_region (by kernel_rfl) r30_22.2 s H
attribute [simp] r30_22
noncomputable def r30_23 : {l : List Oper // opsOf (cAt [1, 1, 1, 0, 0, 0, 1, 0, 1, 1, 1] B30) = l} := by
  apply Subtype.mk
  dsimp only [opsOf, cAt, kids, B30, bodyOf, Tryd.f30, List.getD, List.getElem?_cons_zero, List.getElem?_cons_succ, Option.getD_some]
@[simp] theorem n30_23 (s : List V) (H : Heap) : evCode P Γ call n f m (cAt [1, 1, 1, 0, 0, 0, 1, 0, 1, 1, 1] B30) s H = regNext (evOpsGo P Γ call r30_23.1 r30_23.1 s H) := at_region (by kernel_rfl) r30_23.2 s H
attribute [simp] r30_23
@[simp] theorem n30_24 (s : List V) (H : Heap) : evCode P Γ call n f m (cAt [1, 1, 1, 1] B30) s H = seqNext P Γ call n f m (cAt [1, 1, 1, 1, 1] B30) (evCode P Γ call n f m (cAt [1, 1, 1, 1, 0] B30) s H) := at_seq (by kernel_rfl) rfl rfl s H
noncomputable def r30_25 : {l : List Oper // opsOf (cAt [1, 1, 1, 1, 0] B30) = l} := by
  apply Subtype.mk
  dsimp only [opsOf, cAt, kids, B30, bodyOf, Tryd.f30, List.getD, List.getElem?_cons_zero, List.getElem?_cons_succ, Option.getD_some]
@[simp] theorem n30_25 (s : List V) (H : Heap) : evCode P Γ call n f m (cAt [1, 1, 1, 1, 0] B30) s H = regNext (evOpsGo P Γ call r30_25.1 r30_25.1 s H) := at_region (by kernel_rfl) r30_25.2 s H
attribute [simp] r30_25
@[simp] theorem n30_26 (s : List V) (H : Heap) : evCode P Γ call n f m (cAt [1, 1, 1, 1, 1] B30) s H = some (.ret, s, H) := at_ret (by kernel_rfl) s H
theorem b30 {k : Nat} (ho : ∀ args H, Γ.orc 30 args H = none) (args : List V) (H : Heap) (ha : args.length ≤ 54) : evF Tryd.prog Γ (k + 1) 30 args H = bodyEnd Tryd.prog [.tmp 4, .tmp 5] H.length (evCode Tryd.prog Γ (evF Tryd.prog Γ k) k 30 H.length (cAt [] B30) (mkL 54 V.undef (enumV 0 args)) H) := body_at Tryd.func30 (by decide) rfl ho rfl rfl args H ha
noncomputable def B33 : Code := bodyOf Tryd.f33
@[simp] theorem n33_1 (s : List V) (H : Heap) : evCode P Γ call n f m (cAt [] B33) s H = seqNext P Γ call n f m (cAt [1] B33) (evCode P Γ call n f m (cAt [0] B33) s H) := at_seq (by kernel_rfl) rfl rfl s H
noncomputable def r33_2 : {l : List Oper // opsOf (cAt [0] B33) = l} := by
  apply Subtype.mk
  dsimp only [opsOf, cAt, kids, B33, bodyOf, Tryd.f33, List.getD, List.getElem?_cons_zero, List.getElem?_cons_succ, Option.getD_some]
@[simp] theorem n33_2 (s : List V) (H : Heap) : evCode P Γ call n f m (cAt [0] B33) s H = regNext (evOpsGo P Γ call r33_2.1 r33_2.1 s H) := at_region (by kernel_rfl) r33_2.2 s H
attribute [simp] r33_2
@[simp] theorem n33_3 (s : List V) (H : Heap) : evCode P Γ call n f m (cAt [1] B33) s H = seqNext P Γ call n f m (cAt [1, 1] B33) (evCode P Γ call n f m (cAt [1, 0] B33) s H) := at_seq (by kernel_rfl) rfl rfl s H
noncomputable def r33_4 : {l : List Oper // opsOf (cAt [1, 0] B33) = l} := by
  apply Subtype.mk
  dsimp only [opsOf, cAt, kids, B33, bodyOf, Tryd.f33, List.getD, List.getElem?_cons_zero, List.getElem?_cons_succ, Option.getD_some]
@[simp] theorem n33_4 (s : List V) (H : Heap) : evCode P Γ call n f m (cAt [1, 0] B33) s H = regNext (evOpsGo P Γ call r33_4.1 r33_4.1 s H) := at_region (by kernel_rfl) r33_4.2 s H
attribute [simp] r33_4
@[simp] theorem n33_5 (s : List V) (H : Heap) : evCode P Γ call n f m (cAt [1, 1] B33) s H = seqNext P Γ call n f m (cAt [1, 1, 1] B33) (evCode P Γ call n f m (cAt [1, 1, 0] B33) s H) := at_seq (by kernel_rfl) rfl rfl s H
noncomputable def r33_6 : {l : List Oper // opsOf (cAt [1, 1, 0] B33) = l} := by
  apply Subtype.mk
  dsimp only [opsOf, cAt, kids, B33, bodyOf, Tryd.f33, List.getD, List.getElem?_cons_zero, List.getElem?_cons_succ, Option.getD_some]
@[simp] theorem n33_6 (s : List V) (H : Heap) : evCode P Γ call n f m (cAt [1, 1, 0] B33) s H = regNext (evOpsGo P Γ call r33_6.1 r33_6.1 s H) := at_region (by kernel_rfl) r33_6.2 s H
attribute [simp] r33_6
@[simp] theorem n33_7 (s : List V) (H : Heap) : evCode P Γ call n f m (cAt [1, 1, 1] B33) s H = seqNext P Γ call n f m (cAt [1, 1, 1, 1] B33) (evCode P Γ call n f m (cAt [1, 1, 1, 0] B33) s H) := at_seq (by kernel_rfl) rfl rfl s H
noncomputable def r33_8 : {l : List Oper // opsOf (cAt [1, 1, 1, 0] B33) = l} := by
  apply Subtype.mk
  dsimp only [opsOf, cAt, kids, B33, bodyOf, Tryd.f33, List.getD, List.getElem?_cons_zero, List.getElem?_cons_succ, Option.getD_some]
@[simp] theorem n33_8 (s : List V) (H : Heap) : evCode P Γ call n f m (cAt [1, 1, 1, 0] B33) s H = regNext (evOpsGo P Γ call r33_8.1 r33_8.1 s H) := at_region (by kernel_rfl) r33_8.2 s H
attribute [simp] r33_8
@[simp] theorem n33_9 (s : List V) (H : Heap) : evCode P Γ call n f m (cAt [1, 1, 1, 1] B33) s H = seqNext P Γ call n f m (cAt [1, 1, 1, 1, 1] B33) (evCode P Γ call n f m (cAt [1, 1, 1, 1, 0] B33) s H) := at_seq (by kernel_rfl) rfl rfl s H
@[simp] theorem n33_10 (s : List V) (H : Heap) : evCode P Γ call n f m (cAt [1, 1, 1, 1, 0] B33) s H = seqNext P Γ call n f m (cAt [1, 1, 1, 1, 0, 1] B33) (evCode P Γ call n f m (cAt [1, 1, 1, 1, 0, 0] B33) s H) := at_seq (by kernel_rfl) rfl rfl s H
noncomputable def r33_11 : {l : List Oper // opsOf (cAt [1, 1, 1, 1, 0, 0] B33) = l} := by
  apply Subtype.mk
  dsimp only [opsOf, cAt, kids, B33, bodyOf, Tryd.f33, List.getD, List.getElem?_cons_zero, List.getElem?_cons_succ, Option.getD_some]
@[simp] theorem n33_11 (s : List V) (H : Heap) : evCode P Γ call n f m (cAt [1, 1, 1, 1, 0, 0] B33) s H = regNext (evOpsGo P Γ call r33_11.1 r33_11.1 s H) := at_region (by kernel_rfl) r33_11.2 s H
attribute [simp] r33_11
@[simp] theorem n33_12 (s : List V) (H : Heap) : evCode P Γ call n f m (cAt [1, 1, 1, 1, 0, 1] B33) s H = blockNext 0 (evCode P Γ call n f m (cAt [1, 1, 1, 1, 0, 1, 0] B33) s H) := at_block (by kernel_rfl) rfl s H
@[simp] theorem n33_13 (s : List V) (H : Heap) : evCode P Γ call n f m (cAt [1, 1, 1, 1, 0, 1, 0] B33) s H = evLoopC P Γ call n f m (cAt [1, 1, 1, 1, 0, 1, 0, 0] B33) n s H := at_loop (by kernel_rfl) rfl s H
noncomputable abbrev L33_5 : Code := cAt [1, 1, 1, 1, 0, 1, 0, 0] B33
@[simp] theorem n33_13f : firstRegion (cAt [1, 1, 1, 1, 0, 1, 0, 0] B33) = 5 := by kernel_rfl
@[simp] theorem n33_14 (s : List V) (H : Heap) : evCode P Γ call n f m (cAt [1, 1, 1, 1, 0, 1, 0, 0] B33) s H = seqNext P Γ call n f m (cAt [1, 1, 1, 1, 0, 1, 0, 0, 1] B33) (evCode P Γ call n f m (cAt [1, 1, 1, 1, 0, 1, 0, 0, 0] B33) s H) := at_seq (by kernel_rfl) rfl rfl s H
noncomputable def r33_15 : {l : List Oper // opsOf (cAt [1, 1, 1, 1, 0, 1, 0, 0, 0] B33) = l} := by
  apply Subtype.mk
  dsimp only [opsOf, cAt, kids, B33, bodyOf, Tryd.f33, List.getD, List.getElem?_cons_zero, List.getElem?_cons_succ, Option.getD_some]
@[simp] theorem n33_15 (s : List V) (H : Heap) : evCode P Γ call n f m (cAt [1, 1, 1, 1, 0, 1, 0, 0, 0] B33) s H = regNext (evOpsGo P Γ call r33_15.1 r33_15.1 s H) := at_region (by kernel_rfl) r33_15.2 s H
attribute [simp] r33_15
@[simp] theorem n33_16 (s : List V) (H : Heap) : evCode P Γ call n f m (cAt [1, 1, 1, 1, 0, 1, 0, 0, 1] B33) s H = seqNext P Γ call n f m (cAt [1, 1, 1, 1, 0, 1, 0, 0, 1, 1] B33) (evCode P Γ call n f m (cAt [1, 1, 1, 1, 0, 1, 0, 0, 1, 0] B33) s H) := at_seq (by kernel_rfl) rfl rfl s H
@[simp] theorem n33_17 (s : List V) (H : Heap) : evCode P Γ call n f m (cAt [1, 1, 1, 1, 0, 1, 0, 0, 1, 0] B33) s H = condW P Γ call n f m (cAt [1, 1, 1, 1, 0, 1, 0, 0, 1, 0, 0] B33) (cAt [1, 1, 1, 1, 0, 1, 0, 0, 1, 0, 1] B33) s H (evOperand Γ s (.tmp 31)) := at_cond (by kernel_rfl) (by kernel_rfl) rfl rfl s H
@[simp] theorem n33_18 (s : List V) (H : Heap) : evCode P Γ call n f m (cAt [1, 1, 1, 1, 0, 1, 0, 0, 1, 0, 0] B33) s H = some (.normal, s, H) := at_skip (by kernel_rfl) s H
@[simp] theorem n33_19 (s : List V) (H : Heap) : evCode P Γ call n f m (cAt [1, 1, 1, 1, 0, 1, 0, 0, 1, 0, 1] B33) s H = some (.exit 0, s, H) := at_exit (by kernel_rfl) s H
@[simp] theorem n33_20 (s : List V) (H : Heap) : evCode P Γ call n f m (cAt [1, 1, 1, 1, 0, 1, 0, 0, 1, 1] B33) s H = seqNext P Γ call n f m (cAt [1, 1, 1, 1, 0, 1, 0, 0, 1, 1, 1] B33) (evCode P Γ call n f m (cAt [1, 1, 1, 1, 0, 1, 0, 0, 1, 1, 0] B33) s H) := at_seq (by kernel_rfl) rfl rfl s H
@[simp] theorem n33_21 (s : List V) (H : Heap) : evCode P Γ call n f m (cAt [1, 1, 1, 1, 0, 1, 0, 0, 1, 1, 0] B33) s H = blockNext 1 (evCode P Γ call n f m (cAt [1, 1, 1, 1, 0, 1, 0, 0, 1, 1, 0, 0] B33) s H) := at_block (by kernel_rfl) rfl s H
@[simp] theorem n33_22 (s : List V) (H : Heap) : evCode P Γ call n f m (cAt [1, 1, 1, 1, 0, 1, 0, 0, 1, 1, 0, 0] B33) s H = seqNext P Γ call n f m (cAt [1, 1, 1, 1, 0, 1, 0, 0, 1, 1, 0, 0, 1] B33) (evCode P Γ call n f m (cAt [1, 1, 1, 1, 0, 1, 0, 0, 1, 1, 0, 0, 0] B33) s H) := at_seq (by kernel_rfl) rfl rfl s H
noncomputable def r33_23 : {l : List Oper // opsOf (cAt [1, 1, 1, 1, 0, 1, 0, 0, 1, 1, 0, 0, 0] B33) = l} := by
  apply Subtype.mk
  dsimp only [opsOf, cAt, kids, B33, bodyOf, Tryd.f33, List.getD, List.getElem?_cons_zero, List.getElem?_cons_succ, Option.getD_some]
@[simp] theorem n33_23 (s : List V) (H : Heap) : evCode P Γ call n f m (cAt [1, 1, 1, 1, 0, 1, 0, 0, 1, 1, 0, 0, 0] B33) s H = regNext (evOpsGo P Γ call r33_23.1 r33_23.1 s H) := at_region (by kernel_rfl) r33_23.2 s H
attribute [simp] r33_23
@[simp] theorem n33_24 (s : List V) (H : Heap) : evCode P Γ call n f m (cAt [1, 1, 1, 1, 0, 1, 0, 0, 1, 1, 0, 0, 1] B33) s H = seqNext P Γ call n f m (cAt [1, 1, 1, 1, 0, 1, 0, 0, 1, 1, 0, 0, 1, 1] B33) (evCode P Γ call n f m (cAt [1, 1, 1, 1, 0, 1, 0, 0, 1, 1, 0, 0, 1, 0] B33) s H) := at_seq (by kernel_rfl) rfl rfl s H
noncomputable def r33_25 : {l : List Oper // opsOf (cAt [1, 1, 1, 1, 0, 1, 0, 0, 1, 1, 0, 0, 1, 0] B33) = l} := by
  apply Subtype.mk
  dsimp only [opsOf, cAt, kids, B33, bodyOf, Tryd.f33, List.getD, List.getElem?_cons_zero, List.getElem?_cons_succ, Option.getD_some]
@[simp] theorem n33_25 (s : List V) (H : Heap) : evCode P Γ call n f m (cAt [1, 1, 1, 1, 0, 1, 0, 0, 1, 1, 0, 0, 1, 0] B33) s H = regNext (evOpsGo P Γ call r33_25.1 r33_25.1 s H) := at_region (by kernel_rfl) r33_25.2 s H
attribute [simp] r33_25
@[simp] theorem n33_26 (s : List V) (H : Heap) : evCode P Γ call n f m (cAt [1, 1, 1, 1, 0, 1, 0, 0, 1, 1, 0, 0, 1, 1] B33) s H = seqNext P Γ call n f m (cAt [1, 1, 1, 1, 0, 1, 0, 0, 1, 1, 0, 0, 1, 1, 1] B33) (evCode P Γ call n f m (cAt [1, 1, 1, 1, 0, 1, 0, 0, 1, 1, 0, 0, 1, 1, 0] B33) s H) := at_seq (by kernel_rfl) rfl rfl s H
@[simp] theorem n33_27 (s : List V) (H : Heap) : evCode P Γ call n f m (cAt [1, 1, 1, 1, 0, 1, 0, 0, 1, 1, 0, 0, 1, 1, 0] B33) s H = seqNext P Γ call n f m (cAt [1, 1, 1, 1, 0, 1, 0, 0, 1, 1, 0, 0, 1, 1, 0, 1] B33) (evCode P Γ call n f m (cAt [1, 1, 1, 1, 0, 1, 0, 0, 1, 1, 0, 0, 1, 1, 0, 0] B33) s H) := at_seq (by kernel_rfl) rfl rfl s H
noncomputable def r33_28 : {l : List Oper // opsOf (cAt [1, 1, 1, 1, 0, 1, 0, 0, 1, 1, 0, 0, 1, 1, 0, 0] B33) = l} := by
  apply Subtype.mk
  dsimp only [opsOf, cAt, kids, B33, bodyOf, Tryd.f33, List.getD, List.getElem?_cons_zero, List.getElem?_cons_succ, Option.getD_some]
@[simp] theorem n33_28 (s : List V) (H : Heap) : evCode P Γ call n f m (cAt [1, 1, 1, 1, 0, 1, 0, 0, 1, 1, 0, 0, 1, 1, 0, 0] B33) s H = regNext (evOpsGo P Γ call r33_28.1 r33_28.1 s H) := at_region (by kernel_rfl) r33_28.2 s H
attribute [simp] r33_28
@[simp] theorem n33_29 (s : List V) (H : Heap) : evCode P Γ call n f m (cAt [1, 1, 1, 1, 0, 1, 0, 0, 1, 1, 0, 0, 1, 1, 0, 1] B33) s H = blockNext 2 (evCode P Γ call n f m (cAt [1, 1, 1, 1, 0, 1, 0, 0, 1, 1, 0, 0, 1, 1, 0, 1, 0] B33) s H) := at_block (by kernel_rfl) rfl s H
@[simp] theorem n33_30 (s : List V) (H : Heap) : evCode P Γ call n f m (cAt [1, 1, 1, 1, 0, 1, 0, 0, 1, 1, 0, 0, 1, 1, 0, 1, 0] B33) s H = evLoopC P Γ call n f m (cAt [1, 1, 1, 1, 0, 1, 0, 0, 1, 1, 0, 0, 1, 1, 0, 1, 0, 0] B33) n s H := at_loop (by kernel_rfl) rfl s H
noncomputable abbrev L33_9 : Code := cAt [1, 1, 1, 1, 0, 1, 0, 0, 1, 1, 0, 0, 1, 1, 0, 1, 0, 0] B33
@[simp] theorem n33_30f : firstRegion (cAt [1, 1, 1, 1, 0, 1, 0, 0, 1, 1, 0, 0, 1, 1, 0, 1, 0, 0] B33) = 9 := by kernel_rfl
@[simp] theorem n33_31 (s : List V) (H : Heap) : evCode P Γ call n f m (cAt [1, 1, 1, 1, 0, 1, 0, 0, 1, 1, 0, 0, 1, 1, 0, 1, 0, 0] B33) s H = seqNext P Γ call n f m (cAt [1, 1, 1, 1, 0, 1, 0, 0, 1, 1, 0, 0, 1, 1, 0, 1, 0, 0, 1] B33) (evCode P Γ call n f m (cAt [1, 1, 1, 1, 0, 1, 0, 0, 1, 1, 0, 0, 1, 1, 0, 1, 0, 0, 0] B33) s H) := at_seq (by kernel_rfl) rfl rfl s H
noncomputable def r33_32 : {l : List Oper // opsOf (cAt [1, 1, 1, 1, 0, 1, 0, 0, 1, 1, 0, 0, 1, 1, 0, 1, 0, 0, 0] B33) = l} := by
  apply Subtype.mk
  dsimp only [opsOf, cAt, kids, B33, bodyOf, Tryd.f33, List.getD, List.getElem?_cons_zero, List.getElem?_cons_succ, Option.getD_some]
@[simp] theorem n33_32 (s : List V) (H : Heap) : evCode P Γ call n f m (cAt [1, 1, 1, 1, 0, 1, 0, 0, 1, 1, 0, 0, 1, 1, 0, 1, 0, 0, 0] B33) s H = regNext (evOpsGo P Γ call r33_32.1 r33_32.1 s H) := at_region (by kernel_rfl) r33_32.2 s H
attribute [simp] r33_32
@[simp] theorem n33_33 (s : List V) (H : Heap) : evCode P Γ call n f m (cAt [1, 1, 1, 1, 0, 1, 0, 0, 1, 1, 0, 0, 1, 1, 0, 1, 0, 0, 1] B33) s H = seqNext P Γ call n f m (cAt [1, 1, 1, 1, 0, 1, 0, 0, 1, 1, 0, 0, 1, 1, 0, 1, 0, 0, 1, 1] B33) (evCode P Γ call n f m (cAt [1, 1, 1, 1, 0, 1, 0, 0, 1, 1, 0, 0, 1, 1, 0, 1, 0, 0, 1, 0] B33) s H) := at_seq (by kernel_rfl) rfl rfl s H
@[simp] theorem n33_34 (s : List V) (H : Heap) : evCode P Γ call n f m (cAt [1, 1, 1, 1, 0, 1, 0, 0, 1, 1, 0, 0, 1, 1, 0, 1, 0, 0, 1, 0] B33) s H = condW P Γ call n f m (cAt [1, 1, 1, 1, 0, 1, 0, 0, 1, 1, 0, 0, 1, 1, 0, 1, 0, 0, 1, 0, 0] B33) (cAt [1, 1, 1, 1, 0, 1, 0, 0, 1, 1, 0, 0, 1, 1, 0, 1, 0, 0, 1, 0, 1] B33) s H (evOperand Γ s (.tmp 44)) := at_cond (by kernel_rfl) (by kernel_rfl) rfl rfl s H
@[simp] theorem n33_35 (s : List V) (H : Heap) : evCode P Γ call n f m (cAt [1, 1, 1, 1, 0, 1, 0, 0, 1, 1, 0, 0, 1, 1, 0, 1, 0, 0, 1, 0, 0] B33) s H = some (.normal, s, H) := at_skip (by kernel_rfl) s H
@[simp] theorem n33_36 (s : List V) (H : Heap) : evCode P Γ call n f m (cAt [1, 1, 1, 1, 0, 1, 0, 0, 1, 1, 0, 0, 1, 1, 0, 1, 0, 0, 1, 0, 1] B33) s H = some (.exit 2, s, H) := at_exit (by kernel_rfl) s H
@[simp] theorem n33_37 (s : List V) (H : Heap) : evCode P Γ call n f m (cAt [1, 1, 1, 1, 0, 1, 0, 0, 1, 1, 0, 0, 1, 1, 0, 1, 0, 0, 1, 1] B33) s H = seqNext P Γ call n f m (cAt [1, 1, 1, 1, 0, 1, 0, 0, 1, 1, 0, 0, 1, 1, 0, 1, 0, 0, 1, 1, 1] B33) (evCode P Γ call n f m (cAt [1, 1, 1, 1, 0, 1, 0, 0, 1, 1, 0, 0, 1, 1, 0, 1, 0, 0, 1, 1, 0] B33) s H) := at_seq (by kernel_rfl) rfl rfl s H
@[simp] theorem n33_38 (s : List V) (H : Heap) : evCode P Γ call n f m (cAt [1, 1, 1, 1, 0, 1, 0, 0, 1, 1, 0, 0, 1, 1, 0, 1, 0, 0, 1, 1, 0] B33) s H = blockNext 3 (evCode P Γ call n f m (cAt [1, 1, 1, 1, 0, 1, 0, 0, 1, 1, 0, 0, 1, 1, 0, 1, 0, 0, 1, 1, 0, 0] B33) s H) := at_block (by kernel_rfl) rfl s H
@[simp] theorem n33_39 (s : List V) (H : Heap) : evCode P Γ call n f m (cAt [1, 1, 1, 1, 0, 1, 0, 0, 1, 1, 0, 0, 1, 1, 0, 1, 0, 0, 1, 1, 0, 0] B33) s H = seqNext P Γ call n f m (cAt [1, 1, 1, 1, 0, 1, 0, 0, 1, 1, 0, 0, 1, 1, 0, 1, 0, 0, 1, 1, 0, 0, 1] B33) (evCode P Γ call n f m (cAt [1, 1, 1, 1, 0, 1, 0, 0, 1, 1, 0, 0, 1, 1, 0, 1, 0, 0, 1, 1, 0, 0, 0] B33) s H) := at_seq (by kernel_rfl) rfl rfl s H
noncomputable def r33_40 : {l : List Oper // opsOf (cAt [1, 1, 1, 1, 0, 1, 0, 0, 1, 1, 0, 0, 1, 1, 0, 1, 0, 0, 1, 1, 0, 0, 0] B33) = l} := by
  apply Subtype.mk
  dsimp only [opsOf, cAt, kids, B33, bodyOf, Tryd.f33, List.getD, List.getElem?_cons_zero, List.getElem?_cons_succ, Option.getD_some]
@[simp] theorem n33_40 (s : List V) (H : Heap) : evCode P Γ call n f m (cAt [1, 1, 1, 1, 0, 1, 0, 0, 1, 1, 0, 0, 1, 1, 0, 1, 0, 0, 1, 1, 0, 0, 0] B33) s H = regNext (evOpsGo P Γ call r33_40.1 r33_40.1 s H) := at_region (by kernel_rfl) r33_40.2 s H
attribute [simp] r33_40
noncomputable def r33_41 : {l : List Oper // opsOf (cAt [1, 1, 1, 1, 0, 1, 0, 0, 1, 1, 0, 0, 1, 1, 0, 1, 0, 0, 1, 1, 0, 0, 1] B33) = l} := by
  apply Subtype.mk
  dsimp only [opsOf, cAt, kids, B33, bodyOf, Tryd.f33, List.getD, List.getElem?_cons_zero, List.getElem?_cons_succ, Option.getD_some]
@[simp] theorem n33_41 (s : List V) (H : Heap) : evCode P Γ call n f m (cAt [1, 1, 1, 1, 0, 1, 0, 0, 1, 1, 0, 0, 1, 1, 0, 1, 0, 0, 1, 1, 0, 0, 1] B33) s H = regNext (evOpsGo P Γ call r33_41.1 r33_41.1 s H) := at_region (by kernel_rfl) r33_41.2 s H
attribute [simp] r33_41
noncomputable def r33_42 : {l : List Oper // opsOf (cAt [1, 1, 1, 1, 0, 1, 0, 0, 1, 1, 0, 0, 1, 1, 0, 1, 0, 0, 1, 1, 1] B33) = l} := by
  apply Subtype.mk
  dsimp only [opsOf, cAt, kids, B33, bodyOf, Tryd.f33, List.getD, List.getElem?_cons_zero, List.getElem?_cons_succ, Option.getD_some]
@[simp] theorem n33_42 (s : List V) (H : Heap) : evCode P Γ call n f m (cAt [1, 1, 1, 1, 0, 1, 0, 0, 1, 1, 0, 0, 1, 1, 0, 1, 0, 0, 1, 1, 1] B33) s H = regNext (evOpsGo P Γ call r33_42.1 r33_42.1 s H) := at_region (by kernel_rfl) r33_42.2 s H
attribute [simp] r33_42
noncomputable def r33_43 : {l : List Oper // opsOf (cAt [1, 1, 1, 1, 0, 1, 0, 0, 1, 1, 0, 0, 1, 1, 1] B33) = l} := by
  apply Subtype.mk
  dsimp only [opsOf, cAt, kids, B33, bodyOf, Tryd.f33, List.getD, List.getElem?_cons_zero, List.getElem?_cons_succ, Option.getD_some]
@[simp] theorem n33_43 (s : List V) (H : Heap) : evCode P Γ call n f m (cAt [1, 1, 1, 1, 0, 1, 0, 0, 1, 1, 0, 0, 1, 1, 1] B33) s H = regNext (evOpsGo P Γ call r33_43.1 r33_43.1 s H) := at_region (by kernel_rfl) r33_43.2 s H
attribute [simp] r33_43
noncomputable def r33_44 : {l : List Oper // opsOf (cAt [1, 1, 1, 1, 0, 1, 0, 0, 1, 1, 1] B33) = l} := by
  apply Subtype.mk
  dsimp only [opsOf, cAt, kids, B33, bodyOf, Tryd.f33, List.getD, List.getElem?_cons_zero, List.getElem?_cons_succ, Option.getD_some]
@[simp] theorem n33_44 (s : List V) (H : Heap) : evCode P Γ call n f m (cAt [1, 1, 1, 1, 0, 1, 0, 0, 1, 1, 1] B33) s H = regNext (evOpsGo P Γ call r33_44.1 r33_44.1 s H) := at_region (by kernel_rfl) r33_44.2 s H
attribute [simp] r33_44
@[simp] theorem n33_45 (s : List V) (H : Heap) : evCode P Γ call n f m (cAt [1, 1, 1, 1, 1] B33) s H = seqNext P Γ call n f m (cAt [1, 1, 1, 1, 1, 1] B33) (evCode P Γ call n f m (cAt [1, 1, 1, 1, 1, 0] B33) s H) := at_seq (by kernel_rfl) rfl rfl s H
@[simp] theorem n33_46 (s : List V) (H : Heap) : evCode P Γ call n f m (cAt [1, 1, 1, 1, 1, 0] B33) s H = seqNext P Γ call n f m (cAt [1, 1, 1, 1, 1, 0, 1] B33) (evCode P Γ call n f m (cAt [1, 1, 1, 1, 1, 0, 0] B33) s H) := at_seq (by kernel_rfl) rfl rfl s H
noncomputable def r33_47 : {l : List Oper // opsOf (cAt [1, 1, 1, 1, 1, 0, 0] B33) = l} := by
  apply Subtype.mk
  dsimp only [opsOf, cAt, kids, B33, bodyOf, Tryd.f33, List.getD, List.getElem?_cons_zero, List.getElem?_cons_succ, Option.getD_some]
@[simp] theorem n33_47 (s : List V) (H : Heap) : evCode P Γ call n f m (cAt [1, 1, 1, 1, 1, 0, 0] B33) s H = regNext (evOpsGo P Γ call r33_47.1 r33_47.1 s H) := at_region (by kernel_rfl) r33_47.2 s H
attribute [simp] r33_47
@[simp] theorem n33_48 (s : List V) (H : Heap) : evCode P Γ call n f m (cAt [1, 1, 1, 1, 1, 0, 1] B33) s H = blockNext 4 (evCode P Γ call n f m (cAt [1, 1, 1, 1, 1, 0, 1, 0] B33) s H) := at_block (by kernel_rfl) rfl s H
@[simp] theorem n33_49 (s : List V) (H : Heap) : evCode P Γ call n f m (cAt [1, 1, 1, 1, 1, 0, 1, 0] B33) s H = evLoopC P Γ call n f m (cAt [1, 1, 1, 1, 1, 0, 1, 0, 0] B33) n s H := at_loop (by kernel_rfl) rfl s H
noncomputable abbrev L33_16 : Code := cAt [1, 1, 1, 1, 1, 0, 1, 0, 0] B33
@[simp] theorem n33_49f : firstRegion (cAt [1, 1, 1, 1, 1, 0, 1, 0, 0] B33) = 16 := by kernel_rfl
@[simp] theorem n33_50 (s : List V) (H : Heap) : evCode P Γ call n f m (cAt [1, 1, 1, 1, 1, 0, 1, 0, 0] B33) s H = seqNext P Γ call n f m (cAt [1, 1, 1, 1, 1, 0, 1, 0, 0, 1] B33) (evCode P Γ call n f m (cAt [1, 1, 1, 1, 1, 0, 1, 0, 0, 0] B33) s H) := at_seq (by kernel_rfl) rfl rfl s H
@[simp] theorem n33_51 (s : List V) (H : Heap) : evCode P Γ call n f m (cAt [1, 1, 1, 1, 1, 0, 1, 0, 0, 0] B33) s H = seqNext P Γ call n f m (cAt [1, 1, 1, 1, 1, 0, 1, 0, 0, 0, 1] B33) (evCode P Γ call n f m (cAt [1, 1, 1, 1, 1, 0, 1, 0, 0, 0, 0] B33) s H) := at_seq (by kernel_rfl) rfl rfl s H
noncomputable def r33_52 : {l : List Oper // opsOf (cAt [1, 1, 1, 1, 1, 0, 1, 0, 0, 0, 0] B33) = l} := by
  apply Subtype.mk
  dsimp only [opsOf, cAt, kids, B33, bodyOf, Tryd.f33, List.getD, List.getElem?_cons_zero, List.getElem?_cons_succ, Option.getD_some]
@[simp] theorem n33_52 (s : List V) (H : Heap) : evCode P Γ call n f m (cAt [1, 1, 1, 1, 1, 0, 1, 0, 0, 0, 0] B33) s H = regNext (evOpsGo P Γ call r33_52.1 r33_52.1 s H) := at_region (by kernel_rfl) r33_52.2 s H
attribute [simp] r33_52
@[simp] theorem n33_53 (s : List V) (H : Heap) : evCode P Γ call n f m (cAt [1, 1, 1, 1, 1, 0, 1, 0, 0, 0, 1] B33) s H = condW P Γ call n f m (cAt [1, 1, 1, 1, 1, 0, 1, 0, 0, 0, 1, 0] B33) (cAt [1, 1, 1, 1, 1, 0, 1, 0, 0, 0, 1, 1] B33) s H (evOperand Γ s (.tmp 62)) := at_cond (by kernel_rfl) (by kernel_rfl) rfl rfl s H
@[simp] theorem n33_54 (s : List V) (H : Heap) : evCode P Γ call n f m (cAt [1, 1, 1, 1, 1, 0, 1, 0, 0, 0, 1, 0] B33) s H = some (.normal, s, H) := at_skip (by kernel_rfl) s H
@[simp] theorem n33_55 (s : List V) (H : Heap) : evCode P Γ call n f m (cAt [1, 1, 1, 1, 1, 0, 1, 0, 0, 0, 1, 1] B33) s H = some (.exit 4, s, H) := at_exit (by kernel_rfl) s H
@[simp] theorem n33_56 (s : List V) (H : Heap) : evCode P Γ call n f m (cAt [1, 1, 1, 1, 1, 0, 1, 0, 0, 1] B33) s H = seqNext P Γ call n f m (cAt [1, 1, 1, 1, 1, 0, 1, 0, 0, 1, 1] B33) (evCode P Γ call n f m (cAt [1, 1, 1, 1, 1, 0, 1, 0, 0, 1, 0] B33) s H) := at_seq (by kernel_rfl) rfl rfl s H
@[simp] theorem n33_57 (s : List V) (H : Heap) : evCode P Γ call n f m (cAt [1, 1, 1, 1, 1, 0, 1, 0, 0, 1, 0] B33) s H = blockNext 5 (evCode P Γ call n f m (cAt [1, 1, 1, 1, 1, 0, 1, 0, 0, 1, 0, 0] B33) s H) := at_block (by kernel_rfl) rfl s H
noncomputable def r33_58 : {l : List Oper // opsOf (cAt [1, 1, 1, 1, 1, 0, 1, 0, 0, 1, 0, 0] B33) = l} := by
  apply Subtype.mk
  dsimp only [opsOf, cAt, kids, B33, bodyOf, Tryd.f33, List.getD, List.getElem?_cons_zero, List.getElem?_cons_succ, Option.getD_some]
@[simp] theorem n33_58 (s : List V) (H : Heap) : evCode P Γ call n f m (cAt [1, 1, 1, 1, 1, 0, 1, 0, 0, 1, 0, 0] B33) s H = regNext (evOpsGo P Γ call r33_58.1 r33_58.1 s H) := at_region (by kernel_rfl) r33_58.2 s H
attribute [simp] r33_58
noncomputable def r33_59 : {l : List Oper // opsOf (cAt [1, 1, 1, 1, 1, 0, 1, 0, 0, 1, 1] B33) = l} := by
  apply Subtype.mk
  dsimp only [opsOf, cAt, kids, B33, bodyOf, Tryd.f33, List.getD, List.getElem?_cons_zero, List.getElem?_cons_succ, Option.getD_some]
@[simp] theorem n33_59 (s : List V) (H : Heap) : evCode P Γ call n f m (cAt [1, 1, 1, 1, 1, 0, 1, 0, 0, 1, 1] B33) s H = regNext (evOpsGo P Γ call r33_59.1 r33_59.1 s H) := at_region (by kernel_rfl) r33_59.2 s H
attribute [simp] r33_59
@[simp] theorem n33_60 (s : List V) (H : Heap) : evCode P Γ call n f m (cAt [1, 1, 1, 1, 1, 1] B33) s H = seqNext P Γ call n f m (cAt [1, 1, 1, 1, 1, 1, 1] B33) (evCode P Γ call n f m (cAt [1, 1, 1, 1, 1, 1, 0] B33) s H) := at_seq (by kernel_rfl) rfl rfl s H
noncomputable def r33_61 : {l : List Oper // opsOf (cAt [1, 1, 1, 1, 1, 1, 0] B33) = l} := by
  apply Subtype.mk
  dsimp only [opsOf, cAt, kids, B33, bodyOf, Tryd.f33, List.getD, List.getElem?_cons_zero, List.getElem?_cons_succ, Option.getD_some]
@[simp] theorem n33_61 (s : List V) (H : Heap) : evCode P Γ call n f m (cAt [1, 1, 1, 1, 1, 1, 0] B33) s H = regNext (evOpsGo P Γ call r33_61.1 r33_61.1 s H) := at_region (by kernel_rfl) r33_61.2 s H
attribute [simp] r33_61
@[simp] theorem n33_62 (s : List V) (H : Heap) : evCode P Γ call n f m (cAt [1, 1, 1, 1, 1, 1, 1] B33) s H = seqNext P Γ call n f m (cAt [1, 1, 1, 1, 1, 1, 1, 1] B33) (evCode P Γ call n f m (cAt [1, 1, 1, 1, 1, 1, 1, 0] B33) s H) := at_seq (by kernel_rfl) rfl rfl s H
@[simp] theorem n33_63 (s : List V) (H : Heap) : evCode P Γ call n f m (cAt [1, 1, 1, 1, 1, 1, 1, 0] B33) s H = seqNext P Γ call n f m (cAt [1, 1, 1, 1, 1, 1, 1, 0, 1] B33) (evCode P Γ call n f m (cAt [1, 1, 1, 1, 1, 1, 1, 0, 0] B33) s H) := at_seq (by kernel_rfl) rfl rfl s H
noncomputable def r33_64 : {l : List Oper // opsOf (cAt [1, 1, 1, 1, 1, 1, 1, 0, 0] B33) = l} := by
  apply Subtype.mk
  dsimp only [opsOf, cAt, kids, B33, bodyOf, Tryd.f33, List.getD, List.getElem?_cons_zero, List.getElem?_cons_succ, Option.getD_some]
@[simp] theorem n33_64 (s : List V) (H : Heap) : evCode P Γ call n f m (cAt [1, 1, 1, 1, 1, 1, 1, 0, 0] B33) s H = regNext (evOpsGo P Γ call r33_64.1 r33_64.1 s H) := at_region (by kernel_rfl) r33_64.2 s H
attribute [simp] r33_64
@[simp] theorem n33_65 (s : List V) (H : Heap) : evCode P Γ call n f m (cAt [1, 1, 1, 1, 1, 1, 1, 0, 1] B33) s H = blockNext 6 (evCode P Γ call n f m (cAt [1, 1, 1, 1, 1, 1, 1, 0, 1, 0] B33) s H) := at_block (by kernel_rfl) rfl s H
@[simp] theorem n33_66 (s : List V) (H : Heap) : evCode P Γ call n f m (cAt [1, 1, 1, 1, 1, 1, 1, 0, 1, 0] B33) s H = evLoopC P Γ call n f m (cAt [1, 1, 1, 1, 1, 1, 1, 0, 1, 0, 0] B33) n s H := at_loop (by kernel_rfl) rfl s H
noncomputable abbrev L33_21 : Code := cAt [1, 1, 1, 1, 1, 1, 1, 0, 1, 0, 0] B33
@[simp] theorem n33_66f : firstRegion (cAt [1, 1, 1, 1, 1, 1, 1, 0, 1, 0, 0] B33) = 21 := by kernel_rfl
@[simp] theorem n33_67 (s : List V) (H : Heap) : evCode P Γ call n f m (cAt [1, 1, 1, 1, 1, 1, 1, 0, 1, 0, 0] B33) s H = seqNext P Γ call n f m (cAt [1, 1, 1, 1, 1, 1, 1, 0, 1, 0, 0, 1] B33) (evCode P Γ call n f m (cAt [1, 1, 1, 1, 1, 1, 1, 0, 1, 0, 0, 0] B33) s H) := at_seq (by kernel_rfl) rfl rfl s H
noncomputable def r33_68 : {l : List Oper // opsOf (cAt [1, 1, 1, 1, 1, 1, 1, 0, 1, 0, 0, 0] B33) = l} := by
  apply Subtype.mk
  dsimp only [opsOf, cAt, kids, B33, bodyOf, Tryd.f33, List.getD, List.getElem?_cons_zero, List.getElem?_cons_succ, Option.getD_some]
@[simp] theorem n33_68 (s : List V) (H : Heap) : evCode P Γ call n f m (cAt [1, 1, 1, 1, 1, 1, 1, 0, 1, 0, 0, 0] B33) s H = regNext (evOpsGo P Γ call r33_68.1 r33_68.1 s H) := at_region (by kernel_rfl) r33_68.2 s H
attribute [simp] r33_68
@[simp] theorem n33_69 (s : List V) (H : Heap) : evCode P Γ call n f m (cAt [1, 1, 1, 1, 1, 1, 1, 0, 1, 0, 0, 1] B33) s H = seqNext P Γ call n f m (cAt [1, 1, 1, 1, 1, 1, 1, 0, 1, 0, 0, 1, 1] B33) (evCode P Γ call n f m (cAt [1, 1, 1, 1, 1, 1, 1, 0, 1, 0, 0, 1, 0] B33) s H) := at_seq (by kernel_rfl) rfl rfl s H
@[simp] theorem n33_70 (s : List V) (H : Heap) : evCode P Γ call n f m (cAt [1, 1, 1, 1, 1, 1, 1, 0, 1, 0, 0, 1, 0] B33) s H = condW P Γ call n f m (cAt [1, 1, 1, 1, 1, 1, 1, 0, 1, 0, 0, 1, 0, 0] B33) (cAt [1, 1, 1, 1, 1, 1, 1, 0, 1, 0, 0, 1, 0, 1] B33) s H (evOperand Γ s (.tmp 72)) := at_cond (by kernel_rfl) (by kernel_rfl) rfl rfl s H
@[simp] theorem n33_71 (s : List V) (H : Heap) : evCode P Γ call n f m (cAt [1, 1, 1, 1, 1, 1, 1, 0, 1, 0, 0, 1, 0, 0] B33) s H = some (.normal, s, H) := at_skip (by kernel_rfl) s H
@[simp] theorem n33_72 (s : List V) (H : Heap) : evCode P Γ call n f m (cAt [1, 1, 1, 1, 1, 1, 1, 0, 1, 0, 0, 1, 0, 1] B33) s H = some (.exit 6, s, H) := at_exit (by kernel_rfl) s H
@[simp] theorem n33_73 (s : List V) (H : Heap) : evCode P Γ call n f m (cAt [1, 1, 1, 1, 1, 1, 1, 0, 1, 0, 0, 1, 1] B33) s H = seqNext P Γ call n f m (cAt [1, 1, 1, 1, 1, 1, 1, 0, 1, 0, 0, 1, 1, 1] B33) (evCode P Γ call n f m (cAt [1, 1, 1, 1, 1, 1, 1, 0, 1, 0, 0, 1, 1, 0] B33) s H) := at_seq (by kernel_rfl) rfl rfl s H
@[simp] theorem n33_74 (s : List V) (H : Heap) : evCode P Γ call n f m (cAt [1, 1, 1, 1, 1, 1, 1, 0, 1, 0, 0, 1, 1, 0] B33) s H = blockNext 7 (evCode P Γ call n f m (cAt [1, 1, 1, 1, 1, 1, 1, 0, 1, 0, 0, 1, 1, 0, 0] B33) s H) := at_block (by kernel_rfl) rfl s H
@[simp] theorem n33_75 (s : List V) (H : Heap) : evCode P Γ call n f m (cAt [1, 1, 1, 1, 1, 1, 1, 0, 1, 0, 0, 1, 1, 0, 0] B33) s H = seqNext P Γ call n f m (cAt [1, 1, 1, 1, 1, 1, 1, 0, 1, 0, 0, 1, 1, 0, 0, 1] B33) (evCode P Γ call n f m (cAt [1, 1, 1, 1, 1, 1, 1, 0, 1, 0, 0, 1, 1, 0, 0, 0] B33) s H) := at_seq (by kernel_rfl) rfl rfl s H
noncomputable def r33_76 : {l : List Oper // opsOf (cAt [1, 1, 1, 1, 1, 1, 1, 0, 1, 0, 0, 1, 1, 0, 0, 0] B33) = l} := by
  apply Subtype.mk
  dsimp only [opsOf, cAt, kids, B33, bodyOf, Tryd.f33, List.getD, List.getElem?_cons_zero, List.getElem?_cons_succ, Option.getD_some]
@[simp] theorem n33_76 (s : List V) (H : Heap) : evCode P Γ call n f m (cAt [1, 1, 1, 1, 1, 1, 1, 0, 1, 0, 0, 1, 1, 0, 0, 0] B33) s H = regNext (evOpsGo P Γ call r33_76.1 r33_76.1 s H) := at_region (by kernel_rfl) r33_76.2 s H
attribute [simp] r33_76
@[simp] theorem n33_77 (s : List V) (H : Heap) : evCode P Γ call n f m (cAt [1, 1, 1, 1, 1, 1, 1, 0, 1, 0, 0, 1, 1, 0, 0, 1] B33) s H = seqNext P Γ call n f m (cAt [1, 1, 1, 1, 1, 1, 1, 0, 1, 0, 0, 1, 1, 0, 0, 1, 1] B33) (evCode P Γ call n f m (cAt [1, 1, 1, 1, 1, 1, 1, 0, 1, 0, 0, 1, 1, 0, 0, 1, 0] B33) s H) := at_seq (by kernel_rfl) rfl rfl s H
noncomputable def r33_78 : {l : List Oper // opsOf (cAt [1, 1, 1, 1, 1, 1, 1, 0, 1, 0, 0, 1, 1, 0, 0, 1, 0] B33) = l} := by
  apply Subtype.mk
  dsimp only [opsOf, cAt, kids, B33, bodyOf, Tryd.f33, List.getD, List.getElem?_cons_zero, List.getElem?_cons_succ, Option.getD_some]
@[simp] theorem n33_78 (s : List V) (H : Heap) : evCode P Γ call n f m (cAt [1, 1, 1, 1, 1, 1, 1, 0, 1, 0, 0, 1, 1, 0, 0, 1, 0] B33) s H = regNext (evOpsGo P Γ call r33_78.1 r33_78.1 s H) := at_region (by kernel_rfl) r33_78.2 s H
attribute [simp] r33_78
noncomputable def r33_79 : {l : List Oper // opsOf (cAt [1, 1, 1, 1, 1, 1, 1, 0, 1, 0, 0, 1, 1, 0, 0, 1, 1] B33) = l} := by
  apply Subtype.mk
  dsimp only [opsOf, cAt, kids, B33, bodyOf, Tryd.f33, List.getD, List.getElem?_cons_zero, List.getElem?_cons_succ, Option.getD_some]
@[simp] theorem n33_79 (s : List V) (H : Heap) : evCode P Γ call n f m (cAt [1, 1, 1, 1, 1, 1, 1, 0, 1, 0, 0, 1, 1, 0, 0, 1, 1] B33) s H = regNext (drawR P Γ call r33_79.1 [([1, 2, 3, 4, 5, 6, 7, 8, 9, 10, 11, 12, 13, 14, 15], [84, 85, 86, 87, 88, 89, 90, 91, 92, 93, 94, 95, 96, 97, 98]), ([0, 3, 4, 5, 6, 7, 8, 9, 10, 11, 12, 13, 14, 15], [83, 86, 87, 88, 89, 90, 91, 92, 93, 94, 95, 96, 97, 98]), ([0, 3, 4, 5, 6, 7, 8, 9, 10, 11, 12, 13, 14, 15], [83, 86, 87, 88, 89, 90, 91, 92, 93, 94, 95, 96, 97, 98]), ([0, 1, 2, 4, 6, 7, 8, 9, 10, 11, 12, 13, 14, 15], [83, 84, 85, 87, 89, 90, 91, 92, 93, 94, 95, 96, 97, 98]), ([0, 1, 2, 3, 6, 7, 8, 9, 10, 11, 12, 13, 14, 15], [83, 84, 85, 86, 89, 90, 91, 92, 93, 94, 95, 96, 97, 98]), ([0, 1, 2, 6, 7, 8, 9, 10, 11, 12, 13, 14, 15], [83, 84, 85, 89, 90, 91, 92, 93, 94, 95, 96, 97, 98]), ([0, 1, 2, 3, 4, 5, 8, 9, 11, 12, 13, 14, 15], [83, 84, 85, 86, 87, 88, 91, 92, 94, 95, 96, 97, 98]), ([0, 1, 2, 3, 4, 5, 8, 9, 11, 12, 13, 14, 15], [83, 84, 85, 86, 87, 88, 91, 92, 94, 95, 96, 97, 98]), ([0, 1, 2, 3, 4, 5, 6, 7, 11, 12, 13, 14, 15], [83, 84, 85, 86, 87, 88, 89, 90, 94, 95, 96, 97, 98]), ([0, 1, 2, 3, 4, 5, 6, 7, 11, 12, 13, 14, 15], [83, 84, 85, 86, 87, 88, 89, 90, 94, 95, 96, 97, 98]), ([0, 1, 2, 3, 4, 5, 11, 12, 13, 14, 15], [83, 84, 85, 86, 87, 88, 94, 95, 96, 97, 98]), ([0, 1, 2, 3, 4, 5, 6, 7, 8, 9, 10, 13, 14], [83, 84, 85, 86, 87, 88, 89, 90, 91, 92, 93, 96, 97]), ([0, 1, 2, 3, 4, 5, 6, 7, 8, 9, 10, 13, 14], [83, 84, 85, 86, 87, 88, 89, 90, 91, 92, 93, 96, 97]), ([0, 1, 2, 3, 4, 5, 6, 7, 8, 9, 10, 11, 12], [83, 84, 85, 86, 87, 88, 89, 90, 91, 92, 93, 94, 95]), ([0, 1, 2, 3, 4, 5, 6, 7, 8, 9, 10, 11, 12], [83, 84, 85, 86, 87, 88, 89, 90, 91, 92, 93, 94, 95]), ([0, 1, 2, 3, 4, 5, 6, 7, 8, 9, 10], [83, 84, 85, 86, 87, 88, 89, 90, 91, 92, 93]), ([], [])] s H) := at_drawT (by kernel_rfl) r33_79.2 (by kernel_rfl) s H
attribute [simp] r33_79
noncomputable def r33_80 : {l : List Oper // opsOf (cAt [1, 1, 1, 1, 1, 1, 1, 0, 1, 0, 0, 1, 1, 1] B33) = l} := by
  apply Subtype.mk
  dsimp only [opsOf, cAt, kids, B33, bodyOf, Tryd.f33, List.getD, List.getElem?_cons_zero, List.getElem?_cons_succ, Option.getD_some]
@[simp] theorem n33_80 (s : List V) (H : Heap) : evCode P Γ call n f m (cAt [1, 1, 1, 1, 1, 1, 1, 0, 1, 0, 0, 1, 1, 1] B33) s H = regNext (evOpsGo P Γ call r33_80.1 r33_80.1 s H) := at_region (by kernel_rfl) r33_80.2 s H
attribute [simp] r33_80
@[simp] theorem n33_81 (s : List V) (H : Heap) : evCode P Γ call n f m (cAt [1, 1, 1, 1, 1, 1, 1, 1] B33) s H = seqNext P Γ call n f m (cAt [1, 1, 1, 1, 1, 1, 1, 1, 1] B33) (evCode P Γ call n f m (cAt [1, 1, 1, 1, 1, 1, 1, 1, 0] B33) s H) := at_seq (by kernel_rfl) rfl rfl s H
@[simp] theorem n33_82 (s : List V) (H : Heap) : evCode P Γ call n f m (cAt [1, 1, 1, 1, 1, 1, 1, 1, 0] B33) s H = seqNext P Γ call n f m (cAt [1, 1, 1, 1, 1, 1, 1, 1, 0, 1] B33) (evCode P Γ call n f m (cAt [1, 1, 1, 1, 1, 1, 1, 1, 0, 0] B33) s H) := at_seq (by kernel_rfl) rfl rfl s H
noncomputable def r33_83 : {l : List Oper // opsOf (cAt [1, 1, 1, 1, 1, 1, 1, 1, 0, 0] B33) = l} := by
  apply Subtype.mk
  dsimp only [opsOf, cAt, kids, B33, bodyOf, Tryd.f33, List.getD, List.getElem?_cons_zero, List.getElem?_cons_succ, Option.getD_some]
@[simp] theorem n33_83 (s : List V) (H : Heap) : evCode P Γ call n f m (cAt [1, 1, 1, 1, 1, 1, 1, 1, 0, 0] B33) s H = regNext (evOpsGo P Γ call r33_83.1 r33_83.1 s H) := at_region (by kernel_rfl) r33_83.2 s H
attribute [simp] r33_83
@[simp] theorem n33_84 (s : List V) (H : Heap) : evCode P Γ call n f m (cAt [1, 1, 1, 1, 1, 1, 1, 1, 0, 1] B33) s H = blockNext 8 (evCode P Γ call n f m (cAt [1, 1, 1, 1, 1, 1, 1, 1, 0, 1, 0] B33) s H) := at_block (by kernel_rfl) rfl s H
@[simp] theorem n33_85 (s : List V) (H : Heap) : evCode P Γ call n f m (cAt [1, 1, 1, 1, 1, 1, 1, 1, 0, 1, 0] B33) s H = evLoopC P Γ call n f m (cAt [1, 1, 1, 1, 1, 1, 1, 1, 0, 1, 0, 0] B33) n s H := at_loop (by kernel_rfl) rfl s H
noncomputable abbrev L33_27 : Code := cAt [1, 1, 1, 1, 1, 1, 1, 1, 0, 1, 0, 0] B33
@[simp] theorem n33_85f : firstRegion (cAt [1, 1, 1, 1, 1, 1, 1, 1, 0, 1, 0, 0] B33) = 27 := by kernel_rfl
@[simp] theorem n33_86 (s : List V) (H : Heap) : evCode P Γ call n f m (cAt [1, 1, 1, 1, 1, 1, 1, 1, 0, 1, 0, 0] B33) s H = seqNext P Γ call n f m (cAt [1, 1, 1, 1, 1, 1, 1, 1, 0, 1, 0, 0, 1] B33) (evCode P Γ call n f m (cAt [1, 1, 1, 1, 1, 1, 1, 1, 0, 1, 0, 0, 0] B33) s H) := at_seq (by kernel_rfl) rfl rfl s H
noncomputable def r33_87 : {l : List Oper // opsOf (cAt [1, 1, 1, 1, 1, 1, 1, 1, 0, 1, 0, 0, 0] B33) = l} := by
  apply Subtype.mk
  dsimp only [opsOf, cAt, kids, B33, bodyOf, Tryd.f33, List.getD, List.getElem?_cons_zero, List.getElem?_cons_succ, Option.getD_some]
@[simp] theorem n33_87 (s : List V) (H : Heap) : evCode P Γ call n f m (cAt [1, 1, 1, 1, 1, 1, 1, 1, 0, 1, 0, 0, 0] B33) s H = regNext (evOpsGo P Γ call r33_87.1 r33_87.1 s H) := at_region (by kernel_rfl) r33_87.2 s H
attribute [simp] r33_87
@[simp] theorem n33_88 (s : List V) (H : Heap) : evCode P Γ call n f m (cAt [1, 1, 1, 1, 1, 1, 1, 1, 0, 1, 0, 0, 1] B33) s H = seqNext P Γ call n f m (cAt [1, 1, 1, 1, 1, 1, 1, 1, 0, 1, 0, 0, 1, 1] B33) (evCode P Γ call n f m (cAt [1, 1, 1, 1, 1, 1, 1, 1, 0, 1, 0, 0, 1, 0] B33) s H) := at_seq (by kernel_rfl) rfl rfl s H
@[simp] theorem n33_89 (s : List V) (H : Heap) : evCode P Γ call n f m (cAt [1, 1, 1, 1, 1, 1, 1, 1, 0, 1, 0, 0, 1, 0] B33) s H = condW P Γ call n f m (cAt [1, 1, 1, 1, 1, 1, 1, 1, 0, 1, 0, 0, 1, 0, 0] B33) (cAt [1, 1, 1, 1, 1, 1, 1, 1, 0, 1, 0, 0, 1, 0, 1] B33) s H (evOperand Γ s (.tmp 104)) := at_cond (by kernel_rfl) (by kernel_rfl) rfl rfl s H
@[simp] theorem n33_90 (s : List V) (H : Heap) : evCode P Γ call n f m (cAt [1, 1, 1, 1, 1, 1, 1, 1, 0, 1, 0, 0, 1, 0, 0] B33) s H = some (.normal, s, H) := at_skip (by kernel_rfl) s H
@[simp] theorem n33_91 (s : List V) (H : Heap) : evCode P Γ call n f m (cAt [1, 1, 1, 1, 1, 1, 1, 1, 0, 1, 0, 0, 1, 0, 1] B33) s H = some (.exit 8, s, H) := at_exit (by kernel_rfl) s H
@[simp] theorem n33_92 (s : List V) (H : Heap) : evCode P Γ call n f m (cAt [1, 1, 1, 1, 1, 1, 1, 1, 0, 1, 0, 0, 1, 1] B33) s H = seqNext P Γ call n f m (cAt [1, 1, 1, 1, 1, 1, 1, 1, 0, 1, 0, 0, 1, 1, 1] B33) (evCode P Γ call n f m (cAt [1, 1, 1, 1, 1, 1, 1, 1, 0, 1, 0, 0, 1, 1, 0] B33) s H) := at_seq (by kernel_rfl) rfl rfl s H
@[simp] theorem n33_93 (s : List V) (H : Heap) : evCode P Γ call n f m (cAt [1, 1, 1, 1, 1, 1, 1, 1, 0, 1, 0, 0, 1, 1, 0] B33) s H = blockNext 9 (evCode P Γ call n f m (cAt [1, 1, 1, 1, 1, 1, 1, 1, 0, 1, 0, 0, 1, 1, 0, 0] B33) s H) := at_block (by kernel_rfl) rfl s H
@[simp] theorem n33_94 (s : List V) (H : Heap) : evCode P Γ call n f m (cAt [1, 1, 1, 1, 1, 1, 1, 1, 0, 1, 0, 0, 1, 1, 0, 0] B33) s H = seqNext P Γ call n f m (cAt [1, 1, 1, 1, 1, 1, 1, 1, 0, 1, 0, 0, 1, 1, 0, 0, 1] B33) (evCode P Γ call n f m (cAt [1, 1, 1, 1, 1, 1, 1, 1, 0, 1, 0, 0, 1, 1, 0, 0, 0] B33) s H) := at_seq (by kernel_rfl) rfl rfl s H
noncomputable def r33_95 : {l : List Oper // opsOf (cAt [1, 1, 1, 1, 1, 1, 1, 1, 0, 1, 0, 0, 1, 1, 0, 0, 0] B33) = l} := by
  apply Subtype.mk
  dsimp only [opsOf, cAt, kids, B33, bodyOf, Tryd.f33, List.getD, List.getElem?_cons_zero, List.getElem?_cons_succ, Option.getD_some]
@[simp] theorem n33_95 (s : List V) (H : Heap) : evCode P Γ call n f m (cAt [1, 1, 1, 1, 1, 1, 1, 1, 0, 1, 0, 0, 1, 1, 0, 0, 0] B33) s H = regNext (evOpsGo P Γ call r33_95.1 r33_95.1 s H) := at_region (by kernel_rfl) r33_95.2 s H
attribute [simp] r33_95
noncomputable def r33_96 : {l : List Oper // opsOf (cAt [1, 1, 1, 1, 1, 1, 1, 1, 0, 1, 0, 0, 1, 1, 0, 0, 1] B33) = l} := by
  apply Subtype.mk
  dsimp only [opsOf, cAt, kids, B33, bodyOf, Tryd.f33, List.getD, List.getElem?_cons_zero, List.getElem?_cons_succ, Option.getD_some]
@[simp] theorem n33_96 (s : List V) (H : Heap) : evCode P Γ call n f m (cAt [1, 1, 1, 1, 1, 1, 1, 1, 0, 1, 0, 0, 1, 1, 0, 0, 1] B33) s H = regNext (drawR P Γ call r33_96.1 [([1, 2, 3, 4, 5, 6, 7, 8, 9, 10, 11, 12], [108, 109, 110, 111, 112, 113, 114, 115, 116, 117, 118, 119]), ([0, 2, 3, 5, 6, 7, 9, 10, 11, 12], [107, 109, 110, 112, 113, 114, 116, 117, 118, 119]), ([0, 1, 5, 6, 7, 9, 10, 11, 12], [107, 108, 112, 113, 114, 116, 117, 118, 119]), ([0, 1, 5, 6, 7, 9, 10, 11, 12], [107, 108, 112, 113, 114, 116, 117, 118, 119]), ([0, 5, 6, 7, 9, 10, 11, 12], [107, 112, 113, 114, 116, 117, 118, 119]), ([0, 1, 2, 3, 4, 6, 7, 9, 10, 11, 12], [107, 108, 109, 110, 111, 113, 114, 116, 117, 118, 119]), ([0, 1, 2, 3, 4, 5, 9, 10, 11, 12], [107, 108, 109, 110, 111, 112, 116, 117, 118, 119]), ([0, 1, 2, 3, 4, 5, 9, 10, 11, 12], [107, 108, 109, 110, 111, 112, 116, 117, 118, 119]), ([0, 9, 10, 11, 12], [107, 116, 117, 118, 119]), ([0, 1, 2, 3, 4, 5, 6, 7, 8, 11, 12], [107, 108, 109, 110, 111, 112, 113, 114, 115, 118, 119]), ([0, 1, 2, 3, 4, 5, 6, 7, 8, 11, 12], [107, 108, 109, 110, 111, 112, 113, 114, 115, 118, 119]), ([0, 1, 2, 3, 4, 5, 6, 7, 8, 9, 10], [107, 108, 109, 110, 111, 112, 113, 114, 115, 116, 117]), ([0, 1, 2, 3, 4, 5, 6, 7, 8, 9, 10], [107, 108, 109, 110, 111, 112, 113, 114, 115, 116, 117]), ([], [])] s H) := at_drawT (by kernel_rfl) r33_96.2 (by kernel_rfl) s H
attribute [simp] r33_96
noncomputable def r33_97 : {l : List Oper // opsOf (cAt [1, 1, 1, 1, 1, 1, 1, 1, 0, 1, 0, 0, 1, 1, 1] B33) = l} := by
  apply Subtype.mk
  dsimp only [opsOf, cAt, kids, B33, bodyOf, Tryd.f33, List.getD, List.getElem?_cons_zero, List.getElem?_cons_succ, Option.getD_some]
@[simp] theorem n33_97 (s : List V) (H : Heap) : evCode P Γ call n f m (cAt [1, 1, 1, 1, 1, 1, 1, 1, 0, 1, 0, 0, 1, 1, 1] B33) s H = regNext (evOpsGo P Γ call r33_97.1 r33_97.1 s H) := at_region (by kernel_rfl) r33_97.2 s H
attribute [simp] r33_97
@[simp] theorem n33_98 (s : List V) (H : Heap) : evCode P Γ call n f m (cAt [1, 1, 1, 1, 1, 1, 1, 1, 1] B33) s H = seqNext P Γ call n f m (cAt [1, 1, 1, 1, 1, 1, 1, 1, 1, 1] B33) (evCode P Γ call n f m (cAt [1, 1, 1, 1, 1, 1, 1, 1, 1, 0] B33) s H) := at_seq (by kernel_rfl) rfl rfl s H
noncomputable def r33_99 : {l : List Oper // opsOf (cAt [1, 1, 1, 1, 1, 1, 1, 1, 1, 0] B33) = l} := by
  apply Subtype.mk
  dsimp only [opsOf, cAt, kids, B33, bodyOf, Tryd.f33, List.getD, List.getElem?_cons_zero, List.getElem?_cons_succ, Option.getD_some]
@[simp] theorem n33_99 (s : List V) (H : Heap) : evCode P Γ call n f m (cAt [1, 1, 1, 1, 1, 1, 1, 1, 1, 0] B33) s H = regNext (evOpsGo P Γ call r33_99.1 r33_99.1 s H) := at_region (by kernel_rfl) r33_99.2 s H
attribute [simp] r33_99
@[simp] theorem n33_100 (s : List V) (H : Heap) : evCode P Γ call n f m (cAt [1, 1, 1, 1, 1, 1, 1, 1, 1, 1] B33) s H = some (.ret, s, H) := at_ret (by kernel_rfl) s H
theorem b33 {k : Nat} (ho : ∀ args H, Γ.orc 33 args H = none) (args : List V) (H : Heap) (ha : args.length ≤ 123) : evF Tryd.prog Γ (k + 1) 33 args H = bodyEnd Tryd.prog [.tmp 4] H.length (evCode Tryd.prog Γ (evF Tryd.prog Γ k) k 33 H.length (cAt [] B33) (mkL 123 V.undef (enumV 0 args)) H) := body_at Tryd.func33 (by decide) rfl ho rfl rfl args H ha
noncomputable def B34 : Code := bodyOf Tryd.f34
@[simp] theorem n34_1 (s : List V) (H : Heap) : evCode P Γ call n f m (cAt [] B34) s H = seqNext P Γ call n f m (cAt [1] B34) (evCode P Γ call n f m (cAt [0] B34) s H) := at_seq (by kernel_rfl) rfl rfl s H
noncomputable def r34_2 : {l : List Oper // opsOf (cAt [0] B34) = l} := by
  apply Subtype.mk
  dsimp only [opsOf, cAt, kids, B34, bodyOf, Tryd.f34, List.getD, List.getElem?_cons_zero, List.getElem?_cons_succ, Option.getD_some]
@[simp] theorem n34_2 (s : List V) (H : Heap) : evCode P Γ call n f m (cAt [0] B34) s H = regNext (evOpsGo P Γ call r34_2.1 r34_2.1 s H) := at_region (by kernel_rfl) r34_2.2 s H
attribute [simp] r34_2
@[simp] theorem n34_3 (s : List V) (H : Heap) : evCode P Γ call n f m (cAt [1] B34) s H = seqNext P Γ call n f m (cAt [1, 1] B34) (evCode P Γ call n f m (cAt [1, 0] B34) s H) := at_seq (by kernel_rfl) rfl rfl s H
@[simp] theorem n34_4 (s : List V) (H : Heap) : evCode P Γ call n f m (cAt [1, 0] B34) s H = seqNext P Γ call n f m (cAt [1, 0, 1] B34) (evCode P Γ call n f m (cAt [1, 0, 0] B34) s H) := at_seq (by kernel_rfl) rfl rfl s H
noncomputable def r34_5 : {l : List Oper // opsOf (cAt [1, 0, 0] B34) = l} := by
  apply Subtype.mk
  dsimp only [opsOf, cAt, kids, B34, bodyOf, Tryd.f34, List.getD, List.getElem?_cons_zero, List.getElem?_cons_succ, Option.getD_some]
@[simp] theorem n34_5 (s : List V) (H : Heap) : evCode P Γ call n f m (cAt [1, 0, 0] B34) s H = regNext (evOpsGo P Γ call r34_5.1 r34_5.1 s H) := at_region (by kernel_rfl) r34_5.2 s H
attribute [simp] r34_5
@[simp] theorem n34_6 (s : List V) (H : Heap) : evCode P Γ call n f m (cAt [1, 0, 1] B34) s H = blockNext 0 (evCode P Γ call n f m (cAt [1, 0, 1, 0] B34) s H) := at_block (by kernel_rfl) rfl s H
@[simp] theorem n34_7 (s : List V) (H : Heap) : evCode P Γ call n f m (cAt [1, 0, 1, 0] B34) s H = evLoopC P Γ call n f m (cAt [1, 0, 1, 0, 0] B34) n s H := at_loop (by kernel_rfl) rfl s H
noncomputable abbrev L34_2 : Code := cAt [1, 0, 1, 0, 0] B34
@[simp] theorem n34_7f : firstRegion (cAt [1, 0, 1, 0, 0] B34) = 2 := by kernel_rfl
@[simp] theorem n34_8 (s : List V) (H : Heap) : evCode P Γ call n f m (cAt [1, 0, 1, 0, 0] B34) s H = seqNext P Γ call n f m (cAt [1, 0, 1, 0, 0, 1] B34) (evCode P Γ call n f m (cAt [1, 0, 1, 0, 0, 0] B34) s H) := at_seq (by kernel_rfl) rfl rfl s H
noncomputable def r34_9 : {l : List Oper // opsOf (cAt [1, 0, 1, 0, 0, 0] B34) = l} := by
  apply Subtype.mk
  dsimp only [opsOf, cAt, kids, B34, bodyOf, Tryd.f34, List.getD, List.getElem?_cons_zero, List.getElem?_cons_succ, Option.getD_some]
@[simp] theorem n34_9 (s : List V) (H : Heap) : evCode P Γ call n f m (cAt [1, 0, 1, 0, 0, 0] B34) s H = regNext (evOpsGo P Γ call r34_9.1 r34_9.1 s H) := at_region (by kernel_rfl) r34_9.2 s H
attribute [simp] r34_9
@[simp] theorem n34_10 (s : List V) (H : Heap) : evCode P Γ call n f m (cAt [1, 0, 1, 0, 0, 1] B34) s H = seqNext P Γ call n f m (cAt [1, 0, 1, 0, 0, 1, 1] B34) (evCode P Γ call n f m (cAt [1, 0, 1, 0, 0, 1, 0] B34) s H) := at_seq (by kernel_rfl) rfl rfl s H
@[simp] theorem n34_11 (s : List V) (H : Heap) : evCode P Γ call n f m (cAt [1, 0, 1, 0, 0, 1, 0] B34) s H = condW P Γ call n f m (cAt [1, 0, 1, 0, 0, 1, 0, 0] B34) (cAt [1, 0, 1, 0, 0, 1, 0, 1] B34) s H (evOperand Γ s (.tmp 9)) := at_cond (by kernel_rfl) (by kernel_rfl) rfl rfl s H
@[simp] theorem n34_12 (s : List V) (H : Heap) : evCode P Γ call n f m (cAt [1, 0, 1, 0, 0, 1, 0, 0] B34) s H = some (.normal, s, H) := at_skip (by kernel_rfl) s H
@[simp] theorem n34_13 (s : List V) (H : Heap) : evCode P Γ call n f m (cAt [1, 0, 1, 0, 0, 1, 0, 1] B34) s H = some (.exit 0, s, H) := at_exit (by kernel_rfl) s H
@[simp] theorem n34_14 (s : List V) (H : Heap) : evCode P Γ call n f m (cAt [1, 0, 1, 0, 0, 1, 1] B34) s H = seqNext P Γ call n f m (cAt [1, 0, 1, 0, 0, 1, 1, 1] B34) (evCode P Γ call n f m (cAt [1, 0, 1, 0, 0, 1, 1, 0] B34) s H) := at_seq (by kernel_rfl) rfl rfl s H
@[simp] theorem n34_15 (s : List V) (H : Heap) : evCode P Γ call n f m (cAt [1, 0, 1, 0, 0, 1, 1, 0] B34) s H = blockNext 1 (evCode P Γ call n f m (cAt [1, 0, 1, 0, 0, 1, 1, 0, 0] B34) s H) := at_block (by kernel_rfl) rfl s H
@[simp] theorem n34_16 (s : List V) (H : Heap) : evCode P Γ call n f m (cAt [1, 0, 1, 0, 0, 1, 1, 0, 0] B34) s H = seqNext P Γ call n f m (cAt [1, 0, 1, 0, 0, 1, 1, 0, 0, 1] B34) (evCode P Γ call n f m (cAt [1, 0, 1, 0, 0, 1, 1, 0, 0, 0] B34) s H) := at_seq (by kernel_rfl) rfl rfl s H
noncomputable def r34_17 : {l : List Oper // opsOf (cAt [1, 0, 1, 0, 0, 1, 1, 0, 0, 0] B34) = l} := by
  apply Subtype.mk
  dsimp only [opsOf, cAt, kids, B34, bodyOf, Tryd.f34, List.getD, List.getElem?_cons_zero, List.getElem?_cons_succ, Option.getD_some]
@[simp] theorem n34_17 (s : List V) (H : Heap) : evCode P Γ call n f m (cAt [1, 0, 1, 0, 0, 1, 1, 0, 0, 0] B34) s H = regNext (evOpsGo P Γ call r34_17.1 r34_17.1 s H) := at_region (by kernel_rfl) r34_17.2 s H
attribute [simp] r34_17
@[simp] theorem n34_18 (s : List V) (H : Heap) : evCode P Γ call n f m (cAt [1, 0, 1, 0, 0, 1, 1, 0, 0, 1] B34) s H = seqNext P Γ call n f m (cAt [1, 0, 1, 0, 0, 1, 1, 0, 0, 1, 1] B34) (evCode P Γ call n f m (cAt [1, 0, 1, 0, 0, 1, 1, 0, 0, 1, 0] B34) s H) := at_seq (by kernel_rfl) rfl rfl s H
noncomputable def r34_19 : {l : List Oper // opsOf (cAt [1, 0, 1, 0, 0, 1, 1, 0, 0, 1, 0] B34) = l} := by
  apply Subtype.mk
  dsimp only [opsOf, cAt, kids, B34, bodyOf, Tryd.f34, List.getD, List.getElem?_cons_zero, List.getElem?_cons_succ, Option.getD_some]
@[simp] theorem n34_19 (s : List V) (H : Heap) : evCode P Γ call n f m (cAt [1, 0, 1, 0, 0, 1, 1, 0, 0, 1, 0] B34) s H = regNext (evOpsGo P Γ call r34_19.1 r34_19.1 s H) := at_region (by kernel_rfl) r34_19.2 s H
attribute [simp] r34_19
@[simp] theorem n34_20 (s : List V) (H : Heap) : evCode P Γ call n f m (cAt [1, 0, 1, 0, 0, 1, 1, 0, 0, 1, 1] B34) s H = blockNext 2 (evCode P Γ call n f m (cAt [1, 0, 1, 0, 0, 1, 1, 0, 0, 1, 1, 0] B34) s H) := at_block (by kernel_rfl) rfl s H
@[simp] theorem n34_21 (s : List V) (H : Heap) : evCode P Γ call n f m (cAt [1, 0, 1, 0, 0, 1, 1, 0, 0, 1, 1, 0] B34) s H = evLoopC P Γ call n f m (cAt [1, 0, 1, 0, 0, 1, 1, 0, 0, 1, 1, 0, 0] B34) n s H := at_loop (by kernel_rfl) rfl s H
noncomputable abbrev L34_5 : Code := cAt [1, 0, 1, 0, 0, 1, 1, 0, 0, 1, 1, 0, 0] B34
@[simp] theorem n34_21f : firstRegion (cAt [1, 0, 1, 0, 0, 1, 1, 0, 0, 1, 1, 0, 0] B34) = 5 := by kernel_rfl
@[simp] theorem n34_22 (s : List V) (H : Heap) : evCode P Γ call n f m (cAt [1, 0, 1, 0, 0, 1, 1, 0, 0, 1, 1, 0, 0] B34) s H = seqNext P Γ call n f m (cAt [1, 0, 1, 0, 0, 1, 1, 0, 0, 1, 1, 0, 0, 1] B34) (evCode P Γ call n f m (cAt [1, 0, 1, 0, 0, 1, 1, 0, 0, 1, 1, 0, 0, 0] B34) s H) := at_seq (by kernel_rfl) rfl rfl s H
noncomputable def r34_23 : {l : List Oper // opsOf (cAt [1, 0, 1, 0, 0, 1, 1, 0, 0, 1, 1, 0, 0, 0] B34) = l} := by
  apply Subtype.mk
  dsimp only [opsOf, cAt, kids, B34, bodyOf, Tryd.f34, List.getD, List.getElem?_cons_zero, List.getElem?_cons_succ, Option.getD_some]
@[simp] theorem n34_23 (s : List V) (H : Heap) : evCode P Γ call n f m (cAt [1, 0, 1, 0, 0, 1, 1, 0, 0, 1, 1, 0, 0, 0] B34) s H = regNext (evOpsGo P Γ call r34_23.1 r34_23.1 s H) := at_region (by kernel_rfl) r34_23.2 s H
attribute [simp] r34_23
@[simp] theorem n34_24 (s : List V) (H : Heap) : evCode P Γ call n f m (cAt [1, 0, 1, 0, 0, 1, 1, 0, 0, 1, 1, 0, 0, 1] B34) s H = seqNext P Γ call n f m (cAt [1, 0, 1, 0, 0, 1, 1, 0, 0, 1, 1, 0, 0, 1, 1] B34) (evCode P Γ call n f m (cAt [1, 0, 1, 0, 0, 1, 1, 0, 0, 1, 1, 0, 0, 1, 0] B34) s H) := at_seq (by kernel_rfl) rfl rfl s H
@[simp] theorem n34_25 (s : List V) (H : Heap) : evCode P Γ call n f m (cAt [1, 0, 1, 0, 0, 1, 1, 0, 0, 1, 1, 0, 0, 1, 0] B34) s H = condW P Γ call n f m (cAt [1, 0, 1, 0, 0, 1, 1, 0, 0, 1, 1, 0, 0, 1, 0, 0] B34) (cAt [1, 0, 1, 0, 0, 1, 1, 0, 0, 1, 1, 0, 0, 1, 0, 1] B34) s H (evOperand Γ s (.tmp 14)) := at_cond (by kernel_rfl) (by kernel_rfl) rfl rfl s H
@[simp] theorem n34_26 (s : List V) (H : Heap) : evCode P Γ call n f m (cAt [1, 0, 1, 0, 0, 1, 1, 0, 0, 1, 1, 0, 0, 1, 0, 0] B34) s H = some (.normal, s, H) := at_skip (by kernel_rfl) s H
@[simp] theorem n34_27 (s : List V) (H : Heap) : evCode P Γ call n f m (cAt [1, 0, 1, 0, 0, 1, 1, 0, 0, 1, 1, 0, 0, 1, 0, 1] B34) s H = some (.exit 2, s, H) := at_exit (by kernel_rfl) s H
@[simp] theorem n34_28 (s : List V) (H : Heap) : evCode P Γ call n f m (cAt [1, 0, 1, 0, 0, 1, 1, 0, 0, 1, 1, 0, 0, 1, 1] B34) s H = seqNext P Γ call n f m (cAt [1, 0, 1, 0, 0, 1, 1, 0, 0, 1, 1, 0, 0, 1, 1, 1] B34) (evCode P Γ call n f m (cAt [1, 0, 1, 0, 0, 1, 1, 0, 0, 1, 1, 0, 0, 1, 1, 0] B34) s H) := at_seq (by kernel_rfl) rfl rfl s H
@[simp] theorem n34_29 (s : List V) (H : Heap) : evCode P Γ call n f m (cAt [1, 0, 1, 0, 0, 1, 1, 0, 0, 1, 1, 0, 0, 1, 1, 0] B34) s H = blockNext 3 (evCode P Γ call n f m (cAt [1, 0, 1, 0, 0, 1, 1, 0, 0, 1, 1, 0, 0, 1, 1, 0, 0] B34) s H) := at_block (by kernel_rfl) rfl s H
@[simp] theorem n34_30 (s : List V) (H : Heap) : evCode P Γ call n f m (cAt [1, 0, 1, 0, 0, 1, 1, 0, 0, 1, 1, 0, 0, 1, 1, 0, 0] B34) s H = seqNext P Γ call n f m (cAt [1, 0, 1, 0, 0, 1, 1, 0, 0, 1, 1, 0, 0, 1, 1, 0, 0, 1] B34) (evCode P Γ call n f m (cAt [1, 0, 1, 0, 0, 1, 1, 0, 0, 1, 1, 0, 0, 1, 1, 0, 0, 0] B34) s H) := at_seq (by kernel_rfl) rfl rfl s H
noncomputable def r34_31 : {l : List Oper // opsOf (cAt [1, 0, 1, 0, 0, 1, 1, 0, 0, 1, 1, 0, 0, 1, 1, 0, 0, 0] B34) = l} := by
  apply Subtype.mk
  dsimp only [opsOf, cAt, kids, B34, bodyOf, Tryd.f34, List.getD, List.getElem?_cons_zero, List.getElem?_cons_succ, Option.getD_some]
@[simp] theorem n34_31 (s : List V) (H : Heap) : evCode P Γ call n f m (cAt [1, 0, 1, 0, 0, 1, 1, 0, 0, 1, 1, 0, 0, 1, 1, 0, 0, 0] B34) s H = regNext (evOpsGo P Γ call r34_31.1 r34_31.1 s H) := at_region (by kernel_rfl) r34_31.2 s H
attribute [simp] r34_31
@[simp] theorem n34_32 (s : List V) (H : Heap) : evCode P Γ call n f m (cAt [1, 0, 1, 0, 0, 1, 1, 0, 0, 1, 1, 0, 0, 1, 1, 0, 0, 1] B34) s H = seqNext P Γ call n f m (cAt [1, 0, 1, 0, 0, 1, 1, 0, 0, 1, 1, 0, 0, 1, 1, 0, 0, 1, 1] B34) (evCode P Γ call n f m (cAt [1, 0, 1, 0, 0, 1, 1, 0, 0, 1, 1, 0, 0, 1, 1, 0, 0, 1, 0] B34) s H) := at_seq (by kernel_rfl) rfl rfl s H
@[simp] theorem n34_33 (s : List V) (H : Heap) : evCode P Γ call n f m (cAt [1, 0, 1, 0, 0, 1, 1, 0, 0, 1, 1, 0, 0, 1, 1, 0, 0, 1, 0] B34) s H = seqNext P Γ call n f m (cAt [1, 0, 1, 0, 0, 1, 1, 0, 0, 1, 1, 0, 0, 1, 1, 0, 0, 1, 0, 1] B34) (evCode P Γ call n f m (cAt [1, 0, 1, 0, 0, 1, 1, 0, 0, 1, 1, 0, 0, 1, 1, 0, 0, 1, 0, 0] B34) s H) := at_seq (by kernel_rfl) rfl rfl s H
noncomputable def r34_34 : {l : List Oper // opsOf (cAt [1, 0, 1, 0, 0, 1, 1, 0, 0, 1, 1, 0, 0, 1, 1, 0, 0, 1, 0, 0] B34) = l} := by
  apply Subtype.mk
  dsimp only [opsOf, cAt, kids, B34, bodyOf, Tryd.f34, List.getD, List.getElem?_cons_zero, List.getElem?_cons_succ, Option.getD_some]
@[simp] theorem n34_34 (s : List V) (H : Heap) : evCode P Γ call n f m (cAt [1, 0, 1, 0, 0, 1, 1, 0, 0, 1, 1, 0, 0, 1, 1, 0, 0, 1, 0, 0] B34) s H = regNext (evOpsGo P Γ call r34_34.1 r34_34.1 s H) := at_region (by kernel_rfl) r34_34.2 s H
attribute [simp] r34_34
@[simp] theorem n34_35 (s : List V) (H : Heap) : evCode P Γ call n f m (cAt [1, 0, 1, 0, 0, 1, 1, 0, 0, 1, 1, 0, 0, 1, 1, 0, 0, 1, 0, 1] B34) s H = blockNext 4 (evCode P Γ call n f m (cAt [1, 0, 1, 0, 0, 1, 1, 0, 0, 1, 1, 0, 0, 1, 1, 0, 0, 1, 0, 1, 0] B34) s H) := at_block (by kernel_rfl) rfl s H
@[simp] theorem n34_36 (s : List V) (H : Heap) : evCode P Γ call n f m (cAt [1, 0, 1, 0, 0, 1, 1, 0, 0, 1, 1, 0, 0, 1, 1, 0, 0, 1, 0, 1, 0] B34) s H = evLoopC P Γ call n f m (cAt [1, 0, 1, 0, 0, 1, 1, 0, 0, 1, 1, 0, 0, 1, 1, 0, 0, 1, 0, 1, 0, 0] B34) n s H := at_loop (by kernel_rfl) rfl s H
noncomputable abbrev L34_8 : Code := cAt [1, 0, 1, 0, 0, 1, 1, 0, 0, 1, 1, 0, 0, 1, 1, 0, 0, 1, 0, 1, 0, 0] B34
@[simp] theorem n34_36f : firstRegion (cAt [1, 0, 1, 0, 0, 1, 1, 0, 0, 1, 1, 0, 0, 1, 1, 0, 0, 1, 0, 1, 0, 0] B34) = 8 := by kernel_rfl
@[simp] theorem n34_37 (s : List V) (H : Heap) : evCode P Γ call n f m (cAt [1, 0, 1, 0, 0, 1, 1, 0, 0, 1, 1, 0, 0, 1, 1, 0, 0, 1, 0, 1, 0, 0] B34) s H = seqNext P Γ call n f m (cAt [1, 0, 1, 0, 0, 1, 1, 0, 0, 1, 1, 0, 0, 1, 1, 0, 0, 1, 0, 1, 0, 0, 1] B34) (evCode P Γ call n f m (cAt [1, 0, 1, 0, 0, 1, 1, 0, 0, 1, 1, 0, 0, 1, 1, 0, 0, 1, 0, 1, 0, 0, 0] B34) s H) := at_seq (by kernel_rfl) rfl rfl s H
noncomputable def r34_38 : {l : List Oper // opsOf (cAt [1, 0, 1, 0, 0, 1, 1, 0, 0, 1, 1, 0, 0, 1, 1, 0, 0, 1, 0, 1, 0, 0, 0] B34) = l} := by
  apply Subtype.mk
  dsimp only [opsOf, cAt, kids, B34, bodyOf, Tryd.f34, List.getD, List.getElem?_cons_zero, List.getElem?_cons_succ, Option.getD_some]
@[simp] theorem n34_38 (s : List V) (H : Heap) : evCode P Γ call n f m (cAt [1, 0, 1, 0, 0, 1, 1, 0, 0, 1, 1, 0, 0, 1, 1, 0, 0, 1, 0, 1, 0, 0, 0] B34) s H = regNext (evOpsGo P Γ call r34_38.1 r34_38.1 s H) := at_region (by kernel_rfl) r34_38.2 s H
attribute [simp] r34_38
@[simp] theorem n34_39 (s : List V) (H : Heap) : evCode P Γ call n f m (cAt [1, 0, 1, 0, 0, 1, 1, 0, 0, 1, 1, 0, 0, 1, 1, 0, 0, 1, 0, 1, 0, 0, 1] B34) s H = seqNext P Γ call n f m (cAt [1, 0, 1, 0, 0, 1, 1, 0, 0, 1, 1, 0, 0, 1, 1, 0, 0, 1, 0, 1, 0, 0, 1, 1] B34) (evCode P Γ call n f m (cAt [1, 0, 1, 0, 0, 1, 1, 0, 0, 1, 1, 0, 0, 1, 1, 0, 0, 1, 0, 1, 0, 0, 1, 0] B34) s H) := at_seq (by kernel_rfl) rfl rfl s H
@[simp] theorem n34_40 (s : List V) (H : Heap) : evCode P Γ call n f m (cAt [1, 0, 1, 0, 0, 1, 1, 0, 0, 1, 1, 0, 0, 1, 1, 0, 0, 1, 0, 1, 0, 0, 1, 0] B34) s H = condW P Γ call n f m (cAt [1, 0, 1, 0, 0, 1, 1, 0, 0, 1, 1, 0, 0, 1, 1, 0, 0, 1, 0, 1, 0, 0, 1, 0, 0] B34) (cAt [1, 0, 1, 0, 0, 1, 1, 0, 0, 1, 1, 0, 0, 1, 1, 0, 0, 1, 0, 1, 0, 0, 1, 0, 1] B34) s H (evOperand Γ s (.tmp 19)) := at_cond (by kernel_rfl) (by kernel_rfl) rfl rfl s H
@[simp] theorem n34_41 (s : List V) (H : Heap) : evCode P Γ call n f m (cAt [1, 0, 1, 0, 0, 1, 1, 0, 0, 1, 1, 0, 0, 1, 1, 0, 0, 1, 0, 1, 0, 0, 1, 0, 0] B34) s H = some (.normal, s, H) := at_skip (by kernel_rfl) s H
@[simp] theorem n34_42 (s : List V) (H : Heap) : evCode P Γ call n f m (cAt [1, 0, 1, 0, 0, 1, 1, 0, 0, 1, 1, 0, 0, 1, 1, 0, 0, 1, 0, 1, 0, 0, 1, 0, 1] B34) s H = some (.exit 4, s, H) := at_exit (by kernel_rfl) s H
@[simp] theorem n34_43 (s : List V) (H : Heap) : evCode P Γ call n f m (cAt [1, 0, 1, 0, 0, 1, 1, 0, 0, 1, 1, 0, 0, 1, 1, 0, 0, 1, 0, 1, 0, 0, 1, 1] B34) s H = seqNext P Γ call n f m (cAt [1, 0, 1, 0, 0, 1, 1, 0, 0, 1, 1, 0, 0, 1, 1, 0, 0, 1, 0, 1, 0, 0, 1, 1, 1] B34) (evCode P Γ call n f m (cAt [1, 0, 1, 0, 0, 1, 1, 0, 0, 1, 1, 0, 0, 1, 1, 0, 0, 1, 0, 1, 0, 0, 1, 1, 0] B34) s H) := at_seq (by kernel_rfl) rfl rfl s H
@[simp] theorem n34_44 (s : List V) (H : Heap) : evCode P Γ call n f m (cAt [1, 0, 1, 0, 0, 1, 1, 0, 0, 1, 1, 0, 0, 1, 1, 0, 0, 1, 0, 1, 0, 0, 1, 1, 0] B34) s H = blockNext 5 (evCode P Γ call n f m (cAt [1, 0, 1, 0, 0, 1, 1, 0, 0, 1, 1, 0, 0, 1, 1, 0, 0, 1, 0, 1, 0, 0, 1, 1, 0, 0] B34) s H) := at_block (by kernel_rfl) rfl s H
@[simp] theorem n34_45 (s : List V) (H : Heap) : evCode P Γ call n f m (cAt [1, 0, 1, 0, 0, 1, 1, 0, 0, 1, 1, 0, 0, 1, 1, 0, 0, 1, 0, 1, 0, 0, 1, 1, 0, 0] B34) s H = seqNext P Γ call n f m (cAt [1, 0, 1, 0, 0, 1, 1, 0, 0, 1, 1, 0, 0, 1, 1, 0, 0, 1, 0, 1, 0, 0, 1, 1, 0, 0, 1] B34) (evCode P Γ call n f m (cAt [1, 0, 1, 0, 0, 1, 1, 0, 0, 1, 1, 0, 0, 1, 1, 0, 0, 1, 0, 1, 0, 0, 1, 1, 0, 0, 0] B34) s H) := at_seq (by kernel_rfl) rfl rfl s H
noncomputable def r34_46 : {l : List Oper // opsOf (cAt [1, 0, 1, 0, 0, 1, 1, 0, 0, 1, 1, 0, 0, 1, 1, 0, 0, 1, 0, 1, 0, 0, 1, 1, 0, 0, 0] B34) = l} := by
  apply Subtype.mk
  dsimp only [opsOf, cAt, kids, B34, bodyOf, Tryd.f34, List.getD, List.getElem?_cons_zero, List.getElem?_cons_succ, Option.getD_some]
@[simp] theorem n34_46 (s : List V) (H : Heap) : evCode P Γ call n f m (cAt [1, 0, 1, 0, 0, 1, 1, 0, 0, 1, 1, 0, 0, 1, 1, 0, 0, 1, 0, 1, 0, 0, 1, 1, 0, 0, 0] B34) s H = regNext (evOpsGo P Γ call r34_46.1 r34_46.1 s H) := at_region (by kernel_rfl) r34_46.2 s H
attribute [simp] r34_46
noncomputable def r34_47 : {l : List Oper // opsOf (cAt [1, 0, 1, 0, 0, 1, 1, 0, 0, 1, 1, 0, 0, 1, 1, 0, 0, 1, 0, 1, 0, 0, 1, 1, 0, 0, 1] B34) = l} := by
  apply Subtype.mk
  dsimp only [opsOf, cAt, kids, B34, bodyOf, Tryd.f34, List.getD, List.getElem?_cons_zero, List.getElem?_cons_succ, Option.getD_some]
@[simp] theorem n34_47 (s : List V) (H : Heap) : evCode P Γ call n f m (cAt [1, 0, 1, 0, 0, 1, 1, 0, 0, 1, 1, 0, 0, 1, 1, 0, 0, 1, 0, 1, 0, 0, 1, 1, 0, 0, 1] B34) s H = regNext (drawR P Γ call r34_47.1 [([1, 4, 5, 6, 7, 8, 9, 10, 11, 12, 13, 14, 15, 16, 17, 18, 19, 20, 21, 22, 23, 24, 25, 26, 27], [22, 25, 26, 27, 28, 29, 30, 31, 32, 33, 34, 35, 36, 37, 38, 39, 40, 41, 42, 43, 44, 45, 46, 47, 48]), ([0, 4, 5, 6, 7, 8, 9, 10, 11, 12, 13, 14, 15, 16, 17, 18, 19, 20, 21, 22, 23, 24, 25, 26, 27], [21, 25, 26, 27, 28, 29, 30, 31, 32, 33, 34, 35, 36, 37, 38, 39, 40, 41, 42, 43, 44, 45, 46, 47, 48]), ([4, 5, 6, 7, 8, 9, 10, 11, 12, 13, 14, 15, 16, 17, 18, 19, 20, 21, 22, 23, 24, 25, 26, 27], [25, 26, 27, 28, 29, 30, 31, 32, 33, 34, 35, 36, 37, 38, 39, 40, 41, 42, 43, 44, 45, 46, 47, 48]), ([4, 5, 6, 7, 8, 9, 10, 11, 12, 13, 14, 15, 16, 17, 18, 19, 20, 21, 22, 23, 24, 25, 26, 27], [25, 26, 27, 28, 29, 30, 31, 32, 33, 34, 35, 36, 37, 38, 39, 40, 41, 42, 43, 44, 45, 46, 47, 48]), ([0, 1, 2, 3, 5, 6, 7, 8, 9, 10, 11, 12, 13, 14, 15, 16, 17, 18, 19, 20, 21, 22, 23, 24, 25, 26, 27], [21, 22, 23, 24, 26, 27, 28, 29, 30, 31, 32, 33, 34, 35, 36, 37, 38, 39, 40, 41, 42, 43, 44, 45, 46, 47, 48]), ([0, 1, 2, 3, 4, 6, 9, 12, 13, 14, 15, 16, 17, 18, 19, 20, 21, 22, 23, 24, 25, 26], [21, 22, 23, 24, 25, 27, 30, 33, 34, 35, 36, 37, 38, 39, 40, 41, 42, 43, 44, 45, 46, 47]), ([0, 1, 2, 3, 4, 5, 9, 12, 13, 14, 15, 16, 17, 18, 19, 20, 21, 22, 23, 24, 25, 26], [21, 22, 23, 24, 25, 26, 30, 33, 34, 35, 36, 37, 38, 39, 40, 41, 42, 43, 44, 45, 46, 47]), ([0, 1, 2, 3, 4, 9, 12, 13, 14, 15, 16, 17, 18, 19, 20, 21, 22, 23, 24, 25, 26], [21, 22, 23, 24, 25, 30, 33, 34, 35, 36, 37, 38, 39, 40, 41, 42, 43, 44, 45, 46, 47]), ([0, 1, 2, 3, 4, 9, 12, 13, 14, 15, 16, 17, 18, 19, 20, 21, 22, 23, 24, 25, 26], [21, 22, 23, 24, 25, 30, 33, 34, 35, 36, 37, 38, 39, 40, 41, 42, 43, 44, 45, 46, 47]), ([0, 1, 2, 3, 4, 5, 6, 7, 8, 12, 13, 14, 15, 16, 17, 18, 19, 20, 21, 22, 23, 24, 25, 26], [21, 22, 23, 24, 25, 26, 27, 28, 29, 33, 34, 35, 36, 37, 38, 39, 40, 41, 42, 43, 44, 45, 46, 47]), ([0, 1, 2, 3, 4, 12, 13, 14, 15, 16, 17, 18, 19, 20, 21, 22, 23, 24, 25, 26], [21, 22, 23, 24, 25, 33, 34, 35, 36, 37, 38, 39, 40, 41, 42, 43, 44, 45, 46, 47]), ([0, 1, 2, 3, 4, 12, 13, 14, 15, 16, 17, 18, 19, 20, 21, 22, 23, 24, 25, 26], [21, 22, 23, 24, 25, 33, 34, 35, 36, 37, 38, 39, 40, 41, 42, 43, 44, 45, 46, 47]), ([0, 1, 2, 3, 4, 5, 6, 7, 8, 9, 10, 11, 13, 16, 19, 20, 21, 22, 23, 24, 25], [21, 22, 23, 24, 25, 26, 27, 28, 29, 30, 31, 32, 34, 37, 40, 41, 42, 43, 44, 45, 46]), ([0, 1, 2, 3, 4, 5, 6, 7, 8, 9, 10, 11, 12, 16, 19, 20, 21, 22, 23, 24, 25], [21, 22, 23, 24, 25, 26, 27, 28, 29, 30, 31, 32, 33, 37, 40, 41, 42, 43, 44, 45, 46]), ([0, 1, 2, 3, 4, 5, 6, 7, 8, 9, 10, 11, 16, 19, 20, 21, 22, 23, 24, 25], [21, 22, 23, 24, 25, 26, 27, 28, 29, 30, 31, 32, 37, 40, 41, 42, 43, 44, 45, 46]), ([0, 1, 2, 3, 4, 5, 6, 7, 8, 9, 10, 11, 16, 19, 20, 21, 22, 23, 24, 25], [21, 22, 23, 24, 25, 26, 27, 28, 29, 30, 31, 32, 37, 40, 41, 42, 43, 44, 45, 46]), ([0, 1, 2, 3, 4, 5, 6, 7, 8, 9, 10, 11, 12, 13, 14, 15, 19, 20, 21, 22, 23, 24, 25], [21, 22, 23, 24, 25, 26, 27, 28, 29, 30, 31, 32, 33, 34, 35, 36, 40, 41, 42, 43, 44, 45, 46]), ([0, 1, 2, 3, 4, 5, 6, 7, 8, 9, 10, 11, 19, 20, 21, 22, 23, 24, 25], [21, 22, 23, 24, 25, 26, 27, 28, 29, 30, 31, 32, 40, 41, 42, 43, 44, 45, 46]), ([0, 1, 2, 3, 4, 5, 6, 7, 8, 9, 10, 11, 19, 20, 21, 22, 23, 24, 25], [21, 22, 23, 24, 25, 26, 27, 28, 29, 30, 31, 32, 40, 41, 42, 43, 44, 45, 46]), ([0, 1, 2, 3, 4, 5, 6, 7, 8, 9, 10, 11, 12, 13, 14, 15, 16, 17, 18, 20, 23], [21, 22, 23, 24, 25, 26, 27, 28, 29, 30, 31, 32, 33, 34, 35, 36, 37, 38, 39, 41, 44]), ([0, 1, 2, 3, 4, 5, 6, 7, 8, 9, 10, 11, 12, 13, 14, 15, 16, 17, 18, 19, 23], [21, 22, 23, 24, 25, 26, 27, 28, 29, 30, 31, 32, 33, 34, 35, 36, 37, 38, 39, 40, 44]), ([0, 1, 2, 3, 4, 5, 6, 7, 8, 9, 10, 11, 12, 13, 14, 15, 16, 17, 18, 23], [21, 22, 23, 24, 25, 26, 27, 28, 29, 30, 31, 32, 33, 34, 35, 36, 37, 38, 39, 44]), ([0, 1, 2, 3, 4, 5, 6, 7, 8, 9, 10, 11, 12, 13, 14, 15, 16, 17, 18, 23], [21, 22, 23, 24, 25, 26, 27, 28, 29, 30, 31, 32, 33, 34, 35, 36, 37, 38, 39, 44]), ([0, 1, 2, 3, 4, 5, 6, 7, 8, 9, 10, 11, 12, 13, 14, 15, 16, 17, 18, 19, 20, 21, 22], [21, 22, 23, 24, 25, 26, 27, 28, 29, 30, 31, 32, 33, 34, 35, 36, 37, 38, 39, 40, 41, 42, 43]), ([0, 1, 2, 3, 4, 5, 6, 7, 8, 9, 10, 11, 12, 13, 14, 15, 16, 17, 18], [21, 22, 23, 24, 25, 26, 27, 28, 29, 30, 31, 32, 33, 34, 35, 36, 37, 38, 39]), ([0, 1, 2, 3, 4, 5, 6, 7, 8, 9, 10, 11, 12, 13, 14, 15, 16, 17, 18], [21, 22, 23, 24, 25, 26, 27, 28, 29, 30, 31, 32, 33, 34, 35, 36, 37, 38, 39]), ([0, 1, 2, 3, 4, 5, 6, 7, 8, 9, 10, 11], [21, 22, 23, 24, 25, 26, 27, 28, 29, 30, 31, 32]), ([0, 1, 2, 3, 4], [21, 22, 23, 24, 25]), ([], []), ([], [])] s H) := at_drawT (by kernel_rfl) r34_47.2 (by kernel_rfl) s H
attribute [simp] r34_47
noncomputable def r34_48 : {l : List Oper // opsOf (cAt [1, 0, 1, 0, 0, 1, 1, 0, 0, 1, 1, 0, 0, 1, 1, 0, 0, 1, 0, 1, 0, 0, 1, 1, 1] B34) = l} := by
  apply Subtype.mk
  dsimp only [opsOf, cAt, kids, B34, bodyOf, Tryd.f34, List.getD, List.getElem?_cons_zero, List.getElem?_cons_succ, Option.getD_some]
@[simp] theorem n34_48 (s : List V) (H : Heap) : evCode P Γ call n f m (cAt [1, 0, 1, 0, 0, 1, 1, 0, 0, 1, 1, 0, 0, 1, 1, 0, 0, 1, 0, 1, 0, 0, 1, 1, 1] B34) s H = regNext (evOpsGo P Γ call r34_48.1 r34_48.1 s H) := at_region (by kernel_rfl) r34_48.2 s H
attribute [simp] r34_48
@[simp] theorem n34_49 (s : List V) (H : Heap) : evCode P Γ call n f m (cAt [1, 0, 1, 0, 0, 1, 1, 0, 0, 1, 1, 0, 0, 1, 1, 0, 0, 1, 1] B34) s H = seqNext P Γ call n f m (cAt [1, 0, 1, 0, 0, 1, 1, 0, 0, 1, 1, 0, 0, 1, 1, 0, 0, 1, 1, 1] B34) (evCode P Γ call n f m (cAt [1, 0, 1, 0, 0, 1, 1, 0, 0, 1, 1, 0, 0, 1, 1, 0, 0, 1, 1, 0] B34) s H) := at_seq (by kernel_rfl) rfl rfl s H
noncomputable def r34_50 : {l : List Oper // opsOf (cAt [1, 0, 1, 0, 0, 1, 1, 0, 0, 1, 1, 0, 0, 1, 1, 0, 0, 1, 1, 0] B34) = l} := by
  apply Subtype.mk
  dsimp only [opsOf, cAt, kids, B34, bodyOf, Tryd.f34, List.getD, List.getElem?_cons_zero, List.getElem?_cons_succ, Option.getD_some]
@[simp] theorem n34_50 (s : List V) (H : Heap) : evCode P Γ call n f m (cAt [1, 0, 1, 0, 0, 1, 1, 0, 0, 1, 1, 0, 0, 1, 1, 0, 0, 1, 1, 0] B34) s H = regNext (evOpsGo P Γ call r34_50.1 r34_50.1 s H) := at_region (by kernel_rfl) r34_50.2 s H
attribute [simp] r34_50
@[simp] theorem n34_51 (s : List V) (H : Heap) : evCode P Γ call n f m (cAt [1, 0, 1, 0, 0, 1, 1, 0, 0, 1, 1, 0, 0, 1, 1, 0, 0, 1, 1, 1] B34) s H = condW P Γ call n f m (cAt [1, 0, 1, 0, 0, 1, 1, 0, 0, 1, 1, 0, 0, 1, 1, 0, 0, 1, 1, 1, 0] B34) (cAt [1, 0, 1, 0, 0, 1, 1, 0, 0, 1, 1, 0, 0, 1, 1, 0, 0, 1, 1, 1, 1] B34) s H (evOperand Γ s (.tmp 58)) := at_cond (by kernel_rfl) (by kernel_rfl) rfl rfl s H
@[simp] theorem n34_52 (s : List V) (H : Heap) : evCode P Γ call n f m (cAt [1, 0, 1, 0, 0, 1, 1, 0, 0, 1, 1, 0, 0, 1, 1, 0, 0, 1, 1, 1, 0] B34) s H = seqNext P Γ call n f m (cAt [1, 0, 1, 0, 0, 1, 1, 0, 0, 1, 1, 0, 0, 1, 1, 0, 0, 1, 1, 1, 0, 1] B34) (evCode P Γ call n f m (cAt [1, 0, 1, 0, 0, 1, 1, 0, 0, 1, 1, 0, 0, 1, 1, 0, 0, 1, 1, 1, 0, 0] B34) s H) := at_seq (by kernel_rfl) rfl rfl s H
noncomputable def r34_53 : {l : List Oper // opsOf (cAt [1, 0, 1, 0, 0, 1, 1, 0, 0, 1, 1, 0, 0, 1, 1, 0, 0, 1, 1, 1, 0, 0] B34) = l} := by
  apply Subtype.mk
  dsimp only [opsOf, cAt, kids, B34, bodyOf, Tryd.f34, List.getD, List.getElem?_cons_zero, List.getElem?_cons_succ, Option.getD_some]
@[simp] theorem n34_53 (s : List V) (H : Heap) : evCode P Γ call n f m (cAt [1, 0, 1, 0, 0, 1, 1, 0, 0, 1, 1, 0, 0, 1, 1, 0, 0, 1, 1, 1, 0, 0] B34) s H = regNext (evOpsGo P Γ call r34_53.1 r34_53.1 s H) := at_region (by kernel_rfl) r34_53.2 s H
attribute [simp] r34_53
@[simp] theorem n34_54 (s : List V) (H : Heap) : evCode P Γ call n f m (cAt [1, 0, 1, 0, 0, 1, 1, 0, 0, 1, 1, 0, 0, 1, 1, 0, 0, 1, 1, 1, 0, 1] B34) s H = some (.ret, s, H) := at_ret (by kernel_rfl) s H
@[simp] theorem n34_55 (s : List V) (H : Heap) : evCode P Γ call n f m (cAt [1, 0, 1, 0, 0, 1, 1, 0, 0, 1, 1, 0, 0, 1, 1, 0, 0, 1, 1, 1, 1] B34) s H = some (.normal, s, H) := at_skip (by kernel_rfl) s H
noncomputable def r34_56 : {l : List Oper // opsOf (cAt [1, 0, 1, 0, 0, 1, 1, 0, 0, 1, 1, 0, 0, 1, 1, 1] B34) = l} := by
  apply Subtype.mk
  dsimp only [opsOf, cAt, kids, B34, bodyOf, Tryd.f34, List.getD, List.getElem?_cons_zero, List.getElem?_cons_succ, Option.getD_some]
@[simp] theorem n34_56 (s : List V) (H : Heap) : evCode P Γ call n f m (cAt [1, 0, 1, 0, 0, 1, 1, 0, 0, 1, 1, 0, 0, 1, 1, 1] B34) s H = regNext (evOpsGo P Γ call r34_56.1 r34_56.1 s H) := at_region (by kernel_rfl) r34_56.2 s H
attribute [simp] r34_56
noncomputable def r34_57 : {l : List Oper // opsOf (cAt [1, 0, 1, 0, 0, 1, 1, 1] B34) = l} := by
  apply Subtype.mk
  dsimp only [opsOf, cAt, kids, B34, bodyOf, Tryd.f34, List.getD, List.getElem?_cons_zero, List.getElem?_cons_succ, Option.getD_some]
@[simp] theorem n34_57 (s : List V) (H : Heap) : evCode P Γ call n f m (cAt [1, 0, 1, 0, 0, 1, 1, 1] B34) s H = regNext (evOpsGo P Γ call r34_57.1 r34_57.1 s H) := at_region (by kernel_rfl) r34_57.2 s H
attribute [simp] r34_57
@[simp] theorem n34_58 (s : List V) (H : Heap) : evCode P Γ call n f m (cAt [1, 1] B34) s H = seqNext P Γ call n f m (cAt [1, 1, 1] B34) (evCode P Γ call n f m (cAt [1, 1, 0] B34) s H) := at_seq (by kernel_rfl) rfl rfl s H
noncomputable def r34_59 : {l : List Oper // opsOf (cAt [1, 1, 0] B34) = l} := by
  apply Subtype.mk
  dsimp only [opsOf, cAt, kids, B34, bodyOf, Tryd.f34, List.getD, List.getElem?_cons_zero, List.getElem?_cons_succ, Option.getD_some]
@[simp] theorem n34_59 (s : List V) (H : Heap) : evCode P Γ call n f m (cAt [1, 1, 0] B34) s H = regNext (evOpsGo P Γ call r34_59.1 r34_59.1 s H) := at_region (by kernel_rfl) r34_59.2 s H
attribute [simp] r34_59
@[simp] theorem n34_60 (s : List V) (H : Heap) : evCode P Γ call n f m (cAt [1, 1, 1] B34) s H = some (.ret, s, H) := at_ret (by kernel_rfl) s H
theorem b34 {k : Nat} (ho : ∀ args H, Γ.orc 34 args H = none) (args : List V) (H : Heap) (ha : args.length ≤ 61) : evF Tryd.prog Γ (k + 1) 34 args H = bodyEnd Tryd.prog [.tmp 2] H.length (evCode Tryd.prog Γ (evF Tryd.prog Γ k) k 34 H.length (cAt [] B34) (mkL 61 V.undef (enumV 0 args)) H) := body_at Tryd.func34 (by decide) rfl ho rfl rfl args H ha
noncomputable def B41 : Code := bodyOf Tryd.f41
@[simp] theorem n41_1 (s : List V) (H : Heap) : evCode P Γ call n f m (cAt [] B41) s H = seqNext P Γ call n f m (cAt [1] B41) (evCode P Γ call n f m (cAt [0] B41) s H) := at_seq (by kernel_rfl) rfl rfl s H
noncomputable def r41_2 : {l : List Oper // opsOf (cAt [0] B41) = l} := by
  apply Subtype.mk
  dsimp only [opsOf, cAt, kids, B41, bodyOf, Tryd.f41, List.getD, List.getElem?_cons_zero, List.getElem?_cons_succ, Option.getD_some]
@[simp] theorem n41_2 (s : List V) (H : Heap) : evCode P Γ call n f m (cAt [0] B41) s H = regNext (evOpsGo P Γ call r41_2.1 r41_2.1 s H) := at_region (by kernel_rfl) r41_2.2 s H
attribute [simp] r41_2
noncomputable def r41_3 : {l : List Oper // opsOf (cAt [1] B41) = l} := by
  apply Subtype.mk
  dsimp only [opsOf, cAt, kids, B41, bodyOf, Tryd.f41, List.getD, List.getElem?_cons_zero, List.getElem?_cons_succ, Option.getD_some]
@[simp] theorem n41_3 (s : List V) (H : Heap) : evCode P Γ call n f m (cAt [1] B41) s H = regNext (evOpsGo P Γ call r41_3.1 r41_3.1 s H) := at_region (by kernel_rfl) r41_3.2 s H
attribute [simp] r41_3
theorem b41 {k : Nat} (ho : ∀ args H, Γ.orc 41 args H = none) (args : List V) (H : Heap) (ha : args.length ≤ 21) : evF Tryd.prog Γ (k + 1) 41 args H = bodyEnd Tryd.prog [] H.length (evCode Tryd.prog Γ (evF Tryd.prog Γ k) k 41 H.length (cAt [] B41) (mkL 21 V.undef (enumV 0 args)) H) := body_at Tryd.func41 (by decide) rfl ho rfl rfl args H ha
noncomputable def B42 : Code := bodyOf Tryd.f42
@[simp] theorem n42_1 (s : List V) (H : Heap) : evCode P Γ call n f m (cAt [] B42) s H = seqNext P Γ call n f m (cAt [1] B42) (evCode P Γ call n f m (cAt [0] B42) s H) := at_seq (by kernel_rfl) rfl rfl s H
noncomputable def r42_2 : {l : List Oper // opsOf (cAt [0] B42) = l} := by
  apply Subtype.mk
  dsimp only [opsOf, cAt, kids, B42, bodyOf, Tryd.f42, List.getD, List.getElem?_cons_zero, List.getElem?_cons_succ, Option.getD_some]
@[simp] theorem n42_2 (s : List V) (H : Heap) : evCode P Γ call n f m (cAt [0] B42) s H = regNext (evOpsGo P Γ call r42_2.1 r42_2.1 s H) := at_region (by kernel_rfl) r42_2.2 s H
attribute [simp] r42_2
@[simp] theorem n42_3 (s : List V) (H : Heap) : evCode P Γ call n f m (cAt [1] B42) s H = seqNext P Γ call n f m (cAt [1, 1] B42) (evCode P Γ call n f m (cAt [1, 0] B42) s H) := at_seq (by kernel_rfl) rfl rfl s H
@[simp] theorem n42_4 (s : List V) (H : Heap) : evCode P Γ call n f m (cAt [1, 0] B42) s H = seqNext P Γ call n f m (cAt [1, 0, 1] B42) (evCode P Γ call n f m (cAt [1, 0, 0] B42) s H) := at_seq (by kernel_rfl) rfl rfl s H
noncomputable def r42_5 : {l : List Oper // opsOf (cAt [1, 0, 0] B42) = l} := by
  apply Subtype.mk
  dsimp only [opsOf, cAt, kids, B42, bodyOf, Tryd.f42, List.getD, List.getElem?_cons_zero, List.getElem?_cons_succ, Option.getD_some]
@[simp] theorem n42_5 (s : List V) (H : Heap) : evCode P Γ call n f m (cAt [1, 0, 0] B42) s H = regNext (evOpsGo P Γ call r42_5.1 r42_5.1 s H) := at_region (by kernel_rfl) r42_5.2 s H
attribute [simp] r42_5
@[simp] theorem n42_6 (s : List V) (H : Heap) : evCode P Γ call n f m (cAt [1, 0, 1] B42) s H = condW P Γ call n f m (cAt [1, 0, 1, 0] B42) (cAt [1, 0, 1, 1] B42) s H (evOperand Γ s (.tmp 5)) := at_cond (by kernel_rfl) (by kernel_rfl) rfl rfl s H
@[simp] theorem n42_7 (s : List V) (H : Heap) : evCode P Γ call n f m (cAt [1, 0, 1, 0] B42) s H = seqNext P Γ call n f m (cAt [1, 0, 1, 0, 1] B42) (evCode P Γ call n f m (cAt [1, 0, 1, 0, 0] B42) s H) := at_seq (by kernel_rfl) rfl rfl s H
noncomputable def r42_8 : {l : List Oper // opsOf (cAt [1, 0, 1, 0, 0] B42) = l} := by
  apply Subtype.mk
  dsimp only [opsOf, cAt, kids, B42, bodyOf, Tryd.f42, List.getD, List.getElem?_cons_zero, List.getElem?_cons_succ, Option.getD_some]
@[simp] theorem n42_8 (s : List V) (H : Heap) : evCode P Γ call n f m (cAt [1, 0, 1, 0, 0] B42) s H = regNext (evOpsGo P Γ call r42_8.1 r42_8.1 s H) := at_region (by kernel_rfl) r42_8.2 s H
attribute [simp] r42_8
@[simp] theorem n42_9 (s : List V) (H : Heap) : evCode P Γ call n f m (cAt [1, 0, 1, 0, 1] B42) s H = some (.ret, s, H) := at_ret (by kernel_rfl) s H
@[simp] theorem n42_10 (s : List V) (H : Heap) : evCode P Γ call n f m (cAt [1, 0, 1, 1] B42) s H = some (.normal, s, H) := at_skip (by kernel_rfl) s H
@[simp] theorem n42_11 (s : List V) (H : Heap) : evCode P Γ call n f m (cAt [1, 1] B42) s H = seqNext P Γ call n f m (cAt [1, 1, 1] B42) (evCode P Γ call n f m (cAt [1, 1, 0] B42) s H) := at_seq (by kernel_rfl) rfl rfl s H
noncomputable def r42_12 : {l : List Oper // opsOf (cAt [1, 1, 0] B42) = l} := by
  apply Subtype.mk
  dsimp only [opsOf, cAt, kids, B42, bodyOf, Tryd.f42, List.getD, List.getElem?_cons_zero, List.getElem?_cons_succ, Option.getD_some]
@[simp] theorem n42_12 (s : List V) (H : Heap) : evCode P Γ call n f m (cAt [1, 1, 0] B42) s H = regNext (evOpsGo P Γ call r42_12.1 r42_12.1 s H) := at_region (by kernel_rfl) r42_12.2 s H
attribute [simp] r42_12
@[simp] theorem n42_13 (s : List V) (H : Heap) : evCode P Γ call n f m (cAt [1, 1, 1] B42) s H = some (.ret, s, H) := at_ret (by kernel_rfl) s H
theorem b42 {k : Nat} (ho : ∀ args H, Γ.orc 42 args H = none) (args : List V) (H : Heap) (ha : args.length ≤ 11) : evF Tryd.prog Γ (k + 1) 42 args H = bodyEnd Tryd.prog [.tmp 3] H.length (evCode Tryd.prog Γ (evF Tryd.prog Γ k) k 42 H.length (cAt [] B42) (mkL 11 V.undef (enumV 0 args)) H) := body_at Tryd.func42 (by decide) rfl ho rfl rfl args H ha
noncomputable def B50 : Code := bodyOf Tryd.f50
noncomputable def r50_1 : {l : List Oper // opsOf (cAt [] B50) = l} := by
  apply Subtype.mk
  dsimp only [opsOf, cAt, kids, B50, bodyOf, Tryd.f50, List.getD, List.getElem?_cons_zero, List.getElem?_cons_succ, Option.getD_some]
@[simp] theorem n50_1 (s : List V) (H : Heap) : evCode P Γ call n f m (cAt [] B50) s H = regNext (drawR P Γ call r50_1.1 [([1, 4, 5, 6, 7, 8, 9, 10, 11, 12, 13], [9, 12, 13, 14, 15, 16, 17, 18, 19, 20, 21]), ([0, 4, 5, 6, 7, 8, 9, 10, 11, 12, 13], [8, 12, 13, 14, 15, 16, 17, 18, 19, 20, 21]), ([4, 5, 6, 7, 8, 9, 10, 11, 12, 13], [12, 13, 14, 15, 16, 17, 18, 19, 20, 21]), ([4, 5, 6, 7, 8, 9, 10, 11, 12, 13], [12, 13, 14, 15, 16, 17, 18, 19, 20, 21]), ([0, 1, 2, 3, 5, 6, 7, 8, 9, 10, 11, 12, 13], [8, 9, 10, 11, 13, 14, 15, 16, 17, 18, 19, 20, 21]), ([0, 1, 2, 3, 4, 6, 9, 12], [8, 9, 10, 11, 12, 14, 17, 20]), ([0, 1, 2, 3, 4, 5, 9, 12], [8, 9, 10, 11, 12, 13, 17, 20]), ([0, 1, 2, 3, 4, 9, 12], [8, 9, 10, 11, 12, 17, 20]), ([0, 1, 2, 3, 4, 9, 12], [8, 9, 10, 11, 12, 17, 20]), ([0, 1, 2, 3, 4, 5, 6, 7, 8, 12], [8, 9, 10, 11, 12, 13, 14, 15, 16, 20]), ([0, 1, 2, 3, 4, 12], [8, 9, 10, 11, 12, 20]), ([0, 1, 2, 3, 4, 12], [8, 9, 10, 11, 12, 20]), ([0, 1, 2, 3, 4, 5, 6, 7, 8, 9, 10, 11], [8, 9, 10, 11, 12, 13, 14, 15, 16, 17, 18, 19]), ([0, 1, 2, 3, 4], [8, 9, 10, 11, 12]), ([], []), ([], [])] s H) := at_drawT (by kernel_rfl) r50_1.2 (by kernel_rfl) s H
attribute [simp] r50_1
theorem b50 {k : Nat} (ho : ∀ args H, Γ.orc 50 args H = none) (args : List V) (H : Heap) (ha : args.length ≤ 23) : evF Tryd.prog Γ (k + 1) 50 args H = bodyEnd Tryd.prog [] H.length (evCode Tryd.prog Γ (evF Tryd.prog Γ k) k 50 H.length (cAt [] B50) (mkL 23 V.undef (enumV 0 args)) H) := body_at Tryd.func50 (by decide) rfl ho rfl rfl args H ha
end
end Go.Ev.Tryd
