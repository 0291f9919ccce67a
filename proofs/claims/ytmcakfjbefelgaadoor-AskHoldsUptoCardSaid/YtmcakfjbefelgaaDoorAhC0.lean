/-
  CODE BY NAMES, printed by wip/tools/codes.py (own work).
-/
import Derived.Test.YtmcakfjbefelgaaDoorAhG
set_option maxRecDepth 100000
set_option linter.unusedVariables false
namespace Go.Ev.Tryd
open Go Go.Ev Go.Proofs
section
variable {P : Program} {Γ : Env} {call : CallF} {n f m : Nat}

noncomputable def B29 : Code := bodyOf Tryd.f29
@[simp] theorem n29_1 (s : List V) (H : Heap) : evCode P Γ call n f m (cAt [] B29) s H = seqNext P Γ call n f m (cAt [1] B29) (evCode P Γ call n f m (cAt [0] B29) s H) := at_seq (by kernel_rfl) rfl rfl s H
noncomputable def r29_2 : {l : List Oper // opsOf (cAt [0] B29) = l} := by
  apply Subtype.mk
  dsimp only [opsOf, cAt, kids, B29, bodyOf, Tryd.f29, List.getD, List.getElem?_cons_zero, List.getElem?_cons_succ, Option.getD_some]
@[simp] theorem n29_2 (s : List V) (H : Heap) : evCode P Γ call n f m (cAt [0] B29) s H = regNext (evOpsGo P Γ call r29_2.1 r29_2.1 s H) := at_region (by kernel_rfl) r29_2.2 s H
attribute [simp] r29_2
@[simp] theorem n29_3 (s : List V) (H : Heap) : evCode P Γ call n f m (cAt [1] B29) s H = seqNext P Γ call n f m (cAt [1, 1] B29) (evCode P Γ call n f m (cAt [1, 0] B29) s H) := at_seq (by kernel_rfl) rfl rfl s H
noncomputable def r29_4 : {l : List Oper // opsOf (cAt [1, 0] B29) = l} := by
  apply Subtype.mk
  dsimp only [opsOf, cAt, kids, B29, bodyOf, Tryd.f29, List.getD, List.getElem?_cons_zero, List.getElem?_cons_succ, Option.getD_some]
@[simp] theorem n29_4 (s : List V) (H : Heap) : evCode P Γ call n f m (cAt [1, 0] B29) s H = regNext (evOpsGo P Γ call r29_4.1 r29_4.1 s H) := at_region (by kernel_rfl) r29_4.2 s H
attribute [simp] r29_4
@[simp] theorem n29_5 (s : List V) (H : Heap) : evCode P Γ call n f m (cAt [1, 1] B29) s H = some (.ret, s, H) := at_ret (by kernel_rfl) s H
theorem b29 {k : Nat} (ho : ∀ args H, Γ.orc 29 args H = none) (args : List V) (H : Heap) (ha : args.length ≤ 7) : evF Tryd.prog Γ (k + 1) 29 args H = bodyEnd Tryd.prog [.tmp 3] H.length (evCode Tryd.prog Γ (evF Tryd.prog Γ k) k 29 H.length (cAt [] B29) (mkL 7 V.undef (enumV 0 args)) H) := body_at Tryd.func29 (by decide) rfl ho rfl rfl args H ha
noncomputable def B30 : Code := bodyOf Tryd.f30
@[simp] theorem n30_1 (s : List V) (H : Heap) : evCode P Γ call n f m (cAt [] B30) s H = seqNext P Γ call n f m (cAt [1] B30) (evCode P Γ call n f m (cAt [0] B30) s H) := at_seq (by kernel_rfl) rfl rfl s H
noncomputable def r30_2 : {l : List Oper // opsOf (cAt [0] B30) = l} := by
  apply Subtype.mk
  dsimp only [opsOf, cAt, kids, B30, bodyOf, Tryd.f30, List.getD, List.getElem?_cons_zero, List.getElem?_cons_succ, Option.getD_some]
@[simp] theorem n30_2 (s : List V) (H : Heap) : evCode P Γ call n f m (cAt [0] B30) s H = regNext (evOpsGo P Γ call r30_2.1 r30_2.1 s H) := at_region (by kernel_rfl) r30_2.2 s H
attribute [simp] r30_2
@[simp] theorem n30_3 (s : List V) (H : Heap) : evCode P Γ call n f m (cAt [1] B30) s H = seqNext P Γ call n f m (cAt [1, 1] B30) (evCode P Γ call n f m (cAt [1, 0] B30) s H) := at_seq (by kernel_rfl) rfl rfl s H
noncomputable def r30_4 : {l : List Oper // opsOf (cAt [1, 0] B30) = l} := by
  apply Subtype.mk
  dsimp only [opsOf, cAt, kids, B30, bodyOf, Tryd.f30, List.getD, List.getElem?_cons_zero, List.getElem?_cons_succ, Option.getD_some]
@[simp] theorem n30_4 (s : List V) (H : Heap) : evCode P Γ call n f m (cAt [1, 0] B30) s H = regNext (evOpsGo P Γ call r30_4.1 r30_4.1 s H) := at_region (by kernel_rfl) r30_4.2 s H
attribute [simp] r30_4
@[simp] theorem n30_5 (s : List V) (H : Heap) : evCode P Γ call n f m (cAt [1, 1] B30) s H = some (.ret, s, H) := at_ret (by kernel_rfl) s H
theorem b30 {k : Nat} (ho : ∀ args H, Γ.orc 30 args H = none) (args : List V) (H : Heap) (ha : args.length ≤ 9) : evF Tryd.prog Γ (k + 1) 30 args H = bodyEnd Tryd.prog [.tmp 4] H.length (evCode Tryd.prog Γ (evF Tryd.prog Γ k) k 30 H.length (cAt [] B30) (mkL 9 V.undef (enumV 0 args)) H) := body_at Tryd.func30 (by decide) rfl ho rfl rfl args H ha
noncomputable def B31 : Code := bodyOf Tryd.f31
@[simp] theorem n31_1 (s : List V) (H : Heap) : evCode P Γ call n f m (cAt [] B31) s H = seqNext P Γ call n f m (cAt [1] B31) (evCode P Γ call n f m (cAt [0] B31) s H) := at_seq (by kernel_rfl) rfl rfl s H
noncomputable def r31_2 : {l : List Oper // opsOf (cAt [0] B31) = l} := by
  apply Subtype.mk
  dsimp only [opsOf, cAt, kids, B31, bodyOf, Tryd.f31, List.getD, List.getElem?_cons_zero, List.getElem?_cons_succ, Option.getD_some]
@[simp] theorem n31_2 (s : List V) (H : Heap) : evCode P Γ call n f m (cAt [0] B31) s H = regNext (evOpsGo P Γ call r31_2.1 r31_2.1 s H) := at_region (by kernel_rfl) r31_2.2 s H
attribute [simp] r31_2
@[simp] theorem n31_3 (s : List V) (H : Heap) : evCode P Γ call n f m (cAt [1] B31) s H = seqNext P Γ call n f m (cAt [1, 1] B31) (evCode P Γ call n f m (cAt [1, 0] B31) s H) := at_seq (by kernel_rfl) rfl rfl s H
noncomputable def r31_4 : {l : List Oper // opsOf (cAt [1, 0] B31) = l} := by
  apply Subtype.mk
  dsimp only [opsOf, cAt, kids, B31, bodyOf, Tryd.f31, List.getD, List.getElem?_cons_zero, List.getElem?_cons_succ, Option.getD_some]
@[simp] theorem n31_4 (s : List V) (H : Heap) : evCode P Γ call n f m (cAt [1, 0] B31) s H = regNext (evOpsGo P Γ call r31_4.1 r31_4.1 s H) := at_region (by kernel_rfl) r31_4.2 s H
attribute [simp] r31_4
@[simp] theorem n31_5 (s : List V) (H : Heap) : evCode P Γ call n f m (cAt [1, 1] B31) s H = seqNext P Γ call n f m (cAt [1, 1, 1] B31) (evCode P Γ call n f m (cAt [1, 1, 0] B31) s H) := at_seq (by kernel_rfl) rfl rfl s H
@[simp] theorem n31_6 (s : List V) (H : Heap) : evCode P Γ call n f m (cAt [1, 1, 0] B31) s H = seqNext P Γ call n f m (cAt [1, 1, 0, 1] B31) (evCode P Γ call n f m (cAt [1, 1, 0, 0] B31) s H) := at_seq (by kernel_rfl) rfl rfl s H
noncomputable def r31_7 : {l : List Oper // opsOf (cAt [1, 1, 0, 0] B31) = l} := by
  apply Subtype.mk
  dsimp only [opsOf, cAt, kids, B31, bodyOf, Tryd.f31, List.getD, List.getElem?_cons_zero, List.getElem?_cons_succ, Option.getD_some]
@[simp] theorem n31_7 (s : List V) (H : Heap) : evCode P Γ call n f m (cAt [1, 1, 0, 0] B31) s H = regNext (evOpsGo P Γ call r31_7.1 r31_7.1 s H) := at_region (by kernel_rfl) r31_7.2 s H
attribute [simp] r31_7
@[simp] theorem n31_8 (s : List V) (H : Heap) : evCode P Γ call n f m (cAt [1, 1, 0, 1] B31) s H = blockNext 0 (evCode P Γ call n f m (cAt [1, 1, 0, 1, 0] B31) s H) := at_block (by kernel_rfl) rfl s H
@[simp] theorem n31_9 (s : List V) (H : Heap) : evCode P Γ call n f m (cAt [1, 1, 0, 1, 0] B31) s H = evLoopC P Γ call n f m (cAt [1, 1, 0, 1, 0, 0] B31) n s H := at_loop (by kernel_rfl) rfl s H
noncomputable abbrev L31_3 : Code := cAt [1, 1, 0, 1, 0, 0] B31
@[simp] theorem n31_9f : firstRegion (cAt [1, 1, 0, 1, 0, 0] B31) = 3 := by kernel_rfl
@[simp] theorem n31_10 (s : List V) (H : Heap) : evCode P Γ call n f m (cAt [1, 1, 0, 1, 0, 0] B31) s H = seqNext P Γ call n f m (cAt [1, 1, 0, 1, 0, 0, 1] B31) (evCode P Γ call n f m (cAt [1, 1, 0, 1, 0, 0, 0] B31) s H) := at_seq (by kernel_rfl) rfl rfl s H
noncomputable def r31_11 : {l : List Oper // opsOf (cAt [1, 1, 0, 1, 0, 0, 0] B31) = l} := by
  apply Subtype.mk
  dsimp only [opsOf, cAt, kids, B31, bodyOf, Tryd.f31, List.getD, List.getElem?_cons_zero, List.getElem?_cons_succ, Option.getD_some]
@[simp] theorem n31_11 (s : List V) (H : Heap) : evCode P Γ call n f m (cAt [1, 1, 0, 1, 0, 0, 0] B31) s H = regNext (evOpsGo P Γ call r31_11.1 r31_11.1 s H) := at_region (by kernel_rfl) r31_11.2 s H
attribute [simp] r31_11
@[simp] theorem n31_12 (s : List V) (H : Heap) : evCode P Γ call n f m (cAt [1, 1, 0, 1, 0, 0, 1] B31) s H = seqNext P Γ call n f m (cAt [1, 1, 0, 1, 0, 0, 1, 1] B31) (evCode P Γ call n f m (cAt [1, 1, 0, 1, 0, 0, 1, 0] B31) s H) := at_seq (by kernel_rfl) rfl rfl s H
@[simp] theorem n31_13 (s : List V) (H : Heap) : evCode P Γ call n f m (cAt [1, 1, 0, 1, 0, 0, 1, 0] B31) s H = condW P Γ call n f m (cAt [1, 1, 0, 1, 0, 0, 1, 0, 0] B31) (cAt [1, 1, 0, 1, 0, 0, 1, 0, 1] B31) s H (evOperand Γ s (.tmp 10)) := at_cond (by kernel_rfl) (by kernel_rfl) rfl rfl s H
@[simp] theorem n31_14 (s : List V) (H : Heap) : evCode P Γ call n f m (cAt [1, 1, 0, 1, 0, 0, 1, 0, 0] B31) s H = some (.normal, s, H) := at_skip (by kernel_rfl) s H
@[simp] theorem n31_15 (s : List V) (H : Heap) : evCode P Γ call n f m (cAt [1, 1, 0, 1, 0, 0, 1, 0, 1] B31) s H = some (.exit 0, s, H) := at_exit (by kernel_rfl) s H
@[simp] theorem n31_16 (s : List V) (H : Heap) : evCode P Γ call n f m (cAt [1, 1, 0, 1, 0, 0, 1, 1] B31) s H = seqNext P Γ call n f m (cAt [1, 1, 0, 1, 0, 0, 1, 1, 1] B31) (evCode P Γ call n f m (cAt [1, 1, 0, 1, 0, 0, 1, 1, 0] B31) s H) := at_seq (by kernel_rfl) rfl rfl s H
@[simp] theorem n31_17 (s : List V) (H : Heap) : evCode P Γ call n f m (cAt [1, 1, 0, 1, 0, 0, 1, 1, 0] B31) s H = blockNext 1 (evCode P Γ call n f m (cAt [1, 1, 0, 1, 0, 0, 1, 1, 0, 0] B31) s H) := at_block (by kernel_rfl) rfl s H
@[simp] theorem n31_18 (s : List V) (H : Heap) : evCode P Γ call n f m (cAt [1, 1, 0, 1, 0, 0, 1, 1, 0, 0] B31) s H = seqNext P Γ call n f m (cAt [1, 1, 0, 1, 0, 0, 1, 1, 0, 0, 1] B31) (evCode P Γ call n f m (cAt [1, 1, 0, 1, 0, 0, 1, 1, 0, 0, 0] B31) s H) := at_seq (by kernel_rfl) rfl rfl s H
noncomputable def r31_19 : {l : List Oper // opsOf (cAt [1, 1, 0, 1, 0, 0, 1, 1, 0, 0, 0] B31) = l} := by
  apply Subtype.mk
  dsimp only [opsOf, cAt, kids, B31, bodyOf, Tryd.f31, List.getD, List.getElem?_cons_zero, List.getElem?_cons_succ, Option.getD_some]
@[simp] theorem n31_19 (s : List V) (H : Heap) : evCode P Γ call n f m (cAt [1, 1, 0, 1, 0, 0, 1, 1, 0, 0, 0] B31) s H = regNext (evOpsGo P Γ call r31_19.1 r31_19.1 s H) := at_region (by kernel_rfl) r31_19.2 s H
attribute [simp] r31_19
@[simp] theorem n31_20 (s : List V) (H : Heap) : evCode P Γ call n f m (cAt [1, 1, 0, 1, 0, 0, 1, 1, 0, 0, 1] B31) s H = seqNext P Γ call n f m (cAt [1, 1, 0, 1, 0, 0, 1, 1, 0, 0, 1, 1] B31) (evCode P Γ call n f m (cAt [1, 1, 0, 1, 0, 0, 1, 1, 0, 0, 1, 0] B31) s H) := at_seq (by kernel_rfl) rfl rfl s H
noncomputable def r31_21 : {l : List Oper // opsOf (cAt [1, 1, 0, 1, 0, 0, 1, 1, 0, 0, 1, 0] B31) = l} := by
  apply Subtype.mk
  dsimp only [opsOf, cAt, kids, B31, bodyOf, Tryd.f31, List.getD, List.getElem?_cons_zero, List.getElem?_cons_succ, Option.getD_some]
@[simp] theorem n31_21 (s : List V) (H : Heap) : evCode P Γ call n f m (cAt [1, 1, 0, 1, 0, 0, 1, 1, 0, 0, 1, 0] B31) s H = regNext (evOpsGo P Γ call r31_21.1 r31_21.1 s H) := at_region (by kernel_rfl) r31_21.2 s H
attribute [simp] r31_21
@[simp] theorem n31_22 (s : List V) (H : Heap) : evCode P Γ call n f m (cAt [1, 1, 0, 1, 0, 0, 1, 1, 0, 0, 1, 1] B31) s H = condW P Γ call n f m (cAt [1, 1, 0, 1, 0, 0, 1, 1, 0, 0, 1, 1, 0] B31) (cAt [1, 1, 0, 1, 0, 0, 1, 1, 0, 0, 1, 1, 1] B31) s H (evOperand Γ s (.tmp 14)) := at_cond (by kernel_rfl) (by kernel_rfl) rfl rfl s H
noncomputable def r31_23 : {l : List Oper // opsOf (cAt [1, 1, 0, 1, 0, 0, 1, 1, 0, 0, 1, 1, 0] B31) = l} := by
  apply Subtype.mk
  dsimp only [opsOf, cAt, kids, B31, bodyOf, Tryd.f31, List.getD, List.getElem?_cons_zero, List.getElem?_cons_succ, Option.getD_some]
@[simp] theorem n31_23 (s : List V) (H : Heap) : evCode P Γ call n f m (cAt [1, 1, 0, 1, 0, 0, 1, 1, 0, 0, 1, 1, 0] B31) s H = regNext (evOpsGo P Γ call r31_23.1 r31_23.1 s H) := at_region (by kernel_rfl) r31_23.2 s H
attribute [simp] r31_23
@[simp] theorem n31_24 (s : List V) (H : Heap) : evCode P Γ call n f m (cAt [1, 1, 0, 1, 0, 0, 1, 1, 0, 0, 1, 1, 1] B31) s H = some (.normal, s, H) := at_skip (by kernel_rfl) s H
noncomputable def r31_25 : {l : List Oper // opsOf (cAt [1, 1, 0, 1, 0, 0, 1, 1, 1] B31) = l} := by
  apply Subtype.mk
  dsimp only [opsOf, cAt, kids, B31, bodyOf, Tryd.f31, List.getD, List.getElem?_cons_zero, List.getElem?_cons_succ, Option.getD_some]
@[simp] theorem n31_25 (s : List V) (H : Heap) : evCode P Γ call n f m (cAt [1, 1, 0, 1, 0, 0, 1, 1, 1] B31) s H = regNext (evOpsGo P Γ call r31_25.1 r31_25.1 s H) := at_region (by kernel_rfl) r31_25.2 s H
attribute [simp] r31_25
@[simp] theorem n31_26 (s : List V) (H : Heap) : evCode P Γ call n f m (cAt [1, 1, 1] B31) s H = seqNext P Γ call n f m (cAt [1, 1, 1, 1] B31) (evCode P Γ call n f m (cAt [1, 1, 1, 0] B31) s H) := at_seq (by kernel_rfl) rfl rfl s H
noncomputable def r31_27 : {l : List Oper // opsOf (cAt [1, 1, 1, 0] B31) = l} := by
  apply Subtype.mk
  dsimp only [opsOf, cAt, kids, B31, bodyOf, Tryd.f31, List.getD, List.getElem?_cons_zero, List.getElem?_cons_succ, Option.getD_some]
@[simp] theorem n31_27 (s : List V) (H : Heap) : evCode P Γ call n f m (cAt [1, 1, 1, 0] B31) s H = regNext (evOpsGo P Γ call r31_27.1 r31_27.1 s H) := at_region (by kernel_rfl) r31_27.2 s H
attribute [simp] r31_27
@[simp] theorem n31_28 (s : List V) (H : Heap) : evCode P Γ call n f m (cAt [1, 1, 1, 1] B31) s H = some (.ret, s, H) := at_ret (by kernel_rfl) s H
theorem b31 {k : Nat} (ho : ∀ args H, Γ.orc 31 args H = none) (args : List V) (H : Heap) (ha : args.length ≤ 21) : evF Tryd.prog Γ (k + 1) 31 args H = bodyEnd Tryd.prog [.tmp 2] H.length (evCode Tryd.prog Γ (evF Tryd.prog Γ k) k 31 H.length (cAt [] B31) (mkL 21 V.undef (enumV 0 args)) H) := body_at Tryd.func31 (by decide) rfl ho rfl rfl args H ha
noncomputable def B33 : Code := bodyOf Tryd.f33
@[simp] theorem n33_1 (s : List V) (H : Heap) : evCode P Γ call n f m (cAt [] B33) s H = seqNext P Γ call n f m (cAt [1] B33) (evCode P Γ call n f m (cAt [0] B33) s H) := at_seq (by kernel_rfl) rfl rfl s H
noncomputable def r33_2 : {l : List Oper // opsOf (cAt [0] B33) = l} := by
  apply Subtype.mk
  dsimp only [opsOf, cAt, kids, B33, bodyOf, Tryd.f33, List.getD, List.getElem?_cons_zero, List.getElem?_cons_succ, Option.getD_some]
@[simp] theorem n33_2 (s : List V) (H : Heap) : evCode P Γ call n f m (cAt [0] B33) s H = regNext (evOpsGo P Γ call r33_2.1 r33_2.1 s H) := at_region (by kernel_rfl) r33_2.2 s H
attribute [simp] r33_2
@[simp] theorem n33_3 (s : List V) (H : Heap) : evCode P Γ call n f m (cAt [1] B33) s H = seqNext P Γ call n f m (cAt [1, 1] B33) (evCode P Γ call n f m (cAt [1, 0] B33) s H) := at_seq (by kernel_rfl) rfl rfl s H
noncomputable def r33_4 : {l : List Oper // opsOf (cAt [1, 0] B33) = l} := by
  apply Subtype.mk
  dsimp only [opsOf, cAt, kids, B33, bodyOf, Tryd.f33, List.getD, List.getElem?_cons_zero, List.getElem?_cons_succ, Option.getD_some]
@[simp] theorem n33_4 (s : List V) (H : Heap) : evCode P Γ call n f m (cAt [1, 0] B33) s H = regNext (evOpsGo P Γ call r33_4.1 r33_4.1 s H) := at_region (by kernel_rfl) r33_4.2 s H
attribute [simp] r33_4
@[simp] theorem n33_5 (s : List V) (H : Heap) : evCode P Γ call n f m (cAt [1, 1] B33) s H = some (.ret, s, H) := at_ret (by kernel_rfl) s H
theorem b33 {k : Nat} (ho : ∀ args H, Γ.orc 33 args H = none) (args : List V) (H : Heap) (ha : args.length ≤ 9) : evF Tryd.prog Γ (k + 1) 33 args H = bodyEnd Tryd.prog [.tmp 4] H.length (evCode Tryd.prog Γ (evF Tryd.prog Γ k) k 33 H.length (cAt [] B33) (mkL 9 V.undef (enumV 0 args)) H) := body_at Tryd.func33 (by decide) rfl ho rfl rfl args H ha
noncomputable def B34 : Code := bodyOf Tryd.f34
@[simp] theorem n34_1 (s : List V) (H : Heap) : evCode P Γ call n f m (cAt [] B34) s H = seqNext P Γ call n f m (cAt [1] B34) (evCode P Γ call n f m (cAt [0] B34) s H) := at_seq (by kernel_rfl) rfl rfl s H
noncomputable def r34_2 : {l : List Oper // opsOf (cAt [0] B34) = l} := by
  apply Subtype.mk
  dsimp only [opsOf, cAt, kids, B34, bodyOf, Tryd.f34, List.getD, List.getElem?_cons_zero, List.getElem?_cons_succ, Option.getD_some]
@[simp] theorem n34_2 (s : List V) (H : Heap) : evCode P Γ call n f m (cAt [0] B34) s H = regNext (evOpsGo P Γ call r34_2.1 r34_2.1 s H) := at_region (by kernel_rfl) r34_2.2 s H
attribute [simp] r34_2
@[simp] theorem n34_3 (s : List V) (H : Heap) : evCode P Γ call n f m (cAt [1] B34) s H = seqNext P Γ call n f m (cAt [1, 1] B34) (evCode P Γ call n f m (cAt [1, 0] B34) s H) := at_seq (by kernel_rfl) rfl rfl s H
noncomputable def r34_4 : {l : List Oper // opsOf (cAt [1, 0] B34) = l} := by
  apply Subtype.mk
  dsimp only [opsOf, cAt, kids, B34, bodyOf, Tryd.f34, List.getD, List.getElem?_cons_zero, List.getElem?_cons_succ, Option.getD_some]
@[simp] theorem n34_4 (s : List V) (H : Heap) : evCode P Γ call n f m (cAt [1, 0] B34) s H = regNext (evOpsGo P Γ call r34_4.1 r34_4.1 s H) := at_region (by kernel_rfl) r34_4.2 s H
attribute [simp] r34_4
@[simp] theorem n34_5 (s : List V) (H : Heap) : evCode P Γ call n f m (cAt [1, 1] B34) s H = some (.ret, s, H) := at_ret (by kernel_rfl) s H
theorem b34 {k : Nat} (ho : ∀ args H, Γ.orc 34 args H = none) (args : List V) (H : Heap) (ha : args.length ≤ 8) : evF Tryd.prog Γ (k + 1) 34 args H = bodyEnd Tryd.prog [.tmp 3] H.length (evCode Tryd.prog Γ (evF Tryd.prog Γ k) k 34 H.length (cAt [] B34) (mkL 8 V.undef (enumV 0 args)) H) := body_at Tryd.func34 (by decide) rfl ho rfl rfl args H ha
noncomputable def B36 : Code := bodyOf Tryd.f36
@[simp] theorem n36_1 (s : List V) (H : Heap) : evCode P Γ call n f m (cAt [] B36) s H = seqNext P Γ call n f m (cAt [1] B36) (evCode P Γ call n f m (cAt [0] B36) s H) := at_seq (by kernel_rfl) rfl rfl s H
noncomputable def r36_2 : {l : List Oper // opsOf (cAt [0] B36) = l} := by
  apply Subtype.mk
  dsimp only [opsOf, cAt, kids, B36, bodyOf, Tryd.f36, List.getD, List.getElem?_cons_zero, List.getElem?_cons_succ, Option.getD_some]
@[simp] theorem n36_2 (s : List V) (H : Heap) : evCode P Γ call n f m (cAt [0] B36) s H = regNext (evOpsGo P Γ call r36_2.1 r36_2.1 s H) := at_region (by kernel_rfl) r36_2.2 s H
attribute [simp] r36_2
@[simp] theorem n36_3 (s : List V) (H : Heap) : evCode P Γ call n f m (cAt [1] B36) s H = seqNext P Γ call n f m (cAt [1, 1] B36) (evCode P Γ call n f m (cAt [1, 0] B36) s H) := at_seq (by kernel_rfl) rfl rfl s H
@[simp] theorem n36_4 (s : List V) (H : Heap) : evCode P Γ call n f m (cAt [1, 0] B36) s H = seqNext P Γ call n f m (cAt [1, 0, 1] B36) (evCode P Γ call n f m (cAt [1, 0, 0] B36) s H) := at_seq (by kernel_rfl) rfl rfl s H
noncomputable def r36_5 : {l : List Oper // opsOf (cAt [1, 0, 0] B36) = l} := by
  apply Subtype.mk
  dsimp only [opsOf, cAt, kids, B36, bodyOf, Tryd.f36, List.getD, List.getElem?_cons_zero, List.getElem?_cons_succ, Option.getD_some]
@[simp] theorem n36_5 (s : List V) (H : Heap) : evCode P Γ call n f m (cAt [1, 0, 0] B36) s H = regNext (evOpsGo P Γ call r36_5.1 r36_5.1 s H) := at_region (by kernel_rfl) r36_5.2 s H
attribute [simp] r36_5
@[simp] theorem n36_6 (s : List V) (H : Heap) : evCode P Γ call n f m (cAt [1, 0, 1] B36) s H = condW P Γ call n f m (cAt [1, 0, 1, 0] B36) (cAt [1, 0, 1, 1] B36) s H (evOperand Γ s (.tmp 10)) := at_cond (by kernel_rfl) (by kernel_rfl) rfl rfl s H
@[simp] theorem n36_7 (s : List V) (H : Heap) : evCode P Γ call n f m (cAt [1, 0, 1, 0] B36) s H = seqNext P Γ call n f m (cAt [1, 0, 1, 0, 1] B36) (evCode P Γ call n f m (cAt [1, 0, 1, 0, 0] B36) s H) := at_seq (by kernel_rfl) rfl rfl s H
noncomputable def r36_8 : {l : List Oper // opsOf (cAt [1, 0, 1, 0, 0] B36) = l} := by
  apply Subtype.mk
  dsimp only [opsOf, cAt, kids, B36, bodyOf, Tryd.f36, List.getD, List.getElem?_cons_zero, List.getElem?_cons_succ, Option.getD_some]
@[simp] theorem n36_8 (s : List V) (H : Heap) : evCode P Γ call n f m (cAt [1, 0, 1, 0, 0] B36) s H = regNext (evOpsGo P Γ call r36_8.1 r36_8.1 s H) := at_region (by kernel_rfl) r36_8.2 s H
attribute [simp] r36_8
@[simp] theorem n36_9 (s : List V) (H : Heap) : evCode P Γ call n f m (cAt [1, 0, 1, 0, 1] B36) s H = some (.ret, s, H) := at_ret (by kernel_rfl) s H
@[simp] theorem n36_10 (s : List V) (H : Heap) : evCode P Γ call n f m (cAt [1, 0, 1, 1] B36) s H = some (.normal, s, H) := at_skip (by kernel_rfl) s H
@[simp] theorem n36_11 (s : List V) (H : Heap) : evCode P Γ call n f m (cAt [1, 1] B36) s H = seqNext P Γ call n f m (cAt [1, 1, 1] B36) (evCode P Γ call n f m (cAt [1, 1, 0] B36) s H) := at_seq (by kernel_rfl) rfl rfl s H
@[simp] theorem n36_12 (s : List V) (H : Heap) : evCode P Γ call n f m (cAt [1, 1, 0] B36) s H = seqNext P Γ call n f m (cAt [1, 1, 0, 1] B36) (evCode P Γ call n f m (cAt [1, 1, 0, 0] B36) s H) := at_seq (by kernel_rfl) rfl rfl s H
noncomputable def r36_13 : {l : List Oper // opsOf (cAt [1, 1, 0, 0] B36) = l} := by
  apply Subtype.mk
  dsimp only [opsOf, cAt, kids, B36, bodyOf, Tryd.f36, List.getD, List.getElem?_cons_zero, List.getElem?_cons_succ, Option.getD_some]
@[simp] theorem n36_13 (s : List V) (H : Heap) : evCode P Γ call n f m (cAt [1, 1, 0, 0] B36) s H = regNext (evOpsGo P Γ call r36_13.1 r36_13.1 s H) := at_region (by kernel_rfl) r36_13.2 s H
attribute [simp] r36_13
@[simp] theorem n36_14 (s : List V) (H : Heap) : evCode P Γ call n f m (cAt [1, 1, 0, 1] B36) s H = blockNext 0 (evCode P Γ call n f m (cAt [1, 1, 0, 1, 0] B36) s H) := at_block (by kernel_rfl) rfl s H
@[simp] theorem n36_15 (s : List V) (H : Heap) : evCode P Γ call n f m (cAt [1, 1, 0, 1, 0] B36) s H = evLoopC P Γ call n f m (cAt [1, 1, 0, 1, 0, 0] B36) n s H := at_loop (by kernel_rfl) rfl s H
noncomputable abbrev L36_4 : Code := cAt [1, 1, 0, 1, 0, 0] B36
@[simp] theorem n36_15f : firstRegion (cAt [1, 1, 0, 1, 0, 0] B36) = 4 := by kernel_rfl
@[simp] theorem n36_16 (s : List V) (H : Heap) : evCode P Γ call n f m (cAt [1, 1, 0, 1, 0, 0] B36) s H = seqNext P Γ call n f m (cAt [1, 1, 0, 1, 0, 0, 1] B36) (evCode P Γ call n f m (cAt [1, 1, 0, 1, 0, 0, 0] B36) s H) := at_seq (by kernel_rfl) rfl rfl s H
noncomputable def r36_17 : {l : List Oper // opsOf (cAt [1, 1, 0, 1, 0, 0, 0] B36) = l} := by
  apply Subtype.mk
  dsimp only [opsOf, cAt, kids, B36, bodyOf, Tryd.f36, List.getD, List.getElem?_cons_zero, List.getElem?_cons_succ, Option.getD_some]
@[simp] theorem n36_17 (s : List V) (H : Heap) : evCode P Γ call n f m (cAt [1, 1, 0, 1, 0, 0, 0] B36) s H = regNext (evOpsGo P Γ call r36_17.1 r36_17.1 s H) := at_region (by kernel_rfl) r36_17.2 s H
attribute [simp] r36_17
@[simp] theorem n36_18 (s : List V) (H : Heap) : evCode P Γ call n f m (cAt [1, 1, 0, 1, 0, 0, 1] B36) s H = seqNext P Γ call n f m (cAt [1, 1, 0, 1, 0, 0, 1, 1] B36) (evCode P Γ call n f m (cAt [1, 1, 0, 1, 0, 0, 1, 0] B36) s H) := at_seq (by kernel_rfl) rfl rfl s H
@[simp] theorem n36_19 (s : List V) (H : Heap) : evCode P Γ call n f m (cAt [1, 1, 0, 1, 0, 0, 1, 0] B36) s H = condW P Γ call n f m (cAt [1, 1, 0, 1, 0, 0, 1, 0, 0] B36) (cAt [1, 1, 0, 1, 0, 0, 1, 0, 1] B36) s H (evOperand Γ s (.tmp 14)) := at_cond (by kernel_rfl) (by kernel_rfl) rfl rfl s H
@[simp] theorem n36_20 (s : List V) (H : Heap) : evCode P Γ call n f m (cAt [1, 1, 0, 1, 0, 0, 1, 0, 0] B36) s H = some (.normal, s, H) := at_skip (by kernel_rfl) s H
@[simp] theorem n36_21 (s : List V) (H : Heap) : evCode P Γ call n f m (cAt [1, 1, 0, 1, 0, 0, 1, 0, 1] B36) s H = some (.exit 0, s, H) := at_exit (by kernel_rfl) s H
@[simp] theorem n36_22 (s : List V) (H : Heap) : evCode P Γ call n f m (cAt [1, 1, 0, 1, 0, 0, 1, 1] B36) s H = seqNext P Γ call n f m (cAt [1, 1, 0, 1, 0, 0, 1, 1, 1] B36) (evCode P Γ call n f m (cAt [1, 1, 0, 1, 0, 0, 1, 1, 0] B36) s H) := at_seq (by kernel_rfl) rfl rfl s H
@[simp] theorem n36_23 (s : List V) (H : Heap) : evCode P Γ call n f m (cAt [1, 1, 0, 1, 0, 0, 1, 1, 0] B36) s H = blockNext 1 (evCode P Γ call n f m (cAt [1, 1, 0, 1, 0, 0, 1, 1, 0, 0] B36) s H) := at_block (by kernel_rfl) rfl s H
@[simp] theorem n36_24 (s : List V) (H : Heap) : evCode P Γ call n f m (cAt [1, 1, 0, 1, 0, 0, 1, 1, 0, 0] B36) s H = seqNext P Γ call n f m (cAt [1, 1, 0, 1, 0, 0, 1, 1, 0, 0, 1] B36) (evCode P Γ call n f m (cAt [1, 1, 0, 1, 0, 0, 1, 1, 0, 0, 0] B36) s H) := at_seq (by kernel_rfl) rfl rfl s H
noncomputable def r36_25 : {l : List Oper // opsOf (cAt [1, 1, 0, 1, 0, 0, 1, 1, 0, 0, 0] B36) = l} := by
  apply Subtype.mk
  dsimp only [opsOf, cAt, kids, B36, bodyOf, Tryd.f36, List.getD, List.getElem?_cons_zero, List.getElem?_cons_succ, Option.getD_some]
@[simp] theorem n36_25 (s : List V) (H : Heap) : evCode P Γ call n f m (cAt [1, 1, 0, 1, 0, 0, 1, 1, 0, 0, 0] B36) s H = regNext (evOpsGo P Γ call r36_25.1 r36_25.1 s H) := at_region (by kernel_rfl) r36_25.2 s H
attribute [simp] r36_25
@[simp] theorem n36_26 (s : List V) (H : Heap) : evCode P Γ call n f m (cAt [1, 1, 0, 1, 0, 0, 1, 1, 0, 0, 1] B36) s H = seqNext P Γ call n f m (cAt [1, 1, 0, 1, 0, 0, 1, 1, 0, 0, 1, 1] B36) (evCode P Γ call n f m (cAt [1, 1, 0, 1, 0, 0, 1, 1, 0, 0, 1, 0] B36) s H) := at_seq (by kernel_rfl) rfl rfl s H
noncomputable def r36_27 : {l : List Oper // opsOf (cAt [1, 1, 0, 1, 0, 0, 1, 1, 0, 0, 1, 0] B36) = l} := by
  apply Subtype.mk
  dsimp only [opsOf, cAt, kids, B36, bodyOf, Tryd.f36, List.getD, List.getElem?_cons_zero, List.getElem?_cons_succ, Option.getD_some]
@[simp] theorem n36_27 (s : List V) (H : Heap) : evCode P Γ call n f m (cAt [1, 1, 0, 1, 0, 0, 1, 1, 0, 0, 1, 0] B36) s H = regNext (drawR P Γ call r36_27.1 [([1, 4, 5, 6, 7], [17, 20, 21, 22, 23]), ([0, 4, 5, 6, 7], [16, 20, 21, 22, 23]), ([4, 5, 6, 7], [20, 21, 22, 23]), ([4, 5, 6, 7], [20, 21, 22, 23]), ([0, 1, 2, 3, 5], [16, 17, 18, 19, 21]), ([0, 1, 2, 3, 4], [16, 17, 18, 19, 20]), ([0, 1, 2, 3], [16, 17, 18, 19]), ([0, 1, 2, 3], [16, 17, 18, 19]), ([], [])] s H) := at_drawT (by kernel_rfl) r36_27.2 (by kernel_rfl) s H
attribute [simp] r36_27
@[simp] theorem n36_28 (s : List V) (H : Heap) : evCode P Γ call n f m (cAt [1, 1, 0, 1, 0, 0, 1, 1, 0, 0, 1, 1] B36) s H = condW P Γ call n f m (cAt [1, 1, 0, 1, 0, 0, 1, 1, 0, 0, 1, 1, 0] B36) (cAt [1, 1, 0, 1, 0, 0, 1, 1, 0, 0, 1, 1, 1] B36) s H (evOperand Γ s (.tmp 24)) := at_cond (by kernel_rfl) (by kernel_rfl) rfl rfl s H
@[simp] theorem n36_29 (s : List V) (H : Heap) : evCode P Γ call n f m (cAt [1, 1, 0, 1, 0, 0, 1, 1, 0, 0, 1, 1, 0] B36) s H = seqNext P Γ call n f m (cAt [1, 1, 0, 1, 0, 0, 1, 1, 0, 0, 1, 1, 0, 1] B36) (evCode P Γ call n f m (cAt [1, 1, 0, 1, 0, 0, 1, 1, 0, 0, 1, 1, 0, 0] B36) s H) := at_seq (by kernel_rfl) rfl rfl s H
noncomputable def r36_30 : {l : List Oper // opsOf (cAt [1, 1, 0, 1, 0, 0, 1, 1, 0, 0, 1, 1, 0, 0] B36) = l} := by
  apply Subtype.mk
  dsimp only [opsOf, cAt, kids, B36, bodyOf, Tryd.f36, List.getD, List.getElem?_cons_zero, List.getElem?_cons_succ, Option.getD_some]
@[simp] theorem n36_30 (s : List V) (H : Heap) : evCode P Γ call n f m (cAt [1, 1, 0, 1, 0, 0, 1, 1, 0, 0, 1, 1, 0, 0] B36) s H = regNext (evOpsGo P Γ call r36_30.1 r36_30.1 s H) := at_region (by kernel_rfl) r36_30.2 s H
attribute [simp] r36_30
@[simp] theorem n36_31 (s : List V) (H : Heap) : evCode P Γ call n f m (cAt [1, 1, 0, 1, 0, 0, 1, 1, 0, 0, 1, 1, 0, 1] B36) s H = some (.ret, s, H) := at_ret (by kernel_rfl) s H
@[simp] theorem n36_32 (s : List V) (H : Heap) : evCode P Γ call n f m (cAt [1, 1, 0, 1, 0, 0, 1, 1, 0, 0, 1, 1, 1] B36) s H = some (.normal, s, H) := at_skip (by kernel_rfl) s H
noncomputable def r36_33 : {l : List Oper // opsOf (cAt [1, 1, 0, 1, 0, 0, 1, 1, 1] B36) = l} := by
  apply Subtype.mk
  dsimp only [opsOf, cAt, kids, B36, bodyOf, Tryd.f36, List.getD, List.getElem?_cons_zero, List.getElem?_cons_succ, Option.getD_some]
@[simp] theorem n36_33 (s : List V) (H : Heap) : evCode P Γ call n f m (cAt [1, 1, 0, 1, 0, 0, 1, 1, 1] B36) s H = regNext (evOpsGo P Γ call r36_33.1 r36_33.1 s H) := at_region (by kernel_rfl) r36_33.2 s H
attribute [simp] r36_33
@[simp] theorem n36_34 (s : List V) (H : Heap) : evCode P Γ call n f m (cAt [1, 1, 1] B36) s H = seqNext P Γ call n f m (cAt [1, 1, 1, 1] B36) (evCode P Γ call n f m (cAt [1, 1, 1, 0] B36) s H) := at_seq (by kernel_rfl) rfl rfl s H
noncomputable def r36_35 : {l : List Oper // opsOf (cAt [1, 1, 1, 0] B36) = l} := by
  apply Subtype.mk
  dsimp only [opsOf, cAt, kids, B36, bodyOf, Tryd.f36, List.getD, List.getElem?_cons_zero, List.getElem?_cons_succ, Option.getD_some]
@[simp] theorem n36_35 (s : List V) (H : Heap) : evCode P Γ call n f m (cAt [1, 1, 1, 0] B36) s H = regNext (evOpsGo P Γ call r36_35.1 r36_35.1 s H) := at_region (by kernel_rfl) r36_35.2 s H
attribute [simp] r36_35
@[simp] theorem n36_36 (s : List V) (H : Heap) : evCode P Γ call n f m (cAt [1, 1, 1, 1] B36) s H = some (.ret, s, H) := at_ret (by kernel_rfl) s H
theorem b36 {k : Nat} (ho : ∀ args H, Γ.orc 36 args H = none) (args : List V) (H : Heap) (ha : args.length ≤ 26) : evF Tryd.prog Γ (k + 1) 36 args H = bodyEnd Tryd.prog [.tmp 4] H.length (evCode Tryd.prog Γ (evF Tryd.prog Γ k) k 36 H.length (cAt [] B36) (mkL 26 V.undef (enumV 0 args)) H) := body_at Tryd.func36 (by decide) rfl ho rfl rfl args H ha
noncomputable def B37 : Code := bodyOf Tryd.f37
@[simp] theorem n37_1 (s : List V) (H : Heap) : evCode P Γ call n f m (cAt [] B37) s H = seqNext P Γ call n f m (cAt [1] B37) (evCode P Γ call n f m (cAt [0] B37) s H) := at_seq (by kernel_rfl) rfl rfl s H
noncomputable def r37_2 : {l : List Oper // opsOf (cAt [0] B37) = l} := by
  apply Subtype.mk
  dsimp only [opsOf, cAt, kids, B37, bodyOf, Tryd.f37, List.getD, List.getElem?_cons_zero, List.getElem?_cons_succ, Option.getD_some]
@[simp] theorem n37_2 (s : List V) (H : Heap) : evCode P Γ call n f m (cAt [0] B37) s H = regNext (evOpsGo P Γ call r37_2.1 r37_2.1 s H) := at_region (by kernel_rfl) r37_2.2 s H
attribute [simp] r37_2
@[simp] theorem n37_3 (s : List V) (H : Heap) : evCode P Γ call n f m (cAt [1] B37) s H = seqNext P Γ call n f m (cAt [1, 1] B37) (evCode P Γ call n f m (cAt [1, 0] B37) s H) := at_seq (by kernel_rfl) rfl rfl s H
noncomputable def r37_4 : {l : List Oper // opsOf (cAt [1, 0] B37) = l} := by
  apply Subtype.mk
  dsimp only [opsOf, cAt, kids, B37, bodyOf, Tryd.f37, List.getD, List.getElem?_cons_zero, List.getElem?_cons_succ, Option.getD_some]
@[simp] theorem n37_4 (s : List V) (H : Heap) : evCode P Γ call n f m (cAt [1, 0] B37) s H = regNext (evOpsGo P Γ call r37_4.1 r37_4.1 s H) := at_region (by kernel_rfl) r37_4.2 s H
attribute [simp] r37_4
@[simp] theorem n37_5 (s : List V) (H : Heap) : evCode P Γ call n f m (cAt [1, 1] B37) s H = some (.ret, s, H) := at_ret (by kernel_rfl) s H
theorem b37 {k : Nat} (ho : ∀ args H, Γ.orc 37 args H = none) (args : List V) (H : Heap) (ha : args.length ≤ 9) : evF Tryd.prog Γ (k + 1) 37 args H = bodyEnd Tryd.prog [.tmp 4] H.length (evCode Tryd.prog Γ (evF Tryd.prog Γ k) k 37 H.length (cAt [] B37) (mkL 9 V.undef (enumV 0 args)) H) := body_at Tryd.func37 (by decide) rfl ho rfl rfl args H ha
noncomputable def B38 : Code := bodyOf Tryd.f38
@[simp] theorem n38_1 (s : List V) (H : Heap) : evCode P Γ call n f m (cAt [] B38) s H = seqNext P Γ call n f m (cAt [1] B38) (evCode P Γ call n f m (cAt [0] B38) s H) := at_seq (by kernel_rfl) rfl rfl s H
noncomputable def r38_2 : {l : List Oper // opsOf (cAt [0] B38) = l} := by
  apply Subtype.mk
  dsimp only [opsOf, cAt, kids, B38, bodyOf, Tryd.f38, List.getD, List.getElem?_cons_zero, List.getElem?_cons_succ, Option.getD_some]
@[simp] theorem n38_2 (s : List V) (H : Heap) : evCode P Γ call n f m (cAt [0] B38) s H = regNext (evOpsGo P Γ call r38_2.1 r38_2.1 s H) := at_region (by kernel_rfl) r38_2.2 s H
attribute [simp] r38_2
@[simp] theorem n38_3 (s : List V) (H : Heap) : evCode P Γ call n f m (cAt [1] B38) s H = seqNext P Γ call n f m (cAt [1, 1] B38) (evCode P Γ call n f m (cAt [1, 0] B38) s H) := at_seq (by kernel_rfl) rfl rfl s H
noncomputable def r38_4 : {l : List Oper // opsOf (cAt [1, 0] B38) = l} := by
  apply Subtype.mk
  dsimp only [opsOf, cAt, kids, B38, bodyOf, Tryd.f38, List.getD, List.getElem?_cons_zero, List.getElem?_cons_succ, Option.getD_some]
@[simp] theorem n38_4 (s : List V) (H : Heap) : evCode P Γ call n f m (cAt [1, 0] B38) s H = regNext (evOpsGo P Γ call r38_4.1 r38_4.1 s H) := at_region (by kernel_rfl) r38_4.2 s H
attribute [simp] r38_4
@[simp] theorem n38_5 (s : List V) (H : Heap) : evCode P Γ call n f m (cAt [1, 1] B38) s H = some (.ret, s, H) := at_ret (by kernel_rfl) s H
theorem b38 {k : Nat} (ho : ∀ args H, Γ.orc 38 args H = none) (args : List V) (H : Heap) (ha : args.length ≤ 7) : evF Tryd.prog Γ (k + 1) 38 args H = bodyEnd Tryd.prog [.tmp 3] H.length (evCode Tryd.prog Γ (evF Tryd.prog Γ k) k 38 H.length (cAt [] B38) (mkL 7 V.undef (enumV 0 args)) H) := body_at Tryd.func38 (by decide) rfl ho rfl rfl args H ha
noncomputable def B39 : Code := bodyOf Tryd.f39
@[simp] theorem n39_1 (s : List V) (H : Heap) : evCode P Γ call n f m (cAt [] B39) s H = seqNext P Γ call n f m (cAt [1] B39) (evCode P Γ call n f m (cAt [0] B39) s H) := at_seq (by kernel_rfl) rfl rfl s H
noncomputable def r39_2 : {l : List Oper // opsOf (cAt [0] B39) = l} := by
  apply Subtype.mk
  dsimp only [opsOf, cAt, kids, B39, bodyOf, Tryd.f39, List.getD, List.getElem?_cons_zero, List.getElem?_cons_succ, Option.getD_some]
@[simp] theorem n39_2 (s : List V) (H : Heap) : evCode P Γ call n f m (cAt [0] B39) s H = regNext (evOpsGo P Γ call r39_2.1 r39_2.1 s H) := at_region (by kernel_rfl) r39_2.2 s H
attribute [simp] r39_2
@[simp] theorem n39_3 (s : List V) (H : Heap) : evCode P Γ call n f m (cAt [1] B39) s H = seqNext P Γ call n f m (cAt [1, 1] B39) (evCode P Γ call n f m (cAt [1, 0] B39) s H) := at_seq (by kernel_rfl) rfl rfl s H
noncomputable def r39_4 : {l : List Oper // opsOf (cAt [1, 0] B39) = l} := by
  apply Subtype.mk
  dsimp only [opsOf, cAt, kids, B39, bodyOf, Tryd.f39, List.getD, List.getElem?_cons_zero, List.getElem?_cons_succ, Option.getD_some]
@[simp] theorem n39_4 (s : List V) (H : Heap) : evCode P Γ call n f m (cAt [1, 0] B39) s H = regNext (evOpsGo P Γ call r39_4.1 r39_4.1 s H) := at_region (by kernel_rfl) r39_4.2 s H
attribute [simp] r39_4
@[simp] theorem n39_5 (s : List V) (H : Heap) : evCode P Γ call n f m (cAt [1, 1] B39) s H = some (.ret, s, H) := at_ret (by kernel_rfl) s H
theorem b39 {k : Nat} (ho : ∀ args H, Γ.orc 39 args H = none) (args : List V) (H : Heap) (ha : args.length ≤ 8) : evF Tryd.prog Γ (k + 1) 39 args H = bodyEnd Tryd.prog [.tmp 4] H.length (evCode Tryd.prog Γ (evF Tryd.prog Γ k) k 39 H.length (cAt [] B39) (mkL 8 V.undef (enumV 0 args)) H) := body_at Tryd.func39 (by decide) rfl ho rfl rfl args H ha
noncomputable def B40 : Code := bodyOf Tryd.f40
@[simp] theorem n40_1 (s : List V) (H : Heap) : evCode P Γ call n f m (cAt [] B40) s H = seqNext P Γ call n f m (cAt [1] B40) (evCode P Γ call n f m (cAt [0] B40) s H) := at_seq (by kernel_rfl) rfl rfl s H
noncomputable def r40_2 : {l : List Oper // opsOf (cAt [0] B40) = l} := by
  apply Subtype.mk
  dsimp only [opsOf, cAt, kids, B40, bodyOf, Tryd.f40, List.getD, List.getElem?_cons_zero, List.getElem?_cons_succ, Option.getD_some]
@[simp] theorem n40_2 (s : List V) (H : Heap) : evCode P Γ call n f m (cAt [0] B40) s H = regNext (evOpsGo P Γ call r40_2.1 r40_2.1 s H) := at_region (by kernel_rfl) r40_2.2 s H
attribute [simp] r40_2
@[simp] theorem n40_3 (s : List V) (H : Heap) : evCode P Γ call n f m (cAt [1] B40) s H = seqNext P Γ call n f m (cAt [1, 1] B40) (evCode P Γ call n f m (cAt [1, 0] B40) s H) := at_seq (by kernel_rfl) rfl rfl s H
noncomputable def r40_4 : {l : List Oper // opsOf (cAt [1, 0] B40) = l} := by
  apply Subtype.mk
  dsimp only [opsOf, cAt, kids, B40, bodyOf, Tryd.f40, List.getD, List.getElem?_cons_zero, List.getElem?_cons_succ, Option.getD_some]
@[simp] theorem n40_4 (s : List V) (H : Heap) : evCode P Γ call n f m (cAt [1, 0] B40) s H = regNext (evOpsGo P Γ call r40_4.1 r40_4.1 s H) := at_region (by kernel_rfl) r40_4.2 s H
attribute [simp] r40_4
@[simp] theorem n40_5 (s : List V) (H : Heap) : evCode P Γ call n f m (cAt [1, 1] B40) s H = some (.ret, s, H) := at_ret (by kernel_rfl) s H
theorem b40 {k : Nat} (ho : ∀ args H, Γ.orc 40 args H = none) (args : List V) (H : Heap) (ha : args.length ≤ 8) : evF Tryd.prog Γ (k + 1) 40 args H = bodyEnd Tryd.prog [.tmp 4] H.length (evCode Tryd.prog Γ (evF Tryd.prog Γ k) k 40 H.length (cAt [] B40) (mkL 8 V.undef (enumV 0 args)) H) := body_at Tryd.func40 (by decide) rfl ho rfl rfl args H ha
noncomputable def B56 : Code := bodyOf Tryd.f56
@[simp] theorem n56_1 (s : List V) (H : Heap) : evCode P Γ call n f m (cAt [] B56) s H = seqNext P Γ call n f m (cAt [1] B56) (evCode P Γ call n f m (cAt [0] B56) s H) := at_seq (by kernel_rfl) rfl rfl s H
noncomputable def r56_2 : {l : List Oper // opsOf (cAt [0] B56) = l} := by
  apply Subtype.mk
  dsimp only [opsOf, cAt, kids, B56, bodyOf, Tryd.f56, List.getD, List.getElem?_cons_zero, List.getElem?_cons_succ, Option.getD_some]
@[simp] theorem n56_2 (s : List V) (H : Heap) : evCode P Γ call n f m (cAt [0] B56) s H = regNext (evOpsGo P Γ call r56_2.1 r56_2.1 s H) := at_region (by kernel_rfl) r56_2.2 s H
attribute [simp] r56_2
@[simp] theorem n56_3 (s : List V) (H : Heap) : evCode P Γ call n f m (cAt [1] B56) s H = seqNext P Γ call n f m (cAt [1, 1] B56) (evCode P Γ call n f m (cAt [1, 0] B56) s H) := at_seq (by kernel_rfl) rfl rfl s H
@[simp] theorem n56_4 (s : List V) (H : Heap) : evCode P Γ call n f m (cAt [1, 0] B56) s H = seqNext P Γ call n f m (cAt [1, 0, 1] B56) (evCode P Γ call n f m (cAt [1, 0, 0] B56) s H) := at_seq (by kernel_rfl) rfl rfl s H
noncomputable def r56_5 : {l : List Oper // opsOf (cAt [1, 0, 0] B56) = l} := by
  apply Subtype.mk
  dsimp only [opsOf, cAt, kids, B56, bodyOf, Tryd.f56, List.getD, List.getElem?_cons_zero, List.getElem?_cons_succ, Option.getD_some]
@[simp] theorem n56_5 (s : List V) (H : Heap) : evCode P Γ call n f m (cAt [1, 0, 0] B56) s H = regNext (evOpsGo P Γ call r56_5.1 r56_5.1 s H) := at_region (by kernel_rfl) r56_5.2 s H
attribute [simp] r56_5
@[simp] theorem n56_6 (s : List V) (H : Heap) : evCode P Γ call n f m (cAt [1, 0, 1] B56) s H = blockNext 0 (evCode P Γ call n f m (cAt [1, 0, 1, 0] B56) s H) := at_block (by kernel_rfl) rfl s H
@[simp] theorem n56_7 (s : List V) (H : Heap) : evCode P Γ call n f m (cAt [1, 0, 1, 0] B56) s H = evLoopC P Γ call n f m (cAt [1, 0, 1, 0, 0] B56) n s H := at_loop (by kernel_rfl) rfl s H
noncomputable abbrev L56_2 : Code := cAt [1, 0, 1, 0, 0] B56
@[simp] theorem n56_7f : firstRegion (cAt [1, 0, 1, 0, 0] B56) = 2 := by kernel_rfl
@[simp] theorem n56_8 (s : List V) (H : Heap) : evCode P Γ call n f m (cAt [1, 0, 1, 0, 0] B56) s H = seqNext P Γ call n f m (cAt [1, 0, 1, 0, 0, 1] B56) (evCode P Γ call n f m (cAt [1, 0, 1, 0, 0, 0] B56) s H) := at_seq (by kernel_rfl) rfl rfl s H
noncomputable def r56_9 : {l : List Oper // opsOf (cAt [1, 0, 1, 0, 0, 0] B56) = l} := by
  apply Subtype.mk
  dsimp only [opsOf, cAt, kids, B56, bodyOf, Tryd.f56, List.getD, List.getElem?_cons_zero, List.getElem?_cons_succ, Option.getD_some]
@[simp] theorem n56_9 (s : List V) (H : Heap) : evCode P Γ call n f m (cAt [1, 0, 1, 0, 0, 0] B56) s H = regNext (evOpsGo P Γ call r56_9.1 r56_9.1 s H) := at_region (by kernel_rfl) r56_9.2 s H
attribute [simp] r56_9
@[simp] theorem n56_10 (s : List V) (H : Heap) : evCode P Γ call n f m (cAt [1, 0, 1, 0, 0, 1] B56) s H = seqNext P Γ call n f m (cAt [1, 0, 1, 0, 0, 1, 1] B56) (evCode P Γ call n f m (cAt [1, 0, 1, 0, 0, 1, 0] B56) s H) := at_seq (by kernel_rfl) rfl rfl s H
@[simp] theorem n56_11 (s : List V) (H : Heap) : evCode P Γ call n f m (cAt [1, 0, 1, 0, 0, 1, 0] B56) s H = condW P Γ call n f m (cAt [1, 0, 1, 0, 0, 1, 0, 0] B56) (cAt [1, 0, 1, 0, 0, 1, 0, 1] B56) s H (evOperand Γ s (.tmp 9)) := at_cond (by kernel_rfl) (by kernel_rfl) rfl rfl s H
@[simp] theorem n56_12 (s : List V) (H : Heap) : evCode P Γ call n f m (cAt [1, 0, 1, 0, 0, 1, 0, 0] B56) s H = some (.normal, s, H) := at_skip (by kernel_rfl) s H
@[simp] theorem n56_13 (s : List V) (H : Heap) : evCode P Γ call n f m (cAt [1, 0, 1, 0, 0, 1, 0, 1] B56) s H = some (.exit 0, s, H) := at_exit (by kernel_rfl) s H
@[simp] theorem n56_14 (s : List V) (H : Heap) : evCode P Γ call n f m (cAt [1, 0, 1, 0, 0, 1, 1] B56) s H = seqNext P Γ call n f m (cAt [1, 0, 1, 0, 0, 1, 1, 1] B56) (evCode P Γ call n f m (cAt [1, 0, 1, 0, 0, 1, 1, 0] B56) s H) := at_seq (by kernel_rfl) rfl rfl s H
@[simp] theorem n56_15 (s : List V) (H : Heap) : evCode P Γ call n f m (cAt [1, 0, 1, 0, 0, 1, 1, 0] B56) s H = blockNext 1 (evCode P Γ call n f m (cAt [1, 0, 1, 0, 0, 1, 1, 0, 0] B56) s H) := at_block (by kernel_rfl) rfl s H
@[simp] theorem n56_16 (s : List V) (H : Heap) : evCode P Γ call n f m (cAt [1, 0, 1, 0, 0, 1, 1, 0, 0] B56) s H = seqNext P Γ call n f m (cAt [1, 0, 1, 0, 0, 1, 1, 0, 0, 1] B56) (evCode P Γ call n f m (cAt [1, 0, 1, 0, 0, 1, 1, 0, 0, 0] B56) s H) := at_seq (by kernel_rfl) rfl rfl s H
noncomputable def r56_17 : {l : List Oper // opsOf (cAt [1, 0, 1, 0, 0, 1, 1, 0, 0, 0] B56) = l} := by
  apply Subtype.mk
  dsimp only [opsOf, cAt, kids, B56, bodyOf, Tryd.f56, List.getD, List.getElem?_cons_zero, List.getElem?_cons_succ, Option.getD_some]
@[simp] theorem n56_17 (s : List V) (H : Heap) : evCode P Γ call n f m (cAt [1, 0, 1, 0, 0, 1, 1, 0, 0, 0] B56) s H = regNext (evOpsGo P Γ call r56_17.1 r56_17.1 s H) := at_region (by kernel_rfl) r56_17.2 s H
attribute [simp] r56_17
@[simp] theorem n56_18 (s : List V) (H : Heap) : evCode P Γ call n f m (cAt [1, 0, 1, 0, 0, 1, 1, 0, 0, 1] B56) s H = seqNext P Γ call n f m (cAt [1, 0, 1, 0, 0, 1, 1, 0, 0, 1, 1] B56) (evCode P Γ call n f m (cAt [1, 0, 1, 0, 0, 1, 1, 0, 0, 1, 0] B56) s H) := at_seq (by kernel_rfl) rfl rfl s H
noncomputable def r56_19 : {l : List Oper // opsOf (cAt [1, 0, 1, 0, 0, 1, 1, 0, 0, 1, 0] B56) = l} := by
  apply Subtype.mk
  dsimp only [opsOf, cAt, kids, B56, bodyOf, Tryd.f56, List.getD, List.getElem?_cons_zero, List.getElem?_cons_succ, Option.getD_some]
@[simp] theorem n56_19 (s : List V) (H : Heap) : evCode P Γ call n f m (cAt [1, 0, 1, 0, 0, 1, 1, 0, 0, 1, 0] B56) s H = regNext (evOpsGo P Γ call r56_19.1 r56_19.1 s H) := at_region (by kernel_rfl) r56_19.2 s H
attribute [simp] r56_19
@[simp] theorem n56_20 (s : List V) (H : Heap) : evCode P Γ call n f m (cAt [1, 0, 1, 0, 0, 1, 1, 0, 0, 1, 1] B56) s H = condW P Γ call n f m (cAt [1, 0, 1, 0, 0, 1, 1, 0, 0, 1, 1, 0] B56) (cAt [1, 0, 1, 0, 0, 1, 1, 0, 0, 1, 1, 1] B56) s H (evOperand Γ s (.tmp 16)) := at_cond (by kernel_rfl) (by kernel_rfl) rfl rfl s H
@[simp] theorem n56_21 (s : List V) (H : Heap) : evCode P Γ call n f m (cAt [1, 0, 1, 0, 0, 1, 1, 0, 0, 1, 1, 0] B56) s H = seqNext P Γ call n f m (cAt [1, 0, 1, 0, 0, 1, 1, 0, 0, 1, 1, 0, 1] B56) (evCode P Γ call n f m (cAt [1, 0, 1, 0, 0, 1, 1, 0, 0, 1, 1, 0, 0] B56) s H) := at_seq (by kernel_rfl) rfl rfl s H
noncomputable def r56_22 : {l : List Oper // opsOf (cAt [1, 0, 1, 0, 0, 1, 1, 0, 0, 1, 1, 0, 0] B56) = l} := by
  apply Subtype.mk
  dsimp only [opsOf, cAt, kids, B56, bodyOf, Tryd.f56, List.getD, List.getElem?_cons_zero, List.getElem?_cons_succ, Option.getD_some]
@[simp] theorem n56_22 (s : List V) (H : Heap) : evCode P Γ call n f m (cAt [1, 0, 1, 0, 0, 1, 1, 0, 0, 1, 1, 0, 0] B56) s H = regNext (evOpsGo P Γ call r56_22.1 r56_22.1 s H) := at_region (by kernel_rfl) r56_22.2 s H
attribute [simp] r56_22
@[simp] theorem n56_23 (s : List V) (H : Heap) : evCode P Γ call n f m (cAt [1, 0, 1, 0, 0, 1, 1, 0, 0, 1, 1, 0, 1] B56) s H = some (.ret, s, H) := at_ret (by kernel_rfl) s H
@[simp] theorem n56_24 (s : List V) (H : Heap) : evCode P Γ call n f m (cAt [1, 0, 1, 0, 0, 1, 1, 0, 0, 1, 1, 1] B56) s H = some (.normal, s, H) := at_skip (by kernel_rfl) s H
noncomputable def r56_25 : {l : List Oper // opsOf (cAt [1, 0, 1, 0, 0, 1, 1, 1] B56) = l} := by
  apply Subtype.mk
  dsimp only [opsOf, cAt, kids, B56, bodyOf, Tryd.f56, List.getD, List.getElem?_cons_zero, List.getElem?_cons_succ, Option.getD_some]
@[simp] theorem n56_25 (s : List V) (H : Heap) : evCode P Γ call n f m (cAt [1, 0, 1, 0, 0, 1, 1, 1] B56) s H = regNext (evOpsGo P Γ call r56_25.1 r56_25.1 s H) := at_region (by kernel_rfl) r56_25.2 s H
attribute [simp] r56_25
@[simp] theorem n56_26 (s : List V) (H : Heap) : evCode P Γ call n f m (cAt [1, 1] B56) s H = seqNext P Γ call n f m (cAt [1, 1, 1] B56) (evCode P Γ call n f m (cAt [1, 1, 0] B56) s H) := at_seq (by kernel_rfl) rfl rfl s H
noncomputable def r56_27 : {l : List Oper // opsOf (cAt [1, 1, 0] B56) = l} := by
  apply Subtype.mk
  dsimp only [opsOf, cAt, kids, B56, bodyOf, Tryd.f56, List.getD, List.getElem?_cons_zero, List.getElem?_cons_succ, Option.getD_some]
@[simp] theorem n56_27 (s : List V) (H : Heap) : evCode P Γ call n f m (cAt [1, 1, 0] B56) s H = regNext (evOpsGo P Γ call r56_27.1 r56_27.1 s H) := at_region (by kernel_rfl) r56_27.2 s H
attribute [simp] r56_27
@[simp] theorem n56_28 (s : List V) (H : Heap) : evCode P Γ call n f m (cAt [1, 1, 1] B56) s H = some (.ret, s, H) := at_ret (by kernel_rfl) s H
theorem b56 {k : Nat} (ho : ∀ args H, Γ.orc 56 args H = none) (args : List V) (H : Heap) (ha : args.length ≤ 19) : evF Tryd.prog Γ (k + 1) 56 args H = bodyEnd Tryd.prog [.tmp 4] H.length (evCode Tryd.prog Γ (evF Tryd.prog Γ k) k 56 H.length (cAt [] B56) (mkL 19 V.undef (enumV 0 args)) H) := body_at Tryd.func56 (by decide) rfl ho rfl rfl args H ha
noncomputable def B58 : Code := bodyOf Tryd.f58
@[simp] theorem n58_1 (s : List V) (H : Heap) : evCode P Γ call n f m (cAt [] B58) s H = seqNext P Γ call n f m (cAt [1] B58) (evCode P Γ call n f m (cAt [0] B58) s H) := at_seq (by kernel_rfl) rfl rfl s H
noncomputable def r58_2 : {l : List Oper // opsOf (cAt [0] B58) = l} := by
  apply Subtype.mk
  dsimp only [opsOf, cAt, kids, B58, bodyOf, Tryd.f58, List.getD, List.getElem?_cons_zero, List.getElem?_cons_succ, Option.getD_some]
@[simp] theorem n58_2 (s : List V) (H : Heap) : evCode P Γ call n f m (cAt [0] B58) s H = regNext (evOpsGo P Γ call r58_2.1 r58_2.1 s H) := at_region (by kernel_rfl) r58_2.2 s H
attribute [simp] r58_2
@[simp] theorem n58_3 (s : List V) (H : Heap) : evCode P Γ call n f m (cAt [1] B58) s H = seqNext P Γ call n f m (cAt [1, 1] B58) (evCode P Γ call n f m (cAt [1, 0] B58) s H) := at_seq (by kernel_rfl) rfl rfl s H
@[simp] theorem n58_4 (s : List V) (H : Heap) : evCode P Γ call n f m (cAt [1, 0] B58) s H = seqNext P Γ call n f m (cAt [1, 0, 1] B58) (evCode P Γ call n f m (cAt [1, 0, 0] B58) s H) := at_seq (by kernel_rfl) rfl rfl s H
noncomputable def r58_5 : {l : List Oper // opsOf (cAt [1, 0, 0] B58) = l} := by
  apply Subtype.mk
  dsimp only [opsOf, cAt, kids, B58, bodyOf, Tryd.f58, List.getD, List.getElem?_cons_zero, List.getElem?_cons_succ, Option.getD_some]
@[simp] theorem n58_5 (s : List V) (H : Heap) : evCode P Γ call n f m (cAt [1, 0, 0] B58) s H = regNext (evOpsGo P Γ call r58_5.1 r58_5.1 s H) := at_region (by kernel_rfl) r58_5.2 s H
attribute [simp] r58_5
@[simp] theorem n58_6 (s : List V) (H : Heap) : evCode P Γ call n f m (cAt [1, 0, 1] B58) s H = blockNext 0 (evCode P Γ call n f m (cAt [1, 0, 1, 0] B58) s H) := at_block (by kernel_rfl) rfl s H
@[simp] theorem n58_7 (s : List V) (H : Heap) : evCode P Γ call n f m (cAt [1, 0, 1, 0] B58) s H = evLoopC P Γ call n f m (cAt [1, 0, 1, 0, 0] B58) n s H := at_loop (by kernel_rfl) rfl s H
noncomputable abbrev L58_2 : Code := cAt [1, 0, 1, 0, 0] B58
@[simp] theorem n58_7f : firstRegion (cAt [1, 0, 1, 0, 0] B58) = 2 := by kernel_rfl
@[simp] theorem n58_8 (s : List V) (H : Heap) : evCode P Γ call n f m (cAt [1, 0, 1, 0, 0] B58) s H = seqNext P Γ call n f m (cAt [1, 0, 1, 0, 0, 1] B58) (evCode P Γ call n f m (cAt [1, 0, 1, 0, 0, 0] B58) s H) := at_seq (by kernel_rfl) rfl rfl s H
noncomputable def r58_9 : {l : List Oper // opsOf (cAt [1, 0, 1, 0, 0, 0] B58) = l} := by
  apply Subtype.mk
  dsimp only [opsOf, cAt, kids, B58, bodyOf, Tryd.f58, List.getD, List.getElem?_cons_zero, List.getElem?_cons_succ, Option.getD_some]
@[simp] theorem n58_9 (s : List V) (H : Heap) : evCode P Γ call n f m (cAt [1, 0, 1, 0, 0, 0] B58) s H = regNext (evOpsGo P Γ call r58_9.1 r58_9.1 s H) := at_region (by kernel_rfl) r58_9.2 s H
attribute [simp] r58_9
@[simp] theorem n58_10 (s : List V) (H : Heap) : evCode P Γ call n f m (cAt [1, 0, 1, 0, 0, 1] B58) s H = seqNext P Γ call n f m (cAt [1, 0, 1, 0, 0, 1, 1] B58) (evCode P Γ call n f m (cAt [1, 0, 1, 0, 0, 1, 0] B58) s H) := at_seq (by kernel_rfl) rfl rfl s H
@[simp] theorem n58_11 (s : List V) (H : Heap) : evCode P Γ call n f m (cAt [1, 0, 1, 0, 0, 1, 0] B58) s H = condW P Γ call n f m (cAt [1, 0, 1, 0, 0, 1, 0, 0] B58) (cAt [1, 0, 1, 0, 0, 1, 0, 1] B58) s H (evOperand Γ s (.tmp 9)) := at_cond (by kernel_rfl) (by kernel_rfl) rfl rfl s H
@[simp] theorem n58_12 (s : List V) (H : Heap) : evCode P Γ call n f m (cAt [1, 0, 1, 0, 0, 1, 0, 0] B58) s H = some (.normal, s, H) := at_skip (by kernel_rfl) s H
@[simp] theorem n58_13 (s : List V) (H : Heap) : evCode P Γ call n f m (cAt [1, 0, 1, 0, 0, 1, 0, 1] B58) s H = some (.exit 0, s, H) := at_exit (by kernel_rfl) s H
@[simp] theorem n58_14 (s : List V) (H : Heap) : evCode P Γ call n f m (cAt [1, 0, 1, 0, 0, 1, 1] B58) s H = seqNext P Γ call n f m (cAt [1, 0, 1, 0, 0, 1, 1, 1] B58) (evCode P Γ call n f m (cAt [1, 0, 1, 0, 0, 1, 1, 0] B58) s H) := at_seq (by kernel_rfl) rfl rfl s H
@[simp] theorem n58_15 (s : List V) (H : Heap) : evCode P Γ call n f m (cAt [1, 0, 1, 0, 0, 1, 1, 0] B58) s H = blockNext 1 (evCode P Γ call n f m (cAt [1, 0, 1, 0, 0, 1, 1, 0, 0] B58) s H) := at_block (by kernel_rfl) rfl s H
@[simp] theorem n58_16 (s : List V) (H : Heap) : evCode P Γ call n f m (cAt [1, 0, 1, 0, 0, 1, 1, 0, 0] B58) s H = seqNext P Γ call n f m (cAt [1, 0, 1, 0, 0, 1, 1, 0, 0, 1] B58) (evCode P Γ call n f m (cAt [1, 0, 1, 0, 0, 1, 1, 0, 0, 0] B58) s H) := at_seq (by kernel_rfl) rfl rfl s H
noncomputable def r58_17 : {l : List Oper // opsOf (cAt [1, 0, 1, 0, 0, 1, 1, 0, 0, 0] B58) = l} := by
  apply Subtype.mk
  dsimp only [opsOf, cAt, kids, B58, bodyOf, Tryd.f58, List.getD, List.getElem?_cons_zero, List.getElem?_cons_succ, Option.getD_some]
@[simp] theorem n58_17 (s : List V) (H : Heap) : evCode P Γ call n f m (cAt [1, 0, 1, 0, 0, 1, 1, 0, 0, 0] B58) s H = regNext (evOpsGo P Γ call r58_17.1 r58_17.1 s H) := at_region (by kernel_rfl) r58_17.2 s H
attribute [simp] r58_17
@[simp] theorem n58_18 (s : List V) (H : Heap) : evCode P Γ call n f m (cAt [1, 0, 1, 0, 0, 1, 1, 0, 0, 1] B58) s H = seqNext P Γ call n f m (cAt [1, 0, 1, 0, 0, 1, 1, 0, 0, 1, 1] B58) (evCode P Γ call n f m (cAt [1, 0, 1, 0, 0, 1, 1, 0, 0, 1, 0] B58) s H) := at_seq (by kernel_rfl) rfl rfl s H
noncomputable def r58_19 : {l : List Oper // opsOf (cAt [1, 0, 1, 0, 0, 1, 1, 0, 0, 1, 0] B58) = l} := by
  apply Subtype.mk
  dsimp only [opsOf, cAt, kids, B58, bodyOf, Tryd.f58, List.getD, List.getElem?_cons_zero, List.getElem?_cons_succ, Option.getD_some]
@[simp] theorem n58_19 (s : List V) (H : Heap) : evCode P Γ call n f m (cAt [1, 0, 1, 0, 0, 1, 1, 0, 0, 1, 0] B58) s H = regNext (evOpsGo P Γ call r58_19.1 r58_19.1 s H) := at_region (by kernel_rfl) r58_19.2 s H
attribute [simp] r58_19
@[simp] theorem n58_20 (s : List V) (H : Heap) : evCode P Γ call n f m (cAt [1, 0, 1, 0, 0, 1, 1, 0, 0, 1, 1] B58) s H = condW P Γ call n f m (cAt [1, 0, 1, 0, 0, 1, 1, 0, 0, 1, 1, 0] B58) (cAt [1, 0, 1, 0, 0, 1, 1, 0, 0, 1, 1, 1] B58) s H (evOperand Γ s (.tmp 16)) := at_cond (by kernel_rfl) (by kernel_rfl) rfl rfl s H
@[simp] theorem n58_21 (s : List V) (H : Heap) : evCode P Γ call n f m (cAt [1, 0, 1, 0, 0, 1, 1, 0, 0, 1, 1, 0] B58) s H = seqNext P Γ call n f m (cAt [1, 0, 1, 0, 0, 1, 1, 0, 0, 1, 1, 0, 1] B58) (evCode P Γ call n f m (cAt [1, 0, 1, 0, 0, 1, 1, 0, 0, 1, 1, 0, 0] B58) s H) := at_seq (by kernel_rfl) rfl rfl s H
noncomputable def r58_22 : {l : List Oper // opsOf (cAt [1, 0, 1, 0, 0, 1, 1, 0, 0, 1, 1, 0, 0] B58) = l} := by
  apply Subtype.mk
  dsimp only [opsOf, cAt, kids, B58, bodyOf, Tryd.f58, List.getD, List.getElem?_cons_zero, List.getElem?_cons_succ, Option.getD_some]
@[simp] theorem n58_22 (s : List V) (H : Heap) : evCode P Γ call n f m (cAt [1, 0, 1, 0, 0, 1, 1, 0, 0, 1, 1, 0, 0] B58) s H = regNext (evOpsGo P Γ call r58_22.1 r58_22.1 s H) := at_region (by kernel_rfl) r58_22.2 s H
attribute [simp] r58_22
@[simp] theorem n58_23 (s : List V) (H : Heap) : evCode P Γ call n f m (cAt [1, 0, 1, 0, 0, 1, 1, 0, 0, 1, 1, 0, 1] B58) s H = some (.ret, s, H) := at_ret (by kernel_rfl) s H
@[simp] theorem n58_24 (s : List V) (H : Heap) : evCode P Γ call n f m (cAt [1, 0, 1, 0, 0, 1, 1, 0, 0, 1, 1, 1] B58) s H = some (.normal, s, H) := at_skip (by kernel_rfl) s H
noncomputable def r58_25 : {l : List Oper // opsOf (cAt [1, 0, 1, 0, 0, 1, 1, 1] B58) = l} := by
  apply Subtype.mk
  dsimp only [opsOf, cAt, kids, B58, bodyOf, Tryd.f58, List.getD, List.getElem?_cons_zero, List.getElem?_cons_succ, Option.getD_some]
@[simp] theorem n58_25 (s : List V) (H : Heap) : evCode P Γ call n f m (cAt [1, 0, 1, 0, 0, 1, 1, 1] B58) s H = regNext (evOpsGo P Γ call r58_25.1 r58_25.1 s H) := at_region (by kernel_rfl) r58_25.2 s H
attribute [simp] r58_25
@[simp] theorem n58_26 (s : List V) (H : Heap) : evCode P Γ call n f m (cAt [1, 1] B58) s H = seqNext P Γ call n f m (cAt [1, 1, 1] B58) (evCode P Γ call n f m (cAt [1, 1, 0] B58) s H) := at_seq (by kernel_rfl) rfl rfl s H
noncomputable def r58_27 : {l : List Oper // opsOf (cAt [1, 1, 0] B58) = l} := by
  apply Subtype.mk
  dsimp only [opsOf, cAt, kids, B58, bodyOf, Tryd.f58, List.getD, List.getElem?_cons_zero, List.getElem?_cons_succ, Option.getD_some]
@[simp] theorem n58_27 (s : List V) (H : Heap) : evCode P Γ call n f m (cAt [1, 1, 0] B58) s H = regNext (evOpsGo P Γ call r58_27.1 r58_27.1 s H) := at_region (by kernel_rfl) r58_27.2 s H
attribute [simp] r58_27
@[simp] theorem n58_28 (s : List V) (H : Heap) : evCode P Γ call n f m (cAt [1, 1, 1] B58) s H = some (.ret, s, H) := at_ret (by kernel_rfl) s H
theorem b58 {k : Nat} (ho : ∀ args H, Γ.orc 58 args H = none) (args : List V) (H : Heap) (ha : args.length ≤ 19) : evF Tryd.prog Γ (k + 1) 58 args H = bodyEnd Tryd.prog [.tmp 4] H.length (evCode Tryd.prog Γ (evF Tryd.prog Γ k) k 58 H.length (cAt [] B58) (mkL 19 V.undef (enumV 0 args)) H) := body_at Tryd.func58 (by decide) rfl ho rfl rfl args H ha
noncomputable def B59 : Code := bodyOf Tryd.f59
@[simp] theorem n59_1 (s : List V) (H : Heap) : evCode P Γ call n f m (cAt [] B59) s H = seqNext P Γ call n f m (cAt [1] B59) (evCode P Γ call n f m (cAt [0] B59) s H) := at_seq (by kernel_rfl) rfl rfl s H
noncomputable def r59_2 : {l : List Oper // opsOf (cAt [0] B59) = l} := by
  apply Subtype.mk
  dsimp only [opsOf, cAt, kids, B59, bodyOf, Tryd.f59, List.getD, List.getElem?_cons_zero, List.getElem?_cons_succ, Option.getD_some]
@[simp] theorem n59_2 (s : List V) (H : Heap) : evCode P Γ call n f m (cAt [0] B59) s H = regNext (evOpsGo P Γ call r59_2.1 r59_2.1 s H) := at_region (by kernel_rfl) r59_2.2 s H
attribute [simp] r59_2
@[simp] theorem n59_3 (s : List V) (H : Heap) : evCode P Γ call n f m (cAt [1] B59) s H = seqNext P Γ call n f m (cAt [1, 1] B59) (evCode P Γ call n f m (cAt [1, 0] B59) s H) := at_seq (by kernel_rfl) rfl rfl s H
noncomputable def r59_4 : {l : List Oper // opsOf (cAt [1, 0] B59) = l} := by
  apply Subtype.mk
  dsimp only [opsOf, cAt, kids, B59, bodyOf, Tryd.f59, List.getD, List.getElem?_cons_zero, List.getElem?_cons_succ, Option.getD_some]
@[simp] theorem n59_4 (s : List V) (H : Heap) : evCode P Γ call n f m (cAt [1, 0] B59) s H = regNext (evOpsGo P Γ call r59_4.1 r59_4.1 s H) := at_region (by kernel_rfl) r59_4.2 s H
attribute [simp] r59_4
@[simp] theorem n59_5 (s : List V) (H : Heap) : evCode P Γ call n f m (cAt [1, 1] B59) s H = some (.ret, s, H) := at_ret (by kernel_rfl) s H
theorem b59 {k : Nat} (ho : ∀ args H, Γ.orc 59 args H = none) (args : List V) (H : Heap) (ha : args.length ≤ 8) : evF Tryd.prog Γ (k + 1) 59 args H = bodyEnd Tryd.prog [.tmp 4] H.length (evCode Tryd.prog Γ (evF Tryd.prog Γ k) k 59 H.length (cAt [] B59) (mkL 8 V.undef (enumV 0 args)) H) := body_at Tryd.func59 (by decide) rfl ho rfl rfl args H ha
noncomputable def B60 : Code := bodyOf Tryd.f60
@[simp] theorem n60_1 (s : List V) (H : Heap) : evCode P Γ call n f m (cAt [] B60) s H = seqNext P Γ call n f m (cAt [1] B60) (evCode P Γ call n f m (cAt [0] B60) s H) := at_seq (by kernel_rfl) rfl rfl s H
noncomputable def r60_2 : {l : List Oper // opsOf (cAt [0] B60) = l} := by
  apply Subtype.mk
  dsimp only [opsOf, cAt, kids, B60, bodyOf, Tryd.f60, List.getD, List.getElem?_cons_zero, List.getElem?_cons_succ, Option.getD_some]
@[simp] theorem n60_2 (s : List V) (H : Heap) : evCode P Γ call n f m (cAt [0] B60) s H = regNext (evOpsGo P Γ call r60_2.1 r60_2.1 s H) := at_region (by kernel_rfl) r60_2.2 s H
attribute [simp] r60_2
@[simp] theorem n60_3 (s : List V) (H : Heap) : evCode P Γ call n f m (cAt [1] B60) s H = seqNext P Γ call n f m (cAt [1, 1] B60) (evCode P Γ call n f m (cAt [1, 0] B60) s H) := at_seq (by kernel_rfl) rfl rfl s H
@[simp] theorem n60_4 (s : List V) (H : Heap) : evCode P Γ call n f m (cAt [1, 0] B60) s H = seqNext P Γ call n f m (cAt [1, 0, 1] B60) (evCode P Γ call n f m (cAt [1, 0, 0] B60) s H) := at_seq (by kernel_rfl) rfl rfl s H
noncomputable def r60_5 : {l : List Oper // opsOf (cAt [1, 0, 0] B60) = l} := by
  apply Subtype.mk
  dsimp only [opsOf, cAt, kids, B60, bodyOf, Tryd.f60, List.getD, List.getElem?_cons_zero, List.getElem?_cons_succ, Option.getD_some]
@[simp] theorem n60_5 (s : List V) (H : Heap) : evCode P Γ call n f m (cAt [1, 0, 0] B60) s H = regNext (evOpsGo P Γ call r60_5.1 r60_5.1 s H) := at_region (by kernel_rfl) r60_5.2 s H
attribute [simp] r60_5
@[simp] theorem n60_6 (s : List V) (H : Heap) : evCode P Γ call n f m (cAt [1, 0, 1] B60) s H = blockNext 0 (evCode P Γ call n f m (cAt [1, 0, 1, 0] B60) s H) := at_block (by kernel_rfl) rfl s H
@[simp] theorem n60_7 (s : List V) (H : Heap) : evCode P Γ call n f m (cAt [1, 0, 1, 0] B60) s H = evLoopC P Γ call n f m (cAt [1, 0, 1, 0, 0] B60) n s H := at_loop (by kernel_rfl) rfl s H
noncomputable abbrev L60_2 : Code := cAt [1, 0, 1, 0, 0] B60
@[simp] theorem n60_7f : firstRegion (cAt [1, 0, 1, 0, 0] B60) = 2 := by kernel_rfl
@[simp] theorem n60_8 (s : List V) (H : Heap) : evCode P Γ call n f m (cAt [1, 0, 1, 0, 0] B60) s H = seqNext P Γ call n f m (cAt [1, 0, 1, 0, 0, 1] B60) (evCode P Γ call n f m (cAt [1, 0, 1, 0, 0, 0] B60) s H) := at_seq (by kernel_rfl) rfl rfl s H
noncomputable def r60_9 : {l : List Oper // opsOf (cAt [1, 0, 1, 0, 0, 0] B60) = l} := by
  apply Subtype.mk
  dsimp only [opsOf, cAt, kids, B60, bodyOf, Tryd.f60, List.getD, List.getElem?_cons_zero, List.getElem?_cons_succ, Option.getD_some]
@[simp] theorem n60_9 (s : List V) (H : Heap) : evCode P Γ call n f m (cAt [1, 0, 1, 0, 0, 0] B60) s H = regNext (evOpsGo P Γ call r60_9.1 r60_9.1 s H) := at_region (by kernel_rfl) r60_9.2 s H
attribute [simp] r60_9
@[simp] theorem n60_10 (s : List V) (H : Heap) : evCode P Γ call n f m (cAt [1, 0, 1, 0, 0, 1] B60) s H = seqNext P Γ call n f m (cAt [1, 0, 1, 0, 0, 1, 1] B60) (evCode P Γ call n f m (cAt [1, 0, 1, 0, 0, 1, 0] B60) s H) := at_seq (by kernel_rfl) rfl rfl s H
@[simp] theorem n60_11 (s : List V) (H : Heap) : evCode P Γ call n f m (cAt [1, 0, 1, 0, 0, 1, 0] B60) s H = condW P Γ call n f m (cAt [1, 0, 1, 0, 0, 1, 0, 0] B60) (cAt [1, 0, 1, 0, 0, 1, 0, 1] B60) s H (evOperand Γ s (.tmp 9)) := at_cond (by kernel_rfl) (by kernel_rfl) rfl rfl s H
@[simp] theorem n60_12 (s : List V) (H : Heap) : evCode P Γ call n f m (cAt [1, 0, 1, 0, 0, 1, 0, 0] B60) s H = some (.normal, s, H) := at_skip (by kernel_rfl) s H
@[simp] theorem n60_13 (s : List V) (H : Heap) : evCode P Γ call n f m (cAt [1, 0, 1, 0, 0, 1, 0, 1] B60) s H = some (.exit 0, s, H) := at_exit (by kernel_rfl) s H
@[simp] theorem n60_14 (s : List V) (H : Heap) : evCode P Γ call n f m (cAt [1, 0, 1, 0, 0, 1, 1] B60) s H = seqNext P Γ call n f m (cAt [1, 0, 1, 0, 0, 1, 1, 1] B60) (evCode P Γ call n f m (cAt [1, 0, 1, 0, 0, 1, 1, 0] B60) s H) := at_seq (by kernel_rfl) rfl rfl s H
@[simp] theorem n60_15 (s : List V) (H : Heap) : evCode P Γ call n f m (cAt [1, 0, 1, 0, 0, 1, 1, 0] B60) s H = blockNext 1 (evCode P Γ call n f m (cAt [1, 0, 1, 0, 0, 1, 1, 0, 0] B60) s H) := at_block (by kernel_rfl) rfl s H
@[simp] theorem n60_16 (s : List V) (H : Heap) : evCode P Γ call n f m (cAt [1, 0, 1, 0, 0, 1, 1, 0, 0] B60) s H = seqNext P Γ call n f m (cAt [1, 0, 1, 0, 0, 1, 1, 0, 0, 1] B60) (evCode P Γ call n f m (cAt [1, 0, 1, 0, 0, 1, 1, 0, 0, 0] B60) s H) := at_seq (by kernel_rfl) rfl rfl s H
noncomputable def r60_17 : {l : List Oper // opsOf (cAt [1, 0, 1, 0, 0, 1, 1, 0, 0, 0] B60) = l} := by
  apply Subtype.mk
  dsimp only [opsOf, cAt, kids, B60, bodyOf, Tryd.f60, List.getD, List.getElem?_cons_zero, List.getElem?_cons_succ, Option.getD_some]
@[simp] theorem n60_17 (s : List V) (H : Heap) : evCode P Γ call n f m (cAt [1, 0, 1, 0, 0, 1, 1, 0, 0, 0] B60) s H = regNext (evOpsGo P Γ call r60_17.1 r60_17.1 s H) := at_region (by kernel_rfl) r60_17.2 s H
attribute [simp] r60_17
@[simp] theorem n60_18 (s : List V) (H : Heap) : evCode P Γ call n f m (cAt [1, 0, 1, 0, 0, 1, 1, 0, 0, 1] B60) s H = seqNext P Γ call n f m (cAt [1, 0, 1, 0, 0, 1, 1, 0, 0, 1, 1] B60) (evCode P Γ call n f m (cAt [1, 0, 1, 0, 0, 1, 1, 0, 0, 1, 0] B60) s H) := at_seq (by kernel_rfl) rfl rfl s H
noncomputable def r60_19 : {l : List Oper // opsOf (cAt [1, 0, 1, 0, 0, 1, 1, 0, 0, 1, 0] B60) = l} := by
  apply Subtype.mk
  dsimp only [opsOf, cAt, kids, B60, bodyOf, Tryd.f60, List.getD, List.getElem?_cons_zero, List.getElem?_cons_succ, Option.getD_some]
@[simp] theorem n60_19 (s : List V) (H : Heap) : evCode P Γ call n f m (cAt [1, 0, 1, 0, 0, 1, 1, 0, 0, 1, 0] B60) s H = regNext (evOpsGo P Γ call r60_19.1 r60_19.1 s H) := at_region (by kernel_rfl) r60_19.2 s H
attribute [simp] r60_19
@[simp] theorem n60_20 (s : List V) (H : Heap) : evCode P Γ call n f m (cAt [1, 0, 1, 0, 0, 1, 1, 0, 0, 1, 1] B60) s H = condW P Γ call n f m (cAt [1, 0, 1, 0, 0, 1, 1, 0, 0, 1, 1, 0] B60) (cAt [1, 0, 1, 0, 0, 1, 1, 0, 0, 1, 1, 1] B60) s H (evOperand Γ s (.tmp 16)) := at_cond (by kernel_rfl) (by kernel_rfl) rfl rfl s H
@[simp] theorem n60_21 (s : List V) (H : Heap) : evCode P Γ call n f m (cAt [1, 0, 1, 0, 0, 1, 1, 0, 0, 1, 1, 0] B60) s H = seqNext P Γ call n f m (cAt [1, 0, 1, 0, 0, 1, 1, 0, 0, 1, 1, 0, 1] B60) (evCode P Γ call n f m (cAt [1, 0, 1, 0, 0, 1, 1, 0, 0, 1, 1, 0, 0] B60) s H) := at_seq (by kernel_rfl) rfl rfl s H
noncomputable def r60_22 : {l : List Oper // opsOf (cAt [1, 0, 1, 0, 0, 1, 1, 0, 0, 1, 1, 0, 0] B60) = l} := by
  apply Subtype.mk
  dsimp only [opsOf, cAt, kids, B60, bodyOf, Tryd.f60, List.getD, List.getElem?_cons_zero, List.getElem?_cons_succ, Option.getD_some]
@[simp] theorem n60_22 (s : List V) (H : Heap) : evCode P Γ call n f m (cAt [1, 0, 1, 0, 0, 1, 1, 0, 0, 1, 1, 0, 0] B60) s H = regNext (evOpsGo P Γ call r60_22.1 r60_22.1 s H) := at_region (by kernel_rfl) r60_22.2 s H
attribute [simp] r60_22
@[simp] theorem n60_23 (s : List V) (H : Heap) : evCode P Γ call n f m (cAt [1, 0, 1, 0, 0, 1, 1, 0, 0, 1, 1, 0, 1] B60) s H = some (.ret, s, H) := at_ret (by kernel_rfl) s H
@[simp] theorem n60_24 (s : List V) (H : Heap) : evCode P Γ call n f m (cAt [1, 0, 1, 0, 0, 1, 1, 0, 0, 1, 1, 1] B60) s H = some (.normal, s, H) := at_skip (by kernel_rfl) s H
noncomputable def r60_25 : {l : List Oper // opsOf (cAt [1, 0, 1, 0, 0, 1, 1, 1] B60) = l} := by
  apply Subtype.mk
  dsimp only [opsOf, cAt, kids, B60, bodyOf, Tryd.f60, List.getD, List.getElem?_cons_zero, List.getElem?_cons_succ, Option.getD_some]
@[simp] theorem n60_25 (s : List V) (H : Heap) : evCode P Γ call n f m (cAt [1, 0, 1, 0, 0, 1, 1, 1] B60) s H = regNext (evOpsGo P Γ call r60_25.1 r60_25.1 s H) := at_region (by kernel_rfl) r60_25.2 s H
attribute [simp] r60_25
@[simp] theorem n60_26 (s : List V) (H : Heap) : evCode P Γ call n f m (cAt [1, 1] B60) s H = seqNext P Γ call n f m (cAt [1, 1, 1] B60) (evCode P Γ call n f m (cAt [1, 1, 0] B60) s H) := at_seq (by kernel_rfl) rfl rfl s H
noncomputable def r60_27 : {l : List Oper // opsOf (cAt [1, 1, 0] B60) = l} := by
  apply Subtype.mk
  dsimp only [opsOf, cAt, kids, B60, bodyOf, Tryd.f60, List.getD, List.getElem?_cons_zero, List.getElem?_cons_succ, Option.getD_some]
@[simp] theorem n60_27 (s : List V) (H : Heap) : evCode P Γ call n f m (cAt [1, 1, 0] B60) s H = regNext (evOpsGo P Γ call r60_27.1 r60_27.1 s H) := at_region (by kernel_rfl) r60_27.2 s H
attribute [simp] r60_27
@[simp] theorem n60_28 (s : List V) (H : Heap) : evCode P Γ call n f m (cAt [1, 1, 1] B60) s H = some (.ret, s, H) := at_ret (by kernel_rfl) s H
theorem b60 {k : Nat} (ho : ∀ args H, Γ.orc 60 args H = none) (args : List V) (H : Heap) (ha : args.length ≤ 19) : evF Tryd.prog Γ (k + 1) 60 args H = bodyEnd Tryd.prog [.tmp 4] H.length (evCode Tryd.prog Γ (evF Tryd.prog Γ k) k 60 H.length (cAt [] B60) (mkL 19 V.undef (enumV 0 args)) H) := body_at Tryd.func60 (by decide) rfl ho rfl rfl args H ha
noncomputable def B61 : Code := bodyOf Tryd.f61
@[simp] theorem n61_1 (s : List V) (H : Heap) : evCode P Γ call n f m (cAt [] B61) s H = seqNext P Γ call n f m (cAt [1] B61) (evCode P Γ call n f m (cAt [0] B61) s H) := at_seq (by kernel_rfl) rfl rfl s H
noncomputable def r61_2 : {l : List Oper // opsOf (cAt [0] B61) = l} := by
  apply Subtype.mk
  dsimp only [opsOf, cAt, kids, B61, bodyOf, Tryd.f61, List.getD, List.getElem?_cons_zero, List.getElem?_cons_succ, Option.getD_some]
@[simp] theorem n61_2 (s : List V) (H : Heap) : evCode P Γ call n f m (cAt [0] B61) s H = regNext (evOpsGo P Γ call r61_2.1 r61_2.1 s H) := at_region (by kernel_rfl) r61_2.2 s H
attribute [simp] r61_2
@[simp] theorem n61_3 (s : List V) (H : Heap) : evCode P Γ call n f m (cAt [1] B61) s H = seqNext P Γ call n f m (cAt [1, 1] B61) (evCode P Γ call n f m (cAt [1, 0] B61) s H) := at_seq (by kernel_rfl) rfl rfl s H
noncomputable def r61_4 : {l : List Oper // opsOf (cAt [1, 0] B61) = l} := by
  apply Subtype.mk
  dsimp only [opsOf, cAt, kids, B61, bodyOf, Tryd.f61, List.getD, List.getElem?_cons_zero, List.getElem?_cons_succ, Option.getD_some]
@[simp] theorem n61_4 (s : List V) (H : Heap) : evCode P Γ call n f m (cAt [1, 0] B61) s H = regNext (evOpsGo P Γ call r61_4.1 r61_4.1 s H) := at_region (by kernel_rfl) r61_4.2 s H
attribute [simp] r61_4
@[simp] theorem n61_5 (s : List V) (H : Heap) : evCode P Γ call n f m (cAt [1, 1] B61) s H = some (.ret, s, H) := at_ret (by kernel_rfl) s H
theorem b61 {k : Nat} (ho : ∀ args H, Γ.orc 61 args H = none) (args : List V) (H : Heap) (ha : args.length ≤ 9) : evF Tryd.prog Γ (k + 1) 61 args H = bodyEnd Tryd.prog [.tmp 4] H.length (evCode Tryd.prog Γ (evF Tryd.prog Γ k) k 61 H.length (cAt [] B61) (mkL 9 V.undef (enumV 0 args)) H) := body_at Tryd.func61 (by decide) rfl ho rfl rfl args H ha
noncomputable def B62 : Code := bodyOf Tryd.f62
@[simp] theorem n62_1 (s : List V) (H : Heap) : evCode P Γ call n f m (cAt [] B62) s H = seqNext P Γ call n f m (cAt [1] B62) (evCode P Γ call n f m (cAt [0] B62) s H) := at_seq (by kernel_rfl) rfl rfl s H
noncomputable def r62_2 : {l : List Oper // opsOf (cAt [0] B62) = l} := by
  apply Subtype.mk
  dsimp only [opsOf, cAt, kids, B62, bodyOf, Tryd.f62, List.getD, List.getElem?_cons_zero, List.getElem?_cons_succ, Option.getD_some]
@[simp] theorem n62_2 (s : List V) (H : Heap) : evCode P Γ call n f m (cAt [0] B62) s H = regNext (evOpsGo P Γ call r62_2.1 r62_2.1 s H) := at_region (by kernel_rfl) r62_2.2 s H
attribute [simp] r62_2
@[simp] theorem n62_3 (s : List V) (H : Heap) : evCode P Γ call n f m (cAt [1] B62) s H = seqNext P Γ call n f m (cAt [1, 1] B62) (evCode P Γ call n f m (cAt [1, 0] B62) s H) := at_seq (by kernel_rfl) rfl rfl s H
noncomputable def r62_4 : {l : List Oper // opsOf (cAt [1, 0] B62) = l} := by
  apply Subtype.mk
  dsimp only [opsOf, cAt, kids, B62, bodyOf, Tryd.f62, List.getD, List.getElem?_cons_zero, List.getElem?_cons_succ, Option.getD_some]
@[simp] theorem n62_4 (s : List V) (H : Heap) : evCode P Γ call n f m (cAt [1, 0] B62) s H = regNext (evOpsGo P Γ call r62_4.1 r62_4.1 s H) := at_region (by kernel_rfl) r62_4.2 s H
attribute [simp] r62_4
@[simp] theorem n62_5 (s : List V) (H : Heap) : evCode P Γ call n f m (cAt [1, 1] B62) s H = some (.ret, s, H) := at_ret (by kernel_rfl) s H
theorem b62 {k : Nat} (ho : ∀ args H, Γ.orc 62 args H = none) (args : List V) (H : Heap) (ha : args.length ≤ 7) : evF Tryd.prog Γ (k + 1) 62 args H = bodyEnd Tryd.prog [.tmp 3] H.length (evCode Tryd.prog Γ (evF Tryd.prog Γ k) k 62 H.length (cAt [] B62) (mkL 7 V.undef (enumV 0 args)) H) := body_at Tryd.func62 (by decide) rfl ho rfl rfl args H ha
noncomputable def B63 : Code := bodyOf Tryd.f63
@[simp] theorem n63_1 (s : List V) (H : Heap) : evCode P Γ call n f m (cAt [] B63) s H = seqNext P Γ call n f m (cAt [1] B63) (evCode P Γ call n f m (cAt [0] B63) s H) := at_seq (by kernel_rfl) rfl rfl s H
noncomputable def r63_2 : {l : List Oper // opsOf (cAt [0] B63) = l} := by
  apply Subtype.mk
  dsimp only [opsOf, cAt, kids, B63, bodyOf, Tryd.f63, List.getD, List.getElem?_cons_zero, List.getElem?_cons_succ, Option.getD_some]
@[simp] theorem n63_2 (s : List V) (H : Heap) : evCode P Γ call n f m (cAt [0] B63) s H = regNext (evOpsGo P Γ call r63_2.1 r63_2.1 s H) := at_region (by kernel_rfl) r63_2.2 s H
attribute [simp] r63_2
@[simp] theorem n63_3 (s : List V) (H : Heap) : evCode P Γ call n f m (cAt [1] B63) s H = seqNext P Γ call n f m (cAt [1, 1] B63) (evCode P Γ call n f m (cAt [1, 0] B63) s H) := at_seq (by kernel_rfl) rfl rfl s H
noncomputable def r63_4 : {l : List Oper // opsOf (cAt [1, 0] B63) = l} := by
  apply Subtype.mk
  dsimp only [opsOf, cAt, kids, B63, bodyOf, Tryd.f63, List.getD, List.getElem?_cons_zero, List.getElem?_cons_succ, Option.getD_some]
@[simp] theorem n63_4 (s : List V) (H : Heap) : evCode P Γ call n f m (cAt [1, 0] B63) s H = regNext (evOpsGo P Γ call r63_4.1 r63_4.1 s H) := at_region (by kernel_rfl) r63_4.2 s H
attribute [simp] r63_4
@[simp] theorem n63_5 (s : List V) (H : Heap) : evCode P Γ call n f m (cAt [1, 1] B63) s H = some (.ret, s, H) := at_ret (by kernel_rfl) s H
theorem b63 {k : Nat} (ho : ∀ args H, Γ.orc 63 args H = none) (args : List V) (H : Heap) (ha : args.length ≤ 7) : evF Tryd.prog Γ (k + 1) 63 args H = bodyEnd Tryd.prog [.tmp 3] H.length (evCode Tryd.prog Γ (evF Tryd.prog Γ k) k 63 H.length (cAt [] B63) (mkL 7 V.undef (enumV 0 args)) H) := body_at Tryd.func63 (by decide) rfl ho rfl rfl args H ha
noncomputable def B64 : Code := bodyOf Tryd.f64
@[simp] theorem n64_1 (s : List V) (H : Heap) : evCode P Γ call n f m (cAt [] B64) s H = seqNext P Γ call n f m (cAt [1] B64) (evCode P Γ call n f m (cAt [0] B64) s H) := at_seq (by kernel_rfl) rfl rfl s H
noncomputable def r64_2 : {l : List Oper // opsOf (cAt [0] B64) = l} := by
  apply Subtype.mk
  dsimp only [opsOf, cAt, kids, B64, bodyOf, Tryd.f64, List.getD, List.getElem?_cons_zero, List.getElem?_cons_succ, Option.getD_some]
@[simp] theorem n64_2 (s : List V) (H : Heap) : evCode P Γ call n f m (cAt [0] B64) s H = regNext (evOpsGo P Γ call r64_2.1 r64_2.1 s H) := at_region (by kernel_rfl) r64_2.2 s H
attribute [simp] r64_2
@[simp] theorem n64_3 (s : List V) (H : Heap) : evCode P Γ call n f m (cAt [1] B64) s H = seqNext P Γ call n f m (cAt [1, 1] B64) (evCode P Γ call n f m (cAt [1, 0] B64) s H) := at_seq (by kernel_rfl) rfl rfl s H
@[simp] theorem n64_4 (s : List V) (H : Heap) : evCode P Γ call n f m (cAt [1, 0] B64) s H = seqNext P Γ call n f m (cAt [1, 0, 1] B64) (evCode P Γ call n f m (cAt [1, 0, 0] B64) s H) := at_seq (by kernel_rfl) rfl rfl s H
noncomputable def r64_5 : {l : List Oper // opsOf (cAt [1, 0, 0] B64) = l} := by
  apply Subtype.mk
  dsimp only [opsOf, cAt, kids, B64, bodyOf, Tryd.f64, List.getD, List.getElem?_cons_zero, List.getElem?_cons_succ, Option.getD_some]
@[simp] theorem n64_5 (s : List V) (H : Heap) : evCode P Γ call n f m (cAt [1, 0, 0] B64) s H = regNext (evOpsGo P Γ call r64_5.1 r64_5.1 s H) := at_region (by kernel_rfl) r64_5.2 s H
attribute [simp] r64_5
@[simp] theorem n64_6 (s : List V) (H : Heap) : evCode P Γ call n f m (cAt [1, 0, 1] B64) s H = condW P Γ call n f m (cAt [1, 0, 1, 0] B64) (cAt [1, 0, 1, 1] B64) s H (evOperand Γ s (.tmp 9)) := at_cond (by kernel_rfl) (by kernel_rfl) rfl rfl s H
noncomputable def r64_7 : {l : List Oper // opsOf (cAt [1, 0, 1, 0] B64) = l} := by
  apply Subtype.mk
  dsimp only [opsOf, cAt, kids, B64, bodyOf, Tryd.f64, List.getD, List.getElem?_cons_zero, List.getElem?_cons_succ, Option.getD_some]
@[simp] theorem n64_7 (s : List V) (H : Heap) : evCode P Γ call n f m (cAt [1, 0, 1, 0] B64) s H = regNext (evOpsGo P Γ call r64_7.1 r64_7.1 s H) := at_region (by kernel_rfl) r64_7.2 s H
attribute [simp] r64_7
@[simp] theorem n64_8 (s : List V) (H : Heap) : evCode P Γ call n f m (cAt [1, 0, 1, 1] B64) s H = some (.normal, s, H) := at_skip (by kernel_rfl) s H
@[simp] theorem n64_9 (s : List V) (H : Heap) : evCode P Γ call n f m (cAt [1, 1] B64) s H = seqNext P Γ call n f m (cAt [1, 1, 1] B64) (evCode P Γ call n f m (cAt [1, 1, 0] B64) s H) := at_seq (by kernel_rfl) rfl rfl s H
noncomputable def r64_10 : {l : List Oper // opsOf (cAt [1, 1, 0] B64) = l} := by
  apply Subtype.mk
  dsimp only [opsOf, cAt, kids, B64, bodyOf, Tryd.f64, List.getD, List.getElem?_cons_zero, List.getElem?_cons_succ, Option.getD_some]
@[simp] theorem n64_10 (s : List V) (H : Heap) : evCode P Γ call n f m (cAt [1, 1, 0] B64) s H = regNext (evOpsGo P Γ call r64_10.1 r64_10.1 s H) := at_region (by kernel_rfl) r64_10.2 s H
attribute [simp] r64_10
@[simp] theorem n64_11 (s : List V) (H : Heap) : evCode P Γ call n f m (cAt [1, 1, 1] B64) s H = some (.ret, s, H) := at_ret (by kernel_rfl) s H
theorem b64 {k : Nat} (ho : ∀ args H, Γ.orc 64 args H = none) (args : List V) (H : Heap) (ha : args.length ≤ 33) : evF Tryd.prog Γ (k + 1) 64 args H = bodyEnd Tryd.prog [.tmp 4] H.length (evCode Tryd.prog Γ (evF Tryd.prog Γ k) k 64 H.length (cAt [] B64) (mkL 33 V.undef (enumV 0 args)) H) := body_at Tryd.func64 (by decide) rfl ho rfl rfl args H ha
noncomputable def B65 : Code := bodyOf Tryd.f65
@[simp] theorem n65_1 (s : List V) (H : Heap) : evCode P Γ call n f m (cAt [] B65) s H = seqNext P Γ call n f m (cAt [1] B65) (evCode P Γ call n f m (cAt [0] B65) s H) := at_seq (by kernel_rfl) rfl rfl s H
noncomputable def r65_2 : {l : List Oper // opsOf (cAt [0] B65) = l} := by
  apply Subtype.mk
  dsimp only [opsOf, cAt, kids, B65, bodyOf, Tryd.f65, List.getD, List.getElem?_cons_zero, List.getElem?_cons_succ, Option.getD_some]
@[simp] theorem n65_2 (s : List V) (H : Heap) : evCode P Γ call n f m (cAt [0] B65) s H = regNext (evOpsGo P Γ call r65_2.1 r65_2.1 s H) := at_region (by kernel_rfl) r65_2.2 s H
attribute [simp] r65_2
@[simp] theorem n65_3 (s : List V) (H : Heap) : evCode P Γ call n f m (cAt [1] B65) s H = seqNext P Γ call n f m (cAt [1, 1] B65) (evCode P Γ call n f m (cAt [1, 0] B65) s H) := at_seq (by kernel_rfl) rfl rfl s H
@[simp] theorem n65_4 (s : List V) (H : Heap) : evCode P Γ call n f m (cAt [1, 0] B65) s H = seqNext P Γ call n f m (cAt [1, 0, 1] B65) (evCode P Γ call n f m (cAt [1, 0, 0] B65) s H) := at_seq (by kernel_rfl) rfl rfl s H
noncomputable def r65_5 : {l : List Oper // opsOf (cAt [1, 0, 0] B65) = l} := by
  apply Subtype.mk
  dsimp only [opsOf, cAt, kids, B65, bodyOf, Tryd.f65, List.getD, List.getElem?_cons_zero, List.getElem?_cons_succ, Option.getD_some]
@[simp] theorem n65_5 (s : List V) (H : Heap) : evCode P Γ call n f m (cAt [1, 0, 0] B65) s H = regNext (evOpsGo P Γ call r65_5.1 r65_5.1 s H) := at_region (by kernel_rfl) r65_5.2 s H
attribute [simp] r65_5
@[simp] theorem n65_6 (s : List V) (H : Heap) : evCode P Γ call n f m (cAt [1, 0, 1] B65) s H = condW P Γ call n f m (cAt [1, 0, 1, 0] B65) (cAt [1, 0, 1, 1] B65) s H (evOperand Γ s (.tmp 13)) := at_cond (by kernel_rfl) (by kernel_rfl) rfl rfl s H
@[simp] theorem n65_7 (s : List V) (H : Heap) : evCode P Γ call n f m (cAt [1, 0, 1, 0] B65) s H = seqNext P Γ call n f m (cAt [1, 0, 1, 0, 1] B65) (evCode P Γ call n f m (cAt [1, 0, 1, 0, 0] B65) s H) := at_seq (by kernel_rfl) rfl rfl s H
noncomputable def r65_8 : {l : List Oper // opsOf (cAt [1, 0, 1, 0, 0] B65) = l} := by
  apply Subtype.mk
  dsimp only [opsOf, cAt, kids, B65, bodyOf, Tryd.f65, List.getD, List.getElem?_cons_zero, List.getElem?_cons_succ, Option.getD_some]
@[simp] theorem n65_8 (s : List V) (H : Heap) : evCode P Γ call n f m (cAt [1, 0, 1, 0, 0] B65) s H = regNext (evOpsGo P Γ call r65_8.1 r65_8.1 s H) := at_region (by kernel_rfl) r65_8.2 s H
attribute [simp] r65_8
@[simp] theorem n65_9 (s : List V) (H : Heap) : evCode P Γ call n f m (cAt [1, 0, 1, 0, 1] B65) s H = some (.ret, s, H) := at_ret (by kernel_rfl) s H
@[simp] theorem n65_10 (s : List V) (H : Heap) : evCode P Γ call n f m (cAt [1, 0, 1, 1] B65) s H = some (.normal, s, H) := at_skip (by kernel_rfl) s H
@[simp] theorem n65_11 (s : List V) (H : Heap) : evCode P Γ call n f m (cAt [1, 1] B65) s H = seqNext P Γ call n f m (cAt [1, 1, 1] B65) (evCode P Γ call n f m (cAt [1, 1, 0] B65) s H) := at_seq (by kernel_rfl) rfl rfl s H
@[simp] theorem n65_12 (s : List V) (H : Heap) : evCode P Γ call n f m (cAt [1, 1, 0] B65) s H = seqNext P Γ call n f m (cAt [1, 1, 0, 1] B65) (evCode P Γ call n f m (cAt [1, 1, 0, 0] B65) s H) := at_seq (by kernel_rfl) rfl rfl s H
noncomputable def r65_13 : {l : List Oper // opsOf (cAt [1, 1, 0, 0] B65) = l} := by
  apply Subtype.mk
  dsimp only [opsOf, cAt, kids, B65, bodyOf, Tryd.f65, List.getD, List.getElem?_cons_zero, List.getElem?_cons_succ, Option.getD_some]
@[simp] theorem n65_13 (s : List V) (H : Heap) : evCode P Γ call n f m (cAt [1, 1, 0, 0] B65) s H = regNext (evOpsGo P Γ call r65_13.1 r65_13.1 s H) := at_region (by kernel_rfl) r65_13.2 s H
attribute [simp] r65_13
@[simp] theorem n65_14 (s : List V) (H : Heap) : evCode P Γ call n f m (cAt [1, 1, 0, 1] B65) s H = condW P Γ call n f m (cAt [1, 1, 0, 1, 0] B65) (cAt [1, 1, 0, 1, 1] B65) s H (evOperand Γ s (.tmp 15)) := at_cond (by kernel_rfl) (by kernel_rfl) rfl rfl s H
@[simp] theorem n65_15 (s : List V) (H : Heap) : evCode P Γ call n f m (cAt [1, 1, 0, 1, 0] B65) s H = seqNext P Γ call n f m (cAt [1, 1, 0, 1, 0, 1] B65) (evCode P Γ call n f m (cAt [1, 1, 0, 1, 0, 0] B65) s H) := at_seq (by kernel_rfl) rfl rfl s H
noncomputable def r65_16 : {l : List Oper // opsOf (cAt [1, 1, 0, 1, 0, 0] B65) = l} := by
  apply Subtype.mk
  dsimp only [opsOf, cAt, kids, B65, bodyOf, Tryd.f65, List.getD, List.getElem?_cons_zero, List.getElem?_cons_succ, Option.getD_some]
@[simp] theorem n65_16 (s : List V) (H : Heap) : evCode P Γ call n f m (cAt [1, 1, 0, 1, 0, 0] B65) s H = regNext (evOpsGo P Γ call r65_16.1 r65_16.1 s H) := at_region (by kernel_rfl) r65_16.2 s H
attribute [simp] r65_16
@[simp] theorem n65_17 (s : List V) (H : Heap) : evCode P Γ call n f m (cAt [1, 1, 0, 1, 0, 1] B65) s H = some (.ret, s, H) := at_ret (by kernel_rfl) s H
@[simp] theorem n65_18 (s : List V) (H : Heap) : evCode P Γ call n f m (cAt [1, 1, 0, 1, 1] B65) s H = some (.normal, s, H) := at_skip (by kernel_rfl) s H
@[simp] theorem n65_19 (s : List V) (H : Heap) : evCode P Γ call n f m (cAt [1, 1, 1] B65) s H = seqNext P Γ call n f m (cAt [1, 1, 1, 1] B65) (evCode P Γ call n f m (cAt [1, 1, 1, 0] B65) s H) := at_seq (by kernel_rfl) rfl rfl s H
@[simp] theorem n65_20 (s : List V) (H : Heap) : evCode P Γ call n f m (cAt [1, 1, 1, 0] B65) s H = seqNext P Γ call n f m (cAt [1, 1, 1, 0, 1] B65) (evCode P Γ call n f m (cAt [1, 1, 1, 0, 0] B65) s H) := at_seq (by kernel_rfl) rfl rfl s H
noncomputable def r65_21 : {l : List Oper // opsOf (cAt [1, 1, 1, 0, 0] B65) = l} := by
  apply Subtype.mk
  dsimp only [opsOf, cAt, kids, B65, bodyOf, Tryd.f65, List.getD, List.getElem?_cons_zero, List.getElem?_cons_succ, Option.getD_some]
@[simp] theorem n65_21 (s : List V) (H : Heap) : evCode P Γ call n f m (cAt [1, 1, 1, 0, 0] B65) s H = regNext (evOpsGo P Γ call r65_21.1 r65_21.1 s H) := at_region (by kernel_rfl) r65_21.2 s H
attribute [simp] r65_21
@[simp] theorem n65_22 (s : List V) (H : Heap) : evCode P Γ call n f m (cAt [1, 1, 1, 0, 1] B65) s H = condW P Γ call n f m (cAt [1, 1, 1, 0, 1, 0] B65) (cAt [1, 1, 1, 0, 1, 1] B65) s H (evOperand Γ s (.tmp 20)) := at_cond (by kernel_rfl) (by kernel_rfl) rfl rfl s H
noncomputable def r65_23 : {l : List Oper // opsOf (cAt [1, 1, 1, 0, 1, 0] B65) = l} := by
  apply Subtype.mk
  dsimp only [opsOf, cAt, kids, B65, bodyOf, Tryd.f65, List.getD, List.getElem?_cons_zero, List.getElem?_cons_succ, Option.getD_some]
@[simp] theorem n65_23 (s : List V) (H : Heap) : evCode P Γ call n f m (cAt [1, 1, 1, 0, 1, 0] B65) s H = regNext (evOpsGo P Γ call r65_23.1 r65_23.1 s H) := at_region (by kernel_rfl) r65_23.2 s H
attribute [simp] r65_23
@[simp] theorem n65_24 (s : List V) (H : Heap) : evCode P Γ call n f m (cAt [1, 1, 1, 0, 1, 1] B65) s H = some (.normal, s, H) := at_skip (by kernel_rfl) s H
@[simp] theorem n65_25 (s : List V) (H : Heap) : evCode P Γ call n f m (cAt [1, 1, 1, 1] B65) s H = seqNext P Γ call n f m (cAt [1, 1, 1, 1, 1] B65) (evCode P Γ call n f m (cAt [1, 1, 1, 1, 0] B65) s H) := at_seq (by kernel_rfl) rfl rfl s H
noncomputable def r65_26 : {l : List Oper // opsOf (cAt [1, 1, 1, 1, 0] B65) = l} := by
  apply Subtype.mk
  dsimp only [opsOf, cAt, kids, B65, bodyOf, Tryd.f65, List.getD, List.getElem?_cons_zero, List.getElem?_cons_succ, Option.getD_some]
@[simp] theorem n65_26 (s : List V) (H : Heap) : evCode P Γ call n f m (cAt [1, 1, 1, 1, 0] B65) s H = regNext (evOpsGo P Γ call r65_26.1 r65_26.1 s H) := at_region (by kernel_rfl) r65_26.2 s H
attribute [simp] r65_26
@[simp] theorem n65_27 (s : List V) (H : Heap) : evCode P Γ call n f m (cAt [1, 1, 1, 1, 1] B65) s H = seqNext P Γ call n f m (cAt [1, 1, 1, 1, 1, 1] B65) (evCode P Γ call n f m (cAt [1, 1, 1, 1, 1, 0] B65) s H) := at_seq (by kernel_rfl) rfl rfl s H
noncomputable def r65_28 : {l : List Oper // opsOf (cAt [1, 1, 1, 1, 1, 0] B65) = l} := by
  apply Subtype.mk
  dsimp only [opsOf, cAt, kids, B65, bodyOf, Tryd.f65, List.getD, List.getElem?_cons_zero, List.getElem?_cons_succ, Option.getD_some]
@[simp] theorem n65_28 (s : List V) (H : Heap) : evCode P Γ call n f m (cAt [1, 1, 1, 1, 1, 0] B65) s H = regNext (evOpsGo P Γ call r65_28.1 r65_28.1 s H) := at_region (by kernel_rfl) r65_28.2 s H
attribute [simp] r65_28
@[simp] theorem n65_29 (s : List V) (H : Heap) : evCode P Γ call n f m (cAt [1, 1, 1, 1, 1, 1] B65) s H = seqNext P Γ call n f m (cAt [1, 1, 1, 1, 1, 1, 1] B65) (evCode P Γ call n f m (cAt [1, 1, 1, 1, 1, 1, 0] B65) s H) := at_seq (by kernel_rfl) rfl rfl s H
noncomputable def r65_30 : {l : List Oper // opsOf (cAt [1, 1, 1, 1, 1, 1, 0] B65) = l} := by
  apply Subtype.mk
  dsimp only [opsOf, cAt, kids, B65, bodyOf, Tryd.f65, List.getD, List.getElem?_cons_zero, List.getElem?_cons_succ, Option.getD_some]
@[simp] theorem n65_30 (s : List V) (H : Heap) : evCode P Γ call n f m (cAt [1, 1, 1, 1, 1, 1, 0] B65) s H = regNext (evOpsGo P Γ call r65_30.1 r65_30.1 s H) := at_region (by kernel_rfl) r65_30.2 s H
attribute [simp] r65_30
@[simp] theorem n65_31 (s : List V) (H : Heap) : evCode P Γ call n f m (cAt [1, 1, 1, 1, 1, 1, 1] B65) s H = seqNext P Γ call n f m (cAt [1, 1, 1, 1, 1, 1, 1, 1] B65) (evCode P Γ call n f m (cAt [1, 1, 1, 1, 1, 1, 1, 0] B65) s H) := at_seq (by kernel_rfl) rfl rfl s H
noncomputable def r65_32 : {l : List Oper // opsOf (cAt [1, 1, 1, 1, 1, 1, 1, 0] B65) = l} := by
  apply Subtype.mk
  dsimp only [opsOf, cAt, kids, B65, bodyOf, Tryd.f65, List.getD, List.getElem?_cons_zero, List.getElem?_cons_succ, Option.getD_some]
@[simp] theorem n65_32 (s : List V) (H : Heap) : evCode P Γ call n f m (cAt [1, 1, 1, 1, 1, 1, 1, 0] B65) s H = regNext (evOpsGo P Γ call r65_32.1 r65_32.1 s H) := at_region (by kernel_rfl) r65_32.2 s H
attribute [simp] r65_32
@[simp] theorem n65_33 (s : List V) (H : Heap) : evCode P Γ call n f m (cAt [1, 1, 1, 1, 1, 1, 1, 1] B65) s H = seqNext P Γ call n f m (cAt [1, 1, 1, 1, 1, 1, 1, 1, 1] B65) (evCode P Γ call n f m (cAt [1, 1, 1, 1, 1, 1, 1, 1, 0] B65) s H) := at_seq (by kernel_rfl) rfl rfl s H
@[simp] theorem n65_34 (s : List V) (H : Heap) : evCode P Γ call n f m (cAt [1, 1, 1, 1, 1, 1, 1, 1, 0] B65) s H = blockNext 0 (evCode P Γ call n f m (cAt [1, 1, 1, 1, 1, 1, 1, 1, 0, 0] B65) s H) := at_block (by kernel_rfl) rfl s H
@[simp] theorem n65_35 (s : List V) (H : Heap) : evCode P Γ call n f m (cAt [1, 1, 1, 1, 1, 1, 1, 1, 0, 0] B65) s H = evLoopC P Γ call n f m (cAt [1, 1, 1, 1, 1, 1, 1, 1, 0, 0, 0] B65) n s H := at_loop (by kernel_rfl) rfl s H
noncomputable abbrev L65_11 : Code := cAt [1, 1, 1, 1, 1, 1, 1, 1, 0, 0, 0] B65
@[simp] theorem n65_35f : firstRegion (cAt [1, 1, 1, 1, 1, 1, 1, 1, 0, 0, 0] B65) = 11 := by kernel_rfl
@[simp] theorem n65_36 (s : List V) (H : Heap) : evCode P Γ call n f m (cAt [1, 1, 1, 1, 1, 1, 1, 1, 0, 0, 0] B65) s H = seqNext P Γ call n f m (cAt [1, 1, 1, 1, 1, 1, 1, 1, 0, 0, 0, 1] B65) (evCode P Γ call n f m (cAt [1, 1, 1, 1, 1, 1, 1, 1, 0, 0, 0, 0] B65) s H) := at_seq (by kernel_rfl) rfl rfl s H
@[simp] theorem n65_37 (s : List V) (H : Heap) : evCode P Γ call n f m (cAt [1, 1, 1, 1, 1, 1, 1, 1, 0, 0, 0, 0] B65) s H = seqNext P Γ call n f m (cAt [1, 1, 1, 1, 1, 1, 1, 1, 0, 0, 0, 0, 1] B65) (evCode P Γ call n f m (cAt [1, 1, 1, 1, 1, 1, 1, 1, 0, 0, 0, 0, 0] B65) s H) := at_seq (by kernel_rfl) rfl rfl s H
noncomputable def r65_38 : {l : List Oper // opsOf (cAt [1, 1, 1, 1, 1, 1, 1, 1, 0, 0, 0, 0, 0] B65) = l} := by
  apply Subtype.mk
  dsimp only [opsOf, cAt, kids, B65, bodyOf, Tryd.f65, List.getD, List.getElem?_cons_zero, List.getElem?_cons_succ, Option.getD_some]
@[simp] theorem n65_38 (s : List V) (H : Heap) : evCode P Γ call n f m (cAt [1, 1, 1, 1, 1, 1, 1, 1, 0, 0, 0, 0, 0] B65) s H = regNext (evOpsGo P Γ call r65_38.1 r65_38.1 s H) := at_region (by kernel_rfl) r65_38.2 s H
attribute [simp] r65_38
@[simp] theorem n65_39 (s : List V) (H : Heap) : evCode P Γ call n f m (cAt [1, 1, 1, 1, 1, 1, 1, 1, 0, 0, 0, 0, 1] B65) s H = condW P Γ call n f m (cAt [1, 1, 1, 1, 1, 1, 1, 1, 0, 0, 0, 0, 1, 0] B65) (cAt [1, 1, 1, 1, 1, 1, 1, 1, 0, 0, 0, 0, 1, 1] B65) s H (evOperand Γ s (.tmp 36)) := at_cond (by kernel_rfl) (by kernel_rfl) rfl rfl s H
@[simp] theorem n65_40 (s : List V) (H : Heap) : evCode P Γ call n f m (cAt [1, 1, 1, 1, 1, 1, 1, 1, 0, 0, 0, 0, 1, 0] B65) s H = some (.normal, s, H) := at_skip (by kernel_rfl) s H
@[simp] theorem n65_41 (s : List V) (H : Heap) : evCode P Γ call n f m (cAt [1, 1, 1, 1, 1, 1, 1, 1, 0, 0, 0, 0, 1, 1] B65) s H = some (.exit 0, s, H) := at_exit (by kernel_rfl) s H
@[simp] theorem n65_42 (s : List V) (H : Heap) : evCode P Γ call n f m (cAt [1, 1, 1, 1, 1, 1, 1, 1, 0, 0, 0, 1] B65) s H = blockNext 1 (evCode P Γ call n f m (cAt [1, 1, 1, 1, 1, 1, 1, 1, 0, 0, 0, 1, 0] B65) s H) := at_block (by kernel_rfl) rfl s H
@[simp] theorem n65_43 (s : List V) (H : Heap) : evCode P Γ call n f m (cAt [1, 1, 1, 1, 1, 1, 1, 1, 0, 0, 0, 1, 0] B65) s H = seqNext P Γ call n f m (cAt [1, 1, 1, 1, 1, 1, 1, 1, 0, 0, 0, 1, 0, 1] B65) (evCode P Γ call n f m (cAt [1, 1, 1, 1, 1, 1, 1, 1, 0, 0, 0, 1, 0, 0] B65) s H) := at_seq (by kernel_rfl) rfl rfl s H
noncomputable def r65_44 : {l : List Oper // opsOf (cAt [1, 1, 1, 1, 1, 1, 1, 1, 0, 0, 0, 1, 0, 0] B65) = l} := by
  apply Subtype.mk
  dsimp only [opsOf, cAt, kids, B65, bodyOf, Tryd.f65, List.getD, List.getElem?_cons_zero, List.getElem?_cons_succ, Option.getD_some]
@[simp] theorem n65_44 (s : List V) (H : Heap) : evCode P Γ call n f m (cAt [1, 1, 1, 1, 1, 1, 1, 1, 0, 0, 0, 1, 0, 0] B65) s H = regNext (evOpsGo P Γ call r65_44.1 r65_44.1 s H) := at_region (by kernel_rfl) r65_44.2 s H
attribute [simp] r65_44
@[simp] theorem n65_45 (s : List V) (H : Heap) : evCode P Γ call n f m (cAt [1, 1, 1, 1, 1, 1, 1, 1, 0, 0, 0, 1, 0, 1] B65) s H = seqNext P Γ call n f m (cAt [1, 1, 1, 1, 1, 1, 1, 1, 0, 0, 0, 1, 0, 1, 1] B65) (evCode P Γ call n f m (cAt [1, 1, 1, 1, 1, 1, 1, 1, 0, 0, 0, 1, 0, 1, 0] B65) s H) := at_seq (by kernel_rfl) rfl rfl s H
@[simp] theorem n65_46 (s : List V) (H : Heap) : evCode P Γ call n f m (cAt [1, 1, 1, 1, 1, 1, 1, 1, 0, 0, 0, 1, 0, 1, 0] B65) s H = seqNext P Γ call n f m (cAt [1, 1, 1, 1, 1, 1, 1, 1, 0, 0, 0, 1, 0, 1, 0, 1] B65) (evCode P Γ call n f m (cAt [1, 1, 1, 1, 1, 1, 1, 1, 0, 0, 0, 1, 0, 1, 0, 0] B65) s H) := at_seq (by kernel_rfl) rfl rfl s H
noncomputable def r65_47 : {l : List Oper // opsOf (cAt [1, 1, 1, 1, 1, 1, 1, 1, 0, 0, 0, 1, 0, 1, 0, 0] B65) = l} := by
  apply Subtype.mk
  dsimp only [opsOf, cAt, kids, B65, bodyOf, Tryd.f65, List.getD, List.getElem?_cons_zero, List.getElem?_cons_succ, Option.getD_some]
@[simp] theorem n65_47 (s : List V) (H : Heap) : evCode P Γ call n f m (cAt [1, 1, 1, 1, 1, 1, 1, 1, 0, 0, 0, 1, 0, 1, 0, 0] B65) s H = regNext (evOpsGo P Γ call r65_47.1 r65_47.1 s H) := at_region (by kernel_rfl) r65_47.2 s H
attribute [simp] r65_47
@[simp] theorem n65_48 (s : List V) (H : Heap) : evCode P Γ call n f m (cAt [1, 1, 1, 1, 1, 1, 1, 1, 0, 0, 0, 1, 0, 1, 0, 1] B65) s H = condW P Γ call n f m (cAt [1, 1, 1, 1, 1, 1, 1, 1, 0, 0, 0, 1, 0, 1, 0, 1, 0] B65) (cAt [1, 1, 1, 1, 1, 1, 1, 1, 0, 0, 0, 1, 0, 1, 0, 1, 1] B65) s H (evOperand Γ s (.tmp 41)) := at_cond (by kernel_rfl) (by kernel_rfl) rfl rfl s H
@[simp] theorem n65_49 (s : List V) (H : Heap) : evCode P Γ call n f m (cAt [1, 1, 1, 1, 1, 1, 1, 1, 0, 0, 0, 1, 0, 1, 0, 1, 0] B65) s H = some (.exit 0, s, H) := at_exit (by kernel_rfl) s H
@[simp] theorem n65_50 (s : List V) (H : Heap) : evCode P Γ call n f m (cAt [1, 1, 1, 1, 1, 1, 1, 1, 0, 0, 0, 1, 0, 1, 0, 1, 1] B65) s H = some (.normal, s, H) := at_skip (by kernel_rfl) s H
@[simp] theorem n65_51 (s : List V) (H : Heap) : evCode P Γ call n f m (cAt [1, 1, 1, 1, 1, 1, 1, 1, 0, 0, 0, 1, 0, 1, 1] B65) s H = seqNext P Γ call n f m (cAt [1, 1, 1, 1, 1, 1, 1, 1, 0, 0, 0, 1, 0, 1, 1, 1] B65) (evCode P Γ call n f m (cAt [1, 1, 1, 1, 1, 1, 1, 1, 0, 0, 0, 1, 0, 1, 1, 0] B65) s H) := at_seq (by kernel_rfl) rfl rfl s H
noncomputable def r65_52 : {l : List Oper // opsOf (cAt [1, 1, 1, 1, 1, 1, 1, 1, 0, 0, 0, 1, 0, 1, 1, 0] B65) = l} := by
  apply Subtype.mk
  dsimp only [opsOf, cAt, kids, B65, bodyOf, Tryd.f65, List.getD, List.getElem?_cons_zero, List.getElem?_cons_succ, Option.getD_some]
@[simp] theorem n65_52 (s : List V) (H : Heap) : evCode P Γ call n f m (cAt [1, 1, 1, 1, 1, 1, 1, 1, 0, 0, 0, 1, 0, 1, 1, 0] B65) s H = regNext (evOpsGo P Γ call r65_52.1 r65_52.1 s H) := at_region (by kernel_rfl) r65_52.2 s H
attribute [simp] r65_52
@[simp] theorem n65_53 (s : List V) (H : Heap) : evCode P Γ call n f m (cAt [1, 1, 1, 1, 1, 1, 1, 1, 0, 0, 0, 1, 0, 1, 1, 1] B65) s H = seqNext P Γ call n f m (cAt [1, 1, 1, 1, 1, 1, 1, 1, 0, 0, 0, 1, 0, 1, 1, 1, 1] B65) (evCode P Γ call n f m (cAt [1, 1, 1, 1, 1, 1, 1, 1, 0, 0, 0, 1, 0, 1, 1, 1, 0] B65) s H) := at_seq (by kernel_rfl) rfl rfl s H
noncomputable def r65_54 : {l : List Oper // opsOf (cAt [1, 1, 1, 1, 1, 1, 1, 1, 0, 0, 0, 1, 0, 1, 1, 1, 0] B65) = l} := by
  apply Subtype.mk
  dsimp only [opsOf, cAt, kids, B65, bodyOf, Tryd.f65, List.getD, List.getElem?_cons_zero, List.getElem?_cons_succ, Option.getD_some]
@[simp] theorem n65_54 (s : List V) (H : Heap) : evCode P Γ call n f m (cAt [1, 1, 1, 1, 1, 1, 1, 1, 0, 0, 0, 1, 0, 1, 1, 1, 0] B65) s H = regNext (evOpsGo P Γ call r65_54.1 r65_54.1 s H) := at_region (by kernel_rfl) r65_54.2 s H
attribute [simp] r65_54
noncomputable def r65_55 : {l : List Oper // opsOf (cAt [1, 1, 1, 1, 1, 1, 1, 1, 0, 0, 0, 1, 0, 1, 1, 1, 1] B65) = l} := by
  apply Subtype.mk
  dsimp only [opsOf, cAt, kids, B65, bodyOf, Tryd.f65, List.getD, List.getElem?_cons_zero, List.getElem?_cons_succ, Option.getD_some]
@[simp] theorem n65_55 (s : List V) (H : Heap) : evCode P Γ call n f m (cAt [1, 1, 1, 1, 1, 1, 1, 1, 0, 0, 0, 1, 0, 1, 1, 1, 1] B65) s H = regNext (evOpsGo P Γ call r65_55.1 r65_55.1 s H) := at_region (by kernel_rfl) r65_55.2 s H
attribute [simp] r65_55
@[simp] theorem n65_56 (s : List V) (H : Heap) : evCode P Γ call n f m (cAt [1, 1, 1, 1, 1, 1, 1, 1, 1] B65) s H = seqNext P Γ call n f m (cAt [1, 1, 1, 1, 1, 1, 1, 1, 1, 1] B65) (evCode P Γ call n f m (cAt [1, 1, 1, 1, 1, 1, 1, 1, 1, 0] B65) s H) := at_seq (by kernel_rfl) rfl rfl s H
noncomputable def r65_57 : {l : List Oper // opsOf (cAt [1, 1, 1, 1, 1, 1, 1, 1, 1, 0] B65) = l} := by
  apply Subtype.mk
  dsimp only [opsOf, cAt, kids, B65, bodyOf, Tryd.f65, List.getD, List.getElem?_cons_zero, List.getElem?_cons_succ, Option.getD_some]
@[simp] theorem n65_57 (s : List V) (H : Heap) : evCode P Γ call n f m (cAt [1, 1, 1, 1, 1, 1, 1, 1, 1, 0] B65) s H = regNext (evOpsGo P Γ call r65_57.1 r65_57.1 s H) := at_region (by kernel_rfl) r65_57.2 s H
attribute [simp] r65_57
@[simp] theorem n65_58 (s : List V) (H : Heap) : evCode P Γ call n f m (cAt [1, 1, 1, 1, 1, 1, 1, 1, 1, 1] B65) s H = seqNext P Γ call n f m (cAt [1, 1, 1, 1, 1, 1, 1, 1, 1, 1, 1] B65) (evCode P Γ call n f m (cAt [1, 1, 1, 1, 1, 1, 1, 1, 1, 1, 0] B65) s H) := at_seq (by kernel_rfl) rfl rfl s H
noncomputable def r65_59 : {l : List Oper // opsOf (cAt [1, 1, 1, 1, 1, 1, 1, 1, 1, 1, 0] B65) = l} := by
  apply Subtype.mk
  dsimp only [opsOf, cAt, kids, B65, bodyOf, Tryd.f65, List.getD, List.getElem?_cons_zero, List.getElem?_cons_succ, Option.getD_some]
@[simp] theorem n65_59 (s : List V) (H : Heap) : evCode P Γ call n f m (cAt [1, 1, 1, 1, 1, 1, 1, 1, 1, 1, 0] B65) s H = regNext (evOpsGo P Γ call r65_59.1 r65_59.1 s H) := at_region (by kernel_rfl) r65_59.2 s H
attribute [simp] r65_59
@[simp] theorem n65_60 (s : List V) (H : Heap) : evCode P Γ call n f m (cAt [1, 1, 1, 1, 1, 1, 1, 1, 1, 1, 1] B65) s H = some (.ret, s, H) := at_ret (by kernel_rfl) s H
theorem b65 {k : Nat} (ho : ∀ args H, Γ.orc 65 args H = none) (args : List V) (H : Heap) (ha : args.length ≤ 66) : evF Tryd.prog Γ (k + 1) 65 args H = bodyEnd Tryd.prog [.tmp 8] H.length (evCode Tryd.prog Γ (evF Tryd.prog Γ k) k 65 H.length (cAt [] B65) (mkL 66 V.undef (enumV 0 args)) H) := body_at Tryd.func65 (by decide) rfl ho rfl rfl args H ha
noncomputable def B77 : Code := bodyOf Tryd.f77
@[simp] theorem n77_1 (s : List V) (H : Heap) : evCode P Γ call n f m (cAt [] B77) s H = seqNext P Γ call n f m (cAt [1] B77) (evCode P Γ call n f m (cAt [0] B77) s H) := at_seq (by kernel_rfl) rfl rfl s H
noncomputable def r77_2 : {l : List Oper // opsOf (cAt [0] B77) = l} := by
  apply Subtype.mk
  dsimp only [opsOf, cAt, kids, B77, bodyOf, Tryd.f77, List.getD, List.getElem?_cons_zero, List.getElem?_cons_succ, Option.getD_some]
@[simp] theorem n77_2 (s : List V) (H : Heap) : evCode P Γ call n f m (cAt [0] B77) s H = regNext (evOpsGo P Γ call r77_2.1 r77_2.1 s H) := at_region (by kernel_rfl) r77_2.2 s H
attribute [simp] r77_2
@[simp] theorem n77_3 (s : List V) (H : Heap) : evCode P Γ call n f m (cAt [1] B77) s H = seqNext P Γ call n f m (cAt [1, 1] B77) (evCode P Γ call n f m (cAt [1, 0] B77) s H) := at_seq (by kernel_rfl) rfl rfl s H
noncomputable def r77_4 : {l : List Oper // opsOf (cAt [1, 0] B77) = l} := by
  apply Subtype.mk
  dsimp only [opsOf, cAt, kids, B77, bodyOf, Tryd.f77, List.getD, List.getElem?_cons_zero, List.getElem?_cons_succ, Option.getD_some]
@[simp] theorem n77_4 (s : List V) (H : Heap) : evCode P Γ call n f m (cAt [1, 0] B77) s H = regNext (evOpsGo P Γ call r77_4.1 r77_4.1 s H) := at_region (by kernel_rfl) r77_4.2 s H
attribute [simp] r77_4
@[simp] theorem n77_5 (s : List V) (H : Heap) : evCode P Γ call n f m (cAt [1, 1] B77) s H = seqNext P Γ call n f m (cAt [1, 1, 1] B77) (evCode P Γ call n f m (cAt [1, 1, 0] B77) s H) := at_seq (by kernel_rfl) rfl rfl s H
@[simp] theorem n77_6 (s : List V) (H : Heap) : evCode P Γ call n f m (cAt [1, 1, 0] B77) s H = blockNext 0 (evCode P Γ call n f m (cAt [1, 1, 0, 0] B77) s H) := at_block (by kernel_rfl) rfl s H
@[simp] theorem n77_7 (s : List V) (H : Heap) : evCode P Γ call n f m (cAt [1, 1, 0, 0] B77) s H = seqNext P Γ call n f m (cAt [1, 1, 0, 0, 1] B77) (evCode P Γ call n f m (cAt [1, 1, 0, 0, 0] B77) s H) := at_seq (by kernel_rfl) rfl rfl s H
noncomputable def r77_8 : {l : List Oper // opsOf (cAt [1, 1, 0, 0, 0] B77) = l} := by
  apply Subtype.mk
  dsimp only [opsOf, cAt, kids, B77, bodyOf, Tryd.f77, List.getD, List.getElem?_cons_zero, List.getElem?_cons_succ, Option.getD_some]
@[simp] theorem n77_8 (s : List V) (H : Heap) : evCode P Γ call n f m (cAt [1, 1, 0, 0, 0] B77) s H = regNext (evOpsGo P Γ call r77_8.1 r77_8.1 s H) := at_region (by kernel_rfl) r77_8.2 s H
attribute [simp] r77_8
@[simp] theorem n77_9 (s : List V) (H : Heap) : evCode P Γ call n f m (cAt [1, 1, 0, 0, 1] B77) s H = condW P Γ call n f m (cAt [1, 1, 0, 0, 1, 0] B77) (cAt [1, 1, 0, 0, 1, 1] B77) s H (evOperand Γ s (.tmp 16)) := at_cond (by kernel_rfl) (by kernel_rfl) rfl rfl s H
@[simp] theorem n77_10 (s : List V) (H : Heap) : evCode P Γ call n f m (cAt [1, 1, 0, 0, 1, 0] B77) s H = seqNext P Γ call n f m (cAt [1, 1, 0, 0, 1, 0, 1] B77) (evCode P Γ call n f m (cAt [1, 1, 0, 0, 1, 0, 0] B77) s H) := at_seq (by kernel_rfl) rfl rfl s H
noncomputable def r77_11 : {l : List Oper // opsOf (cAt [1, 1, 0, 0, 1, 0, 0] B77) = l} := by
  apply Subtype.mk
  dsimp only [opsOf, cAt, kids, B77, bodyOf, Tryd.f77, List.getD, List.getElem?_cons_zero, List.getElem?_cons_succ, Option.getD_some]
@[simp] theorem n77_11 (s : List V) (H : Heap) : evCode P Γ call n f m (cAt [1, 1, 0, 0, 1, 0, 0] B77) s H = regNext (evOpsGo P Γ call r77_11.1 r77_11.1 s H) := at_region (by kernel_rfl) r77_11.2 s H
attribute [simp] r77_11
@[simp] theorem n77_12 (s : List V) (H : Heap) : evCode P Γ call n f m (cAt [1, 1, 0, 0, 1, 0, 1] B77) s H = some (.ret, s, H) := at_ret (by kernel_rfl) s H
@[simp] theorem n77_13 (s : List V) (H : Heap) : evCode P Γ call n f m (cAt [1, 1, 0, 0, 1, 1] B77) s H = seqNext P Γ call n f m (cAt [1, 1, 0, 0, 1, 1, 1] B77) (evCode P Γ call n f m (cAt [1, 1, 0, 0, 1, 1, 0] B77) s H) := at_seq (by kernel_rfl) rfl rfl s H
noncomputable def r77_14 : {l : List Oper // opsOf (cAt [1, 1, 0, 0, 1, 1, 0] B77) = l} := by
  apply Subtype.mk
  dsimp only [opsOf, cAt, kids, B77, bodyOf, Tryd.f77, List.getD, List.getElem?_cons_zero, List.getElem?_cons_succ, Option.getD_some]
@[simp] theorem n77_14 (s : List V) (H : Heap) : evCode P Γ call n f m (cAt [1, 1, 0, 0, 1, 1, 0] B77) s H = regNext (evOpsGo P Γ call r77_14.1 r77_14.1 s H) := at_region (by kernel_rfl) r77_14.2 s H
attribute [simp] r77_14
@[simp] theorem n77_15 (s : List V) (H : Heap) : evCode P Γ call n f m (cAt [1, 1, 0, 0, 1, 1, 1] B77) s H = condW P Γ call n f m (cAt [1, 1, 0, 0, 1, 1, 1, 0] B77) (cAt [1, 1, 0, 0, 1, 1, 1, 1] B77) s H (evOperand Γ s (.tmp 24)) := at_cond (by kernel_rfl) (by kernel_rfl) rfl rfl s H
@[simp] theorem n77_16 (s : List V) (H : Heap) : evCode P Γ call n f m (cAt [1, 1, 0, 0, 1, 1, 1, 0] B77) s H = seqNext P Γ call n f m (cAt [1, 1, 0, 0, 1, 1, 1, 0, 1] B77) (evCode P Γ call n f m (cAt [1, 1, 0, 0, 1, 1, 1, 0, 0] B77) s H) := at_seq (by kernel_rfl) rfl rfl s H
noncomputable def r77_17 : {l : List Oper // opsOf (cAt [1, 1, 0, 0, 1, 1, 1, 0, 0] B77) = l} := by
  apply Subtype.mk
  dsimp only [opsOf, cAt, kids, B77, bodyOf, Tryd.f77, List.getD, List.getElem?_cons_zero, List.getElem?_cons_succ, Option.getD_some]
@[simp] theorem n77_17 (s : List V) (H : Heap) : evCode P Γ call n f m (cAt [1, 1, 0, 0, 1, 1, 1, 0, 0] B77) s H = regNext (evOpsGo P Γ call r77_17.1 r77_17.1 s H) := at_region (by kernel_rfl) r77_17.2 s H
attribute [simp] r77_17
@[simp] theorem n77_18 (s : List V) (H : Heap) : evCode P Γ call n f m (cAt [1, 1, 0, 0, 1, 1, 1, 0, 1] B77) s H = some (.ret, s, H) := at_ret (by kernel_rfl) s H
@[simp] theorem n77_19 (s : List V) (H : Heap) : evCode P Γ call n f m (cAt [1, 1, 0, 0, 1, 1, 1, 1] B77) s H = seqNext P Γ call n f m (cAt [1, 1, 0, 0, 1, 1, 1, 1, 1] B77) (evCode P Γ call n f m (cAt [1, 1, 0, 0, 1, 1, 1, 1, 0] B77) s H) := at_seq (by kernel_rfl) rfl rfl s H
noncomputable def r77_20 : {l : List Oper // opsOf (cAt [1, 1, 0, 0, 1, 1, 1, 1, 0] B77) = l} := by
  apply Subtype.mk
  dsimp only [opsOf, cAt, kids, B77, bodyOf, Tryd.f77, List.getD, List.getElem?_cons_zero, List.getElem?_cons_succ, Option.getD_some]
@[simp] theorem n77_20 (s : List V) (H : Heap) : evCode P Γ call n f m (cAt [1, 1, 0, 0, 1, 1, 1, 1, 0] B77) s H = regNext (evOpsGo P Γ call r77_20.1 r77_20.1 s H) := at_region (by kernel_rfl) r77_20.2 s H
attribute [simp] r77_20
@[simp] theorem n77_21 (s : List V) (H : Heap) : evCode P Γ call n f m (cAt [1, 1, 0, 0, 1, 1, 1, 1, 1] B77) s H = condW P Γ call n f m (cAt [1, 1, 0, 0, 1, 1, 1, 1, 1, 0] B77) (cAt [1, 1, 0, 0, 1, 1, 1, 1, 1, 1] B77) s H (evOperand Γ s (.tmp 31)) := at_cond (by kernel_rfl) (by kernel_rfl) rfl rfl s H
@[simp] theorem n77_22 (s : List V) (H : Heap) : evCode P Γ call n f m (cAt [1, 1, 0, 0, 1, 1, 1, 1, 1, 0] B77) s H = seqNext P Γ call n f m (cAt [1, 1, 0, 0, 1, 1, 1, 1, 1, 0, 1] B77) (evCode P Γ call n f m (cAt [1, 1, 0, 0, 1, 1, 1, 1, 1, 0, 0] B77) s H) := at_seq (by kernel_rfl) rfl rfl s H
noncomputable def r77_23 : {l : List Oper // opsOf (cAt [1, 1, 0, 0, 1, 1, 1, 1, 1, 0, 0] B77) = l} := by
  apply Subtype.mk
  dsimp only [opsOf, cAt, kids, B77, bodyOf, Tryd.f77, List.getD, List.getElem?_cons_zero, List.getElem?_cons_succ, Option.getD_some]
@[simp] theorem n77_23 (s : List V) (H : Heap) : evCode P Γ call n f m (cAt [1, 1, 0, 0, 1, 1, 1, 1, 1, 0, 0] B77) s H = regNext (evOpsGo P Γ call r77_23.1 r77_23.1 s H) := at_region (by kernel_rfl) r77_23.2 s H
attribute [simp] r77_23
@[simp] theorem n77_24 (s : List V) (H : Heap) : evCode P Γ call n f m (cAt [1, 1, 0, 0, 1, 1, 1, 1, 1, 0, 1] B77) s H = some (.ret, s, H) := at_ret (by kernel_rfl) s H
@[simp] theorem n77_25 (s : List V) (H : Heap) : evCode P Γ call n f m (cAt [1, 1, 0, 0, 1, 1, 1, 1, 1, 1] B77) s H = seqNext P Γ call n f m (cAt [1, 1, 0, 0, 1, 1, 1, 1, 1, 1, 1] B77) (evCode P Γ call n f m (cAt [1, 1, 0, 0, 1, 1, 1, 1, 1, 1, 0] B77) s H) := at_seq (by kernel_rfl) rfl rfl s H
noncomputable def r77_26 : {l : List Oper // opsOf (cAt [1, 1, 0, 0, 1, 1, 1, 1, 1, 1, 0] B77) = l} := by
  apply Subtype.mk
  dsimp only [opsOf, cAt, kids, B77, bodyOf, Tryd.f77, List.getD, List.getElem?_cons_zero, List.getElem?_cons_succ, Option.getD_some]
@[simp] theorem n77_26 (s : List V) (H : Heap) : evCode P Γ call n f m (cAt [1, 1, 0, 0, 1, 1, 1, 1, 1, 1, 0] B77) s H = regNext (evOpsGo P Γ call r77_26.1 r77_26.1 s H) := at_region (by kernel_rfl) r77_26.2 s H
attribute [simp] r77_26
@[simp] theorem n77_27 (s : List V) (H : Heap) : evCode P Γ call n f m (cAt [1, 1, 0, 0, 1, 1, 1, 1, 1, 1, 1] B77) s H = condW P Γ call n f m (cAt [1, 1, 0, 0, 1, 1, 1, 1, 1, 1, 1, 0] B77) (cAt [1, 1, 0, 0, 1, 1, 1, 1, 1, 1, 1, 1] B77) s H (evOperand Γ s (.tmp 36)) := at_cond (by kernel_rfl) (by kernel_rfl) rfl rfl s H
@[simp] theorem n77_28 (s : List V) (H : Heap) : evCode P Γ call n f m (cAt [1, 1, 0, 0, 1, 1, 1, 1, 1, 1, 1, 0] B77) s H = seqNext P Γ call n f m (cAt [1, 1, 0, 0, 1, 1, 1, 1, 1, 1, 1, 0, 1] B77) (evCode P Γ call n f m (cAt [1, 1, 0, 0, 1, 1, 1, 1, 1, 1, 1, 0, 0] B77) s H) := at_seq (by kernel_rfl) rfl rfl s H
noncomputable def r77_29 : {l : List Oper // opsOf (cAt [1, 1, 0, 0, 1, 1, 1, 1, 1, 1, 1, 0, 0] B77) = l} := by
  apply Subtype.mk
  dsimp only [opsOf, cAt, kids, B77, bodyOf, Tryd.f77, List.getD, List.getElem?_cons_zero, List.getElem?_cons_succ, Option.getD_some]
@[simp] theorem n77_29 (s : List V) (H : Heap) : evCode P Γ call n f m (cAt [1, 1, 0, 0, 1, 1, 1, 1, 1, 1, 1, 0, 0] B77) s H = regNext (evOpsGo P Γ call r77_29.1 r77_29.1 s H) := at_region (by kernel_rfl) r77_29.2 s H
attribute [simp] r77_29
@[simp] theorem n77_30 (s : List V) (H : Heap) : evCode P Γ call n f m (cAt [1, 1, 0, 0, 1, 1, 1, 1, 1, 1, 1, 0, 1] B77) s H = some (.ret, s, H) := at_ret (by kernel_rfl) s H
@[simp] theorem n77_31 (s : List V) (H : Heap) : evCode P Γ call n f m (cAt [1, 1, 0, 0, 1, 1, 1, 1, 1, 1, 1, 1] B77) s H = some (.normal, s, H) := at_skip (by kernel_rfl) s H
@[simp] theorem n77_32 (s : List V) (H : Heap) : evCode P Γ call n f m (cAt [1, 1, 1] B77) s H = seqNext P Γ call n f m (cAt [1, 1, 1, 1] B77) (evCode P Γ call n f m (cAt [1, 1, 1, 0] B77) s H) := at_seq (by kernel_rfl) rfl rfl s H
noncomputable def r77_33 : {l : List Oper // opsOf (cAt [1, 1, 1, 0] B77) = l} := by
  apply Subtype.mk
  dsimp only [opsOf, cAt, kids, B77, bodyOf, Tryd.f77, List.getD, List.getElem?_cons_zero, List.getElem?_cons_succ, Option.getD_some]
@[simp] theorem n77_33 (s : List V) (H : Heap) : evCode P Γ call n f m (cAt [1, 1, 1, 0] B77) s H = regNext (evOpsGo P Γ call r77_33.1 r77_33.1 s H) := at_region (by kernel_rfl) r77_33.2 s H
attribute [simp] r77_33
@[simp] theorem n77_34 (s : List V) (H : Heap) : evCode P Γ call n f m (cAt [1, 1, 1, 1] B77) s H = seqNext P Γ call n f m (cAt [1, 1, 1, 1, 1] B77) (evCode P Γ call n f m (cAt [1, 1, 1, 1, 0] B77) s H) := at_seq (by kernel_rfl) rfl rfl s H
noncomputable def r77_35 : {l : List Oper // opsOf (cAt [1, 1, 1, 1, 0] B77) = l} := by
  apply Subtype.mk
  dsimp only [opsOf, cAt, kids, B77, bodyOf, Tryd.f77, List.getD, List.getElem?_cons_zero, List.getElem?_cons_succ, Option.getD_some]
@[simp] theorem n77_35 (s : List V) (H : Heap) : evCode P Γ call n f m (cAt [1, 1, 1, 1, 0] B77) s H = regNext (evOpsGo P Γ call r77_35.1 r77_35.1 s H) := at_region (by kernel_rfl) r77_35.2 s H
attribute [simp] r77_35
@[simp] theorem n77_36 (s : List V) (H : Heap) : evCode P Γ call n f m (cAt [1, 1, 1, 1, 1] B77) s H = seqNext P Γ call n f m (cAt [1, 1, 1, 1, 1, 1] B77) (evCode P Γ call n f m (cAt [1, 1, 1, 1, 1, 0] B77) s H) := at_seq (by kernel_rfl) rfl rfl s H
noncomputable def r77_37 : {l : List Oper // opsOf (cAt [1, 1, 1, 1, 1, 0] B77) = l} := by
  apply Subtype.mk
  dsimp only [opsOf, cAt, kids, B77, bodyOf, Tryd.f77, List.getD, List.getElem?_cons_zero, List.getElem?_cons_succ, Option.getD_some]
@[simp] theorem n77_37 (s : List V) (H : Heap) : evCode P Γ call n f m (cAt [1, 1, 1, 1, 1, 0] B77) s H = regNext (evOpsGo P Γ call r77_37.1 r77_37.1 s H) := at_region (by kernel_rfl) r77_37.2 s H
attribute [simp] r77_37
@[simp] theorem n77_38 (s : List V) (H : Heap) : evCode P Γ call n f m (cAt [1, 1, 1, 1, 1, 1] B77) s H = seqNext P Γ call n f m (cAt [1, 1, 1, 1, 1, 1, 1] B77) (evCode P Γ call n f m (cAt [1, 1, 1, 1, 1, 1, 0] B77) s H) := at_seq (by kernel_rfl) rfl rfl s H
noncomputable def r77_39 : {l : List Oper // opsOf (cAt [1, 1, 1, 1, 1, 1, 0] B77) = l} := by
  apply Subtype.mk
  dsimp only [opsOf, cAt, kids, B77, bodyOf, Tryd.f77, List.getD, List.getElem?_cons_zero, List.getElem?_cons_succ, Option.getD_some]
@[simp] theorem n77_39 (s : List V) (H : Heap) : evCode P Γ call n f m (cAt [1, 1, 1, 1, 1, 1, 0] B77) s H = regNext (evOpsGo P Γ call r77_39.1 r77_39.1 s H) := at_region (by kernel_rfl) r77_39.2 s H
attribute [simp] r77_39
@[simp] theorem n77_40 (s : List V) (H : Heap) : evCode P Γ call n f m (cAt [1, 1, 1, 1, 1, 1, 1] B77) s H = seqNext P Γ call n f m (cAt [1, 1, 1, 1, 1, 1, 1, 1] B77) (evCode P Γ call n f m (cAt [1, 1, 1, 1, 1, 1, 1, 0] B77) s H) := at_seq (by kernel_rfl) rfl rfl s H
noncomputable def r77_41 : {l : List Oper // opsOf (cAt [1, 1, 1, 1, 1, 1, 1, 0] B77) = l} := by
  apply Subtype.mk
  dsimp only [opsOf, cAt, kids, B77, bodyOf, Tryd.f77, List.getD, List.getElem?_cons_zero, List.getElem?_cons_succ, Option.getD_some]
@[simp] theorem n77_41 (s : List V) (H : Heap) : evCode P Γ call n f m (cAt [1, 1, 1, 1, 1, 1, 1, 0] B77) s H = regNext (evOpsGo P Γ call r77_41.1 r77_41.1 s H) := at_region (by kernel_rfl) r77_41.2 s H
attribute [simp] r77_41
@[simp] theorem n77_42 (s : List V) (H : Heap) : evCode P Γ call n f m (cAt [1, 1, 1, 1, 1, 1, 1, 1] B77) s H = seqNext P Γ call n f m (cAt [1, 1, 1, 1, 1, 1, 1, 1, 1] B77) (evCode P Γ call n f m (cAt [1, 1, 1, 1, 1, 1, 1, 1, 0] B77) s H) := at_seq (by kernel_rfl) rfl rfl s H
@[simp] theorem n77_43 (s : List V) (H : Heap) : evCode P Γ call n f m (cAt [1, 1, 1, 1, 1, 1, 1, 1, 0] B77) s H = blockNext 1 (evCode P Γ call n f m (cAt [1, 1, 1, 1, 1, 1, 1, 1, 0, 0] B77) s H) := at_block (by kernel_rfl) rfl s H
@[simp] theorem n77_44 (s : List V) (H : Heap) : evCode P Γ call n f m (cAt [1, 1, 1, 1, 1, 1, 1, 1, 0, 0] B77) s H = evLoopC P Γ call n f m (cAt [1, 1, 1, 1, 1, 1, 1, 1, 0, 0, 0] B77) n s H := at_loop (by kernel_rfl) rfl s H
noncomputable abbrev L77_15 : Code := cAt [1, 1, 1, 1, 1, 1, 1, 1, 0, 0, 0] B77
@[simp] theorem n77_44f : firstRegion (cAt [1, 1, 1, 1, 1, 1, 1, 1, 0, 0, 0] B77) = 15 := by kernel_rfl
@[simp] theorem n77_45 (s : List V) (H : Heap) : evCode P Γ call n f m (cAt [1, 1, 1, 1, 1, 1, 1, 1, 0, 0, 0] B77) s H = seqNext P Γ call n f m (cAt [1, 1, 1, 1, 1, 1, 1, 1, 0, 0, 0, 1] B77) (evCode P Γ call n f m (cAt [1, 1, 1, 1, 1, 1, 1, 1, 0, 0, 0, 0] B77) s H) := at_seq (by kernel_rfl) rfl rfl s H
@[simp] theorem n77_46 (s : List V) (H : Heap) : evCode P Γ call n f m (cAt [1, 1, 1, 1, 1, 1, 1, 1, 0, 0, 0, 0] B77) s H = seqNext P Γ call n f m (cAt [1, 1, 1, 1, 1, 1, 1, 1, 0, 0, 0, 0, 1] B77) (evCode P Γ call n f m (cAt [1, 1, 1, 1, 1, 1, 1, 1, 0, 0, 0, 0, 0] B77) s H) := at_seq (by kernel_rfl) rfl rfl s H
noncomputable def r77_47 : {l : List Oper // opsOf (cAt [1, 1, 1, 1, 1, 1, 1, 1, 0, 0, 0, 0, 0] B77) = l} := by
  apply Subtype.mk
  dsimp only [opsOf, cAt, kids, B77, bodyOf, Tryd.f77, List.getD, List.getElem?_cons_zero, List.getElem?_cons_succ, Option.getD_some]
@[simp] theorem n77_47 (s : List V) (H : Heap) : evCode P Γ call n f m (cAt [1, 1, 1, 1, 1, 1, 1, 1, 0, 0, 0, 0, 0] B77) s H = regNext (evOpsGo P Γ call r77_47.1 r77_47.1 s H) := at_region (by kernel_rfl) r77_47.2 s H
attribute [simp] r77_47
@[simp] theorem n77_48 (s : List V) (H : Heap) : evCode P Γ call n f m (cAt [1, 1, 1, 1, 1, 1, 1, 1, 0, 0, 0, 0, 1] B77) s H = condW P Γ call n f m (cAt [1, 1, 1, 1, 1, 1, 1, 1, 0, 0, 0, 0, 1, 0] B77) (cAt [1, 1, 1, 1, 1, 1, 1, 1, 0, 0, 0, 0, 1, 1] B77) s H (evOperand Γ s (.tmp 59)) := at_cond (by kernel_rfl) (by kernel_rfl) rfl rfl s H
@[simp] theorem n77_49 (s : List V) (H : Heap) : evCode P Γ call n f m (cAt [1, 1, 1, 1, 1, 1, 1, 1, 0, 0, 0, 0, 1, 0] B77) s H = some (.normal, s, H) := at_skip (by kernel_rfl) s H
@[simp] theorem n77_50 (s : List V) (H : Heap) : evCode P Γ call n f m (cAt [1, 1, 1, 1, 1, 1, 1, 1, 0, 0, 0, 0, 1, 1] B77) s H = some (.exit 1, s, H) := at_exit (by kernel_rfl) s H
@[simp] theorem n77_51 (s : List V) (H : Heap) : evCode P Γ call n f m (cAt [1, 1, 1, 1, 1, 1, 1, 1, 0, 0, 0, 1] B77) s H = blockNext 2 (evCode P Γ call n f m (cAt [1, 1, 1, 1, 1, 1, 1, 1, 0, 0, 0, 1, 0] B77) s H) := at_block (by kernel_rfl) rfl s H
@[simp] theorem n77_52 (s : List V) (H : Heap) : evCode P Γ call n f m (cAt [1, 1, 1, 1, 1, 1, 1, 1, 0, 0, 0, 1, 0] B77) s H = seqNext P Γ call n f m (cAt [1, 1, 1, 1, 1, 1, 1, 1, 0, 0, 0, 1, 0, 1] B77) (evCode P Γ call n f m (cAt [1, 1, 1, 1, 1, 1, 1, 1, 0, 0, 0, 1, 0, 0] B77) s H) := at_seq (by kernel_rfl) rfl rfl s H
@[simp] theorem n77_53 (s : List V) (H : Heap) : evCode P Γ call n f m (cAt [1, 1, 1, 1, 1, 1, 1, 1, 0, 0, 0, 1, 0, 0] B77) s H = seqNext P Γ call n f m (cAt [1, 1, 1, 1, 1, 1, 1, 1, 0, 0, 0, 1, 0, 0, 1] B77) (evCode P Γ call n f m (cAt [1, 1, 1, 1, 1, 1, 1, 1, 0, 0, 0, 1, 0, 0, 0] B77) s H) := at_seq (by kernel_rfl) rfl rfl s H
noncomputable def r77_54 : {l : List Oper // opsOf (cAt [1, 1, 1, 1, 1, 1, 1, 1, 0, 0, 0, 1, 0, 0, 0] B77) = l} := by
  apply Subtype.mk
  dsimp only [opsOf, cAt, kids, B77, bodyOf, Tryd.f77, List.getD, List.getElem?_cons_zero, List.getElem?_cons_succ, Option.getD_some]
@[simp] theorem n77_54 (s : List V) (H : Heap) : evCode P Γ call n f m (cAt [1, 1, 1, 1, 1, 1, 1, 1, 0, 0, 0, 1, 0, 0, 0] B77) s H = regNext (evOpsGo P Γ call r77_54.1 r77_54.1 s H) := at_region (by kernel_rfl) r77_54.2 s H
attribute [simp] r77_54
@[simp] theorem n77_55 (s : List V) (H : Heap) : evCode P Γ call n f m (cAt [1, 1, 1, 1, 1, 1, 1, 1, 0, 0, 0, 1, 0, 0, 1] B77) s H = condW P Γ call n f m (cAt [1, 1, 1, 1, 1, 1, 1, 1, 0, 0, 0, 1, 0, 0, 1, 0] B77) (cAt [1, 1, 1, 1, 1, 1, 1, 1, 0, 0, 0, 1, 0, 0, 1, 1] B77) s H (evOperand Γ s (.tmp 64)) := at_cond (by kernel_rfl) (by kernel_rfl) rfl rfl s H
@[simp] theorem n77_56 (s : List V) (H : Heap) : evCode P Γ call n f m (cAt [1, 1, 1, 1, 1, 1, 1, 1, 0, 0, 0, 1, 0, 0, 1, 0] B77) s H = seqNext P Γ call n f m (cAt [1, 1, 1, 1, 1, 1, 1, 1, 0, 0, 0, 1, 0, 0, 1, 0, 1] B77) (evCode P Γ call n f m (cAt [1, 1, 1, 1, 1, 1, 1, 1, 0, 0, 0, 1, 0, 0, 1, 0, 0] B77) s H) := at_seq (by kernel_rfl) rfl rfl s H
noncomputable def r77_57 : {l : List Oper // opsOf (cAt [1, 1, 1, 1, 1, 1, 1, 1, 0, 0, 0, 1, 0, 0, 1, 0, 0] B77) = l} := by
  apply Subtype.mk
  dsimp only [opsOf, cAt, kids, B77, bodyOf, Tryd.f77, List.getD, List.getElem?_cons_zero, List.getElem?_cons_succ, Option.getD_some]
@[simp] theorem n77_57 (s : List V) (H : Heap) : evCode P Γ call n f m (cAt [1, 1, 1, 1, 1, 1, 1, 1, 0, 0, 0, 1, 0, 0, 1, 0, 0] B77) s H = regNext (evOpsGo P Γ call r77_57.1 r77_57.1 s H) := at_region (by kernel_rfl) r77_57.2 s H
attribute [simp] r77_57
@[simp] theorem n77_58 (s : List V) (H : Heap) : evCode P Γ call n f m (cAt [1, 1, 1, 1, 1, 1, 1, 1, 0, 0, 0, 1, 0, 0, 1, 0, 1] B77) s H = seqNext P Γ call n f m (cAt [1, 1, 1, 1, 1, 1, 1, 1, 0, 0, 0, 1, 0, 0, 1, 0, 1, 1] B77) (evCode P Γ call n f m (cAt [1, 1, 1, 1, 1, 1, 1, 1, 0, 0, 0, 1, 0, 0, 1, 0, 1, 0] B77) s H) := at_seq (by kernel_rfl) rfl rfl s H
@[simp] theorem n77_59 (s : List V) (H : Heap) : evCode P Γ call n f m (cAt [1, 1, 1, 1, 1, 1, 1, 1, 0, 0, 0, 1, 0, 0, 1, 0, 1, 0] B77) s H = seqNext P Γ call n f m (cAt [1, 1, 1, 1, 1, 1, 1, 1, 0, 0, 0, 1, 0, 0, 1, 0, 1, 0, 1] B77) (evCode P Γ call n f m (cAt [1, 1, 1, 1, 1, 1, 1, 1, 0, 0, 0, 1, 0, 0, 1, 0, 1, 0, 0] B77) s H) := at_seq (by kernel_rfl) rfl rfl s H
noncomputable def r77_60 : {l : List Oper // opsOf (cAt [1, 1, 1, 1, 1, 1, 1, 1, 0, 0, 0, 1, 0, 0, 1, 0, 1, 0, 0] B77) = l} := by
  apply Subtype.mk
  dsimp only [opsOf, cAt, kids, B77, bodyOf, Tryd.f77, List.getD, List.getElem?_cons_zero, List.getElem?_cons_succ, Option.getD_some]
@[simp] theorem n77_60 (s : List V) (H : Heap) : evCode P Γ call n f m (cAt [1, 1, 1, 1, 1, 1, 1, 1, 0, 0, 0, 1, 0, 0, 1, 0, 1, 0, 0] B77) s H = regNext (evOpsGo P Γ call r77_60.1 r77_60.1 s H) := at_region (by kernel_rfl) r77_60.2 s H
attribute [simp] r77_60
@[simp] theorem n77_61 (s : List V) (H : Heap) : evCode P Γ call n f m (cAt [1, 1, 1, 1, 1, 1, 1, 1, 0, 0, 0, 1, 0, 0, 1, 0, 1, 0, 1] B77) s H = condW P Γ call n f m (cAt [1, 1, 1, 1, 1, 1, 1, 1, 0, 0, 0, 1, 0, 0, 1, 0, 1, 0, 1, 0] B77) (cAt [1, 1, 1, 1, 1, 1, 1, 1, 0, 0, 0, 1, 0, 0, 1, 0, 1, 0, 1, 1] B77) s H (evOperand Γ s (.tmp 73)) := at_cond (by kernel_rfl) (by kernel_rfl) rfl rfl s H
@[simp] theorem n77_62 (s : List V) (H : Heap) : evCode P Γ call n f m (cAt [1, 1, 1, 1, 1, 1, 1, 1, 0, 0, 0, 1, 0, 0, 1, 0, 1, 0, 1, 0] B77) s H = seqNext P Γ call n f m (cAt [1, 1, 1, 1, 1, 1, 1, 1, 0, 0, 0, 1, 0, 0, 1, 0, 1, 0, 1, 0, 1] B77) (evCode P Γ call n f m (cAt [1, 1, 1, 1, 1, 1, 1, 1, 0, 0, 0, 1, 0, 0, 1, 0, 1, 0, 1, 0, 0] B77) s H) := at_seq (by kernel_rfl) rfl rfl s H
noncomputable def r77_63 : {l : List Oper // opsOf (cAt [1, 1, 1, 1, 1, 1, 1, 1, 0, 0, 0, 1, 0, 0, 1, 0, 1, 0, 1, 0, 0] B77) = l} := by
  apply Subtype.mk
  dsimp only [opsOf, cAt, kids, B77, bodyOf, Tryd.f77, List.getD, List.getElem?_cons_zero, List.getElem?_cons_succ, Option.getD_some]
@[simp] theorem n77_63 (s : List V) (H : Heap) : evCode P Γ call n f m (cAt [1, 1, 1, 1, 1, 1, 1, 1, 0, 0, 0, 1, 0, 0, 1, 0, 1, 0, 1, 0, 0] B77) s H = regNext (evOpsGo P Γ call r77_63.1 r77_63.1 s H) := at_region (by kernel_rfl) r77_63.2 s H
attribute [simp] r77_63
@[simp] theorem n77_64 (s : List V) (H : Heap) : evCode P Γ call n f m (cAt [1, 1, 1, 1, 1, 1, 1, 1, 0, 0, 0, 1, 0, 0, 1, 0, 1, 0, 1, 0, 1] B77) s H = some (.ret, s, H) := at_ret (by kernel_rfl) s H
@[simp] theorem n77_65 (s : List V) (H : Heap) : evCode P Γ call n f m (cAt [1, 1, 1, 1, 1, 1, 1, 1, 0, 0, 0, 1, 0, 0, 1, 0, 1, 0, 1, 1] B77) s H = some (.normal, s, H) := at_skip (by kernel_rfl) s H
noncomputable def r77_66 : {l : List Oper // opsOf (cAt [1, 1, 1, 1, 1, 1, 1, 1, 0, 0, 0, 1, 0, 0, 1, 0, 1, 1] B77) = l} := by
  apply Subtype.mk
  dsimp only [opsOf, cAt, kids, B77, bodyOf, Tryd.f77, List.getD, List.getElem?_cons_zero, List.getElem?_cons_succ, Option.getD_some]
@[simp] theorem n77_66 (s : List V) (H : Heap) : evCode P Γ call n f m (cAt [1, 1, 1, 1, 1, 1, 1, 1, 0, 0, 0, 1, 0, 0, 1, 0, 1, 1] B77) s H = regNext (evOpsGo P Γ call r77_66.1 r77_66.1 s H) := at_region (by kernel_rfl) r77_66.2 s H
attribute [simp] r77_66
@[simp] theorem n77_67 (s : List V) (H : Heap) : evCode P Γ call n f m (cAt [1, 1, 1, 1, 1, 1, 1, 1, 0, 0, 0, 1, 0, 0, 1, 1] B77) s H = some (.normal, s, H) := at_skip (by kernel_rfl) s H
@[simp] theorem n77_68 (s : List V) (H : Heap) : evCode P Γ call n f m (cAt [1, 1, 1, 1, 1, 1, 1, 1, 0, 0, 0, 1, 0, 1] B77) s H = seqNext P Γ call n f m (cAt [1, 1, 1, 1, 1, 1, 1, 1, 0, 0, 0, 1, 0, 1, 1] B77) (evCode P Γ call n f m (cAt [1, 1, 1, 1, 1, 1, 1, 1, 0, 0, 0, 1, 0, 1, 0] B77) s H) := at_seq (by kernel_rfl) rfl rfl s H
@[simp] theorem n77_69 (s : List V) (H : Heap) : evCode P Γ call n f m (cAt [1, 1, 1, 1, 1, 1, 1, 1, 0, 0, 0, 1, 0, 1, 0] B77) s H = seqNext P Γ call n f m (cAt [1, 1, 1, 1, 1, 1, 1, 1, 0, 0, 0, 1, 0, 1, 0, 1] B77) (evCode P Γ call n f m (cAt [1, 1, 1, 1, 1, 1, 1, 1, 0, 0, 0, 1, 0, 1, 0, 0] B77) s H) := at_seq (by kernel_rfl) rfl rfl s H
noncomputable def r77_70 : {l : List Oper // opsOf (cAt [1, 1, 1, 1, 1, 1, 1, 1, 0, 0, 0, 1, 0, 1, 0, 0] B77) = l} := by
  apply Subtype.mk
  dsimp only [opsOf, cAt, kids, B77, bodyOf, Tryd.f77, List.getD, List.getElem?_cons_zero, List.getElem?_cons_succ, Option.getD_some]
@[simp] theorem n77_70 (s : List V) (H : Heap) : evCode P Γ call n f m (cAt [1, 1, 1, 1, 1, 1, 1, 1, 0, 0, 0, 1, 0, 1, 0, 0] B77) s H = regNext (evOpsGo P Γ call r77_70.1 r77_70.1 s H) := at_region (by kernel_rfl) r77_70.2 s H
attribute [simp] r77_70
@[simp] theorem n77_71 (s : List V) (H : Heap) : evCode P Γ call n f m (cAt [1, 1, 1, 1, 1, 1, 1, 1, 0, 0, 0, 1, 0, 1, 0, 1] B77) s H = condW P Γ call n f m (cAt [1, 1, 1, 1, 1, 1, 1, 1, 0, 0, 0, 1, 0, 1, 0, 1, 0] B77) (cAt [1, 1, 1, 1, 1, 1, 1, 1, 0, 0, 0, 1, 0, 1, 0, 1, 1] B77) s H (evOperand Γ s (.tmp 93)) := at_cond (by kernel_rfl) (by kernel_rfl) rfl rfl s H
@[simp] theorem n77_72 (s : List V) (H : Heap) : evCode P Γ call n f m (cAt [1, 1, 1, 1, 1, 1, 1, 1, 0, 0, 0, 1, 0, 1, 0, 1, 0] B77) s H = seqNext P Γ call n f m (cAt [1, 1, 1, 1, 1, 1, 1, 1, 0, 0, 0, 1, 0, 1, 0, 1, 0, 1] B77) (evCode P Γ call n f m (cAt [1, 1, 1, 1, 1, 1, 1, 1, 0, 0, 0, 1, 0, 1, 0, 1, 0, 0] B77) s H) := at_seq (by kernel_rfl) rfl rfl s H
noncomputable def r77_73 : {l : List Oper // opsOf (cAt [1, 1, 1, 1, 1, 1, 1, 1, 0, 0, 0, 1, 0, 1, 0, 1, 0, 0] B77) = l} := by
  apply Subtype.mk
  dsimp only [opsOf, cAt, kids, B77, bodyOf, Tryd.f77, List.getD, List.getElem?_cons_zero, List.getElem?_cons_succ, Option.getD_some]
@[simp] theorem n77_73 (s : List V) (H : Heap) : evCode P Γ call n f m (cAt [1, 1, 1, 1, 1, 1, 1, 1, 0, 0, 0, 1, 0, 1, 0, 1, 0, 0] B77) s H = regNext (evOpsGo P Γ call r77_73.1 r77_73.1 s H) := at_region (by kernel_rfl) r77_73.2 s H
attribute [simp] r77_73
@[simp] theorem n77_74 (s : List V) (H : Heap) : evCode P Γ call n f m (cAt [1, 1, 1, 1, 1, 1, 1, 1, 0, 0, 0, 1, 0, 1, 0, 1, 0, 1] B77) s H = some (.ret, s, H) := at_ret (by kernel_rfl) s H
@[simp] theorem n77_75 (s : List V) (H : Heap) : evCode P Γ call n f m (cAt [1, 1, 1, 1, 1, 1, 1, 1, 0, 0, 0, 1, 0, 1, 0, 1, 1] B77) s H = some (.normal, s, H) := at_skip (by kernel_rfl) s H
@[simp] theorem n77_76 (s : List V) (H : Heap) : evCode P Γ call n f m (cAt [1, 1, 1, 1, 1, 1, 1, 1, 0, 0, 0, 1, 0, 1, 1] B77) s H = seqNext P Γ call n f m (cAt [1, 1, 1, 1, 1, 1, 1, 1, 0, 0, 0, 1, 0, 1, 1, 1] B77) (evCode P Γ call n f m (cAt [1, 1, 1, 1, 1, 1, 1, 1, 0, 0, 0, 1, 0, 1, 1, 0] B77) s H) := at_seq (by kernel_rfl) rfl rfl s H
noncomputable def r77_77 : {l : List Oper // opsOf (cAt [1, 1, 1, 1, 1, 1, 1, 1, 0, 0, 0, 1, 0, 1, 1, 0] B77) = l} := by
  apply Subtype.mk
  dsimp only [opsOf, cAt, kids, B77, bodyOf, Tryd.f77, List.getD, List.getElem?_cons_zero, List.getElem?_cons_succ, Option.getD_some]
@[simp] theorem n77_77 (s : List V) (H : Heap) : evCode P Γ call n f m (cAt [1, 1, 1, 1, 1, 1, 1, 1, 0, 0, 0, 1, 0, 1, 1, 0] B77) s H = regNext (evOpsGo P Γ call r77_77.1 r77_77.1 s H) := at_region (by kernel_rfl) r77_77.2 s H
attribute [simp] r77_77
@[simp] theorem n77_78 (s : List V) (H : Heap) : evCode P Γ call n f m (cAt [1, 1, 1, 1, 1, 1, 1, 1, 0, 0, 0, 1, 0, 1, 1, 1] B77) s H = seqNext P Γ call n f m (cAt [1, 1, 1, 1, 1, 1, 1, 1, 0, 0, 0, 1, 0, 1, 1, 1, 1] B77) (evCode P Γ call n f m (cAt [1, 1, 1, 1, 1, 1, 1, 1, 0, 0, 0, 1, 0, 1, 1, 1, 0] B77) s H) := at_seq (by kernel_rfl) rfl rfl s H
noncomputable def r77_79 : {l : List Oper // opsOf (cAt [1, 1, 1, 1, 1, 1, 1, 1, 0, 0, 0, 1, 0, 1, 1, 1, 0] B77) = l} := by
  apply Subtype.mk
  dsimp only [opsOf, cAt, kids, B77, bodyOf, Tryd.f77, List.getD, List.getElem?_cons_zero, List.getElem?_cons_succ, Option.getD_some]
@[simp] theorem n77_79 (s : List V) (H : Heap) : evCode P Γ call n f m (cAt [1, 1, 1, 1, 1, 1, 1, 1, 0, 0, 0, 1, 0, 1, 1, 1, 0] B77) s H = regNext (evOpsGo P Γ call r77_79.1 r77_79.1 s H) := at_region (by kernel_rfl) r77_79.2 s H
attribute [simp] r77_79
@[simp] theorem n77_80 (s : List V) (H : Heap) : evCode P Γ call n f m (cAt [1, 1, 1, 1, 1, 1, 1, 1, 0, 0, 0, 1, 0, 1, 1, 1, 1] B77) s H = seqNext P Γ call n f m (cAt [1, 1, 1, 1, 1, 1, 1, 1, 0, 0, 0, 1, 0, 1, 1, 1, 1, 1] B77) (evCode P Γ call n f m (cAt [1, 1, 1, 1, 1, 1, 1, 1, 0, 0, 0, 1, 0, 1, 1, 1, 1, 0] B77) s H) := at_seq (by kernel_rfl) rfl rfl s H
noncomputable def r77_81 : {l : List Oper // opsOf (cAt [1, 1, 1, 1, 1, 1, 1, 1, 0, 0, 0, 1, 0, 1, 1, 1, 1, 0] B77) = l} := by
  apply Subtype.mk
  dsimp only [opsOf, cAt, kids, B77, bodyOf, Tryd.f77, List.getD, List.getElem?_cons_zero, List.getElem?_cons_succ, Option.getD_some]
@[simp] theorem n77_81 (s : List V) (H : Heap) : evCode P Γ call n f m (cAt [1, 1, 1, 1, 1, 1, 1, 1, 0, 0, 0, 1, 0, 1, 1, 1, 1, 0] B77) s H = regNext (evOpsGo P Γ call r77_81.1 r77_81.1 s H) := at_region (by kernel_rfl) r77_81.2 s H
attribute [simp] r77_81
@[simp] theorem n77_82 (s : List V) (H : Heap) : evCode P Γ call n f m (cAt [1, 1, 1, 1, 1, 1, 1, 1, 0, 0, 0, 1, 0, 1, 1, 1, 1, 1] B77) s H = condW P Γ call n f m (cAt [1, 1, 1, 1, 1, 1, 1, 1, 0, 0, 0, 1, 0, 1, 1, 1, 1, 1, 0] B77) (cAt [1, 1, 1, 1, 1, 1, 1, 1, 0, 0, 0, 1, 0, 1, 1, 1, 1, 1, 1] B77) s H (evOperand Γ s (.tmp 107)) := at_cond (by kernel_rfl) (by kernel_rfl) rfl rfl s H
@[simp] theorem n77_83 (s : List V) (H : Heap) : evCode P Γ call n f m (cAt [1, 1, 1, 1, 1, 1, 1, 1, 0, 0, 0, 1, 0, 1, 1, 1, 1, 1, 0] B77) s H = seqNext P Γ call n f m (cAt [1, 1, 1, 1, 1, 1, 1, 1, 0, 0, 0, 1, 0, 1, 1, 1, 1, 1, 0, 1] B77) (evCode P Γ call n f m (cAt [1, 1, 1, 1, 1, 1, 1, 1, 0, 0, 0, 1, 0, 1, 1, 1, 1, 1, 0, 0] B77) s H) := at_seq (by kernel_rfl) rfl rfl s H
noncomputable def r77_84 : {l : List Oper // opsOf (cAt [1, 1, 1, 1, 1, 1, 1, 1, 0, 0, 0, 1, 0, 1, 1, 1, 1, 1, 0, 0] B77) = l} := by
  apply Subtype.mk
  dsimp only [opsOf, cAt, kids, B77, bodyOf, Tryd.f77, List.getD, List.getElem?_cons_zero, List.getElem?_cons_succ, Option.getD_some]
@[simp] theorem n77_84 (s : List V) (H : Heap) : evCode P Γ call n f m (cAt [1, 1, 1, 1, 1, 1, 1, 1, 0, 0, 0, 1, 0, 1, 1, 1, 1, 1, 0, 0] B77) s H = regNext (evOpsGo P Γ call r77_84.1 r77_84.1 s H) := at_region (by kernel_rfl) r77_84.2 s H
attribute [simp] r77_84
@[simp] theorem n77_85 (s : List V) (H : Heap) : evCode P Γ call n f m (cAt [1, 1, 1, 1, 1, 1, 1, 1, 0, 0, 0, 1, 0, 1, 1, 1, 1, 1, 0, 1] B77) s H = seqNext P Γ call n f m (cAt [1, 1, 1, 1, 1, 1, 1, 1, 0, 0, 0, 1, 0, 1, 1, 1, 1, 1, 0, 1, 1] B77) (evCode P Γ call n f m (cAt [1, 1, 1, 1, 1, 1, 1, 1, 0, 0, 0, 1, 0, 1, 1, 1, 1, 1, 0, 1, 0] B77) s H) := at_seq (by kernel_rfl) rfl rfl s H
@[simp] theorem n77_86 (s : List V) (H : Heap) : evCode P Γ call n f m (cAt [1, 1, 1, 1, 1, 1, 1, 1, 0, 0, 0, 1, 0, 1, 1, 1, 1, 1, 0, 1, 0] B77) s H = seqNext P Γ call n f m (cAt [1, 1, 1, 1, 1, 1, 1, 1, 0, 0, 0, 1, 0, 1, 1, 1, 1, 1, 0, 1, 0, 1] B77) (evCode P Γ call n f m (cAt [1, 1, 1, 1, 1, 1, 1, 1, 0, 0, 0, 1, 0, 1, 1, 1, 1, 1, 0, 1, 0, 0] B77) s H) := at_seq (by kernel_rfl) rfl rfl s H
noncomputable def r77_87 : {l : List Oper // opsOf (cAt [1, 1, 1, 1, 1, 1, 1, 1, 0, 0, 0, 1, 0, 1, 1, 1, 1, 1, 0, 1, 0, 0] B77) = l} := by
  apply Subtype.mk
  dsimp only [opsOf, cAt, kids, B77, bodyOf, Tryd.f77, List.getD, List.getElem?_cons_zero, List.getElem?_cons_succ, Option.getD_some]
@[simp] theorem n77_87 (s : List V) (H : Heap) : evCode P Γ call n f m (cAt [1, 1, 1, 1, 1, 1, 1, 1, 0, 0, 0, 1, 0, 1, 1, 1, 1, 1, 0, 1, 0, 0] B77) s H = regNext (evOpsGo P Γ call r77_87.1 r77_87.1 s H) := at_region (by kernel_rfl) r77_87.2 s H
attribute [simp] r77_87
@[simp] theorem n77_88 (s : List V) (H : Heap) : evCode P Γ call n f m (cAt [1, 1, 1, 1, 1, 1, 1, 1, 0, 0, 0, 1, 0, 1, 1, 1, 1, 1, 0, 1, 0, 1] B77) s H = condW P Γ call n f m (cAt [1, 1, 1, 1, 1, 1, 1, 1, 0, 0, 0, 1, 0, 1, 1, 1, 1, 1, 0, 1, 0, 1, 0] B77) (cAt [1, 1, 1, 1, 1, 1, 1, 1, 0, 0, 0, 1, 0, 1, 1, 1, 1, 1, 0, 1, 0, 1, 1] B77) s H (evOperand Γ s (.tmp 114)) := at_cond (by kernel_rfl) (by kernel_rfl) rfl rfl s H
@[simp] theorem n77_89 (s : List V) (H : Heap) : evCode P Γ call n f m (cAt [1, 1, 1, 1, 1, 1, 1, 1, 0, 0, 0, 1, 0, 1, 1, 1, 1, 1, 0, 1, 0, 1, 0] B77) s H = seqNext P Γ call n f m (cAt [1, 1, 1, 1, 1, 1, 1, 1, 0, 0, 0, 1, 0, 1, 1, 1, 1, 1, 0, 1, 0, 1, 0, 1] B77) (evCode P Γ call n f m (cAt [1, 1, 1, 1, 1, 1, 1, 1, 0, 0, 0, 1, 0, 1, 1, 1, 1, 1, 0, 1, 0, 1, 0, 0] B77) s H) := at_seq (by kernel_rfl) rfl rfl s H
noncomputable def r77_90 : {l : List Oper // opsOf (cAt [1, 1, 1, 1, 1, 1, 1, 1, 0, 0, 0, 1, 0, 1, 1, 1, 1, 1, 0, 1, 0, 1, 0, 0] B77) = l} := by
  apply Subtype.mk
  dsimp only [opsOf, cAt, kids, B77, bodyOf, Tryd.f77, List.getD, List.getElem?_cons_zero, List.getElem?_cons_succ, Option.getD_some]
@[simp] theorem n77_90 (s : List V) (H : Heap) : evCode P Γ call n f m (cAt [1, 1, 1, 1, 1, 1, 1, 1, 0, 0, 0, 1, 0, 1, 1, 1, 1, 1, 0, 1, 0, 1, 0, 0] B77) s H = regNext (evOpsGo P Γ call r77_90.1 r77_90.1 s H) := at_region (by kernel_rfl) r77_90.2 s H
attribute [simp] r77_90
@[simp] theorem n77_91 (s : List V) (H : Heap) : evCode P Γ call n f m (cAt [1, 1, 1, 1, 1, 1, 1, 1, 0, 0, 0, 1, 0, 1, 1, 1, 1, 1, 0, 1, 0, 1, 0, 1] B77) s H = some (.ret, s, H) := at_ret (by kernel_rfl) s H
@[simp] theorem n77_92 (s : List V) (H : Heap) : evCode P Γ call n f m (cAt [1, 1, 1, 1, 1, 1, 1, 1, 0, 0, 0, 1, 0, 1, 1, 1, 1, 1, 0, 1, 0, 1, 1] B77) s H = some (.normal, s, H) := at_skip (by kernel_rfl) s H
@[simp] theorem n77_93 (s : List V) (H : Heap) : evCode P Γ call n f m (cAt [1, 1, 1, 1, 1, 1, 1, 1, 0, 0, 0, 1, 0, 1, 1, 1, 1, 1, 0, 1, 1] B77) s H = seqNext P Γ call n f m (cAt [1, 1, 1, 1, 1, 1, 1, 1, 0, 0, 0, 1, 0, 1, 1, 1, 1, 1, 0, 1, 1, 1] B77) (evCode P Γ call n f m (cAt [1, 1, 1, 1, 1, 1, 1, 1, 0, 0, 0, 1, 0, 1, 1, 1, 1, 1, 0, 1, 1, 0] B77) s H) := at_seq (by kernel_rfl) rfl rfl s H
noncomputable def r77_94 : {l : List Oper // opsOf (cAt [1, 1, 1, 1, 1, 1, 1, 1, 0, 0, 0, 1, 0, 1, 1, 1, 1, 1, 0, 1, 1, 0] B77) = l} := by
  apply Subtype.mk
  dsimp only [opsOf, cAt, kids, B77, bodyOf, Tryd.f77, List.getD, List.getElem?_cons_zero, List.getElem?_cons_succ, Option.getD_some]
@[simp] theorem n77_94 (s : List V) (H : Heap) : evCode P Γ call n f m (cAt [1, 1, 1, 1, 1, 1, 1, 1, 0, 0, 0, 1, 0, 1, 1, 1, 1, 1, 0, 1, 1, 0] B77) s H = regNext (evOpsGo P Γ call r77_94.1 r77_94.1 s H) := at_region (by kernel_rfl) r77_94.2 s H
attribute [simp] r77_94
@[simp] theorem n77_95 (s : List V) (H : Heap) : evCode P Γ call n f m (cAt [1, 1, 1, 1, 1, 1, 1, 1, 0, 0, 0, 1, 0, 1, 1, 1, 1, 1, 0, 1, 1, 1] B77) s H = some (.ret, s, H) := at_ret (by kernel_rfl) s H
@[simp] theorem n77_96 (s : List V) (H : Heap) : evCode P Γ call n f m (cAt [1, 1, 1, 1, 1, 1, 1, 1, 0, 0, 0, 1, 0, 1, 1, 1, 1, 1, 1] B77) s H = seqNext P Γ call n f m (cAt [1, 1, 1, 1, 1, 1, 1, 1, 0, 0, 0, 1, 0, 1, 1, 1, 1, 1, 1, 1] B77) (evCode P Γ call n f m (cAt [1, 1, 1, 1, 1, 1, 1, 1, 0, 0, 0, 1, 0, 1, 1, 1, 1, 1, 1, 0] B77) s H) := at_seq (by kernel_rfl) rfl rfl s H
noncomputable def r77_97 : {l : List Oper // opsOf (cAt [1, 1, 1, 1, 1, 1, 1, 1, 0, 0, 0, 1, 0, 1, 1, 1, 1, 1, 1, 0] B77) = l} := by
  apply Subtype.mk
  dsimp only [opsOf, cAt, kids, B77, bodyOf, Tryd.f77, List.getD, List.getElem?_cons_zero, List.getElem?_cons_succ, Option.getD_some]
@[simp] theorem n77_97 (s : List V) (H : Heap) : evCode P Γ call n f m (cAt [1, 1, 1, 1, 1, 1, 1, 1, 0, 0, 0, 1, 0, 1, 1, 1, 1, 1, 1, 0] B77) s H = regNext (evOpsGo P Γ call r77_97.1 r77_97.1 s H) := at_region (by kernel_rfl) r77_97.2 s H
attribute [simp] r77_97
@[simp] theorem n77_98 (s : List V) (H : Heap) : evCode P Γ call n f m (cAt [1, 1, 1, 1, 1, 1, 1, 1, 0, 0, 0, 1, 0, 1, 1, 1, 1, 1, 1, 1] B77) s H = condW P Γ call n f m (cAt [1, 1, 1, 1, 1, 1, 1, 1, 0, 0, 0, 1, 0, 1, 1, 1, 1, 1, 1, 1, 0] B77) (cAt [1, 1, 1, 1, 1, 1, 1, 1, 0, 0, 0, 1, 0, 1, 1, 1, 1, 1, 1, 1, 1] B77) s H (evOperand Γ s (.tmp 132)) := at_cond (by kernel_rfl) (by kernel_rfl) rfl rfl s H
@[simp] theorem n77_99 (s : List V) (H : Heap) : evCode P Γ call n f m (cAt [1, 1, 1, 1, 1, 1, 1, 1, 0, 0, 0, 1, 0, 1, 1, 1, 1, 1, 1, 1, 0] B77) s H = seqNext P Γ call n f m (cAt [1, 1, 1, 1, 1, 1, 1, 1, 0, 0, 0, 1, 0, 1, 1, 1, 1, 1, 1, 1, 0, 1] B77) (evCode P Γ call n f m (cAt [1, 1, 1, 1, 1, 1, 1, 1, 0, 0, 0, 1, 0, 1, 1, 1, 1, 1, 1, 1, 0, 0] B77) s H) := at_seq (by kernel_rfl) rfl rfl s H
noncomputable def r77_100 : {l : List Oper // opsOf (cAt [1, 1, 1, 1, 1, 1, 1, 1, 0, 0, 0, 1, 0, 1, 1, 1, 1, 1, 1, 1, 0, 0] B77) = l} := by
  apply Subtype.mk
  dsimp only [opsOf, cAt, kids, B77, bodyOf, Tryd.f77, List.getD, List.getElem?_cons_zero, List.getElem?_cons_succ, Option.getD_some]
@[simp] theorem n77_100 (s : List V) (H : Heap) : evCode P Γ call n f m (cAt [1, 1, 1, 1, 1, 1, 1, 1, 0, 0, 0, 1, 0, 1, 1, 1, 1, 1, 1, 1, 0, 0] B77) s H = regNext (evOpsGo P Γ call r77_100.1 r77_100.1 s H) := at_region (by kernel_rfl) r77_100.2 s H
attribute [simp] r77_100
@[simp] theorem n77_101 (s : List V) (H : Heap) : evCode P Γ call n f m (cAt [1, 1, 1, 1, 1, 1, 1, 1, 0, 0, 0, 1, 0, 1, 1, 1, 1, 1, 1, 1, 0, 1] B77) s H = seqNext P Γ call n f m (cAt [1, 1, 1, 1, 1, 1, 1, 1, 0, 0, 0, 1, 0, 1, 1, 1, 1, 1, 1, 1, 0, 1, 1] B77) (evCode P Γ call n f m (cAt [1, 1, 1, 1, 1, 1, 1, 1, 0, 0, 0, 1, 0, 1, 1, 1, 1, 1, 1, 1, 0, 1, 0] B77) s H) := at_seq (by kernel_rfl) rfl rfl s H
@[simp] theorem n77_102 (s : List V) (H : Heap) : evCode P Γ call n f m (cAt [1, 1, 1, 1, 1, 1, 1, 1, 0, 0, 0, 1, 0, 1, 1, 1, 1, 1, 1, 1, 0, 1, 0] B77) s H = seqNext P Γ call n f m (cAt [1, 1, 1, 1, 1, 1, 1, 1, 0, 0, 0, 1, 0, 1, 1, 1, 1, 1, 1, 1, 0, 1, 0, 1] B77) (evCode P Γ call n f m (cAt [1, 1, 1, 1, 1, 1, 1, 1, 0, 0, 0, 1, 0, 1, 1, 1, 1, 1, 1, 1, 0, 1, 0, 0] B77) s H) := at_seq (by kernel_rfl) rfl rfl s H
noncomputable def r77_103 : {l : List Oper // opsOf (cAt [1, 1, 1, 1, 1, 1, 1, 1, 0, 0, 0, 1, 0, 1, 1, 1, 1, 1, 1, 1, 0, 1, 0, 0] B77) = l} := by
  apply Subtype.mk
  dsimp only [opsOf, cAt, kids, B77, bodyOf, Tryd.f77, List.getD, List.getElem?_cons_zero, List.getElem?_cons_succ, Option.getD_some]
@[simp] theorem n77_103 (s : List V) (H : Heap) : evCode P Γ call n f m (cAt [1, 1, 1, 1, 1, 1, 1, 1, 0, 0, 0, 1, 0, 1, 1, 1, 1, 1, 1, 1, 0, 1, 0, 0] B77) s H = regNext (evOpsGo P Γ call r77_103.1 r77_103.1 s H) := at_region (by kernel_rfl) r77_103.2 s H
attribute [simp] r77_103
@[simp] theorem n77_104 (s : List V) (H : Heap) : evCode P Γ call n f m (cAt [1, 1, 1, 1, 1, 1, 1, 1, 0, 0, 0, 1, 0, 1, 1, 1, 1, 1, 1, 1, 0, 1, 0, 1] B77) s H = condW P Γ call n f m (cAt [1, 1, 1, 1, 1, 1, 1, 1, 0, 0, 0, 1, 0, 1, 1, 1, 1, 1, 1, 1, 0, 1, 0, 1, 0] B77) (cAt [1, 1, 1, 1, 1, 1, 1, 1, 0, 0, 0, 1, 0, 1, 1, 1, 1, 1, 1, 1, 0, 1, 0, 1, 1] B77) s H (evOperand Γ s (.tmp 139)) := at_cond (by kernel_rfl) (by kernel_rfl) rfl rfl s H
@[simp] theorem n77_105 (s : List V) (H : Heap) : evCode P Γ call n f m (cAt [1, 1, 1, 1, 1, 1, 1, 1, 0, 0, 0, 1, 0, 1, 1, 1, 1, 1, 1, 1, 0, 1, 0, 1, 0] B77) s H = seqNext P Γ call n f m (cAt [1, 1, 1, 1, 1, 1, 1, 1, 0, 0, 0, 1, 0, 1, 1, 1, 1, 1, 1, 1, 0, 1, 0, 1, 0, 1] B77) (evCode P Γ call n f m (cAt [1, 1, 1, 1, 1, 1, 1, 1, 0, 0, 0, 1, 0, 1, 1, 1, 1, 1, 1, 1, 0, 1, 0, 1, 0, 0] B77) s H) := at_seq (by kernel_rfl) rfl rfl s H
noncomputable def r77_106 : {l : List Oper // opsOf (cAt [1, 1, 1, 1, 1, 1, 1, 1, 0, 0, 0, 1, 0, 1, 1, 1, 1, 1, 1, 1, 0, 1, 0, 1, 0, 0] B77) = l} := by
  apply Subtype.mk
  dsimp only [opsOf, cAt, kids, B77, bodyOf, Tryd.f77, List.getD, List.getElem?_cons_zero, List.getElem?_cons_succ, Option.getD_some]
@[simp] theorem n77_106 (s : List V) (H : Heap) : evCode P Γ call n f m (cAt [1, 1, 1, 1, 1, 1, 1, 1, 0, 0, 0, 1, 0, 1, 1, 1, 1, 1, 1, 1, 0, 1, 0, 1, 0, 0] B77) s H = regNext (evOpsGo P Γ call r77_106.1 r77_106.1 s H) := at_region (by kernel_rfl) r77_106.2 s H
attribute [simp] r77_106
@[simp] theorem n77_107 (s : List V) (H : Heap) : evCode P Γ call n f m (cAt [1, 1, 1, 1, 1, 1, 1, 1, 0, 0, 0, 1, 0, 1, 1, 1, 1, 1, 1, 1, 0, 1, 0, 1, 0, 1] B77) s H = some (.ret, s, H) := at_ret (by kernel_rfl) s H
@[simp] theorem n77_108 (s : List V) (H : Heap) : evCode P Γ call n f m (cAt [1, 1, 1, 1, 1, 1, 1, 1, 0, 0, 0, 1, 0, 1, 1, 1, 1, 1, 1, 1, 0, 1, 0, 1, 1] B77) s H = some (.normal, s, H) := at_skip (by kernel_rfl) s H
@[simp] theorem n77_109 (s : List V) (H : Heap) : evCode P Γ call n f m (cAt [1, 1, 1, 1, 1, 1, 1, 1, 0, 0, 0, 1, 0, 1, 1, 1, 1, 1, 1, 1, 0, 1, 1] B77) s H = seqNext P Γ call n f m (cAt [1, 1, 1, 1, 1, 1, 1, 1, 0, 0, 0, 1, 0, 1, 1, 1, 1, 1, 1, 1, 0, 1, 1, 1] B77) (evCode P Γ call n f m (cAt [1, 1, 1, 1, 1, 1, 1, 1, 0, 0, 0, 1, 0, 1, 1, 1, 1, 1, 1, 1, 0, 1, 1, 0] B77) s H) := at_seq (by kernel_rfl) rfl rfl s H
noncomputable def r77_110 : {l : List Oper // opsOf (cAt [1, 1, 1, 1, 1, 1, 1, 1, 0, 0, 0, 1, 0, 1, 1, 1, 1, 1, 1, 1, 0, 1, 1, 0] B77) = l} := by
  apply Subtype.mk
  dsimp only [opsOf, cAt, kids, B77, bodyOf, Tryd.f77, List.getD, List.getElem?_cons_zero, List.getElem?_cons_succ, Option.getD_some]
@[simp] theorem n77_110 (s : List V) (H : Heap) : evCode P Γ call n f m (cAt [1, 1, 1, 1, 1, 1, 1, 1, 0, 0, 0, 1, 0, 1, 1, 1, 1, 1, 1, 1, 0, 1, 1, 0] B77) s H = regNext (evOpsGo P Γ call r77_110.1 r77_110.1 s H) := at_region (by kernel_rfl) r77_110.2 s H
attribute [simp] r77_110
@[simp] theorem n77_111 (s : List V) (H : Heap) : evCode P Γ call n f m (cAt [1, 1, 1, 1, 1, 1, 1, 1, 0, 0, 0, 1, 0, 1, 1, 1, 1, 1, 1, 1, 0, 1, 1, 1] B77) s H = some (.ret, s, H) := at_ret (by kernel_rfl) s H
@[simp] theorem n77_112 (s : List V) (H : Heap) : evCode P Γ call n f m (cAt [1, 1, 1, 1, 1, 1, 1, 1, 0, 0, 0, 1, 0, 1, 1, 1, 1, 1, 1, 1, 1] B77) s H = some (.normal, s, H) := at_skip (by kernel_rfl) s H
@[simp] theorem n77_113 (s : List V) (H : Heap) : evCode P Γ call n f m (cAt [1, 1, 1, 1, 1, 1, 1, 1, 1] B77) s H = seqNext P Γ call n f m (cAt [1, 1, 1, 1, 1, 1, 1, 1, 1, 1] B77) (evCode P Γ call n f m (cAt [1, 1, 1, 1, 1, 1, 1, 1, 1, 0] B77) s H) := at_seq (by kernel_rfl) rfl rfl s H
noncomputable def r77_114 : {l : List Oper // opsOf (cAt [1, 1, 1, 1, 1, 1, 1, 1, 1, 0] B77) = l} := by
  apply Subtype.mk
  dsimp only [opsOf, cAt, kids, B77, bodyOf, Tryd.f77, List.getD, List.getElem?_cons_zero, List.getElem?_cons_succ, Option.getD_some]
@[simp] theorem n77_114 (s : List V) (H : Heap) : evCode P Γ call n f m (cAt [1, 1, 1, 1, 1, 1, 1, 1, 1, 0] B77) s H = regNext (evOpsGo P Γ call r77_114.1 r77_114.1 s H) := at_region (by kernel_rfl) r77_114.2 s H
attribute [simp] r77_114
@[simp] theorem n77_115 (s : List V) (H : Heap) : evCode P Γ call n f m (cAt [1, 1, 1, 1, 1, 1, 1, 1, 1, 1] B77) s H = some (.ret, s, H) := at_ret (by kernel_rfl) s H
theorem b77 {k : Nat} (ho : ∀ args H, Γ.orc 77 args H = none) (args : List V) (H : Heap) (ha : args.length ≤ 143) : evF Tryd.prog Γ (k + 1) 77 args H = bodyEnd Tryd.prog [.tmp 4] H.length (evCode Tryd.prog Γ (evF Tryd.prog Γ k) k 77 H.length (cAt [] B77) (mkL 143 V.undef (enumV 0 args)) H) := body_at Tryd.func77 (by decide) rfl ho rfl rfl args H ha
noncomputable def B78 : Code := bodyOf Tryd.f78
@[simp] theorem n78_1 (s : List V) (H : Heap) : evCode P Γ call n f m (cAt [] B78) s H = seqNext P Γ call n f m (cAt [1] B78) (evCode P Γ call n f m (cAt [0] B78) s H) := at_seq (by kernel_rfl) rfl rfl s H
noncomputable def r78_2 : {l : List Oper // opsOf (cAt [0] B78) = l} := by
  apply Subtype.mk
  dsimp only [opsOf, cAt, kids, B78, bodyOf, Tryd.f78, List.getD, List.getElem?_cons_zero, List.getElem?_cons_succ, Option.getD_some]
@[simp] theorem n78_2 (s : List V) (H : Heap) : evCode P Γ call n f m (cAt [0] B78) s H = regNext (evOpsGo P Γ call r78_2.1 r78_2.1 s H) := at_region (by kernel_rfl) r78_2.2 s H
attribute [simp] r78_2
@[simp] theorem n78_3 (s : List V) (H : Heap) : evCode P Γ call n f m (cAt [1] B78) s H = seqNext P Γ call n f m (cAt [1, 1] B78) (evCode P Γ call n f m (cAt [1, 0] B78) s H) := at_seq (by kernel_rfl) rfl rfl s H
@[simp] theorem n78_4 (s : List V) (H : Heap) : evCode P Γ call n f m (cAt [1, 0] B78) s H = seqNext P Γ call n f m (cAt [1, 0, 1] B78) (evCode P Γ call n f m (cAt [1, 0, 0] B78) s H) := at_seq (by kernel_rfl) rfl rfl s H
noncomputable def r78_5 : {l : List Oper // opsOf (cAt [1, 0, 0] B78) = l} := by
  apply Subtype.mk
  dsimp only [opsOf, cAt, kids, B78, bodyOf, Tryd.f78, List.getD, List.getElem?_cons_zero, List.getElem?_cons_succ, Option.getD_some]
@[simp] theorem n78_5 (s : List V) (H : Heap) : evCode P Γ call n f m (cAt [1, 0, 0] B78) s H = regNext (evOpsGo P Γ call r78_5.1 r78_5.1 s H) := at_region (by kernel_rfl) r78_5.2 s H
attribute [simp] r78_5
@[simp] theorem n78_6 (s : List V) (H : Heap) : evCode P Γ call n f m (cAt [1, 0, 1] B78) s H = blockNext 0 (evCode P Γ call n f m (cAt [1, 0, 1, 0] B78) s H) := at_block (by kernel_rfl) rfl s H
@[simp] theorem n78_7 (s : List V) (H : Heap) : evCode P Γ call n f m (cAt [1, 0, 1, 0] B78) s H = evLoopC P Γ call n f m (cAt [1, 0, 1, 0, 0] B78) n s H := at_loop (by kernel_rfl) rfl s H
noncomputable abbrev L78_2 : Code := cAt [1, 0, 1, 0, 0] B78
@[simp] theorem n78_7f : firstRegion (cAt [1, 0, 1, 0, 0] B78) = 2 := by kernel_rfl
@[simp] theorem n78_8 (s : List V) (H : Heap) : evCode P Γ call n f m (cAt [1, 0, 1, 0, 0] B78) s H = seqNext P Γ call n f m (cAt [1, 0, 1, 0, 0, 1] B78) (evCode P Γ call n f m (cAt [1, 0, 1, 0, 0, 0] B78) s H) := at_seq (by kernel_rfl) rfl rfl s H
noncomputable def r78_9 : {l : List Oper // opsOf (cAt [1, 0, 1, 0, 0, 0] B78) = l} := by
  apply Subtype.mk
  dsimp only [opsOf, cAt, kids, B78, bodyOf, Tryd.f78, List.getD, List.getElem?_cons_zero, List.getElem?_cons_succ, Option.getD_some]
@[simp] theorem n78_9 (s : List V) (H : Heap) : evCode P Γ call n f m (cAt [1, 0, 1, 0, 0, 0] B78) s H = regNext (evOpsGo P Γ call r78_9.1 r78_9.1 s H) := at_region (by kernel_rfl) r78_9.2 s H
attribute [simp] r78_9
@[simp] theorem n78_10 (s : List V) (H : Heap) : evCode P Γ call n f m (cAt [1, 0, 1, 0, 0, 1] B78) s H = seqNext P Γ call n f m (cAt [1, 0, 1, 0, 0, 1, 1] B78) (evCode P Γ call n f m (cAt [1, 0, 1, 0, 0, 1, 0] B78) s H) := at_seq (by kernel_rfl) rfl rfl s H
@[simp] theorem n78_11 (s : List V) (H : Heap) : evCode P Γ call n f m (cAt [1, 0, 1, 0, 0, 1, 0] B78) s H = condW P Γ call n f m (cAt [1, 0, 1, 0, 0, 1, 0, 0] B78) (cAt [1, 0, 1, 0, 0, 1, 0, 1] B78) s H (evOperand Γ s (.tmp 9)) := at_cond (by kernel_rfl) (by kernel_rfl) rfl rfl s H
@[simp] theorem n78_12 (s : List V) (H : Heap) : evCode P Γ call n f m (cAt [1, 0, 1, 0, 0, 1, 0, 0] B78) s H = some (.normal, s, H) := at_skip (by kernel_rfl) s H
@[simp] theorem n78_13 (s : List V) (H : Heap) : evCode P Γ call n f m (cAt [1, 0, 1, 0, 0, 1, 0, 1] B78) s H = some (.exit 0, s, H) := at_exit (by kernel_rfl) s H
@[simp] theorem n78_14 (s : List V) (H : Heap) : evCode P Γ call n f m (cAt [1, 0, 1, 0, 0, 1, 1] B78) s H = seqNext P Γ call n f m (cAt [1, 0, 1, 0, 0, 1, 1, 1] B78) (evCode P Γ call n f m (cAt [1, 0, 1, 0, 0, 1, 1, 0] B78) s H) := at_seq (by kernel_rfl) rfl rfl s H
@[simp] theorem n78_15 (s : List V) (H : Heap) : evCode P Γ call n f m (cAt [1, 0, 1, 0, 0, 1, 1, 0] B78) s H = blockNext 1 (evCode P Γ call n f m (cAt [1, 0, 1, 0, 0, 1, 1, 0, 0] B78) s H) := at_block (by kernel_rfl) rfl s H
@[simp] theorem n78_16 (s : List V) (H : Heap) : evCode P Γ call n f m (cAt [1, 0, 1, 0, 0, 1, 1, 0, 0] B78) s H = seqNext P Γ call n f m (cAt [1, 0, 1, 0, 0, 1, 1, 0, 0, 1] B78) (evCode P Γ call n f m (cAt [1, 0, 1, 0, 0, 1, 1, 0, 0, 0] B78) s H) := at_seq (by kernel_rfl) rfl rfl s H
noncomputable def r78_17 : {l : List Oper // opsOf (cAt [1, 0, 1, 0, 0, 1, 1, 0, 0, 0] B78) = l} := by
  apply Subtype.mk
  dsimp only [opsOf, cAt, kids, B78, bodyOf, Tryd.f78, List.getD, List.getElem?_cons_zero, List.getElem?_cons_succ, Option.getD_some]
@[simp] theorem n78_17 (s : List V) (H : Heap) : evCode P Γ call n f m (cAt [1, 0, 1, 0, 0, 1, 1, 0, 0, 0] B78) s H = regNext (evOpsGo P Γ call r78_17.1 r78_17.1 s H) := at_region (by kernel_rfl) r78_17.2 s H
attribute [simp] r78_17
@[simp] theorem n78_18 (s : List V) (H : Heap) : evCode P Γ call n f m (cAt [1, 0, 1, 0, 0, 1, 1, 0, 0, 1] B78) s H = seqNext P Γ call n f m (cAt [1, 0, 1, 0, 0, 1, 1, 0, 0, 1, 1] B78) (evCode P Γ call n f m (cAt [1, 0, 1, 0, 0, 1, 1, 0, 0, 1, 0] B78) s H) := at_seq (by kernel_rfl) rfl rfl s H
noncomputable def r78_19 : {l : List Oper // opsOf (cAt [1, 0, 1, 0, 0, 1, 1, 0, 0, 1, 0] B78) = l} := by
  apply Subtype.mk
  dsimp only [opsOf, cAt, kids, B78, bodyOf, Tryd.f78, List.getD, List.getElem?_cons_zero, List.getElem?_cons_succ, Option.getD_some]
@[simp] theorem n78_19 (s : List V) (H : Heap) : evCode P Γ call n f m (cAt [1, 0, 1, 0, 0, 1, 1, 0, 0, 1, 0] B78) s H = regNext (evOpsGo P Γ call r78_19.1 r78_19.1 s H) := at_region (by kernel_rfl) r78_19.2 s H
attribute [simp] r78_19
@[simp] theorem n78_20 (s : List V) (H : Heap) : evCode P Γ call n f m (cAt [1, 0, 1, 0, 0, 1, 1, 0, 0, 1, 1] B78) s H = condW P Γ call n f m (cAt [1, 0, 1, 0, 0, 1, 1, 0, 0, 1, 1, 0] B78) (cAt [1, 0, 1, 0, 0, 1, 1, 0, 0, 1, 1, 1] B78) s H (evOperand Γ s (.tmp 16)) := at_cond (by kernel_rfl) (by kernel_rfl) rfl rfl s H
@[simp] theorem n78_21 (s : List V) (H : Heap) : evCode P Γ call n f m (cAt [1, 0, 1, 0, 0, 1, 1, 0, 0, 1, 1, 0] B78) s H = seqNext P Γ call n f m (cAt [1, 0, 1, 0, 0, 1, 1, 0, 0, 1, 1, 0, 1] B78) (evCode P Γ call n f m (cAt [1, 0, 1, 0, 0, 1, 1, 0, 0, 1, 1, 0, 0] B78) s H) := at_seq (by kernel_rfl) rfl rfl s H
noncomputable def r78_22 : {l : List Oper // opsOf (cAt [1, 0, 1, 0, 0, 1, 1, 0, 0, 1, 1, 0, 0] B78) = l} := by
  apply Subtype.mk
  dsimp only [opsOf, cAt, kids, B78, bodyOf, Tryd.f78, List.getD, List.getElem?_cons_zero, List.getElem?_cons_succ, Option.getD_some]
@[simp] theorem n78_22 (s : List V) (H : Heap) : evCode P Γ call n f m (cAt [1, 0, 1, 0, 0, 1, 1, 0, 0, 1, 1, 0, 0] B78) s H = regNext (evOpsGo P Γ call r78_22.1 r78_22.1 s H) := at_region (by kernel_rfl) r78_22.2 s H
attribute [simp] r78_22
@[simp] theorem n78_23 (s : List V) (H : Heap) : evCode P Γ call n f m (cAt [1, 0, 1, 0, 0, 1, 1, 0, 0, 1, 1, 0, 1] B78) s H = some (.ret, s, H) := at_ret (by kernel_rfl) s H
@[simp] theorem n78_24 (s : List V) (H : Heap) : evCode P Γ call n f m (cAt [1, 0, 1, 0, 0, 1, 1, 0, 0, 1, 1, 1] B78) s H = some (.normal, s, H) := at_skip (by kernel_rfl) s H
noncomputable def r78_25 : {l : List Oper // opsOf (cAt [1, 0, 1, 0, 0, 1, 1, 1] B78) = l} := by
  apply Subtype.mk
  dsimp only [opsOf, cAt, kids, B78, bodyOf, Tryd.f78, List.getD, List.getElem?_cons_zero, List.getElem?_cons_succ, Option.getD_some]
@[simp] theorem n78_25 (s : List V) (H : Heap) : evCode P Γ call n f m (cAt [1, 0, 1, 0, 0, 1, 1, 1] B78) s H = regNext (evOpsGo P Γ call r78_25.1 r78_25.1 s H) := at_region (by kernel_rfl) r78_25.2 s H
attribute [simp] r78_25
@[simp] theorem n78_26 (s : List V) (H : Heap) : evCode P Γ call n f m (cAt [1, 1] B78) s H = seqNext P Γ call n f m (cAt [1, 1, 1] B78) (evCode P Γ call n f m (cAt [1, 1, 0] B78) s H) := at_seq (by kernel_rfl) rfl rfl s H
noncomputable def r78_27 : {l : List Oper // opsOf (cAt [1, 1, 0] B78) = l} := by
  apply Subtype.mk
  dsimp only [opsOf, cAt, kids, B78, bodyOf, Tryd.f78, List.getD, List.getElem?_cons_zero, List.getElem?_cons_succ, Option.getD_some]
@[simp] theorem n78_27 (s : List V) (H : Heap) : evCode P Γ call n f m (cAt [1, 1, 0] B78) s H = regNext (evOpsGo P Γ call r78_27.1 r78_27.1 s H) := at_region (by kernel_rfl) r78_27.2 s H
attribute [simp] r78_27
@[simp] theorem n78_28 (s : List V) (H : Heap) : evCode P Γ call n f m (cAt [1, 1, 1] B78) s H = some (.ret, s, H) := at_ret (by kernel_rfl) s H
theorem b78 {k : Nat} (ho : ∀ args H, Γ.orc 78 args H = none) (args : List V) (H : Heap) (ha : args.length ≤ 19) : evF Tryd.prog Γ (k + 1) 78 args H = bodyEnd Tryd.prog [.tmp 4] H.length (evCode Tryd.prog Γ (evF Tryd.prog Γ k) k 78 H.length (cAt [] B78) (mkL 19 V.undef (enumV 0 args)) H) := body_at Tryd.func78 (by decide) rfl ho rfl rfl args H ha
noncomputable def B80 : Code := bodyOf Tryd.f80
@[simp] theorem n80_1 (s : List V) (H : Heap) : evCode P Γ call n f m (cAt [] B80) s H = seqNext P Γ call n f m (cAt [1] B80) (evCode P Γ call n f m (cAt [0] B80) s H) := at_seq (by kernel_rfl) rfl rfl s H
noncomputable def r80_2 : {l : List Oper // opsOf (cAt [0] B80) = l} := by
  apply Subtype.mk
  dsimp only [opsOf, cAt, kids, B80, bodyOf, Tryd.f80, List.getD, List.getElem?_cons_zero, List.getElem?_cons_succ, Option.getD_some]
@[simp] theorem n80_2 (s : List V) (H : Heap) : evCode P Γ call n f m (cAt [0] B80) s H = regNext (evOpsGo P Γ call r80_2.1 r80_2.1 s H) := at_region (by kernel_rfl) r80_2.2 s H
attribute [simp] r80_2
@[simp] theorem n80_3 (s : List V) (H : Heap) : evCode P Γ call n f m (cAt [1] B80) s H = seqNext P Γ call n f m (cAt [1, 1] B80) (evCode P Γ call n f m (cAt [1, 0] B80) s H) := at_seq (by kernel_rfl) rfl rfl s H
@[simp] theorem n80_4 (s : List V) (H : Heap) : evCode P Γ call n f m (cAt [1, 0] B80) s H = seqNext P Γ call n f m (cAt [1, 0, 1] B80) (evCode P Γ call n f m (cAt [1, 0, 0] B80) s H) := at_seq (by kernel_rfl) rfl rfl s H
noncomputable def r80_5 : {l : List Oper // opsOf (cAt [1, 0, 0] B80) = l} := by
  apply Subtype.mk
  dsimp only [opsOf, cAt, kids, B80, bodyOf, Tryd.f80, List.getD, List.getElem?_cons_zero, List.getElem?_cons_succ, Option.getD_some]
@[simp] theorem n80_5 (s : List V) (H : Heap) : evCode P Γ call n f m (cAt [1, 0, 0] B80) s H = regNext (evOpsGo P Γ call r80_5.1 r80_5.1 s H) := at_region (by kernel_rfl) r80_5.2 s H
attribute [simp] r80_5
@[simp] theorem n80_6 (s : List V) (H : Heap) : evCode P Γ call n f m (cAt [1, 0, 1] B80) s H = condW P Γ call n f m (cAt [1, 0, 1, 0] B80) (cAt [1, 0, 1, 1] B80) s H (evOperand Γ s (.tmp 9)) := at_cond (by kernel_rfl) (by kernel_rfl) rfl rfl s H
@[simp] theorem n80_7 (s : List V) (H : Heap) : evCode P Γ call n f m (cAt [1, 0, 1, 0] B80) s H = seqNext P Γ call n f m (cAt [1, 0, 1, 0, 1] B80) (evCode P Γ call n f m (cAt [1, 0, 1, 0, 0] B80) s H) := at_seq (by kernel_rfl) rfl rfl s H
noncomputable def r80_8 : {l : List Oper // opsOf (cAt [1, 0, 1, 0, 0] B80) = l} := by
  apply Subtype.mk
  dsimp only [opsOf, cAt, kids, B80, bodyOf, Tryd.f80, List.getD, List.getElem?_cons_zero, List.getElem?_cons_succ, Option.getD_some]
@[simp] theorem n80_8 (s : List V) (H : Heap) : evCode P Γ call n f m (cAt [1, 0, 1, 0, 0] B80) s H = regNext (evOpsGo P Γ call r80_8.1 r80_8.1 s H) := at_region (by kernel_rfl) r80_8.2 s H
attribute [simp] r80_8
@[simp] theorem n80_9 (s : List V) (H : Heap) : evCode P Γ call n f m (cAt [1, 0, 1, 0, 1] B80) s H = some (.ret, s, H) := at_ret (by kernel_rfl) s H
@[simp] theorem n80_10 (s : List V) (H : Heap) : evCode P Γ call n f m (cAt [1, 0, 1, 1] B80) s H = some (.normal, s, H) := at_skip (by kernel_rfl) s H
@[simp] theorem n80_11 (s : List V) (H : Heap) : evCode P Γ call n f m (cAt [1, 1] B80) s H = seqNext P Γ call n f m (cAt [1, 1, 1] B80) (evCode P Γ call n f m (cAt [1, 1, 0] B80) s H) := at_seq (by kernel_rfl) rfl rfl s H
@[simp] theorem n80_12 (s : List V) (H : Heap) : evCode P Γ call n f m (cAt [1, 1, 0] B80) s H = seqNext P Γ call n f m (cAt [1, 1, 0, 1] B80) (evCode P Γ call n f m (cAt [1, 1, 0, 0] B80) s H) := at_seq (by kernel_rfl) rfl rfl s H
noncomputable def r80_13 : {l : List Oper // opsOf (cAt [1, 1, 0, 0] B80) = l} := by
  apply Subtype.mk
  dsimp only [opsOf, cAt, kids, B80, bodyOf, Tryd.f80, List.getD, List.getElem?_cons_zero, List.getElem?_cons_succ, Option.getD_some]
@[simp] theorem n80_13 (s : List V) (H : Heap) : evCode P Γ call n f m (cAt [1, 1, 0, 0] B80) s H = regNext (evOpsGo P Γ call r80_13.1 r80_13.1 s H) := at_region (by kernel_rfl) r80_13.2 s H
attribute [simp] r80_13
@[simp] theorem n80_14 (s : List V) (H : Heap) : evCode P Γ call n f m (cAt [1, 1, 0, 1] B80) s H = condW P Γ call n f m (cAt [1, 1, 0, 1, 0] B80) (cAt [1, 1, 0, 1, 1] B80) s H (evOperand Γ s (.tmp 15)) := at_cond (by kernel_rfl) (by kernel_rfl) rfl rfl s H
@[simp] theorem n80_15 (s : List V) (H : Heap) : evCode P Γ call n f m (cAt [1, 1, 0, 1, 0] B80) s H = seqNext P Γ call n f m (cAt [1, 1, 0, 1, 0, 1] B80) (evCode P Γ call n f m (cAt [1, 1, 0, 1, 0, 0] B80) s H) := at_seq (by kernel_rfl) rfl rfl s H
noncomputable def r80_16 : {l : List Oper // opsOf (cAt [1, 1, 0, 1, 0, 0] B80) = l} := by
  apply Subtype.mk
  dsimp only [opsOf, cAt, kids, B80, bodyOf, Tryd.f80, List.getD, List.getElem?_cons_zero, List.getElem?_cons_succ, Option.getD_some]
@[simp] theorem n80_16 (s : List V) (H : Heap) : evCode P Γ call n f m (cAt [1, 1, 0, 1, 0, 0] B80) s H = regNext (evOpsGo P Γ call r80_16.1 r80_16.1 s H) := at_region (by kernel_rfl) r80_16.2 s H
attribute [simp] r80_16
@[simp] theorem n80_17 (s : List V) (H : Heap) : evCode P Γ call n f m (cAt [1, 1, 0, 1, 0, 1] B80) s H = some (.ret, s, H) := at_ret (by kernel_rfl) s H
@[simp] theorem n80_18 (s : List V) (H : Heap) : evCode P Γ call n f m (cAt [1, 1, 0, 1, 1] B80) s H = some (.normal, s, H) := at_skip (by kernel_rfl) s H
@[simp] theorem n80_19 (s : List V) (H : Heap) : evCode P Γ call n f m (cAt [1, 1, 1] B80) s H = seqNext P Γ call n f m (cAt [1, 1, 1, 1] B80) (evCode P Γ call n f m (cAt [1, 1, 1, 0] B80) s H) := at_seq (by kernel_rfl) rfl rfl s H
noncomputable def r80_20 : {l : List Oper // opsOf (cAt [1, 1, 1, 0] B80) = l} := by
  apply Subtype.mk
  dsimp only [opsOf, cAt, kids, B80, bodyOf, Tryd.f80, List.getD, List.getElem?_cons_zero, List.getElem?_cons_succ, Option.getD_some]
@[simp] theorem n80_20 (s : List V) (H : Heap) : evCode P Γ call n f m (cAt [1, 1, 1, 0] B80) s H = regNext (evOpsGo P Γ call r80_20.1 r80_20.1 s H) := at_region (by kernel_rfl) r80_20.2 s H
attribute [simp] r80_20
@[simp] theorem n80_21 (s : List V) (H : Heap) : evCode P Γ call n f m (cAt [1, 1, 1, 1] B80) s H = blockNext 0 (evCode P Γ call n f m (cAt [1, 1, 1, 1, 0] B80) s H) := at_block (by kernel_rfl) rfl s H
@[simp] theorem n80_22 (s : List V) (H : Heap) : evCode P Γ call n f m (cAt [1, 1, 1, 1, 0] B80) s H = evLoopC P Γ call n f m (cAt [1, 1, 1, 1, 0, 0] B80) n s H := at_loop (by kernel_rfl) rfl s H
noncomputable abbrev L80_6 : Code := cAt [1, 1, 1, 1, 0, 0] B80
@[simp] theorem n80_22f : firstRegion (cAt [1, 1, 1, 1, 0, 0] B80) = 6 := by kernel_rfl
@[simp] theorem n80_23 (s : List V) (H : Heap) : evCode P Γ call n f m (cAt [1, 1, 1, 1, 0, 0] B80) s H = blockNext 1 (evCode P Γ call n f m (cAt [1, 1, 1, 1, 0, 0, 0] B80) s H) := at_block (by kernel_rfl) rfl s H
@[simp] theorem n80_24 (s : List V) (H : Heap) : evCode P Γ call n f m (cAt [1, 1, 1, 1, 0, 0, 0] B80) s H = seqNext P Γ call n f m (cAt [1, 1, 1, 1, 0, 0, 0, 1] B80) (evCode P Γ call n f m (cAt [1, 1, 1, 1, 0, 0, 0, 0] B80) s H) := at_seq (by kernel_rfl) rfl rfl s H
noncomputable def r80_25 : {l : List Oper // opsOf (cAt [1, 1, 1, 1, 0, 0, 0, 0] B80) = l} := by
  apply Subtype.mk
  dsimp only [opsOf, cAt, kids, B80, bodyOf, Tryd.f80, List.getD, List.getElem?_cons_zero, List.getElem?_cons_succ, Option.getD_some]
@[simp] theorem n80_25 (s : List V) (H : Heap) : evCode P Γ call n f m (cAt [1, 1, 1, 1, 0, 0, 0, 0] B80) s H = regNext (evOpsGo P Γ call r80_25.1 r80_25.1 s H) := at_region (by kernel_rfl) r80_25.2 s H
attribute [simp] r80_25
@[simp] theorem n80_26 (s : List V) (H : Heap) : evCode P Γ call n f m (cAt [1, 1, 1, 1, 0, 0, 0, 1] B80) s H = seqNext P Γ call n f m (cAt [1, 1, 1, 1, 0, 0, 0, 1, 1] B80) (evCode P Γ call n f m (cAt [1, 1, 1, 1, 0, 0, 0, 1, 0] B80) s H) := at_seq (by kernel_rfl) rfl rfl s H
@[simp] theorem n80_27 (s : List V) (H : Heap) : evCode P Γ call n f m (cAt [1, 1, 1, 1, 0, 0, 0, 1, 0] B80) s H = seqNext P Γ call n f m (cAt [1, 1, 1, 1, 0, 0, 0, 1, 0, 1] B80) (evCode P Γ call n f m (cAt [1, 1, 1, 1, 0, 0, 0, 1, 0, 0] B80) s H) := at_seq (by kernel_rfl) rfl rfl s H
noncomputable def r80_28 : {l : List Oper // opsOf (cAt [1, 1, 1, 1, 0, 0, 0, 1, 0, 0] B80) = l} := by
  apply Subtype.mk
  dsimp only [opsOf, cAt, kids, B80, bodyOf, Tryd.f80, List.getD, List.getElem?_cons_zero, List.getElem?_cons_succ, Option.getD_some]
@[simp] theorem n80_28 (s : List V) (H : Heap) : evCode P Γ call n f m (cAt [1, 1, 1, 1, 0, 0, 0, 1, 0, 0] B80) s H = regNext (evOpsGo P Γ call r80_28.1 r80_28.1 s H) := at_region (by kernel_rfl) r80_28.2 s H
attribute [simp] r80_28
@[simp] theorem n80_29 (s : List V) (H : Heap) : evCode P Γ call n f m (cAt [1, 1, 1, 1, 0, 0, 0, 1, 0, 1] B80) s H = condW P Γ call n f m (cAt [1, 1, 1, 1, 0, 0, 0, 1, 0, 1, 0] B80) (cAt [1, 1, 1, 1, 0, 0, 0, 1, 0, 1, 1] B80) s H (evOperand Γ s (.tmp 24)) := at_cond (by kernel_rfl) (by kernel_rfl) rfl rfl s H
@[simp] theorem n80_30 (s : List V) (H : Heap) : evCode P Γ call n f m (cAt [1, 1, 1, 1, 0, 0, 0, 1, 0, 1, 0] B80) s H = seqNext P Γ call n f m (cAt [1, 1, 1, 1, 0, 0, 0, 1, 0, 1, 0, 1] B80) (evCode P Γ call n f m (cAt [1, 1, 1, 1, 0, 0, 0, 1, 0, 1, 0, 0] B80) s H) := at_seq (by kernel_rfl) rfl rfl s H
noncomputable def r80_31 : {l : List Oper // opsOf (cAt [1, 1, 1, 1, 0, 0, 0, 1, 0, 1, 0, 0] B80) = l} := by
  apply Subtype.mk
  dsimp only [opsOf, cAt, kids, B80, bodyOf, Tryd.f80, List.getD, List.getElem?_cons_zero, List.getElem?_cons_succ, Option.getD_some]
@[simp] theorem n80_31 (s : List V) (H : Heap) : evCode P Γ call n f m (cAt [1, 1, 1, 1, 0, 0, 0, 1, 0, 1, 0, 0] B80) s H = regNext (evOpsGo P Γ call r80_31.1 r80_31.1 s H) := at_region (by kernel_rfl) r80_31.2 s H
attribute [simp] r80_31
@[simp] theorem n80_32 (s : List V) (H : Heap) : evCode P Γ call n f m (cAt [1, 1, 1, 1, 0, 0, 0, 1, 0, 1, 0, 1] B80) s H = some (.ret, s, H) := at_ret (by kernel_rfl) s H
@[simp] theorem n80_33 (s : List V) (H : Heap) : evCode P Γ call n f m (cAt [1, 1, 1, 1, 0, 0, 0, 1, 0, 1, 1] B80) s H = some (.normal, s, H) := at_skip (by kernel_rfl) s H
@[simp] theorem n80_34 (s : List V) (H : Heap) : evCode P Γ call n f m (cAt [1, 1, 1, 1, 0, 0, 0, 1, 1] B80) s H = seqNext P Γ call n f m (cAt [1, 1, 1, 1, 0, 0, 0, 1, 1, 1] B80) (evCode P Γ call n f m (cAt [1, 1, 1, 1, 0, 0, 0, 1, 1, 0] B80) s H) := at_seq (by kernel_rfl) rfl rfl s H
noncomputable def r80_35 : {l : List Oper // opsOf (cAt [1, 1, 1, 1, 0, 0, 0, 1, 1, 0] B80) = l} := by
  apply Subtype.mk
  dsimp only [opsOf, cAt, kids, B80, bodyOf, Tryd.f80, List.getD, List.getElem?_cons_zero, List.getElem?_cons_succ, Option.getD_some]
@[simp] theorem n80_35 (s : List V) (H : Heap) : evCode P Γ call n f m (cAt [1, 1, 1, 1, 0, 0, 0, 1, 1, 0] B80) s H = regNext (evOpsGo P Γ call r80_35.1 r80_35.1 s H) := at_region (by kernel_rfl) r80_35.2 s H
attribute [simp] r80_35
noncomputable def r80_36 : {l : List Oper // opsOf (cAt [1, 1, 1, 1, 0, 0, 0, 1, 1, 1] B80) = l} := by
  apply Subtype.mk
  dsimp only [opsOf, cAt, kids, B80, bodyOf, Tryd.f80, List.getD, List.getElem?_cons_zero, List.getElem?_cons_succ, Option.getD_some]
@[simp] theorem n80_36 (s : List V) (H : Heap) : evCode P Γ call n f m (cAt [1, 1, 1, 1, 0, 0, 0, 1, 1, 1] B80) s H = regNext (evOpsGo P Γ call r80_36.1 r80_36.1 s H) := at_region (by kernel_rfl) r80_36.2 s H
attribute [simp] r80_36
theorem b80 {k : Nat} (ho : ∀ args H, Γ.orc 80 args H = none) (args : List V) (H : Heap) (ha : args.length ≤ 34) : evF Tryd.prog Γ (k + 1) 80 args H = bodyEnd Tryd.prog [.tmp 4] H.length (evCode Tryd.prog Γ (evF Tryd.prog Γ k) k 80 H.length (cAt [] B80) (mkL 34 V.undef (enumV 0 args)) H) := body_at Tryd.func80 (by decide) rfl ho rfl rfl args H ha
noncomputable def B87 : Code := bodyOf Tryd.f87
@[simp] theorem n87_1 (s : List V) (H : Heap) : evCode P Γ call n f m (cAt [] B87) s H = seqNext P Γ call n f m (cAt [1] B87) (evCode P Γ call n f m (cAt [0] B87) s H) := at_seq (by kernel_rfl) rfl rfl s H
noncomputable def r87_2 : {l : List Oper // opsOf (cAt [0] B87) = l} := by
  apply Subtype.mk
  dsimp only [opsOf, cAt, kids, B87, bodyOf, Tryd.f87, List.getD, List.getElem?_cons_zero, List.getElem?_cons_succ, Option.getD_some]
@[simp] theorem n87_2 (s : List V) (H : Heap) : evCode P Γ call n f m (cAt [0] B87) s H = regNext (evOpsGo P Γ call r87_2.1 r87_2.1 s H) := at_region (by kernel_rfl) r87_2.2 s H
attribute [simp] r87_2
@[simp] theorem n87_3 (s : List V) (H : Heap) : evCode P Γ call n f m (cAt [1] B87) s H = seqNext P Γ call n f m (cAt [1, 1] B87) (evCode P Γ call n f m (cAt [1, 0] B87) s H) := at_seq (by kernel_rfl) rfl rfl s H
noncomputable def r87_4 : {l : List Oper // opsOf (cAt [1, 0] B87) = l} := by
  apply Subtype.mk
  dsimp only [opsOf, cAt, kids, B87, bodyOf, Tryd.f87, List.getD, List.getElem?_cons_zero, List.getElem?_cons_succ, Option.getD_some]
@[simp] theorem n87_4 (s : List V) (H : Heap) : evCode P Γ call n f m (cAt [1, 0] B87) s H = regNext (evOpsGo P Γ call r87_4.1 r87_4.1 s H) := at_region (by kernel_rfl) r87_4.2 s H
attribute [simp] r87_4
@[simp] theorem n87_5 (s : List V) (H : Heap) : evCode P Γ call n f m (cAt [1, 1] B87) s H = some (.ret, s, H) := at_ret (by kernel_rfl) s H
theorem b87 {k : Nat} (ho : ∀ args H, Γ.orc 87 args H = none) (args : List V) (H : Heap) (ha : args.length ≤ 8) : evF Tryd.prog Γ (k + 1) 87 args H = bodyEnd Tryd.prog [.tmp 4] H.length (evCode Tryd.prog Γ (evF Tryd.prog Γ k) k 87 H.length (cAt [] B87) (mkL 8 V.undef (enumV 0 args)) H) := body_at Tryd.func87 (by decide) rfl ho rfl rfl args H ha
end
end Go.Ev.Tryd
