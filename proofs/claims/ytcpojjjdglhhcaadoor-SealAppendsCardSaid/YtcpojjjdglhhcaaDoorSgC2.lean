/-
  CODE BY NAMES, printed by wip/tools/codes.py (own work).
-/
import Derived.Test.YtcpojjjdglhhcaaDoorSgG
set_option maxRecDepth 100000
set_option linter.unusedVariables false
namespace Go.Ev.Tryd
open Go Go.Ev Go.Proofs
section
variable {P : Program} {Γ : Env} {call : CallF} {n f m : Nat}

noncomputable def B4 : Code := bodyOf Tryd.f4
@[simp] theorem n4_1 (s : List V) (H : Heap) : evCode P Γ call n f m (cAt [] B4) s H = seqNext P Γ call n f m (cAt [1] B4) (evCode P Γ call n f m (cAt [0] B4) s H) := at_seq (by kernel_rfl) rfl rfl s H
noncomputable def r4_2 : {l : List Oper // opsOf (cAt [0] B4) = l} := by
  apply Subtype.mk
  dsimp only [opsOf, cAt, kids, B4, bodyOf, Tryd.f4, List.getD, List.getElem?_cons_zero, List.getElem?_cons_succ, Option.getD_some]
@[simp] theorem n4_2 (s : List V) (H : Heap) : evCode P Γ call n f m (cAt [0] B4) s H = regNext (evOpsGo P Γ call r4_2.1 r4_2.1 s H) := at_region (by kernel_rfl) r4_2.2 s H
attribute [simp] r4_2
@[simp] theorem n4_3 (s : List V) (H : Heap) : evCode P Γ call n f m (cAt [1] B4) s H = seqNext P Γ call n f m (cAt [1, 1] B4) (evCode P Γ call n f m (cAt [1, 0] B4) s H) := at_seq (by kernel_rfl) rfl rfl s H
noncomputable def r4_4 : {l : List Oper // opsOf (cAt [1, 0] B4) = l} := by
  apply Subtype.mk
  dsimp only [opsOf, cAt, kids, B4, bodyOf, Tryd.f4, List.getD, List.getElem?_cons_zero, List.getElem?_cons_succ, Option.getD_some]
@[simp] theorem n4_4 (s : List V) (H : Heap) : evCode P Γ call n f m (cAt [1, 0] B4) s H = regNext (evOpsGo P Γ call r4_4.1 r4_4.1 s H) := at_region (by kernel_rfl) r4_4.2 s H
attribute [simp] r4_4
@[simp] theorem n4_5 (s : List V) (H : Heap) : evCode P Γ call n f m (cAt [1, 1] B4) s H = seqNext P Γ call n f m (cAt [1, 1, 1] B4) (evCode P Γ call n f m (cAt [1, 1, 0] B4) s H) := at_seq (by kernel_rfl) rfl rfl s H
noncomputable def r4_6 : {l : List Oper // opsOf (cAt [1, 1, 0] B4) = l} := by
  apply Subtype.mk
  dsimp only [opsOf, cAt, kids, B4, bodyOf, Tryd.f4, List.getD, List.getElem?_cons_zero, List.getElem?_cons_succ, Option.getD_some]
@[simp] theorem n4_6 (s : List V) (H : Heap) : evCode P Γ call n f m (cAt [1, 1, 0] B4) s H = regNext (evOpsGo P Γ call r4_6.1 r4_6.1 s H) := at_region (by kernel_rfl) r4_6.2 s H
attribute [simp] r4_6
@[simp] theorem n4_7 (s : List V) (H : Heap) : evCode P Γ call n f m (cAt [1, 1, 1] B4) s H = seqNext P Γ call n f m (cAt [1, 1, 1, 1] B4) (evCode P Γ call n f m (cAt [1, 1, 1, 0] B4) s H) := at_seq (by kernel_rfl) rfl rfl s H
noncomputable def r4_8 : {l : List Oper // opsOf (cAt [1, 1, 1, 0] B4) = l} := by
  apply Subtype.mk
  dsimp only [opsOf, cAt, kids, B4, bodyOf, Tryd.f4, List.getD, List.getElem?_cons_zero, List.getElem?_cons_succ, Option.getD_some]
@[simp] theorem n4_8 (s : List V) (H : Heap) : evCode P Γ call n f m (cAt [1, 1, 1, 0] B4) s H = regNext (evOpsGo P Γ call r4_8.1 r4_8.1 s H) := at_region (by kernel_rfl) r4_8.2 s H
attribute [simp] r4_8
@[simp] theorem n4_9 (s : List V) (H : Heap) : evCode P Γ call n f m (cAt [1, 1, 1, 1] B4) s H = seqNext P Γ call n f m (cAt [1, 1, 1, 1, 1] B4) (evCode P Γ call n f m (cAt [1, 1, 1, 1, 0] B4) s H) := at_seq (by kernel_rfl) rfl rfl s H
@[simp] theorem n4_10 (s : List V) (H : Heap) : evCode P Γ call n f m (cAt [1, 1, 1, 1, 0] B4) s H = seqNext P Γ call n f m (cAt [1, 1, 1, 1, 0, 1] B4) (evCode P Γ call n f m (cAt [1, 1, 1, 1, 0, 0] B4) s H) := at_seq (by kernel_rfl) rfl rfl s H
noncomputable def r4_11 : {l : List Oper // opsOf (cAt [1, 1, 1, 1, 0, 0] B4) = l} := by
  apply Subtype.mk
  dsimp only [opsOf, cAt, kids, B4, bodyOf, Tryd.f4, List.getD, List.getElem?_cons_zero, List.getElem?_cons_succ, Option.getD_some]
@[simp] theorem n4_11 (s : List V) (H : Heap) : evCode P Γ call n f m (cAt [1, 1, 1, 1, 0, 0] B4) s H = regNext (evOpsGo P Γ call r4_11.1 r4_11.1 s H) := at_region (by kernel_rfl) r4_11.2 s H
attribute [simp] r4_11
@[simp] theorem n4_12 (s : List V) (H : Heap) : evCode P Γ call n f m (cAt [1, 1, 1, 1, 0, 1] B4) s H = blockNext 0 (evCode P Γ call n f m (cAt [1, 1, 1, 1, 0, 1, 0] B4) s H) := at_block (by kernel_rfl) rfl s H
@[simp] theorem n4_13 (s : List V) (H : Heap) : evCode P Γ call n f m (cAt [1, 1, 1, 1, 0, 1, 0] B4) s H = evLoopC P Γ call n f m (cAt [1, 1, 1, 1, 0, 1, 0, 0] B4) n s H := at_loop (by kernel_rfl) rfl s H
noncomputable abbrev L4_5 : Code := cAt [1, 1, 1, 1, 0, 1, 0, 0] B4
@[simp] theorem n4_13f : firstRegion (cAt [1, 1, 1, 1, 0, 1, 0, 0] B4) = 5 := by kernel_rfl
@[simp] theorem n4_14 (s : List V) (H : Heap) : evCode P Γ call n f m (cAt [1, 1, 1, 1, 0, 1, 0, 0] B4) s H = seqNext P Γ call n f m (cAt [1, 1, 1, 1, 0, 1, 0, 0, 1] B4) (evCode P Γ call n f m (cAt [1, 1, 1, 1, 0, 1, 0, 0, 0] B4) s H) := at_seq (by kernel_rfl) rfl rfl s H
noncomputable def r4_15 : {l : List Oper // opsOf (cAt [1, 1, 1, 1, 0, 1, 0, 0, 0] B4) = l} := by
  apply Subtype.mk
  dsimp only [opsOf, cAt, kids, B4, bodyOf, Tryd.f4, List.getD, List.getElem?_cons_zero, List.getElem?_cons_succ, Option.getD_some]
@[simp] theorem n4_15 (s : List V) (H : Heap) : evCode P Γ call n f m (cAt [1, 1, 1, 1, 0, 1, 0, 0, 0] B4) s H = regNext (evOpsGo P Γ call r4_15.1 r4_15.1 s H) := at_region (by kernel_rfl) r4_15.2 s H
attribute [simp] r4_15
@[simp] theorem n4_16 (s : List V) (H : Heap) : evCode P Γ call n f m (cAt [1, 1, 1, 1, 0, 1, 0, 0, 1] B4) s H = seqNext P Γ call n f m (cAt [1, 1, 1, 1, 0, 1, 0, 0, 1, 1] B4) (evCode P Γ call n f m (cAt [1, 1, 1, 1, 0, 1, 0, 0, 1, 0] B4) s H) := at_seq (by kernel_rfl) rfl rfl s H
@[simp] theorem n4_17 (s : List V) (H : Heap) : evCode P Γ call n f m (cAt [1, 1, 1, 1, 0, 1, 0, 0, 1, 0] B4) s H = condW P Γ call n f m (cAt [1, 1, 1, 1, 0, 1, 0, 0, 1, 0, 0] B4) (cAt [1, 1, 1, 1, 0, 1, 0, 0, 1, 0, 1] B4) s H (evOperand Γ s (.tmp 19)) := at_cond (by kernel_rfl) (by kernel_rfl) rfl rfl s H
@[simp] theorem n4_18 (s : List V) (H : Heap) : evCode P Γ call n f m (cAt [1, 1, 1, 1, 0, 1, 0, 0, 1, 0, 0] B4) s H = some (.normal, s, H) := at_skip (by kernel_rfl) s H
@[simp] theorem n4_19 (s : List V) (H : Heap) : evCode P Γ call n f m (cAt [1, 1, 1, 1, 0, 1, 0, 0, 1, 0, 1] B4) s H = some (.exit 0, s, H) := at_exit (by kernel_rfl) s H
@[simp] theorem n4_20 (s : List V) (H : Heap) : evCode P Γ call n f m (cAt [1, 1, 1, 1, 0, 1, 0, 0, 1, 1] B4) s H = seqNext P Γ call n f m (cAt [1, 1, 1, 1, 0, 1, 0, 0, 1, 1, 1] B4) (evCode P Γ call n f m (cAt [1, 1, 1, 1, 0, 1, 0, 0, 1, 1, 0] B4) s H) := at_seq (by kernel_rfl) rfl rfl s H
@[simp] theorem n4_21 (s : List V) (H : Heap) : evCode P Γ call n f m (cAt [1, 1, 1, 1, 0, 1, 0, 0, 1, 1, 0] B4) s H = blockNext 1 (evCode P Γ call n f m (cAt [1, 1, 1, 1, 0, 1, 0, 0, 1, 1, 0, 0] B4) s H) := at_block (by kernel_rfl) rfl s H
@[simp] theorem n4_22 (s : List V) (H : Heap) : evCode P Γ call n f m (cAt [1, 1, 1, 1, 0, 1, 0, 0, 1, 1, 0, 0] B4) s H = seqNext P Γ call n f m (cAt [1, 1, 1, 1, 0, 1, 0, 0, 1, 1, 0, 0, 1] B4) (evCode P Γ call n f m (cAt [1, 1, 1, 1, 0, 1, 0, 0, 1, 1, 0, 0, 0] B4) s H) := at_seq (by kernel_rfl) rfl rfl s H
noncomputable def r4_23 : {l : List Oper // opsOf (cAt [1, 1, 1, 1, 0, 1, 0, 0, 1, 1, 0, 0, 0] B4) = l} := by
  apply Subtype.mk
  dsimp only [opsOf, cAt, kids, B4, bodyOf, Tryd.f4, List.getD, List.getElem?_cons_zero, List.getElem?_cons_succ, Option.getD_some]
@[simp] theorem n4_23 (s : List V) (H : Heap) : evCode P Γ call n f m (cAt [1, 1, 1, 1, 0, 1, 0, 0, 1, 1, 0, 0, 0] B4) s H = regNext (evOpsGo P Γ call r4_23.1 r4_23.1 s H) := at_region (by kernel_rfl) r4_23.2 s H
attribute [simp] r4_23
noncomputable def r4_24 : {l : List Oper // opsOf (cAt [1, 1, 1, 1, 0, 1, 0, 0, 1, 1, 0, 0, 1] B4) = l} := by
  apply Subtype.mk
  dsimp only [opsOf, cAt, kids, B4, bodyOf, Tryd.f4, List.getD, List.getElem?_cons_zero, List.getElem?_cons_succ, Option.getD_some]
@[simp] theorem n4_24 (s : List V) (H : Heap) : evCode P Γ call n f m (cAt [1, 1, 1, 1, 0, 1, 0, 0, 1, 1, 0, 0, 1] B4) s H = regNext (evOpsGo P Γ call r4_24.1 r4_24.1 s H) := at_region (by kernel_rfl) r4_24.2 s H
attribute [simp] r4_24
noncomputable def r4_25 : {l : List Oper // opsOf (cAt [1, 1, 1, 1, 0, 1, 0, 0, 1, 1, 1] B4) = l} := by
  apply Subtype.mk
  dsimp only [opsOf, cAt, kids, B4, bodyOf, Tryd.f4, List.getD, List.getElem?_cons_zero, List.getElem?_cons_succ, Option.getD_some]
@[simp] theorem n4_25 (s : List V) (H : Heap) : evCode P Γ call n f m (cAt [1, 1, 1, 1, 0, 1, 0, 0, 1, 1, 1] B4) s H = regNext (evOpsGo P Γ call r4_25.1 r4_25.1 s H) := at_region (by kernel_rfl) r4_25.2 s H
attribute [simp] r4_25
@[simp] theorem n4_26 (s : List V) (H : Heap) : evCode P Γ call n f m (cAt [1, 1, 1, 1, 1] B4) s H = seqNext P Γ call n f m (cAt [1, 1, 1, 1, 1, 1] B4) (evCode P Γ call n f m (cAt [1, 1, 1, 1, 1, 0] B4) s H) := at_seq (by kernel_rfl) rfl rfl s H
noncomputable def r4_27 : {l : List Oper // opsOf (cAt [1, 1, 1, 1, 1, 0] B4) = l} := by
  apply Subtype.mk
  dsimp only [opsOf, cAt, kids, B4, bodyOf, Tryd.f4, List.getD, List.getElem?_cons_zero, List.getElem?_cons_succ, Option.getD_some]
@[simp] theorem n4_27 (s : List V) (H : Heap) : evCode P Γ call n f m (cAt [1, 1, 1, 1, 1, 0] B4) s H = regNext (evOpsGo P Γ call r4_27.1 r4_27.1 s H) := at_region (by kernel_rfl) r4_27.2 s H
attribute [simp] r4_27
@[simp] theorem n4_28 (s : List V) (H : Heap) : evCode P Γ call n f m (cAt [1, 1, 1, 1, 1, 1] B4) s H = some (.ret, s, H) := at_ret (by kernel_rfl) s H
theorem b4 {k : Nat} (ho : ∀ args H, Γ.orc 4 args H = none) (args : List V) (H : Heap) (ha : args.length ≤ 49) : evF Tryd.prog Γ (k + 1) 4 args H = bodyEnd Tryd.prog [.tmp 2] H.length (evCode Tryd.prog Γ (evF Tryd.prog Γ k) k 4 H.length (cAt [] B4) (mkL 49 V.undef (enumV 0 args)) H) := body_at Tryd.func4 (by decide) rfl ho rfl rfl args H ha
noncomputable def B5 : Code := bodyOf Tryd.f5
@[simp] theorem n5_1 (s : List V) (H : Heap) : evCode P Γ call n f m (cAt [] B5) s H = seqNext P Γ call n f m (cAt [1] B5) (evCode P Γ call n f m (cAt [0] B5) s H) := at_seq (by kernel_rfl) rfl rfl s H
noncomputable def r5_2 : {l : List Oper // opsOf (cAt [0] B5) = l} := by
  apply Subtype.mk
  dsimp only [opsOf, cAt, kids, B5, bodyOf, Tryd.f5, List.getD, List.getElem?_cons_zero, List.getElem?_cons_succ, Option.getD_some]
@[simp] theorem n5_2 (s : List V) (H : Heap) : evCode P Γ call n f m (cAt [0] B5) s H = regNext (evOpsGo P Γ call r5_2.1 r5_2.1 s H) := at_region (by kernel_rfl) r5_2.2 s H
attribute [simp] r5_2
@[simp] theorem n5_3 (s : List V) (H : Heap) : evCode P Γ call n f m (cAt [1] B5) s H = seqNext P Γ call n f m (cAt [1, 1] B5) (evCode P Γ call n f m (cAt [1, 0] B5) s H) := at_seq (by kernel_rfl) rfl rfl s H
noncomputable def r5_4 : {l : List Oper // opsOf (cAt [1, 0] B5) = l} := by
  apply Subtype.mk
  dsimp only [opsOf, cAt, kids, B5, bodyOf, Tryd.f5, List.getD, List.getElem?_cons_zero, List.getElem?_cons_succ, Option.getD_some]
@[simp] theorem n5_4 (s : List V) (H : Heap) : evCode P Γ call n f m (cAt [1, 0] B5) s H = regNext (evOpsGo P Γ call r5_4.1 r5_4.1 s H) := at_region (by kernel_rfl) r5_4.2 s H
attribute [simp] r5_4
@[simp] theorem n5_5 (s : List V) (H : Heap) : evCode P Γ call n f m (cAt [1, 1] B5) s H = seqNext P Γ call n f m (cAt [1, 1, 1] B5) (evCode P Γ call n f m (cAt [1, 1, 0] B5) s H) := at_seq (by kernel_rfl) rfl rfl s H
noncomputable def r5_6 : {l : List Oper // opsOf (cAt [1, 1, 0] B5) = l} := by
  apply Subtype.mk
  dsimp only [opsOf, cAt, kids, B5, bodyOf, Tryd.f5, List.getD, List.getElem?_cons_zero, List.getElem?_cons_succ, Option.getD_some]
@[simp] theorem n5_6 (s : List V) (H : Heap) : evCode P Γ call n f m (cAt [1, 1, 0] B5) s H = regNext (evOpsGo P Γ call r5_6.1 r5_6.1 s H) := at_region (by kernel_rfl) r5_6.2 s H
attribute [simp] r5_6
@[simp] theorem n5_7 (s : List V) (H : Heap) : evCode P Γ call n f m (cAt [1, 1, 1] B5) s H = seqNext P Γ call n f m (cAt [1, 1, 1, 1] B5) (evCode P Γ call n f m (cAt [1, 1, 1, 0] B5) s H) := at_seq (by kernel_rfl) rfl rfl s H
noncomputable def r5_8 : {l : List Oper // opsOf (cAt [1, 1, 1, 0] B5) = l} := by
  apply Subtype.mk
  dsimp only [opsOf, cAt, kids, B5, bodyOf, Tryd.f5, List.getD, List.getElem?_cons_zero, List.getElem?_cons_succ, Option.getD_some]
@[simp] theorem n5_8 (s : List V) (H : Heap) : evCode P Γ call n f m (cAt [1, 1, 1, 0] B5) s H = regNext (drawR P Γ call r5_8.1 [([], []), ([], []), ([3, 5, 6], [28, 30, 31]), ([2, 5, 6], [27, 30, 31]), ([5, 6], [30, 31]), ([2, 3, 4, 6], [27, 28, 29, 31]), ([2, 3, 4, 5], [27, 28, 29, 30]), ([], []), ([], []), ([], []), ([], []), ([12], [37]), ([11], [36]), ([], []), ([], []), ([], []), ([17], [42]), ([16], [41]), ([], []), ([], []), ([], []), ([22], [47]), ([21], [46]), ([], []), ([], []), ([], [])] s H) := at_drawT (by kernel_rfl) r5_8.2 (by kernel_rfl) s H
attribute [simp] r5_8
@[simp] theorem n5_9 (s : List V) (H : Heap) : evCode P Γ call n f m (cAt [1, 1, 1, 1] B5) s H = some (.ret, s, H) := at_ret (by kernel_rfl) s H
theorem b5 {k : Nat} (ho : ∀ args H, Γ.orc 5 args H = none) (args : List V) (H : Heap) (ha : args.length ≤ 50) : evF Tryd.prog Γ (k + 1) 5 args H = bodyEnd Tryd.prog [.tmp 6] H.length (evCode Tryd.prog Γ (evF Tryd.prog Γ k) k 5 H.length (cAt [] B5) (mkL 50 V.undef (enumV 0 args)) H) := body_at Tryd.func5 (by decide) rfl ho rfl rfl args H ha
noncomputable def B6 : Code := bodyOf Tryd.f6
@[simp] theorem n6_1 (s : List V) (H : Heap) : evCode P Γ call n f m (cAt [] B6) s H = seqNext P Γ call n f m (cAt [1] B6) (evCode P Γ call n f m (cAt [0] B6) s H) := at_seq (by kernel_rfl) rfl rfl s H
noncomputable def r6_2 : {l : List Oper // opsOf (cAt [0] B6) = l} := by
  apply Subtype.mk
  dsimp only [opsOf, cAt, kids, B6, bodyOf, Tryd.f6, List.getD, List.getElem?_cons_zero, List.getElem?_cons_succ, Option.getD_some]
@[simp] theorem n6_2 (s : List V) (H : Heap) : evCode P Γ call n f m (cAt [0] B6) s H = regNext (evOpsGo P Γ call r6_2.1 r6_2.1 s H) := at_region (by kernel_rfl) r6_2.2 s H
attribute [simp] r6_2
@[simp] theorem n6_3 (s : List V) (H : Heap) : evCode P Γ call n f m (cAt [1] B6) s H = seqNext P Γ call n f m (cAt [1, 1] B6) (evCode P Γ call n f m (cAt [1, 0] B6) s H) := at_seq (by kernel_rfl) rfl rfl s H
@[simp] theorem n6_4 (s : List V) (H : Heap) : evCode P Γ call n f m (cAt [1, 0] B6) s H = seqNext P Γ call n f m (cAt [1, 0, 1] B6) (evCode P Γ call n f m (cAt [1, 0, 0] B6) s H) := at_seq (by kernel_rfl) rfl rfl s H
noncomputable def r6_5 : {l : List Oper // opsOf (cAt [1, 0, 0] B6) = l} := by
  apply Subtype.mk
  dsimp only [opsOf, cAt, kids, B6, bodyOf, Tryd.f6, List.getD, List.getElem?_cons_zero, List.getElem?_cons_succ, Option.getD_some]
@[simp] theorem n6_5 (s : List V) (H : Heap) : evCode P Γ call n f m (cAt [1, 0, 0] B6) s H = regNext (evOpsGo P Γ call r6_5.1 r6_5.1 s H) := at_region (by kernel_rfl) r6_5.2 s H
attribute [simp] r6_5
@[simp] theorem n6_6 (s : List V) (H : Heap) : evCode P Γ call n f m (cAt [1, 0, 1] B6) s H = condW P Γ call n f m (cAt [1, 0, 1, 0] B6) (cAt [1, 0, 1, 1] B6) s H (evOperand Γ s (.tmp 20)) := at_cond (by kernel_rfl) (by kernel_rfl) rfl rfl s H
@[simp] theorem n6_7 (s : List V) (H : Heap) : evCode P Γ call n f m (cAt [1, 0, 1, 0] B6) s H = seqNext P Γ call n f m (cAt [1, 0, 1, 0, 1] B6) (evCode P Γ call n f m (cAt [1, 0, 1, 0, 0] B6) s H) := at_seq (by kernel_rfl) rfl rfl s H
noncomputable def r6_8 : {l : List Oper // opsOf (cAt [1, 0, 1, 0, 0] B6) = l} := by
  apply Subtype.mk
  dsimp only [opsOf, cAt, kids, B6, bodyOf, Tryd.f6, List.getD, List.getElem?_cons_zero, List.getElem?_cons_succ, Option.getD_some]
@[simp] theorem n6_8 (s : List V) (H : Heap) : evCode P Γ call n f m (cAt [1, 0, 1, 0, 0] B6) s H = regNext (evOpsGo P Γ call r6_8.1 r6_8.1 s H) := at_region (by kernel_rfl) r6_8.2 s H
attribute [simp] r6_8
@[simp] theorem n6_9 (s : List V) (H : Heap) : evCode P Γ call n f m (cAt [1, 0, 1, 0, 1] B6) s H = some (.ret, s, H) := at_ret (by kernel_rfl) s H
@[simp] theorem n6_10 (s : List V) (H : Heap) : evCode P Γ call n f m (cAt [1, 0, 1, 1] B6) s H = some (.normal, s, H) := at_skip (by kernel_rfl) s H
@[simp] theorem n6_11 (s : List V) (H : Heap) : evCode P Γ call n f m (cAt [1, 1] B6) s H = seqNext P Γ call n f m (cAt [1, 1, 1] B6) (evCode P Γ call n f m (cAt [1, 1, 0] B6) s H) := at_seq (by kernel_rfl) rfl rfl s H
noncomputable def r6_12 : {l : List Oper // opsOf (cAt [1, 1, 0] B6) = l} := by
  apply Subtype.mk
  dsimp only [opsOf, cAt, kids, B6, bodyOf, Tryd.f6, List.getD, List.getElem?_cons_zero, List.getElem?_cons_succ, Option.getD_some]
@[simp] theorem n6_12 (s : List V) (H : Heap) : evCode P Γ call n f m (cAt [1, 1, 0] B6) s H = regNext (evOpsGo P Γ call r6_12.1 r6_12.1 s H) := at_region (by kernel_rfl) r6_12.2 s H
attribute [simp] r6_12
@[simp] theorem n6_13 (s : List V) (H : Heap) : evCode P Γ call n f m (cAt [1, 1, 1] B6) s H = seqNext P Γ call n f m (cAt [1, 1, 1, 1] B6) (evCode P Γ call n f m (cAt [1, 1, 1, 0] B6) s H) := at_seq (by kernel_rfl) rfl rfl s H
@[simp] theorem n6_14 (s : List V) (H : Heap) : evCode P Γ call n f m (cAt [1, 1, 1, 0] B6) s H = seqNext P Γ call n f m (cAt [1, 1, 1, 0, 1] B6) (evCode P Γ call n f m (cAt [1, 1, 1, 0, 0] B6) s H) := at_seq (by kernel_rfl) rfl rfl s H
noncomputable def r6_15 : {l : List Oper // opsOf (cAt [1, 1, 1, 0, 0] B6) = l} := by
  apply Subtype.mk
  dsimp only [opsOf, cAt, kids, B6, bodyOf, Tryd.f6, List.getD, List.getElem?_cons_zero, List.getElem?_cons_succ, Option.getD_some]
@[simp] theorem n6_15 (s : List V) (H : Heap) : evCode P Γ call n f m (cAt [1, 1, 1, 0, 0] B6) s H = regNext (evOpsGo P Γ call r6_15.1 r6_15.1 s H) := at_region (by kernel_rfl) r6_15.2 s H
attribute [simp] r6_15
@[simp] theorem n6_16 (s : List V) (H : Heap) : evCode P Γ call n f m (cAt [1, 1, 1, 0, 1] B6) s H = blockNext 0 (evCode P Γ call n f m (cAt [1, 1, 1, 0, 1, 0] B6) s H) := at_block (by kernel_rfl) rfl s H
@[simp] theorem n6_17 (s : List V) (H : Heap) : evCode P Γ call n f m (cAt [1, 1, 1, 0, 1, 0] B6) s H = evLoopC P Γ call n f m (cAt [1, 1, 1, 0, 1, 0, 0] B6) n s H := at_loop (by kernel_rfl) rfl s H
noncomputable abbrev L6_5 : Code := cAt [1, 1, 1, 0, 1, 0, 0] B6
@[simp] theorem n6_17f : firstRegion (cAt [1, 1, 1, 0, 1, 0, 0] B6) = 5 := by kernel_rfl
@[simp] theorem n6_18 (s : List V) (H : Heap) : evCode P Γ call n f m (cAt [1, 1, 1, 0, 1, 0, 0] B6) s H = seqNext P Γ call n f m (cAt [1, 1, 1, 0, 1, 0, 0, 1] B6) (evCode P Γ call n f m (cAt [1, 1, 1, 0, 1, 0, 0, 0] B6) s H) := at_seq (by kernel_rfl) rfl rfl s H
noncomputable def r6_19 : {l : List Oper // opsOf (cAt [1, 1, 1, 0, 1, 0, 0, 0] B6) = l} := by
  apply Subtype.mk
  dsimp only [opsOf, cAt, kids, B6, bodyOf, Tryd.f6, List.getD, List.getElem?_cons_zero, List.getElem?_cons_succ, Option.getD_some]
@[simp] theorem n6_19 (s : List V) (H : Heap) : evCode P Γ call n f m (cAt [1, 1, 1, 0, 1, 0, 0, 0] B6) s H = regNext (evOpsGo P Γ call r6_19.1 r6_19.1 s H) := at_region (by kernel_rfl) r6_19.2 s H
attribute [simp] r6_19
@[simp] theorem n6_20 (s : List V) (H : Heap) : evCode P Γ call n f m (cAt [1, 1, 1, 0, 1, 0, 0, 1] B6) s H = seqNext P Γ call n f m (cAt [1, 1, 1, 0, 1, 0, 0, 1, 1] B6) (evCode P Γ call n f m (cAt [1, 1, 1, 0, 1, 0, 0, 1, 0] B6) s H) := at_seq (by kernel_rfl) rfl rfl s H
@[simp] theorem n6_21 (s : List V) (H : Heap) : evCode P Γ call n f m (cAt [1, 1, 1, 0, 1, 0, 0, 1, 0] B6) s H = condW P Γ call n f m (cAt [1, 1, 1, 0, 1, 0, 0, 1, 0, 0] B6) (cAt [1, 1, 1, 0, 1, 0, 0, 1, 0, 1] B6) s H (evOperand Γ s (.tmp 24)) := at_cond (by kernel_rfl) (by kernel_rfl) rfl rfl s H
@[simp] theorem n6_22 (s : List V) (H : Heap) : evCode P Γ call n f m (cAt [1, 1, 1, 0, 1, 0, 0, 1, 0, 0] B6) s H = some (.normal, s, H) := at_skip (by kernel_rfl) s H
@[simp] theorem n6_23 (s : List V) (H : Heap) : evCode P Γ call n f m (cAt [1, 1, 1, 0, 1, 0, 0, 1, 0, 1] B6) s H = some (.exit 0, s, H) := at_exit (by kernel_rfl) s H
@[simp] theorem n6_24 (s : List V) (H : Heap) : evCode P Γ call n f m (cAt [1, 1, 1, 0, 1, 0, 0, 1, 1] B6) s H = seqNext P Γ call n f m (cAt [1, 1, 1, 0, 1, 0, 0, 1, 1, 1] B6) (evCode P Γ call n f m (cAt [1, 1, 1, 0, 1, 0, 0, 1, 1, 0] B6) s H) := at_seq (by kernel_rfl) rfl rfl s H
@[simp] theorem n6_25 (s : List V) (H : Heap) : evCode P Γ call n f m (cAt [1, 1, 1, 0, 1, 0, 0, 1, 1, 0] B6) s H = blockNext 1 (evCode P Γ call n f m (cAt [1, 1, 1, 0, 1, 0, 0, 1, 1, 0, 0] B6) s H) := at_block (by kernel_rfl) rfl s H
@[simp] theorem n6_26 (s : List V) (H : Heap) : evCode P Γ call n f m (cAt [1, 1, 1, 0, 1, 0, 0, 1, 1, 0, 0] B6) s H = seqNext P Γ call n f m (cAt [1, 1, 1, 0, 1, 0, 0, 1, 1, 0, 0, 1] B6) (evCode P Γ call n f m (cAt [1, 1, 1, 0, 1, 0, 0, 1, 1, 0, 0, 0] B6) s H) := at_seq (by kernel_rfl) rfl rfl s H
noncomputable def r6_27 : {l : List Oper // opsOf (cAt [1, 1, 1, 0, 1, 0, 0, 1, 1, 0, 0, 0] B6) = l} := by
  apply Subtype.mk
  dsimp only [opsOf, cAt, kids, B6, bodyOf, Tryd.f6, List.getD, List.getElem?_cons_zero, List.getElem?_cons_succ, Option.getD_some]
@[simp] theorem n6_27 (s : List V) (H : Heap) : evCode P Γ call n f m (cAt [1, 1, 1, 0, 1, 0, 0, 1, 1, 0, 0, 0] B6) s H = regNext (evOpsGo P Γ call r6_27.1 r6_27.1 s H) := at_region (by kernel_rfl) r6_27.2 s H
attribute [simp] r6_27
@[simp] theorem n6_28 (s : List V) (H : Heap) : evCode P Γ call n f m (cAt [1, 1, 1, 0, 1, 0, 0, 1, 1, 0, 0, 1] B6) s H = seqNext P Γ call n f m (cAt [1, 1, 1, 0, 1, 0, 0, 1, 1, 0, 0, 1, 1] B6) (evCode P Γ call n f m (cAt [1, 1, 1, 0, 1, 0, 0, 1, 1, 0, 0, 1, 0] B6) s H) := at_seq (by kernel_rfl) rfl rfl s H
noncomputable def r6_29 : {l : List Oper // opsOf (cAt [1, 1, 1, 0, 1, 0, 0, 1, 1, 0, 0, 1, 0] B6) = l} := by
  apply Subtype.mk
  dsimp only [opsOf, cAt, kids, B6, bodyOf, Tryd.f6, List.getD, List.getElem?_cons_zero, List.getElem?_cons_succ, Option.getD_some]
@[simp] theorem n6_29 (s : List V) (H : Heap) : evCode P Γ call n f m (cAt [1, 1, 1, 0, 1, 0, 0, 1, 1, 0, 0, 1, 0] B6) s H = regNext (evOpsGo P Γ call r6_29.1 r6_29.1 s H) := at_region (by kernel_rfl) r6_29.2 s H
attribute [simp] r6_29
@[simp] theorem n6_30 (s : List V) (H : Heap) : evCode P Γ call n f m (cAt [1, 1, 1, 0, 1, 0, 0, 1, 1, 0, 0, 1, 1] B6) s H = seqNext P Γ call n f m (cAt [1, 1, 1, 0, 1, 0, 0, 1, 1, 0, 0, 1, 1, 1] B6) (evCode P Γ call n f m (cAt [1, 1, 1, 0, 1, 0, 0, 1, 1, 0, 0, 1, 1, 0] B6) s H) := at_seq (by kernel_rfl) rfl rfl s H
noncomputable def r6_31 : {l : List Oper // opsOf (cAt [1, 1, 1, 0, 1, 0, 0, 1, 1, 0, 0, 1, 1, 0] B6) = l} := by
  apply Subtype.mk
  dsimp only [opsOf, cAt, kids, B6, bodyOf, Tryd.f6, List.getD, List.getElem?_cons_zero, List.getElem?_cons_succ, Option.getD_some]
@[simp] theorem n6_31 (s : List V) (H : Heap) : evCode P Γ call n f m (cAt [1, 1, 1, 0, 1, 0, 0, 1, 1, 0, 0, 1, 1, 0] B6) s H = regNext (drawR P Γ call r6_31.1 [([2, 3], [35, 36]), ([2, 3], [35, 36]), ([0, 1], [33, 34]), ([0, 1], [33, 34]), ([], []), ([], [])] s H) := at_drawT (by kernel_rfl) r6_31.2 (by kernel_rfl) s H
attribute [simp] r6_31
@[simp] theorem n6_32 (s : List V) (H : Heap) : evCode P Γ call n f m (cAt [1, 1, 1, 0, 1, 0, 0, 1, 1, 0, 0, 1, 1, 1] B6) s H = seqNext P Γ call n f m (cAt [1, 1, 1, 0, 1, 0, 0, 1, 1, 0, 0, 1, 1, 1, 1] B6) (evCode P Γ call n f m (cAt [1, 1, 1, 0, 1, 0, 0, 1, 1, 0, 0, 1, 1, 1, 0] B6) s H) := at_seq (by kernel_rfl) rfl rfl s H
noncomputable def r6_33 : {l : List Oper // opsOf (cAt [1, 1, 1, 0, 1, 0, 0, 1, 1, 0, 0, 1, 1, 1, 0] B6) = l} := by
  apply Subtype.mk
  dsimp only [opsOf, cAt, kids, B6, bodyOf, Tryd.f6, List.getD, List.getElem?_cons_zero, List.getElem?_cons_succ, Option.getD_some]
@[simp] theorem n6_33 (s : List V) (H : Heap) : evCode P Γ call n f m (cAt [1, 1, 1, 0, 1, 0, 0, 1, 1, 0, 0, 1, 1, 1, 0] B6) s H = regNext (evOpsGo P Γ call r6_33.1 r6_33.1 s H) := at_region (by kernel_rfl) r6_33.2 s H
attribute [simp] r6_33
@[simp] theorem n6_34 (s : List V) (H : Heap) : evCode P Γ call n f m (cAt [1, 1, 1, 0, 1, 0, 0, 1, 1, 0, 0, 1, 1, 1, 1] B6) s H = seqNext P Γ call n f m (cAt [1, 1, 1, 0, 1, 0, 0, 1, 1, 0, 0, 1, 1, 1, 1, 1] B6) (evCode P Γ call n f m (cAt [1, 1, 1, 0, 1, 0, 0, 1, 1, 0, 0, 1, 1, 1, 1, 0] B6) s H) := at_seq (by kernel_rfl) rfl rfl s H
@[simp] theorem n6_35 (s : List V) (H : Heap) : evCode P Γ call n f m (cAt [1, 1, 1, 0, 1, 0, 0, 1, 1, 0, 0, 1, 1, 1, 1, 0] B6) s H = seqNext P Γ call n f m (cAt [1, 1, 1, 0, 1, 0, 0, 1, 1, 0, 0, 1, 1, 1, 1, 0, 1] B6) (evCode P Γ call n f m (cAt [1, 1, 1, 0, 1, 0, 0, 1, 1, 0, 0, 1, 1, 1, 1, 0, 0] B6) s H) := at_seq (by kernel_rfl) rfl rfl s H
noncomputable def r6_36 : {l : List Oper // opsOf (cAt [1, 1, 1, 0, 1, 0, 0, 1, 1, 0, 0, 1, 1, 1, 1, 0, 0] B6) = l} := by
  apply Subtype.mk
  dsimp only [opsOf, cAt, kids, B6, bodyOf, Tryd.f6, List.getD, List.getElem?_cons_zero, List.getElem?_cons_succ, Option.getD_some]
@[simp] theorem n6_36 (s : List V) (H : Heap) : evCode P Γ call n f m (cAt [1, 1, 1, 0, 1, 0, 0, 1, 1, 0, 0, 1, 1, 1, 1, 0, 0] B6) s H = regNext (evOpsGo P Γ call r6_36.1 r6_36.1 s H) := at_region (by kernel_rfl) r6_36.2 s H
attribute [simp] r6_36
@[simp] theorem n6_37 (s : List V) (H : Heap) : evCode P Γ call n f m (cAt [1, 1, 1, 0, 1, 0, 0, 1, 1, 0, 0, 1, 1, 1, 1, 0, 1] B6) s H = condW P Γ call n f m (cAt [1, 1, 1, 0, 1, 0, 0, 1, 1, 0, 0, 1, 1, 1, 1, 0, 1, 0] B6) (cAt [1, 1, 1, 0, 1, 0, 0, 1, 1, 0, 0, 1, 1, 1, 1, 0, 1, 1] B6) s H (evOperand Γ s (.tmp 44)) := at_cond (by kernel_rfl) (by kernel_rfl) rfl rfl s H
noncomputable def r6_38 : {l : List Oper // opsOf (cAt [1, 1, 1, 0, 1, 0, 0, 1, 1, 0, 0, 1, 1, 1, 1, 0, 1, 0] B6) = l} := by
  apply Subtype.mk
  dsimp only [opsOf, cAt, kids, B6, bodyOf, Tryd.f6, List.getD, List.getElem?_cons_zero, List.getElem?_cons_succ, Option.getD_some]
@[simp] theorem n6_38 (s : List V) (H : Heap) : evCode P Γ call n f m (cAt [1, 1, 1, 0, 1, 0, 0, 1, 1, 0, 0, 1, 1, 1, 1, 0, 1, 0] B6) s H = regNext (evOpsGo P Γ call r6_38.1 r6_38.1 s H) := at_region (by kernel_rfl) r6_38.2 s H
attribute [simp] r6_38
@[simp] theorem n6_39 (s : List V) (H : Heap) : evCode P Γ call n f m (cAt [1, 1, 1, 0, 1, 0, 0, 1, 1, 0, 0, 1, 1, 1, 1, 0, 1, 1] B6) s H = some (.normal, s, H) := at_skip (by kernel_rfl) s H
@[simp] theorem n6_40 (s : List V) (H : Heap) : evCode P Γ call n f m (cAt [1, 1, 1, 0, 1, 0, 0, 1, 1, 0, 0, 1, 1, 1, 1, 1] B6) s H = seqNext P Γ call n f m (cAt [1, 1, 1, 0, 1, 0, 0, 1, 1, 0, 0, 1, 1, 1, 1, 1, 1] B6) (evCode P Γ call n f m (cAt [1, 1, 1, 0, 1, 0, 0, 1, 1, 0, 0, 1, 1, 1, 1, 1, 0] B6) s H) := at_seq (by kernel_rfl) rfl rfl s H
@[simp] theorem n6_41 (s : List V) (H : Heap) : evCode P Γ call n f m (cAt [1, 1, 1, 0, 1, 0, 0, 1, 1, 0, 0, 1, 1, 1, 1, 1, 0] B6) s H = seqNext P Γ call n f m (cAt [1, 1, 1, 0, 1, 0, 0, 1, 1, 0, 0, 1, 1, 1, 1, 1, 0, 1] B6) (evCode P Γ call n f m (cAt [1, 1, 1, 0, 1, 0, 0, 1, 1, 0, 0, 1, 1, 1, 1, 1, 0, 0] B6) s H) := at_seq (by kernel_rfl) rfl rfl s H
noncomputable def r6_42 : {l : List Oper // opsOf (cAt [1, 1, 1, 0, 1, 0, 0, 1, 1, 0, 0, 1, 1, 1, 1, 1, 0, 0] B6) = l} := by
  apply Subtype.mk
  dsimp only [opsOf, cAt, kids, B6, bodyOf, Tryd.f6, List.getD, List.getElem?_cons_zero, List.getElem?_cons_succ, Option.getD_some]
@[simp] theorem n6_42 (s : List V) (H : Heap) : evCode P Γ call n f m (cAt [1, 1, 1, 0, 1, 0, 0, 1, 1, 0, 0, 1, 1, 1, 1, 1, 0, 0] B6) s H = regNext (evOpsGo P Γ call r6_42.1 r6_42.1 s H) := at_region (by kernel_rfl) r6_42.2 s H
attribute [simp] r6_42
@[simp] theorem n6_43 (s : List V) (H : Heap) : evCode P Γ call n f m (cAt [1, 1, 1, 0, 1, 0, 0, 1, 1, 0, 0, 1, 1, 1, 1, 1, 0, 1] B6) s H = condW P Γ call n f m (cAt [1, 1, 1, 0, 1, 0, 0, 1, 1, 0, 0, 1, 1, 1, 1, 1, 0, 1, 0] B6) (cAt [1, 1, 1, 0, 1, 0, 0, 1, 1, 0, 0, 1, 1, 1, 1, 1, 0, 1, 1] B6) s H (evOperand Γ s (.tmp 56)) := at_cond (by kernel_rfl) (by kernel_rfl) rfl rfl s H
@[simp] theorem n6_44 (s : List V) (H : Heap) : evCode P Γ call n f m (cAt [1, 1, 1, 0, 1, 0, 0, 1, 1, 0, 0, 1, 1, 1, 1, 1, 0, 1, 0] B6) s H = seqNext P Γ call n f m (cAt [1, 1, 1, 0, 1, 0, 0, 1, 1, 0, 0, 1, 1, 1, 1, 1, 0, 1, 0, 1] B6) (evCode P Γ call n f m (cAt [1, 1, 1, 0, 1, 0, 0, 1, 1, 0, 0, 1, 1, 1, 1, 1, 0, 1, 0, 0] B6) s H) := at_seq (by kernel_rfl) rfl rfl s H
noncomputable def r6_45 : {l : List Oper // opsOf (cAt [1, 1, 1, 0, 1, 0, 0, 1, 1, 0, 0, 1, 1, 1, 1, 1, 0, 1, 0, 0] B6) = l} := by
  apply Subtype.mk
  dsimp only [opsOf, cAt, kids, B6, bodyOf, Tryd.f6, List.getD, List.getElem?_cons_zero, List.getElem?_cons_succ, Option.getD_some]
@[simp] theorem n6_45 (s : List V) (H : Heap) : evCode P Γ call n f m (cAt [1, 1, 1, 0, 1, 0, 0, 1, 1, 0, 0, 1, 1, 1, 1, 1, 0, 1, 0, 0] B6) s H = regNext (evOpsGo P Γ call r6_45.1 r6_45.1 s H) := at_region (by kernel_rfl) r6_45.2 s H
attribute [simp] r6_45
@[simp] theorem n6_46 (s : List V) (H : Heap) : evCode P Γ call n f m (cAt [1, 1, 1, 0, 1, 0, 0, 1, 1, 0, 0, 1, 1, 1, 1, 1, 0, 1, 0, 1] B6) s H = some (.ret, s, H) := at_ret (by kernel_rfl) s H
@[simp] theorem n6_47 (s : List V) (H : Heap) : evCode P Γ call n f m (cAt [1, 1, 1, 0, 1, 0, 0, 1, 1, 0, 0, 1, 1, 1, 1, 1, 0, 1, 1] B6) s H = some (.normal, s, H) := at_skip (by kernel_rfl) s H
@[simp] theorem n6_48 (s : List V) (H : Heap) : evCode P Γ call n f m (cAt [1, 1, 1, 0, 1, 0, 0, 1, 1, 0, 0, 1, 1, 1, 1, 1, 1] B6) s H = seqNext P Γ call n f m (cAt [1, 1, 1, 0, 1, 0, 0, 1, 1, 0, 0, 1, 1, 1, 1, 1, 1, 1] B6) (evCode P Γ call n f m (cAt [1, 1, 1, 0, 1, 0, 0, 1, 1, 0, 0, 1, 1, 1, 1, 1, 1, 0] B6) s H) := at_seq (by kernel_rfl) rfl rfl s H
@[simp] theorem n6_49 (s : List V) (H : Heap) : evCode P Γ call n f m (cAt [1, 1, 1, 0, 1, 0, 0, 1, 1, 0, 0, 1, 1, 1, 1, 1, 1, 0] B6) s H = seqNext P Γ call n f m (cAt [1, 1, 1, 0, 1, 0, 0, 1, 1, 0, 0, 1, 1, 1, 1, 1, 1, 0, 1] B6) (evCode P Γ call n f m (cAt [1, 1, 1, 0, 1, 0, 0, 1, 1, 0, 0, 1, 1, 1, 1, 1, 1, 0, 0] B6) s H) := at_seq (by kernel_rfl) rfl rfl s H
noncomputable def r6_50 : {l : List Oper // opsOf (cAt [1, 1, 1, 0, 1, 0, 0, 1, 1, 0, 0, 1, 1, 1, 1, 1, 1, 0, 0] B6) = l} := by
  apply Subtype.mk
  dsimp only [opsOf, cAt, kids, B6, bodyOf, Tryd.f6, List.getD, List.getElem?_cons_zero, List.getElem?_cons_succ, Option.getD_some]
@[simp] theorem n6_50 (s : List V) (H : Heap) : evCode P Γ call n f m (cAt [1, 1, 1, 0, 1, 0, 0, 1, 1, 0, 0, 1, 1, 1, 1, 1, 1, 0, 0] B6) s H = regNext (evOpsGo P Γ call r6_50.1 r6_50.1 s H) := at_region (by kernel_rfl) r6_50.2 s H
attribute [simp] r6_50
@[simp] theorem n6_51 (s : List V) (H : Heap) : evCode P Γ call n f m (cAt [1, 1, 1, 0, 1, 0, 0, 1, 1, 0, 0, 1, 1, 1, 1, 1, 1, 0, 1] B6) s H = condW P Γ call n f m (cAt [1, 1, 1, 0, 1, 0, 0, 1, 1, 0, 0, 1, 1, 1, 1, 1, 1, 0, 1, 0] B6) (cAt [1, 1, 1, 0, 1, 0, 0, 1, 1, 0, 0, 1, 1, 1, 1, 1, 1, 0, 1, 1] B6) s H (evOperand Γ s (.tmp 58)) := at_cond (by kernel_rfl) (by kernel_rfl) rfl rfl s H
@[simp] theorem n6_52 (s : List V) (H : Heap) : evCode P Γ call n f m (cAt [1, 1, 1, 0, 1, 0, 0, 1, 1, 0, 0, 1, 1, 1, 1, 1, 1, 0, 1, 0] B6) s H = some (.exit 1, s, H) := at_exit (by kernel_rfl) s H
@[simp] theorem n6_53 (s : List V) (H : Heap) : evCode P Γ call n f m (cAt [1, 1, 1, 0, 1, 0, 0, 1, 1, 0, 0, 1, 1, 1, 1, 1, 1, 0, 1, 1] B6) s H = some (.normal, s, H) := at_skip (by kernel_rfl) s H
@[simp] theorem n6_54 (s : List V) (H : Heap) : evCode P Γ call n f m (cAt [1, 1, 1, 0, 1, 0, 0, 1, 1, 0, 0, 1, 1, 1, 1, 1, 1, 1] B6) s H = seqNext P Γ call n f m (cAt [1, 1, 1, 0, 1, 0, 0, 1, 1, 0, 0, 1, 1, 1, 1, 1, 1, 1, 1] B6) (evCode P Γ call n f m (cAt [1, 1, 1, 0, 1, 0, 0, 1, 1, 0, 0, 1, 1, 1, 1, 1, 1, 1, 0] B6) s H) := at_seq (by kernel_rfl) rfl rfl s H
noncomputable def r6_55 : {l : List Oper // opsOf (cAt [1, 1, 1, 0, 1, 0, 0, 1, 1, 0, 0, 1, 1, 1, 1, 1, 1, 1, 0] B6) = l} := by
  apply Subtype.mk
  dsimp only [opsOf, cAt, kids, B6, bodyOf, Tryd.f6, List.getD, List.getElem?_cons_zero, List.getElem?_cons_succ, Option.getD_some]
@[simp] theorem n6_55 (s : List V) (H : Heap) : evCode P Γ call n f m (cAt [1, 1, 1, 0, 1, 0, 0, 1, 1, 0, 0, 1, 1, 1, 1, 1, 1, 1, 0] B6) s H = regNext (evOpsGo P Γ call r6_55.1 r6_55.1 s H) := at_region (by kernel_rfl) r6_55.2 s H
attribute [simp] r6_55
@[simp] theorem n6_56 (s : List V) (H : Heap) : evCode P Γ call n f m (cAt [1, 1, 1, 0, 1, 0, 0, 1, 1, 0, 0, 1, 1, 1, 1, 1, 1, 1, 1] B6) s H = seqNext P Γ call n f m (cAt [1, 1, 1, 0, 1, 0, 0, 1, 1, 0, 0, 1, 1, 1, 1, 1, 1, 1, 1, 1] B6) (evCode P Γ call n f m (cAt [1, 1, 1, 0, 1, 0, 0, 1, 1, 0, 0, 1, 1, 1, 1, 1, 1, 1, 1, 0] B6) s H) := at_seq (by kernel_rfl) rfl rfl s H
@[simp] theorem n6_57 (s : List V) (H : Heap) : evCode P Γ call n f m (cAt [1, 1, 1, 0, 1, 0, 0, 1, 1, 0, 0, 1, 1, 1, 1, 1, 1, 1, 1, 0] B6) s H = seqNext P Γ call n f m (cAt [1, 1, 1, 0, 1, 0, 0, 1, 1, 0, 0, 1, 1, 1, 1, 1, 1, 1, 1, 0, 1] B6) (evCode P Γ call n f m (cAt [1, 1, 1, 0, 1, 0, 0, 1, 1, 0, 0, 1, 1, 1, 1, 1, 1, 1, 1, 0, 0] B6) s H) := at_seq (by kernel_rfl) rfl rfl s H
noncomputable def r6_58 : {l : List Oper // opsOf (cAt [1, 1, 1, 0, 1, 0, 0, 1, 1, 0, 0, 1, 1, 1, 1, 1, 1, 1, 1, 0, 0] B6) = l} := by
  apply Subtype.mk
  dsimp only [opsOf, cAt, kids, B6, bodyOf, Tryd.f6, List.getD, List.getElem?_cons_zero, List.getElem?_cons_succ, Option.getD_some]
@[simp] theorem n6_58 (s : List V) (H : Heap) : evCode P Γ call n f m (cAt [1, 1, 1, 0, 1, 0, 0, 1, 1, 0, 0, 1, 1, 1, 1, 1, 1, 1, 1, 0, 0] B6) s H = regNext (evOpsGo P Γ call r6_58.1 r6_58.1 s H) := at_region (by kernel_rfl) r6_58.2 s H
attribute [simp] r6_58
@[simp] theorem n6_59 (s : List V) (H : Heap) : evCode P Γ call n f m (cAt [1, 1, 1, 0, 1, 0, 0, 1, 1, 0, 0, 1, 1, 1, 1, 1, 1, 1, 1, 0, 1] B6) s H = condW P Γ call n f m (cAt [1, 1, 1, 0, 1, 0, 0, 1, 1, 0, 0, 1, 1, 1, 1, 1, 1, 1, 1, 0, 1, 0] B6) (cAt [1, 1, 1, 0, 1, 0, 0, 1, 1, 0, 0, 1, 1, 1, 1, 1, 1, 1, 1, 0, 1, 1] B6) s H (evOperand Γ s (.tmp 61)) := at_cond (by kernel_rfl) (by kernel_rfl) rfl rfl s H
noncomputable def r6_60 : {l : List Oper // opsOf (cAt [1, 1, 1, 0, 1, 0, 0, 1, 1, 0, 0, 1, 1, 1, 1, 1, 1, 1, 1, 0, 1, 0] B6) = l} := by
  apply Subtype.mk
  dsimp only [opsOf, cAt, kids, B6, bodyOf, Tryd.f6, List.getD, List.getElem?_cons_zero, List.getElem?_cons_succ, Option.getD_some]
@[simp] theorem n6_60 (s : List V) (H : Heap) : evCode P Γ call n f m (cAt [1, 1, 1, 0, 1, 0, 0, 1, 1, 0, 0, 1, 1, 1, 1, 1, 1, 1, 1, 0, 1, 0] B6) s H = regNext (evOpsGo P Γ call r6_60.1 r6_60.1 s H) := at_region (by kernel_rfl) r6_60.2 s H
attribute [simp] r6_60
@[simp] theorem n6_61 (s : List V) (H : Heap) : evCode P Γ call n f m (cAt [1, 1, 1, 0, 1, 0, 0, 1, 1, 0, 0, 1, 1, 1, 1, 1, 1, 1, 1, 0, 1, 1] B6) s H = some (.normal, s, H) := at_skip (by kernel_rfl) s H
@[simp] theorem n6_62 (s : List V) (H : Heap) : evCode P Γ call n f m (cAt [1, 1, 1, 0, 1, 0, 0, 1, 1, 0, 0, 1, 1, 1, 1, 1, 1, 1, 1, 1] B6) s H = seqNext P Γ call n f m (cAt [1, 1, 1, 0, 1, 0, 0, 1, 1, 0, 0, 1, 1, 1, 1, 1, 1, 1, 1, 1, 1] B6) (evCode P Γ call n f m (cAt [1, 1, 1, 0, 1, 0, 0, 1, 1, 0, 0, 1, 1, 1, 1, 1, 1, 1, 1, 1, 0] B6) s H) := at_seq (by kernel_rfl) rfl rfl s H
noncomputable def r6_63 : {l : List Oper // opsOf (cAt [1, 1, 1, 0, 1, 0, 0, 1, 1, 0, 0, 1, 1, 1, 1, 1, 1, 1, 1, 1, 0] B6) = l} := by
  apply Subtype.mk
  dsimp only [opsOf, cAt, kids, B6, bodyOf, Tryd.f6, List.getD, List.getElem?_cons_zero, List.getElem?_cons_succ, Option.getD_some]
@[simp] theorem n6_63 (s : List V) (H : Heap) : evCode P Γ call n f m (cAt [1, 1, 1, 0, 1, 0, 0, 1, 1, 0, 0, 1, 1, 1, 1, 1, 1, 1, 1, 1, 0] B6) s H = regNext (evOpsGo P Γ call r6_63.1 r6_63.1 s H) := at_region (by kernel_rfl) r6_63.2 s H
attribute [simp] r6_63
@[simp] theorem n6_64 (s : List V) (H : Heap) : evCode P Γ call n f m (cAt [1, 1, 1, 0, 1, 0, 0, 1, 1, 0, 0, 1, 1, 1, 1, 1, 1, 1, 1, 1, 1] B6) s H = seqNext P Γ call n f m (cAt [1, 1, 1, 0, 1, 0, 0, 1, 1, 0, 0, 1, 1, 1, 1, 1, 1, 1, 1, 1, 1, 1] B6) (evCode P Γ call n f m (cAt [1, 1, 1, 0, 1, 0, 0, 1, 1, 0, 0, 1, 1, 1, 1, 1, 1, 1, 1, 1, 1, 0] B6) s H) := at_seq (by kernel_rfl) rfl rfl s H
@[simp] theorem n6_65 (s : List V) (H : Heap) : evCode P Γ call n f m (cAt [1, 1, 1, 0, 1, 0, 0, 1, 1, 0, 0, 1, 1, 1, 1, 1, 1, 1, 1, 1, 1, 0] B6) s H = seqNext P Γ call n f m (cAt [1, 1, 1, 0, 1, 0, 0, 1, 1, 0, 0, 1, 1, 1, 1, 1, 1, 1, 1, 1, 1, 0, 1] B6) (evCode P Γ call n f m (cAt [1, 1, 1, 0, 1, 0, 0, 1, 1, 0, 0, 1, 1, 1, 1, 1, 1, 1, 1, 1, 1, 0, 0] B6) s H) := at_seq (by kernel_rfl) rfl rfl s H
noncomputable def r6_66 : {l : List Oper // opsOf (cAt [1, 1, 1, 0, 1, 0, 0, 1, 1, 0, 0, 1, 1, 1, 1, 1, 1, 1, 1, 1, 1, 0, 0] B6) = l} := by
  apply Subtype.mk
  dsimp only [opsOf, cAt, kids, B6, bodyOf, Tryd.f6, List.getD, List.getElem?_cons_zero, List.getElem?_cons_succ, Option.getD_some]
@[simp] theorem n6_66 (s : List V) (H : Heap) : evCode P Γ call n f m (cAt [1, 1, 1, 0, 1, 0, 0, 1, 1, 0, 0, 1, 1, 1, 1, 1, 1, 1, 1, 1, 1, 0, 0] B6) s H = regNext (evOpsGo P Γ call r6_66.1 r6_66.1 s H) := at_region (by kernel_rfl) r6_66.2 s H
attribute [simp] r6_66
@[simp] theorem n6_67 (s : List V) (H : Heap) : evCode P Γ call n f m (cAt [1, 1, 1, 0, 1, 0, 0, 1, 1, 0, 0, 1, 1, 1, 1, 1, 1, 1, 1, 1, 1, 0, 1] B6) s H = condW P Γ call n f m (cAt [1, 1, 1, 0, 1, 0, 0, 1, 1, 0, 0, 1, 1, 1, 1, 1, 1, 1, 1, 1, 1, 0, 1, 0] B6) (cAt [1, 1, 1, 0, 1, 0, 0, 1, 1, 0, 0, 1, 1, 1, 1, 1, 1, 1, 1, 1, 1, 0, 1, 1] B6) s H (evOperand Γ s (.tmp 80)) := at_cond (by kernel_rfl) (by kernel_rfl) rfl rfl s H
@[simp] theorem n6_68 (s : List V) (H : Heap) : evCode P Γ call n f m (cAt [1, 1, 1, 0, 1, 0, 0, 1, 1, 0, 0, 1, 1, 1, 1, 1, 1, 1, 1, 1, 1, 0, 1, 0] B6) s H = seqNext P Γ call n f m (cAt [1, 1, 1, 0, 1, 0, 0, 1, 1, 0, 0, 1, 1, 1, 1, 1, 1, 1, 1, 1, 1, 0, 1, 0, 1] B6) (evCode P Γ call n f m (cAt [1, 1, 1, 0, 1, 0, 0, 1, 1, 0, 0, 1, 1, 1, 1, 1, 1, 1, 1, 1, 1, 0, 1, 0, 0] B6) s H) := at_seq (by kernel_rfl) rfl rfl s H
noncomputable def r6_69 : {l : List Oper // opsOf (cAt [1, 1, 1, 0, 1, 0, 0, 1, 1, 0, 0, 1, 1, 1, 1, 1, 1, 1, 1, 1, 1, 0, 1, 0, 0] B6) = l} := by
  apply Subtype.mk
  dsimp only [opsOf, cAt, kids, B6, bodyOf, Tryd.f6, List.getD, List.getElem?_cons_zero, List.getElem?_cons_succ, Option.getD_some]
@[simp] theorem n6_69 (s : List V) (H : Heap) : evCode P Γ call n f m (cAt [1, 1, 1, 0, 1, 0, 0, 1, 1, 0, 0, 1, 1, 1, 1, 1, 1, 1, 1, 1, 1, 0, 1, 0, 0] B6) s H = regNext (evOpsGo P Γ call r6_69.1 r6_69.1 s H) := at_region (by kernel_rfl) r6_69.2 s H
attribute [simp] r6_69
@[simp] theorem n6_70 (s : List V) (H : Heap) : evCode P Γ call n f m (cAt [1, 1, 1, 0, 1, 0, 0, 1, 1, 0, 0, 1, 1, 1, 1, 1, 1, 1, 1, 1, 1, 0, 1, 0, 1] B6) s H = some (.ret, s, H) := at_ret (by kernel_rfl) s H
@[simp] theorem n6_71 (s : List V) (H : Heap) : evCode P Γ call n f m (cAt [1, 1, 1, 0, 1, 0, 0, 1, 1, 0, 0, 1, 1, 1, 1, 1, 1, 1, 1, 1, 1, 0, 1, 1] B6) s H = some (.normal, s, H) := at_skip (by kernel_rfl) s H
noncomputable def r6_72 : {l : List Oper // opsOf (cAt [1, 1, 1, 0, 1, 0, 0, 1, 1, 0, 0, 1, 1, 1, 1, 1, 1, 1, 1, 1, 1, 1] B6) = l} := by
  apply Subtype.mk
  dsimp only [opsOf, cAt, kids, B6, bodyOf, Tryd.f6, List.getD, List.getElem?_cons_zero, List.getElem?_cons_succ, Option.getD_some]
@[simp] theorem n6_72 (s : List V) (H : Heap) : evCode P Γ call n f m (cAt [1, 1, 1, 0, 1, 0, 0, 1, 1, 0, 0, 1, 1, 1, 1, 1, 1, 1, 1, 1, 1, 1] B6) s H = regNext (evOpsGo P Γ call r6_72.1 r6_72.1 s H) := at_region (by kernel_rfl) r6_72.2 s H
attribute [simp] r6_72
noncomputable def r6_73 : {l : List Oper // opsOf (cAt [1, 1, 1, 0, 1, 0, 0, 1, 1, 1] B6) = l} := by
  apply Subtype.mk
  dsimp only [opsOf, cAt, kids, B6, bodyOf, Tryd.f6, List.getD, List.getElem?_cons_zero, List.getElem?_cons_succ, Option.getD_some]
@[simp] theorem n6_73 (s : List V) (H : Heap) : evCode P Γ call n f m (cAt [1, 1, 1, 0, 1, 0, 0, 1, 1, 1] B6) s H = regNext (evOpsGo P Γ call r6_73.1 r6_73.1 s H) := at_region (by kernel_rfl) r6_73.2 s H
attribute [simp] r6_73
@[simp] theorem n6_74 (s : List V) (H : Heap) : evCode P Γ call n f m (cAt [1, 1, 1, 1] B6) s H = seqNext P Γ call n f m (cAt [1, 1, 1, 1, 1] B6) (evCode P Γ call n f m (cAt [1, 1, 1, 1, 0] B6) s H) := at_seq (by kernel_rfl) rfl rfl s H
noncomputable def r6_75 : {l : List Oper // opsOf (cAt [1, 1, 1, 1, 0] B6) = l} := by
  apply Subtype.mk
  dsimp only [opsOf, cAt, kids, B6, bodyOf, Tryd.f6, List.getD, List.getElem?_cons_zero, List.getElem?_cons_succ, Option.getD_some]
@[simp] theorem n6_75 (s : List V) (H : Heap) : evCode P Γ call n f m (cAt [1, 1, 1, 1, 0] B6) s H = regNext (evOpsGo P Γ call r6_75.1 r6_75.1 s H) := at_region (by kernel_rfl) r6_75.2 s H
attribute [simp] r6_75
@[simp] theorem n6_76 (s : List V) (H : Heap) : evCode P Γ call n f m (cAt [1, 1, 1, 1, 1] B6) s H = seqNext P Γ call n f m (cAt [1, 1, 1, 1, 1, 1] B6) (evCode P Γ call n f m (cAt [1, 1, 1, 1, 1, 0] B6) s H) := at_seq (by kernel_rfl) rfl rfl s H
noncomputable def r6_77 : {l : List Oper // opsOf (cAt [1, 1, 1, 1, 1, 0] B6) = l} := by
  apply Subtype.mk
  dsimp only [opsOf, cAt, kids, B6, bodyOf, Tryd.f6, List.getD, List.getElem?_cons_zero, List.getElem?_cons_succ, Option.getD_some]
@[simp] theorem n6_77 (s : List V) (H : Heap) : evCode P Γ call n f m (cAt [1, 1, 1, 1, 1, 0] B6) s H = regNext (evOpsGo P Γ call r6_77.1 r6_77.1 s H) := at_region (by kernel_rfl) r6_77.2 s H
attribute [simp] r6_77
@[simp] theorem n6_78 (s : List V) (H : Heap) : evCode P Γ call n f m (cAt [1, 1, 1, 1, 1, 1] B6) s H = seqNext P Γ call n f m (cAt [1, 1, 1, 1, 1, 1, 1] B6) (evCode P Γ call n f m (cAt [1, 1, 1, 1, 1, 1, 0] B6) s H) := at_seq (by kernel_rfl) rfl rfl s H
noncomputable def r6_79 : {l : List Oper // opsOf (cAt [1, 1, 1, 1, 1, 1, 0] B6) = l} := by
  apply Subtype.mk
  dsimp only [opsOf, cAt, kids, B6, bodyOf, Tryd.f6, List.getD, List.getElem?_cons_zero, List.getElem?_cons_succ, Option.getD_some]
@[simp] theorem n6_79 (s : List V) (H : Heap) : evCode P Γ call n f m (cAt [1, 1, 1, 1, 1, 1, 0] B6) s H = regNext (evOpsGo P Γ call r6_79.1 r6_79.1 s H) := at_region (by kernel_rfl) r6_79.2 s H
attribute [simp] r6_79
@[simp] theorem n6_80 (s : List V) (H : Heap) : evCode P Γ call n f m (cAt [1, 1, 1, 1, 1, 1, 1] B6) s H = seqNext P Γ call n f m (cAt [1, 1, 1, 1, 1, 1, 1, 1] B6) (evCode P Γ call n f m (cAt [1, 1, 1, 1, 1, 1, 1, 0] B6) s H) := at_seq (by kernel_rfl) rfl rfl s H
noncomputable def r6_81 : {l : List Oper // opsOf (cAt [1, 1, 1, 1, 1, 1, 1, 0] B6) = l} := by
  apply Subtype.mk
  dsimp only [opsOf, cAt, kids, B6, bodyOf, Tryd.f6, List.getD, List.getElem?_cons_zero, List.getElem?_cons_succ, Option.getD_some]
@[simp] theorem n6_81 (s : List V) (H : Heap) : evCode P Γ call n f m (cAt [1, 1, 1, 1, 1, 1, 1, 0] B6) s H = regNext (evOpsGo P Γ call r6_81.1 r6_81.1 s H) := at_region (by kernel_rfl) r6_81.2 s H
attribute [simp] r6_81
@[simp] theorem n6_82 (s : List V) (H : Heap) : evCode P Γ call n f m (cAt [1, 1, 1, 1, 1, 1, 1, 1] B6) s H = seqNext P Γ call n f m (cAt [1, 1, 1, 1, 1, 1, 1, 1, 1] B6) (evCode P Γ call n f m (cAt [1, 1, 1, 1, 1, 1, 1, 1, 0] B6) s H) := at_seq (by kernel_rfl) rfl rfl s H
@[simp] theorem n6_83 (s : List V) (H : Heap) : evCode P Γ call n f m (cAt [1, 1, 1, 1, 1, 1, 1, 1, 0] B6) s H = seqNext P Γ call n f m (cAt [1, 1, 1, 1, 1, 1, 1, 1, 0, 1] B6) (evCode P Γ call n f m (cAt [1, 1, 1, 1, 1, 1, 1, 1, 0, 0] B6) s H) := at_seq (by kernel_rfl) rfl rfl s H
noncomputable def r6_84 : {l : List Oper // opsOf (cAt [1, 1, 1, 1, 1, 1, 1, 1, 0, 0] B6) = l} := by
  apply Subtype.mk
  dsimp only [opsOf, cAt, kids, B6, bodyOf, Tryd.f6, List.getD, List.getElem?_cons_zero, List.getElem?_cons_succ, Option.getD_some]
@[simp] theorem n6_84 (s : List V) (H : Heap) : evCode P Γ call n f m (cAt [1, 1, 1, 1, 1, 1, 1, 1, 0, 0] B6) s H = regNext (evOpsGo P Γ call r6_84.1 r6_84.1 s H) := at_region (by kernel_rfl) r6_84.2 s H
attribute [simp] r6_84
@[simp] theorem n6_85 (s : List V) (H : Heap) : evCode P Γ call n f m (cAt [1, 1, 1, 1, 1, 1, 1, 1, 0, 1] B6) s H = blockNext 2 (evCode P Γ call n f m (cAt [1, 1, 1, 1, 1, 1, 1, 1, 0, 1, 0] B6) s H) := at_block (by kernel_rfl) rfl s H
@[simp] theorem n6_86 (s : List V) (H : Heap) : evCode P Γ call n f m (cAt [1, 1, 1, 1, 1, 1, 1, 1, 0, 1, 0] B6) s H = evLoopC P Γ call n f m (cAt [1, 1, 1, 1, 1, 1, 1, 1, 0, 1, 0, 0] B6) n s H := at_loop (by kernel_rfl) rfl s H
noncomputable abbrev L6_28 : Code := cAt [1, 1, 1, 1, 1, 1, 1, 1, 0, 1, 0, 0] B6
@[simp] theorem n6_86f : firstRegion (cAt [1, 1, 1, 1, 1, 1, 1, 1, 0, 1, 0, 0] B6) = 28 := by kernel_rfl
@[simp] theorem n6_87 (s : List V) (H : Heap) : evCode P Γ call n f m (cAt [1, 1, 1, 1, 1, 1, 1, 1, 0, 1, 0, 0] B6) s H = seqNext P Γ call n f m (cAt [1, 1, 1, 1, 1, 1, 1, 1, 0, 1, 0, 0, 1] B6) (evCode P Γ call n f m (cAt [1, 1, 1, 1, 1, 1, 1, 1, 0, 1, 0, 0, 0] B6) s H) := at_seq (by kernel_rfl) rfl rfl s H
noncomputable def r6_88 : {l : List Oper // opsOf (cAt [1, 1, 1, 1, 1, 1, 1, 1, 0, 1, 0, 0, 0] B6) = l} := by
  apply Subtype.mk
  dsimp only [opsOf, cAt, kids, B6, bodyOf, Tryd.f6, List.getD, List.getElem?_cons_zero, List.getElem?_cons_succ, Option.getD_some]
@[simp] theorem n6_88 (s : List V) (H : Heap) : evCode P Γ call n f m (cAt [1, 1, 1, 1, 1, 1, 1, 1, 0, 1, 0, 0, 0] B6) s H = regNext (evOpsGo P Γ call r6_88.1 r6_88.1 s H) := at_region (by kernel_rfl) r6_88.2 s H
attribute [simp] r6_88
@[simp] theorem n6_89 (s : List V) (H : Heap) : evCode P Γ call n f m (cAt [1, 1, 1, 1, 1, 1, 1, 1, 0, 1, 0, 0, 1] B6) s H = seqNext P Γ call n f m (cAt [1, 1, 1, 1, 1, 1, 1, 1, 0, 1, 0, 0, 1, 1] B6) (evCode P Γ call n f m (cAt [1, 1, 1, 1, 1, 1, 1, 1, 0, 1, 0, 0, 1, 0] B6) s H) := at_seq (by kernel_rfl) rfl rfl s H
@[simp] theorem n6_90 (s : List V) (H : Heap) : evCode P Γ call n f m (cAt [1, 1, 1, 1, 1, 1, 1, 1, 0, 1, 0, 0, 1, 0] B6) s H = condW P Γ call n f m (cAt [1, 1, 1, 1, 1, 1, 1, 1, 0, 1, 0, 0, 1, 0, 0] B6) (cAt [1, 1, 1, 1, 1, 1, 1, 1, 0, 1, 0, 0, 1, 0, 1] B6) s H (evOperand Γ s (.tmp 96)) := at_cond (by kernel_rfl) (by kernel_rfl) rfl rfl s H
@[simp] theorem n6_91 (s : List V) (H : Heap) : evCode P Γ call n f m (cAt [1, 1, 1, 1, 1, 1, 1, 1, 0, 1, 0, 0, 1, 0, 0] B6) s H = some (.normal, s, H) := at_skip (by kernel_rfl) s H
@[simp] theorem n6_92 (s : List V) (H : Heap) : evCode P Γ call n f m (cAt [1, 1, 1, 1, 1, 1, 1, 1, 0, 1, 0, 0, 1, 0, 1] B6) s H = some (.exit 2, s, H) := at_exit (by kernel_rfl) s H
@[simp] theorem n6_93 (s : List V) (H : Heap) : evCode P Γ call n f m (cAt [1, 1, 1, 1, 1, 1, 1, 1, 0, 1, 0, 0, 1, 1] B6) s H = seqNext P Γ call n f m (cAt [1, 1, 1, 1, 1, 1, 1, 1, 0, 1, 0, 0, 1, 1, 1] B6) (evCode P Γ call n f m (cAt [1, 1, 1, 1, 1, 1, 1, 1, 0, 1, 0, 0, 1, 1, 0] B6) s H) := at_seq (by kernel_rfl) rfl rfl s H
@[simp] theorem n6_94 (s : List V) (H : Heap) : evCode P Γ call n f m (cAt [1, 1, 1, 1, 1, 1, 1, 1, 0, 1, 0, 0, 1, 1, 0] B6) s H = blockNext 3 (evCode P Γ call n f m (cAt [1, 1, 1, 1, 1, 1, 1, 1, 0, 1, 0, 0, 1, 1, 0, 0] B6) s H) := at_block (by kernel_rfl) rfl s H
@[simp] theorem n6_95 (s : List V) (H : Heap) : evCode P Γ call n f m (cAt [1, 1, 1, 1, 1, 1, 1, 1, 0, 1, 0, 0, 1, 1, 0, 0] B6) s H = seqNext P Γ call n f m (cAt [1, 1, 1, 1, 1, 1, 1, 1, 0, 1, 0, 0, 1, 1, 0, 0, 1] B6) (evCode P Γ call n f m (cAt [1, 1, 1, 1, 1, 1, 1, 1, 0, 1, 0, 0, 1, 1, 0, 0, 0] B6) s H) := at_seq (by kernel_rfl) rfl rfl s H
noncomputable def r6_96 : {l : List Oper // opsOf (cAt [1, 1, 1, 1, 1, 1, 1, 1, 0, 1, 0, 0, 1, 1, 0, 0, 0] B6) = l} := by
  apply Subtype.mk
  dsimp only [opsOf, cAt, kids, B6, bodyOf, Tryd.f6, List.getD, List.getElem?_cons_zero, List.getElem?_cons_succ, Option.getD_some]
@[simp] theorem n6_96 (s : List V) (H : Heap) : evCode P Γ call n f m (cAt [1, 1, 1, 1, 1, 1, 1, 1, 0, 1, 0, 0, 1, 1, 0, 0, 0] B6) s H = regNext (evOpsGo P Γ call r6_96.1 r6_96.1 s H) := at_region (by kernel_rfl) r6_96.2 s H
attribute [simp] r6_96
@[simp] theorem n6_97 (s : List V) (H : Heap) : evCode P Γ call n f m (cAt [1, 1, 1, 1, 1, 1, 1, 1, 0, 1, 0, 0, 1, 1, 0, 0, 1] B6) s H = seqNext P Γ call n f m (cAt [1, 1, 1, 1, 1, 1, 1, 1, 0, 1, 0, 0, 1, 1, 0, 0, 1, 1] B6) (evCode P Γ call n f m (cAt [1, 1, 1, 1, 1, 1, 1, 1, 0, 1, 0, 0, 1, 1, 0, 0, 1, 0] B6) s H) := at_seq (by kernel_rfl) rfl rfl s H
noncomputable def r6_98 : {l : List Oper // opsOf (cAt [1, 1, 1, 1, 1, 1, 1, 1, 0, 1, 0, 0, 1, 1, 0, 0, 1, 0] B6) = l} := by
  apply Subtype.mk
  dsimp only [opsOf, cAt, kids, B6, bodyOf, Tryd.f6, List.getD, List.getElem?_cons_zero, List.getElem?_cons_succ, Option.getD_some]
@[simp] theorem n6_98 (s : List V) (H : Heap) : evCode P Γ call n f m (cAt [1, 1, 1, 1, 1, 1, 1, 1, 0, 1, 0, 0, 1, 1, 0, 0, 1, 0] B6) s H = regNext (evOpsGo P Γ call r6_98.1 r6_98.1 s H) := at_region (by kernel_rfl) r6_98.2 s H
attribute [simp] r6_98
@[simp] theorem n6_99 (s : List V) (H : Heap) : evCode P Γ call n f m (cAt [1, 1, 1, 1, 1, 1, 1, 1, 0, 1, 0, 0, 1, 1, 0, 0, 1, 1] B6) s H = blockNext 4 (evCode P Γ call n f m (cAt [1, 1, 1, 1, 1, 1, 1, 1, 0, 1, 0, 0, 1, 1, 0, 0, 1, 1, 0] B6) s H) := at_block (by kernel_rfl) rfl s H
@[simp] theorem n6_100 (s : List V) (H : Heap) : evCode P Γ call n f m (cAt [1, 1, 1, 1, 1, 1, 1, 1, 0, 1, 0, 0, 1, 1, 0, 0, 1, 1, 0] B6) s H = seqNext P Γ call n f m (cAt [1, 1, 1, 1, 1, 1, 1, 1, 0, 1, 0, 0, 1, 1, 0, 0, 1, 1, 0, 1] B6) (evCode P Γ call n f m (cAt [1, 1, 1, 1, 1, 1, 1, 1, 0, 1, 0, 0, 1, 1, 0, 0, 1, 1, 0, 0] B6) s H) := at_seq (by kernel_rfl) rfl rfl s H
noncomputable def r6_101 : {l : List Oper // opsOf (cAt [1, 1, 1, 1, 1, 1, 1, 1, 0, 1, 0, 0, 1, 1, 0, 0, 1, 1, 0, 0] B6) = l} := by
  apply Subtype.mk
  dsimp only [opsOf, cAt, kids, B6, bodyOf, Tryd.f6, List.getD, List.getElem?_cons_zero, List.getElem?_cons_succ, Option.getD_some]
@[simp] theorem n6_101 (s : List V) (H : Heap) : evCode P Γ call n f m (cAt [1, 1, 1, 1, 1, 1, 1, 1, 0, 1, 0, 0, 1, 1, 0, 0, 1, 1, 0, 0] B6) s H = regNext (evOpsGo P Γ call r6_101.1 r6_101.1 s H) := at_region (by kernel_rfl) r6_101.2 s H
attribute [simp] r6_101
@[simp] theorem n6_102 (s : List V) (H : Heap) : evCode P Γ call n f m (cAt [1, 1, 1, 1, 1, 1, 1, 1, 0, 1, 0, 0, 1, 1, 0, 0, 1, 1, 0, 1] B6) s H = condW P Γ call n f m (cAt [1, 1, 1, 1, 1, 1, 1, 1, 0, 1, 0, 0, 1, 1, 0, 0, 1, 1, 0, 1, 0] B6) (cAt [1, 1, 1, 1, 1, 1, 1, 1, 0, 1, 0, 0, 1, 1, 0, 0, 1, 1, 0, 1, 1] B6) s H (evOperand Γ s (.tmp 101)) := at_cond (by kernel_rfl) (by kernel_rfl) rfl rfl s H
noncomputable def r6_103 : {l : List Oper // opsOf (cAt [1, 1, 1, 1, 1, 1, 1, 1, 0, 1, 0, 0, 1, 1, 0, 0, 1, 1, 0, 1, 0] B6) = l} := by
  apply Subtype.mk
  dsimp only [opsOf, cAt, kids, B6, bodyOf, Tryd.f6, List.getD, List.getElem?_cons_zero, List.getElem?_cons_succ, Option.getD_some]
@[simp] theorem n6_103 (s : List V) (H : Heap) : evCode P Γ call n f m (cAt [1, 1, 1, 1, 1, 1, 1, 1, 0, 1, 0, 0, 1, 1, 0, 0, 1, 1, 0, 1, 0] B6) s H = regNext (evOpsGo P Γ call r6_103.1 r6_103.1 s H) := at_region (by kernel_rfl) r6_103.2 s H
attribute [simp] r6_103
@[simp] theorem n6_104 (s : List V) (H : Heap) : evCode P Γ call n f m (cAt [1, 1, 1, 1, 1, 1, 1, 1, 0, 1, 0, 0, 1, 1, 0, 0, 1, 1, 0, 1, 1] B6) s H = seqNext P Γ call n f m (cAt [1, 1, 1, 1, 1, 1, 1, 1, 0, 1, 0, 0, 1, 1, 0, 0, 1, 1, 0, 1, 1, 1] B6) (evCode P Γ call n f m (cAt [1, 1, 1, 1, 1, 1, 1, 1, 0, 1, 0, 0, 1, 1, 0, 0, 1, 1, 0, 1, 1, 0] B6) s H) := at_seq (by kernel_rfl) rfl rfl s H
noncomputable def r6_105 : {l : List Oper // opsOf (cAt [1, 1, 1, 1, 1, 1, 1, 1, 0, 1, 0, 0, 1, 1, 0, 0, 1, 1, 0, 1, 1, 0] B6) = l} := by
  apply Subtype.mk
  dsimp only [opsOf, cAt, kids, B6, bodyOf, Tryd.f6, List.getD, List.getElem?_cons_zero, List.getElem?_cons_succ, Option.getD_some]
@[simp] theorem n6_105 (s : List V) (H : Heap) : evCode P Γ call n f m (cAt [1, 1, 1, 1, 1, 1, 1, 1, 0, 1, 0, 0, 1, 1, 0, 0, 1, 1, 0, 1, 1, 0] B6) s H = regNext (evOpsGo P Γ call r6_105.1 r6_105.1 s H) := at_region (by kernel_rfl) r6_105.2 s H
attribute [simp] r6_105
@[simp] theorem n6_106 (s : List V) (H : Heap) : evCode P Γ call n f m (cAt [1, 1, 1, 1, 1, 1, 1, 1, 0, 1, 0, 0, 1, 1, 0, 0, 1, 1, 0, 1, 1, 1] B6) s H = condW P Γ call n f m (cAt [1, 1, 1, 1, 1, 1, 1, 1, 0, 1, 0, 0, 1, 1, 0, 0, 1, 1, 0, 1, 1, 1, 0] B6) (cAt [1, 1, 1, 1, 1, 1, 1, 1, 0, 1, 0, 0, 1, 1, 0, 0, 1, 1, 0, 1, 1, 1, 1] B6) s H (evOperand Γ s (.tmp 108)) := at_cond (by kernel_rfl) (by kernel_rfl) rfl rfl s H
noncomputable def r6_107 : {l : List Oper // opsOf (cAt [1, 1, 1, 1, 1, 1, 1, 1, 0, 1, 0, 0, 1, 1, 0, 0, 1, 1, 0, 1, 1, 1, 0] B6) = l} := by
  apply Subtype.mk
  dsimp only [opsOf, cAt, kids, B6, bodyOf, Tryd.f6, List.getD, List.getElem?_cons_zero, List.getElem?_cons_succ, Option.getD_some]
@[simp] theorem n6_107 (s : List V) (H : Heap) : evCode P Γ call n f m (cAt [1, 1, 1, 1, 1, 1, 1, 1, 0, 1, 0, 0, 1, 1, 0, 0, 1, 1, 0, 1, 1, 1, 0] B6) s H = regNext (evOpsGo P Γ call r6_107.1 r6_107.1 s H) := at_region (by kernel_rfl) r6_107.2 s H
attribute [simp] r6_107
@[simp] theorem n6_108 (s : List V) (H : Heap) : evCode P Γ call n f m (cAt [1, 1, 1, 1, 1, 1, 1, 1, 0, 1, 0, 0, 1, 1, 0, 0, 1, 1, 0, 1, 1, 1, 1] B6) s H = seqNext P Γ call n f m (cAt [1, 1, 1, 1, 1, 1, 1, 1, 0, 1, 0, 0, 1, 1, 0, 0, 1, 1, 0, 1, 1, 1, 1, 1] B6) (evCode P Γ call n f m (cAt [1, 1, 1, 1, 1, 1, 1, 1, 0, 1, 0, 0, 1, 1, 0, 0, 1, 1, 0, 1, 1, 1, 1, 0] B6) s H) := at_seq (by kernel_rfl) rfl rfl s H
noncomputable def r6_109 : {l : List Oper // opsOf (cAt [1, 1, 1, 1, 1, 1, 1, 1, 0, 1, 0, 0, 1, 1, 0, 0, 1, 1, 0, 1, 1, 1, 1, 0] B6) = l} := by
  apply Subtype.mk
  dsimp only [opsOf, cAt, kids, B6, bodyOf, Tryd.f6, List.getD, List.getElem?_cons_zero, List.getElem?_cons_succ, Option.getD_some]
@[simp] theorem n6_109 (s : List V) (H : Heap) : evCode P Γ call n f m (cAt [1, 1, 1, 1, 1, 1, 1, 1, 0, 1, 0, 0, 1, 1, 0, 0, 1, 1, 0, 1, 1, 1, 1, 0] B6) s H = regNext (evOpsGo P Γ call r6_109.1 r6_109.1 s H) := at_region (by kernel_rfl) r6_109.2 s H
attribute [simp] r6_109
@[simp] theorem n6_110 (s : List V) (H : Heap) : evCode P Γ call n f m (cAt [1, 1, 1, 1, 1, 1, 1, 1, 0, 1, 0, 0, 1, 1, 0, 0, 1, 1, 0, 1, 1, 1, 1, 1] B6) s H = condW P Γ call n f m (cAt [1, 1, 1, 1, 1, 1, 1, 1, 0, 1, 0, 0, 1, 1, 0, 0, 1, 1, 0, 1, 1, 1, 1, 1, 0] B6) (cAt [1, 1, 1, 1, 1, 1, 1, 1, 0, 1, 0, 0, 1, 1, 0, 0, 1, 1, 0, 1, 1, 1, 1, 1, 1] B6) s H (evOperand Γ s (.tmp 115)) := at_cond (by kernel_rfl) (by kernel_rfl) rfl rfl s H
noncomputable def r6_111 : {l : List Oper // opsOf (cAt [1, 1, 1, 1, 1, 1, 1, 1, 0, 1, 0, 0, 1, 1, 0, 0, 1, 1, 0, 1, 1, 1, 1, 1, 0] B6) = l} := by
  apply Subtype.mk
  dsimp only [opsOf, cAt, kids, B6, bodyOf, Tryd.f6, List.getD, List.getElem?_cons_zero, List.getElem?_cons_succ, Option.getD_some]
@[simp] theorem n6_111 (s : List V) (H : Heap) : evCode P Γ call n f m (cAt [1, 1, 1, 1, 1, 1, 1, 1, 0, 1, 0, 0, 1, 1, 0, 0, 1, 1, 0, 1, 1, 1, 1, 1, 0] B6) s H = regNext (drawR P Γ call r6_111.1 [([], []), ([], []), ([4, 5, 6, 7], [121, 122, 123, 124]), ([4, 5, 6, 7], [121, 122, 123, 124]), ([2, 3], [119, 120]), ([2, 3], [119, 120]), ([2, 3], [119, 120]), ([2, 3], [119, 120]), ([], []), ([], []), ([], [])] s H) := at_drawT (by kernel_rfl) r6_111.2 (by kernel_rfl) s H
attribute [simp] r6_111
@[simp] theorem n6_112 (s : List V) (H : Heap) : evCode P Γ call n f m (cAt [1, 1, 1, 1, 1, 1, 1, 1, 0, 1, 0, 0, 1, 1, 0, 0, 1, 1, 0, 1, 1, 1, 1, 1, 1] B6) s H = some (.normal, s, H) := at_skip (by kernel_rfl) s H
noncomputable def r6_113 : {l : List Oper // opsOf (cAt [1, 1, 1, 1, 1, 1, 1, 1, 0, 1, 0, 0, 1, 1, 1] B6) = l} := by
  apply Subtype.mk
  dsimp only [opsOf, cAt, kids, B6, bodyOf, Tryd.f6, List.getD, List.getElem?_cons_zero, List.getElem?_cons_succ, Option.getD_some]
@[simp] theorem n6_113 (s : List V) (H : Heap) : evCode P Γ call n f m (cAt [1, 1, 1, 1, 1, 1, 1, 1, 0, 1, 0, 0, 1, 1, 1] B6) s H = regNext (evOpsGo P Γ call r6_113.1 r6_113.1 s H) := at_region (by kernel_rfl) r6_113.2 s H
attribute [simp] r6_113
@[simp] theorem n6_114 (s : List V) (H : Heap) : evCode P Γ call n f m (cAt [1, 1, 1, 1, 1, 1, 1, 1, 1] B6) s H = seqNext P Γ call n f m (cAt [1, 1, 1, 1, 1, 1, 1, 1, 1, 1] B6) (evCode P Γ call n f m (cAt [1, 1, 1, 1, 1, 1, 1, 1, 1, 0] B6) s H) := at_seq (by kernel_rfl) rfl rfl s H
noncomputable def r6_115 : {l : List Oper // opsOf (cAt [1, 1, 1, 1, 1, 1, 1, 1, 1, 0] B6) = l} := by
  apply Subtype.mk
  dsimp only [opsOf, cAt, kids, B6, bodyOf, Tryd.f6, List.getD, List.getElem?_cons_zero, List.getElem?_cons_succ, Option.getD_some]
@[simp] theorem n6_115 (s : List V) (H : Heap) : evCode P Γ call n f m (cAt [1, 1, 1, 1, 1, 1, 1, 1, 1, 0] B6) s H = regNext (evOpsGo P Γ call r6_115.1 r6_115.1 s H) := at_region (by kernel_rfl) r6_115.2 s H
attribute [simp] r6_115
@[simp] theorem n6_116 (s : List V) (H : Heap) : evCode P Γ call n f m (cAt [1, 1, 1, 1, 1, 1, 1, 1, 1, 1] B6) s H = some (.ret, s, H) := at_ret (by kernel_rfl) s H
theorem b6 {k : Nat} (ho : ∀ args H, Γ.orc 6 args H = none) (args : List V) (H : Heap) (ha : args.length ≤ 144) : evF Tryd.prog Γ (k + 1) 6 args H = bodyEnd Tryd.prog [.tmp 2] H.length (evCode Tryd.prog Γ (evF Tryd.prog Γ k) k 6 H.length (cAt [] B6) (mkL 144 V.undef (enumV 0 args)) H) := body_at Tryd.func6 (by decide) rfl ho rfl rfl args H ha
noncomputable def B13 : Code := bodyOf Tryd.f13
@[simp] theorem n13_1 (s : List V) (H : Heap) : evCode P Γ call n f m (cAt [] B13) s H = seqNext P Γ call n f m (cAt [1] B13) (evCode P Γ call n f m (cAt [0] B13) s H) := at_seq (by kernel_rfl) rfl rfl s H
noncomputable def r13_2 : {l : List Oper // opsOf (cAt [0] B13) = l} := by
  apply Subtype.mk
  dsimp only [opsOf, cAt, kids, B13, bodyOf, Tryd.f13, List.getD, List.getElem?_cons_zero, List.getElem?_cons_succ, Option.getD_some]
@[simp] theorem n13_2 (s : List V) (H : Heap) : evCode P Γ call n f m (cAt [0] B13) s H = regNext (evOpsGo P Γ call r13_2.1 r13_2.1 s H) := at_region (by kernel_rfl) r13_2.2 s H
attribute [simp] r13_2
@[simp] theorem n13_3 (s : List V) (H : Heap) : evCode P Γ call n f m (cAt [1] B13) s H = seqNext P Γ call n f m (cAt [1, 1] B13) (evCode P Γ call n f m (cAt [1, 0] B13) s H) := at_seq (by kernel_rfl) rfl rfl s H
@[simp] theorem n13_4 (s : List V) (H : Heap) : evCode P Γ call n f m (cAt [1, 0] B13) s H = seqNext P Γ call n f m (cAt [1, 0, 1] B13) (evCode P Γ call n f m (cAt [1, 0, 0] B13) s H) := at_seq (by kernel_rfl) rfl rfl s H
noncomputable def r13_5 : {l : List Oper // opsOf (cAt [1, 0, 0] B13) = l} := by
  apply Subtype.mk
  dsimp only [opsOf, cAt, kids, B13, bodyOf, Tryd.f13, List.getD, List.getElem?_cons_zero, List.getElem?_cons_succ, Option.getD_some]
@[simp] theorem n13_5 (s : List V) (H : Heap) : evCode P Γ call n f m (cAt [1, 0, 0] B13) s H = regNext (evOpsGo P Γ call r13_5.1 r13_5.1 s H) := at_region (by kernel_rfl) r13_5.2 s H
attribute [simp] r13_5
@[simp] theorem n13_6 (s : List V) (H : Heap) : evCode P Γ call n f m (cAt [1, 0, 1] B13) s H = seqNext P Γ call n f m (cAt [1, 0, 1, 1] B13) (evCode P Γ call n f m (cAt [1, 0, 1, 0] B13) s H) := at_seq (by kernel_rfl) rfl rfl s H
noncomputable def r13_7 : {l : List Oper // opsOf (cAt [1, 0, 1, 0] B13) = l} := by
  apply Subtype.mk
  dsimp only [opsOf, cAt, kids, B13, bodyOf, Tryd.f13, List.getD, List.getElem?_cons_zero, List.getElem?_cons_succ, Option.getD_some]
@[simp] theorem n13_7 (s : List V) (H : Heap) : evCode P Γ call n f m (cAt [1, 0, 1, 0] B13) s H = regNext (evOpsGo P Γ call r13_7.1 r13_7.1 s H) := at_region (by kernel_rfl) r13_7.2 s H
attribute [simp] r13_7
@[simp] theorem n13_8 (s : List V) (H : Heap) : evCode P Γ call n f m (cAt [1, 0, 1, 1] B13) s H = condW P Γ call n f m (cAt [1, 0, 1, 1, 0] B13) (cAt [1, 0, 1, 1, 1] B13) s H (evOperand Γ s (.tmp 14)) := at_cond (by kernel_rfl) (by kernel_rfl) rfl rfl s H
@[simp] theorem n13_9 (s : List V) (H : Heap) : evCode P Γ call n f m (cAt [1, 0, 1, 1, 0] B13) s H = seqNext P Γ call n f m (cAt [1, 0, 1, 1, 0, 1] B13) (evCode P Γ call n f m (cAt [1, 0, 1, 1, 0, 0] B13) s H) := at_seq (by kernel_rfl) rfl rfl s H
noncomputable def r13_10 : {l : List Oper // opsOf (cAt [1, 0, 1, 1, 0, 0] B13) = l} := by
  apply Subtype.mk
  dsimp only [opsOf, cAt, kids, B13, bodyOf, Tryd.f13, List.getD, List.getElem?_cons_zero, List.getElem?_cons_succ, Option.getD_some]
@[simp] theorem n13_10 (s : List V) (H : Heap) : evCode P Γ call n f m (cAt [1, 0, 1, 1, 0, 0] B13) s H = regNext (evOpsGo P Γ call r13_10.1 r13_10.1 s H) := at_region (by kernel_rfl) r13_10.2 s H
attribute [simp] r13_10
@[simp] theorem n13_11 (s : List V) (H : Heap) : evCode P Γ call n f m (cAt [1, 0, 1, 1, 0, 1] B13) s H = some (.ret, s, H) := at_ret (by kernel_rfl) s H
@[simp] theorem n13_12 (s : List V) (H : Heap) : evCode P Γ call n f m (cAt [1, 0, 1, 1, 1] B13) s H = some (.normal, s, H) := at_skip (by kernel_rfl) s H
@[simp] theorem n13_13 (s : List V) (H : Heap) : evCode P Γ call n f m (cAt [1, 1] B13) s H = seqNext P Γ call n f m (cAt [1, 1, 1] B13) (evCode P Γ call n f m (cAt [1, 1, 0] B13) s H) := at_seq (by kernel_rfl) rfl rfl s H
noncomputable def r13_14 : {l : List Oper // opsOf (cAt [1, 1, 0] B13) = l} := by
  apply Subtype.mk
  dsimp only [opsOf, cAt, kids, B13, bodyOf, Tryd.f13, List.getD, List.getElem?_cons_zero, List.getElem?_cons_succ, Option.getD_some]
@[simp] theorem n13_14 (s : List V) (H : Heap) : evCode P Γ call n f m (cAt [1, 1, 0] B13) s H = regNext (evOpsGo P Γ call r13_14.1 r13_14.1 s H) := at_region (by kernel_rfl) r13_14.2 s H
attribute [simp] r13_14
@[simp] theorem n13_15 (s : List V) (H : Heap) : evCode P Γ call n f m (cAt [1, 1, 1] B13) s H = some (.ret, s, H) := at_ret (by kernel_rfl) s H
theorem b13 {k : Nat} (ho : ∀ args H, Γ.orc 13 args H = none) (args : List V) (H : Heap) (ha : args.length ≤ 20) : evF Tryd.prog Γ (k + 1) 13 args H = bodyEnd Tryd.prog [.tmp 2, .tmp 3] H.length (evCode Tryd.prog Γ (evF Tryd.prog Γ k) k 13 H.length (cAt [] B13) (mkL 20 V.undef (enumV 0 args)) H) := body_at Tryd.func13 (by decide) rfl ho rfl rfl args H ha
noncomputable def B14 : Code := bodyOf Tryd.f14
@[simp] theorem n14_1 (s : List V) (H : Heap) : evCode P Γ call n f m (cAt [] B14) s H = seqNext P Γ call n f m (cAt [1] B14) (evCode P Γ call n f m (cAt [0] B14) s H) := at_seq (by kernel_rfl) rfl rfl s H
noncomputable def r14_2 : {l : List Oper // opsOf (cAt [0] B14) = l} := by
  apply Subtype.mk
  dsimp only [opsOf, cAt, kids, B14, bodyOf, Tryd.f14, List.getD, List.getElem?_cons_zero, List.getElem?_cons_succ, Option.getD_some]
@[simp] theorem n14_2 (s : List V) (H : Heap) : evCode P Γ call n f m (cAt [0] B14) s H = regNext (evOpsGo P Γ call r14_2.1 r14_2.1 s H) := at_region (by kernel_rfl) r14_2.2 s H
attribute [simp] r14_2
@[simp] theorem n14_3 (s : List V) (H : Heap) : evCode P Γ call n f m (cAt [1] B14) s H = seqNext P Γ call n f m (cAt [1, 1] B14) (evCode P Γ call n f m (cAt [1, 0] B14) s H) := at_seq (by kernel_rfl) rfl rfl s H
@[simp] theorem n14_4 (s : List V) (H : Heap) : evCode P Γ call n f m (cAt [1, 0] B14) s H = seqNext P Γ call n f m (cAt [1, 0, 1] B14) (evCode P Γ call n f m (cAt [1, 0, 0] B14) s H) := at_seq (by kernel_rfl) rfl rfl s H
noncomputable def r14_5 : {l : List Oper // opsOf (cAt [1, 0, 0] B14) = l} := by
  apply Subtype.mk
  dsimp only [opsOf, cAt, kids, B14, bodyOf, Tryd.f14, List.getD, List.getElem?_cons_zero, List.getElem?_cons_succ, Option.getD_some]
@[simp] theorem n14_5 (s : List V) (H : Heap) : evCode P Γ call n f m (cAt [1, 0, 0] B14) s H = regNext (evOpsGo P Γ call r14_5.1 r14_5.1 s H) := at_region (by kernel_rfl) r14_5.2 s H
attribute [simp] r14_5
@[simp] theorem n14_6 (s : List V) (H : Heap) : evCode P Γ call n f m (cAt [1, 0, 1] B14) s H = condW P Γ call n f m (cAt [1, 0, 1, 0] B14) (cAt [1, 0, 1, 1] B14) s H (evOperand Γ s (.tmp 12)) := at_cond (by kernel_rfl) (by kernel_rfl) rfl rfl s H
@[simp] theorem n14_7 (s : List V) (H : Heap) : evCode P Γ call n f m (cAt [1, 0, 1, 0] B14) s H = seqNext P Γ call n f m (cAt [1, 0, 1, 0, 1] B14) (evCode P Γ call n f m (cAt [1, 0, 1, 0, 0] B14) s H) := at_seq (by kernel_rfl) rfl rfl s H
noncomputable def r14_8 : {l : List Oper // opsOf (cAt [1, 0, 1, 0, 0] B14) = l} := by
  apply Subtype.mk
  dsimp only [opsOf, cAt, kids, B14, bodyOf, Tryd.f14, List.getD, List.getElem?_cons_zero, List.getElem?_cons_succ, Option.getD_some]
@[simp] theorem n14_8 (s : List V) (H : Heap) : evCode P Γ call n f m (cAt [1, 0, 1, 0, 0] B14) s H = regNext (evOpsGo P Γ call r14_8.1 r14_8.1 s H) := at_region (by kernel_rfl) r14_8.2 s H
attribute [simp] r14_8
@[simp] theorem n14_9 (s : List V) (H : Heap) : evCode P Γ call n f m (cAt [1, 0, 1, 0, 1] B14) s H = some (.ret, s, H) := at_ret (by kernel_rfl) s H
@[simp] theorem n14_10 (s : List V) (H : Heap) : evCode P Γ call n f m (cAt [1, 0, 1, 1] B14) s H = some (.normal, s, H) := at_skip (by kernel_rfl) s H
@[simp] theorem n14_11 (s : List V) (H : Heap) : evCode P Γ call n f m (cAt [1, 1] B14) s H = seqNext P Γ call n f m (cAt [1, 1, 1] B14) (evCode P Γ call n f m (cAt [1, 1, 0] B14) s H) := at_seq (by kernel_rfl) rfl rfl s H
noncomputable def r14_12 : {l : List Oper // opsOf (cAt [1, 1, 0] B14) = l} := by
  apply Subtype.mk
  dsimp only [opsOf, cAt, kids, B14, bodyOf, Tryd.f14, List.getD, List.getElem?_cons_zero, List.getElem?_cons_succ, Option.getD_some]
@[simp] theorem n14_12 (s : List V) (H : Heap) : evCode P Γ call n f m (cAt [1, 1, 0] B14) s H = regNext (evOpsGo P Γ call r14_12.1 r14_12.1 s H) := at_region (by kernel_rfl) r14_12.2 s H
attribute [simp] r14_12
@[simp] theorem n14_13 (s : List V) (H : Heap) : evCode P Γ call n f m (cAt [1, 1, 1] B14) s H = seqNext P Γ call n f m (cAt [1, 1, 1, 1] B14) (evCode P Γ call n f m (cAt [1, 1, 1, 0] B14) s H) := at_seq (by kernel_rfl) rfl rfl s H
noncomputable def r14_14 : {l : List Oper // opsOf (cAt [1, 1, 1, 0] B14) = l} := by
  apply Subtype.mk
  dsimp only [opsOf, cAt, kids, B14, bodyOf, Tryd.f14, List.getD, List.getElem?_cons_zero, List.getElem?_cons_succ, Option.getD_some]
@[simp] theorem n14_14 (s : List V) (H : Heap) : evCode P Γ call n f m (cAt [1, 1, 1, 0] B14) s H = regNext (evOpsGo P Γ call r14_14.1 r14_14.1 s H) := at_region (by kernel_rfl) r14_14.2 s H
attribute [simp] r14_14
@[simp] theorem n14_15 (s : List V) (H : Heap) : evCode P Γ call n f m (cAt [1, 1, 1, 1] B14) s H = seqNext P Γ call n f m (cAt [1, 1, 1, 1, 1] B14) (evCode P Γ call n f m (cAt [1, 1, 1, 1, 0] B14) s H) := at_seq (by kernel_rfl) rfl rfl s H
@[simp] theorem n14_16 (s : List V) (H : Heap) : evCode P Γ call n f m (cAt [1, 1, 1, 1, 0] B14) s H = seqNext P Γ call n f m (cAt [1, 1, 1, 1, 0, 1] B14) (evCode P Γ call n f m (cAt [1, 1, 1, 1, 0, 0] B14) s H) := at_seq (by kernel_rfl) rfl rfl s H
noncomputable def r14_17 : {l : List Oper // opsOf (cAt [1, 1, 1, 1, 0, 0] B14) = l} := by
  apply Subtype.mk
  dsimp only [opsOf, cAt, kids, B14, bodyOf, Tryd.f14, List.getD, List.getElem?_cons_zero, List.getElem?_cons_succ, Option.getD_some]
@[simp] theorem n14_17 (s : List V) (H : Heap) : evCode P Γ call n f m (cAt [1, 1, 1, 1, 0, 0] B14) s H = regNext (evOpsGo P Γ call r14_17.1 r14_17.1 s H) := at_region (by kernel_rfl) r14_17.2 s H
attribute [simp] r14_17
@[simp] theorem n14_18 (s : List V) (H : Heap) : evCode P Γ call n f m (cAt [1, 1, 1, 1, 0, 1] B14) s H = blockNext 0 (evCode P Γ call n f m (cAt [1, 1, 1, 1, 0, 1, 0] B14) s H) := at_block (by kernel_rfl) rfl s H
@[simp] theorem n14_19 (s : List V) (H : Heap) : evCode P Γ call n f m (cAt [1, 1, 1, 1, 0, 1, 0] B14) s H = evLoopC P Γ call n f m (cAt [1, 1, 1, 1, 0, 1, 0, 0] B14) n s H := at_loop (by kernel_rfl) rfl s H
noncomputable abbrev L14_6 : Code := cAt [1, 1, 1, 1, 0, 1, 0, 0] B14
@[simp] theorem n14_19f : firstRegion (cAt [1, 1, 1, 1, 0, 1, 0, 0] B14) = 6 := by kernel_rfl
@[simp] theorem n14_20 (s : List V) (H : Heap) : evCode P Γ call n f m (cAt [1, 1, 1, 1, 0, 1, 0, 0] B14) s H = seqNext P Γ call n f m (cAt [1, 1, 1, 1, 0, 1, 0, 0, 1] B14) (evCode P Γ call n f m (cAt [1, 1, 1, 1, 0, 1, 0, 0, 0] B14) s H) := at_seq (by kernel_rfl) rfl rfl s H
noncomputable def r14_21 : {l : List Oper // opsOf (cAt [1, 1, 1, 1, 0, 1, 0, 0, 0] B14) = l} := by
  apply Subtype.mk
  dsimp only [opsOf, cAt, kids, B14, bodyOf, Tryd.f14, List.getD, List.getElem?_cons_zero, List.getElem?_cons_succ, Option.getD_some]
@[simp] theorem n14_21 (s : List V) (H : Heap) : evCode P Γ call n f m (cAt [1, 1, 1, 1, 0, 1, 0, 0, 0] B14) s H = regNext (evOpsGo P Γ call r14_21.1 r14_21.1 s H) := at_region (by kernel_rfl) r14_21.2 s H
attribute [simp] r14_21
@[simp] theorem n14_22 (s : List V) (H : Heap) : evCode P Γ call n f m (cAt [1, 1, 1, 1, 0, 1, 0, 0, 1] B14) s H = seqNext P Γ call n f m (cAt [1, 1, 1, 1, 0, 1, 0, 0, 1, 1] B14) (evCode P Γ call n f m (cAt [1, 1, 1, 1, 0, 1, 0, 0, 1, 0] B14) s H) := at_seq (by kernel_rfl) rfl rfl s H
@[simp] theorem n14_23 (s : List V) (H : Heap) : evCode P Γ call n f m (cAt [1, 1, 1, 1, 0, 1, 0, 0, 1, 0] B14) s H = condW P Γ call n f m (cAt [1, 1, 1, 1, 0, 1, 0, 0, 1, 0, 0] B14) (cAt [1, 1, 1, 1, 0, 1, 0, 0, 1, 0, 1] B14) s H (evOperand Γ s (.tmp 17)) := at_cond (by kernel_rfl) (by kernel_rfl) rfl rfl s H
@[simp] theorem n14_24 (s : List V) (H : Heap) : evCode P Γ call n f m (cAt [1, 1, 1, 1, 0, 1, 0, 0, 1, 0, 0] B14) s H = some (.normal, s, H) := at_skip (by kernel_rfl) s H
@[simp] theorem n14_25 (s : List V) (H : Heap) : evCode P Γ call n f m (cAt [1, 1, 1, 1, 0, 1, 0, 0, 1, 0, 1] B14) s H = some (.exit 0, s, H) := at_exit (by kernel_rfl) s H
@[simp] theorem n14_26 (s : List V) (H : Heap) : evCode P Γ call n f m (cAt [1, 1, 1, 1, 0, 1, 0, 0, 1, 1] B14) s H = seqNext P Γ call n f m (cAt [1, 1, 1, 1, 0, 1, 0, 0, 1, 1, 1] B14) (evCode P Γ call n f m (cAt [1, 1, 1, 1, 0, 1, 0, 0, 1, 1, 0] B14) s H) := at_seq (by kernel_rfl) rfl rfl s H
@[simp] theorem n14_27 (s : List V) (H : Heap) : evCode P Γ call n f m (cAt [1, 1, 1, 1, 0, 1, 0, 0, 1, 1, 0] B14) s H = blockNext 1 (evCode P Γ call n f m (cAt [1, 1, 1, 1, 0, 1, 0, 0, 1, 1, 0, 0] B14) s H) := at_block (by kernel_rfl) rfl s H
@[simp] theorem n14_28 (s : List V) (H : Heap) : evCode P Γ call n f m (cAt [1, 1, 1, 1, 0, 1, 0, 0, 1, 1, 0, 0] B14) s H = seqNext P Γ call n f m (cAt [1, 1, 1, 1, 0, 1, 0, 0, 1, 1, 0, 0, 1] B14) (evCode P Γ call n f m (cAt [1, 1, 1, 1, 0, 1, 0, 0, 1, 1, 0, 0, 0] B14) s H) := at_seq (by kernel_rfl) rfl rfl s H
noncomputable def r14_29 : {l : List Oper // opsOf (cAt [1, 1, 1, 1, 0, 1, 0, 0, 1, 1, 0, 0, 0] B14) = l} := by
  apply Subtype.mk
  dsimp only [opsOf, cAt, kids, B14, bodyOf, Tryd.f14, List.getD, List.getElem?_cons_zero, List.getElem?_cons_succ, Option.getD_some]
@[simp] theorem n14_29 (s : List V) (H : Heap) : evCode P Γ call n f m (cAt [1, 1, 1, 1, 0, 1, 0, 0, 1, 1, 0, 0, 0] B14) s H = regNext (evOpsGo P Γ call r14_29.1 r14_29.1 s H) := at_region (by kernel_rfl) r14_29.2 s H
attribute [simp] r14_29
@[simp] theorem n14_30 (s : List V) (H : Heap) : evCode P Γ call n f m (cAt [1, 1, 1, 1, 0, 1, 0, 0, 1, 1, 0, 0, 1] B14) s H = seqNext P Γ call n f m (cAt [1, 1, 1, 1, 0, 1, 0, 0, 1, 1, 0, 0, 1, 1] B14) (evCode P Γ call n f m (cAt [1, 1, 1, 1, 0, 1, 0, 0, 1, 1, 0, 0, 1, 0] B14) s H) := at_seq (by kernel_rfl) rfl rfl s H
noncomputable def r14_31 : {l : List Oper // opsOf (cAt [1, 1, 1, 1, 0, 1, 0, 0, 1, 1, 0, 0, 1, 0] B14) = l} := by
  apply Subtype.mk
  dsimp only [opsOf, cAt, kids, B14, bodyOf, Tryd.f14, List.getD, List.getElem?_cons_zero, List.getElem?_cons_succ, Option.getD_some]
@[simp] theorem n14_31 (s : List V) (H : Heap) : evCode P Γ call n f m (cAt [1, 1, 1, 1, 0, 1, 0, 0, 1, 1, 0, 0, 1, 0] B14) s H = regNext (evOpsGo P Γ call r14_31.1 r14_31.1 s H) := at_region (by kernel_rfl) r14_31.2 s H
attribute [simp] r14_31
@[simp] theorem n14_32 (s : List V) (H : Heap) : evCode P Γ call n f m (cAt [1, 1, 1, 1, 0, 1, 0, 0, 1, 1, 0, 0, 1, 1] B14) s H = seqNext P Γ call n f m (cAt [1, 1, 1, 1, 0, 1, 0, 0, 1, 1, 0, 0, 1, 1, 1] B14) (evCode P Γ call n f m (cAt [1, 1, 1, 1, 0, 1, 0, 0, 1, 1, 0, 0, 1, 1, 0] B14) s H) := at_seq (by kernel_rfl) rfl rfl s H
@[simp] theorem n14_33 (s : List V) (H : Heap) : evCode P Γ call n f m (cAt [1, 1, 1, 1, 0, 1, 0, 0, 1, 1, 0, 0, 1, 1, 0] B14) s H = seqNext P Γ call n f m (cAt [1, 1, 1, 1, 0, 1, 0, 0, 1, 1, 0, 0, 1, 1, 0, 1] B14) (evCode P Γ call n f m (cAt [1, 1, 1, 1, 0, 1, 0, 0, 1, 1, 0, 0, 1, 1, 0, 0] B14) s H) := at_seq (by kernel_rfl) rfl rfl s H
noncomputable def r14_34 : {l : List Oper // opsOf (cAt [1, 1, 1, 1, 0, 1, 0, 0, 1, 1, 0, 0, 1, 1, 0, 0] B14) = l} := by
  apply Subtype.mk
  dsimp only [opsOf, cAt, kids, B14, bodyOf, Tryd.f14, List.getD, List.getElem?_cons_zero, List.getElem?_cons_succ, Option.getD_some]
@[simp] theorem n14_34 (s : List V) (H : Heap) : evCode P Γ call n f m (cAt [1, 1, 1, 1, 0, 1, 0, 0, 1, 1, 0, 0, 1, 1, 0, 0] B14) s H = regNext (drawR P Γ call r14_34.1 [([], []), ([], []), ([], []), ([4, 6, 7], [28, 30, 31]), ([3, 6, 7], [27, 30, 31]), ([6, 7], [30, 31]), ([3, 4, 5], [27, 28, 29]), ([3, 4, 5], [27, 28, 29]), ([], []), ([], [])] s H) := at_drawT (by kernel_rfl) r14_34.2 (by kernel_rfl) s H
attribute [simp] r14_34
@[simp] theorem n14_35 (s : List V) (H : Heap) : evCode P Γ call n f m (cAt [1, 1, 1, 1, 0, 1, 0, 0, 1, 1, 0, 0, 1, 1, 0, 1] B14) s H = condW P Γ call n f m (cAt [1, 1, 1, 1, 0, 1, 0, 0, 1, 1, 0, 0, 1, 1, 0, 1, 0] B14) (cAt [1, 1, 1, 1, 0, 1, 0, 0, 1, 1, 0, 0, 1, 1, 0, 1, 1] B14) s H (evOperand Γ s (.tmp 33)) := at_cond (by kernel_rfl) (by kernel_rfl) rfl rfl s H
noncomputable def r14_36 : {l : List Oper // opsOf (cAt [1, 1, 1, 1, 0, 1, 0, 0, 1, 1, 0, 0, 1, 1, 0, 1, 0] B14) = l} := by
  apply Subtype.mk
  dsimp only [opsOf, cAt, kids, B14, bodyOf, Tryd.f14, List.getD, List.getElem?_cons_zero, List.getElem?_cons_succ, Option.getD_some]
@[simp] theorem n14_36 (s : List V) (H : Heap) : evCode P Γ call n f m (cAt [1, 1, 1, 1, 0, 1, 0, 0, 1, 1, 0, 0, 1, 1, 0, 1, 0] B14) s H = regNext (evOpsGo P Γ call r14_36.1 r14_36.1 s H) := at_region (by kernel_rfl) r14_36.2 s H
attribute [simp] r14_36
@[simp] theorem n14_37 (s : List V) (H : Heap) : evCode P Γ call n f m (cAt [1, 1, 1, 1, 0, 1, 0, 0, 1, 1, 0, 0, 1, 1, 0, 1, 1] B14) s H = some (.normal, s, H) := at_skip (by kernel_rfl) s H
@[simp] theorem n14_38 (s : List V) (H : Heap) : evCode P Γ call n f m (cAt [1, 1, 1, 1, 0, 1, 0, 0, 1, 1, 0, 0, 1, 1, 1] B14) s H = seqNext P Γ call n f m (cAt [1, 1, 1, 1, 0, 1, 0, 0, 1, 1, 0, 0, 1, 1, 1, 1] B14) (evCode P Γ call n f m (cAt [1, 1, 1, 1, 0, 1, 0, 0, 1, 1, 0, 0, 1, 1, 1, 0] B14) s H) := at_seq (by kernel_rfl) rfl rfl s H
@[simp] theorem n14_39 (s : List V) (H : Heap) : evCode P Γ call n f m (cAt [1, 1, 1, 1, 0, 1, 0, 0, 1, 1, 0, 0, 1, 1, 1, 0] B14) s H = seqNext P Γ call n f m (cAt [1, 1, 1, 1, 0, 1, 0, 0, 1, 1, 0, 0, 1, 1, 1, 0, 1] B14) (evCode P Γ call n f m (cAt [1, 1, 1, 1, 0, 1, 0, 0, 1, 1, 0, 0, 1, 1, 1, 0, 0] B14) s H) := at_seq (by kernel_rfl) rfl rfl s H
noncomputable def r14_40 : {l : List Oper // opsOf (cAt [1, 1, 1, 1, 0, 1, 0, 0, 1, 1, 0, 0, 1, 1, 1, 0, 0] B14) = l} := by
  apply Subtype.mk
  dsimp only [opsOf, cAt, kids, B14, bodyOf, Tryd.f14, List.getD, List.getElem?_cons_zero, List.getElem?_cons_succ, Option.getD_some]
@[simp] theorem n14_40 (s : List V) (H : Heap) : evCode P Γ call n f m (cAt [1, 1, 1, 1, 0, 1, 0, 0, 1, 1, 0, 0, 1, 1, 1, 0, 0] B14) s H = regNext (evOpsGo P Γ call r14_40.1 r14_40.1 s H) := at_region (by kernel_rfl) r14_40.2 s H
attribute [simp] r14_40
@[simp] theorem n14_41 (s : List V) (H : Heap) : evCode P Γ call n f m (cAt [1, 1, 1, 1, 0, 1, 0, 0, 1, 1, 0, 0, 1, 1, 1, 0, 1] B14) s H = condW P Γ call n f m (cAt [1, 1, 1, 1, 0, 1, 0, 0, 1, 1, 0, 0, 1, 1, 1, 0, 1, 0] B14) (cAt [1, 1, 1, 1, 0, 1, 0, 0, 1, 1, 0, 0, 1, 1, 1, 0, 1, 1] B14) s H (evOperand Γ s (.tmp 35)) := at_cond (by kernel_rfl) (by kernel_rfl) rfl rfl s H
@[simp] theorem n14_42 (s : List V) (H : Heap) : evCode P Γ call n f m (cAt [1, 1, 1, 1, 0, 1, 0, 0, 1, 1, 0, 0, 1, 1, 1, 0, 1, 0] B14) s H = seqNext P Γ call n f m (cAt [1, 1, 1, 1, 0, 1, 0, 0, 1, 1, 0, 0, 1, 1, 1, 0, 1, 0, 1] B14) (evCode P Γ call n f m (cAt [1, 1, 1, 1, 0, 1, 0, 0, 1, 1, 0, 0, 1, 1, 1, 0, 1, 0, 0] B14) s H) := at_seq (by kernel_rfl) rfl rfl s H
noncomputable def r14_43 : {l : List Oper // opsOf (cAt [1, 1, 1, 1, 0, 1, 0, 0, 1, 1, 0, 0, 1, 1, 1, 0, 1, 0, 0] B14) = l} := by
  apply Subtype.mk
  dsimp only [opsOf, cAt, kids, B14, bodyOf, Tryd.f14, List.getD, List.getElem?_cons_zero, List.getElem?_cons_succ, Option.getD_some]
@[simp] theorem n14_43 (s : List V) (H : Heap) : evCode P Γ call n f m (cAt [1, 1, 1, 1, 0, 1, 0, 0, 1, 1, 0, 0, 1, 1, 1, 0, 1, 0, 0] B14) s H = regNext (evOpsGo P Γ call r14_43.1 r14_43.1 s H) := at_region (by kernel_rfl) r14_43.2 s H
attribute [simp] r14_43
@[simp] theorem n14_44 (s : List V) (H : Heap) : evCode P Γ call n f m (cAt [1, 1, 1, 1, 0, 1, 0, 0, 1, 1, 0, 0, 1, 1, 1, 0, 1, 0, 1] B14) s H = some (.ret, s, H) := at_ret (by kernel_rfl) s H
@[simp] theorem n14_45 (s : List V) (H : Heap) : evCode P Γ call n f m (cAt [1, 1, 1, 1, 0, 1, 0, 0, 1, 1, 0, 0, 1, 1, 1, 0, 1, 1] B14) s H = some (.normal, s, H) := at_skip (by kernel_rfl) s H
@[simp] theorem n14_46 (s : List V) (H : Heap) : evCode P Γ call n f m (cAt [1, 1, 1, 1, 0, 1, 0, 0, 1, 1, 0, 0, 1, 1, 1, 1] B14) s H = seqNext P Γ call n f m (cAt [1, 1, 1, 1, 0, 1, 0, 0, 1, 1, 0, 0, 1, 1, 1, 1, 1] B14) (evCode P Γ call n f m (cAt [1, 1, 1, 1, 0, 1, 0, 0, 1, 1, 0, 0, 1, 1, 1, 1, 0] B14) s H) := at_seq (by kernel_rfl) rfl rfl s H
noncomputable def r14_47 : {l : List Oper // opsOf (cAt [1, 1, 1, 1, 0, 1, 0, 0, 1, 1, 0, 0, 1, 1, 1, 1, 0] B14) = l} := by
  apply Subtype.mk
  dsimp only [opsOf, cAt, kids, B14, bodyOf, Tryd.f14, List.getD, List.getElem?_cons_zero, List.getElem?_cons_succ, Option.getD_some]
@[simp] theorem n14_47 (s : List V) (H : Heap) : evCode P Γ call n f m (cAt [1, 1, 1, 1, 0, 1, 0, 0, 1, 1, 0, 0, 1, 1, 1, 1, 0] B14) s H = regNext (drawR P Γ call r14_47.1 [([2, 3], [41, 42]), ([2, 3], [41, 42]), ([0, 1, 4], [39, 40, 6]), ([0, 1, 4], [39, 40, 6]), ([2, 3], [41, 42]), ([], []), ([], [])] s H) := at_drawT (by kernel_rfl) r14_47.2 (by kernel_rfl) s H
attribute [simp] r14_47
@[simp] theorem n14_48 (s : List V) (H : Heap) : evCode P Γ call n f m (cAt [1, 1, 1, 1, 0, 1, 0, 0, 1, 1, 0, 0, 1, 1, 1, 1, 1] B14) s H = seqNext P Γ call n f m (cAt [1, 1, 1, 1, 0, 1, 0, 0, 1, 1, 0, 0, 1, 1, 1, 1, 1, 1] B14) (evCode P Γ call n f m (cAt [1, 1, 1, 1, 0, 1, 0, 0, 1, 1, 0, 0, 1, 1, 1, 1, 1, 0] B14) s H) := at_seq (by kernel_rfl) rfl rfl s H
noncomputable def r14_49 : {l : List Oper // opsOf (cAt [1, 1, 1, 1, 0, 1, 0, 0, 1, 1, 0, 0, 1, 1, 1, 1, 1, 0] B14) = l} := by
  apply Subtype.mk
  dsimp only [opsOf, cAt, kids, B14, bodyOf, Tryd.f14, List.getD, List.getElem?_cons_zero, List.getElem?_cons_succ, Option.getD_some]
@[simp] theorem n14_49 (s : List V) (H : Heap) : evCode P Γ call n f m (cAt [1, 1, 1, 1, 0, 1, 0, 0, 1, 1, 0, 0, 1, 1, 1, 1, 1, 0] B14) s H = regNext (evOpsGo P Γ call r14_49.1 r14_49.1 s H) := at_region (by kernel_rfl) r14_49.2 s H
attribute [simp] r14_49
@[simp] theorem n14_50 (s : List V) (H : Heap) : evCode P Γ call n f m (cAt [1, 1, 1, 1, 0, 1, 0, 0, 1, 1, 0, 0, 1, 1, 1, 1, 1, 1] B14) s H = blockNext 2 (evCode P Γ call n f m (cAt [1, 1, 1, 1, 0, 1, 0, 0, 1, 1, 0, 0, 1, 1, 1, 1, 1, 1, 0] B14) s H) := at_block (by kernel_rfl) rfl s H
@[simp] theorem n14_51 (s : List V) (H : Heap) : evCode P Γ call n f m (cAt [1, 1, 1, 1, 0, 1, 0, 0, 1, 1, 0, 0, 1, 1, 1, 1, 1, 1, 0] B14) s H = seqNext P Γ call n f m (cAt [1, 1, 1, 1, 0, 1, 0, 0, 1, 1, 0, 0, 1, 1, 1, 1, 1, 1, 0, 1] B14) (evCode P Γ call n f m (cAt [1, 1, 1, 1, 0, 1, 0, 0, 1, 1, 0, 0, 1, 1, 1, 1, 1, 1, 0, 0] B14) s H) := at_seq (by kernel_rfl) rfl rfl s H
noncomputable def r14_52 : {l : List Oper // opsOf (cAt [1, 1, 1, 1, 0, 1, 0, 0, 1, 1, 0, 0, 1, 1, 1, 1, 1, 1, 0, 0] B14) = l} := by
  apply Subtype.mk
  dsimp only [opsOf, cAt, kids, B14, bodyOf, Tryd.f14, List.getD, List.getElem?_cons_zero, List.getElem?_cons_succ, Option.getD_some]
@[simp] theorem n14_52 (s : List V) (H : Heap) : evCode P Γ call n f m (cAt [1, 1, 1, 1, 0, 1, 0, 0, 1, 1, 0, 0, 1, 1, 1, 1, 1, 1, 0, 0] B14) s H = regNext (evOpsGo P Γ call r14_52.1 r14_52.1 s H) := at_region (by kernel_rfl) r14_52.2 s H
attribute [simp] r14_52
@[simp] theorem n14_53 (s : List V) (H : Heap) : evCode P Γ call n f m (cAt [1, 1, 1, 1, 0, 1, 0, 0, 1, 1, 0, 0, 1, 1, 1, 1, 1, 1, 0, 1] B14) s H = condW P Γ call n f m (cAt [1, 1, 1, 1, 0, 1, 0, 0, 1, 1, 0, 0, 1, 1, 1, 1, 1, 1, 0, 1, 0] B14) (cAt [1, 1, 1, 1, 0, 1, 0, 0, 1, 1, 0, 0, 1, 1, 1, 1, 1, 1, 0, 1, 1] B14) s H (evOperand Γ s (.tmp 47)) := at_cond (by kernel_rfl) (by kernel_rfl) rfl rfl s H
noncomputable def r14_54 : {l : List Oper // opsOf (cAt [1, 1, 1, 1, 0, 1, 0, 0, 1, 1, 0, 0, 1, 1, 1, 1, 1, 1, 0, 1, 0] B14) = l} := by
  apply Subtype.mk
  dsimp only [opsOf, cAt, kids, B14, bodyOf, Tryd.f14, List.getD, List.getElem?_cons_zero, List.getElem?_cons_succ, Option.getD_some]
@[simp] theorem n14_54 (s : List V) (H : Heap) : evCode P Γ call n f m (cAt [1, 1, 1, 1, 0, 1, 0, 0, 1, 1, 0, 0, 1, 1, 1, 1, 1, 1, 0, 1, 0] B14) s H = regNext (drawR P Γ call r14_54.1 [([2, 3], [51, 52]), ([2, 3], [51, 52]), ([0, 1, 4, 5], [49, 50, 53]), ([0, 1, 4, 5], [49, 50, 53]), ([2, 3], [51, 52]), ([2, 3], [51, 52]), ([], []), ([], [])] s H) := at_drawT (by kernel_rfl) r14_54.2 (by kernel_rfl) s H
attribute [simp] r14_54
@[simp] theorem n14_55 (s : List V) (H : Heap) : evCode P Γ call n f m (cAt [1, 1, 1, 1, 0, 1, 0, 0, 1, 1, 0, 0, 1, 1, 1, 1, 1, 1, 0, 1, 1] B14) s H = seqNext P Γ call n f m (cAt [1, 1, 1, 1, 0, 1, 0, 0, 1, 1, 0, 0, 1, 1, 1, 1, 1, 1, 0, 1, 1, 1] B14) (evCode P Γ call n f m (cAt [1, 1, 1, 1, 0, 1, 0, 0, 1, 1, 0, 0, 1, 1, 1, 1, 1, 1, 0, 1, 1, 0] B14) s H) := at_seq (by kernel_rfl) rfl rfl s H
noncomputable def r14_56 : {l : List Oper // opsOf (cAt [1, 1, 1, 1, 0, 1, 0, 0, 1, 1, 0, 0, 1, 1, 1, 1, 1, 1, 0, 1, 1, 0] B14) = l} := by
  apply Subtype.mk
  dsimp only [opsOf, cAt, kids, B14, bodyOf, Tryd.f14, List.getD, List.getElem?_cons_zero, List.getElem?_cons_succ, Option.getD_some]
@[simp] theorem n14_56 (s : List V) (H : Heap) : evCode P Γ call n f m (cAt [1, 1, 1, 1, 0, 1, 0, 0, 1, 1, 0, 0, 1, 1, 1, 1, 1, 1, 0, 1, 1, 0] B14) s H = regNext (evOpsGo P Γ call r14_56.1 r14_56.1 s H) := at_region (by kernel_rfl) r14_56.2 s H
attribute [simp] r14_56
@[simp] theorem n14_57 (s : List V) (H : Heap) : evCode P Γ call n f m (cAt [1, 1, 1, 1, 0, 1, 0, 0, 1, 1, 0, 0, 1, 1, 1, 1, 1, 1, 0, 1, 1, 1] B14) s H = condW P Γ call n f m (cAt [1, 1, 1, 1, 0, 1, 0, 0, 1, 1, 0, 0, 1, 1, 1, 1, 1, 1, 0, 1, 1, 1, 0] B14) (cAt [1, 1, 1, 1, 0, 1, 0, 0, 1, 1, 0, 0, 1, 1, 1, 1, 1, 1, 0, 1, 1, 1, 1] B14) s H (evOperand Γ s (.tmp 55)) := at_cond (by kernel_rfl) (by kernel_rfl) rfl rfl s H
noncomputable def r14_58 : {l : List Oper // opsOf (cAt [1, 1, 1, 1, 0, 1, 0, 0, 1, 1, 0, 0, 1, 1, 1, 1, 1, 1, 0, 1, 1, 1, 0] B14) = l} := by
  apply Subtype.mk
  dsimp only [opsOf, cAt, kids, B14, bodyOf, Tryd.f14, List.getD, List.getElem?_cons_zero, List.getElem?_cons_succ, Option.getD_some]
@[simp] theorem n14_58 (s : List V) (H : Heap) : evCode P Γ call n f m (cAt [1, 1, 1, 1, 0, 1, 0, 0, 1, 1, 0, 0, 1, 1, 1, 1, 1, 1, 0, 1, 1, 1, 0] B14) s H = regNext (evOpsGo P Γ call r14_58.1 r14_58.1 s H) := at_region (by kernel_rfl) r14_58.2 s H
attribute [simp] r14_58
@[simp] theorem n14_59 (s : List V) (H : Heap) : evCode P Γ call n f m (cAt [1, 1, 1, 1, 0, 1, 0, 0, 1, 1, 0, 0, 1, 1, 1, 1, 1, 1, 0, 1, 1, 1, 1] B14) s H = seqNext P Γ call n f m (cAt [1, 1, 1, 1, 0, 1, 0, 0, 1, 1, 0, 0, 1, 1, 1, 1, 1, 1, 0, 1, 1, 1, 1, 1] B14) (evCode P Γ call n f m (cAt [1, 1, 1, 1, 0, 1, 0, 0, 1, 1, 0, 0, 1, 1, 1, 1, 1, 1, 0, 1, 1, 1, 1, 0] B14) s H) := at_seq (by kernel_rfl) rfl rfl s H
noncomputable def r14_60 : {l : List Oper // opsOf (cAt [1, 1, 1, 1, 0, 1, 0, 0, 1, 1, 0, 0, 1, 1, 1, 1, 1, 1, 0, 1, 1, 1, 1, 0] B14) = l} := by
  apply Subtype.mk
  dsimp only [opsOf, cAt, kids, B14, bodyOf, Tryd.f14, List.getD, List.getElem?_cons_zero, List.getElem?_cons_succ, Option.getD_some]
@[simp] theorem n14_60 (s : List V) (H : Heap) : evCode P Γ call n f m (cAt [1, 1, 1, 1, 0, 1, 0, 0, 1, 1, 0, 0, 1, 1, 1, 1, 1, 1, 0, 1, 1, 1, 1, 0] B14) s H = regNext (evOpsGo P Γ call r14_60.1 r14_60.1 s H) := at_region (by kernel_rfl) r14_60.2 s H
attribute [simp] r14_60
@[simp] theorem n14_61 (s : List V) (H : Heap) : evCode P Γ call n f m (cAt [1, 1, 1, 1, 0, 1, 0, 0, 1, 1, 0, 0, 1, 1, 1, 1, 1, 1, 0, 1, 1, 1, 1, 1] B14) s H = condW P Γ call n f m (cAt [1, 1, 1, 1, 0, 1, 0, 0, 1, 1, 0, 0, 1, 1, 1, 1, 1, 1, 0, 1, 1, 1, 1, 1, 0] B14) (cAt [1, 1, 1, 1, 0, 1, 0, 0, 1, 1, 0, 0, 1, 1, 1, 1, 1, 1, 0, 1, 1, 1, 1, 1, 1] B14) s H (evOperand Γ s (.tmp 60)) := at_cond (by kernel_rfl) (by kernel_rfl) rfl rfl s H
noncomputable def r14_62 : {l : List Oper // opsOf (cAt [1, 1, 1, 1, 0, 1, 0, 0, 1, 1, 0, 0, 1, 1, 1, 1, 1, 1, 0, 1, 1, 1, 1, 1, 0] B14) = l} := by
  apply Subtype.mk
  dsimp only [opsOf, cAt, kids, B14, bodyOf, Tryd.f14, List.getD, List.getElem?_cons_zero, List.getElem?_cons_succ, Option.getD_some]
@[simp] theorem n14_62 (s : List V) (H : Heap) : evCode P Γ call n f m (cAt [1, 1, 1, 1, 0, 1, 0, 0, 1, 1, 0, 0, 1, 1, 1, 1, 1, 1, 0, 1, 1, 1, 1, 1, 0] B14) s H = regNext (evOpsGo P Γ call r14_62.1 r14_62.1 s H) := at_region (by kernel_rfl) r14_62.2 s H
attribute [simp] r14_62
@[simp] theorem n14_63 (s : List V) (H : Heap) : evCode P Γ call n f m (cAt [1, 1, 1, 1, 0, 1, 0, 0, 1, 1, 0, 0, 1, 1, 1, 1, 1, 1, 0, 1, 1, 1, 1, 1, 1] B14) s H = seqNext P Γ call n f m (cAt [1, 1, 1, 1, 0, 1, 0, 0, 1, 1, 0, 0, 1, 1, 1, 1, 1, 1, 0, 1, 1, 1, 1, 1, 1, 1] B14) (evCode P Γ call n f m (cAt [1, 1, 1, 1, 0, 1, 0, 0, 1, 1, 0, 0, 1, 1, 1, 1, 1, 1, 0, 1, 1, 1, 1, 1, 1, 0] B14) s H) := at_seq (by kernel_rfl) rfl rfl s H
noncomputable def r14_64 : {l : List Oper // opsOf (cAt [1, 1, 1, 1, 0, 1, 0, 0, 1, 1, 0, 0, 1, 1, 1, 1, 1, 1, 0, 1, 1, 1, 1, 1, 1, 0] B14) = l} := by
  apply Subtype.mk
  dsimp only [opsOf, cAt, kids, B14, bodyOf, Tryd.f14, List.getD, List.getElem?_cons_zero, List.getElem?_cons_succ, Option.getD_some]
@[simp] theorem n14_64 (s : List V) (H : Heap) : evCode P Γ call n f m (cAt [1, 1, 1, 1, 0, 1, 0, 0, 1, 1, 0, 0, 1, 1, 1, 1, 1, 1, 0, 1, 1, 1, 1, 1, 1, 0] B14) s H = regNext (evOpsGo P Γ call r14_64.1 r14_64.1 s H) := at_region (by kernel_rfl) r14_64.2 s H
attribute [simp] r14_64
@[simp] theorem n14_65 (s : List V) (H : Heap) : evCode P Γ call n f m (cAt [1, 1, 1, 1, 0, 1, 0, 0, 1, 1, 0, 0, 1, 1, 1, 1, 1, 1, 0, 1, 1, 1, 1, 1, 1, 1] B14) s H = condW P Γ call n f m (cAt [1, 1, 1, 1, 0, 1, 0, 0, 1, 1, 0, 0, 1, 1, 1, 1, 1, 1, 0, 1, 1, 1, 1, 1, 1, 1, 0] B14) (cAt [1, 1, 1, 1, 0, 1, 0, 0, 1, 1, 0, 0, 1, 1, 1, 1, 1, 1, 0, 1, 1, 1, 1, 1, 1, 1, 1] B14) s H (evOperand Γ s (.tmp 63)) := at_cond (by kernel_rfl) (by kernel_rfl) rfl rfl s H
noncomputable def r14_66 : {l : List Oper // opsOf (cAt [1, 1, 1, 1, 0, 1, 0, 0, 1, 1, 0, 0, 1, 1, 1, 1, 1, 1, 0, 1, 1, 1, 1, 1, 1, 1, 0] B14) = l} := by
  apply Subtype.mk
  dsimp only [opsOf, cAt, kids, B14, bodyOf, Tryd.f14, List.getD, List.getElem?_cons_zero, List.getElem?_cons_succ, Option.getD_some]
@[simp] theorem n14_66 (s : List V) (H : Heap) : evCode P Γ call n f m (cAt [1, 1, 1, 1, 0, 1, 0, 0, 1, 1, 0, 0, 1, 1, 1, 1, 1, 1, 0, 1, 1, 1, 1, 1, 1, 1, 0] B14) s H = regNext (drawR P Γ call r14_66.1 [([2, 3], [67]), ([2, 3], [67]), ([0, 1], [65, 66]), ([0, 1], [65, 66]), ([], []), ([], [])] s H) := at_drawT (by kernel_rfl) r14_66.2 (by kernel_rfl) s H
attribute [simp] r14_66
noncomputable def r14_67 : {l : List Oper // opsOf (cAt [1, 1, 1, 1, 0, 1, 0, 0, 1, 1, 0, 0, 1, 1, 1, 1, 1, 1, 0, 1, 1, 1, 1, 1, 1, 1, 1] B14) = l} := by
  apply Subtype.mk
  dsimp only [opsOf, cAt, kids, B14, bodyOf, Tryd.f14, List.getD, List.getElem?_cons_zero, List.getElem?_cons_succ, Option.getD_some]
@[simp] theorem n14_67 (s : List V) (H : Heap) : evCode P Γ call n f m (cAt [1, 1, 1, 1, 0, 1, 0, 0, 1, 1, 0, 0, 1, 1, 1, 1, 1, 1, 0, 1, 1, 1, 1, 1, 1, 1, 1] B14) s H = regNext (evOpsGo P Γ call r14_67.1 r14_67.1 s H) := at_region (by kernel_rfl) r14_67.2 s H
attribute [simp] r14_67
noncomputable def r14_68 : {l : List Oper // opsOf (cAt [1, 1, 1, 1, 0, 1, 0, 0, 1, 1, 1] B14) = l} := by
  apply Subtype.mk
  dsimp only [opsOf, cAt, kids, B14, bodyOf, Tryd.f14, List.getD, List.getElem?_cons_zero, List.getElem?_cons_succ, Option.getD_some]
@[simp] theorem n14_68 (s : List V) (H : Heap) : evCode P Γ call n f m (cAt [1, 1, 1, 1, 0, 1, 0, 0, 1, 1, 1] B14) s H = regNext (evOpsGo P Γ call r14_68.1 r14_68.1 s H) := at_region (by kernel_rfl) r14_68.2 s H
attribute [simp] r14_68
@[simp] theorem n14_69 (s : List V) (H : Heap) : evCode P Γ call n f m (cAt [1, 1, 1, 1, 1] B14) s H = seqNext P Γ call n f m (cAt [1, 1, 1, 1, 1, 1] B14) (evCode P Γ call n f m (cAt [1, 1, 1, 1, 1, 0] B14) s H) := at_seq (by kernel_rfl) rfl rfl s H
noncomputable def r14_70 : {l : List Oper // opsOf (cAt [1, 1, 1, 1, 1, 0] B14) = l} := by
  apply Subtype.mk
  dsimp only [opsOf, cAt, kids, B14, bodyOf, Tryd.f14, List.getD, List.getElem?_cons_zero, List.getElem?_cons_succ, Option.getD_some]
@[simp] theorem n14_70 (s : List V) (H : Heap) : evCode P Γ call n f m (cAt [1, 1, 1, 1, 1, 0] B14) s H = regNext (evOpsGo P Γ call r14_70.1 r14_70.1 s H) := at_region (by kernel_rfl) r14_70.2 s H
attribute [simp] r14_70
@[simp] theorem n14_71 (s : List V) (H : Heap) : evCode P Γ call n f m (cAt [1, 1, 1, 1, 1, 1] B14) s H = some (.ret, s, H) := at_ret (by kernel_rfl) s H
theorem b14 {k : Nat} (ho : ∀ args H, Γ.orc 14 args H = none) (args : List V) (H : Heap) (ha : args.length ≤ 73) : evF Tryd.prog Γ (k + 1) 14 args H = bodyEnd Tryd.prog [.cell 2 27, .tmp 3, .tmp 4] H.length (evCode Tryd.prog Γ (evF Tryd.prog Γ k) k 14 H.length (cAt [] B14) (mkL 73 V.undef (enumV 0 args)) H) := body_at Tryd.func14 (by decide) rfl ho rfl rfl args H ha
noncomputable def B15 : Code := bodyOf Tryd.f15
@[simp] theorem n15_1 (s : List V) (H : Heap) : evCode P Γ call n f m (cAt [] B15) s H = seqNext P Γ call n f m (cAt [1] B15) (evCode P Γ call n f m (cAt [0] B15) s H) := at_seq (by kernel_rfl) rfl rfl s H
noncomputable def r15_2 : {l : List Oper // opsOf (cAt [0] B15) = l} := by
  apply Subtype.mk
  dsimp only [opsOf, cAt, kids, B15, bodyOf, Tryd.f15, List.getD, List.getElem?_cons_zero, List.getElem?_cons_succ, Option.getD_some]
@[simp] theorem n15_2 (s : List V) (H : Heap) : evCode P Γ call n f m (cAt [0] B15) s H = regNext (evOpsGo P Γ call r15_2.1 r15_2.1 s H) := at_region (by kernel_rfl) r15_2.2 s H
attribute [simp] r15_2
@[simp] theorem n15_3 (s : List V) (H : Heap) : evCode P Γ call n f m (cAt [1] B15) s H = seqNext P Γ call n f m (cAt [1, 1] B15) (evCode P Γ call n f m (cAt [1, 0] B15) s H) := at_seq (by kernel_rfl) rfl rfl s H
noncomputable def r15_4 : {l : List Oper // opsOf (cAt [1, 0] B15) = l} := by
  apply Subtype.mk
  dsimp only [opsOf, cAt, kids, B15, bodyOf, Tryd.f15, List.getD, List.getElem?_cons_zero, List.getElem?_cons_succ, Option.getD_some]
@[simp] theorem n15_4 (s : List V) (H : Heap) : evCode P Γ call n f m (cAt [1, 0] B15) s H = regNext (evOpsGo P Γ call r15_4.1 r15_4.1 s H) := at_region (by kernel_rfl) r15_4.2 s H
attribute [simp] r15_4
@[simp] theorem n15_5 (s : List V) (H : Heap) : evCode P Γ call n f m (cAt [1, 1] B15) s H = seqNext P Γ call n f m (cAt [1, 1, 1] B15) (evCode P Γ call n f m (cAt [1, 1, 0] B15) s H) := at_seq (by kernel_rfl) rfl rfl s H
noncomputable def r15_6 : {l : List Oper // opsOf (cAt [1, 1, 0] B15) = l} := by
  apply Subtype.mk
  dsimp only [opsOf, cAt, kids, B15, bodyOf, Tryd.f15, List.getD, List.getElem?_cons_zero, List.getElem?_cons_succ, Option.getD_some]
@[simp] theorem n15_6 (s : List V) (H : Heap) : evCode P Γ call n f m (cAt [1, 1, 0] B15) s H = regNext (evOpsGo P Γ call r15_6.1 r15_6.1 s H) := at_region (by kernel_rfl) r15_6.2 s H
attribute [simp] r15_6
@[simp] theorem n15_7 (s : List V) (H : Heap) : evCode P Γ call n f m (cAt [1, 1, 1] B15) s H = seqNext P Γ call n f m (cAt [1, 1, 1, 1] B15) (evCode P Γ call n f m (cAt [1, 1, 1, 0] B15) s H) := at_seq (by kernel_rfl) rfl rfl s H
noncomputable def r15_8 : {l : List Oper // opsOf (cAt [1, 1, 1, 0] B15) = l} := by
  apply Subtype.mk
  dsimp only [opsOf, cAt, kids, B15, bodyOf, Tryd.f15, List.getD, List.getElem?_cons_zero, List.getElem?_cons_succ, Option.getD_some]
@[simp] theorem n15_8 (s : List V) (H : Heap) : evCode P Γ call n f m (cAt [1, 1, 1, 0] B15) s H = regNext (evOpsGo P Γ call r15_8.1 r15_8.1 s H) := at_region (by kernel_rfl) r15_8.2 s H
attribute [simp] r15_8
@[simp] theorem n15_9 (s : List V) (H : Heap) : evCode P Γ call n f m (cAt [1, 1, 1, 1] B15) s H = some (.ret, s, H) := at_ret (by kernel_rfl) s H
theorem b15 {k : Nat} (ho : ∀ args H, Γ.orc 15 args H = none) (args : List V) (H : Heap) (ha : args.length ≤ 32) : evF Tryd.prog Γ (k + 1) 15 args H = bodyEnd Tryd.prog [.tmp 0] H.length (evCode Tryd.prog Γ (evF Tryd.prog Γ k) k 15 H.length (cAt [] B15) (mkL 32 V.undef (enumV 0 args)) H) := body_at Tryd.func15 (by decide) rfl ho rfl rfl args H ha
noncomputable def B17 : Code := bodyOf Tryd.f17
@[simp] theorem n17_1 (s : List V) (H : Heap) : evCode P Γ call n f m (cAt [] B17) s H = seqNext P Γ call n f m (cAt [1] B17) (evCode P Γ call n f m (cAt [0] B17) s H) := at_seq (by kernel_rfl) rfl rfl s H
noncomputable def r17_2 : {l : List Oper // opsOf (cAt [0] B17) = l} := by
  apply Subtype.mk
  dsimp only [opsOf, cAt, kids, B17, bodyOf, Tryd.f17, List.getD, List.getElem?_cons_zero, List.getElem?_cons_succ, Option.getD_some]
@[simp] theorem n17_2 (s : List V) (H : Heap) : evCode P Γ call n f m (cAt [0] B17) s H = regNext (evOpsGo P Γ call r17_2.1 r17_2.1 s H) := at_region (by kernel_rfl) r17_2.2 s H
attribute [simp] r17_2
@[simp] theorem n17_3 (s : List V) (H : Heap) : evCode P Γ call n f m (cAt [1] B17) s H = seqNext P Γ call n f m (cAt [1, 1] B17) (evCode P Γ call n f m (cAt [1, 0] B17) s H) := at_seq (by kernel_rfl) rfl rfl s H
noncomputable def r17_4 : {l : List Oper // opsOf (cAt [1, 0] B17) = l} := by
  apply Subtype.mk
  dsimp only [opsOf, cAt, kids, B17, bodyOf, Tryd.f17, List.getD, List.getElem?_cons_zero, List.getElem?_cons_succ, Option.getD_some]
@[simp] theorem n17_4 (s : List V) (H : Heap) : evCode P Γ call n f m (cAt [1, 0] B17) s H = regNext (drawR P Γ call r17_4.1 [([2, 3, 5, 6, 7, 8, 9, 10, 12, 13], [7, 8, 10, 11, 12, 13, 14, 15, 17, 18]), ([2, 3, 5, 6, 7, 8, 9, 10, 12, 13], [7, 8, 10, 11, 12, 13, 14, 15, 17, 18]), ([0, 1, 5, 6, 7, 8, 9, 10, 12, 13], [5, 6, 10, 11, 12, 13, 14, 15, 17, 18]), ([0, 1, 5, 6, 7, 8, 9, 10, 12, 13], [5, 6, 10, 11, 12, 13, 14, 15, 17, 18]), ([5, 6, 7, 8, 9, 10, 12, 13], [10, 11, 12, 13, 14, 15, 17, 18]), ([0, 1, 2, 3, 4, 7, 8, 9, 10, 11, 12, 13, 14], [5, 6, 7, 8, 9, 12, 13, 14, 15, 16, 17, 18, 19]), ([0, 1, 2, 3, 4, 7, 8, 9, 10, 11, 12, 13, 14], [5, 6, 7, 8, 9, 12, 13, 14, 15, 16, 17, 18, 19]), ([0, 1, 2, 3, 4, 5, 6, 9, 10, 11, 12, 13, 14], [5, 6, 7, 8, 9, 10, 11, 14, 15, 16, 17, 18, 19]), ([0, 1, 2, 3, 4, 5, 6, 9, 10, 11, 12, 13, 14], [5, 6, 7, 8, 9, 10, 11, 14, 15, 16, 17, 18, 19]), ([0, 1, 2, 3, 4, 5, 6, 7, 8, 12, 13], [5, 6, 7, 8, 9, 10, 11, 12, 13, 17, 18]), ([0, 1, 2, 3, 4, 5, 6, 7, 8, 12, 13], [5, 6, 7, 8, 9, 10, 11, 12, 13, 17, 18]), ([5, 6, 7, 8, 12, 13], [10, 11, 12, 13, 17, 18]), ([0, 1, 2, 3, 4, 5, 6, 7, 8, 9, 10, 11], [5, 6, 7, 8, 9, 10, 11, 12, 13, 14, 15, 16]), ([0, 1, 2, 3, 4, 5, 6, 7, 8, 9, 10, 11], [5, 6, 7, 8, 9, 10, 11, 12, 13, 14, 15, 16]), ([5, 6, 7, 8], [10, 11, 12, 13]), ([], []), ([], []), ([], []), ([], []), ([], [])] s H) := at_drawT (by kernel_rfl) r17_4.2 (by kernel_rfl) s H
attribute [simp] r17_4
@[simp] theorem n17_5 (s : List V) (H : Heap) : evCode P Γ call n f m (cAt [1, 1] B17) s H = some (.ret, s, H) := at_ret (by kernel_rfl) s H
theorem b17 {k : Nat} (ho : ∀ args H, Γ.orc 17 args H = none) (args : List V) (H : Heap) (ha : args.length ≤ 24) : evF Tryd.prog Γ (k + 1) 17 args H = bodyEnd Tryd.prog [.tmp 4] H.length (evCode Tryd.prog Γ (evF Tryd.prog Γ k) k 17 H.length (cAt [] B17) (mkL 24 V.undef (enumV 0 args)) H) := body_at Tryd.func17 (by decide) rfl ho rfl rfl args H ha
noncomputable def B19 : Code := bodyOf Tryd.f19
@[simp] theorem n19_1 (s : List V) (H : Heap) : evCode P Γ call n f m (cAt [] B19) s H = seqNext P Γ call n f m (cAt [1] B19) (evCode P Γ call n f m (cAt [0] B19) s H) := at_seq (by kernel_rfl) rfl rfl s H
noncomputable def r19_2 : {l : List Oper // opsOf (cAt [0] B19) = l} := by
  apply Subtype.mk
  dsimp only [opsOf, cAt, kids, B19, bodyOf, Tryd.f19, List.getD, List.getElem?_cons_zero, List.getElem?_cons_succ, Option.getD_some]
@[simp] theorem n19_2 (s : List V) (H : Heap) : evCode P Γ call n f m (cAt [0] B19) s H = regNext (evOpsGo P Γ call r19_2.1 r19_2.1 s H) := at_region (by kernel_rfl) r19_2.2 s H
attribute [simp] r19_2
@[simp] theorem n19_3 (s : List V) (H : Heap) : evCode P Γ call n f m (cAt [1] B19) s H = seqNext P Γ call n f m (cAt [1, 1] B19) (evCode P Γ call n f m (cAt [1, 0] B19) s H) := at_seq (by kernel_rfl) rfl rfl s H
noncomputable def r19_4 : {l : List Oper // opsOf (cAt [1, 0] B19) = l} := by
  apply Subtype.mk
  dsimp only [opsOf, cAt, kids, B19, bodyOf, Tryd.f19, List.getD, List.getElem?_cons_zero, List.getElem?_cons_succ, Option.getD_some]
@[simp] theorem n19_4 (s : List V) (H : Heap) : evCode P Γ call n f m (cAt [1, 0] B19) s H = regNext (evOpsGo P Γ call r19_4.1 r19_4.1 s H) := at_region (by kernel_rfl) r19_4.2 s H
attribute [simp] r19_4
@[simp] theorem n19_5 (s : List V) (H : Heap) : evCode P Γ call n f m (cAt [1, 1] B19) s H = seqNext P Γ call n f m (cAt [1, 1, 1] B19) (evCode P Γ call n f m (cAt [1, 1, 0] B19) s H) := at_seq (by kernel_rfl) rfl rfl s H
noncomputable def r19_6 : {l : List Oper // opsOf (cAt [1, 1, 0] B19) = l} := by
  apply Subtype.mk
  dsimp only [opsOf, cAt, kids, B19, bodyOf, Tryd.f19, List.getD, List.getElem?_cons_zero, List.getElem?_cons_succ, Option.getD_some]
@[simp] theorem n19_6 (s : List V) (H : Heap) : evCode P Γ call n f m (cAt [1, 1, 0] B19) s H = regNext (evOpsGo P Γ call r19_6.1 r19_6.1 s H) := at_region (by kernel_rfl) r19_6.2 s H
attribute [simp] r19_6
@[simp] theorem n19_7 (s : List V) (H : Heap) : evCode P Γ call n f m (cAt [1, 1, 1] B19) s H = seqNext P Γ call n f m (cAt [1, 1, 1, 1] B19) (evCode P Γ call n f m (cAt [1, 1, 1, 0] B19) s H) := at_seq (by kernel_rfl) rfl rfl s H
@[simp] theorem n19_8 (s : List V) (H : Heap) : evCode P Γ call n f m (cAt [1, 1, 1, 0] B19) s H = seqNext P Γ call n f m (cAt [1, 1, 1, 0, 1] B19) (evCode P Γ call n f m (cAt [1, 1, 1, 0, 0] B19) s H) := at_seq (by kernel_rfl) rfl rfl s H
noncomputable def r19_9 : {l : List Oper // opsOf (cAt [1, 1, 1, 0, 0] B19) = l} := by
  apply Subtype.mk
  dsimp only [opsOf, cAt, kids, B19, bodyOf, Tryd.f19, List.getD, List.getElem?_cons_zero, List.getElem?_cons_succ, Option.getD_some]
@[simp] theorem n19_9 (s : List V) (H : Heap) : evCode P Γ call n f m (cAt [1, 1, 1, 0, 0] B19) s H = regNext (evOpsGo P Γ call r19_9.1 r19_9.1 s H) := at_region (by kernel_rfl) r19_9.2 s H
attribute [simp] r19_9
@[simp] theorem n19_10 (s : List V) (H : Heap) : evCode P Γ call n f m (cAt [1, 1, 1, 0, 1] B19) s H = blockNext 0 (evCode P Γ call n f m (cAt [1, 1, 1, 0, 1, 0] B19) s H) := at_block (by kernel_rfl) rfl s H
@[simp] theorem n19_11 (s : List V) (H : Heap) : evCode P Γ call n f m (cAt [1, 1, 1, 0, 1, 0] B19) s H = evLoopC P Γ call n f m (cAt [1, 1, 1, 0, 1, 0, 0] B19) n s H := at_loop (by kernel_rfl) rfl s H
noncomputable abbrev L19_4 : Code := cAt [1, 1, 1, 0, 1, 0, 0] B19
@[simp] theorem n19_11f : firstRegion (cAt [1, 1, 1, 0, 1, 0, 0] B19) = 4 := by kernel_rfl
@[simp] theorem n19_12 (s : List V) (H : Heap) : evCode P Γ call n f m (cAt [1, 1, 1, 0, 1, 0, 0] B19) s H = seqNext P Γ call n f m (cAt [1, 1, 1, 0, 1, 0, 0, 1] B19) (evCode P Γ call n f m (cAt [1, 1, 1, 0, 1, 0, 0, 0] B19) s H) := at_seq (by kernel_rfl) rfl rfl s H
noncomputable def r19_13 : {l : List Oper // opsOf (cAt [1, 1, 1, 0, 1, 0, 0, 0] B19) = l} := by
  apply Subtype.mk
  dsimp only [opsOf, cAt, kids, B19, bodyOf, Tryd.f19, List.getD, List.getElem?_cons_zero, List.getElem?_cons_succ, Option.getD_some]
@[simp] theorem n19_13 (s : List V) (H : Heap) : evCode P Γ call n f m (cAt [1, 1, 1, 0, 1, 0, 0, 0] B19) s H = regNext (evOpsGo P Γ call r19_13.1 r19_13.1 s H) := at_region (by kernel_rfl) r19_13.2 s H
attribute [simp] r19_13
@[simp] theorem n19_14 (s : List V) (H : Heap) : evCode P Γ call n f m (cAt [1, 1, 1, 0, 1, 0, 0, 1] B19) s H = seqNext P Γ call n f m (cAt [1, 1, 1, 0, 1, 0, 0, 1, 1] B19) (evCode P Γ call n f m (cAt [1, 1, 1, 0, 1, 0, 0, 1, 0] B19) s H) := at_seq (by kernel_rfl) rfl rfl s H
@[simp] theorem n19_15 (s : List V) (H : Heap) : evCode P Γ call n f m (cAt [1, 1, 1, 0, 1, 0, 0, 1, 0] B19) s H = condW P Γ call n f m (cAt [1, 1, 1, 0, 1, 0, 0, 1, 0, 0] B19) (cAt [1, 1, 1, 0, 1, 0, 0, 1, 0, 1] B19) s H (evOperand Γ s (.tmp 20)) := at_cond (by kernel_rfl) (by kernel_rfl) rfl rfl s H
@[simp] theorem n19_16 (s : List V) (H : Heap) : evCode P Γ call n f m (cAt [1, 1, 1, 0, 1, 0, 0, 1, 0, 0] B19) s H = some (.normal, s, H) := at_skip (by kernel_rfl) s H
@[simp] theorem n19_17 (s : List V) (H : Heap) : evCode P Γ call n f m (cAt [1, 1, 1, 0, 1, 0, 0, 1, 0, 1] B19) s H = some (.exit 0, s, H) := at_exit (by kernel_rfl) s H
@[simp] theorem n19_18 (s : List V) (H : Heap) : evCode P Γ call n f m (cAt [1, 1, 1, 0, 1, 0, 0, 1, 1] B19) s H = seqNext P Γ call n f m (cAt [1, 1, 1, 0, 1, 0, 0, 1, 1, 1] B19) (evCode P Γ call n f m (cAt [1, 1, 1, 0, 1, 0, 0, 1, 1, 0] B19) s H) := at_seq (by kernel_rfl) rfl rfl s H
@[simp] theorem n19_19 (s : List V) (H : Heap) : evCode P Γ call n f m (cAt [1, 1, 1, 0, 1, 0, 0, 1, 1, 0] B19) s H = blockNext 1 (evCode P Γ call n f m (cAt [1, 1, 1, 0, 1, 0, 0, 1, 1, 0, 0] B19) s H) := at_block (by kernel_rfl) rfl s H
@[simp] theorem n19_20 (s : List V) (H : Heap) : evCode P Γ call n f m (cAt [1, 1, 1, 0, 1, 0, 0, 1, 1, 0, 0] B19) s H = seqNext P Γ call n f m (cAt [1, 1, 1, 0, 1, 0, 0, 1, 1, 0, 0, 1] B19) (evCode P Γ call n f m (cAt [1, 1, 1, 0, 1, 0, 0, 1, 1, 0, 0, 0] B19) s H) := at_seq (by kernel_rfl) rfl rfl s H
noncomputable def r19_21 : {l : List Oper // opsOf (cAt [1, 1, 1, 0, 1, 0, 0, 1, 1, 0, 0, 0] B19) = l} := by
  apply Subtype.mk
  dsimp only [opsOf, cAt, kids, B19, bodyOf, Tryd.f19, List.getD, List.getElem?_cons_zero, List.getElem?_cons_succ, Option.getD_some]
@[simp] theorem n19_21 (s : List V) (H : Heap) : evCode P Γ call n f m (cAt [1, 1, 1, 0, 1, 0, 0, 1, 1, 0, 0, 0] B19) s H = regNext (evOpsGo P Γ call r19_21.1 r19_21.1 s H) := at_region (by kernel_rfl) r19_21.2 s H
attribute [simp] r19_21
@[simp] theorem n19_22 (s : List V) (H : Heap) : evCode P Γ call n f m (cAt [1, 1, 1, 0, 1, 0, 0, 1, 1, 0, 0, 1] B19) s H = seqNext P Γ call n f m (cAt [1, 1, 1, 0, 1, 0, 0, 1, 1, 0, 0, 1, 1] B19) (evCode P Γ call n f m (cAt [1, 1, 1, 0, 1, 0, 0, 1, 1, 0, 0, 1, 0] B19) s H) := at_seq (by kernel_rfl) rfl rfl s H
noncomputable def r19_23 : {l : List Oper // opsOf (cAt [1, 1, 1, 0, 1, 0, 0, 1, 1, 0, 0, 1, 0] B19) = l} := by
  apply Subtype.mk
  dsimp only [opsOf, cAt, kids, B19, bodyOf, Tryd.f19, List.getD, List.getElem?_cons_zero, List.getElem?_cons_succ, Option.getD_some]
@[simp] theorem n19_23 (s : List V) (H : Heap) : evCode P Γ call n f m (cAt [1, 1, 1, 0, 1, 0, 0, 1, 1, 0, 0, 1, 0] B19) s H = regNext (evOpsGo P Γ call r19_23.1 r19_23.1 s H) := at_region (by kernel_rfl) r19_23.2 s H
attribute [simp] r19_23
@[simp] theorem n19_24 (s : List V) (H : Heap) : evCode P Γ call n f m (cAt [1, 1, 1, 0, 1, 0, 0, 1, 1, 0, 0, 1, 1] B19) s H = seqNext P Γ call n f m (cAt [1, 1, 1, 0, 1, 0, 0, 1, 1, 0, 0, 1, 1, 1] B19) (evCode P Γ call n f m (cAt [1, 1, 1, 0, 1, 0, 0, 1, 1, 0, 0, 1, 1, 0] B19) s H) := at_seq (by kernel_rfl) rfl rfl s H
@[simp] theorem n19_25 (s : List V) (H : Heap) : evCode P Γ call n f m (cAt [1, 1, 1, 0, 1, 0, 0, 1, 1, 0, 0, 1, 1, 0] B19) s H = seqNext P Γ call n f m (cAt [1, 1, 1, 0, 1, 0, 0, 1, 1, 0, 0, 1, 1, 0, 1] B19) (evCode P Γ call n f m (cAt [1, 1, 1, 0, 1, 0, 0, 1, 1, 0, 0, 1, 1, 0, 0] B19) s H) := at_seq (by kernel_rfl) rfl rfl s H
noncomputable def r19_26 : {l : List Oper // opsOf (cAt [1, 1, 1, 0, 1, 0, 0, 1, 1, 0, 0, 1, 1, 0, 0] B19) = l} := by
  apply Subtype.mk
  dsimp only [opsOf, cAt, kids, B19, bodyOf, Tryd.f19, List.getD, List.getElem?_cons_zero, List.getElem?_cons_succ, Option.getD_some]
@[simp] theorem n19_26 (s : List V) (H : Heap) : evCode P Γ call n f m (cAt [1, 1, 1, 0, 1, 0, 0, 1, 1, 0, 0, 1, 1, 0, 0] B19) s H = regNext (evOpsGo P Γ call r19_26.1 r19_26.1 s H) := at_region (by kernel_rfl) r19_26.2 s H
attribute [simp] r19_26
@[simp] theorem n19_27 (s : List V) (H : Heap) : evCode P Γ call n f m (cAt [1, 1, 1, 0, 1, 0, 0, 1, 1, 0, 0, 1, 1, 0, 1] B19) s H = blockNext 2 (evCode P Γ call n f m (cAt [1, 1, 1, 0, 1, 0, 0, 1, 1, 0, 0, 1, 1, 0, 1, 0] B19) s H) := at_block (by kernel_rfl) rfl s H
@[simp] theorem n19_28 (s : List V) (H : Heap) : evCode P Γ call n f m (cAt [1, 1, 1, 0, 1, 0, 0, 1, 1, 0, 0, 1, 1, 0, 1, 0] B19) s H = seqNext P Γ call n f m (cAt [1, 1, 1, 0, 1, 0, 0, 1, 1, 0, 0, 1, 1, 0, 1, 0, 1] B19) (evCode P Γ call n f m (cAt [1, 1, 1, 0, 1, 0, 0, 1, 1, 0, 0, 1, 1, 0, 1, 0, 0] B19) s H) := at_seq (by kernel_rfl) rfl rfl s H
noncomputable def r19_29 : {l : List Oper // opsOf (cAt [1, 1, 1, 0, 1, 0, 0, 1, 1, 0, 0, 1, 1, 0, 1, 0, 0] B19) = l} := by
  apply Subtype.mk
  dsimp only [opsOf, cAt, kids, B19, bodyOf, Tryd.f19, List.getD, List.getElem?_cons_zero, List.getElem?_cons_succ, Option.getD_some]
@[simp] theorem n19_29 (s : List V) (H : Heap) : evCode P Γ call n f m (cAt [1, 1, 1, 0, 1, 0, 0, 1, 1, 0, 0, 1, 1, 0, 1, 0, 0] B19) s H = regNext (evOpsGo P Γ call r19_29.1 r19_29.1 s H) := at_region (by kernel_rfl) r19_29.2 s H
attribute [simp] r19_29
@[simp] theorem n19_30 (s : List V) (H : Heap) : evCode P Γ call n f m (cAt [1, 1, 1, 0, 1, 0, 0, 1, 1, 0, 0, 1, 1, 0, 1, 0, 1] B19) s H = condW P Γ call n f m (cAt [1, 1, 1, 0, 1, 0, 0, 1, 1, 0, 0, 1, 1, 0, 1, 0, 1, 0] B19) (cAt [1, 1, 1, 0, 1, 0, 0, 1, 1, 0, 0, 1, 1, 0, 1, 0, 1, 1] B19) s H (evOperand Γ s (.tmp 27)) := at_cond (by kernel_rfl) (by kernel_rfl) rfl rfl s H
noncomputable def r19_31 : {l : List Oper // opsOf (cAt [1, 1, 1, 0, 1, 0, 0, 1, 1, 0, 0, 1, 1, 0, 1, 0, 1, 0] B19) = l} := by
  apply Subtype.mk
  dsimp only [opsOf, cAt, kids, B19, bodyOf, Tryd.f19, List.getD, List.getElem?_cons_zero, List.getElem?_cons_succ, Option.getD_some]
@[simp] theorem n19_31 (s : List V) (H : Heap) : evCode P Γ call n f m (cAt [1, 1, 1, 0, 1, 0, 0, 1, 1, 0, 0, 1, 1, 0, 1, 0, 1, 0] B19) s H = regNext (evOpsGo P Γ call r19_31.1 r19_31.1 s H) := at_region (by kernel_rfl) r19_31.2 s H
attribute [simp] r19_31
@[simp] theorem n19_32 (s : List V) (H : Heap) : evCode P Γ call n f m (cAt [1, 1, 1, 0, 1, 0, 0, 1, 1, 0, 0, 1, 1, 0, 1, 0, 1, 1] B19) s H = seqNext P Γ call n f m (cAt [1, 1, 1, 0, 1, 0, 0, 1, 1, 0, 0, 1, 1, 0, 1, 0, 1, 1, 1] B19) (evCode P Γ call n f m (cAt [1, 1, 1, 0, 1, 0, 0, 1, 1, 0, 0, 1, 1, 0, 1, 0, 1, 1, 0] B19) s H) := at_seq (by kernel_rfl) rfl rfl s H
noncomputable def r19_33 : {l : List Oper // opsOf (cAt [1, 1, 1, 0, 1, 0, 0, 1, 1, 0, 0, 1, 1, 0, 1, 0, 1, 1, 0] B19) = l} := by
  apply Subtype.mk
  dsimp only [opsOf, cAt, kids, B19, bodyOf, Tryd.f19, List.getD, List.getElem?_cons_zero, List.getElem?_cons_succ, Option.getD_some]
@[simp] theorem n19_33 (s : List V) (H : Heap) : evCode P Γ call n f m (cAt [1, 1, 1, 0, 1, 0, 0, 1, 1, 0, 0, 1, 1, 0, 1, 0, 1, 1, 0] B19) s H = regNext (evOpsGo P Γ call r19_33.1 r19_33.1 s H) := at_region (by kernel_rfl) r19_33.2 s H
attribute [simp] r19_33
@[simp] theorem n19_34 (s : List V) (H : Heap) : evCode P Γ call n f m (cAt [1, 1, 1, 0, 1, 0, 0, 1, 1, 0, 0, 1, 1, 0, 1, 0, 1, 1, 1] B19) s H = condW P Γ call n f m (cAt [1, 1, 1, 0, 1, 0, 0, 1, 1, 0, 0, 1, 1, 0, 1, 0, 1, 1, 1, 0] B19) (cAt [1, 1, 1, 0, 1, 0, 0, 1, 1, 0, 0, 1, 1, 0, 1, 0, 1, 1, 1, 1] B19) s H (evOperand Γ s (.tmp 31)) := at_cond (by kernel_rfl) (by kernel_rfl) rfl rfl s H
noncomputable def r19_35 : {l : List Oper // opsOf (cAt [1, 1, 1, 0, 1, 0, 0, 1, 1, 0, 0, 1, 1, 0, 1, 0, 1, 1, 1, 0] B19) = l} := by
  apply Subtype.mk
  dsimp only [opsOf, cAt, kids, B19, bodyOf, Tryd.f19, List.getD, List.getElem?_cons_zero, List.getElem?_cons_succ, Option.getD_some]
@[simp] theorem n19_35 (s : List V) (H : Heap) : evCode P Γ call n f m (cAt [1, 1, 1, 0, 1, 0, 0, 1, 1, 0, 0, 1, 1, 0, 1, 0, 1, 1, 1, 0] B19) s H = regNext (evOpsGo P Γ call r19_35.1 r19_35.1 s H) := at_region (by kernel_rfl) r19_35.2 s H
attribute [simp] r19_35
@[simp] theorem n19_36 (s : List V) (H : Heap) : evCode P Γ call n f m (cAt [1, 1, 1, 0, 1, 0, 0, 1, 1, 0, 0, 1, 1, 0, 1, 0, 1, 1, 1, 1] B19) s H = seqNext P Γ call n f m (cAt [1, 1, 1, 0, 1, 0, 0, 1, 1, 0, 0, 1, 1, 0, 1, 0, 1, 1, 1, 1, 1] B19) (evCode P Γ call n f m (cAt [1, 1, 1, 0, 1, 0, 0, 1, 1, 0, 0, 1, 1, 0, 1, 0, 1, 1, 1, 1, 0] B19) s H) := at_seq (by kernel_rfl) rfl rfl s H
noncomputable def r19_37 : {l : List Oper // opsOf (cAt [1, 1, 1, 0, 1, 0, 0, 1, 1, 0, 0, 1, 1, 0, 1, 0, 1, 1, 1, 1, 0] B19) = l} := by
  apply Subtype.mk
  dsimp only [opsOf, cAt, kids, B19, bodyOf, Tryd.f19, List.getD, List.getElem?_cons_zero, List.getElem?_cons_succ, Option.getD_some]
@[simp] theorem n19_37 (s : List V) (H : Heap) : evCode P Γ call n f m (cAt [1, 1, 1, 0, 1, 0, 0, 1, 1, 0, 0, 1, 1, 0, 1, 0, 1, 1, 1, 1, 0] B19) s H = regNext (evOpsGo P Γ call r19_37.1 r19_37.1 s H) := at_region (by kernel_rfl) r19_37.2 s H
attribute [simp] r19_37
@[simp] theorem n19_38 (s : List V) (H : Heap) : evCode P Γ call n f m (cAt [1, 1, 1, 0, 1, 0, 0, 1, 1, 0, 0, 1, 1, 0, 1, 0, 1, 1, 1, 1, 1] B19) s H = condW P Γ call n f m (cAt [1, 1, 1, 0, 1, 0, 0, 1, 1, 0, 0, 1, 1, 0, 1, 0, 1, 1, 1, 1, 1, 0] B19) (cAt [1, 1, 1, 0, 1, 0, 0, 1, 1, 0, 0, 1, 1, 0, 1, 0, 1, 1, 1, 1, 1, 1] B19) s H (evOperand Γ s (.tmp 35)) := at_cond (by kernel_rfl) (by kernel_rfl) rfl rfl s H
noncomputable def r19_39 : {l : List Oper // opsOf (cAt [1, 1, 1, 0, 1, 0, 0, 1, 1, 0, 0, 1, 1, 0, 1, 0, 1, 1, 1, 1, 1, 0] B19) = l} := by
  apply Subtype.mk
  dsimp only [opsOf, cAt, kids, B19, bodyOf, Tryd.f19, List.getD, List.getElem?_cons_zero, List.getElem?_cons_succ, Option.getD_some]
@[simp] theorem n19_39 (s : List V) (H : Heap) : evCode P Γ call n f m (cAt [1, 1, 1, 0, 1, 0, 0, 1, 1, 0, 0, 1, 1, 0, 1, 0, 1, 1, 1, 1, 1, 0] B19) s H = regNext (evOpsGo P Γ call r19_39.1 r19_39.1 s H) := at_region (by kernel_rfl) r19_39.2 s H
attribute [simp] r19_39
@[simp] theorem n19_40 (s : List V) (H : Heap) : evCode P Γ call n f m (cAt [1, 1, 1, 0, 1, 0, 0, 1, 1, 0, 0, 1, 1, 0, 1, 0, 1, 1, 1, 1, 1, 1] B19) s H = some (.normal, s, H) := at_skip (by kernel_rfl) s H
noncomputable def r19_41 : {l : List Oper // opsOf (cAt [1, 1, 1, 0, 1, 0, 0, 1, 1, 0, 0, 1, 1, 1] B19) = l} := by
  apply Subtype.mk
  dsimp only [opsOf, cAt, kids, B19, bodyOf, Tryd.f19, List.getD, List.getElem?_cons_zero, List.getElem?_cons_succ, Option.getD_some]
@[simp] theorem n19_41 (s : List V) (H : Heap) : evCode P Γ call n f m (cAt [1, 1, 1, 0, 1, 0, 0, 1, 1, 0, 0, 1, 1, 1] B19) s H = regNext (evOpsGo P Γ call r19_41.1 r19_41.1 s H) := at_region (by kernel_rfl) r19_41.2 s H
attribute [simp] r19_41
noncomputable def r19_42 : {l : List Oper // opsOf (cAt [1, 1, 1, 0, 1, 0, 0, 1, 1, 1] B19) = l} := by
  apply Subtype.mk
  dsimp only [opsOf, cAt, kids, B19, bodyOf, Tryd.f19, List.getD, List.getElem?_cons_zero, List.getElem?_cons_succ, Option.getD_some]
@[simp] theorem n19_42 (s : List V) (H : Heap) : evCode P Γ call n f m (cAt [1, 1, 1, 0, 1, 0, 0, 1, 1, 1] B19) s H = regNext (evOpsGo P Γ call r19_42.1 r19_42.1 s H) := at_region (by kernel_rfl) r19_42.2 s H
attribute [simp] r19_42
@[simp] theorem n19_43 (s : List V) (H : Heap) : evCode P Γ call n f m (cAt [1, 1, 1, 1] B19) s H = seqNext P Γ call n f m (cAt [1, 1, 1, 1, 1] B19) (evCode P Γ call n f m (cAt [1, 1, 1, 1, 0] B19) s H) := at_seq (by kernel_rfl) rfl rfl s H
@[simp] theorem n19_44 (s : List V) (H : Heap) : evCode P Γ call n f m (cAt [1, 1, 1, 1, 0] B19) s H = blockNext 3 (evCode P Γ call n f m (cAt [1, 1, 1, 1, 0, 0] B19) s H) := at_block (by kernel_rfl) rfl s H
@[simp] theorem n19_45 (s : List V) (H : Heap) : evCode P Γ call n f m (cAt [1, 1, 1, 1, 0, 0] B19) s H = seqNext P Γ call n f m (cAt [1, 1, 1, 1, 0, 0, 1] B19) (evCode P Γ call n f m (cAt [1, 1, 1, 1, 0, 0, 0] B19) s H) := at_seq (by kernel_rfl) rfl rfl s H
noncomputable def r19_46 : {l : List Oper // opsOf (cAt [1, 1, 1, 1, 0, 0, 0] B19) = l} := by
  apply Subtype.mk
  dsimp only [opsOf, cAt, kids, B19, bodyOf, Tryd.f19, List.getD, List.getElem?_cons_zero, List.getElem?_cons_succ, Option.getD_some]
@[simp] theorem n19_46 (s : List V) (H : Heap) : evCode P Γ call n f m (cAt [1, 1, 1, 1, 0, 0, 0] B19) s H = regNext (evOpsGo P Γ call r19_46.1 r19_46.1 s H) := at_region (by kernel_rfl) r19_46.2 s H
attribute [simp] r19_46
@[simp] theorem n19_47 (s : List V) (H : Heap) : evCode P Γ call n f m (cAt [1, 1, 1, 1, 0, 0, 1] B19) s H = condW P Γ call n f m (cAt [1, 1, 1, 1, 0, 0, 1, 0] B19) (cAt [1, 1, 1, 1, 0, 0, 1, 1] B19) s H (evOperand Γ s (.tmp 49)) := at_cond (by kernel_rfl) (by kernel_rfl) rfl rfl s H
@[simp] theorem n19_48 (s : List V) (H : Heap) : evCode P Γ call n f m (cAt [1, 1, 1, 1, 0, 0, 1, 0] B19) s H = seqNext P Γ call n f m (cAt [1, 1, 1, 1, 0, 0, 1, 0, 1] B19) (evCode P Γ call n f m (cAt [1, 1, 1, 1, 0, 0, 1, 0, 0] B19) s H) := at_seq (by kernel_rfl) rfl rfl s H
noncomputable def r19_49 : {l : List Oper // opsOf (cAt [1, 1, 1, 1, 0, 0, 1, 0, 0] B19) = l} := by
  apply Subtype.mk
  dsimp only [opsOf, cAt, kids, B19, bodyOf, Tryd.f19, List.getD, List.getElem?_cons_zero, List.getElem?_cons_succ, Option.getD_some]
@[simp] theorem n19_49 (s : List V) (H : Heap) : evCode P Γ call n f m (cAt [1, 1, 1, 1, 0, 0, 1, 0, 0] B19) s H = regNext (evOpsGo P Γ call r19_49.1 r19_49.1 s H) := at_region (by kernel_rfl) r19_49.2 s H
attribute [simp] r19_49
@[simp] theorem n19_50 (s : List V) (H : Heap) : evCode P Γ call n f m (cAt [1, 1, 1, 1, 0, 0, 1, 0, 1] B19) s H = some (.ret, s, H) := at_ret (by kernel_rfl) s H
@[simp] theorem n19_51 (s : List V) (H : Heap) : evCode P Γ call n f m (cAt [1, 1, 1, 1, 0, 0, 1, 1] B19) s H = seqNext P Γ call n f m (cAt [1, 1, 1, 1, 0, 0, 1, 1, 1] B19) (evCode P Γ call n f m (cAt [1, 1, 1, 1, 0, 0, 1, 1, 0] B19) s H) := at_seq (by kernel_rfl) rfl rfl s H
@[simp] theorem n19_52 (s : List V) (H : Heap) : evCode P Γ call n f m (cAt [1, 1, 1, 1, 0, 0, 1, 1, 0] B19) s H = seqNext P Γ call n f m (cAt [1, 1, 1, 1, 0, 0, 1, 1, 0, 1] B19) (evCode P Γ call n f m (cAt [1, 1, 1, 1, 0, 0, 1, 1, 0, 0] B19) s H) := at_seq (by kernel_rfl) rfl rfl s H
noncomputable def r19_53 : {l : List Oper // opsOf (cAt [1, 1, 1, 1, 0, 0, 1, 1, 0, 0] B19) = l} := by
  apply Subtype.mk
  dsimp only [opsOf, cAt, kids, B19, bodyOf, Tryd.f19, List.getD, List.getElem?_cons_zero, List.getElem?_cons_succ, Option.getD_some]
@[simp] theorem n19_53 (s : List V) (H : Heap) : evCode P Γ call n f m (cAt [1, 1, 1, 1, 0, 0, 1, 1, 0, 0] B19) s H = regNext (evOpsGo P Γ call r19_53.1 r19_53.1 s H) := at_region (by kernel_rfl) r19_53.2 s H
attribute [simp] r19_53
@[simp] theorem n19_54 (s : List V) (H : Heap) : evCode P Γ call n f m (cAt [1, 1, 1, 1, 0, 0, 1, 1, 0, 1] B19) s H = condW P Γ call n f m (cAt [1, 1, 1, 1, 0, 0, 1, 1, 0, 1, 0] B19) (cAt [1, 1, 1, 1, 0, 0, 1, 1, 0, 1, 1] B19) s H (evOperand Γ s (.tmp 58)) := at_cond (by kernel_rfl) (by kernel_rfl) rfl rfl s H
@[simp] theorem n19_55 (s : List V) (H : Heap) : evCode P Γ call n f m (cAt [1, 1, 1, 1, 0, 0, 1, 1, 0, 1, 0] B19) s H = some (.normal, s, H) := at_skip (by kernel_rfl) s H
noncomputable def r19_56 : {l : List Oper // opsOf (cAt [1, 1, 1, 1, 0, 0, 1, 1, 0, 1, 1] B19) = l} := by
  apply Subtype.mk
  dsimp only [opsOf, cAt, kids, B19, bodyOf, Tryd.f19, List.getD, List.getElem?_cons_zero, List.getElem?_cons_succ, Option.getD_some]
@[simp] theorem n19_56 (s : List V) (H : Heap) : evCode P Γ call n f m (cAt [1, 1, 1, 1, 0, 0, 1, 1, 0, 1, 1] B19) s H = regNext (evOpsGo P Γ call r19_56.1 r19_56.1 s H) := at_region (by kernel_rfl) r19_56.2 s H
attribute [simp] r19_56
@[simp] theorem n19_57 (s : List V) (H : Heap) : evCode P Γ call n f m (cAt [1, 1, 1, 1, 0, 0, 1, 1, 1] B19) s H = condW P Γ call n f m (cAt [1, 1, 1, 1, 0, 0, 1, 1, 1, 0] B19) (cAt [1, 1, 1, 1, 0, 0, 1, 1, 1, 1] B19) s H (evOperand Γ s (.tmp 58)) := at_cond (by kernel_rfl) (by kernel_rfl) rfl rfl s H
@[simp] theorem n19_58 (s : List V) (H : Heap) : evCode P Γ call n f m (cAt [1, 1, 1, 1, 0, 0, 1, 1, 1, 0] B19) s H = seqNext P Γ call n f m (cAt [1, 1, 1, 1, 0, 0, 1, 1, 1, 0, 1] B19) (evCode P Γ call n f m (cAt [1, 1, 1, 1, 0, 0, 1, 1, 1, 0, 0] B19) s H) := at_seq (by kernel_rfl) rfl rfl s H
noncomputable def r19_59 : {l : List Oper // opsOf (cAt [1, 1, 1, 1, 0, 0, 1, 1, 1, 0, 0] B19) = l} := by
  apply Subtype.mk
  dsimp only [opsOf, cAt, kids, B19, bodyOf, Tryd.f19, List.getD, List.getElem?_cons_zero, List.getElem?_cons_succ, Option.getD_some]
@[simp] theorem n19_59 (s : List V) (H : Heap) : evCode P Γ call n f m (cAt [1, 1, 1, 1, 0, 0, 1, 1, 1, 0, 0] B19) s H = regNext (evOpsGo P Γ call r19_59.1 r19_59.1 s H) := at_region (by kernel_rfl) r19_59.2 s H
attribute [simp] r19_59
@[simp] theorem n19_60 (s : List V) (H : Heap) : evCode P Γ call n f m (cAt [1, 1, 1, 1, 0, 0, 1, 1, 1, 0, 1] B19) s H = some (.ret, s, H) := at_ret (by kernel_rfl) s H
@[simp] theorem n19_61 (s : List V) (H : Heap) : evCode P Γ call n f m (cAt [1, 1, 1, 1, 0, 0, 1, 1, 1, 1] B19) s H = seqNext P Γ call n f m (cAt [1, 1, 1, 1, 0, 0, 1, 1, 1, 1, 1] B19) (evCode P Γ call n f m (cAt [1, 1, 1, 1, 0, 0, 1, 1, 1, 1, 0] B19) s H) := at_seq (by kernel_rfl) rfl rfl s H
@[simp] theorem n19_62 (s : List V) (H : Heap) : evCode P Γ call n f m (cAt [1, 1, 1, 1, 0, 0, 1, 1, 1, 1, 0] B19) s H = seqNext P Γ call n f m (cAt [1, 1, 1, 1, 0, 0, 1, 1, 1, 1, 0, 1] B19) (evCode P Γ call n f m (cAt [1, 1, 1, 1, 0, 0, 1, 1, 1, 1, 0, 0] B19) s H) := at_seq (by kernel_rfl) rfl rfl s H
noncomputable def r19_63 : {l : List Oper // opsOf (cAt [1, 1, 1, 1, 0, 0, 1, 1, 1, 1, 0, 0] B19) = l} := by
  apply Subtype.mk
  dsimp only [opsOf, cAt, kids, B19, bodyOf, Tryd.f19, List.getD, List.getElem?_cons_zero, List.getElem?_cons_succ, Option.getD_some]
@[simp] theorem n19_63 (s : List V) (H : Heap) : evCode P Γ call n f m (cAt [1, 1, 1, 1, 0, 0, 1, 1, 1, 1, 0, 0] B19) s H = regNext (evOpsGo P Γ call r19_63.1 r19_63.1 s H) := at_region (by kernel_rfl) r19_63.2 s H
attribute [simp] r19_63
@[simp] theorem n19_64 (s : List V) (H : Heap) : evCode P Γ call n f m (cAt [1, 1, 1, 1, 0, 0, 1, 1, 1, 1, 0, 1] B19) s H = condW P Γ call n f m (cAt [1, 1, 1, 1, 0, 0, 1, 1, 1, 1, 0, 1, 0] B19) (cAt [1, 1, 1, 1, 0, 0, 1, 1, 1, 1, 0, 1, 1] B19) s H (evOperand Γ s (.tmp 72)) := at_cond (by kernel_rfl) (by kernel_rfl) rfl rfl s H
@[simp] theorem n19_65 (s : List V) (H : Heap) : evCode P Γ call n f m (cAt [1, 1, 1, 1, 0, 0, 1, 1, 1, 1, 0, 1, 0] B19) s H = some (.normal, s, H) := at_skip (by kernel_rfl) s H
noncomputable def r19_66 : {l : List Oper // opsOf (cAt [1, 1, 1, 1, 0, 0, 1, 1, 1, 1, 0, 1, 1] B19) = l} := by
  apply Subtype.mk
  dsimp only [opsOf, cAt, kids, B19, bodyOf, Tryd.f19, List.getD, List.getElem?_cons_zero, List.getElem?_cons_succ, Option.getD_some]
@[simp] theorem n19_66 (s : List V) (H : Heap) : evCode P Γ call n f m (cAt [1, 1, 1, 1, 0, 0, 1, 1, 1, 1, 0, 1, 1] B19) s H = regNext (evOpsGo P Γ call r19_66.1 r19_66.1 s H) := at_region (by kernel_rfl) r19_66.2 s H
attribute [simp] r19_66
@[simp] theorem n19_67 (s : List V) (H : Heap) : evCode P Γ call n f m (cAt [1, 1, 1, 1, 0, 0, 1, 1, 1, 1, 1] B19) s H = condW P Γ call n f m (cAt [1, 1, 1, 1, 0, 0, 1, 1, 1, 1, 1, 0] B19) (cAt [1, 1, 1, 1, 0, 0, 1, 1, 1, 1, 1, 1] B19) s H (evOperand Γ s (.tmp 72)) := at_cond (by kernel_rfl) (by kernel_rfl) rfl rfl s H
@[simp] theorem n19_68 (s : List V) (H : Heap) : evCode P Γ call n f m (cAt [1, 1, 1, 1, 0, 0, 1, 1, 1, 1, 1, 0] B19) s H = seqNext P Γ call n f m (cAt [1, 1, 1, 1, 0, 0, 1, 1, 1, 1, 1, 0, 1] B19) (evCode P Γ call n f m (cAt [1, 1, 1, 1, 0, 0, 1, 1, 1, 1, 1, 0, 0] B19) s H) := at_seq (by kernel_rfl) rfl rfl s H
noncomputable def r19_69 : {l : List Oper // opsOf (cAt [1, 1, 1, 1, 0, 0, 1, 1, 1, 1, 1, 0, 0] B19) = l} := by
  apply Subtype.mk
  dsimp only [opsOf, cAt, kids, B19, bodyOf, Tryd.f19, List.getD, List.getElem?_cons_zero, List.getElem?_cons_succ, Option.getD_some]
@[simp] theorem n19_69 (s : List V) (H : Heap) : evCode P Γ call n f m (cAt [1, 1, 1, 1, 0, 0, 1, 1, 1, 1, 1, 0, 0] B19) s H = regNext (evOpsGo P Γ call r19_69.1 r19_69.1 s H) := at_region (by kernel_rfl) r19_69.2 s H
attribute [simp] r19_69
@[simp] theorem n19_70 (s : List V) (H : Heap) : evCode P Γ call n f m (cAt [1, 1, 1, 1, 0, 0, 1, 1, 1, 1, 1, 0, 1] B19) s H = some (.ret, s, H) := at_ret (by kernel_rfl) s H
@[simp] theorem n19_71 (s : List V) (H : Heap) : evCode P Γ call n f m (cAt [1, 1, 1, 1, 0, 0, 1, 1, 1, 1, 1, 1] B19) s H = seqNext P Γ call n f m (cAt [1, 1, 1, 1, 0, 0, 1, 1, 1, 1, 1, 1, 1] B19) (evCode P Γ call n f m (cAt [1, 1, 1, 1, 0, 0, 1, 1, 1, 1, 1, 1, 0] B19) s H) := at_seq (by kernel_rfl) rfl rfl s H
@[simp] theorem n19_72 (s : List V) (H : Heap) : evCode P Γ call n f m (cAt [1, 1, 1, 1, 0, 0, 1, 1, 1, 1, 1, 1, 0] B19) s H = seqNext P Γ call n f m (cAt [1, 1, 1, 1, 0, 0, 1, 1, 1, 1, 1, 1, 0, 1] B19) (evCode P Γ call n f m (cAt [1, 1, 1, 1, 0, 0, 1, 1, 1, 1, 1, 1, 0, 0] B19) s H) := at_seq (by kernel_rfl) rfl rfl s H
noncomputable def r19_73 : {l : List Oper // opsOf (cAt [1, 1, 1, 1, 0, 0, 1, 1, 1, 1, 1, 1, 0, 0] B19) = l} := by
  apply Subtype.mk
  dsimp only [opsOf, cAt, kids, B19, bodyOf, Tryd.f19, List.getD, List.getElem?_cons_zero, List.getElem?_cons_succ, Option.getD_some]
@[simp] theorem n19_73 (s : List V) (H : Heap) : evCode P Γ call n f m (cAt [1, 1, 1, 1, 0, 0, 1, 1, 1, 1, 1, 1, 0, 0] B19) s H = regNext (evOpsGo P Γ call r19_73.1 r19_73.1 s H) := at_region (by kernel_rfl) r19_73.2 s H
attribute [simp] r19_73
@[simp] theorem n19_74 (s : List V) (H : Heap) : evCode P Γ call n f m (cAt [1, 1, 1, 1, 0, 0, 1, 1, 1, 1, 1, 1, 0, 1] B19) s H = condW P Γ call n f m (cAt [1, 1, 1, 1, 0, 0, 1, 1, 1, 1, 1, 1, 0, 1, 0] B19) (cAt [1, 1, 1, 1, 0, 0, 1, 1, 1, 1, 1, 1, 0, 1, 1] B19) s H (evOperand Γ s (.tmp 94)) := at_cond (by kernel_rfl) (by kernel_rfl) rfl rfl s H
@[simp] theorem n19_75 (s : List V) (H : Heap) : evCode P Γ call n f m (cAt [1, 1, 1, 1, 0, 0, 1, 1, 1, 1, 1, 1, 0, 1, 0] B19) s H = some (.normal, s, H) := at_skip (by kernel_rfl) s H
noncomputable def r19_76 : {l : List Oper // opsOf (cAt [1, 1, 1, 1, 0, 0, 1, 1, 1, 1, 1, 1, 0, 1, 1] B19) = l} := by
  apply Subtype.mk
  dsimp only [opsOf, cAt, kids, B19, bodyOf, Tryd.f19, List.getD, List.getElem?_cons_zero, List.getElem?_cons_succ, Option.getD_some]
@[simp] theorem n19_76 (s : List V) (H : Heap) : evCode P Γ call n f m (cAt [1, 1, 1, 1, 0, 0, 1, 1, 1, 1, 1, 1, 0, 1, 1] B19) s H = regNext (evOpsGo P Γ call r19_76.1 r19_76.1 s H) := at_region (by kernel_rfl) r19_76.2 s H
attribute [simp] r19_76
@[simp] theorem n19_77 (s : List V) (H : Heap) : evCode P Γ call n f m (cAt [1, 1, 1, 1, 0, 0, 1, 1, 1, 1, 1, 1, 1] B19) s H = condW P Γ call n f m (cAt [1, 1, 1, 1, 0, 0, 1, 1, 1, 1, 1, 1, 1, 0] B19) (cAt [1, 1, 1, 1, 0, 0, 1, 1, 1, 1, 1, 1, 1, 1] B19) s H (evOperand Γ s (.tmp 94)) := at_cond (by kernel_rfl) (by kernel_rfl) rfl rfl s H
@[simp] theorem n19_78 (s : List V) (H : Heap) : evCode P Γ call n f m (cAt [1, 1, 1, 1, 0, 0, 1, 1, 1, 1, 1, 1, 1, 0] B19) s H = seqNext P Γ call n f m (cAt [1, 1, 1, 1, 0, 0, 1, 1, 1, 1, 1, 1, 1, 0, 1] B19) (evCode P Γ call n f m (cAt [1, 1, 1, 1, 0, 0, 1, 1, 1, 1, 1, 1, 1, 0, 0] B19) s H) := at_seq (by kernel_rfl) rfl rfl s H
noncomputable def r19_79 : {l : List Oper // opsOf (cAt [1, 1, 1, 1, 0, 0, 1, 1, 1, 1, 1, 1, 1, 0, 0] B19) = l} := by
  apply Subtype.mk
  dsimp only [opsOf, cAt, kids, B19, bodyOf, Tryd.f19, List.getD, List.getElem?_cons_zero, List.getElem?_cons_succ, Option.getD_some]
@[simp] theorem n19_79 (s : List V) (H : Heap) : evCode P Γ call n f m (cAt [1, 1, 1, 1, 0, 0, 1, 1, 1, 1, 1, 1, 1, 0, 0] B19) s H = regNext (evOpsGo P Γ call r19_79.1 r19_79.1 s H) := at_region (by kernel_rfl) r19_79.2 s H
attribute [simp] r19_79
@[simp] theorem n19_80 (s : List V) (H : Heap) : evCode P Γ call n f m (cAt [1, 1, 1, 1, 0, 0, 1, 1, 1, 1, 1, 1, 1, 0, 1] B19) s H = some (.ret, s, H) := at_ret (by kernel_rfl) s H
@[simp] theorem n19_81 (s : List V) (H : Heap) : evCode P Γ call n f m (cAt [1, 1, 1, 1, 0, 0, 1, 1, 1, 1, 1, 1, 1, 1] B19) s H = seqNext P Γ call n f m (cAt [1, 1, 1, 1, 0, 0, 1, 1, 1, 1, 1, 1, 1, 1, 1] B19) (evCode P Γ call n f m (cAt [1, 1, 1, 1, 0, 0, 1, 1, 1, 1, 1, 1, 1, 1, 0] B19) s H) := at_seq (by kernel_rfl) rfl rfl s H
@[simp] theorem n19_82 (s : List V) (H : Heap) : evCode P Γ call n f m (cAt [1, 1, 1, 1, 0, 0, 1, 1, 1, 1, 1, 1, 1, 1, 0] B19) s H = seqNext P Γ call n f m (cAt [1, 1, 1, 1, 0, 0, 1, 1, 1, 1, 1, 1, 1, 1, 0, 1] B19) (evCode P Γ call n f m (cAt [1, 1, 1, 1, 0, 0, 1, 1, 1, 1, 1, 1, 1, 1, 0, 0] B19) s H) := at_seq (by kernel_rfl) rfl rfl s H
noncomputable def r19_83 : {l : List Oper // opsOf (cAt [1, 1, 1, 1, 0, 0, 1, 1, 1, 1, 1, 1, 1, 1, 0, 0] B19) = l} := by
  apply Subtype.mk
  dsimp only [opsOf, cAt, kids, B19, bodyOf, Tryd.f19, List.getD, List.getElem?_cons_zero, List.getElem?_cons_succ, Option.getD_some]
@[simp] theorem n19_83 (s : List V) (H : Heap) : evCode P Γ call n f m (cAt [1, 1, 1, 1, 0, 0, 1, 1, 1, 1, 1, 1, 1, 1, 0, 0] B19) s H = regNext (evOpsGo P Γ call r19_83.1 r19_83.1 s H) := at_region (by kernel_rfl) r19_83.2 s H
attribute [simp] r19_83
@[simp] theorem n19_84 (s : List V) (H : Heap) : evCode P Γ call n f m (cAt [1, 1, 1, 1, 0, 0, 1, 1, 1, 1, 1, 1, 1, 1, 0, 1] B19) s H = condW P Γ call n f m (cAt [1, 1, 1, 1, 0, 0, 1, 1, 1, 1, 1, 1, 1, 1, 0, 1, 0] B19) (cAt [1, 1, 1, 1, 0, 0, 1, 1, 1, 1, 1, 1, 1, 1, 0, 1, 1] B19) s H (evOperand Γ s (.tmp 102)) := at_cond (by kernel_rfl) (by kernel_rfl) rfl rfl s H
@[simp] theorem n19_85 (s : List V) (H : Heap) : evCode P Γ call n f m (cAt [1, 1, 1, 1, 0, 0, 1, 1, 1, 1, 1, 1, 1, 1, 0, 1, 0] B19) s H = some (.normal, s, H) := at_skip (by kernel_rfl) s H
noncomputable def r19_86 : {l : List Oper // opsOf (cAt [1, 1, 1, 1, 0, 0, 1, 1, 1, 1, 1, 1, 1, 1, 0, 1, 1] B19) = l} := by
  apply Subtype.mk
  dsimp only [opsOf, cAt, kids, B19, bodyOf, Tryd.f19, List.getD, List.getElem?_cons_zero, List.getElem?_cons_succ, Option.getD_some]
@[simp] theorem n19_86 (s : List V) (H : Heap) : evCode P Γ call n f m (cAt [1, 1, 1, 1, 0, 0, 1, 1, 1, 1, 1, 1, 1, 1, 0, 1, 1] B19) s H = regNext (evOpsGo P Γ call r19_86.1 r19_86.1 s H) := at_region (by kernel_rfl) r19_86.2 s H
attribute [simp] r19_86
@[simp] theorem n19_87 (s : List V) (H : Heap) : evCode P Γ call n f m (cAt [1, 1, 1, 1, 0, 0, 1, 1, 1, 1, 1, 1, 1, 1, 1] B19) s H = condW P Γ call n f m (cAt [1, 1, 1, 1, 0, 0, 1, 1, 1, 1, 1, 1, 1, 1, 1, 0] B19) (cAt [1, 1, 1, 1, 0, 0, 1, 1, 1, 1, 1, 1, 1, 1, 1, 1] B19) s H (evOperand Γ s (.tmp 102)) := at_cond (by kernel_rfl) (by kernel_rfl) rfl rfl s H
@[simp] theorem n19_88 (s : List V) (H : Heap) : evCode P Γ call n f m (cAt [1, 1, 1, 1, 0, 0, 1, 1, 1, 1, 1, 1, 1, 1, 1, 0] B19) s H = seqNext P Γ call n f m (cAt [1, 1, 1, 1, 0, 0, 1, 1, 1, 1, 1, 1, 1, 1, 1, 0, 1] B19) (evCode P Γ call n f m (cAt [1, 1, 1, 1, 0, 0, 1, 1, 1, 1, 1, 1, 1, 1, 1, 0, 0] B19) s H) := at_seq (by kernel_rfl) rfl rfl s H
noncomputable def r19_89 : {l : List Oper // opsOf (cAt [1, 1, 1, 1, 0, 0, 1, 1, 1, 1, 1, 1, 1, 1, 1, 0, 0] B19) = l} := by
  apply Subtype.mk
  dsimp only [opsOf, cAt, kids, B19, bodyOf, Tryd.f19, List.getD, List.getElem?_cons_zero, List.getElem?_cons_succ, Option.getD_some]
@[simp] theorem n19_89 (s : List V) (H : Heap) : evCode P Γ call n f m (cAt [1, 1, 1, 1, 0, 0, 1, 1, 1, 1, 1, 1, 1, 1, 1, 0, 0] B19) s H = regNext (evOpsGo P Γ call r19_89.1 r19_89.1 s H) := at_region (by kernel_rfl) r19_89.2 s H
attribute [simp] r19_89
@[simp] theorem n19_90 (s : List V) (H : Heap) : evCode P Γ call n f m (cAt [1, 1, 1, 1, 0, 0, 1, 1, 1, 1, 1, 1, 1, 1, 1, 0, 1] B19) s H = some (.ret, s, H) := at_ret (by kernel_rfl) s H
@[simp] theorem n19_91 (s : List V) (H : Heap) : evCode P Γ call n f m (cAt [1, 1, 1, 1, 0, 0, 1, 1, 1, 1, 1, 1, 1, 1, 1, 1] B19) s H = seqNext P Γ call n f m (cAt [1, 1, 1, 1, 0, 0, 1, 1, 1, 1, 1, 1, 1, 1, 1, 1, 1] B19) (evCode P Γ call n f m (cAt [1, 1, 1, 1, 0, 0, 1, 1, 1, 1, 1, 1, 1, 1, 1, 1, 0] B19) s H) := at_seq (by kernel_rfl) rfl rfl s H
noncomputable def r19_92 : {l : List Oper // opsOf (cAt [1, 1, 1, 1, 0, 0, 1, 1, 1, 1, 1, 1, 1, 1, 1, 1, 0] B19) = l} := by
  apply Subtype.mk
  dsimp only [opsOf, cAt, kids, B19, bodyOf, Tryd.f19, List.getD, List.getElem?_cons_zero, List.getElem?_cons_succ, Option.getD_some]
@[simp] theorem n19_92 (s : List V) (H : Heap) : evCode P Γ call n f m (cAt [1, 1, 1, 1, 0, 0, 1, 1, 1, 1, 1, 1, 1, 1, 1, 1, 0] B19) s H = regNext (evOpsGo P Γ call r19_92.1 r19_92.1 s H) := at_region (by kernel_rfl) r19_92.2 s H
attribute [simp] r19_92
@[simp] theorem n19_93 (s : List V) (H : Heap) : evCode P Γ call n f m (cAt [1, 1, 1, 1, 0, 0, 1, 1, 1, 1, 1, 1, 1, 1, 1, 1, 1] B19) s H = condW P Γ call n f m (cAt [1, 1, 1, 1, 0, 0, 1, 1, 1, 1, 1, 1, 1, 1, 1, 1, 1, 0] B19) (cAt [1, 1, 1, 1, 0, 0, 1, 1, 1, 1, 1, 1, 1, 1, 1, 1, 1, 1] B19) s H (evOperand Γ s (.tmp 117)) := at_cond (by kernel_rfl) (by kernel_rfl) rfl rfl s H
@[simp] theorem n19_94 (s : List V) (H : Heap) : evCode P Γ call n f m (cAt [1, 1, 1, 1, 0, 0, 1, 1, 1, 1, 1, 1, 1, 1, 1, 1, 1, 0] B19) s H = seqNext P Γ call n f m (cAt [1, 1, 1, 1, 0, 0, 1, 1, 1, 1, 1, 1, 1, 1, 1, 1, 1, 0, 1] B19) (evCode P Γ call n f m (cAt [1, 1, 1, 1, 0, 0, 1, 1, 1, 1, 1, 1, 1, 1, 1, 1, 1, 0, 0] B19) s H) := at_seq (by kernel_rfl) rfl rfl s H
noncomputable def r19_95 : {l : List Oper // opsOf (cAt [1, 1, 1, 1, 0, 0, 1, 1, 1, 1, 1, 1, 1, 1, 1, 1, 1, 0, 0] B19) = l} := by
  apply Subtype.mk
  dsimp only [opsOf, cAt, kids, B19, bodyOf, Tryd.f19, List.getD, List.getElem?_cons_zero, List.getElem?_cons_succ, Option.getD_some]
@[simp] theorem n19_95 (s : List V) (H : Heap) : evCode P Γ call n f m (cAt [1, 1, 1, 1, 0, 0, 1, 1, 1, 1, 1, 1, 1, 1, 1, 1, 1, 0, 0] B19) s H = regNext (evOpsGo P Γ call r19_95.1 r19_95.1 s H) := at_region (by kernel_rfl) r19_95.2 s H
attribute [simp] r19_95
@[simp] theorem n19_96 (s : List V) (H : Heap) : evCode P Γ call n f m (cAt [1, 1, 1, 1, 0, 0, 1, 1, 1, 1, 1, 1, 1, 1, 1, 1, 1, 0, 1] B19) s H = some (.ret, s, H) := at_ret (by kernel_rfl) s H
@[simp] theorem n19_97 (s : List V) (H : Heap) : evCode P Γ call n f m (cAt [1, 1, 1, 1, 0, 0, 1, 1, 1, 1, 1, 1, 1, 1, 1, 1, 1, 1] B19) s H = seqNext P Γ call n f m (cAt [1, 1, 1, 1, 0, 0, 1, 1, 1, 1, 1, 1, 1, 1, 1, 1, 1, 1, 1] B19) (evCode P Γ call n f m (cAt [1, 1, 1, 1, 0, 0, 1, 1, 1, 1, 1, 1, 1, 1, 1, 1, 1, 1, 0] B19) s H) := at_seq (by kernel_rfl) rfl rfl s H
@[simp] theorem n19_98 (s : List V) (H : Heap) : evCode P Γ call n f m (cAt [1, 1, 1, 1, 0, 0, 1, 1, 1, 1, 1, 1, 1, 1, 1, 1, 1, 1, 0] B19) s H = seqNext P Γ call n f m (cAt [1, 1, 1, 1, 0, 0, 1, 1, 1, 1, 1, 1, 1, 1, 1, 1, 1, 1, 0, 1] B19) (evCode P Γ call n f m (cAt [1, 1, 1, 1, 0, 0, 1, 1, 1, 1, 1, 1, 1, 1, 1, 1, 1, 1, 0, 0] B19) s H) := at_seq (by kernel_rfl) rfl rfl s H
noncomputable def r19_99 : {l : List Oper // opsOf (cAt [1, 1, 1, 1, 0, 0, 1, 1, 1, 1, 1, 1, 1, 1, 1, 1, 1, 1, 0, 0] B19) = l} := by
  apply Subtype.mk
  dsimp only [opsOf, cAt, kids, B19, bodyOf, Tryd.f19, List.getD, List.getElem?_cons_zero, List.getElem?_cons_succ, Option.getD_some]
@[simp] theorem n19_99 (s : List V) (H : Heap) : evCode P Γ call n f m (cAt [1, 1, 1, 1, 0, 0, 1, 1, 1, 1, 1, 1, 1, 1, 1, 1, 1, 1, 0, 0] B19) s H = regNext (evOpsGo P Γ call r19_99.1 r19_99.1 s H) := at_region (by kernel_rfl) r19_99.2 s H
attribute [simp] r19_99
@[simp] theorem n19_100 (s : List V) (H : Heap) : evCode P Γ call n f m (cAt [1, 1, 1, 1, 0, 0, 1, 1, 1, 1, 1, 1, 1, 1, 1, 1, 1, 1, 0, 1] B19) s H = condW P Γ call n f m (cAt [1, 1, 1, 1, 0, 0, 1, 1, 1, 1, 1, 1, 1, 1, 1, 1, 1, 1, 0, 1, 0] B19) (cAt [1, 1, 1, 1, 0, 0, 1, 1, 1, 1, 1, 1, 1, 1, 1, 1, 1, 1, 0, 1, 1] B19) s H (evOperand Γ s (.tmp 126)) := at_cond (by kernel_rfl) (by kernel_rfl) rfl rfl s H
@[simp] theorem n19_101 (s : List V) (H : Heap) : evCode P Γ call n f m (cAt [1, 1, 1, 1, 0, 0, 1, 1, 1, 1, 1, 1, 1, 1, 1, 1, 1, 1, 0, 1, 0] B19) s H = some (.normal, s, H) := at_skip (by kernel_rfl) s H
noncomputable def r19_102 : {l : List Oper // opsOf (cAt [1, 1, 1, 1, 0, 0, 1, 1, 1, 1, 1, 1, 1, 1, 1, 1, 1, 1, 0, 1, 1] B19) = l} := by
  apply Subtype.mk
  dsimp only [opsOf, cAt, kids, B19, bodyOf, Tryd.f19, List.getD, List.getElem?_cons_zero, List.getElem?_cons_succ, Option.getD_some]
@[simp] theorem n19_102 (s : List V) (H : Heap) : evCode P Γ call n f m (cAt [1, 1, 1, 1, 0, 0, 1, 1, 1, 1, 1, 1, 1, 1, 1, 1, 1, 1, 0, 1, 1] B19) s H = regNext (evOpsGo P Γ call r19_102.1 r19_102.1 s H) := at_region (by kernel_rfl) r19_102.2 s H
attribute [simp] r19_102
@[simp] theorem n19_103 (s : List V) (H : Heap) : evCode P Γ call n f m (cAt [1, 1, 1, 1, 0, 0, 1, 1, 1, 1, 1, 1, 1, 1, 1, 1, 1, 1, 1] B19) s H = condW P Γ call n f m (cAt [1, 1, 1, 1, 0, 0, 1, 1, 1, 1, 1, 1, 1, 1, 1, 1, 1, 1, 1, 0] B19) (cAt [1, 1, 1, 1, 0, 0, 1, 1, 1, 1, 1, 1, 1, 1, 1, 1, 1, 1, 1, 1] B19) s H (evOperand Γ s (.tmp 126)) := at_cond (by kernel_rfl) (by kernel_rfl) rfl rfl s H
@[simp] theorem n19_104 (s : List V) (H : Heap) : evCode P Γ call n f m (cAt [1, 1, 1, 1, 0, 0, 1, 1, 1, 1, 1, 1, 1, 1, 1, 1, 1, 1, 1, 0] B19) s H = seqNext P Γ call n f m (cAt [1, 1, 1, 1, 0, 0, 1, 1, 1, 1, 1, 1, 1, 1, 1, 1, 1, 1, 1, 0, 1] B19) (evCode P Γ call n f m (cAt [1, 1, 1, 1, 0, 0, 1, 1, 1, 1, 1, 1, 1, 1, 1, 1, 1, 1, 1, 0, 0] B19) s H) := at_seq (by kernel_rfl) rfl rfl s H
noncomputable def r19_105 : {l : List Oper // opsOf (cAt [1, 1, 1, 1, 0, 0, 1, 1, 1, 1, 1, 1, 1, 1, 1, 1, 1, 1, 1, 0, 0] B19) = l} := by
  apply Subtype.mk
  dsimp only [opsOf, cAt, kids, B19, bodyOf, Tryd.f19, List.getD, List.getElem?_cons_zero, List.getElem?_cons_succ, Option.getD_some]
@[simp] theorem n19_105 (s : List V) (H : Heap) : evCode P Γ call n f m (cAt [1, 1, 1, 1, 0, 0, 1, 1, 1, 1, 1, 1, 1, 1, 1, 1, 1, 1, 1, 0, 0] B19) s H = regNext (evOpsGo P Γ call r19_105.1 r19_105.1 s H) := at_region (by kernel_rfl) r19_105.2 s H
attribute [simp] r19_105
@[simp] theorem n19_106 (s : List V) (H : Heap) : evCode P Γ call n f m (cAt [1, 1, 1, 1, 0, 0, 1, 1, 1, 1, 1, 1, 1, 1, 1, 1, 1, 1, 1, 0, 1] B19) s H = some (.ret, s, H) := at_ret (by kernel_rfl) s H
@[simp] theorem n19_107 (s : List V) (H : Heap) : evCode P Γ call n f m (cAt [1, 1, 1, 1, 0, 0, 1, 1, 1, 1, 1, 1, 1, 1, 1, 1, 1, 1, 1, 1] B19) s H = seqNext P Γ call n f m (cAt [1, 1, 1, 1, 0, 0, 1, 1, 1, 1, 1, 1, 1, 1, 1, 1, 1, 1, 1, 1, 1] B19) (evCode P Γ call n f m (cAt [1, 1, 1, 1, 0, 0, 1, 1, 1, 1, 1, 1, 1, 1, 1, 1, 1, 1, 1, 1, 0] B19) s H) := at_seq (by kernel_rfl) rfl rfl s H
noncomputable def r19_108 : {l : List Oper // opsOf (cAt [1, 1, 1, 1, 0, 0, 1, 1, 1, 1, 1, 1, 1, 1, 1, 1, 1, 1, 1, 1, 0] B19) = l} := by
  apply Subtype.mk
  dsimp only [opsOf, cAt, kids, B19, bodyOf, Tryd.f19, List.getD, List.getElem?_cons_zero, List.getElem?_cons_succ, Option.getD_some]
@[simp] theorem n19_108 (s : List V) (H : Heap) : evCode P Γ call n f m (cAt [1, 1, 1, 1, 0, 0, 1, 1, 1, 1, 1, 1, 1, 1, 1, 1, 1, 1, 1, 1, 0] B19) s H = regNext (evOpsGo P Γ call r19_108.1 r19_108.1 s H) := at_region (by kernel_rfl) r19_108.2 s H
attribute [simp] r19_108
@[simp] theorem n19_109 (s : List V) (H : Heap) : evCode P Γ call n f m (cAt [1, 1, 1, 1, 0, 0, 1, 1, 1, 1, 1, 1, 1, 1, 1, 1, 1, 1, 1, 1, 1] B19) s H = condW P Γ call n f m (cAt [1, 1, 1, 1, 0, 0, 1, 1, 1, 1, 1, 1, 1, 1, 1, 1, 1, 1, 1, 1, 1, 0] B19) (cAt [1, 1, 1, 1, 0, 0, 1, 1, 1, 1, 1, 1, 1, 1, 1, 1, 1, 1, 1, 1, 1, 1] B19) s H (evOperand Γ s (.tmp 140)) := at_cond (by kernel_rfl) (by kernel_rfl) rfl rfl s H
@[simp] theorem n19_110 (s : List V) (H : Heap) : evCode P Γ call n f m (cAt [1, 1, 1, 1, 0, 0, 1, 1, 1, 1, 1, 1, 1, 1, 1, 1, 1, 1, 1, 1, 1, 0] B19) s H = seqNext P Γ call n f m (cAt [1, 1, 1, 1, 0, 0, 1, 1, 1, 1, 1, 1, 1, 1, 1, 1, 1, 1, 1, 1, 1, 0, 1] B19) (evCode P Γ call n f m (cAt [1, 1, 1, 1, 0, 0, 1, 1, 1, 1, 1, 1, 1, 1, 1, 1, 1, 1, 1, 1, 1, 0, 0] B19) s H) := at_seq (by kernel_rfl) rfl rfl s H
noncomputable def r19_111 : {l : List Oper // opsOf (cAt [1, 1, 1, 1, 0, 0, 1, 1, 1, 1, 1, 1, 1, 1, 1, 1, 1, 1, 1, 1, 1, 0, 0] B19) = l} := by
  apply Subtype.mk
  dsimp only [opsOf, cAt, kids, B19, bodyOf, Tryd.f19, List.getD, List.getElem?_cons_zero, List.getElem?_cons_succ, Option.getD_some]
@[simp] theorem n19_111 (s : List V) (H : Heap) : evCode P Γ call n f m (cAt [1, 1, 1, 1, 0, 0, 1, 1, 1, 1, 1, 1, 1, 1, 1, 1, 1, 1, 1, 1, 1, 0, 0] B19) s H = regNext (evOpsGo P Γ call r19_111.1 r19_111.1 s H) := at_region (by kernel_rfl) r19_111.2 s H
attribute [simp] r19_111
@[simp] theorem n19_112 (s : List V) (H : Heap) : evCode P Γ call n f m (cAt [1, 1, 1, 1, 0, 0, 1, 1, 1, 1, 1, 1, 1, 1, 1, 1, 1, 1, 1, 1, 1, 0, 1] B19) s H = some (.ret, s, H) := at_ret (by kernel_rfl) s H
@[simp] theorem n19_113 (s : List V) (H : Heap) : evCode P Γ call n f m (cAt [1, 1, 1, 1, 0, 0, 1, 1, 1, 1, 1, 1, 1, 1, 1, 1, 1, 1, 1, 1, 1, 1] B19) s H = some (.normal, s, H) := at_skip (by kernel_rfl) s H
@[simp] theorem n19_114 (s : List V) (H : Heap) : evCode P Γ call n f m (cAt [1, 1, 1, 1, 1] B19) s H = seqNext P Γ call n f m (cAt [1, 1, 1, 1, 1, 1] B19) (evCode P Γ call n f m (cAt [1, 1, 1, 1, 1, 0] B19) s H) := at_seq (by kernel_rfl) rfl rfl s H
noncomputable def r19_115 : {l : List Oper // opsOf (cAt [1, 1, 1, 1, 1, 0] B19) = l} := by
  apply Subtype.mk
  dsimp only [opsOf, cAt, kids, B19, bodyOf, Tryd.f19, List.getD, List.getElem?_cons_zero, List.getElem?_cons_succ, Option.getD_some]
@[simp] theorem n19_115 (s : List V) (H : Heap) : evCode P Γ call n f m (cAt [1, 1, 1, 1, 1, 0] B19) s H = regNext (evOpsGo P Γ call r19_115.1 r19_115.1 s H) := at_region (by kernel_rfl) r19_115.2 s H
attribute [simp] r19_115
@[simp] theorem n19_116 (s : List V) (H : Heap) : evCode P Γ call n f m (cAt [1, 1, 1, 1, 1, 1] B19) s H = some (.ret, s, H) := at_ret (by kernel_rfl) s H
theorem b19 {k : Nat} (ho : ∀ args H, Γ.orc 19 args H = none) (args : List V) (H : Heap) (ha : args.length ≤ 151) : evF Tryd.prog Γ (k + 1) 19 args H = bodyEnd Tryd.prog [.tmp 4] H.length (evCode Tryd.prog Γ (evF Tryd.prog Γ k) k 19 H.length (cAt [] B19) (mkL 151 V.undef (enumV 0 args)) H) := body_at Tryd.func19 (by decide) rfl ho rfl rfl args H ha
noncomputable def B20 : Code := bodyOf Tryd.f20
@[simp] theorem n20_1 (s : List V) (H : Heap) : evCode P Γ call n f m (cAt [] B20) s H = seqNext P Γ call n f m (cAt [1] B20) (evCode P Γ call n f m (cAt [0] B20) s H) := at_seq (by kernel_rfl) rfl rfl s H
noncomputable def r20_2 : {l : List Oper // opsOf (cAt [0] B20) = l} := by
  apply Subtype.mk
  dsimp only [opsOf, cAt, kids, B20, bodyOf, Tryd.f20, List.getD, List.getElem?_cons_zero, List.getElem?_cons_succ, Option.getD_some]
@[simp] theorem n20_2 (s : List V) (H : Heap) : evCode P Γ call n f m (cAt [0] B20) s H = regNext (evOpsGo P Γ call r20_2.1 r20_2.1 s H) := at_region (by kernel_rfl) r20_2.2 s H
attribute [simp] r20_2
@[simp] theorem n20_3 (s : List V) (H : Heap) : evCode P Γ call n f m (cAt [1] B20) s H = seqNext P Γ call n f m (cAt [1, 1] B20) (evCode P Γ call n f m (cAt [1, 0] B20) s H) := at_seq (by kernel_rfl) rfl rfl s H
@[simp] theorem n20_4 (s : List V) (H : Heap) : evCode P Γ call n f m (cAt [1, 0] B20) s H = seqNext P Γ call n f m (cAt [1, 0, 1] B20) (evCode P Γ call n f m (cAt [1, 0, 0] B20) s H) := at_seq (by kernel_rfl) rfl rfl s H
noncomputable def r20_5 : {l : List Oper // opsOf (cAt [1, 0, 0] B20) = l} := by
  apply Subtype.mk
  dsimp only [opsOf, cAt, kids, B20, bodyOf, Tryd.f20, List.getD, List.getElem?_cons_zero, List.getElem?_cons_succ, Option.getD_some]
@[simp] theorem n20_5 (s : List V) (H : Heap) : evCode P Γ call n f m (cAt [1, 0, 0] B20) s H = regNext (evOpsGo P Γ call r20_5.1 r20_5.1 s H) := at_region (by kernel_rfl) r20_5.2 s H
attribute [simp] r20_5
@[simp] theorem n20_6 (s : List V) (H : Heap) : evCode P Γ call n f m (cAt [1, 0, 1] B20) s H = condW P Γ call n f m (cAt [1, 0, 1, 0] B20) (cAt [1, 0, 1, 1] B20) s H (evOperand Γ s (.tmp 10)) := at_cond (by kernel_rfl) (by kernel_rfl) rfl rfl s H
@[simp] theorem n20_7 (s : List V) (H : Heap) : evCode P Γ call n f m (cAt [1, 0, 1, 0] B20) s H = seqNext P Γ call n f m (cAt [1, 0, 1, 0, 1] B20) (evCode P Γ call n f m (cAt [1, 0, 1, 0, 0] B20) s H) := at_seq (by kernel_rfl) rfl rfl s H
noncomputable def r20_8 : {l : List Oper // opsOf (cAt [1, 0, 1, 0, 0] B20) = l} := by
  apply Subtype.mk
  dsimp only [opsOf, cAt, kids, B20, bodyOf, Tryd.f20, List.getD, List.getElem?_cons_zero, List.getElem?_cons_succ, Option.getD_some]
@[simp] theorem n20_8 (s : List V) (H : Heap) : evCode P Γ call n f m (cAt [1, 0, 1, 0, 0] B20) s H = regNext (evOpsGo P Γ call r20_8.1 r20_8.1 s H) := at_region (by kernel_rfl) r20_8.2 s H
attribute [simp] r20_8
@[simp] theorem n20_9 (s : List V) (H : Heap) : evCode P Γ call n f m (cAt [1, 0, 1, 0, 1] B20) s H = some (.ret, s, H) := at_ret (by kernel_rfl) s H
@[simp] theorem n20_10 (s : List V) (H : Heap) : evCode P Γ call n f m (cAt [1, 0, 1, 1] B20) s H = some (.normal, s, H) := at_skip (by kernel_rfl) s H
@[simp] theorem n20_11 (s : List V) (H : Heap) : evCode P Γ call n f m (cAt [1, 1] B20) s H = seqNext P Γ call n f m (cAt [1, 1, 1] B20) (evCode P Γ call n f m (cAt [1, 1, 0] B20) s H) := at_seq (by kernel_rfl) rfl rfl s H
@[simp] theorem n20_12 (s : List V) (H : Heap) : evCode P Γ call n f m (cAt [1, 1, 0] B20) s H = seqNext P Γ call n f m (cAt [1, 1, 0, 1] B20) (evCode P Γ call n f m (cAt [1, 1, 0, 0] B20) s H) := at_seq (by kernel_rfl) rfl rfl s H
noncomputable def r20_13 : {l : List Oper // opsOf (cAt [1, 1, 0, 0] B20) = l} := by
  apply Subtype.mk
  dsimp only [opsOf, cAt, kids, B20, bodyOf, Tryd.f20, List.getD, List.getElem?_cons_zero, List.getElem?_cons_succ, Option.getD_some]
@[simp] theorem n20_13 (s : List V) (H : Heap) : evCode P Γ call n f m (cAt [1, 1, 0, 0] B20) s H = regNext (evOpsGo P Γ call r20_13.1 r20_13.1 s H) := at_region (by kernel_rfl) r20_13.2 s H
attribute [simp] r20_13
@[simp] theorem n20_14 (s : List V) (H : Heap) : evCode P Γ call n f m (cAt [1, 1, 0, 1] B20) s H = blockNext 0 (evCode P Γ call n f m (cAt [1, 1, 0, 1, 0] B20) s H) := at_block (by kernel_rfl) rfl s H
@[simp] theorem n20_15 (s : List V) (H : Heap) : evCode P Γ call n f m (cAt [1, 1, 0, 1, 0] B20) s H = evLoopC P Γ call n f m (cAt [1, 1, 0, 1, 0, 0] B20) n s H := at_loop (by kernel_rfl) rfl s H
noncomputable abbrev L20_4 : Code := cAt [1, 1, 0, 1, 0, 0] B20
@[simp] theorem n20_15f : firstRegion (cAt [1, 1, 0, 1, 0, 0] B20) = 4 := by kernel_rfl
@[simp] theorem n20_16 (s : List V) (H : Heap) : evCode P Γ call n f m (cAt [1, 1, 0, 1, 0, 0] B20) s H = seqNext P Γ call n f m (cAt [1, 1, 0, 1, 0, 0, 1] B20) (evCode P Γ call n f m (cAt [1, 1, 0, 1, 0, 0, 0] B20) s H) := at_seq (by kernel_rfl) rfl rfl s H
noncomputable def r20_17 : {l : List Oper // opsOf (cAt [1, 1, 0, 1, 0, 0, 0] B20) = l} := by
  apply Subtype.mk
  dsimp only [opsOf, cAt, kids, B20, bodyOf, Tryd.f20, List.getD, List.getElem?_cons_zero, List.getElem?_cons_succ, Option.getD_some]
@[simp] theorem n20_17 (s : List V) (H : Heap) : evCode P Γ call n f m (cAt [1, 1, 0, 1, 0, 0, 0] B20) s H = regNext (evOpsGo P Γ call r20_17.1 r20_17.1 s H) := at_region (by kernel_rfl) r20_17.2 s H
attribute [simp] r20_17
@[simp] theorem n20_18 (s : List V) (H : Heap) : evCode P Γ call n f m (cAt [1, 1, 0, 1, 0, 0, 1] B20) s H = seqNext P Γ call n f m (cAt [1, 1, 0, 1, 0, 0, 1, 1] B20) (evCode P Γ call n f m (cAt [1, 1, 0, 1, 0, 0, 1, 0] B20) s H) := at_seq (by kernel_rfl) rfl rfl s H
@[simp] theorem n20_19 (s : List V) (H : Heap) : evCode P Γ call n f m (cAt [1, 1, 0, 1, 0, 0, 1, 0] B20) s H = condW P Γ call n f m (cAt [1, 1, 0, 1, 0, 0, 1, 0, 0] B20) (cAt [1, 1, 0, 1, 0, 0, 1, 0, 1] B20) s H (evOperand Γ s (.tmp 14)) := at_cond (by kernel_rfl) (by kernel_rfl) rfl rfl s H
@[simp] theorem n20_20 (s : List V) (H : Heap) : evCode P Γ call n f m (cAt [1, 1, 0, 1, 0, 0, 1, 0, 0] B20) s H = some (.normal, s, H) := at_skip (by kernel_rfl) s H
@[simp] theorem n20_21 (s : List V) (H : Heap) : evCode P Γ call n f m (cAt [1, 1, 0, 1, 0, 0, 1, 0, 1] B20) s H = some (.exit 0, s, H) := at_exit (by kernel_rfl) s H
@[simp] theorem n20_22 (s : List V) (H : Heap) : evCode P Γ call n f m (cAt [1, 1, 0, 1, 0, 0, 1, 1] B20) s H = seqNext P Γ call n f m (cAt [1, 1, 0, 1, 0, 0, 1, 1, 1] B20) (evCode P Γ call n f m (cAt [1, 1, 0, 1, 0, 0, 1, 1, 0] B20) s H) := at_seq (by kernel_rfl) rfl rfl s H
@[simp] theorem n20_23 (s : List V) (H : Heap) : evCode P Γ call n f m (cAt [1, 1, 0, 1, 0, 0, 1, 1, 0] B20) s H = blockNext 1 (evCode P Γ call n f m (cAt [1, 1, 0, 1, 0, 0, 1, 1, 0, 0] B20) s H) := at_block (by kernel_rfl) rfl s H
@[simp] theorem n20_24 (s : List V) (H : Heap) : evCode P Γ call n f m (cAt [1, 1, 0, 1, 0, 0, 1, 1, 0, 0] B20) s H = seqNext P Γ call n f m (cAt [1, 1, 0, 1, 0, 0, 1, 1, 0, 0, 1] B20) (evCode P Γ call n f m (cAt [1, 1, 0, 1, 0, 0, 1, 1, 0, 0, 0] B20) s H) := at_seq (by kernel_rfl) rfl rfl s H
noncomputable def r20_25 : {l : List Oper // opsOf (cAt [1, 1, 0, 1, 0, 0, 1, 1, 0, 0, 0] B20) = l} := by
  apply Subtype.mk
  dsimp only [opsOf, cAt, kids, B20, bodyOf, Tryd.f20, List.getD, List.getElem?_cons_zero, List.getElem?_cons_succ, Option.getD_some]
@[simp] theorem n20_25 (s : List V) (H : Heap) : evCode P Γ call n f m (cAt [1, 1, 0, 1, 0, 0, 1, 1, 0, 0, 0] B20) s H = regNext (evOpsGo P Γ call r20_25.1 r20_25.1 s H) := at_region (by kernel_rfl) r20_25.2 s H
attribute [simp] r20_25
@[simp] theorem n20_26 (s : List V) (H : Heap) : evCode P Γ call n f m (cAt [1, 1, 0, 1, 0, 0, 1, 1, 0, 0, 1] B20) s H = seqNext P Γ call n f m (cAt [1, 1, 0, 1, 0, 0, 1, 1, 0, 0, 1, 1] B20) (evCode P Γ call n f m (cAt [1, 1, 0, 1, 0, 0, 1, 1, 0, 0, 1, 0] B20) s H) := at_seq (by kernel_rfl) rfl rfl s H
noncomputable def r20_27 : {l : List Oper // opsOf (cAt [1, 1, 0, 1, 0, 0, 1, 1, 0, 0, 1, 0] B20) = l} := by
  apply Subtype.mk
  dsimp only [opsOf, cAt, kids, B20, bodyOf, Tryd.f20, List.getD, List.getElem?_cons_zero, List.getElem?_cons_succ, Option.getD_some]
@[simp] theorem n20_27 (s : List V) (H : Heap) : evCode P Γ call n f m (cAt [1, 1, 0, 1, 0, 0, 1, 1, 0, 0, 1, 0] B20) s H = regNext (drawR P Γ call r20_27.1 [([1, 4, 5, 6, 7], [17, 20, 21, 22, 23]), ([0, 4, 5, 6, 7], [16, 20, 21, 22, 23]), ([4, 5, 6, 7], [20, 21, 22, 23]), ([4, 5, 6, 7], [20, 21, 22, 23]), ([0, 1, 2, 3, 5], [16, 17, 18, 19, 21]), ([0, 1, 2, 3, 4], [16, 17, 18, 19, 20]), ([0, 1, 2, 3], [16, 17, 18, 19]), ([0, 1, 2, 3], [16, 17, 18, 19]), ([], [])] s H) := at_drawT (by kernel_rfl) r20_27.2 (by kernel_rfl) s H
attribute [simp] r20_27
@[simp] theorem n20_28 (s : List V) (H : Heap) : evCode P Γ call n f m (cAt [1, 1, 0, 1, 0, 0, 1, 1, 0, 0, 1, 1] B20) s H = condW P Γ call n f m (cAt [1, 1, 0, 1, 0, 0, 1, 1, 0, 0, 1, 1, 0] B20) (cAt [1, 1, 0, 1, 0, 0, 1, 1, 0, 0, 1, 1, 1] B20) s H (evOperand Γ s (.tmp 24)) := at_cond (by kernel_rfl) (by kernel_rfl) rfl rfl s H
@[simp] theorem n20_29 (s : List V) (H : Heap) : evCode P Γ call n f m (cAt [1, 1, 0, 1, 0, 0, 1, 1, 0, 0, 1, 1, 0] B20) s H = seqNext P Γ call n f m (cAt [1, 1, 0, 1, 0, 0, 1, 1, 0, 0, 1, 1, 0, 1] B20) (evCode P Γ call n f m (cAt [1, 1, 0, 1, 0, 0, 1, 1, 0, 0, 1, 1, 0, 0] B20) s H) := at_seq (by kernel_rfl) rfl rfl s H
noncomputable def r20_30 : {l : List Oper // opsOf (cAt [1, 1, 0, 1, 0, 0, 1, 1, 0, 0, 1, 1, 0, 0] B20) = l} := by
  apply Subtype.mk
  dsimp only [opsOf, cAt, kids, B20, bodyOf, Tryd.f20, List.getD, List.getElem?_cons_zero, List.getElem?_cons_succ, Option.getD_some]
@[simp] theorem n20_30 (s : List V) (H : Heap) : evCode P Γ call n f m (cAt [1, 1, 0, 1, 0, 0, 1, 1, 0, 0, 1, 1, 0, 0] B20) s H = regNext (evOpsGo P Γ call r20_30.1 r20_30.1 s H) := at_region (by kernel_rfl) r20_30.2 s H
attribute [simp] r20_30
@[simp] theorem n20_31 (s : List V) (H : Heap) : evCode P Γ call n f m (cAt [1, 1, 0, 1, 0, 0, 1, 1, 0, 0, 1, 1, 0, 1] B20) s H = some (.ret, s, H) := at_ret (by kernel_rfl) s H
@[simp] theorem n20_32 (s : List V) (H : Heap) : evCode P Γ call n f m (cAt [1, 1, 0, 1, 0, 0, 1, 1, 0, 0, 1, 1, 1] B20) s H = some (.normal, s, H) := at_skip (by kernel_rfl) s H
noncomputable def r20_33 : {l : List Oper // opsOf (cAt [1, 1, 0, 1, 0, 0, 1, 1, 1] B20) = l} := by
  apply Subtype.mk
  dsimp only [opsOf, cAt, kids, B20, bodyOf, Tryd.f20, List.getD, List.getElem?_cons_zero, List.getElem?_cons_succ, Option.getD_some]
@[simp] theorem n20_33 (s : List V) (H : Heap) : evCode P Γ call n f m (cAt [1, 1, 0, 1, 0, 0, 1, 1, 1] B20) s H = regNext (evOpsGo P Γ call r20_33.1 r20_33.1 s H) := at_region (by kernel_rfl) r20_33.2 s H
attribute [simp] r20_33
@[simp] theorem n20_34 (s : List V) (H : Heap) : evCode P Γ call n f m (cAt [1, 1, 1] B20) s H = seqNext P Γ call n f m (cAt [1, 1, 1, 1] B20) (evCode P Γ call n f m (cAt [1, 1, 1, 0] B20) s H) := at_seq (by kernel_rfl) rfl rfl s H
noncomputable def r20_35 : {l : List Oper // opsOf (cAt [1, 1, 1, 0] B20) = l} := by
  apply Subtype.mk
  dsimp only [opsOf, cAt, kids, B20, bodyOf, Tryd.f20, List.getD, List.getElem?_cons_zero, List.getElem?_cons_succ, Option.getD_some]
@[simp] theorem n20_35 (s : List V) (H : Heap) : evCode P Γ call n f m (cAt [1, 1, 1, 0] B20) s H = regNext (evOpsGo P Γ call r20_35.1 r20_35.1 s H) := at_region (by kernel_rfl) r20_35.2 s H
attribute [simp] r20_35
@[simp] theorem n20_36 (s : List V) (H : Heap) : evCode P Γ call n f m (cAt [1, 1, 1, 1] B20) s H = some (.ret, s, H) := at_ret (by kernel_rfl) s H
theorem b20 {k : Nat} (ho : ∀ args H, Γ.orc 20 args H = none) (args : List V) (H : Heap) (ha : args.length ≤ 26) : evF Tryd.prog Γ (k + 1) 20 args H = bodyEnd Tryd.prog [.tmp 4] H.length (evCode Tryd.prog Γ (evF Tryd.prog Γ k) k 20 H.length (cAt [] B20) (mkL 26 V.undef (enumV 0 args)) H) := body_at Tryd.func20 (by decide) rfl ho rfl rfl args H ha
noncomputable def B21 : Code := bodyOf Tryd.f21
@[simp] theorem n21_1 (s : List V) (H : Heap) : evCode P Γ call n f m (cAt [] B21) s H = seqNext P Γ call n f m (cAt [1] B21) (evCode P Γ call n f m (cAt [0] B21) s H) := at_seq (by kernel_rfl) rfl rfl s H
noncomputable def r21_2 : {l : List Oper // opsOf (cAt [0] B21) = l} := by
  apply Subtype.mk
  dsimp only [opsOf, cAt, kids, B21, bodyOf, Tryd.f21, List.getD, List.getElem?_cons_zero, List.getElem?_cons_succ, Option.getD_some]
@[simp] theorem n21_2 (s : List V) (H : Heap) : evCode P Γ call n f m (cAt [0] B21) s H = regNext (evOpsGo P Γ call r21_2.1 r21_2.1 s H) := at_region (by kernel_rfl) r21_2.2 s H
attribute [simp] r21_2
@[simp] theorem n21_3 (s : List V) (H : Heap) : evCode P Γ call n f m (cAt [1] B21) s H = seqNext P Γ call n f m (cAt [1, 1] B21) (evCode P Γ call n f m (cAt [1, 0] B21) s H) := at_seq (by kernel_rfl) rfl rfl s H
@[simp] theorem n21_4 (s : List V) (H : Heap) : evCode P Γ call n f m (cAt [1, 0] B21) s H = seqNext P Γ call n f m (cAt [1, 0, 1] B21) (evCode P Γ call n f m (cAt [1, 0, 0] B21) s H) := at_seq (by kernel_rfl) rfl rfl s H
noncomputable def r21_5 : {l : List Oper // opsOf (cAt [1, 0, 0] B21) = l} := by
  apply Subtype.mk
  dsimp only [opsOf, cAt, kids, B21, bodyOf, Tryd.f21, List.getD, List.getElem?_cons_zero, List.getElem?_cons_succ, Option.getD_some]
@[simp] theorem n21_5 (s : List V) (H : Heap) : evCode P Γ call n f m (cAt [1, 0, 0] B21) s H = regNext (evOpsGo P Γ call r21_5.1 r21_5.1 s H) := at_region (by kernel_rfl) r21_5.2 s H
attribute [simp] r21_5
@[simp] theorem n21_6 (s : List V) (H : Heap) : evCode P Γ call n f m (cAt [1, 0, 1] B21) s H = condW P Γ call n f m (cAt [1, 0, 1, 0] B21) (cAt [1, 0, 1, 1] B21) s H (evOperand Γ s (.tmp 10)) := at_cond (by kernel_rfl) (by kernel_rfl) rfl rfl s H
@[simp] theorem n21_7 (s : List V) (H : Heap) : evCode P Γ call n f m (cAt [1, 0, 1, 0] B21) s H = seqNext P Γ call n f m (cAt [1, 0, 1, 0, 1] B21) (evCode P Γ call n f m (cAt [1, 0, 1, 0, 0] B21) s H) := at_seq (by kernel_rfl) rfl rfl s H
noncomputable def r21_8 : {l : List Oper // opsOf (cAt [1, 0, 1, 0, 0] B21) = l} := by
  apply Subtype.mk
  dsimp only [opsOf, cAt, kids, B21, bodyOf, Tryd.f21, List.getD, List.getElem?_cons_zero, List.getElem?_cons_succ, Option.getD_some]
@[simp] theorem n21_8 (s : List V) (H : Heap) : evCode P Γ call n f m (cAt [1, 0, 1, 0, 0] B21) s H = regNext (evOpsGo P Γ call r21_8.1 r21_8.1 s H) := at_region (by kernel_rfl) r21_8.2 s H
attribute [simp] r21_8
@[simp] theorem n21_9 (s : List V) (H : Heap) : evCode P Γ call n f m (cAt [1, 0, 1, 0, 1] B21) s H = some (.ret, s, H) := at_ret (by kernel_rfl) s H
@[simp] theorem n21_10 (s : List V) (H : Heap) : evCode P Γ call n f m (cAt [1, 0, 1, 1] B21) s H = some (.normal, s, H) := at_skip (by kernel_rfl) s H
@[simp] theorem n21_11 (s : List V) (H : Heap) : evCode P Γ call n f m (cAt [1, 1] B21) s H = seqNext P Γ call n f m (cAt [1, 1, 1] B21) (evCode P Γ call n f m (cAt [1, 1, 0] B21) s H) := at_seq (by kernel_rfl) rfl rfl s H
@[simp] theorem n21_12 (s : List V) (H : Heap) : evCode P Γ call n f m (cAt [1, 1, 0] B21) s H = seqNext P Γ call n f m (cAt [1, 1, 0, 1] B21) (evCode P Γ call n f m (cAt [1, 1, 0, 0] B21) s H) := at_seq (by kernel_rfl) rfl rfl s H
noncomputable def r21_13 : {l : List Oper // opsOf (cAt [1, 1, 0, 0] B21) = l} := by
  apply Subtype.mk
  dsimp only [opsOf, cAt, kids, B21, bodyOf, Tryd.f21, List.getD, List.getElem?_cons_zero, List.getElem?_cons_succ, Option.getD_some]
@[simp] theorem n21_13 (s : List V) (H : Heap) : evCode P Γ call n f m (cAt [1, 1, 0, 0] B21) s H = regNext (evOpsGo P Γ call r21_13.1 r21_13.1 s H) := at_region (by kernel_rfl) r21_13.2 s H
attribute [simp] r21_13
@[simp] theorem n21_14 (s : List V) (H : Heap) : evCode P Γ call n f m (cAt [1, 1, 0, 1] B21) s H = blockNext 0 (evCode P Γ call n f m (cAt [1, 1, 0, 1, 0] B21) s H) := at_block (by kernel_rfl) rfl s H
@[simp] theorem n21_15 (s : List V) (H : Heap) : evCode P Γ call n f m (cAt [1, 1, 0, 1, 0] B21) s H = evLoopC P Γ call n f m (cAt [1, 1, 0, 1, 0, 0] B21) n s H := at_loop (by kernel_rfl) rfl s H
noncomputable abbrev L21_4 : Code := cAt [1, 1, 0, 1, 0, 0] B21
@[simp] theorem n21_15f : firstRegion (cAt [1, 1, 0, 1, 0, 0] B21) = 4 := by kernel_rfl
@[simp] theorem n21_16 (s : List V) (H : Heap) : evCode P Γ call n f m (cAt [1, 1, 0, 1, 0, 0] B21) s H = seqNext P Γ call n f m (cAt [1, 1, 0, 1, 0, 0, 1] B21) (evCode P Γ call n f m (cAt [1, 1, 0, 1, 0, 0, 0] B21) s H) := at_seq (by kernel_rfl) rfl rfl s H
noncomputable def r21_17 : {l : List Oper // opsOf (cAt [1, 1, 0, 1, 0, 0, 0] B21) = l} := by
  apply Subtype.mk
  dsimp only [opsOf, cAt, kids, B21, bodyOf, Tryd.f21, List.getD, List.getElem?_cons_zero, List.getElem?_cons_succ, Option.getD_some]
@[simp] theorem n21_17 (s : List V) (H : Heap) : evCode P Γ call n f m (cAt [1, 1, 0, 1, 0, 0, 0] B21) s H = regNext (evOpsGo P Γ call r21_17.1 r21_17.1 s H) := at_region (by kernel_rfl) r21_17.2 s H
attribute [simp] r21_17
@[simp] theorem n21_18 (s : List V) (H : Heap) : evCode P Γ call n f m (cAt [1, 1, 0, 1, 0, 0, 1] B21) s H = seqNext P Γ call n f m (cAt [1, 1, 0, 1, 0, 0, 1, 1] B21) (evCode P Γ call n f m (cAt [1, 1, 0, 1, 0, 0, 1, 0] B21) s H) := at_seq (by kernel_rfl) rfl rfl s H
@[simp] theorem n21_19 (s : List V) (H : Heap) : evCode P Γ call n f m (cAt [1, 1, 0, 1, 0, 0, 1, 0] B21) s H = condW P Γ call n f m (cAt [1, 1, 0, 1, 0, 0, 1, 0, 0] B21) (cAt [1, 1, 0, 1, 0, 0, 1, 0, 1] B21) s H (evOperand Γ s (.tmp 14)) := at_cond (by kernel_rfl) (by kernel_rfl) rfl rfl s H
@[simp] theorem n21_20 (s : List V) (H : Heap) : evCode P Γ call n f m (cAt [1, 1, 0, 1, 0, 0, 1, 0, 0] B21) s H = some (.normal, s, H) := at_skip (by kernel_rfl) s H
@[simp] theorem n21_21 (s : List V) (H : Heap) : evCode P Γ call n f m (cAt [1, 1, 0, 1, 0, 0, 1, 0, 1] B21) s H = some (.exit 0, s, H) := at_exit (by kernel_rfl) s H
@[simp] theorem n21_22 (s : List V) (H : Heap) : evCode P Γ call n f m (cAt [1, 1, 0, 1, 0, 0, 1, 1] B21) s H = seqNext P Γ call n f m (cAt [1, 1, 0, 1, 0, 0, 1, 1, 1] B21) (evCode P Γ call n f m (cAt [1, 1, 0, 1, 0, 0, 1, 1, 0] B21) s H) := at_seq (by kernel_rfl) rfl rfl s H
@[simp] theorem n21_23 (s : List V) (H : Heap) : evCode P Γ call n f m (cAt [1, 1, 0, 1, 0, 0, 1, 1, 0] B21) s H = blockNext 1 (evCode P Γ call n f m (cAt [1, 1, 0, 1, 0, 0, 1, 1, 0, 0] B21) s H) := at_block (by kernel_rfl) rfl s H
@[simp] theorem n21_24 (s : List V) (H : Heap) : evCode P Γ call n f m (cAt [1, 1, 0, 1, 0, 0, 1, 1, 0, 0] B21) s H = seqNext P Γ call n f m (cAt [1, 1, 0, 1, 0, 0, 1, 1, 0, 0, 1] B21) (evCode P Γ call n f m (cAt [1, 1, 0, 1, 0, 0, 1, 1, 0, 0, 0] B21) s H) := at_seq (by kernel_rfl) rfl rfl s H
noncomputable def r21_25 : {l : List Oper // opsOf (cAt [1, 1, 0, 1, 0, 0, 1, 1, 0, 0, 0] B21) = l} := by
  apply Subtype.mk
  dsimp only [opsOf, cAt, kids, B21, bodyOf, Tryd.f21, List.getD, List.getElem?_cons_zero, List.getElem?_cons_succ, Option.getD_some]
@[simp] theorem n21_25 (s : List V) (H : Heap) : evCode P Γ call n f m (cAt [1, 1, 0, 1, 0, 0, 1, 1, 0, 0, 0] B21) s H = regNext (evOpsGo P Γ call r21_25.1 r21_25.1 s H) := at_region (by kernel_rfl) r21_25.2 s H
attribute [simp] r21_25
@[simp] theorem n21_26 (s : List V) (H : Heap) : evCode P Γ call n f m (cAt [1, 1, 0, 1, 0, 0, 1, 1, 0, 0, 1] B21) s H = seqNext P Γ call n f m (cAt [1, 1, 0, 1, 0, 0, 1, 1, 0, 0, 1, 1] B21) (evCode P Γ call n f m (cAt [1, 1, 0, 1, 0, 0, 1, 1, 0, 0, 1, 0] B21) s H) := at_seq (by kernel_rfl) rfl rfl s H
noncomputable def r21_27 : {l : List Oper // opsOf (cAt [1, 1, 0, 1, 0, 0, 1, 1, 0, 0, 1, 0] B21) = l} := by
  apply Subtype.mk
  dsimp only [opsOf, cAt, kids, B21, bodyOf, Tryd.f21, List.getD, List.getElem?_cons_zero, List.getElem?_cons_succ, Option.getD_some]
@[simp] theorem n21_27 (s : List V) (H : Heap) : evCode P Γ call n f m (cAt [1, 1, 0, 1, 0, 0, 1, 1, 0, 0, 1, 0] B21) s H = regNext (drawR P Γ call r21_27.1 [([1, 4, 5, 6, 7], [17, 20, 21, 22, 23]), ([0, 4, 5, 6, 7], [16, 20, 21, 22, 23]), ([4, 5, 6, 7], [20, 21, 22, 23]), ([4, 5, 6, 7], [20, 21, 22, 23]), ([0, 1, 2, 3, 5], [16, 17, 18, 19, 21]), ([0, 1, 2, 3, 4], [16, 17, 18, 19, 20]), ([0, 1, 2, 3], [16, 17, 18, 19]), ([0, 1, 2, 3], [16, 17, 18, 19]), ([], [])] s H) := at_drawT (by kernel_rfl) r21_27.2 (by kernel_rfl) s H
attribute [simp] r21_27
@[simp] theorem n21_28 (s : List V) (H : Heap) : evCode P Γ call n f m (cAt [1, 1, 0, 1, 0, 0, 1, 1, 0, 0, 1, 1] B21) s H = condW P Γ call n f m (cAt [1, 1, 0, 1, 0, 0, 1, 1, 0, 0, 1, 1, 0] B21) (cAt [1, 1, 0, 1, 0, 0, 1, 1, 0, 0, 1, 1, 1] B21) s H (evOperand Γ s (.tmp 24)) := at_cond (by kernel_rfl) (by kernel_rfl) rfl rfl s H
@[simp] theorem n21_29 (s : List V) (H : Heap) : evCode P Γ call n f m (cAt [1, 1, 0, 1, 0, 0, 1, 1, 0, 0, 1, 1, 0] B21) s H = seqNext P Γ call n f m (cAt [1, 1, 0, 1, 0, 0, 1, 1, 0, 0, 1, 1, 0, 1] B21) (evCode P Γ call n f m (cAt [1, 1, 0, 1, 0, 0, 1, 1, 0, 0, 1, 1, 0, 0] B21) s H) := at_seq (by kernel_rfl) rfl rfl s H
noncomputable def r21_30 : {l : List Oper // opsOf (cAt [1, 1, 0, 1, 0, 0, 1, 1, 0, 0, 1, 1, 0, 0] B21) = l} := by
  apply Subtype.mk
  dsimp only [opsOf, cAt, kids, B21, bodyOf, Tryd.f21, List.getD, List.getElem?_cons_zero, List.getElem?_cons_succ, Option.getD_some]
@[simp] theorem n21_30 (s : List V) (H : Heap) : evCode P Γ call n f m (cAt [1, 1, 0, 1, 0, 0, 1, 1, 0, 0, 1, 1, 0, 0] B21) s H = regNext (evOpsGo P Γ call r21_30.1 r21_30.1 s H) := at_region (by kernel_rfl) r21_30.2 s H
attribute [simp] r21_30
@[simp] theorem n21_31 (s : List V) (H : Heap) : evCode P Γ call n f m (cAt [1, 1, 0, 1, 0, 0, 1, 1, 0, 0, 1, 1, 0, 1] B21) s H = some (.ret, s, H) := at_ret (by kernel_rfl) s H
@[simp] theorem n21_32 (s : List V) (H : Heap) : evCode P Γ call n f m (cAt [1, 1, 0, 1, 0, 0, 1, 1, 0, 0, 1, 1, 1] B21) s H = some (.normal, s, H) := at_skip (by kernel_rfl) s H
noncomputable def r21_33 : {l : List Oper // opsOf (cAt [1, 1, 0, 1, 0, 0, 1, 1, 1] B21) = l} := by
  apply Subtype.mk
  dsimp only [opsOf, cAt, kids, B21, bodyOf, Tryd.f21, List.getD, List.getElem?_cons_zero, List.getElem?_cons_succ, Option.getD_some]
@[simp] theorem n21_33 (s : List V) (H : Heap) : evCode P Γ call n f m (cAt [1, 1, 0, 1, 0, 0, 1, 1, 1] B21) s H = regNext (evOpsGo P Γ call r21_33.1 r21_33.1 s H) := at_region (by kernel_rfl) r21_33.2 s H
attribute [simp] r21_33
@[simp] theorem n21_34 (s : List V) (H : Heap) : evCode P Γ call n f m (cAt [1, 1, 1] B21) s H = seqNext P Γ call n f m (cAt [1, 1, 1, 1] B21) (evCode P Γ call n f m (cAt [1, 1, 1, 0] B21) s H) := at_seq (by kernel_rfl) rfl rfl s H
noncomputable def r21_35 : {l : List Oper // opsOf (cAt [1, 1, 1, 0] B21) = l} := by
  apply Subtype.mk
  dsimp only [opsOf, cAt, kids, B21, bodyOf, Tryd.f21, List.getD, List.getElem?_cons_zero, List.getElem?_cons_succ, Option.getD_some]
@[simp] theorem n21_35 (s : List V) (H : Heap) : evCode P Γ call n f m (cAt [1, 1, 1, 0] B21) s H = regNext (evOpsGo P Γ call r21_35.1 r21_35.1 s H) := at_region (by kernel_rfl) r21_35.2 s H
attribute [simp] r21_35
@[simp] theorem n21_36 (s : List V) (H : Heap) : evCode P Γ call n f m (cAt [1, 1, 1, 1] B21) s H = some (.ret, s, H) := at_ret (by kernel_rfl) s H
theorem b21 {k : Nat} (ho : ∀ args H, Γ.orc 21 args H = none) (args : List V) (H : Heap) (ha : args.length ≤ 26) : evF Tryd.prog Γ (k + 1) 21 args H = bodyEnd Tryd.prog [.tmp 4] H.length (evCode Tryd.prog Γ (evF Tryd.prog Γ k) k 21 H.length (cAt [] B21) (mkL 26 V.undef (enumV 0 args)) H) := body_at Tryd.func21 (by decide) rfl ho rfl rfl args H ha
noncomputable def B24 : Code := bodyOf Tryd.f24
@[simp] theorem n24_1 (s : List V) (H : Heap) : evCode P Γ call n f m (cAt [] B24) s H = seqNext P Γ call n f m (cAt [1] B24) (evCode P Γ call n f m (cAt [0] B24) s H) := at_seq (by kernel_rfl) rfl rfl s H
noncomputable def r24_2 : {l : List Oper // opsOf (cAt [0] B24) = l} := by
  apply Subtype.mk
  dsimp only [opsOf, cAt, kids, B24, bodyOf, Tryd.f24, List.getD, List.getElem?_cons_zero, List.getElem?_cons_succ, Option.getD_some]
@[simp] theorem n24_2 (s : List V) (H : Heap) : evCode P Γ call n f m (cAt [0] B24) s H = regNext (evOpsGo P Γ call r24_2.1 r24_2.1 s H) := at_region (by kernel_rfl) r24_2.2 s H
attribute [simp] r24_2
@[simp] theorem n24_3 (s : List V) (H : Heap) : evCode P Γ call n f m (cAt [1] B24) s H = seqNext P Γ call n f m (cAt [1, 1] B24) (evCode P Γ call n f m (cAt [1, 0] B24) s H) := at_seq (by kernel_rfl) rfl rfl s H
noncomputable def r24_4 : {l : List Oper // opsOf (cAt [1, 0] B24) = l} := by
  apply Subtype.mk
  dsimp only [opsOf, cAt, kids, B24, bodyOf, Tryd.f24, List.getD, List.getElem?_cons_zero, List.getElem?_cons_succ, Option.getD_some]
@[simp] theorem n24_4 (s : List V) (H : Heap) : evCode P Γ call n f m (cAt [1, 0] B24) s H = regNext (evOpsGo P Γ call r24_4.1 r24_4.1 s H) := at_region (by kernel_rfl) r24_4.2 s H
attribute [simp] r24_4
@[simp] theorem n24_5 (s : List V) (H : Heap) : evCode P Γ call n f m (cAt [1, 1] B24) s H = some (.ret, s, H) := at_ret (by kernel_rfl) s H
theorem b24 {k : Nat} (ho : ∀ args H, Γ.orc 24 args H = none) (args : List V) (H : Heap) (ha : args.length ≤ 9) : evF Tryd.prog Γ (k + 1) 24 args H = bodyEnd Tryd.prog [.tmp 4] H.length (evCode Tryd.prog Γ (evF Tryd.prog Γ k) k 24 H.length (cAt [] B24) (mkL 9 V.undef (enumV 0 args)) H) := body_at Tryd.func24 (by decide) rfl ho rfl rfl args H ha
noncomputable def B25 : Code := bodyOf Tryd.f25
@[simp] theorem n25_1 (s : List V) (H : Heap) : evCode P Γ call n f m (cAt [] B25) s H = seqNext P Γ call n f m (cAt [1] B25) (evCode P Γ call n f m (cAt [0] B25) s H) := at_seq (by kernel_rfl) rfl rfl s H
noncomputable def r25_2 : {l : List Oper // opsOf (cAt [0] B25) = l} := by
  apply Subtype.mk
  dsimp only [opsOf, cAt, kids, B25, bodyOf, Tryd.f25, List.getD, List.getElem?_cons_zero, List.getElem?_cons_succ, Option.getD_some]
@[simp] theorem n25_2 (s : List V) (H : Heap) : evCode P Γ call n f m (cAt [0] B25) s H = regNext (evOpsGo P Γ call r25_2.1 r25_2.1 s H) := at_region (by kernel_rfl) r25_2.2 s H
attribute [simp] r25_2
@[simp] theorem n25_3 (s : List V) (H : Heap) : evCode P Γ call n f m (cAt [1] B25) s H = seqNext P Γ call n f m (cAt [1, 1] B25) (evCode P Γ call n f m (cAt [1, 0] B25) s H) := at_seq (by kernel_rfl) rfl rfl s H
noncomputable def r25_4 : {l : List Oper // opsOf (cAt [1, 0] B25) = l} := by
  apply Subtype.mk
  dsimp only [opsOf, cAt, kids, B25, bodyOf, Tryd.f25, List.getD, List.getElem?_cons_zero, List.getElem?_cons_succ, Option.getD_some]
@[simp] theorem n25_4 (s : List V) (H : Heap) : evCode P Γ call n f m (cAt [1, 0] B25) s H = regNext (drawR P Γ call r25_4.1 [([], []), ([], []), ([], []), ([], []), ([6, 7, 8, 9], [10, 11, 12, 13]), ([6, 7, 8, 9], [10, 11, 12, 13]), ([4, 5], [8, 9]), ([4, 5], [8, 9]), ([4, 5], [8, 9]), ([4, 5], [8, 9]), ([], []), ([], []), ([], [])] s H) := at_drawT (by kernel_rfl) r25_4.2 (by kernel_rfl) s H
attribute [simp] r25_4
@[simp] theorem n25_5 (s : List V) (H : Heap) : evCode P Γ call n f m (cAt [1, 1] B25) s H = some (.ret, s, H) := at_ret (by kernel_rfl) s H
theorem b25 {k : Nat} (ho : ∀ args H, Γ.orc 25 args H = none) (args : List V) (H : Heap) (ha : args.length ≤ 16) : evF Tryd.prog Γ (k + 1) 25 args H = bodyEnd Tryd.prog [.tmp 3] H.length (evCode Tryd.prog Γ (evF Tryd.prog Γ k) k 25 H.length (cAt [] B25) (mkL 16 V.undef (enumV 0 args)) H) := body_at Tryd.func25 (by decide) rfl ho rfl rfl args H ha
noncomputable def B29 : Code := bodyOf Tryd.f29
@[simp] theorem n29_1 (s : List V) (H : Heap) : evCode P Γ call n f m (cAt [] B29) s H = seqNext P Γ call n f m (cAt [1] B29) (evCode P Γ call n f m (cAt [0] B29) s H) := at_seq (by kernel_rfl) rfl rfl s H
noncomputable def r29_2 : {l : List Oper // opsOf (cAt [0] B29) = l} := by
  apply Subtype.mk
  dsimp only [opsOf, cAt, kids, B29, bodyOf, Tryd.f29, List.getD, List.getElem?_cons_zero, List.getElem?_cons_succ, Option.getD_some]
@[simp] theorem n29_2 (s : List V) (H : Heap) : evCode P Γ call n f m (cAt [0] B29) s H = regNext (evOpsGo P Γ call r29_2.1 r29_2.1 s H) := at_region (by kernel_rfl) r29_2.2 s H
attribute [simp] r29_2
@[simp] theorem n29_3 (s : List V) (H : Heap) : evCode P Γ call n f m (cAt [1] B29) s H = seqNext P Γ call n f m (cAt [1, 1] B29) (evCode P Γ call n f m (cAt [1, 0] B29) s H) := at_seq (by kernel_rfl) rfl rfl s H
@[simp] theorem n29_4 (s : List V) (H : Heap) : evCode P Γ call n f m (cAt [1, 0] B29) s H = seqNext P Γ call n f m (cAt [1, 0, 1] B29) (evCode P Γ call n f m (cAt [1, 0, 0] B29) s H) := at_seq (by kernel_rfl) rfl rfl s H
noncomputable def r29_5 : {l : List Oper // opsOf (cAt [1, 0, 0] B29) = l} := by
  apply Subtype.mk
  dsimp only [opsOf, cAt, kids, B29, bodyOf, Tryd.f29, List.getD, List.getElem?_cons_zero, List.getElem?_cons_succ, Option.getD_some]
@[simp] theorem n29_5 (s : List V) (H : Heap) : evCode P Γ call n f m (cAt [1, 0, 0] B29) s H = regNext (evOpsGo P Γ call r29_5.1 r29_5.1 s H) := at_region (by kernel_rfl) r29_5.2 s H
attribute [simp] r29_5
@[simp] theorem n29_6 (s : List V) (H : Heap) : evCode P Γ call n f m (cAt [1, 0, 1] B29) s H = blockNext 0 (evCode P Γ call n f m (cAt [1, 0, 1, 0] B29) s H) := at_block (by kernel_rfl) rfl s H
@[simp] theorem n29_7 (s : List V) (H : Heap) : evCode P Γ call n f m (cAt [1, 0, 1, 0] B29) s H = seqNext P Γ call n f m (cAt [1, 0, 1, 0, 1] B29) (evCode P Γ call n f m (cAt [1, 0, 1, 0, 0] B29) s H) := at_seq (by kernel_rfl) rfl rfl s H
noncomputable def r29_8 : {l : List Oper // opsOf (cAt [1, 0, 1, 0, 0] B29) = l} := by
  apply Subtype.mk
  dsimp only [opsOf, cAt, kids, B29, bodyOf, Tryd.f29, List.getD, List.getElem?_cons_zero, List.getElem?_cons_succ, Option.getD_some]
@[simp] theorem n29_8 (s : List V) (H : Heap) : evCode P Γ call n f m (cAt [1, 0, 1, 0, 0] B29) s H = regNext (evOpsGo P Γ call r29_8.1 r29_8.1 s H) := at_region (by kernel_rfl) r29_8.2 s H
attribute [simp] r29_8
@[simp] theorem n29_9 (s : List V) (H : Heap) : evCode P Γ call n f m (cAt [1, 0, 1, 0, 1] B29) s H = condW P Γ call n f m (cAt [1, 0, 1, 0, 1, 0] B29) (cAt [1, 0, 1, 0, 1, 1] B29) s H (evOperand Γ s (.tmp 13)) := at_cond (by kernel_rfl) (by kernel_rfl) rfl rfl s H
@[simp] theorem n29_10 (s : List V) (H : Heap) : evCode P Γ call n f m (cAt [1, 0, 1, 0, 1, 0] B29) s H = seqNext P Γ call n f m (cAt [1, 0, 1, 0, 1, 0, 1] B29) (evCode P Γ call n f m (cAt [1, 0, 1, 0, 1, 0, 0] B29) s H) := at_seq (by kernel_rfl) rfl rfl s H
noncomputable def r29_11 : {l : List Oper // opsOf (cAt [1, 0, 1, 0, 1, 0, 0] B29) = l} := by
  apply Subtype.mk
  dsimp only [opsOf, cAt, kids, B29, bodyOf, Tryd.f29, List.getD, List.getElem?_cons_zero, List.getElem?_cons_succ, Option.getD_some]
@[simp] theorem n29_11 (s : List V) (H : Heap) : evCode P Γ call n f m (cAt [1, 0, 1, 0, 1, 0, 0] B29) s H = regNext (evOpsGo P Γ call r29_11.1 r29_11.1 s H) := at_region (by kernel_rfl) r29_11.2 s H
attribute [simp] r29_11
@[simp] theorem n29_12 (s : List V) (H : Heap) : evCode P Γ call n f m (cAt [1, 0, 1, 0, 1, 0, 1] B29) s H = some (.ret, s, H) := at_ret (by kernel_rfl) s H
@[simp] theorem n29_13 (s : List V) (H : Heap) : evCode P Γ call n f m (cAt [1, 0, 1, 0, 1, 1] B29) s H = seqNext P Γ call n f m (cAt [1, 0, 1, 0, 1, 1, 1] B29) (evCode P Γ call n f m (cAt [1, 0, 1, 0, 1, 1, 0] B29) s H) := at_seq (by kernel_rfl) rfl rfl s H
noncomputable def r29_14 : {l : List Oper // opsOf (cAt [1, 0, 1, 0, 1, 1, 0] B29) = l} := by
  apply Subtype.mk
  dsimp only [opsOf, cAt, kids, B29, bodyOf, Tryd.f29, List.getD, List.getElem?_cons_zero, List.getElem?_cons_succ, Option.getD_some]
@[simp] theorem n29_14 (s : List V) (H : Heap) : evCode P Γ call n f m (cAt [1, 0, 1, 0, 1, 1, 0] B29) s H = regNext (evOpsGo P Γ call r29_14.1 r29_14.1 s H) := at_region (by kernel_rfl) r29_14.2 s H
attribute [simp] r29_14
@[simp] theorem n29_15 (s : List V) (H : Heap) : evCode P Γ call n f m (cAt [1, 0, 1, 0, 1, 1, 1] B29) s H = condW P Γ call n f m (cAt [1, 0, 1, 0, 1, 1, 1, 0] B29) (cAt [1, 0, 1, 0, 1, 1, 1, 1] B29) s H (evOperand Γ s (.tmp 15)) := at_cond (by kernel_rfl) (by kernel_rfl) rfl rfl s H
@[simp] theorem n29_16 (s : List V) (H : Heap) : evCode P Γ call n f m (cAt [1, 0, 1, 0, 1, 1, 1, 0] B29) s H = seqNext P Γ call n f m (cAt [1, 0, 1, 0, 1, 1, 1, 0, 1] B29) (evCode P Γ call n f m (cAt [1, 0, 1, 0, 1, 1, 1, 0, 0] B29) s H) := at_seq (by kernel_rfl) rfl rfl s H
noncomputable def r29_17 : {l : List Oper // opsOf (cAt [1, 0, 1, 0, 1, 1, 1, 0, 0] B29) = l} := by
  apply Subtype.mk
  dsimp only [opsOf, cAt, kids, B29, bodyOf, Tryd.f29, List.getD, List.getElem?_cons_zero, List.getElem?_cons_succ, Option.getD_some]
@[simp] theorem n29_17 (s : List V) (H : Heap) : evCode P Γ call n f m (cAt [1, 0, 1, 0, 1, 1, 1, 0, 0] B29) s H = regNext (evOpsGo P Γ call r29_17.1 r29_17.1 s H) := at_region (by kernel_rfl) r29_17.2 s H
attribute [simp] r29_17
@[simp] theorem n29_18 (s : List V) (H : Heap) : evCode P Γ call n f m (cAt [1, 0, 1, 0, 1, 1, 1, 0, 1] B29) s H = some (.ret, s, H) := at_ret (by kernel_rfl) s H
@[simp] theorem n29_19 (s : List V) (H : Heap) : evCode P Γ call n f m (cAt [1, 0, 1, 0, 1, 1, 1, 1] B29) s H = some (.normal, s, H) := at_skip (by kernel_rfl) s H
@[simp] theorem n29_20 (s : List V) (H : Heap) : evCode P Γ call n f m (cAt [1, 1] B29) s H = seqNext P Γ call n f m (cAt [1, 1, 1] B29) (evCode P Γ call n f m (cAt [1, 1, 0] B29) s H) := at_seq (by kernel_rfl) rfl rfl s H
noncomputable def r29_21 : {l : List Oper // opsOf (cAt [1, 1, 0] B29) = l} := by
  apply Subtype.mk
  dsimp only [opsOf, cAt, kids, B29, bodyOf, Tryd.f29, List.getD, List.getElem?_cons_zero, List.getElem?_cons_succ, Option.getD_some]
@[simp] theorem n29_21 (s : List V) (H : Heap) : evCode P Γ call n f m (cAt [1, 1, 0] B29) s H = regNext (evOpsGo P Γ call r29_21.1 r29_21.1 s H) := at_region (by kernel_rfl) r29_21.2 s H
attribute [simp] r29_21
@[simp] theorem n29_22 (s : List V) (H : Heap) : evCode P Γ call n f m (cAt [1, 1, 1] B29) s H = seqNext P Γ call n f m (cAt [1, 1, 1, 1] B29) (evCode P Γ call n f m (cAt [1, 1, 1, 0] B29) s H) := at_seq (by kernel_rfl) rfl rfl s H
@[simp] theorem n29_23 (s : List V) (H : Heap) : evCode P Γ call n f m (cAt [1, 1, 1, 0] B29) s H = seqNext P Γ call n f m (cAt [1, 1, 1, 0, 1] B29) (evCode P Γ call n f m (cAt [1, 1, 1, 0, 0] B29) s H) := at_seq (by kernel_rfl) rfl rfl s H
noncomputable def r29_24 : {l : List Oper // opsOf (cAt [1, 1, 1, 0, 0] B29) = l} := by
  apply Subtype.mk
  dsimp only [opsOf, cAt, kids, B29, bodyOf, Tryd.f29, List.getD, List.getElem?_cons_zero, List.getElem?_cons_succ, Option.getD_some]
@[simp] theorem n29_24 (s : List V) (H : Heap) : evCode P Γ call n f m (cAt [1, 1, 1, 0, 0] B29) s H = regNext (evOpsGo P Γ call r29_24.1 r29_24.1 s H) := at_region (by kernel_rfl) r29_24.2 s H
attribute [simp] r29_24
@[simp] theorem n29_25 (s : List V) (H : Heap) : evCode P Γ call n f m (cAt [1, 1, 1, 0, 1] B29) s H = condW P Γ call n f m (cAt [1, 1, 1, 0, 1, 0] B29) (cAt [1, 1, 1, 0, 1, 1] B29) s H (evOperand Γ s (.tmp 22)) := at_cond (by kernel_rfl) (by kernel_rfl) rfl rfl s H
@[simp] theorem n29_26 (s : List V) (H : Heap) : evCode P Γ call n f m (cAt [1, 1, 1, 0, 1, 0] B29) s H = seqNext P Γ call n f m (cAt [1, 1, 1, 0, 1, 0, 1] B29) (evCode P Γ call n f m (cAt [1, 1, 1, 0, 1, 0, 0] B29) s H) := at_seq (by kernel_rfl) rfl rfl s H
@[simp] theorem n29_27 (s : List V) (H : Heap) : evCode P Γ call n f m (cAt [1, 1, 1, 0, 1, 0, 0] B29) s H = seqNext P Γ call n f m (cAt [1, 1, 1, 0, 1, 0, 0, 1] B29) (evCode P Γ call n f m (cAt [1, 1, 1, 0, 1, 0, 0, 0] B29) s H) := at_seq (by kernel_rfl) rfl rfl s H
noncomputable def r29_28 : {l : List Oper // opsOf (cAt [1, 1, 1, 0, 1, 0, 0, 0] B29) = l} := by
  apply Subtype.mk
  dsimp only [opsOf, cAt, kids, B29, bodyOf, Tryd.f29, List.getD, List.getElem?_cons_zero, List.getElem?_cons_succ, Option.getD_some]
@[simp] theorem n29_28 (s : List V) (H : Heap) : evCode P Γ call n f m (cAt [1, 1, 1, 0, 1, 0, 0, 0] B29) s H = regNext (evOpsGo P Γ call r29_28.1 r29_28.1 s H) := at_region (by kernel_rfl) r29_28.2 s H
attribute [simp] r29_28
@[simp] theorem n29_29 (s : List V) (H : Heap) : evCode P Γ call n f m (cAt [1, 1, 1, 0, 1, 0, 0, 1] B29) s H = condW P Γ call n f m (cAt [1, 1, 1, 0, 1, 0, 0, 1, 0] B29) (cAt [1, 1, 1, 0, 1, 0, 0, 1, 1] B29) s H (evOperand Γ s (.tmp 29)) := at_cond (by kernel_rfl) (by kernel_rfl) rfl rfl s H
noncomputable def r29_30 : {l : List Oper // opsOf (cAt [1, 1, 1, 0, 1, 0, 0, 1, 0] B29) = l} := by
  apply Subtype.mk
  dsimp only [opsOf, cAt, kids, B29, bodyOf, Tryd.f29, List.getD, List.getElem?_cons_zero, List.getElem?_cons_succ, Option.getD_some]
@[simp] theorem n29_30 (s : List V) (H : Heap) : evCode P Γ call n f m (cAt [1, 1, 1, 0, 1, 0, 0, 1, 0] B29) s H = regNext (evOpsGo P Γ call r29_30.1 r29_30.1 s H) := at_region (by kernel_rfl) r29_30.2 s H
attribute [simp] r29_30
@[simp] theorem n29_31 (s : List V) (H : Heap) : evCode P Γ call n f m (cAt [1, 1, 1, 0, 1, 0, 0, 1, 1] B29) s H = some (.normal, s, H) := at_skip (by kernel_rfl) s H
noncomputable def r29_32 : {l : List Oper // opsOf (cAt [1, 1, 1, 0, 1, 0, 1] B29) = l} := by
  apply Subtype.mk
  dsimp only [opsOf, cAt, kids, B29, bodyOf, Tryd.f29, List.getD, List.getElem?_cons_zero, List.getElem?_cons_succ, Option.getD_some]
@[simp] theorem n29_32 (s : List V) (H : Heap) : evCode P Γ call n f m (cAt [1, 1, 1, 0, 1, 0, 1] B29) s H = regNext (evOpsGo P Γ call r29_32.1 r29_32.1 s H) := at_region (by kernel_rfl) r29_32.2 s H
attribute [simp] r29_32
@[simp] theorem n29_33 (s : List V) (H : Heap) : evCode P Γ call n f m (cAt [1, 1, 1, 0, 1, 1] B29) s H = some (.normal, s, H) := at_skip (by kernel_rfl) s H
@[simp] theorem n29_34 (s : List V) (H : Heap) : evCode P Γ call n f m (cAt [1, 1, 1, 1] B29) s H = seqNext P Γ call n f m (cAt [1, 1, 1, 1, 1] B29) (evCode P Γ call n f m (cAt [1, 1, 1, 1, 0] B29) s H) := at_seq (by kernel_rfl) rfl rfl s H
@[simp] theorem n29_35 (s : List V) (H : Heap) : evCode P Γ call n f m (cAt [1, 1, 1, 1, 0] B29) s H = seqNext P Γ call n f m (cAt [1, 1, 1, 1, 0, 1] B29) (evCode P Γ call n f m (cAt [1, 1, 1, 1, 0, 0] B29) s H) := at_seq (by kernel_rfl) rfl rfl s H
noncomputable def r29_36 : {l : List Oper // opsOf (cAt [1, 1, 1, 1, 0, 0] B29) = l} := by
  apply Subtype.mk
  dsimp only [opsOf, cAt, kids, B29, bodyOf, Tryd.f29, List.getD, List.getElem?_cons_zero, List.getElem?_cons_succ, Option.getD_some]
@[simp] theorem n29_36 (s : List V) (H : Heap) : evCode P Γ call n f m (cAt [1, 1, 1, 1, 0, 0] B29) s H = regNext (evOpsGo P Γ call r29_36.1 r29_36.1 s H) := at_region (by kernel_rfl) r29_36.2 s H
attribute [simp] r29_36
@[simp] theorem n29_37 (s : List V) (H : Heap) : evCode P Γ call n f m (cAt [1, 1, 1, 1, 0, 1] B29) s H = blockNext 1 (evCode P Γ call n f m (cAt [1, 1, 1, 1, 0, 1, 0] B29) s H) := at_block (by kernel_rfl) rfl s H
@[simp] theorem n29_38 (s : List V) (H : Heap) : evCode P Γ call n f m (cAt [1, 1, 1, 1, 0, 1, 0] B29) s H = evLoopC P Γ call n f m (cAt [1, 1, 1, 1, 0, 1, 0, 0] B29) n s H := at_loop (by kernel_rfl) rfl s H
noncomputable abbrev L29_12 : Code := cAt [1, 1, 1, 1, 0, 1, 0, 0] B29
@[simp] theorem n29_38f : firstRegion (cAt [1, 1, 1, 1, 0, 1, 0, 0] B29) = 12 := by kernel_rfl
@[simp] theorem n29_39 (s : List V) (H : Heap) : evCode P Γ call n f m (cAt [1, 1, 1, 1, 0, 1, 0, 0] B29) s H = seqNext P Γ call n f m (cAt [1, 1, 1, 1, 0, 1, 0, 0, 1] B29) (evCode P Γ call n f m (cAt [1, 1, 1, 1, 0, 1, 0, 0, 0] B29) s H) := at_seq (by kernel_rfl) rfl rfl s H
noncomputable def r29_40 : {l : List Oper // opsOf (cAt [1, 1, 1, 1, 0, 1, 0, 0, 0] B29) = l} := by
  apply Subtype.mk
  dsimp only [opsOf, cAt, kids, B29, bodyOf, Tryd.f29, List.getD, List.getElem?_cons_zero, List.getElem?_cons_succ, Option.getD_some]
@[simp] theorem n29_40 (s : List V) (H : Heap) : evCode P Γ call n f m (cAt [1, 1, 1, 1, 0, 1, 0, 0, 0] B29) s H = regNext (evOpsGo P Γ call r29_40.1 r29_40.1 s H) := at_region (by kernel_rfl) r29_40.2 s H
attribute [simp] r29_40
@[simp] theorem n29_41 (s : List V) (H : Heap) : evCode P Γ call n f m (cAt [1, 1, 1, 1, 0, 1, 0, 0, 1] B29) s H = seqNext P Γ call n f m (cAt [1, 1, 1, 1, 0, 1, 0, 0, 1, 1] B29) (evCode P Γ call n f m (cAt [1, 1, 1, 1, 0, 1, 0, 0, 1, 0] B29) s H) := at_seq (by kernel_rfl) rfl rfl s H
@[simp] theorem n29_42 (s : List V) (H : Heap) : evCode P Γ call n f m (cAt [1, 1, 1, 1, 0, 1, 0, 0, 1, 0] B29) s H = condW P Γ call n f m (cAt [1, 1, 1, 1, 0, 1, 0, 0, 1, 0, 0] B29) (cAt [1, 1, 1, 1, 0, 1, 0, 0, 1, 0, 1] B29) s H (evOperand Γ s (.tmp 42)) := at_cond (by kernel_rfl) (by kernel_rfl) rfl rfl s H
@[simp] theorem n29_43 (s : List V) (H : Heap) : evCode P Γ call n f m (cAt [1, 1, 1, 1, 0, 1, 0, 0, 1, 0, 0] B29) s H = some (.normal, s, H) := at_skip (by kernel_rfl) s H
@[simp] theorem n29_44 (s : List V) (H : Heap) : evCode P Γ call n f m (cAt [1, 1, 1, 1, 0, 1, 0, 0, 1, 0, 1] B29) s H = some (.exit 1, s, H) := at_exit (by kernel_rfl) s H
@[simp] theorem n29_45 (s : List V) (H : Heap) : evCode P Γ call n f m (cAt [1, 1, 1, 1, 0, 1, 0, 0, 1, 1] B29) s H = seqNext P Γ call n f m (cAt [1, 1, 1, 1, 0, 1, 0, 0, 1, 1, 1] B29) (evCode P Γ call n f m (cAt [1, 1, 1, 1, 0, 1, 0, 0, 1, 1, 0] B29) s H) := at_seq (by kernel_rfl) rfl rfl s H
@[simp] theorem n29_46 (s : List V) (H : Heap) : evCode P Γ call n f m (cAt [1, 1, 1, 1, 0, 1, 0, 0, 1, 1, 0] B29) s H = blockNext 2 (evCode P Γ call n f m (cAt [1, 1, 1, 1, 0, 1, 0, 0, 1, 1, 0, 0] B29) s H) := at_block (by kernel_rfl) rfl s H
@[simp] theorem n29_47 (s : List V) (H : Heap) : evCode P Γ call n f m (cAt [1, 1, 1, 1, 0, 1, 0, 0, 1, 1, 0, 0] B29) s H = seqNext P Γ call n f m (cAt [1, 1, 1, 1, 0, 1, 0, 0, 1, 1, 0, 0, 1] B29) (evCode P Γ call n f m (cAt [1, 1, 1, 1, 0, 1, 0, 0, 1, 1, 0, 0, 0] B29) s H) := at_seq (by kernel_rfl) rfl rfl s H
noncomputable def r29_48 : {l : List Oper // opsOf (cAt [1, 1, 1, 1, 0, 1, 0, 0, 1, 1, 0, 0, 0] B29) = l} := by
  apply Subtype.mk
  dsimp only [opsOf, cAt, kids, B29, bodyOf, Tryd.f29, List.getD, List.getElem?_cons_zero, List.getElem?_cons_succ, Option.getD_some]
@[simp] theorem n29_48 (s : List V) (H : Heap) : evCode P Γ call n f m (cAt [1, 1, 1, 1, 0, 1, 0, 0, 1, 1, 0, 0, 0] B29) s H = regNext (evOpsGo P Γ call r29_48.1 r29_48.1 s H) := at_region (by kernel_rfl) r29_48.2 s H
attribute [simp] r29_48
@[simp] theorem n29_49 (s : List V) (H : Heap) : evCode P Γ call n f m (cAt [1, 1, 1, 1, 0, 1, 0, 0, 1, 1, 0, 0, 1] B29) s H = seqNext P Γ call n f m (cAt [1, 1, 1, 1, 0, 1, 0, 0, 1, 1, 0, 0, 1, 1] B29) (evCode P Γ call n f m (cAt [1, 1, 1, 1, 0, 1, 0, 0, 1, 1, 0, 0, 1, 0] B29) s H) := at_seq (by kernel_rfl) rfl rfl s H
@[simp] theorem n29_50 (s : List V) (H : Heap) : evCode P Γ call n f m (cAt [1, 1, 1, 1, 0, 1, 0, 0, 1, 1, 0, 0, 1, 0] B29) s H = seqNext P Γ call n f m (cAt [1, 1, 1, 1, 0, 1, 0, 0, 1, 1, 0, 0, 1, 0, 1] B29) (evCode P Γ call n f m (cAt [1, 1, 1, 1, 0, 1, 0, 0, 1, 1, 0, 0, 1, 0, 0] B29) s H) := at_seq (by kernel_rfl) rfl rfl s H
noncomputable def r29_51 : {l : List Oper // opsOf (cAt [1, 1, 1, 1, 0, 1, 0, 0, 1, 1, 0, 0, 1, 0, 0] B29) = l} := by
  apply Subtype.mk
  dsimp only [opsOf, cAt, kids, B29, bodyOf, Tryd.f29, List.getD, List.getElem?_cons_zero, List.getElem?_cons_succ, Option.getD_some]
@[simp] theorem n29_51 (s : List V) (H : Heap) : evCode P Γ call n f m (cAt [1, 1, 1, 1, 0, 1, 0, 0, 1, 1, 0, 0, 1, 0, 0] B29) s H = regNext (evOpsGo P Γ call r29_51.1 r29_51.1 s H) := at_region (by kernel_rfl) r29_51.2 s H
attribute [simp] r29_51
@[simp] theorem n29_52 (s : List V) (H : Heap) : evCode P Γ call n f m (cAt [1, 1, 1, 1, 0, 1, 0, 0, 1, 1, 0, 0, 1, 0, 1] B29) s H = condW P Γ call n f m (cAt [1, 1, 1, 1, 0, 1, 0, 0, 1, 1, 0, 0, 1, 0, 1, 0] B29) (cAt [1, 1, 1, 1, 0, 1, 0, 0, 1, 1, 0, 0, 1, 0, 1, 1] B29) s H (evOperand Γ s (.tmp 49)) := at_cond (by kernel_rfl) (by kernel_rfl) rfl rfl s H
noncomputable def r29_53 : {l : List Oper // opsOf (cAt [1, 1, 1, 1, 0, 1, 0, 0, 1, 1, 0, 0, 1, 0, 1, 0] B29) = l} := by
  apply Subtype.mk
  dsimp only [opsOf, cAt, kids, B29, bodyOf, Tryd.f29, List.getD, List.getElem?_cons_zero, List.getElem?_cons_succ, Option.getD_some]
@[simp] theorem n29_53 (s : List V) (H : Heap) : evCode P Γ call n f m (cAt [1, 1, 1, 1, 0, 1, 0, 0, 1, 1, 0, 0, 1, 0, 1, 0] B29) s H = regNext (evOpsGo P Γ call r29_53.1 r29_53.1 s H) := at_region (by kernel_rfl) r29_53.2 s H
attribute [simp] r29_53
@[simp] theorem n29_54 (s : List V) (H : Heap) : evCode P Γ call n f m (cAt [1, 1, 1, 1, 0, 1, 0, 0, 1, 1, 0, 0, 1, 0, 1, 1] B29) s H = some (.normal, s, H) := at_skip (by kernel_rfl) s H
noncomputable def r29_55 : {l : List Oper // opsOf (cAt [1, 1, 1, 1, 0, 1, 0, 0, 1, 1, 0, 0, 1, 1] B29) = l} := by
  apply Subtype.mk
  dsimp only [opsOf, cAt, kids, B29, bodyOf, Tryd.f29, List.getD, List.getElem?_cons_zero, List.getElem?_cons_succ, Option.getD_some]
@[simp] theorem n29_55 (s : List V) (H : Heap) : evCode P Γ call n f m (cAt [1, 1, 1, 1, 0, 1, 0, 0, 1, 1, 0, 0, 1, 1] B29) s H = regNext (evOpsGo P Γ call r29_55.1 r29_55.1 s H) := at_region (by kernel_rfl) r29_55.2 s H
attribute [simp] r29_55
noncomputable def r29_56 : {l : List Oper // opsOf (cAt [1, 1, 1, 1, 0, 1, 0, 0, 1, 1, 1] B29) = l} := by
  apply Subtype.mk
  dsimp only [opsOf, cAt, kids, B29, bodyOf, Tryd.f29, List.getD, List.getElem?_cons_zero, List.getElem?_cons_succ, Option.getD_some]
@[simp] theorem n29_56 (s : List V) (H : Heap) : evCode P Γ call n f m (cAt [1, 1, 1, 1, 0, 1, 0, 0, 1, 1, 1] B29) s H = regNext (evOpsGo P Γ call r29_56.1 r29_56.1 s H) := at_region (by kernel_rfl) r29_56.2 s H
attribute [simp] r29_56
@[simp] theorem n29_57 (s : List V) (H : Heap) : evCode P Γ call n f m (cAt [1, 1, 1, 1, 1] B29) s H = seqNext P Γ call n f m (cAt [1, 1, 1, 1, 1, 1] B29) (evCode P Γ call n f m (cAt [1, 1, 1, 1, 1, 0] B29) s H) := at_seq (by kernel_rfl) rfl rfl s H
noncomputable def r29_58 : {l : List Oper // opsOf (cAt [1, 1, 1, 1, 1, 0] B29) = l} := by
  apply Subtype.mk
  dsimp only [opsOf, cAt, kids, B29, bodyOf, Tryd.f29, List.getD, List.getElem?_cons_zero, List.getElem?_cons_succ, Option.getD_some]
@[simp] theorem n29_58 (s : List V) (H : Heap) : evCode P Γ call n f m (cAt [1, 1, 1, 1, 1, 0] B29) s H = regNext (evOpsGo P Γ call r29_58.1 r29_58.1 s H) := at_region (by kernel_rfl) r29_58.2 s H
attribute [simp] r29_58
@[simp] theorem n29_59 (s : List V) (H : Heap) : evCode P Γ call n f m (cAt [1, 1, 1, 1, 1, 1] B29) s H = seqNext P Γ call n f m (cAt [1, 1, 1, 1, 1, 1, 1] B29) (evCode P Γ call n f m (cAt [1, 1, 1, 1, 1, 1, 0] B29) s H) := at_seq (by kernel_rfl) rfl rfl s H
noncomputable def r29_60 : {l : List Oper // opsOf (cAt [1, 1, 1, 1, 1, 1, 0] B29) = l} := by
  apply Subtype.mk
  dsimp only [opsOf, cAt, kids, B29, bodyOf, Tryd.f29, List.getD, List.getElem?_cons_zero, List.getElem?_cons_succ, Option.getD_some]
@[simp] theorem n29_60 (s : List V) (H : Heap) : evCode P Γ call n f m (cAt [1, 1, 1, 1, 1, 1, 0] B29) s H = regNext (evOpsGo P Γ call r29_60.1 r29_60.1 s H) := at_region (by kernel_rfl) r29_60.2 s H
attribute [simp] r29_60
@[simp] theorem n29_61 (s : List V) (H : Heap) : evCode P Γ call n f m (cAt [1, 1, 1, 1, 1, 1, 1] B29) s H = seqNext P Γ call n f m (cAt [1, 1, 1, 1, 1, 1, 1, 1] B29) (evCode P Γ call n f m (cAt [1, 1, 1, 1, 1, 1, 1, 0] B29) s H) := at_seq (by kernel_rfl) rfl rfl s H
noncomputable def r29_62 : {l : List Oper // opsOf (cAt [1, 1, 1, 1, 1, 1, 1, 0] B29) = l} := by
  apply Subtype.mk
  dsimp only [opsOf, cAt, kids, B29, bodyOf, Tryd.f29, List.getD, List.getElem?_cons_zero, List.getElem?_cons_succ, Option.getD_some]
@[simp] theorem n29_62 (s : List V) (H : Heap) : evCode P Γ call n f m (cAt [1, 1, 1, 1, 1, 1, 1, 0] B29) s H = regNext (evOpsGo P Γ call r29_62.1 r29_62.1 s H) := at_region (by kernel_rfl) r29_62.2 s H
attribute [simp] r29_62
@[simp] theorem n29_63 (s : List V) (H : Heap) : evCode P Γ call n f m (cAt [1, 1, 1, 1, 1, 1, 1, 1] B29) s H = seqNext P Γ call n f m (cAt [1, 1, 1, 1, 1, 1, 1, 1, 1] B29) (evCode P Γ call n f m (cAt [1, 1, 1, 1, 1, 1, 1, 1, 0] B29) s H) := at_seq (by kernel_rfl) rfl rfl s H
@[simp] theorem n29_64 (s : List V) (H : Heap) : evCode P Γ call n f m (cAt [1, 1, 1, 1, 1, 1, 1, 1, 0] B29) s H = seqNext P Γ call n f m (cAt [1, 1, 1, 1, 1, 1, 1, 1, 0, 1] B29) (evCode P Γ call n f m (cAt [1, 1, 1, 1, 1, 1, 1, 1, 0, 0] B29) s H) := at_seq (by kernel_rfl) rfl rfl s H
noncomputable def r29_65 : {l : List Oper // opsOf (cAt [1, 1, 1, 1, 1, 1, 1, 1, 0, 0] B29) = l} := by
  apply Subtype.mk
  dsimp only [opsOf, cAt, kids, B29, bodyOf, Tryd.f29, List.getD, List.getElem?_cons_zero, List.getElem?_cons_succ, Option.getD_some]
@[simp] theorem n29_65 (s : List V) (H : Heap) : evCode P Γ call n f m (cAt [1, 1, 1, 1, 1, 1, 1, 1, 0, 0] B29) s H = regNext (evOpsGo P Γ call r29_65.1 r29_65.1 s H) := at_region (by kernel_rfl) r29_65.2 s H
attribute [simp] r29_65
@[simp] theorem n29_66 (s : List V) (H : Heap) : evCode P Γ call n f m (cAt [1, 1, 1, 1, 1, 1, 1, 1, 0, 1] B29) s H = blockNext 3 (evCode P Γ call n f m (cAt [1, 1, 1, 1, 1, 1, 1, 1, 0, 1, 0] B29) s H) := at_block (by kernel_rfl) rfl s H
@[simp] theorem n29_67 (s : List V) (H : Heap) : evCode P Γ call n f m (cAt [1, 1, 1, 1, 1, 1, 1, 1, 0, 1, 0] B29) s H = evLoopC P Γ call n f m (cAt [1, 1, 1, 1, 1, 1, 1, 1, 0, 1, 0, 0] B29) n s H := at_loop (by kernel_rfl) rfl s H
noncomputable abbrev L29_22 : Code := cAt [1, 1, 1, 1, 1, 1, 1, 1, 0, 1, 0, 0] B29
@[simp] theorem n29_67f : firstRegion (cAt [1, 1, 1, 1, 1, 1, 1, 1, 0, 1, 0, 0] B29) = 22 := by kernel_rfl
@[simp] theorem n29_68 (s : List V) (H : Heap) : evCode P Γ call n f m (cAt [1, 1, 1, 1, 1, 1, 1, 1, 0, 1, 0, 0] B29) s H = seqNext P Γ call n f m (cAt [1, 1, 1, 1, 1, 1, 1, 1, 0, 1, 0, 0, 1] B29) (evCode P Γ call n f m (cAt [1, 1, 1, 1, 1, 1, 1, 1, 0, 1, 0, 0, 0] B29) s H) := at_seq (by kernel_rfl) rfl rfl s H
noncomputable def r29_69 : {l : List Oper // opsOf (cAt [1, 1, 1, 1, 1, 1, 1, 1, 0, 1, 0, 0, 0] B29) = l} := by
  apply Subtype.mk
  dsimp only [opsOf, cAt, kids, B29, bodyOf, Tryd.f29, List.getD, List.getElem?_cons_zero, List.getElem?_cons_succ, Option.getD_some]
@[simp] theorem n29_69 (s : List V) (H : Heap) : evCode P Γ call n f m (cAt [1, 1, 1, 1, 1, 1, 1, 1, 0, 1, 0, 0, 0] B29) s H = regNext (evOpsGo P Γ call r29_69.1 r29_69.1 s H) := at_region (by kernel_rfl) r29_69.2 s H
attribute [simp] r29_69
@[simp] theorem n29_70 (s : List V) (H : Heap) : evCode P Γ call n f m (cAt [1, 1, 1, 1, 1, 1, 1, 1, 0, 1, 0, 0, 1] B29) s H = seqNext P Γ call n f m (cAt [1, 1, 1, 1, 1, 1, 1, 1, 0, 1, 0, 0, 1, 1] B29) (evCode P Γ call n f m (cAt [1, 1, 1, 1, 1, 1, 1, 1, 0, 1, 0, 0, 1, 0] B29) s H) := at_seq (by kernel_rfl) rfl rfl s H
@[simp] theorem n29_71 (s : List V) (H : Heap) : evCode P Γ call n f m (cAt [1, 1, 1, 1, 1, 1, 1, 1, 0, 1, 0, 0, 1, 0] B29) s H = condW P Γ call n f m (cAt [1, 1, 1, 1, 1, 1, 1, 1, 0, 1, 0, 0, 1, 0, 0] B29) (cAt [1, 1, 1, 1, 1, 1, 1, 1, 0, 1, 0, 0, 1, 0, 1] B29) s H (evOperand Γ s (.tmp 66)) := at_cond (by kernel_rfl) (by kernel_rfl) rfl rfl s H
@[simp] theorem n29_72 (s : List V) (H : Heap) : evCode P Γ call n f m (cAt [1, 1, 1, 1, 1, 1, 1, 1, 0, 1, 0, 0, 1, 0, 0] B29) s H = some (.normal, s, H) := at_skip (by kernel_rfl) s H
@[simp] theorem n29_73 (s : List V) (H : Heap) : evCode P Γ call n f m (cAt [1, 1, 1, 1, 1, 1, 1, 1, 0, 1, 0, 0, 1, 0, 1] B29) s H = some (.exit 3, s, H) := at_exit (by kernel_rfl) s H
@[simp] theorem n29_74 (s : List V) (H : Heap) : evCode P Γ call n f m (cAt [1, 1, 1, 1, 1, 1, 1, 1, 0, 1, 0, 0, 1, 1] B29) s H = seqNext P Γ call n f m (cAt [1, 1, 1, 1, 1, 1, 1, 1, 0, 1, 0, 0, 1, 1, 1] B29) (evCode P Γ call n f m (cAt [1, 1, 1, 1, 1, 1, 1, 1, 0, 1, 0, 0, 1, 1, 0] B29) s H) := at_seq (by kernel_rfl) rfl rfl s H
@[simp] theorem n29_75 (s : List V) (H : Heap) : evCode P Γ call n f m (cAt [1, 1, 1, 1, 1, 1, 1, 1, 0, 1, 0, 0, 1, 1, 0] B29) s H = blockNext 4 (evCode P Γ call n f m (cAt [1, 1, 1, 1, 1, 1, 1, 1, 0, 1, 0, 0, 1, 1, 0, 0] B29) s H) := at_block (by kernel_rfl) rfl s H
@[simp] theorem n29_76 (s : List V) (H : Heap) : evCode P Γ call n f m (cAt [1, 1, 1, 1, 1, 1, 1, 1, 0, 1, 0, 0, 1, 1, 0, 0] B29) s H = seqNext P Γ call n f m (cAt [1, 1, 1, 1, 1, 1, 1, 1, 0, 1, 0, 0, 1, 1, 0, 0, 1] B29) (evCode P Γ call n f m (cAt [1, 1, 1, 1, 1, 1, 1, 1, 0, 1, 0, 0, 1, 1, 0, 0, 0] B29) s H) := at_seq (by kernel_rfl) rfl rfl s H
noncomputable def r29_77 : {l : List Oper // opsOf (cAt [1, 1, 1, 1, 1, 1, 1, 1, 0, 1, 0, 0, 1, 1, 0, 0, 0] B29) = l} := by
  apply Subtype.mk
  dsimp only [opsOf, cAt, kids, B29, bodyOf, Tryd.f29, List.getD, List.getElem?_cons_zero, List.getElem?_cons_succ, Option.getD_some]
@[simp] theorem n29_77 (s : List V) (H : Heap) : evCode P Γ call n f m (cAt [1, 1, 1, 1, 1, 1, 1, 1, 0, 1, 0, 0, 1, 1, 0, 0, 0] B29) s H = regNext (evOpsGo P Γ call r29_77.1 r29_77.1 s H) := at_region (by kernel_rfl) r29_77.2 s H
attribute [simp] r29_77
@[simp] theorem n29_78 (s : List V) (H : Heap) : evCode P Γ call n f m (cAt [1, 1, 1, 1, 1, 1, 1, 1, 0, 1, 0, 0, 1, 1, 0, 0, 1] B29) s H = seqNext P Γ call n f m (cAt [1, 1, 1, 1, 1, 1, 1, 1, 0, 1, 0, 0, 1, 1, 0, 0, 1, 1] B29) (evCode P Γ call n f m (cAt [1, 1, 1, 1, 1, 1, 1, 1, 0, 1, 0, 0, 1, 1, 0, 0, 1, 0] B29) s H) := at_seq (by kernel_rfl) rfl rfl s H
noncomputable def r29_79 : {l : List Oper // opsOf (cAt [1, 1, 1, 1, 1, 1, 1, 1, 0, 1, 0, 0, 1, 1, 0, 0, 1, 0] B29) = l} := by
  apply Subtype.mk
  dsimp only [opsOf, cAt, kids, B29, bodyOf, Tryd.f29, List.getD, List.getElem?_cons_zero, List.getElem?_cons_succ, Option.getD_some]
@[simp] theorem n29_79 (s : List V) (H : Heap) : evCode P Γ call n f m (cAt [1, 1, 1, 1, 1, 1, 1, 1, 0, 1, 0, 0, 1, 1, 0, 0, 1, 0] B29) s H = regNext (evOpsGo P Γ call r29_79.1 r29_79.1 s H) := at_region (by kernel_rfl) r29_79.2 s H
attribute [simp] r29_79
noncomputable def r29_80 : {l : List Oper // opsOf (cAt [1, 1, 1, 1, 1, 1, 1, 1, 0, 1, 0, 0, 1, 1, 0, 0, 1, 1] B29) = l} := by
  apply Subtype.mk
  dsimp only [opsOf, cAt, kids, B29, bodyOf, Tryd.f29, List.getD, List.getElem?_cons_zero, List.getElem?_cons_succ, Option.getD_some]
@[simp] theorem n29_80 (s : List V) (H : Heap) : evCode P Γ call n f m (cAt [1, 1, 1, 1, 1, 1, 1, 1, 0, 1, 0, 0, 1, 1, 0, 0, 1, 1] B29) s H = regNext (evOpsGo P Γ call r29_80.1 r29_80.1 s H) := at_region (by kernel_rfl) r29_80.2 s H
attribute [simp] r29_80
noncomputable def r29_81 : {l : List Oper // opsOf (cAt [1, 1, 1, 1, 1, 1, 1, 1, 0, 1, 0, 0, 1, 1, 1] B29) = l} := by
  apply Subtype.mk
  dsimp only [opsOf, cAt, kids, B29, bodyOf, Tryd.f29, List.getD, List.getElem?_cons_zero, List.getElem?_cons_succ, Option.getD_some]
@[simp] theorem n29_81 (s : List V) (H : Heap) : evCode P Γ call n f m (cAt [1, 1, 1, 1, 1, 1, 1, 1, 0, 1, 0, 0, 1, 1, 1] B29) s H = regNext (evOpsGo P Γ call r29_81.1 r29_81.1 s H) := at_region (by kernel_rfl) r29_81.2 s H
attribute [simp] r29_81
@[simp] theorem n29_82 (s : List V) (H : Heap) : evCode P Γ call n f m (cAt [1, 1, 1, 1, 1, 1, 1, 1, 1] B29) s H = seqNext P Γ call n f m (cAt [1, 1, 1, 1, 1, 1, 1, 1, 1, 1] B29) (evCode P Γ call n f m (cAt [1, 1, 1, 1, 1, 1, 1, 1, 1, 0] B29) s H) := at_seq (by kernel_rfl) rfl rfl s H
noncomputable def r29_83 : {l : List Oper // opsOf (cAt [1, 1, 1, 1, 1, 1, 1, 1, 1, 0] B29) = l} := by
  apply Subtype.mk
  dsimp only [opsOf, cAt, kids, B29, bodyOf, Tryd.f29, List.getD, List.getElem?_cons_zero, List.getElem?_cons_succ, Option.getD_some]
@[simp] theorem n29_83 (s : List V) (H : Heap) : evCode P Γ call n f m (cAt [1, 1, 1, 1, 1, 1, 1, 1, 1, 0] B29) s H = regNext (evOpsGo P Γ call r29_83.1 r29_83.1 s H) := at_region (by kernel_rfl) r29_83.2 s H
attribute [simp] r29_83
@[simp] theorem n29_84 (s : List V) (H : Heap) : evCode P Γ call n f m (cAt [1, 1, 1, 1, 1, 1, 1, 1, 1, 1] B29) s H = some (.ret, s, H) := at_ret (by kernel_rfl) s H
theorem b29 {k : Nat} (ho : ∀ args H, Γ.orc 29 args H = none) (args : List V) (H : Heap) (ha : args.length ≤ 75) : evF Tryd.prog Γ (k + 1) 29 args H = bodyEnd Tryd.prog [.tmp 4] H.length (evCode Tryd.prog Γ (evF Tryd.prog Γ k) k 29 H.length (cAt [] B29) (mkL 75 V.undef (enumV 0 args)) H) := body_at Tryd.func29 (by decide) rfl ho rfl rfl args H ha
noncomputable def B30 : Code := bodyOf Tryd.f30
@[simp] theorem n30_1 (s : List V) (H : Heap) : evCode P Γ call n f m (cAt [] B30) s H = seqNext P Γ call n f m (cAt [1] B30) (evCode P Γ call n f m (cAt [0] B30) s H) := at_seq (by kernel_rfl) rfl rfl s H
noncomputable def r30_2 : {l : List Oper // opsOf (cAt [0] B30) = l} := by
  apply Subtype.mk
  dsimp only [opsOf, cAt, kids, B30, bodyOf, Tryd.f30, List.getD, List.getElem?_cons_zero, List.getElem?_cons_succ, Option.getD_some]
@[simp] theorem n30_2 (s : List V) (H : Heap) : evCode P Γ call n f m (cAt [0] B30) s H = regNext (evOpsGo P Γ call r30_2.1 r30_2.1 s H) := at_region (by kernel_rfl) r30_2.2 s H
attribute [simp] r30_2
@[simp] theorem n30_3 (s : List V) (H : Heap) : evCode P Γ call n f m (cAt [1] B30) s H = seqNext P Γ call n f m (cAt [1, 1] B30) (evCode P Γ call n f m (cAt [1, 0] B30) s H) := at_seq (by kernel_rfl) rfl rfl s H
@[simp] theorem n30_4 (s : List V) (H : Heap) : evCode P Γ call n f m (cAt [1, 0] B30) s H = seqNext P Γ call n f m (cAt [1, 0, 1] B30) (evCode P Γ call n f m (cAt [1, 0, 0] B30) s H) := at_seq (by kernel_rfl) rfl rfl s H
noncomputable def r30_5 : {l : List Oper // opsOf (cAt [1, 0, 0] B30) = l} := by
  apply Subtype.mk
  dsimp only [opsOf, cAt, kids, B30, bodyOf, Tryd.f30, List.getD, List.getElem?_cons_zero, List.getElem?_cons_succ, Option.getD_some]
@[simp] theorem n30_5 (s : List V) (H : Heap) : evCode P Γ call n f m (cAt [1, 0, 0] B30) s H = regNext (evOpsGo P Γ call r30_5.1 r30_5.1 s H) := at_region (by kernel_rfl) r30_5.2 s H
attribute [simp] r30_5
@[simp] theorem n30_6 (s : List V) (H : Heap) : evCode P Γ call n f m (cAt [1, 0, 1] B30) s H = blockNext 0 (evCode P Γ call n f m (cAt [1, 0, 1, 0] B30) s H) := at_block (by kernel_rfl) rfl s H
@[simp] theorem n30_7 (s : List V) (H : Heap) : evCode P Γ call n f m (cAt [1, 0, 1, 0] B30) s H = evLoopC P Γ call n f m (cAt [1, 0, 1, 0, 0] B30) n s H := at_loop (by kernel_rfl) rfl s H
noncomputable abbrev L30_2 : Code := cAt [1, 0, 1, 0, 0] B30
@[simp] theorem n30_7f : firstRegion (cAt [1, 0, 1, 0, 0] B30) = 2 := by kernel_rfl
@[simp] theorem n30_8 (s : List V) (H : Heap) : evCode P Γ call n f m (cAt [1, 0, 1, 0, 0] B30) s H = seqNext P Γ call n f m (cAt [1, 0, 1, 0, 0, 1] B30) (evCode P Γ call n f m (cAt [1, 0, 1, 0, 0, 0] B30) s H) := at_seq (by kernel_rfl) rfl rfl s H
noncomputable def r30_9 : {l : List Oper // opsOf (cAt [1, 0, 1, 0, 0, 0] B30) = l} := by
  apply Subtype.mk
  dsimp only [opsOf, cAt, kids, B30, bodyOf, Tryd.f30, List.getD, List.getElem?_cons_zero, List.getElem?_cons_succ, Option.getD_some]
@[simp] theorem n30_9 (s : List V) (H : Heap) : evCode P Γ call n f m (cAt [1, 0, 1, 0, 0, 0] B30) s H = regNext (evOpsGo P Γ call r30_9.1 r30_9.1 s H) := at_region (by kernel_rfl) r30_9.2 s H
attribute [simp] r30_9
@[simp] theorem n30_10 (s : List V) (H : Heap) : evCode P Γ call n f m (cAt [1, 0, 1, 0, 0, 1] B30) s H = seqNext P Γ call n f m (cAt [1, 0, 1, 0, 0, 1, 1] B30) (evCode P Γ call n f m (cAt [1, 0, 1, 0, 0, 1, 0] B30) s H) := at_seq (by kernel_rfl) rfl rfl s H
@[simp] theorem n30_11 (s : List V) (H : Heap) : evCode P Γ call n f m (cAt [1, 0, 1, 0, 0, 1, 0] B30) s H = condW P Γ call n f m (cAt [1, 0, 1, 0, 0, 1, 0, 0] B30) (cAt [1, 0, 1, 0, 0, 1, 0, 1] B30) s H (evOperand Γ s (.tmp 9)) := at_cond (by kernel_rfl) (by kernel_rfl) rfl rfl s H
@[simp] theorem n30_12 (s : List V) (H : Heap) : evCode P Γ call n f m (cAt [1, 0, 1, 0, 0, 1, 0, 0] B30) s H = some (.normal, s, H) := at_skip (by kernel_rfl) s H
@[simp] theorem n30_13 (s : List V) (H : Heap) : evCode P Γ call n f m (cAt [1, 0, 1, 0, 0, 1, 0, 1] B30) s H = some (.exit 0, s, H) := at_exit (by kernel_rfl) s H
@[simp] theorem n30_14 (s : List V) (H : Heap) : evCode P Γ call n f m (cAt [1, 0, 1, 0, 0, 1, 1] B30) s H = seqNext P Γ call n f m (cAt [1, 0, 1, 0, 0, 1, 1, 1] B30) (evCode P Γ call n f m (cAt [1, 0, 1, 0, 0, 1, 1, 0] B30) s H) := at_seq (by kernel_rfl) rfl rfl s H
@[simp] theorem n30_15 (s : List V) (H : Heap) : evCode P Γ call n f m (cAt [1, 0, 1, 0, 0, 1, 1, 0] B30) s H = blockNext 1 (evCode P Γ call n f m (cAt [1, 0, 1, 0, 0, 1, 1, 0, 0] B30) s H) := at_block (by kernel_rfl) rfl s H
@[simp] theorem n30_16 (s : List V) (H : Heap) : evCode P Γ call n f m (cAt [1, 0, 1, 0, 0, 1, 1, 0, 0] B30) s H = seqNext P Γ call n f m (cAt [1, 0, 1, 0, 0, 1, 1, 0, 0, 1] B30) (evCode P Γ call n f m (cAt [1, 0, 1, 0, 0, 1, 1, 0, 0, 0] B30) s H) := at_seq (by kernel_rfl) rfl rfl s H
noncomputable def r30_17 : {l : List Oper // opsOf (cAt [1, 0, 1, 0, 0, 1, 1, 0, 0, 0] B30) = l} := by
  apply Subtype.mk
  dsimp only [opsOf, cAt, kids, B30, bodyOf, Tryd.f30, List.getD, List.getElem?_cons_zero, List.getElem?_cons_succ, Option.getD_some]
@[simp] theorem n30_17 (s : List V) (H : Heap) : evCode P Γ call n f m (cAt [1, 0, 1, 0, 0, 1, 1, 0, 0, 0] B30) s H = regNext (evOpsGo P Γ call r30_17.1 r30_17.1 s H) := at_region (by kernel_rfl) r30_17.2 s H
attribute [simp] r30_17
@[simp] theorem n30_18 (s : List V) (H : Heap) : evCode P Γ call n f m (cAt [1, 0, 1, 0, 0, 1, 1, 0, 0, 1] B30) s H = seqNext P Γ call n f m (cAt [1, 0, 1, 0, 0, 1, 1, 0, 0, 1, 1] B30) (evCode P Γ call n f m (cAt [1, 0, 1, 0, 0, 1, 1, 0, 0, 1, 0] B30) s H) := at_seq (by kernel_rfl) rfl rfl s H
@[simp] theorem n30_19 (s : List V) (H : Heap) : evCode P Γ call n f m (cAt [1, 0, 1, 0, 0, 1, 1, 0, 0, 1, 0] B30) s H = seqNext P Γ call n f m (cAt [1, 0, 1, 0, 0, 1, 1, 0, 0, 1, 0, 1] B30) (evCode P Γ call n f m (cAt [1, 0, 1, 0, 0, 1, 1, 0, 0, 1, 0, 0] B30) s H) := at_seq (by kernel_rfl) rfl rfl s H
noncomputable def r30_20 : {l : List Oper // opsOf (cAt [1, 0, 1, 0, 0, 1, 1, 0, 0, 1, 0, 0] B30) = l} := by
  apply Subtype.mk
  dsimp only [opsOf, cAt, kids, B30, bodyOf, Tryd.f30, List.getD, List.getElem?_cons_zero, List.getElem?_cons_succ, Option.getD_some]
@[simp] theorem n30_20 (s : List V) (H : Heap) : evCode P Γ call n f m (cAt [1, 0, 1, 0, 0, 1, 1, 0, 0, 1, 0, 0] B30) s H = regNext (evOpsGo P Γ call r30_20.1 r30_20.1 s H) := at_region (by kernel_rfl) r30_20.2 s H
attribute [simp] r30_20
@[simp] theorem n30_21 (s : List V) (H : Heap) : evCode P Γ call n f m (cAt [1, 0, 1, 0, 0, 1, 1, 0, 0, 1, 0, 1] B30) s H = condW P Γ call n f m (cAt [1, 0, 1, 0, 0, 1, 1, 0, 0, 1, 0, 1, 0] B30) (cAt [1, 0, 1, 0, 0, 1, 1, 0, 0, 1, 0, 1, 1] B30) s H (evOperand Γ s (.tmp 34)) := at_cond (by kernel_rfl) (by kernel_rfl) rfl rfl s H
@[simp] theorem n30_22 (s : List V) (H : Heap) : evCode P Γ call n f m (cAt [1, 0, 1, 0, 0, 1, 1, 0, 0, 1, 0, 1, 0] B30) s H = some (.exit 1, s, H) := at_exit (by kernel_rfl) s H
@[simp] theorem n30_23 (s : List V) (H : Heap) : evCode P Γ call n f m (cAt [1, 0, 1, 0, 0, 1, 1, 0, 0, 1, 0, 1, 1] B30) s H = some (.normal, s, H) := at_skip (by kernel_rfl) s H
@[simp] theorem n30_24 (s : List V) (H : Heap) : evCode P Γ call n f m (cAt [1, 0, 1, 0, 0, 1, 1, 0, 0, 1, 1] B30) s H = seqNext P Γ call n f m (cAt [1, 0, 1, 0, 0, 1, 1, 0, 0, 1, 1, 1] B30) (evCode P Γ call n f m (cAt [1, 0, 1, 0, 0, 1, 1, 0, 0, 1, 1, 0] B30) s H) := at_seq (by kernel_rfl) rfl rfl s H
noncomputable def r30_25 : {l : List Oper // opsOf (cAt [1, 0, 1, 0, 0, 1, 1, 0, 0, 1, 1, 0] B30) = l} := by
  apply Subtype.mk
  dsimp only [opsOf, cAt, kids, B30, bodyOf, Tryd.f30, List.getD, List.getElem?_cons_zero, List.getElem?_cons_succ, Option.getD_some]
@[simp] theorem n30_25 (s : List V) (H : Heap) : evCode P Γ call n f m (cAt [1, 0, 1, 0, 0, 1, 1, 0, 0, 1, 1, 0] B30) s H = regNext (evOpsGo P Γ call r30_25.1 r30_25.1 s H) := at_region (by kernel_rfl) r30_25.2 s H
attribute [simp] r30_25
@[simp] theorem n30_26 (s : List V) (H : Heap) : evCode P Γ call n f m (cAt [1, 0, 1, 0, 0, 1, 1, 0, 0, 1, 1, 1] B30) s H = some (.ret, s, H) := at_ret (by kernel_rfl) s H
noncomputable def r30_27 : {l : List Oper // opsOf (cAt [1, 0, 1, 0, 0, 1, 1, 1] B30) = l} := by
  apply Subtype.mk
  dsimp only [opsOf, cAt, kids, B30, bodyOf, Tryd.f30, List.getD, List.getElem?_cons_zero, List.getElem?_cons_succ, Option.getD_some]
@[simp] theorem n30_27 (s : List V) (H : Heap) : evCode P Γ call n f m (cAt [1, 0, 1, 0, 0, 1, 1, 1] B30) s H = regNext (evOpsGo P Γ call r30_27.1 r30_27.1 s H) := at_region (by kernel_rfl) r30_27.2 s H
attribute [simp] r30_27
@[simp] theorem n30_28 (s : List V) (H : Heap) : evCode P Γ call n f m (cAt [1, 1] B30) s H = seqNext P Γ call n f m (cAt [1, 1, 1] B30) (evCode P Γ call n f m (cAt [1, 1, 0] B30) s H) := at_seq (by kernel_rfl) rfl rfl s H
noncomputable def r30_29 : {l : List Oper // opsOf (cAt [1, 1, 0] B30) = l} := by
  apply Subtype.mk
  dsimp only [opsOf, cAt, kids, B30, bodyOf, Tryd.f30, List.getD, List.getElem?_cons_zero, List.getElem?_cons_succ, Option.getD_some]
@[simp] theorem n30_29 (s : List V) (H : Heap) : evCode P Γ call n f m (cAt [1, 1, 0] B30) s H = regNext (evOpsGo P Γ call r30_29.1 r30_29.1 s H) := at_region (by kernel_rfl) r30_29.2 s H
attribute [simp] r30_29
@[simp] theorem n30_30 (s : List V) (H : Heap) : evCode P Γ call n f m (cAt [1, 1, 1] B30) s H = some (.ret, s, H) := at_ret (by kernel_rfl) s H
theorem b30 {k : Nat} (ho : ∀ args H, Γ.orc 30 args H = none) (args : List V) (H : Heap) (ha : args.length ≤ 44) : evF Tryd.prog Γ (k + 1) 30 args H = bodyEnd Tryd.prog [.tmp 2] H.length (evCode Tryd.prog Γ (evF Tryd.prog Γ k) k 30 H.length (cAt [] B30) (mkL 44 V.undef (enumV 0 args)) H) := body_at Tryd.func30 (by decide) rfl ho rfl rfl args H ha
noncomputable def B32 : Code := bodyOf Tryd.f32
@[simp] theorem n32_1 (s : List V) (H : Heap) : evCode P Γ call n f m (cAt [] B32) s H = seqNext P Γ call n f m (cAt [1] B32) (evCode P Γ call n f m (cAt [0] B32) s H) := at_seq (by kernel_rfl) rfl rfl s H
noncomputable def r32_2 : {l : List Oper // opsOf (cAt [0] B32) = l} := by
  apply Subtype.mk
  dsimp only [opsOf, cAt, kids, B32, bodyOf, Tryd.f32, List.getD, List.getElem?_cons_zero, List.getElem?_cons_succ, Option.getD_some]
@[simp] theorem n32_2 (s : List V) (H : Heap) : evCode P Γ call n f m (cAt [0] B32) s H = regNext (evOpsGo P Γ call r32_2.1 r32_2.1 s H) := at_region (by kernel_rfl) r32_2.2 s H
attribute [simp] r32_2
@[simp] theorem n32_3 (s : List V) (H : Heap) : evCode P Γ call n f m (cAt [1] B32) s H = seqNext P Γ call n f m (cAt [1, 1] B32) (evCode P Γ call n f m (cAt [1, 0] B32) s H) := at_seq (by kernel_rfl) rfl rfl s H
@[simp] theorem n32_4 (s : List V) (H : Heap) : evCode P Γ call n f m (cAt [1, 0] B32) s H = seqNext P Γ call n f m (cAt [1, 0, 1] B32) (evCode P Γ call n f m (cAt [1, 0, 0] B32) s H) := at_seq (by kernel_rfl) rfl rfl s H
noncomputable def r32_5 : {l : List Oper // opsOf (cAt [1, 0, 0] B32) = l} := by
  apply Subtype.mk
  dsimp only [opsOf, cAt, kids, B32, bodyOf, Tryd.f32, List.getD, List.getElem?_cons_zero, List.getElem?_cons_succ, Option.getD_some]
@[simp] theorem n32_5 (s : List V) (H : Heap) : evCode P Γ call n f m (cAt [1, 0, 0] B32) s H = regNext (evOpsGo P Γ call r32_5.1 r32_5.1 s H) := at_region (by kernel_rfl) r32_5.2 s H
attribute [simp] r32_5
@[simp] theorem n32_6 (s : List V) (H : Heap) : evCode P Γ call n f m (cAt [1, 0, 1] B32) s H = blockNext 0 (evCode P Γ call n f m (cAt [1, 0, 1, 0] B32) s H) := at_block (by kernel_rfl) rfl s H
@[simp] theorem n32_7 (s : List V) (H : Heap) : evCode P Γ call n f m (cAt [1, 0, 1, 0] B32) s H = evLoopC P Γ call n f m (cAt [1, 0, 1, 0, 0] B32) n s H := at_loop (by kernel_rfl) rfl s H
noncomputable abbrev L32_2 : Code := cAt [1, 0, 1, 0, 0] B32
@[simp] theorem n32_7f : firstRegion (cAt [1, 0, 1, 0, 0] B32) = 2 := by kernel_rfl
@[simp] theorem n32_8 (s : List V) (H : Heap) : evCode P Γ call n f m (cAt [1, 0, 1, 0, 0] B32) s H = seqNext P Γ call n f m (cAt [1, 0, 1, 0, 0, 1] B32) (evCode P Γ call n f m (cAt [1, 0, 1, 0, 0, 0] B32) s H) := at_seq (by kernel_rfl) rfl rfl s H
noncomputable def r32_9 : {l : List Oper // opsOf (cAt [1, 0, 1, 0, 0, 0] B32) = l} := by
  apply Subtype.mk
  dsimp only [opsOf, cAt, kids, B32, bodyOf, Tryd.f32, List.getD, List.getElem?_cons_zero, List.getElem?_cons_succ, Option.getD_some]
@[simp] theorem n32_9 (s : List V) (H : Heap) : evCode P Γ call n f m (cAt [1, 0, 1, 0, 0, 0] B32) s H = regNext (evOpsGo P Γ call r32_9.1 r32_9.1 s H) := at_region (by kernel_rfl) r32_9.2 s H
attribute [simp] r32_9
@[simp] theorem n32_10 (s : List V) (H : Heap) : evCode P Γ call n f m (cAt [1, 0, 1, 0, 0, 1] B32) s H = seqNext P Γ call n f m (cAt [1, 0, 1, 0, 0, 1, 1] B32) (evCode P Γ call n f m (cAt [1, 0, 1, 0, 0, 1, 0] B32) s H) := at_seq (by kernel_rfl) rfl rfl s H
@[simp] theorem n32_11 (s : List V) (H : Heap) : evCode P Γ call n f m (cAt [1, 0, 1, 0, 0, 1, 0] B32) s H = condW P Γ call n f m (cAt [1, 0, 1, 0, 0, 1, 0, 0] B32) (cAt [1, 0, 1, 0, 0, 1, 0, 1] B32) s H (evOperand Γ s (.tmp 9)) := at_cond (by kernel_rfl) (by kernel_rfl) rfl rfl s H
@[simp] theorem n32_12 (s : List V) (H : Heap) : evCode P Γ call n f m (cAt [1, 0, 1, 0, 0, 1, 0, 0] B32) s H = some (.normal, s, H) := at_skip (by kernel_rfl) s H
@[simp] theorem n32_13 (s : List V) (H : Heap) : evCode P Γ call n f m (cAt [1, 0, 1, 0, 0, 1, 0, 1] B32) s H = some (.exit 0, s, H) := at_exit (by kernel_rfl) s H
@[simp] theorem n32_14 (s : List V) (H : Heap) : evCode P Γ call n f m (cAt [1, 0, 1, 0, 0, 1, 1] B32) s H = seqNext P Γ call n f m (cAt [1, 0, 1, 0, 0, 1, 1, 1] B32) (evCode P Γ call n f m (cAt [1, 0, 1, 0, 0, 1, 1, 0] B32) s H) := at_seq (by kernel_rfl) rfl rfl s H
@[simp] theorem n32_15 (s : List V) (H : Heap) : evCode P Γ call n f m (cAt [1, 0, 1, 0, 0, 1, 1, 0] B32) s H = blockNext 1 (evCode P Γ call n f m (cAt [1, 0, 1, 0, 0, 1, 1, 0, 0] B32) s H) := at_block (by kernel_rfl) rfl s H
@[simp] theorem n32_16 (s : List V) (H : Heap) : evCode P Γ call n f m (cAt [1, 0, 1, 0, 0, 1, 1, 0, 0] B32) s H = seqNext P Γ call n f m (cAt [1, 0, 1, 0, 0, 1, 1, 0, 0, 1] B32) (evCode P Γ call n f m (cAt [1, 0, 1, 0, 0, 1, 1, 0, 0, 0] B32) s H) := at_seq (by kernel_rfl) rfl rfl s H
noncomputable def r32_17 : {l : List Oper // opsOf (cAt [1, 0, 1, 0, 0, 1, 1, 0, 0, 0] B32) = l} := by
  apply Subtype.mk
  dsimp only [opsOf, cAt, kids, B32, bodyOf, Tryd.f32, List.getD, List.getElem?_cons_zero, List.getElem?_cons_succ, Option.getD_some]
@[simp] theorem n32_17 (s : List V) (H : Heap) : evCode P Γ call n f m (cAt [1, 0, 1, 0, 0, 1, 1, 0, 0, 0] B32) s H = regNext (evOpsGo P Γ call r32_17.1 r32_17.1 s H) := at_region (by kernel_rfl) r32_17.2 s H
attribute [simp] r32_17
@[simp] theorem n32_18 (s : List V) (H : Heap) : evCode P Γ call n f m (cAt [1, 0, 1, 0, 0, 1, 1, 0, 0, 1] B32) s H = seqNext P Γ call n f m (cAt [1, 0, 1, 0, 0, 1, 1, 0, 0, 1, 1] B32) (evCode P Γ call n f m (cAt [1, 0, 1, 0, 0, 1, 1, 0, 0, 1, 0] B32) s H) := at_seq (by kernel_rfl) rfl rfl s H
noncomputable def r32_19 : {l : List Oper // opsOf (cAt [1, 0, 1, 0, 0, 1, 1, 0, 0, 1, 0] B32) = l} := by
  apply Subtype.mk
  dsimp only [opsOf, cAt, kids, B32, bodyOf, Tryd.f32, List.getD, List.getElem?_cons_zero, List.getElem?_cons_succ, Option.getD_some]
@[simp] theorem n32_19 (s : List V) (H : Heap) : evCode P Γ call n f m (cAt [1, 0, 1, 0, 0, 1, 1, 0, 0, 1, 0] B32) s H = regNext (evOpsGo P Γ call r32_19.1 r32_19.1 s H) := at_region (by kernel_rfl) r32_19.2 s H
attribute [simp] r32_19
@[simp] theorem n32_20 (s : List V) (H : Heap) : evCode P Γ call n f m (cAt [1, 0, 1, 0, 0, 1, 1, 0, 0, 1, 1] B32) s H = condW P Γ call n f m (cAt [1, 0, 1, 0, 0, 1, 1, 0, 0, 1, 1, 0] B32) (cAt [1, 0, 1, 0, 0, 1, 1, 0, 0, 1, 1, 1] B32) s H (evOperand Γ s (.tmp 16)) := at_cond (by kernel_rfl) (by kernel_rfl) rfl rfl s H
@[simp] theorem n32_21 (s : List V) (H : Heap) : evCode P Γ call n f m (cAt [1, 0, 1, 0, 0, 1, 1, 0, 0, 1, 1, 0] B32) s H = seqNext P Γ call n f m (cAt [1, 0, 1, 0, 0, 1, 1, 0, 0, 1, 1, 0, 1] B32) (evCode P Γ call n f m (cAt [1, 0, 1, 0, 0, 1, 1, 0, 0, 1, 1, 0, 0] B32) s H) := at_seq (by kernel_rfl) rfl rfl s H
noncomputable def r32_22 : {l : List Oper // opsOf (cAt [1, 0, 1, 0, 0, 1, 1, 0, 0, 1, 1, 0, 0] B32) = l} := by
  apply Subtype.mk
  dsimp only [opsOf, cAt, kids, B32, bodyOf, Tryd.f32, List.getD, List.getElem?_cons_zero, List.getElem?_cons_succ, Option.getD_some]
@[simp] theorem n32_22 (s : List V) (H : Heap) : evCode P Γ call n f m (cAt [1, 0, 1, 0, 0, 1, 1, 0, 0, 1, 1, 0, 0] B32) s H = regNext (evOpsGo P Γ call r32_22.1 r32_22.1 s H) := at_region (by kernel_rfl) r32_22.2 s H
attribute [simp] r32_22
@[simp] theorem n32_23 (s : List V) (H : Heap) : evCode P Γ call n f m (cAt [1, 0, 1, 0, 0, 1, 1, 0, 0, 1, 1, 0, 1] B32) s H = some (.ret, s, H) := at_ret (by kernel_rfl) s H
@[simp] theorem n32_24 (s : List V) (H : Heap) : evCode P Γ call n f m (cAt [1, 0, 1, 0, 0, 1, 1, 0, 0, 1, 1, 1] B32) s H = some (.normal, s, H) := at_skip (by kernel_rfl) s H
noncomputable def r32_25 : {l : List Oper // opsOf (cAt [1, 0, 1, 0, 0, 1, 1, 1] B32) = l} := by
  apply Subtype.mk
  dsimp only [opsOf, cAt, kids, B32, bodyOf, Tryd.f32, List.getD, List.getElem?_cons_zero, List.getElem?_cons_succ, Option.getD_some]
@[simp] theorem n32_25 (s : List V) (H : Heap) : evCode P Γ call n f m (cAt [1, 0, 1, 0, 0, 1, 1, 1] B32) s H = regNext (evOpsGo P Γ call r32_25.1 r32_25.1 s H) := at_region (by kernel_rfl) r32_25.2 s H
attribute [simp] r32_25
@[simp] theorem n32_26 (s : List V) (H : Heap) : evCode P Γ call n f m (cAt [1, 1] B32) s H = seqNext P Γ call n f m (cAt [1, 1, 1] B32) (evCode P Γ call n f m (cAt [1, 1, 0] B32) s H) := at_seq (by kernel_rfl) rfl rfl s H
noncomputable def r32_27 : {l : List Oper // opsOf (cAt [1, 1, 0] B32) = l} := by
  apply Subtype.mk
  dsimp only [opsOf, cAt, kids, B32, bodyOf, Tryd.f32, List.getD, List.getElem?_cons_zero, List.getElem?_cons_succ, Option.getD_some]
@[simp] theorem n32_27 (s : List V) (H : Heap) : evCode P Γ call n f m (cAt [1, 1, 0] B32) s H = regNext (evOpsGo P Γ call r32_27.1 r32_27.1 s H) := at_region (by kernel_rfl) r32_27.2 s H
attribute [simp] r32_27
@[simp] theorem n32_28 (s : List V) (H : Heap) : evCode P Γ call n f m (cAt [1, 1, 1] B32) s H = some (.ret, s, H) := at_ret (by kernel_rfl) s H
theorem b32 {k : Nat} (ho : ∀ args H, Γ.orc 32 args H = none) (args : List V) (H : Heap) (ha : args.length ≤ 19) : evF Tryd.prog Γ (k + 1) 32 args H = bodyEnd Tryd.prog [.tmp 4] H.length (evCode Tryd.prog Γ (evF Tryd.prog Γ k) k 32 H.length (cAt [] B32) (mkL 19 V.undef (enumV 0 args)) H) := body_at Tryd.func32 (by decide) rfl ho rfl rfl args H ha
noncomputable def B35 : Code := bodyOf Tryd.f35
@[simp] theorem n35_1 (s : List V) (H : Heap) : evCode P Γ call n f m (cAt [] B35) s H = seqNext P Γ call n f m (cAt [1] B35) (evCode P Γ call n f m (cAt [0] B35) s H) := at_seq (by kernel_rfl) rfl rfl s H
noncomputable def r35_2 : {l : List Oper // opsOf (cAt [0] B35) = l} := by
  apply Subtype.mk
  dsimp only [opsOf, cAt, kids, B35, bodyOf, Tryd.f35, List.getD, List.getElem?_cons_zero, List.getElem?_cons_succ, Option.getD_some]
@[simp] theorem n35_2 (s : List V) (H : Heap) : evCode P Γ call n f m (cAt [0] B35) s H = regNext (evOpsGo P Γ call r35_2.1 r35_2.1 s H) := at_region (by kernel_rfl) r35_2.2 s H
attribute [simp] r35_2
@[simp] theorem n35_3 (s : List V) (H : Heap) : evCode P Γ call n f m (cAt [1] B35) s H = seqNext P Γ call n f m (cAt [1, 1] B35) (evCode P Γ call n f m (cAt [1, 0] B35) s H) := at_seq (by kernel_rfl) rfl rfl s H
@[simp] theorem n35_4 (s : List V) (H : Heap) : evCode P Γ call n f m (cAt [1, 0] B35) s H = seqNext P Γ call n f m (cAt [1, 0, 1] B35) (evCode P Γ call n f m (cAt [1, 0, 0] B35) s H) := at_seq (by kernel_rfl) rfl rfl s H
noncomputable def r35_5 : {l : List Oper // opsOf (cAt [1, 0, 0] B35) = l} := by
  apply Subtype.mk
  dsimp only [opsOf, cAt, kids, B35, bodyOf, Tryd.f35, List.getD, List.getElem?_cons_zero, List.getElem?_cons_succ, Option.getD_some]
@[simp] theorem n35_5 (s : List V) (H : Heap) : evCode P Γ call n f m (cAt [1, 0, 0] B35) s H = regNext (evOpsGo P Γ call r35_5.1 r35_5.1 s H) := at_region (by kernel_rfl) r35_5.2 s H
attribute [simp] r35_5
@[simp] theorem n35_6 (s : List V) (H : Heap) : evCode P Γ call n f m (cAt [1, 0, 1] B35) s H = condW P Γ call n f m (cAt [1, 0, 1, 0] B35) (cAt [1, 0, 1, 1] B35) s H (evOperand Γ s (.tmp 7)) := at_cond (by kernel_rfl) (by kernel_rfl) rfl rfl s H
noncomputable def r35_7 : {l : List Oper // opsOf (cAt [1, 0, 1, 0] B35) = l} := by
  apply Subtype.mk
  dsimp only [opsOf, cAt, kids, B35, bodyOf, Tryd.f35, List.getD, List.getElem?_cons_zero, List.getElem?_cons_succ, Option.getD_some]
@[simp] theorem n35_7 (s : List V) (H : Heap) : evCode P Γ call n f m (cAt [1, 0, 1, 0] B35) s H = regNext (evOpsGo P Γ call r35_7.1 r35_7.1 s H) := at_region (by kernel_rfl) r35_7.2 s H
attribute [simp] r35_7
@[simp] theorem n35_8 (s : List V) (H : Heap) : evCode P Γ call n f m (cAt [1, 0, 1, 1] B35) s H = some (.normal, s, H) := at_skip (by kernel_rfl) s H
@[simp] theorem n35_9 (s : List V) (H : Heap) : evCode P Γ call n f m (cAt [1, 1] B35) s H = seqNext P Γ call n f m (cAt [1, 1, 1] B35) (evCode P Γ call n f m (cAt [1, 1, 0] B35) s H) := at_seq (by kernel_rfl) rfl rfl s H
noncomputable def r35_10 : {l : List Oper // opsOf (cAt [1, 1, 0] B35) = l} := by
  apply Subtype.mk
  dsimp only [opsOf, cAt, kids, B35, bodyOf, Tryd.f35, List.getD, List.getElem?_cons_zero, List.getElem?_cons_succ, Option.getD_some]
@[simp] theorem n35_10 (s : List V) (H : Heap) : evCode P Γ call n f m (cAt [1, 1, 0] B35) s H = regNext (drawR P Γ call r35_10.1 [([5, 6, 7, 8, 9, 11], [14, 15, 16, 17, 18, 20]), ([5, 6, 7, 8, 9, 11], [14, 15, 16, 17, 18, 20]), ([5, 6, 7, 8, 9, 11], [14, 15, 16, 17, 18, 20]), ([5, 6, 7, 8, 9, 11], [14, 15, 16, 17, 18, 20]), ([5, 6, 7, 8, 9, 11], [14, 15, 16, 17, 18, 20]), ([0, 1, 2, 3, 4, 11], [9, 10, 11, 12, 13, 20]), ([0, 1, 2, 3, 4, 11], [9, 10, 11, 12, 13, 20]), ([0, 1, 2, 3, 4, 11], [9, 10, 11, 12, 13, 20]), ([0, 1, 2, 3, 4, 11], [9, 10, 11, 12, 13, 20]), ([0, 1, 2, 3, 4, 11], [9, 10, 11, 12, 13, 20]), ([11], [20]), ([0, 1, 2, 3, 4, 5, 6, 7, 8, 9, 10], [9, 10, 11, 12, 13, 14, 15, 16, 17, 18, 19]), ([], [])] s H) := at_drawT (by kernel_rfl) r35_10.2 (by kernel_rfl) s H
attribute [simp] r35_10
@[simp] theorem n35_11 (s : List V) (H : Heap) : evCode P Γ call n f m (cAt [1, 1, 1] B35) s H = condW P Γ call n f m (cAt [1, 1, 1, 0] B35) (cAt [1, 1, 1, 1] B35) s H (evOperand Γ s (.tmp 21)) := at_cond (by kernel_rfl) (by kernel_rfl) rfl rfl s H
noncomputable def r35_12 : {l : List Oper // opsOf (cAt [1, 1, 1, 0] B35) = l} := by
  apply Subtype.mk
  dsimp only [opsOf, cAt, kids, B35, bodyOf, Tryd.f35, List.getD, List.getElem?_cons_zero, List.getElem?_cons_succ, Option.getD_some]
@[simp] theorem n35_12 (s : List V) (H : Heap) : evCode P Γ call n f m (cAt [1, 1, 1, 0] B35) s H = regNext (evOpsGo P Γ call r35_12.1 r35_12.1 s H) := at_region (by kernel_rfl) r35_12.2 s H
attribute [simp] r35_12
@[simp] theorem n35_13 (s : List V) (H : Heap) : evCode P Γ call n f m (cAt [1, 1, 1, 1] B35) s H = some (.normal, s, H) := at_skip (by kernel_rfl) s H
theorem b35 {k : Nat} (ho : ∀ args H, Γ.orc 35 args H = none) (args : List V) (H : Heap) (ha : args.length ≤ 25) : evF Tryd.prog Γ (k + 1) 35 args H = bodyEnd Tryd.prog [] H.length (evCode Tryd.prog Γ (evF Tryd.prog Γ k) k 35 H.length (cAt [] B35) (mkL 25 V.undef (enumV 0 args)) H) := body_at Tryd.func35 (by decide) rfl ho rfl rfl args H ha
noncomputable def B36 : Code := bodyOf Tryd.f36
@[simp] theorem n36_1 (s : List V) (H : Heap) : evCode P Γ call n f m (cAt [] B36) s H = seqNext P Γ call n f m (cAt [1] B36) (evCode P Γ call n f m (cAt [0] B36) s H) := at_seq (by kernel_rfl) rfl rfl s H
noncomputable def r36_2 : {l : List Oper // opsOf (cAt [0] B36) = l} := by
  apply Subtype.mk
  dsimp only [opsOf, cAt, kids, B36, bodyOf, Tryd.f36, List.getD, List.getElem?_cons_zero, List.getElem?_cons_succ, Option.getD_some]
@[simp] theorem n36_2 (s : List V) (H : Heap) : evCode P Γ call n f m (cAt [0] B36) s H = regNext (evOpsGo P Γ call r36_2.1 r36_2.1 s H) := at_region (by kernel_rfl) r36_2.2 s H
attribute [simp] r36_2
@[simp] theorem n36_3 (s : List V) (H : Heap) : evCode P Γ call n f m (cAt [1] B36) s H = seqNext P Γ call n f m (cAt [1, 1] B36) (evCode P Γ call n f m (cAt [1, 0] B36) s H) := at_seq (by kernel_rfl) rfl rfl s H
noncomputable def r36_4 : {l : List Oper // opsOf (cAt [1, 0] B36) = l} := by
  apply Subtype.mk
  dsimp only [opsOf, cAt, kids, B36, bodyOf, Tryd.f36, List.getD, List.getElem?_cons_zero, List.getElem?_cons_succ, Option.getD_some]
@[simp] theorem n36_4 (s : List V) (H : Heap) : evCode P Γ call n f m (cAt [1, 0] B36) s H = regNext (evOpsGo P Γ call r36_4.1 r36_4.1 s H) := at_region (by kernel_rfl) r36_4.2 s H
attribute [simp] r36_4
@[simp] theorem n36_5 (s : List V) (H : Heap) : evCode P Γ call n f m (cAt [1, 1] B36) s H = seqNext P Γ call n f m (cAt [1, 1, 1] B36) (evCode P Γ call n f m (cAt [1, 1, 0] B36) s H) := at_seq (by kernel_rfl) rfl rfl s H
noncomputable def r36_6 : {l : List Oper // opsOf (cAt [1, 1, 0] B36) = l} := by
  apply Subtype.mk
  dsimp only [opsOf, cAt, kids, B36, bodyOf, Tryd.f36, List.getD, List.getElem?_cons_zero, List.getElem?_cons_succ, Option.getD_some]
@[simp] theorem n36_6 (s : List V) (H : Heap) : evCode P Γ call n f m (cAt [1, 1, 0] B36) s H = regNext (evOpsGo P Γ call r36_6.1 r36_6.1 s H) := at_region (by kernel_rfl) r36_6.2 s H
attribute [simp] r36_6
@[simp] theorem n36_7 (s : List V) (H : Heap) : evCode P Γ call n f m (cAt [1, 1, 1] B36) s H = seqNext P Γ call n f m (cAt [1, 1, 1, 1] B36) (evCode P Γ call n f m (cAt [1, 1, 1, 0] B36) s H) := at_seq (by kernel_rfl) rfl rfl s H
noncomputable def r36_8 : {l : List Oper // opsOf (cAt [1, 1, 1, 0] B36) = l} := by
  apply Subtype.mk
  dsimp only [opsOf, cAt, kids, B36, bodyOf, Tryd.f36, List.getD, List.getElem?_cons_zero, List.getElem?_cons_succ, Option.getD_some]
@[simp] theorem n36_8 (s : List V) (H : Heap) : evCode P Γ call n f m (cAt [1, 1, 1, 0] B36) s H = regNext (evOpsGo P Γ call r36_8.1 r36_8.1 s H) := at_region (by kernel_rfl) r36_8.2 s H
attribute [simp] r36_8
@[simp] theorem n36_9 (s : List V) (H : Heap) : evCode P Γ call n f m (cAt [1, 1, 1, 1] B36) s H = some (.ret, s, H) := at_ret (by kernel_rfl) s H
theorem b36 {k : Nat} (ho : ∀ args H, Γ.orc 36 args H = none) (args : List V) (H : Heap) (ha : args.length ≤ 19) : evF Tryd.prog Γ (k + 1) 36 args H = bodyEnd Tryd.prog [.tmp 4, .tmp 5] H.length (evCode Tryd.prog Γ (evF Tryd.prog Γ k) k 36 H.length (cAt [] B36) (mkL 19 V.undef (enumV 0 args)) H) := body_at Tryd.func36 (by decide) rfl ho rfl rfl args H ha
noncomputable def B37 : Code := bodyOf Tryd.f37
@[simp] theorem n37_1 (s : List V) (H : Heap) : evCode P Γ call n f m (cAt [] B37) s H = seqNext P Γ call n f m (cAt [1] B37) (evCode P Γ call n f m (cAt [0] B37) s H) := at_seq (by kernel_rfl) rfl rfl s H
noncomputable def r37_2 : {l : List Oper // opsOf (cAt [0] B37) = l} := by
  apply Subtype.mk
  dsimp only [opsOf, cAt, kids, B37, bodyOf, Tryd.f37, List.getD, List.getElem?_cons_zero, List.getElem?_cons_succ, Option.getD_some]
@[simp] theorem n37_2 (s : List V) (H : Heap) : evCode P Γ call n f m (cAt [0] B37) s H = regNext (evOpsGo P Γ call r37_2.1 r37_2.1 s H) := at_region (by kernel_rfl) r37_2.2 s H
attribute [simp] r37_2
@[simp] theorem n37_3 (s : List V) (H : Heap) : evCode P Γ call n f m (cAt [1] B37) s H = seqNext P Γ call n f m (cAt [1, 1] B37) (evCode P Γ call n f m (cAt [1, 0] B37) s H) := at_seq (by kernel_rfl) rfl rfl s H
noncomputable def r37_4 : {l : List Oper // opsOf (cAt [1, 0] B37) = l} := by
  apply Subtype.mk
  dsimp only [opsOf, cAt, kids, B37, bodyOf, Tryd.f37, List.getD, List.getElem?_cons_zero, List.getElem?_cons_succ, Option.getD_some]
@[simp] theorem n37_4 (s : List V) (H : Heap) : evCode P Γ call n f m (cAt [1, 0] B37) s H = regNext (drawR P Γ call r37_4.1 [([5, 6, 7, 8, 9], [8, 9, 10, 11, 12]), ([5, 6, 7, 8, 9], [8, 9, 10, 11, 12]), ([5, 6, 7, 8, 9], [8, 9, 10, 11, 12]), ([5, 6, 7, 8, 9], [8, 9, 10, 11, 12]), ([5, 6, 7, 8, 9], [8, 9, 10, 11, 12]), ([0, 1, 2, 3, 4], [3, 4, 5, 6, 7]), ([0, 1, 2, 3, 4], [3, 4, 5, 6, 7]), ([0, 1, 2, 3, 4], [3, 4, 5, 6, 7]), ([0, 1, 2, 3, 4], [3, 4, 5, 6, 7]), ([0, 1, 2, 3, 4], [3, 4, 5, 6, 7]), ([], []), ([], [])] s H) := at_drawT (by kernel_rfl) r37_4.2 (by kernel_rfl) s H
attribute [simp] r37_4
@[simp] theorem n37_5 (s : List V) (H : Heap) : evCode P Γ call n f m (cAt [1, 1] B37) s H = some (.ret, s, H) := at_ret (by kernel_rfl) s H
theorem b37 {k : Nat} (ho : ∀ args H, Γ.orc 37 args H = none) (args : List V) (H : Heap) (ha : args.length ≤ 14) : evF Tryd.prog Γ (k + 1) 37 args H = bodyEnd Tryd.prog [.tmp 2] H.length (evCode Tryd.prog Γ (evF Tryd.prog Γ k) k 37 H.length (cAt [] B37) (mkL 14 V.undef (enumV 0 args)) H) := body_at Tryd.func37 (by decide) rfl ho rfl rfl args H ha
noncomputable def B44 : Code := bodyOf Tryd.f44
@[simp] theorem n44_1 (s : List V) (H : Heap) : evCode P Γ call n f m (cAt [] B44) s H = seqNext P Γ call n f m (cAt [1] B44) (evCode P Γ call n f m (cAt [0] B44) s H) := at_seq (by kernel_rfl) rfl rfl s H
noncomputable def r44_2 : {l : List Oper // opsOf (cAt [0] B44) = l} := by
  apply Subtype.mk
  dsimp only [opsOf, cAt, kids, B44, bodyOf, Tryd.f44, List.getD, List.getElem?_cons_zero, List.getElem?_cons_succ, Option.getD_some]
@[simp] theorem n44_2 (s : List V) (H : Heap) : evCode P Γ call n f m (cAt [0] B44) s H = regNext (evOpsGo P Γ call r44_2.1 r44_2.1 s H) := at_region (by kernel_rfl) r44_2.2 s H
attribute [simp] r44_2
@[simp] theorem n44_3 (s : List V) (H : Heap) : evCode P Γ call n f m (cAt [1] B44) s H = condW P Γ call n f m (cAt [1, 0] B44) (cAt [1, 1] B44) s H (evOperand Γ s (.tmp 6)) := at_cond (by kernel_rfl) (by kernel_rfl) rfl rfl s H
noncomputable def r44_4 : {l : List Oper // opsOf (cAt [1, 0] B44) = l} := by
  apply Subtype.mk
  dsimp only [opsOf, cAt, kids, B44, bodyOf, Tryd.f44, List.getD, List.getElem?_cons_zero, List.getElem?_cons_succ, Option.getD_some]
@[simp] theorem n44_4 (s : List V) (H : Heap) : evCode P Γ call n f m (cAt [1, 0] B44) s H = regNext (evOpsGo P Γ call r44_4.1 r44_4.1 s H) := at_region (by kernel_rfl) r44_4.2 s H
attribute [simp] r44_4
@[simp] theorem n44_5 (s : List V) (H : Heap) : evCode P Γ call n f m (cAt [1, 1] B44) s H = seqNext P Γ call n f m (cAt [1, 1, 1] B44) (evCode P Γ call n f m (cAt [1, 1, 0] B44) s H) := at_seq (by kernel_rfl) rfl rfl s H
noncomputable def r44_6 : {l : List Oper // opsOf (cAt [1, 1, 0] B44) = l} := by
  apply Subtype.mk
  dsimp only [opsOf, cAt, kids, B44, bodyOf, Tryd.f44, List.getD, List.getElem?_cons_zero, List.getElem?_cons_succ, Option.getD_some]
@[simp] theorem n44_6 (s : List V) (H : Heap) : evCode P Γ call n f m (cAt [1, 1, 0] B44) s H = regNext (evOpsGo P Γ call r44_6.1 r44_6.1 s H) := at_region (by kernel_rfl) r44_6.2 s H
attribute [simp] r44_6
@[simp] theorem n44_7 (s : List V) (H : Heap) : evCode P Γ call n f m (cAt [1, 1, 1] B44) s H = condW P Γ call n f m (cAt [1, 1, 1, 0] B44) (cAt [1, 1, 1, 1] B44) s H (evOperand Γ s (.tmp 19)) := at_cond (by kernel_rfl) (by kernel_rfl) rfl rfl s H
-- no piece of 44 at [1, 1, 1, 0]: refuse
@[simp] theorem n44_9 (s : List V) (H : Heap) : evCode P Γ call n f m (cAt [1, 1, 1, 1] B44) s H = some (.normal, s, H) := at_skip (by kernel_rfl) s H
theorem b44 {k : Nat} (ho : ∀ args H, Γ.orc 44 args H = none) (args : List V) (H : Heap) (ha : args.length ≤ 20) : evF Tryd.prog Γ (k + 1) 44 args H = bodyEnd Tryd.prog [] H.length (evCode Tryd.prog Γ (evF Tryd.prog Γ k) k 44 H.length (cAt [] B44) (mkL 20 V.undef (enumV 0 args)) H) := body_at Tryd.func44 (by decide) rfl ho rfl rfl args H ha
noncomputable def B45 : Code := bodyOf Tryd.f45
@[simp] theorem n45_1 (s : List V) (H : Heap) : evCode P Γ call n f m (cAt [] B45) s H = seqNext P Γ call n f m (cAt [1] B45) (evCode P Γ call n f m (cAt [0] B45) s H) := at_seq (by kernel_rfl) rfl rfl s H
noncomputable def r45_2 : {l : List Oper // opsOf (cAt [0] B45) = l} := by
  apply Subtype.mk
  dsimp only [opsOf, cAt, kids, B45, bodyOf, Tryd.f45, List.getD, List.getElem?_cons_zero, List.getElem?_cons_succ, Option.getD_some]
@[simp] theorem n45_2 (s : List V) (H : Heap) : evCode P Γ call n f m (cAt [0] B45) s H = regNext (drawR P Γ call r45_2.1 [([6, 9, 10, 11, 12, 13], [11, 14, 15, 16, 17, 18]), ([6, 9, 10, 11, 12, 13], [11, 14, 15, 16, 17, 18]), ([6, 9, 10, 11, 12, 13], [11, 14, 15, 16, 17, 18]), ([6, 9, 10, 11, 12, 13], [11, 14, 15, 16, 17, 18]), ([6, 9, 10, 11, 12, 13], [11, 14, 15, 16, 17, 18]), ([6, 9, 10, 11, 12, 13], [11, 14, 15, 16, 17, 18]), ([0, 1, 2, 3, 4, 5, 9, 10, 11, 12, 13], [5, 6, 7, 8, 9, 10, 14, 15, 16, 17, 18]), ([9, 10, 11, 12, 13], [14, 15, 16, 17, 18]), ([9, 10, 11, 12, 13], [14, 15, 16, 17, 18]), ([0, 1, 2, 3, 4, 5, 6, 7, 8], [5, 6, 7, 8, 9, 10, 11, 12, 13]), ([0, 1, 2, 3, 4, 5, 6, 7, 8], [5, 6, 7, 8, 9, 10, 11, 12, 13]), ([0, 1, 2, 3, 4, 5, 6, 7, 8], [5, 6, 7, 8, 9, 10, 11, 12, 13]), ([0, 1, 2, 3, 4, 5, 6, 7, 8], [5, 6, 7, 8, 9, 10, 11, 12, 13]), ([0, 1, 2, 3, 4, 5, 6, 7, 8], [5, 6, 7, 8, 9, 10, 11, 12, 13]), ([], []), ([], [])] s H) := at_drawT (by kernel_rfl) r45_2.2 (by kernel_rfl) s H
attribute [simp] r45_2
@[simp] theorem n45_3 (s : List V) (H : Heap) : evCode P Γ call n f m (cAt [1] B45) s H = seqNext P Γ call n f m (cAt [1, 1] B45) (evCode P Γ call n f m (cAt [1, 0] B45) s H) := at_seq (by kernel_rfl) rfl rfl s H
noncomputable def r45_4 : {l : List Oper // opsOf (cAt [1, 0] B45) = l} := by
  apply Subtype.mk
  dsimp only [opsOf, cAt, kids, B45, bodyOf, Tryd.f45, List.getD, List.getElem?_cons_zero, List.getElem?_cons_succ, Option.getD_some]
@[simp] theorem n45_4 (s : List V) (H : Heap) : evCode P Γ call n f m (cAt [1, 0] B45) s H = regNext (evOpsGo P Γ call r45_4.1 r45_4.1 s H) := at_region (by kernel_rfl) r45_4.2 s H
attribute [simp] r45_4
noncomputable def r45_5 : {l : List Oper // opsOf (cAt [1, 1] B45) = l} := by
  apply Subtype.mk
  dsimp only [opsOf, cAt, kids, B45, bodyOf, Tryd.f45, List.getD, List.getElem?_cons_zero, List.getElem?_cons_succ, Option.getD_some]
@[simp] theorem n45_5 (s : List V) (H : Heap) : evCode P Γ call n f m (cAt [1, 1] B45) s H = regNext (evOpsGo P Γ call r45_5.1 r45_5.1 s H) := at_region (by kernel_rfl) r45_5.2 s H
attribute [simp] r45_5
theorem b45 {k : Nat} (ho : ∀ args H, Γ.orc 45 args H = none) (args : List V) (H : Heap) (ha : args.length ≤ 30) : evF Tryd.prog Γ (k + 1) 45 args H = bodyEnd Tryd.prog [] H.length (evCode Tryd.prog Γ (evF Tryd.prog Γ k) k 45 H.length (cAt [] B45) (mkL 30 V.undef (enumV 0 args)) H) := body_at Tryd.func45 (by decide) rfl ho rfl rfl args H ha
end
end Go.Ev.Tryd
