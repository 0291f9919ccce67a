/-
  CODE BY NAMES, printed by wip/tools/codes.py (own work).
-/
import Derived.Test.YtflmadkbppnmcaaDoorDkG
set_option maxRecDepth 100000
set_option linter.unusedVariables false
namespace Go.Ev.Tryd
open Go Go.Ev Go.Proofs
section
variable {P : Program} {Γ : Env} {call : CallF} {n f m : Nat}

noncomputable def B37 : Code := bodyOf Tryd.f37
@[simp] theorem n37_1 (s : List V) (H : Heap) : evCode P Γ call n f m (cAt [] B37) s H = seqNext P Γ call n f m (cAt [1] B37) (evCode P Γ call n f m (cAt [0] B37) s H) := at_seq (by kernel_rfl) rfl rfl s H
noncomputable def r37_2 : {l : List Oper // opsOf (cAt [0] B37) = l} := by
  apply Subtype.mk
  dsimp only [opsOf, cAt, kids, B37, bodyOf, Tryd.f37, List.getD, List.getElem?_cons_zero, List.getElem?_cons_succ, Option.getD_some]
@[simp] theorem n37_2 (s : List V) (H : Heap) : evCode P Γ call n f m (cAt [0] B37) s H = regNext (evOpsGo P Γ call r37_2.1 r37_2.1 s H) := at_region (by kernel_rfl) r37_2.2 s H
attribute [simp] r37_2
@[simp] theorem n37_3 (s : List V) (H : Heap) : evCode P Γ call n f m (cAt [1] B37) s H = seqNext P Γ call n f m (cAt [1, 1] B37) (evCode P Γ call n f m (cAt [1, 0] B37) s H) := at_seq (by kernel_rfl) rfl rfl s H
@[simp] theorem n37_4 (s : List V) (H : Heap) : evCode P Γ call n f m (cAt [1, 0] B37) s H = seqNext P Γ call n f m (cAt [1, 0, 1] B37) (evCode P Γ call n f m (cAt [1, 0, 0] B37) s H) := at_seq (by kernel_rfl) rfl rfl s H
noncomputable def r37_5 : {l : List Oper // opsOf (cAt [1, 0, 0] B37) = l} := by
  apply Subtype.mk
  dsimp only [opsOf, cAt, kids, B37, bodyOf, Tryd.f37, List.getD, List.getElem?_cons_zero, List.getElem?_cons_succ, Option.getD_some]
@[simp] theorem n37_5 (s : List V) (H : Heap) : evCode P Γ call n f m (cAt [1, 0, 0] B37) s H = regNext (evOpsGo P Γ call r37_5.1 r37_5.1 s H) := at_region (by kernel_rfl) r37_5.2 s H
attribute [simp] r37_5
@[simp] theorem n37_6 (s : List V) (H : Heap) : evCode P Γ call n f m (cAt [1, 0, 1] B37) s H = condW P Γ call n f m (cAt [1, 0, 1, 0] B37) (cAt [1, 0, 1, 1] B37) s H (evOperand Γ s (.tmp 6)) := at_cond (by kernel_rfl) (by kernel_rfl) rfl rfl s H
noncomputable def r37_7 : {l : List Oper // opsOf (cAt [1, 0, 1, 0] B37) = l} := by
  apply Subtype.mk
  dsimp only [opsOf, cAt, kids, B37, bodyOf, Tryd.f37, List.getD, List.getElem?_cons_zero, List.getElem?_cons_succ, Option.getD_some]
@[simp] theorem n37_7 (s : List V) (H : Heap) : evCode P Γ call n f m (cAt [1, 0, 1, 0] B37) s H = regNext (evOpsGo P Γ call r37_7.1 r37_7.1 s H) := at_region (by kernel_rfl) r37_7.2 s H
attribute [simp] r37_7
@[simp] theorem n37_8 (s : List V) (H : Heap) : evCode P Γ call n f m (cAt [1, 0, 1, 1] B37) s H = some (.normal, s, H) := at_skip (by kernel_rfl) s H
@[simp] theorem n37_9 (s : List V) (H : Heap) : evCode P Γ call n f m (cAt [1, 1] B37) s H = seqNext P Γ call n f m (cAt [1, 1, 1] B37) (evCode P Γ call n f m (cAt [1, 1, 0] B37) s H) := at_seq (by kernel_rfl) rfl rfl s H
@[simp] theorem n37_10 (s : List V) (H : Heap) : evCode P Γ call n f m (cAt [1, 1, 0] B37) s H = seqNext P Γ call n f m (cAt [1, 1, 0, 1] B37) (evCode P Γ call n f m (cAt [1, 1, 0, 0] B37) s H) := at_seq (by kernel_rfl) rfl rfl s H
noncomputable def r37_11 : {l : List Oper // opsOf (cAt [1, 1, 0, 0] B37) = l} := by
  apply Subtype.mk
  dsimp only [opsOf, cAt, kids, B37, bodyOf, Tryd.f37, List.getD, List.getElem?_cons_zero, List.getElem?_cons_succ, Option.getD_some]
@[simp] theorem n37_11 (s : List V) (H : Heap) : evCode P Γ call n f m (cAt [1, 1, 0, 0] B37) s H = regNext (evOpsGo P Γ call r37_11.1 r37_11.1 s H) := at_region (by kernel_rfl) r37_11.2 s H
attribute [simp] r37_11
@[simp] theorem n37_12 (s : List V) (H : Heap) : evCode P Γ call n f m (cAt [1, 1, 0, 1] B37) s H = seqNext P Γ call n f m (cAt [1, 1, 0, 1, 1] B37) (evCode P Γ call n f m (cAt [1, 1, 0, 1, 0] B37) s H) := at_seq (by kernel_rfl) rfl rfl s H
noncomputable def r37_13 : {l : List Oper // opsOf (cAt [1, 1, 0, 1, 0] B37) = l} := by
  apply Subtype.mk
  dsimp only [opsOf, cAt, kids, B37, bodyOf, Tryd.f37, List.getD, List.getElem?_cons_zero, List.getElem?_cons_succ, Option.getD_some]
@[simp] theorem n37_13 (s : List V) (H : Heap) : evCode P Γ call n f m (cAt [1, 1, 0, 1, 0] B37) s H = regNext (evOpsGo P Γ call r37_13.1 r37_13.1 s H) := at_region (by kernel_rfl) r37_13.2 s H
attribute [simp] r37_13
@[simp] theorem n37_14 (s : List V) (H : Heap) : evCode P Γ call n f m (cAt [1, 1, 0, 1, 1] B37) s H = condW P Γ call n f m (cAt [1, 1, 0, 1, 1, 0] B37) (cAt [1, 1, 0, 1, 1, 1] B37) s H (evOperand Γ s (.tmp 16)) := at_cond (by kernel_rfl) (by kernel_rfl) rfl rfl s H
noncomputable def r37_15 : {l : List Oper // opsOf (cAt [1, 1, 0, 1, 1, 0] B37) = l} := by
  apply Subtype.mk
  dsimp only [opsOf, cAt, kids, B37, bodyOf, Tryd.f37, List.getD, List.getElem?_cons_zero, List.getElem?_cons_succ, Option.getD_some]
@[simp] theorem n37_15 (s : List V) (H : Heap) : evCode P Γ call n f m (cAt [1, 1, 0, 1, 1, 0] B37) s H = regNext (evOpsGo P Γ call r37_15.1 r37_15.1 s H) := at_region (by kernel_rfl) r37_15.2 s H
attribute [simp] r37_15
@[simp] theorem n37_16 (s : List V) (H : Heap) : evCode P Γ call n f m (cAt [1, 1, 0, 1, 1, 1] B37) s H = some (.normal, s, H) := at_skip (by kernel_rfl) s H
@[simp] theorem n37_17 (s : List V) (H : Heap) : evCode P Γ call n f m (cAt [1, 1, 1] B37) s H = seqNext P Γ call n f m (cAt [1, 1, 1, 1] B37) (evCode P Γ call n f m (cAt [1, 1, 1, 0] B37) s H) := at_seq (by kernel_rfl) rfl rfl s H
noncomputable def r37_18 : {l : List Oper // opsOf (cAt [1, 1, 1, 0] B37) = l} := by
  apply Subtype.mk
  dsimp only [opsOf, cAt, kids, B37, bodyOf, Tryd.f37, List.getD, List.getElem?_cons_zero, List.getElem?_cons_succ, Option.getD_some]
@[simp] theorem n37_18 (s : List V) (H : Heap) : evCode P Γ call n f m (cAt [1, 1, 1, 0] B37) s H = regNext (evOpsGo P Γ call r37_18.1 r37_18.1 s H) := at_region (by kernel_rfl) r37_18.2 s H
attribute [simp] r37_18
@[simp] theorem n37_19 (s : List V) (H : Heap) : evCode P Γ call n f m (cAt [1, 1, 1, 1] B37) s H = some (.ret, s, H) := at_ret (by kernel_rfl) s H
theorem b37 {k : Nat} (ho : ∀ args H, Γ.orc 37 args H = none) (args : List V) (H : Heap) (ha : args.length ≤ 27) : evF Tryd.prog Γ (k + 1) 37 args H = bodyEnd Tryd.prog [.tmp 4] H.length (evCode Tryd.prog Γ (evF Tryd.prog Γ k) k 37 H.length (cAt [] B37) (mkL 27 V.undef (enumV 0 args)) H) := body_at Tryd.func37 (by decide) rfl ho rfl rfl args H ha
noncomputable def B20 : Code := bodyOf Tryd.f20
@[simp] theorem n20_1 (s : List V) (H : Heap) : evCode P Γ call n f m (cAt [] B20) s H = seqNext P Γ call n f m (cAt [1] B20) (evCode P Γ call n f m (cAt [0] B20) s H) := at_seq (by kernel_rfl) rfl rfl s H
noncomputable def r20_2 : {l : List Oper // opsOf (cAt [0] B20) = l} := by
  apply Subtype.mk
  dsimp only [opsOf, cAt, kids, B20, bodyOf, Tryd.f20, List.getD, List.getElem?_cons_zero, List.getElem?_cons_succ, Option.getD_some]
@[simp] theorem n20_2 (s : List V) (H : Heap) : evCode P Γ call n f m (cAt [0] B20) s H = regNext (evOpsGo P Γ call r20_2.1 r20_2.1 s H) := at_region (by kernel_rfl) r20_2.2 s H
attribute [simp] r20_2
@[simp] theorem n20_3 (s : List V) (H : Heap) : evCode P Γ call n f m (cAt [1] B20) s H = seqNext P Γ call n f m (cAt [1, 1] B20) (evCode P Γ call n f m (cAt [1, 0] B20) s H) := at_seq (by kernel_rfl) rfl rfl s H
@[simp] theorem n20_4 (s : List V) (H : Heap) : evCode P Γ call n f m (cAt [1, 0] B20) s H = seqNext P Γ call n f m (cAt [1, 0, 1] B20) (evCode P Γ call n f m (cAt [1, 0, 0] B20) s H) := at_seq (by kernel_rfl) rfl rfl s H
noncomputable def r20_5 : {l : List Oper // opsOf (cAt [1, 0, 0] B20) = l} := by
  apply Subtype.mk
  dsimp only [opsOf, cAt, kids, B20, bodyOf, Tryd.f20, List.getD, List.getElem?_cons_zero, List.getElem?_cons_succ, Option.getD_some]
@[simp] theorem n20_5 (s : List V) (H : Heap) : evCode P Γ call n f m (cAt [1, 0, 0] B20) s H = regNext (evOpsGo P Γ call r20_5.1 r20_5.1 s H) := at_region (by kernel_rfl) r20_5.2 s H
attribute [simp] r20_5
@[simp] theorem n20_6 (s : List V) (H : Heap) : evCode P Γ call n f m (cAt [1, 0, 1] B20) s H = condW P Γ call n f m (cAt [1, 0, 1, 0] B20) (cAt [1, 0, 1, 1] B20) s H (evOperand Γ s (.tmp 10)) := at_cond (by kernel_rfl) (by kernel_rfl) rfl rfl s H
@[simp] theorem n20_7 (s : List V) (H : Heap) : evCode P Γ call n f m (cAt [1, 0, 1, 0] B20) s H = seqNext P Γ call n f m (cAt [1, 0, 1, 0, 1] B20) (evCode P Γ call n f m (cAt [1, 0, 1, 0, 0] B20) s H) := at_seq (by kernel_rfl) rfl rfl s H
noncomputable def r20_8 : {l : List Oper // opsOf (cAt [1, 0, 1, 0, 0] B20) = l} := by
  apply Subtype.mk
  dsimp only [opsOf, cAt, kids, B20, bodyOf, Tryd.f20, List.getD, List.getElem?_cons_zero, List.getElem?_cons_succ, Option.getD_some]
@[simp] theorem n20_8 (s : List V) (H : Heap) : evCode P Γ call n f m (cAt [1, 0, 1, 0, 0] B20) s H = regNext (evOpsGo P Γ call r20_8.1 r20_8.1 s H) := at_region (by kernel_rfl) r20_8.2 s H
attribute [simp] r20_8
@[simp] theorem n20_9 (s : List V) (H : Heap) : evCode P Γ call n f m (cAt [1, 0, 1, 0, 1] B20) s H = some (.ret, s, H) := at_ret (by kernel_rfl) s H
@[simp] theorem n20_10 (s : List V) (H : Heap) : evCode P Γ call n f m (cAt [1, 0, 1, 1] B20) s H = some (.normal, s, H) := at_skip (by kernel_rfl) s H
@[simp] theorem n20_11 (s : List V) (H : Heap) : evCode P Γ call n f m (cAt [1, 1] B20) s H = seqNext P Γ call n f m (cAt [1, 1, 1] B20) (evCode P Γ call n f m (cAt [1, 1, 0] B20) s H) := at_seq (by kernel_rfl) rfl rfl s H
@[simp] theorem n20_12 (s : List V) (H : Heap) : evCode P Γ call n f m (cAt [1, 1, 0] B20) s H = seqNext P Γ call n f m (cAt [1, 1, 0, 1] B20) (evCode P Γ call n f m (cAt [1, 1, 0, 0] B20) s H) := at_seq (by kernel_rfl) rfl rfl s H
noncomputable def r20_13 : {l : List Oper // opsOf (cAt [1, 1, 0, 0] B20) = l} := by
  apply Subtype.mk
  dsimp only [opsOf, cAt, kids, B20, bodyOf, Tryd.f20, List.getD, List.getElem?_cons_zero, List.getElem?_cons_succ, Option.getD_some]
@[simp] theorem n20_13 (s : List V) (H : Heap) : evCode P Γ call n f m (cAt [1, 1, 0, 0] B20) s H = regNext (evOpsGo P Γ call r20_13.1 r20_13.1 s H) := at_region (by kernel_rfl) r20_13.2 s H
attribute [simp] r20_13
@[simp] theorem n20_14 (s : List V) (H : Heap) : evCode P Γ call n f m (cAt [1, 1, 0, 1] B20) s H = blockNext 0 (evCode P Γ call n f m (cAt [1, 1, 0, 1, 0] B20) s H) := at_block (by kernel_rfl) rfl s H
@[simp] theorem n20_15 (s : List V) (H : Heap) : evCode P Γ call n f m (cAt [1, 1, 0, 1, 0] B20) s H = evLoopC P Γ call n f m (cAt [1, 1, 0, 1, 0, 0] B20) n s H := at_loop (by kernel_rfl) rfl s H
noncomputable abbrev L20_4 : Code := cAt [1, 1, 0, 1, 0, 0] B20
@[simp] theorem n20_15f : firstRegion (cAt [1, 1, 0, 1, 0, 0] B20) = 4 := by kernel_rfl
@[simp] theorem n20_16 (s : List V) (H : Heap) : evCode P Γ call n f m (cAt [1, 1, 0, 1, 0, 0] B20) s H = seqNext P Γ call n f m (cAt [1, 1, 0, 1, 0, 0, 1] B20) (evCode P Γ call n f m (cAt [1, 1, 0, 1, 0, 0, 0] B20) s H) := at_seq (by kernel_rfl) rfl rfl s H
noncomputable def r20_17 : {l : List Oper // opsOf (cAt [1, 1, 0, 1, 0, 0, 0] B20) = l} := by
  apply Subtype.mk
  dsimp only [opsOf, cAt, kids, B20, bodyOf, Tryd.f20, List.getD, List.getElem?_cons_zero, List.getElem?_cons_succ, Option.getD_some]
@[simp] theorem n20_17 (s : List V) (H : Heap) : evCode P Γ call n f m (cAt [1, 1, 0, 1, 0, 0, 0] B20) s H = regNext (evOpsGo P Γ call r20_17.1 r20_17.1 s H) := at_region (by kernel_rfl) r20_17.2 s H
attribute [simp] r20_17
@[simp] theorem n20_18 (s : List V) (H : Heap) : evCode P Γ call n f m (cAt [1, 1, 0, 1, 0, 0, 1] B20) s H = seqNext P Γ call n f m (cAt [1, 1, 0, 1, 0, 0, 1, 1] B20) (evCode P Γ call n f m (cAt [1, 1, 0, 1, 0, 0, 1, 0] B20) s H) := at_seq (by kernel_rfl) rfl rfl s H
@[simp] theorem n20_19 (s : List V) (H : Heap) : evCode P Γ call n f m (cAt [1, 1, 0, 1, 0, 0, 1, 0] B20) s H = condW P Γ call n f m (cAt [1, 1, 0, 1, 0, 0, 1, 0, 0] B20) (cAt [1, 1, 0, 1, 0, 0, 1, 0, 1] B20) s H (evOperand Γ s (.tmp 14)) := at_cond (by kernel_rfl) (by kernel_rfl) rfl rfl s H
@[simp] theorem n20_20 (s : List V) (H : Heap) : evCode P Γ call n f m (cAt [1, 1, 0, 1, 0, 0, 1, 0, 0] B20) s H = some (.normal, s, H) := at_skip (by kernel_rfl) s H
@[simp] theorem n20_21 (s : List V) (H : Heap) : evCode P Γ call n f m (cAt [1, 1, 0, 1, 0, 0, 1, 0, 1] B20) s H = some (.exit 0, s, H) := at_exit (by kernel_rfl) s H
@[simp] theorem n20_22 (s : List V) (H : Heap) : evCode P Γ call n f m (cAt [1, 1, 0, 1, 0, 0, 1, 1] B20) s H = seqNext P Γ call n f m (cAt [1, 1, 0, 1, 0, 0, 1, 1, 1] B20) (evCode P Γ call n f m (cAt [1, 1, 0, 1, 0, 0, 1, 1, 0] B20) s H) := at_seq (by kernel_rfl) rfl rfl s H
@[simp] theorem n20_23 (s : List V) (H : Heap) : evCode P Γ call n f m (cAt [1, 1, 0, 1, 0, 0, 1, 1, 0] B20) s H = blockNext 1 (evCode P Γ call n f m (cAt [1, 1, 0, 1, 0, 0, 1, 1, 0, 0] B20) s H) := at_block (by kernel_rfl) rfl s H
@[simp] theorem n20_24 (s : List V) (H : Heap) : evCode P Γ call n f m (cAt [1, 1, 0, 1, 0, 0, 1, 1, 0, 0] B20) s H = seqNext P Γ call n f m (cAt [1, 1, 0, 1, 0, 0, 1, 1, 0, 0, 1] B20) (evCode P Γ call n f m (cAt [1, 1, 0, 1, 0, 0, 1, 1, 0, 0, 0] B20) s H) := at_seq (by kernel_rfl) rfl rfl s H
noncomputable def r20_25 : {l : List Oper // opsOf (cAt [1, 1, 0, 1, 0, 0, 1, 1, 0, 0, 0] B20) = l} := by
  apply Subtype.mk
  dsimp only [opsOf, cAt, kids, B20, bodyOf, Tryd.f20, List.getD, List.getElem?_cons_zero, List.getElem?_cons_succ, Option.getD_some]
@[simp] theorem n20_25 (s : List V) (H : Heap) : evCode P Γ call n f m (cAt [1, 1, 0, 1, 0, 0, 1, 1, 0, 0, 0] B20) s H = regNext (evOpsGo P Γ call r20_25.1 r20_25.1 s H) := at_region (by kernel_rfl) r20_25.2 s H
attribute [simp] r20_25
@[simp] theorem n20_26 (s : List V) (H : Heap) : evCode P Γ call n f m (cAt [1, 1, 0, 1, 0, 0, 1, 1, 0, 0, 1] B20) s H = seqNext P Γ call n f m (cAt [1, 1, 0, 1, 0, 0, 1, 1, 0, 0, 1, 1] B20) (evCode P Γ call n f m (cAt [1, 1, 0, 1, 0, 0, 1, 1, 0, 0, 1, 0] B20) s H) := at_seq (by kernel_rfl) rfl rfl s H
noncomputable def r20_27 : {l : List Oper // opsOf (cAt [1, 1, 0, 1, 0, 0, 1, 1, 0, 0, 1, 0] B20) = l} := by
  apply Subtype.mk
  dsimp only [opsOf, cAt, kids, B20, bodyOf, Tryd.f20, List.getD, List.getElem?_cons_zero, List.getElem?_cons_succ, Option.getD_some]
@[simp] theorem n20_27 (s : List V) (H : Heap) : evCode P Γ call n f m (cAt [1, 1, 0, 1, 0, 0, 1, 1, 0, 0, 1, 0] B20) s H = regNext (drawR P Γ call r20_27.1 [([1, 4, 5, 6, 7], [17, 20, 21, 22, 23]), ([0, 4, 5, 6, 7], [16, 20, 21, 22, 23]), ([4, 5, 6, 7], [20, 21, 22, 23]), ([4, 5, 6, 7], [20, 21, 22, 23]), ([0, 1, 2, 3, 5], [16, 17, 18, 19, 21]), ([0, 1, 2, 3, 4], [16, 17, 18, 19, 20]), ([0, 1, 2, 3], [16, 17, 18, 19]), ([0, 1, 2, 3], [16, 17, 18, 19]), ([], [])] s H) := at_drawT (by kernel_rfl) r20_27.2 (by kernel_rfl) s H
attribute [simp] r20_27
@[simp] theorem n20_28 (s : List V) (H : Heap) : evCode P Γ call n f m (cAt [1, 1, 0, 1, 0, 0, 1, 1, 0, 0, 1, 1] B20) s H = condW P Γ call n f m (cAt [1, 1, 0, 1, 0, 0, 1, 1, 0, 0, 1, 1, 0] B20) (cAt [1, 1, 0, 1, 0, 0, 1, 1, 0, 0, 1, 1, 1] B20) s H (evOperand Γ s (.tmp 24)) := at_cond (by kernel_rfl) (by kernel_rfl) rfl rfl s H
@[simp] theorem n20_29 (s : List V) (H : Heap) : evCode P Γ call n f m (cAt [1, 1, 0, 1, 0, 0, 1, 1, 0, 0, 1, 1, 0] B20) s H = seqNext P Γ call n f m (cAt [1, 1, 0, 1, 0, 0, 1, 1, 0, 0, 1, 1, 0, 1] B20) (evCode P Γ call n f m (cAt [1, 1, 0, 1, 0, 0, 1, 1, 0, 0, 1, 1, 0, 0] B20) s H) := at_seq (by kernel_rfl) rfl rfl s H
noncomputable def r20_30 : {l : List Oper // opsOf (cAt [1, 1, 0, 1, 0, 0, 1, 1, 0, 0, 1, 1, 0, 0] B20) = l} := by
  apply Subtype.mk
  dsimp only [opsOf, cAt, kids, B20, bodyOf, Tryd.f20, List.getD, List.getElem?_cons_zero, List.getElem?_cons_succ, Option.getD_some]
@[simp] theorem n20_30 (s : List V) (H : Heap) : evCode P Γ call n f m (cAt [1, 1, 0, 1, 0, 0, 1, 1, 0, 0, 1, 1, 0, 0] B20) s H = regNext (evOpsGo P Γ call r20_30.1 r20_30.1 s H) := at_region (by kernel_rfl) r20_30.2 s H
attribute [simp] r20_30
@[simp] theorem n20_31 (s : List V) (H : Heap) : evCode P Γ call n f m (cAt [1, 1, 0, 1, 0, 0, 1, 1, 0, 0, 1, 1, 0, 1] B20) s H = some (.ret, s, H) := at_ret (by kernel_rfl) s H
@[simp] theorem n20_32 (s : List V) (H : Heap) : evCode P Γ call n f m (cAt [1, 1, 0, 1, 0, 0, 1, 1, 0, 0, 1, 1, 1] B20) s H = some (.normal, s, H) := at_skip (by kernel_rfl) s H
noncomputable def r20_33 : {l : List Oper // opsOf (cAt [1, 1, 0, 1, 0, 0, 1, 1, 1] B20) = l} := by
  apply Subtype.mk
  dsimp only [opsOf, cAt, kids, B20, bodyOf, Tryd.f20, List.getD, List.getElem?_cons_zero, List.getElem?_cons_succ, Option.getD_some]
@[simp] theorem n20_33 (s : List V) (H : Heap) : evCode P Γ call n f m (cAt [1, 1, 0, 1, 0, 0, 1, 1, 1] B20) s H = regNext (evOpsGo P Γ call r20_33.1 r20_33.1 s H) := at_region (by kernel_rfl) r20_33.2 s H
attribute [simp] r20_33
@[simp] theorem n20_34 (s : List V) (H : Heap) : evCode P Γ call n f m (cAt [1, 1, 1] B20) s H = seqNext P Γ call n f m (cAt [1, 1, 1, 1] B20) (evCode P Γ call n f m (cAt [1, 1, 1, 0] B20) s H) := at_seq (by kernel_rfl) rfl rfl s H
noncomputable def r20_35 : {l : List Oper // opsOf (cAt [1, 1, 1, 0] B20) = l} := by
  apply Subtype.mk
  dsimp only [opsOf, cAt, kids, B20, bodyOf, Tryd.f20, List.getD, List.getElem?_cons_zero, List.getElem?_cons_succ, Option.getD_some]
@[simp] theorem n20_35 (s : List V) (H : Heap) : evCode P Γ call n f m (cAt [1, 1, 1, 0] B20) s H = regNext (evOpsGo P Γ call r20_35.1 r20_35.1 s H) := at_region (by kernel_rfl) r20_35.2 s H
attribute [simp] r20_35
@[simp] theorem n20_36 (s : List V) (H : Heap) : evCode P Γ call n f m (cAt [1, 1, 1, 1] B20) s H = some (.ret, s, H) := at_ret (by kernel_rfl) s H
theorem b20 {k : Nat} (ho : ∀ args H, Γ.orc 20 args H = none) (args : List V) (H : Heap) (ha : args.length ≤ 26) : evF Tryd.prog Γ (k + 1) 20 args H = bodyEnd Tryd.prog [.tmp 4] H.length (evCode Tryd.prog Γ (evF Tryd.prog Γ k) k 20 H.length (cAt [] B20) (mkL 26 V.undef (enumV 0 args)) H) := body_at Tryd.func20 (by decide) rfl ho rfl rfl args H ha
end
end Go.Ev.Tryd
