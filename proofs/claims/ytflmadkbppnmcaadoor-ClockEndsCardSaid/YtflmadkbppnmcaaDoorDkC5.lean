/-
  CODE BY NAMES, printed by wip/tools/codes.py (own work).
-/
import Derived.Test.YtflmadkbppnmcaaDoorDkG
set_option maxRecDepth 100000
set_option linter.unusedVariables false
namespace Go.Ev.Tryd
open Go Go.Ev Go.Proofs
section
variable {P : Program} {Γ : Env} {call : CallF} {n f m : Nat}

noncomputable def B16 : Code := bodyOf Tryd.f16
@[simp] theorem n16_1 (s : List V) (H : Heap) : evCode P Γ call n f m (cAt [] B16) s H = seqNext P Γ call n f m (cAt [1] B16) (evCode P Γ call n f m (cAt [0] B16) s H) := at_seq (by kernel_rfl) rfl rfl s H
noncomputable def r16_2 : {l : List Oper // opsOf (cAt [0] B16) = l} := by
  apply Subtype.mk
  dsimp only [opsOf, cAt, kids, B16, bodyOf, Tryd.f16, List.getD, List.getElem?_cons_zero, List.getElem?_cons_succ, Option.getD_some]
@[simp] theorem n16_2 (s : List V) (H : Heap) : evCode P Γ call n f m (cAt [0] B16) s H = regNext (evOpsGo P Γ call r16_2.1 r16_2.1 s H) := at_region (by kernel_rfl) r16_2.2 s H
attribute [simp] r16_2
@[simp] theorem n16_3 (s : List V) (H : Heap) : evCode P Γ call n f m (cAt [1] B16) s H = seqNext P Γ call n f m (cAt [1, 1] B16) (evCode P Γ call n f m (cAt [1, 0] B16) s H) := at_seq (by kernel_rfl) rfl rfl s H
@[simp] theorem n16_4 (s : List V) (H : Heap) : evCode P Γ call n f m (cAt [1, 0] B16) s H = seqNext P Γ call n f m (cAt [1, 0, 1] B16) (evCode P Γ call n f m (cAt [1, 0, 0] B16) s H) := at_seq (by kernel_rfl) rfl rfl s H
noncomputable def r16_5 : {l : List Oper // opsOf (cAt [1, 0, 0] B16) = l} := by
  apply Subtype.mk
  dsimp only [opsOf, cAt, kids, B16, bodyOf, Tryd.f16, List.getD, List.getElem?_cons_zero, List.getElem?_cons_succ, Option.getD_some]
@[simp] theorem n16_5 (s : List V) (H : Heap) : evCode P Γ call n f m (cAt [1, 0, 0] B16) s H = regNext (evOpsGo P Γ call r16_5.1 r16_5.1 s H) := at_region (by kernel_rfl) r16_5.2 s H
attribute [simp] r16_5
@[simp] theorem n16_6 (s : List V) (H : Heap) : evCode P Γ call n f m (cAt [1, 0, 1] B16) s H = seqNext P Γ call n f m (cAt [1, 0, 1, 1] B16) (evCode P Γ call n f m (cAt [1, 0, 1, 0] B16) s H) := at_seq (by kernel_rfl) rfl rfl s H
noncomputable def r16_7 : {l : List Oper // opsOf (cAt [1, 0, 1, 0] B16) = l} := by
  apply Subtype.mk
  dsimp only [opsOf, cAt, kids, B16, bodyOf, Tryd.f16, List.getD, List.getElem?_cons_zero, List.getElem?_cons_succ, Option.getD_some]
@[simp] theorem n16_7 (s : List V) (H : Heap) : evCode P Γ call n f m (cAt [1, 0, 1, 0] B16) s H = regNext (evOpsGo P Γ call r16_7.1 r16_7.1 s H) := at_region (by kernel_rfl) r16_7.2 s H
attribute [simp] r16_7
@[simp] theorem n16_8 (s : List V) (H : Heap) : evCode P Γ call n f m (cAt [1, 0, 1, 1] B16) s H = condW P Γ call n f m (cAt [1, 0, 1, 1, 0] B16) (cAt [1, 0, 1, 1, 1] B16) s H (evOperand Γ s (.tmp 13)) := at_cond (by kernel_rfl) (by kernel_rfl) rfl rfl s H
@[simp] theorem n16_9 (s : List V) (H : Heap) : evCode P Γ call n f m (cAt [1, 0, 1, 1, 0] B16) s H = seqNext P Γ call n f m (cAt [1, 0, 1, 1, 0, 1] B16) (evCode P Γ call n f m (cAt [1, 0, 1, 1, 0, 0] B16) s H) := at_seq (by kernel_rfl) rfl rfl s H
noncomputable def r16_10 : {l : List Oper // opsOf (cAt [1, 0, 1, 1, 0, 0] B16) = l} := by
  apply Subtype.mk
  dsimp only [opsOf, cAt, kids, B16, bodyOf, Tryd.f16, List.getD, List.getElem?_cons_zero, List.getElem?_cons_succ, Option.getD_some]
@[simp] theorem n16_10 (s : List V) (H : Heap) : evCode P Γ call n f m (cAt [1, 0, 1, 1, 0, 0] B16) s H = regNext (evOpsGo P Γ call r16_10.1 r16_10.1 s H) := at_region (by kernel_rfl) r16_10.2 s H
attribute [simp] r16_10
@[simp] theorem n16_11 (s : List V) (H : Heap) : evCode P Γ call n f m (cAt [1, 0, 1, 1, 0, 1] B16) s H = some (.ret, s, H) := at_ret (by kernel_rfl) s H
@[simp] theorem n16_12 (s : List V) (H : Heap) : evCode P Γ call n f m (cAt [1, 0, 1, 1, 1] B16) s H = some (.normal, s, H) := at_skip (by kernel_rfl) s H
@[simp] theorem n16_13 (s : List V) (H : Heap) : evCode P Γ call n f m (cAt [1, 1] B16) s H = seqNext P Γ call n f m (cAt [1, 1, 1] B16) (evCode P Γ call n f m (cAt [1, 1, 0] B16) s H) := at_seq (by kernel_rfl) rfl rfl s H
noncomputable def r16_14 : {l : List Oper // opsOf (cAt [1, 1, 0] B16) = l} := by
  apply Subtype.mk
  dsimp only [opsOf, cAt, kids, B16, bodyOf, Tryd.f16, List.getD, List.getElem?_cons_zero, List.getElem?_cons_succ, Option.getD_some]
@[simp] theorem n16_14 (s : List V) (H : Heap) : evCode P Γ call n f m (cAt [1, 1, 0] B16) s H = regNext (evOpsGo P Γ call r16_14.1 r16_14.1 s H) := at_region (by kernel_rfl) r16_14.2 s H
attribute [simp] r16_14
@[simp] theorem n16_15 (s : List V) (H : Heap) : evCode P Γ call n f m (cAt [1, 1, 1] B16) s H = seqNext P Γ call n f m (cAt [1, 1, 1, 1] B16) (evCode P Γ call n f m (cAt [1, 1, 1, 0] B16) s H) := at_seq (by kernel_rfl) rfl rfl s H
@[simp] theorem n16_16 (s : List V) (H : Heap) : evCode P Γ call n f m (cAt [1, 1, 1, 0] B16) s H = seqNext P Γ call n f m (cAt [1, 1, 1, 0, 1] B16) (evCode P Γ call n f m (cAt [1, 1, 1, 0, 0] B16) s H) := at_seq (by kernel_rfl) rfl rfl s H
noncomputable def r16_17 : {l : List Oper // opsOf (cAt [1, 1, 1, 0, 0] B16) = l} := by
  apply Subtype.mk
  dsimp only [opsOf, cAt, kids, B16, bodyOf, Tryd.f16, List.getD, List.getElem?_cons_zero, List.getElem?_cons_succ, Option.getD_some]
@[simp] theorem n16_17 (s : List V) (H : Heap) : evCode P Γ call n f m (cAt [1, 1, 1, 0, 0] B16) s H = regNext (evOpsGo P Γ call r16_17.1 r16_17.1 s H) := at_region (by kernel_rfl) r16_17.2 s H
attribute [simp] r16_17
@[simp] theorem n16_18 (s : List V) (H : Heap) : evCode P Γ call n f m (cAt [1, 1, 1, 0, 1] B16) s H = condW P Γ call n f m (cAt [1, 1, 1, 0, 1, 0] B16) (cAt [1, 1, 1, 0, 1, 1] B16) s H (evOperand Γ s (.tmp 22)) := at_cond (by kernel_rfl) (by kernel_rfl) rfl rfl s H
@[simp] theorem n16_19 (s : List V) (H : Heap) : evCode P Γ call n f m (cAt [1, 1, 1, 0, 1, 0] B16) s H = seqNext P Γ call n f m (cAt [1, 1, 1, 0, 1, 0, 1] B16) (evCode P Γ call n f m (cAt [1, 1, 1, 0, 1, 0, 0] B16) s H) := at_seq (by kernel_rfl) rfl rfl s H
noncomputable def r16_20 : {l : List Oper // opsOf (cAt [1, 1, 1, 0, 1, 0, 0] B16) = l} := by
  apply Subtype.mk
  dsimp only [opsOf, cAt, kids, B16, bodyOf, Tryd.f16, List.getD, List.getElem?_cons_zero, List.getElem?_cons_succ, Option.getD_some]
@[simp] theorem n16_20 (s : List V) (H : Heap) : evCode P Γ call n f m (cAt [1, 1, 1, 0, 1, 0, 0] B16) s H = regNext (evOpsGo P Γ call r16_20.1 r16_20.1 s H) := at_region (by kernel_rfl) r16_20.2 s H
attribute [simp] r16_20
@[simp] theorem n16_21 (s : List V) (H : Heap) : evCode P Γ call n f m (cAt [1, 1, 1, 0, 1, 0, 1] B16) s H = some (.ret, s, H) := at_ret (by kernel_rfl) s H
@[simp] theorem n16_22 (s : List V) (H : Heap) : evCode P Γ call n f m (cAt [1, 1, 1, 0, 1, 1] B16) s H = some (.normal, s, H) := at_skip (by kernel_rfl) s H
@[simp] theorem n16_23 (s : List V) (H : Heap) : evCode P Γ call n f m (cAt [1, 1, 1, 1] B16) s H = seqNext P Γ call n f m (cAt [1, 1, 1, 1, 1] B16) (evCode P Γ call n f m (cAt [1, 1, 1, 1, 0] B16) s H) := at_seq (by kernel_rfl) rfl rfl s H
noncomputable def r16_24 : {l : List Oper // opsOf (cAt [1, 1, 1, 1, 0] B16) = l} := by
  apply Subtype.mk
  dsimp only [opsOf, cAt, kids, B16, bodyOf, Tryd.f16, List.getD, List.getElem?_cons_zero, List.getElem?_cons_succ, Option.getD_some]
@[simp] theorem n16_24 (s : List V) (H : Heap) : evCode P Γ call n f m (cAt [1, 1, 1, 1, 0] B16) s H = regNext (evOpsGo P Γ call r16_24.1 r16_24.1 s H) := at_region (by kernel_rfl) r16_24.2 s H
attribute [simp] r16_24
@[simp] theorem n16_25 (s : List V) (H : Heap) : evCode P Γ call n f m (cAt [1, 1, 1, 1, 1] B16) s H = some (.ret, s, H) := at_ret (by kernel_rfl) s H
theorem b16 {k : Nat} (ho : ∀ args H, Γ.orc 16 args H = none) (args : List V) (H : Heap) (ha : args.length ≤ 28) : evF Tryd.prog Γ (k + 1) 16 args H = bodyEnd Tryd.prog [.tmp 4, .tmp 5] H.length (evCode Tryd.prog Γ (evF Tryd.prog Γ k) k 16 H.length (cAt [] B16) (mkL 28 V.undef (enumV 0 args)) H) := body_at Tryd.func16 (by decide) rfl ho rfl rfl args H ha
noncomputable def B17 : Code := bodyOf Tryd.f17
@[simp] theorem n17_1 (s : List V) (H : Heap) : evCode P Γ call n f m (cAt [] B17) s H = seqNext P Γ call n f m (cAt [1] B17) (evCode P Γ call n f m (cAt [0] B17) s H) := at_seq (by kernel_rfl) rfl rfl s H
noncomputable def r17_2 : {l : List Oper // opsOf (cAt [0] B17) = l} := by
  apply Subtype.mk
  dsimp only [opsOf, cAt, kids, B17, bodyOf, Tryd.f17, List.getD, List.getElem?_cons_zero, List.getElem?_cons_succ, Option.getD_some]
@[simp] theorem n17_2 (s : List V) (H : Heap) : evCode P Γ call n f m (cAt [0] B17) s H = regNext (evOpsGo P Γ call r17_2.1 r17_2.1 s H) := at_region (by kernel_rfl) r17_2.2 s H
attribute [simp] r17_2
@[simp] theorem n17_3 (s : List V) (H : Heap) : evCode P Γ call n f m (cAt [1] B17) s H = seqNext P Γ call n f m (cAt [1, 1] B17) (evCode P Γ call n f m (cAt [1, 0] B17) s H) := at_seq (by kernel_rfl) rfl rfl s H
noncomputable def r17_4 : {l : List Oper // opsOf (cAt [1, 0] B17) = l} := by
  apply Subtype.mk
  dsimp only [opsOf, cAt, kids, B17, bodyOf, Tryd.f17, List.getD, List.getElem?_cons_zero, List.getElem?_cons_succ, Option.getD_some]
@[simp] theorem n17_4 (s : List V) (H : Heap) : evCode P Γ call n f m (cAt [1, 0] B17) s H = regNext (evOpsGo P Γ call r17_4.1 r17_4.1 s H) := at_region (by kernel_rfl) r17_4.2 s H
attribute [simp] r17_4
@[simp] theorem n17_5 (s : List V) (H : Heap) : evCode P Γ call n f m (cAt [1, 1] B17) s H = seqNext P Γ call n f m (cAt [1, 1, 1] B17) (evCode P Γ call n f m (cAt [1, 1, 0] B17) s H) := at_seq (by kernel_rfl) rfl rfl s H
@[simp] theorem n17_6 (s : List V) (H : Heap) : evCode P Γ call n f m (cAt [1, 1, 0] B17) s H = seqNext P Γ call n f m (cAt [1, 1, 0, 1] B17) (evCode P Γ call n f m (cAt [1, 1, 0, 0] B17) s H) := at_seq (by kernel_rfl) rfl rfl s H
noncomputable def r17_7 : {l : List Oper // opsOf (cAt [1, 1, 0, 0] B17) = l} := by
  apply Subtype.mk
  dsimp only [opsOf, cAt, kids, B17, bodyOf, Tryd.f17, List.getD, List.getElem?_cons_zero, List.getElem?_cons_succ, Option.getD_some]
@[simp] theorem n17_7 (s : List V) (H : Heap) : evCode P Γ call n f m (cAt [1, 1, 0, 0] B17) s H = regNext (evOpsGo P Γ call r17_7.1 r17_7.1 s H) := at_region (by kernel_rfl) r17_7.2 s H
attribute [simp] r17_7
@[simp] theorem n17_8 (s : List V) (H : Heap) : evCode P Γ call n f m (cAt [1, 1, 0, 1] B17) s H = condW P Γ call n f m (cAt [1, 1, 0, 1, 0] B17) (cAt [1, 1, 0, 1, 1] B17) s H (evOperand Γ s (.tmp 23)) := at_cond (by kernel_rfl) (by kernel_rfl) rfl rfl s H
@[simp] theorem n17_9 (s : List V) (H : Heap) : evCode P Γ call n f m (cAt [1, 1, 0, 1, 0] B17) s H = seqNext P Γ call n f m (cAt [1, 1, 0, 1, 0, 1] B17) (evCode P Γ call n f m (cAt [1, 1, 0, 1, 0, 0] B17) s H) := at_seq (by kernel_rfl) rfl rfl s H
noncomputable def r17_10 : {l : List Oper // opsOf (cAt [1, 1, 0, 1, 0, 0] B17) = l} := by
  apply Subtype.mk
  dsimp only [opsOf, cAt, kids, B17, bodyOf, Tryd.f17, List.getD, List.getElem?_cons_zero, List.getElem?_cons_succ, Option.getD_some]
@[simp] theorem n17_10 (s : List V) (H : Heap) : evCode P Γ call n f m (cAt [1, 1, 0, 1, 0, 0] B17) s H = regNext (evOpsGo P Γ call r17_10.1 r17_10.1 s H) := at_region (by kernel_rfl) r17_10.2 s H
attribute [simp] r17_10
@[simp] theorem n17_11 (s : List V) (H : Heap) : evCode P Γ call n f m (cAt [1, 1, 0, 1, 0, 1] B17) s H = some (.ret, s, H) := at_ret (by kernel_rfl) s H
@[simp] theorem n17_12 (s : List V) (H : Heap) : evCode P Γ call n f m (cAt [1, 1, 0, 1, 1] B17) s H = some (.normal, s, H) := at_skip (by kernel_rfl) s H
@[simp] theorem n17_13 (s : List V) (H : Heap) : evCode P Γ call n f m (cAt [1, 1, 1] B17) s H = seqNext P Γ call n f m (cAt [1, 1, 1, 1] B17) (evCode P Γ call n f m (cAt [1, 1, 1, 0] B17) s H) := at_seq (by kernel_rfl) rfl rfl s H
noncomputable def r17_14 : {l : List Oper // opsOf (cAt [1, 1, 1, 0] B17) = l} := by
  apply Subtype.mk
  dsimp only [opsOf, cAt, kids, B17, bodyOf, Tryd.f17, List.getD, List.getElem?_cons_zero, List.getElem?_cons_succ, Option.getD_some]
@[simp] theorem n17_14 (s : List V) (H : Heap) : evCode P Γ call n f m (cAt [1, 1, 1, 0] B17) s H = regNext (evOpsGo P Γ call r17_14.1 r17_14.1 s H) := at_region (by kernel_rfl) r17_14.2 s H
attribute [simp] r17_14
@[simp] theorem n17_15 (s : List V) (H : Heap) : evCode P Γ call n f m (cAt [1, 1, 1, 1] B17) s H = seqNext P Γ call n f m (cAt [1, 1, 1, 1, 1] B17) (evCode P Γ call n f m (cAt [1, 1, 1, 1, 0] B17) s H) := at_seq (by kernel_rfl) rfl rfl s H
@[simp] theorem n17_16 (s : List V) (H : Heap) : evCode P Γ call n f m (cAt [1, 1, 1, 1, 0] B17) s H = seqNext P Γ call n f m (cAt [1, 1, 1, 1, 0, 1] B17) (evCode P Γ call n f m (cAt [1, 1, 1, 1, 0, 0] B17) s H) := at_seq (by kernel_rfl) rfl rfl s H
noncomputable def r17_17 : {l : List Oper // opsOf (cAt [1, 1, 1, 1, 0, 0] B17) = l} := by
  apply Subtype.mk
  dsimp only [opsOf, cAt, kids, B17, bodyOf, Tryd.f17, List.getD, List.getElem?_cons_zero, List.getElem?_cons_succ, Option.getD_some]
@[simp] theorem n17_17 (s : List V) (H : Heap) : evCode P Γ call n f m (cAt [1, 1, 1, 1, 0, 0] B17) s H = regNext (evOpsGo P Γ call r17_17.1 r17_17.1 s H) := at_region (by kernel_rfl) r17_17.2 s H
attribute [simp] r17_17
@[simp] theorem n17_18 (s : List V) (H : Heap) : evCode P Γ call n f m (cAt [1, 1, 1, 1, 0, 1] B17) s H = condW P Γ call n f m (cAt [1, 1, 1, 1, 0, 1, 0] B17) (cAt [1, 1, 1, 1, 0, 1, 1] B17) s H (evOperand Γ s (.tmp 32)) := at_cond (by kernel_rfl) (by kernel_rfl) rfl rfl s H
@[simp] theorem n17_19 (s : List V) (H : Heap) : evCode P Γ call n f m (cAt [1, 1, 1, 1, 0, 1, 0] B17) s H = seqNext P Γ call n f m (cAt [1, 1, 1, 1, 0, 1, 0, 1] B17) (evCode P Γ call n f m (cAt [1, 1, 1, 1, 0, 1, 0, 0] B17) s H) := at_seq (by kernel_rfl) rfl rfl s H
noncomputable def r17_20 : {l : List Oper // opsOf (cAt [1, 1, 1, 1, 0, 1, 0, 0] B17) = l} := by
  apply Subtype.mk
  dsimp only [opsOf, cAt, kids, B17, bodyOf, Tryd.f17, List.getD, List.getElem?_cons_zero, List.getElem?_cons_succ, Option.getD_some]
@[simp] theorem n17_20 (s : List V) (H : Heap) : evCode P Γ call n f m (cAt [1, 1, 1, 1, 0, 1, 0, 0] B17) s H = regNext (evOpsGo P Γ call r17_20.1 r17_20.1 s H) := at_region (by kernel_rfl) r17_20.2 s H
attribute [simp] r17_20
@[simp] theorem n17_21 (s : List V) (H : Heap) : evCode P Γ call n f m (cAt [1, 1, 1, 1, 0, 1, 0, 1] B17) s H = some (.ret, s, H) := at_ret (by kernel_rfl) s H
@[simp] theorem n17_22 (s : List V) (H : Heap) : evCode P Γ call n f m (cAt [1, 1, 1, 1, 0, 1, 1] B17) s H = some (.normal, s, H) := at_skip (by kernel_rfl) s H
@[simp] theorem n17_23 (s : List V) (H : Heap) : evCode P Γ call n f m (cAt [1, 1, 1, 1, 1] B17) s H = seqNext P Γ call n f m (cAt [1, 1, 1, 1, 1, 1] B17) (evCode P Γ call n f m (cAt [1, 1, 1, 1, 1, 0] B17) s H) := at_seq (by kernel_rfl) rfl rfl s H
noncomputable def r17_24 : {l : List Oper // opsOf (cAt [1, 1, 1, 1, 1, 0] B17) = l} := by
  apply Subtype.mk
  dsimp only [opsOf, cAt, kids, B17, bodyOf, Tryd.f17, List.getD, List.getElem?_cons_zero, List.getElem?_cons_succ, Option.getD_some]
@[simp] theorem n17_24 (s : List V) (H : Heap) : evCode P Γ call n f m (cAt [1, 1, 1, 1, 1, 0] B17) s H = regNext (evOpsGo P Γ call r17_24.1 r17_24.1 s H) := at_region (by kernel_rfl) r17_24.2 s H
attribute [simp] r17_24
@[simp] theorem n17_25 (s : List V) (H : Heap) : evCode P Γ call n f m (cAt [1, 1, 1, 1, 1, 1] B17) s H = seqNext P Γ call n f m (cAt [1, 1, 1, 1, 1, 1, 1] B17) (evCode P Γ call n f m (cAt [1, 1, 1, 1, 1, 1, 0] B17) s H) := at_seq (by kernel_rfl) rfl rfl s H
@[simp] theorem n17_26 (s : List V) (H : Heap) : evCode P Γ call n f m (cAt [1, 1, 1, 1, 1, 1, 0] B17) s H = seqNext P Γ call n f m (cAt [1, 1, 1, 1, 1, 1, 0, 1] B17) (evCode P Γ call n f m (cAt [1, 1, 1, 1, 1, 1, 0, 0] B17) s H) := at_seq (by kernel_rfl) rfl rfl s H
noncomputable def r17_27 : {l : List Oper // opsOf (cAt [1, 1, 1, 1, 1, 1, 0, 0] B17) = l} := by
  apply Subtype.mk
  dsimp only [opsOf, cAt, kids, B17, bodyOf, Tryd.f17, List.getD, List.getElem?_cons_zero, List.getElem?_cons_succ, Option.getD_some]
@[simp] theorem n17_27 (s : List V) (H : Heap) : evCode P Γ call n f m (cAt [1, 1, 1, 1, 1, 1, 0, 0] B17) s H = regNext (evOpsGo P Γ call r17_27.1 r17_27.1 s H) := at_region (by kernel_rfl) r17_27.2 s H
attribute [simp] r17_27
@[simp] theorem n17_28 (s : List V) (H : Heap) : evCode P Γ call n f m (cAt [1, 1, 1, 1, 1, 1, 0, 1] B17) s H = blockNext 0 (evCode P Γ call n f m (cAt [1, 1, 1, 1, 1, 1, 0, 1, 0] B17) s H) := at_block (by kernel_rfl) rfl s H
@[simp] theorem n17_29 (s : List V) (H : Heap) : evCode P Γ call n f m (cAt [1, 1, 1, 1, 1, 1, 0, 1, 0] B17) s H = evLoopC P Γ call n f m (cAt [1, 1, 1, 1, 1, 1, 0, 1, 0, 0] B17) n s H := at_loop (by kernel_rfl) rfl s H
noncomputable abbrev L17_9 : Code := cAt [1, 1, 1, 1, 1, 1, 0, 1, 0, 0] B17
@[simp] theorem n17_29f : firstRegion (cAt [1, 1, 1, 1, 1, 1, 0, 1, 0, 0] B17) = 9 := by kernel_rfl
@[simp] theorem n17_30 (s : List V) (H : Heap) : evCode P Γ call n f m (cAt [1, 1, 1, 1, 1, 1, 0, 1, 0, 0] B17) s H = seqNext P Γ call n f m (cAt [1, 1, 1, 1, 1, 1, 0, 1, 0, 0, 1] B17) (evCode P Γ call n f m (cAt [1, 1, 1, 1, 1, 1, 0, 1, 0, 0, 0] B17) s H) := at_seq (by kernel_rfl) rfl rfl s H
noncomputable def r17_31 : {l : List Oper // opsOf (cAt [1, 1, 1, 1, 1, 1, 0, 1, 0, 0, 0] B17) = l} := by
  apply Subtype.mk
  dsimp only [opsOf, cAt, kids, B17, bodyOf, Tryd.f17, List.getD, List.getElem?_cons_zero, List.getElem?_cons_succ, Option.getD_some]
@[simp] theorem n17_31 (s : List V) (H : Heap) : evCode P Γ call n f m (cAt [1, 1, 1, 1, 1, 1, 0, 1, 0, 0, 0] B17) s H = regNext (evOpsGo P Γ call r17_31.1 r17_31.1 s H) := at_region (by kernel_rfl) r17_31.2 s H
attribute [simp] r17_31
@[simp] theorem n17_32 (s : List V) (H : Heap) : evCode P Γ call n f m (cAt [1, 1, 1, 1, 1, 1, 0, 1, 0, 0, 1] B17) s H = seqNext P Γ call n f m (cAt [1, 1, 1, 1, 1, 1, 0, 1, 0, 0, 1, 1] B17) (evCode P Γ call n f m (cAt [1, 1, 1, 1, 1, 1, 0, 1, 0, 0, 1, 0] B17) s H) := at_seq (by kernel_rfl) rfl rfl s H
@[simp] theorem n17_33 (s : List V) (H : Heap) : evCode P Γ call n f m (cAt [1, 1, 1, 1, 1, 1, 0, 1, 0, 0, 1, 0] B17) s H = condW P Γ call n f m (cAt [1, 1, 1, 1, 1, 1, 0, 1, 0, 0, 1, 0, 0] B17) (cAt [1, 1, 1, 1, 1, 1, 0, 1, 0, 0, 1, 0, 1] B17) s H (evOperand Γ s (.tmp 37)) := at_cond (by kernel_rfl) (by kernel_rfl) rfl rfl s H
@[simp] theorem n17_34 (s : List V) (H : Heap) : evCode P Γ call n f m (cAt [1, 1, 1, 1, 1, 1, 0, 1, 0, 0, 1, 0, 0] B17) s H = some (.normal, s, H) := at_skip (by kernel_rfl) s H
@[simp] theorem n17_35 (s : List V) (H : Heap) : evCode P Γ call n f m (cAt [1, 1, 1, 1, 1, 1, 0, 1, 0, 0, 1, 0, 1] B17) s H = some (.exit 0, s, H) := at_exit (by kernel_rfl) s H
@[simp] theorem n17_36 (s : List V) (H : Heap) : evCode P Γ call n f m (cAt [1, 1, 1, 1, 1, 1, 0, 1, 0, 0, 1, 1] B17) s H = seqNext P Γ call n f m (cAt [1, 1, 1, 1, 1, 1, 0, 1, 0, 0, 1, 1, 1] B17) (evCode P Γ call n f m (cAt [1, 1, 1, 1, 1, 1, 0, 1, 0, 0, 1, 1, 0] B17) s H) := at_seq (by kernel_rfl) rfl rfl s H
@[simp] theorem n17_37 (s : List V) (H : Heap) : evCode P Γ call n f m (cAt [1, 1, 1, 1, 1, 1, 0, 1, 0, 0, 1, 1, 0] B17) s H = blockNext 1 (evCode P Γ call n f m (cAt [1, 1, 1, 1, 1, 1, 0, 1, 0, 0, 1, 1, 0, 0] B17) s H) := at_block (by kernel_rfl) rfl s H
@[simp] theorem n17_38 (s : List V) (H : Heap) : evCode P Γ call n f m (cAt [1, 1, 1, 1, 1, 1, 0, 1, 0, 0, 1, 1, 0, 0] B17) s H = seqNext P Γ call n f m (cAt [1, 1, 1, 1, 1, 1, 0, 1, 0, 0, 1, 1, 0, 0, 1] B17) (evCode P Γ call n f m (cAt [1, 1, 1, 1, 1, 1, 0, 1, 0, 0, 1, 1, 0, 0, 0] B17) s H) := at_seq (by kernel_rfl) rfl rfl s H
noncomputable def r17_39 : {l : List Oper // opsOf (cAt [1, 1, 1, 1, 1, 1, 0, 1, 0, 0, 1, 1, 0, 0, 0] B17) = l} := by
  apply Subtype.mk
  dsimp only [opsOf, cAt, kids, B17, bodyOf, Tryd.f17, List.getD, List.getElem?_cons_zero, List.getElem?_cons_succ, Option.getD_some]
@[simp] theorem n17_39 (s : List V) (H : Heap) : evCode P Γ call n f m (cAt [1, 1, 1, 1, 1, 1, 0, 1, 0, 0, 1, 1, 0, 0, 0] B17) s H = regNext (evOpsGo P Γ call r17_39.1 r17_39.1 s H) := at_region (by kernel_rfl) r17_39.2 s H
attribute [simp] r17_39
noncomputable def r17_40 : {l : List Oper // opsOf (cAt [1, 1, 1, 1, 1, 1, 0, 1, 0, 0, 1, 1, 0, 0, 1] B17) = l} := by
  apply Subtype.mk
  dsimp only [opsOf, cAt, kids, B17, bodyOf, Tryd.f17, List.getD, List.getElem?_cons_zero, List.getElem?_cons_succ, Option.getD_some]
@[simp] theorem n17_40 (s : List V) (H : Heap) : evCode P Γ call n f m (cAt [1, 1, 1, 1, 1, 1, 0, 1, 0, 0, 1, 1, 0, 0, 1] B17) s H = regNext (evOpsGo P Γ call r17_40.1 r17_40.1 s H) := at_region (by kernel_rfl) r17_40.2 s H
attribute [simp] r17_40
noncomputable def r17_41 : {l : List Oper // opsOf (cAt [1, 1, 1, 1, 1, 1, 0, 1, 0, 0, 1, 1, 1] B17) = l} := by
  apply Subtype.mk
  dsimp only [opsOf, cAt, kids, B17, bodyOf, Tryd.f17, List.getD, List.getElem?_cons_zero, List.getElem?_cons_succ, Option.getD_some]
@[simp] theorem n17_41 (s : List V) (H : Heap) : evCode P Γ call n f m (cAt [1, 1, 1, 1, 1, 1, 0, 1, 0, 0, 1, 1, 1] B17) s H = regNext (evOpsGo P Γ call r17_41.1 r17_41.1 s H) := at_region (by kernel_rfl) r17_41.2 s H
attribute [simp] r17_41
@[simp] theorem n17_42 (s : List V) (H : Heap) : evCode P Γ call n f m (cAt [1, 1, 1, 1, 1, 1, 1] B17) s H = seqNext P Γ call n f m (cAt [1, 1, 1, 1, 1, 1, 1, 1] B17) (evCode P Γ call n f m (cAt [1, 1, 1, 1, 1, 1, 1, 0] B17) s H) := at_seq (by kernel_rfl) rfl rfl s H
@[simp] theorem n17_43 (s : List V) (H : Heap) : evCode P Γ call n f m (cAt [1, 1, 1, 1, 1, 1, 1, 0] B17) s H = seqNext P Γ call n f m (cAt [1, 1, 1, 1, 1, 1, 1, 0, 1] B17) (evCode P Γ call n f m (cAt [1, 1, 1, 1, 1, 1, 1, 0, 0] B17) s H) := at_seq (by kernel_rfl) rfl rfl s H
noncomputable def r17_44 : {l : List Oper // opsOf (cAt [1, 1, 1, 1, 1, 1, 1, 0, 0] B17) = l} := by
  apply Subtype.mk
  dsimp only [opsOf, cAt, kids, B17, bodyOf, Tryd.f17, List.getD, List.getElem?_cons_zero, List.getElem?_cons_succ, Option.getD_some]
@[simp] theorem n17_44 (s : List V) (H : Heap) : evCode P Γ call n f m (cAt [1, 1, 1, 1, 1, 1, 1, 0, 0] B17) s H = regNext (evOpsGo P Γ call r17_44.1 r17_44.1 s H) := at_region (by kernel_rfl) r17_44.2 s H
attribute [simp] r17_44
@[simp] theorem n17_45 (s : List V) (H : Heap) : evCode P Γ call n f m (cAt [1, 1, 1, 1, 1, 1, 1, 0, 1] B17) s H = blockNext 2 (evCode P Γ call n f m (cAt [1, 1, 1, 1, 1, 1, 1, 0, 1, 0] B17) s H) := at_block (by kernel_rfl) rfl s H
@[simp] theorem n17_46 (s : List V) (H : Heap) : evCode P Γ call n f m (cAt [1, 1, 1, 1, 1, 1, 1, 0, 1, 0] B17) s H = evLoopC P Γ call n f m (cAt [1, 1, 1, 1, 1, 1, 1, 0, 1, 0, 0] B17) n s H := at_loop (by kernel_rfl) rfl s H
noncomputable abbrev L17_14 : Code := cAt [1, 1, 1, 1, 1, 1, 1, 0, 1, 0, 0] B17
@[simp] theorem n17_46f : firstRegion (cAt [1, 1, 1, 1, 1, 1, 1, 0, 1, 0, 0] B17) = 14 := by kernel_rfl
@[simp] theorem n17_47 (s : List V) (H : Heap) : evCode P Γ call n f m (cAt [1, 1, 1, 1, 1, 1, 1, 0, 1, 0, 0] B17) s H = seqNext P Γ call n f m (cAt [1, 1, 1, 1, 1, 1, 1, 0, 1, 0, 0, 1] B17) (evCode P Γ call n f m (cAt [1, 1, 1, 1, 1, 1, 1, 0, 1, 0, 0, 0] B17) s H) := at_seq (by kernel_rfl) rfl rfl s H
noncomputable def r17_48 : {l : List Oper // opsOf (cAt [1, 1, 1, 1, 1, 1, 1, 0, 1, 0, 0, 0] B17) = l} := by
  apply Subtype.mk
  dsimp only [opsOf, cAt, kids, B17, bodyOf, Tryd.f17, List.getD, List.getElem?_cons_zero, List.getElem?_cons_succ, Option.getD_some]
@[simp] theorem n17_48 (s : List V) (H : Heap) : evCode P Γ call n f m (cAt [1, 1, 1, 1, 1, 1, 1, 0, 1, 0, 0, 0] B17) s H = regNext (evOpsGo P Γ call r17_48.1 r17_48.1 s H) := at_region (by kernel_rfl) r17_48.2 s H
attribute [simp] r17_48
@[simp] theorem n17_49 (s : List V) (H : Heap) : evCode P Γ call n f m (cAt [1, 1, 1, 1, 1, 1, 1, 0, 1, 0, 0, 1] B17) s H = seqNext P Γ call n f m (cAt [1, 1, 1, 1, 1, 1, 1, 0, 1, 0, 0, 1, 1] B17) (evCode P Γ call n f m (cAt [1, 1, 1, 1, 1, 1, 1, 0, 1, 0, 0, 1, 0] B17) s H) := at_seq (by kernel_rfl) rfl rfl s H
@[simp] theorem n17_50 (s : List V) (H : Heap) : evCode P Γ call n f m (cAt [1, 1, 1, 1, 1, 1, 1, 0, 1, 0, 0, 1, 0] B17) s H = condW P Γ call n f m (cAt [1, 1, 1, 1, 1, 1, 1, 0, 1, 0, 0, 1, 0, 0] B17) (cAt [1, 1, 1, 1, 1, 1, 1, 0, 1, 0, 0, 1, 0, 1] B17) s H (evOperand Γ s (.tmp 49)) := at_cond (by kernel_rfl) (by kernel_rfl) rfl rfl s H
@[simp] theorem n17_51 (s : List V) (H : Heap) : evCode P Γ call n f m (cAt [1, 1, 1, 1, 1, 1, 1, 0, 1, 0, 0, 1, 0, 0] B17) s H = some (.normal, s, H) := at_skip (by kernel_rfl) s H
@[simp] theorem n17_52 (s : List V) (H : Heap) : evCode P Γ call n f m (cAt [1, 1, 1, 1, 1, 1, 1, 0, 1, 0, 0, 1, 0, 1] B17) s H = some (.exit 2, s, H) := at_exit (by kernel_rfl) s H
@[simp] theorem n17_53 (s : List V) (H : Heap) : evCode P Γ call n f m (cAt [1, 1, 1, 1, 1, 1, 1, 0, 1, 0, 0, 1, 1] B17) s H = seqNext P Γ call n f m (cAt [1, 1, 1, 1, 1, 1, 1, 0, 1, 0, 0, 1, 1, 1] B17) (evCode P Γ call n f m (cAt [1, 1, 1, 1, 1, 1, 1, 0, 1, 0, 0, 1, 1, 0] B17) s H) := at_seq (by kernel_rfl) rfl rfl s H
@[simp] theorem n17_54 (s : List V) (H : Heap) : evCode P Γ call n f m (cAt [1, 1, 1, 1, 1, 1, 1, 0, 1, 0, 0, 1, 1, 0] B17) s H = blockNext 3 (evCode P Γ call n f m (cAt [1, 1, 1, 1, 1, 1, 1, 0, 1, 0, 0, 1, 1, 0, 0] B17) s H) := at_block (by kernel_rfl) rfl s H
@[simp] theorem n17_55 (s : List V) (H : Heap) : evCode P Γ call n f m (cAt [1, 1, 1, 1, 1, 1, 1, 0, 1, 0, 0, 1, 1, 0, 0] B17) s H = seqNext P Γ call n f m (cAt [1, 1, 1, 1, 1, 1, 1, 0, 1, 0, 0, 1, 1, 0, 0, 1] B17) (evCode P Γ call n f m (cAt [1, 1, 1, 1, 1, 1, 1, 0, 1, 0, 0, 1, 1, 0, 0, 0] B17) s H) := at_seq (by kernel_rfl) rfl rfl s H
noncomputable def r17_56 : {l : List Oper // opsOf (cAt [1, 1, 1, 1, 1, 1, 1, 0, 1, 0, 0, 1, 1, 0, 0, 0] B17) = l} := by
  apply Subtype.mk
  dsimp only [opsOf, cAt, kids, B17, bodyOf, Tryd.f17, List.getD, List.getElem?_cons_zero, List.getElem?_cons_succ, Option.getD_some]
@[simp] theorem n17_56 (s : List V) (H : Heap) : evCode P Γ call n f m (cAt [1, 1, 1, 1, 1, 1, 1, 0, 1, 0, 0, 1, 1, 0, 0, 0] B17) s H = regNext (evOpsGo P Γ call r17_56.1 r17_56.1 s H) := at_region (by kernel_rfl) r17_56.2 s H
attribute [simp] r17_56
noncomputable def r17_57 : {l : List Oper // opsOf (cAt [1, 1, 1, 1, 1, 1, 1, 0, 1, 0, 0, 1, 1, 0, 0, 1] B17) = l} := by
  apply Subtype.mk
  dsimp only [opsOf, cAt, kids, B17, bodyOf, Tryd.f17, List.getD, List.getElem?_cons_zero, List.getElem?_cons_succ, Option.getD_some]
@[simp] theorem n17_57 (s : List V) (H : Heap) : evCode P Γ call n f m (cAt [1, 1, 1, 1, 1, 1, 1, 0, 1, 0, 0, 1, 1, 0, 0, 1] B17) s H = regNext (evOpsGo P Γ call r17_57.1 r17_57.1 s H) := at_region (by kernel_rfl) r17_57.2 s H
attribute [simp] r17_57
noncomputable def r17_58 : {l : List Oper // opsOf (cAt [1, 1, 1, 1, 1, 1, 1, 0, 1, 0, 0, 1, 1, 1] B17) = l} := by
  apply Subtype.mk
  dsimp only [opsOf, cAt, kids, B17, bodyOf, Tryd.f17, List.getD, List.getElem?_cons_zero, List.getElem?_cons_succ, Option.getD_some]
@[simp] theorem n17_58 (s : List V) (H : Heap) : evCode P Γ call n f m (cAt [1, 1, 1, 1, 1, 1, 1, 0, 1, 0, 0, 1, 1, 1] B17) s H = regNext (evOpsGo P Γ call r17_58.1 r17_58.1 s H) := at_region (by kernel_rfl) r17_58.2 s H
attribute [simp] r17_58
@[simp] theorem n17_59 (s : List V) (H : Heap) : evCode P Γ call n f m (cAt [1, 1, 1, 1, 1, 1, 1, 1] B17) s H = seqNext P Γ call n f m (cAt [1, 1, 1, 1, 1, 1, 1, 1, 1] B17) (evCode P Γ call n f m (cAt [1, 1, 1, 1, 1, 1, 1, 1, 0] B17) s H) := at_seq (by kernel_rfl) rfl rfl s H
noncomputable def r17_60 : {l : List Oper // opsOf (cAt [1, 1, 1, 1, 1, 1, 1, 1, 0] B17) = l} := by
  apply Subtype.mk
  dsimp only [opsOf, cAt, kids, B17, bodyOf, Tryd.f17, List.getD, List.getElem?_cons_zero, List.getElem?_cons_succ, Option.getD_some]
@[simp] theorem n17_60 (s : List V) (H : Heap) : evCode P Γ call n f m (cAt [1, 1, 1, 1, 1, 1, 1, 1, 0] B17) s H = regNext (evOpsGo P Γ call r17_60.1 r17_60.1 s H) := at_region (by kernel_rfl) r17_60.2 s H
attribute [simp] r17_60
@[simp] theorem n17_61 (s : List V) (H : Heap) : evCode P Γ call n f m (cAt [1, 1, 1, 1, 1, 1, 1, 1, 1] B17) s H = some (.ret, s, H) := at_ret (by kernel_rfl) s H
theorem b17 {k : Nat} (ho : ∀ args H, Γ.orc 17 args H = none) (args : List V) (H : Heap) (ha : args.length ≤ 60) : evF Tryd.prog Γ (k + 1) 17 args H = bodyEnd Tryd.prog [.tmp 4, .tmp 5, .tmp 6] H.length (evCode Tryd.prog Γ (evF Tryd.prog Γ k) k 17 H.length (cAt [] B17) (mkL 60 V.undef (enumV 0 args)) H) := body_at Tryd.func17 (by decide) rfl ho rfl rfl args H ha
noncomputable def B18 : Code := bodyOf Tryd.f18
@[simp] theorem n18_1 (s : List V) (H : Heap) : evCode P Γ call n f m (cAt [] B18) s H = seqNext P Γ call n f m (cAt [1] B18) (evCode P Γ call n f m (cAt [0] B18) s H) := at_seq (by kernel_rfl) rfl rfl s H
noncomputable def r18_2 : {l : List Oper // opsOf (cAt [0] B18) = l} := by
  apply Subtype.mk
  dsimp only [opsOf, cAt, kids, B18, bodyOf, Tryd.f18, List.getD, List.getElem?_cons_zero, List.getElem?_cons_succ, Option.getD_some]
@[simp] theorem n18_2 (s : List V) (H : Heap) : evCode P Γ call n f m (cAt [0] B18) s H = regNext (evOpsGo P Γ call r18_2.1 r18_2.1 s H) := at_region (by kernel_rfl) r18_2.2 s H
attribute [simp] r18_2
@[simp] theorem n18_3 (s : List V) (H : Heap) : evCode P Γ call n f m (cAt [1] B18) s H = seqNext P Γ call n f m (cAt [1, 1] B18) (evCode P Γ call n f m (cAt [1, 0] B18) s H) := at_seq (by kernel_rfl) rfl rfl s H
@[simp] theorem n18_4 (s : List V) (H : Heap) : evCode P Γ call n f m (cAt [1, 0] B18) s H = seqNext P Γ call n f m (cAt [1, 0, 1] B18) (evCode P Γ call n f m (cAt [1, 0, 0] B18) s H) := at_seq (by kernel_rfl) rfl rfl s H
noncomputable def r18_5 : {l : List Oper // opsOf (cAt [1, 0, 0] B18) = l} := by
  apply Subtype.mk
  dsimp only [opsOf, cAt, kids, B18, bodyOf, Tryd.f18, List.getD, List.getElem?_cons_zero, List.getElem?_cons_succ, Option.getD_some]
@[simp] theorem n18_5 (s : List V) (H : Heap) : evCode P Γ call n f m (cAt [1, 0, 0] B18) s H = regNext (evOpsGo P Γ call r18_5.1 r18_5.1 s H) := at_region (by kernel_rfl) r18_5.2 s H
attribute [simp] r18_5
@[simp] theorem n18_6 (s : List V) (H : Heap) : evCode P Γ call n f m (cAt [1, 0, 1] B18) s H = seqNext P Γ call n f m (cAt [1, 0, 1, 1] B18) (evCode P Γ call n f m (cAt [1, 0, 1, 0] B18) s H) := at_seq (by kernel_rfl) rfl rfl s H
noncomputable def r18_7 : {l : List Oper // opsOf (cAt [1, 0, 1, 0] B18) = l} := by
  apply Subtype.mk
  dsimp only [opsOf, cAt, kids, B18, bodyOf, Tryd.f18, List.getD, List.getElem?_cons_zero, List.getElem?_cons_succ, Option.getD_some]
@[simp] theorem n18_7 (s : List V) (H : Heap) : evCode P Γ call n f m (cAt [1, 0, 1, 0] B18) s H = regNext (evOpsGo P Γ call r18_7.1 r18_7.1 s H) := at_region (by kernel_rfl) r18_7.2 s H
attribute [simp] r18_7
@[simp] theorem n18_8 (s : List V) (H : Heap) : evCode P Γ call n f m (cAt [1, 0, 1, 1] B18) s H = condW P Γ call n f m (cAt [1, 0, 1, 1, 0] B18) (cAt [1, 0, 1, 1, 1] B18) s H (evOperand Γ s (.tmp 26)) := at_cond (by kernel_rfl) (by kernel_rfl) rfl rfl s H
@[simp] theorem n18_9 (s : List V) (H : Heap) : evCode P Γ call n f m (cAt [1, 0, 1, 1, 0] B18) s H = seqNext P Γ call n f m (cAt [1, 0, 1, 1, 0, 1] B18) (evCode P Γ call n f m (cAt [1, 0, 1, 1, 0, 0] B18) s H) := at_seq (by kernel_rfl) rfl rfl s H
noncomputable def r18_10 : {l : List Oper // opsOf (cAt [1, 0, 1, 1, 0, 0] B18) = l} := by
  apply Subtype.mk
  dsimp only [opsOf, cAt, kids, B18, bodyOf, Tryd.f18, List.getD, List.getElem?_cons_zero, List.getElem?_cons_succ, Option.getD_some]
@[simp] theorem n18_10 (s : List V) (H : Heap) : evCode P Γ call n f m (cAt [1, 0, 1, 1, 0, 0] B18) s H = regNext (evOpsGo P Γ call r18_10.1 r18_10.1 s H) := at_region (by kernel_rfl) r18_10.2 s H
attribute [simp] r18_10
@[simp] theorem n18_11 (s : List V) (H : Heap) : evCode P Γ call n f m (cAt [1, 0, 1, 1, 0, 1] B18) s H = some (.ret, s, H) := at_ret (by kernel_rfl) s H
@[simp] theorem n18_12 (s : List V) (H : Heap) : evCode P Γ call n f m (cAt [1, 0, 1, 1, 1] B18) s H = some (.normal, s, H) := at_skip (by kernel_rfl) s H
@[simp] theorem n18_13 (s : List V) (H : Heap) : evCode P Γ call n f m (cAt [1, 1] B18) s H = seqNext P Γ call n f m (cAt [1, 1, 1] B18) (evCode P Γ call n f m (cAt [1, 1, 0] B18) s H) := at_seq (by kernel_rfl) rfl rfl s H
noncomputable def r18_14 : {l : List Oper // opsOf (cAt [1, 1, 0] B18) = l} := by
  apply Subtype.mk
  dsimp only [opsOf, cAt, kids, B18, bodyOf, Tryd.f18, List.getD, List.getElem?_cons_zero, List.getElem?_cons_succ, Option.getD_some]
@[simp] theorem n18_14 (s : List V) (H : Heap) : evCode P Γ call n f m (cAt [1, 1, 0] B18) s H = regNext (evOpsGo P Γ call r18_14.1 r18_14.1 s H) := at_region (by kernel_rfl) r18_14.2 s H
attribute [simp] r18_14
@[simp] theorem n18_15 (s : List V) (H : Heap) : evCode P Γ call n f m (cAt [1, 1, 1] B18) s H = seqNext P Γ call n f m (cAt [1, 1, 1, 1] B18) (evCode P Γ call n f m (cAt [1, 1, 1, 0] B18) s H) := at_seq (by kernel_rfl) rfl rfl s H
@[simp] theorem n18_16 (s : List V) (H : Heap) : evCode P Γ call n f m (cAt [1, 1, 1, 0] B18) s H = seqNext P Γ call n f m (cAt [1, 1, 1, 0, 1] B18) (evCode P Γ call n f m (cAt [1, 1, 1, 0, 0] B18) s H) := at_seq (by kernel_rfl) rfl rfl s H
noncomputable def r18_17 : {l : List Oper // opsOf (cAt [1, 1, 1, 0, 0] B18) = l} := by
  apply Subtype.mk
  dsimp only [opsOf, cAt, kids, B18, bodyOf, Tryd.f18, List.getD, List.getElem?_cons_zero, List.getElem?_cons_succ, Option.getD_some]
@[simp] theorem n18_17 (s : List V) (H : Heap) : evCode P Γ call n f m (cAt [1, 1, 1, 0, 0] B18) s H = regNext (evOpsGo P Γ call r18_17.1 r18_17.1 s H) := at_region (by kernel_rfl) r18_17.2 s H
attribute [simp] r18_17
@[simp] theorem n18_18 (s : List V) (H : Heap) : evCode P Γ call n f m (cAt [1, 1, 1, 0, 1] B18) s H = condW P Γ call n f m (cAt [1, 1, 1, 0, 1, 0] B18) (cAt [1, 1, 1, 0, 1, 1] B18) s H (evOperand Γ s (.tmp 41)) := at_cond (by kernel_rfl) (by kernel_rfl) rfl rfl s H
@[simp] theorem n18_19 (s : List V) (H : Heap) : evCode P Γ call n f m (cAt [1, 1, 1, 0, 1, 0] B18) s H = seqNext P Γ call n f m (cAt [1, 1, 1, 0, 1, 0, 1] B18) (evCode P Γ call n f m (cAt [1, 1, 1, 0, 1, 0, 0] B18) s H) := at_seq (by kernel_rfl) rfl rfl s H
noncomputable def r18_20 : {l : List Oper // opsOf (cAt [1, 1, 1, 0, 1, 0, 0] B18) = l} := by
  apply Subtype.mk
  dsimp only [opsOf, cAt, kids, B18, bodyOf, Tryd.f18, List.getD, List.getElem?_cons_zero, List.getElem?_cons_succ, Option.getD_some]
@[simp] theorem n18_20 (s : List V) (H : Heap) : evCode P Γ call n f m (cAt [1, 1, 1, 0, 1, 0, 0] B18) s H = regNext (evOpsGo P Γ call r18_20.1 r18_20.1 s H) := at_region (by kernel_rfl) r18_20.2 s H
attribute [simp] r18_20
@[simp] theorem n18_21 (s : List V) (H : Heap) : evCode P Γ call n f m (cAt [1, 1, 1, 0, 1, 0, 1] B18) s H = some (.ret, s, H) := at_ret (by kernel_rfl) s H
@[simp] theorem n18_22 (s : List V) (H : Heap) : evCode P Γ call n f m (cAt [1, 1, 1, 0, 1, 1] B18) s H = some (.normal, s, H) := at_skip (by kernel_rfl) s H
@[simp] theorem n18_23 (s : List V) (H : Heap) : evCode P Γ call n f m (cAt [1, 1, 1, 1] B18) s H = seqNext P Γ call n f m (cAt [1, 1, 1, 1, 1] B18) (evCode P Γ call n f m (cAt [1, 1, 1, 1, 0] B18) s H) := at_seq (by kernel_rfl) rfl rfl s H
@[simp] theorem n18_24 (s : List V) (H : Heap) : evCode P Γ call n f m (cAt [1, 1, 1, 1, 0] B18) s H = seqNext P Γ call n f m (cAt [1, 1, 1, 1, 0, 1] B18) (evCode P Γ call n f m (cAt [1, 1, 1, 1, 0, 0] B18) s H) := at_seq (by kernel_rfl) rfl rfl s H
noncomputable def r18_25 : {l : List Oper // opsOf (cAt [1, 1, 1, 1, 0, 0] B18) = l} := by
  apply Subtype.mk
  dsimp only [opsOf, cAt, kids, B18, bodyOf, Tryd.f18, List.getD, List.getElem?_cons_zero, List.getElem?_cons_succ, Option.getD_some]
@[simp] theorem n18_25 (s : List V) (H : Heap) : evCode P Γ call n f m (cAt [1, 1, 1, 1, 0, 0] B18) s H = regNext (evOpsGo P Γ call r18_25.1 r18_25.1 s H) := at_region (by kernel_rfl) r18_25.2 s H
attribute [simp] r18_25
@[simp] theorem n18_26 (s : List V) (H : Heap) : evCode P Γ call n f m (cAt [1, 1, 1, 1, 0, 1] B18) s H = blockNext 0 (evCode P Γ call n f m (cAt [1, 1, 1, 1, 0, 1, 0] B18) s H) := at_block (by kernel_rfl) rfl s H
@[simp] theorem n18_27 (s : List V) (H : Heap) : evCode P Γ call n f m (cAt [1, 1, 1, 1, 0, 1, 0] B18) s H = evLoopC P Γ call n f m (cAt [1, 1, 1, 1, 0, 1, 0, 0] B18) n s H := at_loop (by kernel_rfl) rfl s H
noncomputable abbrev L18_8 : Code := cAt [1, 1, 1, 1, 0, 1, 0, 0] B18
@[simp] theorem n18_27f : firstRegion (cAt [1, 1, 1, 1, 0, 1, 0, 0] B18) = 8 := by kernel_rfl
@[simp] theorem n18_28 (s : List V) (H : Heap) : evCode P Γ call n f m (cAt [1, 1, 1, 1, 0, 1, 0, 0] B18) s H = seqNext P Γ call n f m (cAt [1, 1, 1, 1, 0, 1, 0, 0, 1] B18) (evCode P Γ call n f m (cAt [1, 1, 1, 1, 0, 1, 0, 0, 0] B18) s H) := at_seq (by kernel_rfl) rfl rfl s H
noncomputable def r18_29 : {l : List Oper // opsOf (cAt [1, 1, 1, 1, 0, 1, 0, 0, 0] B18) = l} := by
  apply Subtype.mk
  dsimp only [opsOf, cAt, kids, B18, bodyOf, Tryd.f18, List.getD, List.getElem?_cons_zero, List.getElem?_cons_succ, Option.getD_some]
@[simp] theorem n18_29 (s : List V) (H : Heap) : evCode P Γ call n f m (cAt [1, 1, 1, 1, 0, 1, 0, 0, 0] B18) s H = regNext (evOpsGo P Γ call r18_29.1 r18_29.1 s H) := at_region (by kernel_rfl) r18_29.2 s H
attribute [simp] r18_29
@[simp] theorem n18_30 (s : List V) (H : Heap) : evCode P Γ call n f m (cAt [1, 1, 1, 1, 0, 1, 0, 0, 1] B18) s H = seqNext P Γ call n f m (cAt [1, 1, 1, 1, 0, 1, 0, 0, 1, 1] B18) (evCode P Γ call n f m (cAt [1, 1, 1, 1, 0, 1, 0, 0, 1, 0] B18) s H) := at_seq (by kernel_rfl) rfl rfl s H
@[simp] theorem n18_31 (s : List V) (H : Heap) : evCode P Γ call n f m (cAt [1, 1, 1, 1, 0, 1, 0, 0, 1, 0] B18) s H = condW P Γ call n f m (cAt [1, 1, 1, 1, 0, 1, 0, 0, 1, 0, 0] B18) (cAt [1, 1, 1, 1, 0, 1, 0, 0, 1, 0, 1] B18) s H (evOperand Γ s (.tmp 48)) := at_cond (by kernel_rfl) (by kernel_rfl) rfl rfl s H
@[simp] theorem n18_32 (s : List V) (H : Heap) : evCode P Γ call n f m (cAt [1, 1, 1, 1, 0, 1, 0, 0, 1, 0, 0] B18) s H = some (.normal, s, H) := at_skip (by kernel_rfl) s H
@[simp] theorem n18_33 (s : List V) (H : Heap) : evCode P Γ call n f m (cAt [1, 1, 1, 1, 0, 1, 0, 0, 1, 0, 1] B18) s H = some (.exit 0, s, H) := at_exit (by kernel_rfl) s H
@[simp] theorem n18_34 (s : List V) (H : Heap) : evCode P Γ call n f m (cAt [1, 1, 1, 1, 0, 1, 0, 0, 1, 1] B18) s H = seqNext P Γ call n f m (cAt [1, 1, 1, 1, 0, 1, 0, 0, 1, 1, 1] B18) (evCode P Γ call n f m (cAt [1, 1, 1, 1, 0, 1, 0, 0, 1, 1, 0] B18) s H) := at_seq (by kernel_rfl) rfl rfl s H
@[simp] theorem n18_35 (s : List V) (H : Heap) : evCode P Γ call n f m (cAt [1, 1, 1, 1, 0, 1, 0, 0, 1, 1, 0] B18) s H = blockNext 1 (evCode P Γ call n f m (cAt [1, 1, 1, 1, 0, 1, 0, 0, 1, 1, 0, 0] B18) s H) := at_block (by kernel_rfl) rfl s H
@[simp] theorem n18_36 (s : List V) (H : Heap) : evCode P Γ call n f m (cAt [1, 1, 1, 1, 0, 1, 0, 0, 1, 1, 0, 0] B18) s H = seqNext P Γ call n f m (cAt [1, 1, 1, 1, 0, 1, 0, 0, 1, 1, 0, 0, 1] B18) (evCode P Γ call n f m (cAt [1, 1, 1, 1, 0, 1, 0, 0, 1, 1, 0, 0, 0] B18) s H) := at_seq (by kernel_rfl) rfl rfl s H
noncomputable def r18_37 : {l : List Oper // opsOf (cAt [1, 1, 1, 1, 0, 1, 0, 0, 1, 1, 0, 0, 0] B18) = l} := by
  apply Subtype.mk
  dsimp only [opsOf, cAt, kids, B18, bodyOf, Tryd.f18, List.getD, List.getElem?_cons_zero, List.getElem?_cons_succ, Option.getD_some]
@[simp] theorem n18_37 (s : List V) (H : Heap) : evCode P Γ call n f m (cAt [1, 1, 1, 1, 0, 1, 0, 0, 1, 1, 0, 0, 0] B18) s H = regNext (evOpsGo P Γ call r18_37.1 r18_37.1 s H) := at_region (by kernel_rfl) r18_37.2 s H
attribute [simp] r18_37
@[simp] theorem n18_38 (s : List V) (H : Heap) : evCode P Γ call n f m (cAt [1, 1, 1, 1, 0, 1, 0, 0, 1, 1, 0, 0, 1] B18) s H = seqNext P Γ call n f m (cAt [1, 1, 1, 1, 0, 1, 0, 0, 1, 1, 0, 0, 1, 1] B18) (evCode P Γ call n f m (cAt [1, 1, 1, 1, 0, 1, 0, 0, 1, 1, 0, 0, 1, 0] B18) s H) := at_seq (by kernel_rfl) rfl rfl s H
noncomputable def r18_39 : {l : List Oper // opsOf (cAt [1, 1, 1, 1, 0, 1, 0, 0, 1, 1, 0, 0, 1, 0] B18) = l} := by
  apply Subtype.mk
  dsimp only [opsOf, cAt, kids, B18, bodyOf, Tryd.f18, List.getD, List.getElem?_cons_zero, List.getElem?_cons_succ, Option.getD_some]
@[simp] theorem n18_39 (s : List V) (H : Heap) : evCode P Γ call n f m (cAt [1, 1, 1, 1, 0, 1, 0, 0, 1, 1, 0, 0, 1, 0] B18) s H = regNext (evOpsGo P Γ call r18_39.1 r18_39.1 s H) := at_region (by kernel_rfl) r18_39.2 s H
attribute [simp] r18_39
@[simp] theorem n18_40 (s : List V) (H : Heap) : evCode P Γ call n f m (cAt [1, 1, 1, 1, 0, 1, 0, 0, 1, 1, 0, 0, 1, 1] B18) s H = condW P Γ call n f m (cAt [1, 1, 1, 1, 0, 1, 0, 0, 1, 1, 0, 0, 1, 1, 0] B18) (cAt [1, 1, 1, 1, 0, 1, 0, 0, 1, 1, 0, 0, 1, 1, 1] B18) s H (evOperand Γ s (.tmp 56)) := at_cond (by kernel_rfl) (by kernel_rfl) rfl rfl s H
@[simp] theorem n18_41 (s : List V) (H : Heap) : evCode P Γ call n f m (cAt [1, 1, 1, 1, 0, 1, 0, 0, 1, 1, 0, 0, 1, 1, 0] B18) s H = seqNext P Γ call n f m (cAt [1, 1, 1, 1, 0, 1, 0, 0, 1, 1, 0, 0, 1, 1, 0, 1] B18) (evCode P Γ call n f m (cAt [1, 1, 1, 1, 0, 1, 0, 0, 1, 1, 0, 0, 1, 1, 0, 0] B18) s H) := at_seq (by kernel_rfl) rfl rfl s H
noncomputable def r18_42 : {l : List Oper // opsOf (cAt [1, 1, 1, 1, 0, 1, 0, 0, 1, 1, 0, 0, 1, 1, 0, 0] B18) = l} := by
  apply Subtype.mk
  dsimp only [opsOf, cAt, kids, B18, bodyOf, Tryd.f18, List.getD, List.getElem?_cons_zero, List.getElem?_cons_succ, Option.getD_some]
@[simp] theorem n18_42 (s : List V) (H : Heap) : evCode P Γ call n f m (cAt [1, 1, 1, 1, 0, 1, 0, 0, 1, 1, 0, 0, 1, 1, 0, 0] B18) s H = regNext (evOpsGo P Γ call r18_42.1 r18_42.1 s H) := at_region (by kernel_rfl) r18_42.2 s H
attribute [simp] r18_42
@[simp] theorem n18_43 (s : List V) (H : Heap) : evCode P Γ call n f m (cAt [1, 1, 1, 1, 0, 1, 0, 0, 1, 1, 0, 0, 1, 1, 0, 1] B18) s H = some (.ret, s, H) := at_ret (by kernel_rfl) s H
@[simp] theorem n18_44 (s : List V) (H : Heap) : evCode P Γ call n f m (cAt [1, 1, 1, 1, 0, 1, 0, 0, 1, 1, 0, 0, 1, 1, 1] B18) s H = some (.normal, s, H) := at_skip (by kernel_rfl) s H
noncomputable def r18_45 : {l : List Oper // opsOf (cAt [1, 1, 1, 1, 0, 1, 0, 0, 1, 1, 1] B18) = l} := by
  apply Subtype.mk
  dsimp only [opsOf, cAt, kids, B18, bodyOf, Tryd.f18, List.getD, List.getElem?_cons_zero, List.getElem?_cons_succ, Option.getD_some]
@[simp] theorem n18_45 (s : List V) (H : Heap) : evCode P Γ call n f m (cAt [1, 1, 1, 1, 0, 1, 0, 0, 1, 1, 1] B18) s H = regNext (evOpsGo P Γ call r18_45.1 r18_45.1 s H) := at_region (by kernel_rfl) r18_45.2 s H
attribute [simp] r18_45
@[simp] theorem n18_46 (s : List V) (H : Heap) : evCode P Γ call n f m (cAt [1, 1, 1, 1, 1] B18) s H = seqNext P Γ call n f m (cAt [1, 1, 1, 1, 1, 1] B18) (evCode P Γ call n f m (cAt [1, 1, 1, 1, 1, 0] B18) s H) := at_seq (by kernel_rfl) rfl rfl s H
@[simp] theorem n18_47 (s : List V) (H : Heap) : evCode P Γ call n f m (cAt [1, 1, 1, 1, 1, 0] B18) s H = seqNext P Γ call n f m (cAt [1, 1, 1, 1, 1, 0, 1] B18) (evCode P Γ call n f m (cAt [1, 1, 1, 1, 1, 0, 0] B18) s H) := at_seq (by kernel_rfl) rfl rfl s H
noncomputable def r18_48 : {l : List Oper // opsOf (cAt [1, 1, 1, 1, 1, 0, 0] B18) = l} := by
  apply Subtype.mk
  dsimp only [opsOf, cAt, kids, B18, bodyOf, Tryd.f18, List.getD, List.getElem?_cons_zero, List.getElem?_cons_succ, Option.getD_some]
@[simp] theorem n18_48 (s : List V) (H : Heap) : evCode P Γ call n f m (cAt [1, 1, 1, 1, 1, 0, 0] B18) s H = regNext (evOpsGo P Γ call r18_48.1 r18_48.1 s H) := at_region (by kernel_rfl) r18_48.2 s H
attribute [simp] r18_48
@[simp] theorem n18_49 (s : List V) (H : Heap) : evCode P Γ call n f m (cAt [1, 1, 1, 1, 1, 0, 1] B18) s H = blockNext 2 (evCode P Γ call n f m (cAt [1, 1, 1, 1, 1, 0, 1, 0] B18) s H) := at_block (by kernel_rfl) rfl s H
@[simp] theorem n18_50 (s : List V) (H : Heap) : evCode P Γ call n f m (cAt [1, 1, 1, 1, 1, 0, 1, 0] B18) s H = evLoopC P Γ call n f m (cAt [1, 1, 1, 1, 1, 0, 1, 0, 0] B18) n s H := at_loop (by kernel_rfl) rfl s H
noncomputable abbrev L18_14 : Code := cAt [1, 1, 1, 1, 1, 0, 1, 0, 0] B18
@[simp] theorem n18_50f : firstRegion (cAt [1, 1, 1, 1, 1, 0, 1, 0, 0] B18) = 14 := by kernel_rfl
@[simp] theorem n18_51 (s : List V) (H : Heap) : evCode P Γ call n f m (cAt [1, 1, 1, 1, 1, 0, 1, 0, 0] B18) s H = seqNext P Γ call n f m (cAt [1, 1, 1, 1, 1, 0, 1, 0, 0, 1] B18) (evCode P Γ call n f m (cAt [1, 1, 1, 1, 1, 0, 1, 0, 0, 0] B18) s H) := at_seq (by kernel_rfl) rfl rfl s H
noncomputable def r18_52 : {l : List Oper // opsOf (cAt [1, 1, 1, 1, 1, 0, 1, 0, 0, 0] B18) = l} := by
  apply Subtype.mk
  dsimp only [opsOf, cAt, kids, B18, bodyOf, Tryd.f18, List.getD, List.getElem?_cons_zero, List.getElem?_cons_succ, Option.getD_some]
@[simp] theorem n18_52 (s : List V) (H : Heap) : evCode P Γ call n f m (cAt [1, 1, 1, 1, 1, 0, 1, 0, 0, 0] B18) s H = regNext (evOpsGo P Γ call r18_52.1 r18_52.1 s H) := at_region (by kernel_rfl) r18_52.2 s H
attribute [simp] r18_52
@[simp] theorem n18_53 (s : List V) (H : Heap) : evCode P Γ call n f m (cAt [1, 1, 1, 1, 1, 0, 1, 0, 0, 1] B18) s H = seqNext P Γ call n f m (cAt [1, 1, 1, 1, 1, 0, 1, 0, 0, 1, 1] B18) (evCode P Γ call n f m (cAt [1, 1, 1, 1, 1, 0, 1, 0, 0, 1, 0] B18) s H) := at_seq (by kernel_rfl) rfl rfl s H
@[simp] theorem n18_54 (s : List V) (H : Heap) : evCode P Γ call n f m (cAt [1, 1, 1, 1, 1, 0, 1, 0, 0, 1, 0] B18) s H = condW P Γ call n f m (cAt [1, 1, 1, 1, 1, 0, 1, 0, 0, 1, 0, 0] B18) (cAt [1, 1, 1, 1, 1, 0, 1, 0, 0, 1, 0, 1] B18) s H (evOperand Γ s (.tmp 61)) := at_cond (by kernel_rfl) (by kernel_rfl) rfl rfl s H
@[simp] theorem n18_55 (s : List V) (H : Heap) : evCode P Γ call n f m (cAt [1, 1, 1, 1, 1, 0, 1, 0, 0, 1, 0, 0] B18) s H = some (.normal, s, H) := at_skip (by kernel_rfl) s H
@[simp] theorem n18_56 (s : List V) (H : Heap) : evCode P Γ call n f m (cAt [1, 1, 1, 1, 1, 0, 1, 0, 0, 1, 0, 1] B18) s H = some (.exit 2, s, H) := at_exit (by kernel_rfl) s H
@[simp] theorem n18_57 (s : List V) (H : Heap) : evCode P Γ call n f m (cAt [1, 1, 1, 1, 1, 0, 1, 0, 0, 1, 1] B18) s H = seqNext P Γ call n f m (cAt [1, 1, 1, 1, 1, 0, 1, 0, 0, 1, 1, 1] B18) (evCode P Γ call n f m (cAt [1, 1, 1, 1, 1, 0, 1, 0, 0, 1, 1, 0] B18) s H) := at_seq (by kernel_rfl) rfl rfl s H
@[simp] theorem n18_58 (s : List V) (H : Heap) : evCode P Γ call n f m (cAt [1, 1, 1, 1, 1, 0, 1, 0, 0, 1, 1, 0] B18) s H = blockNext 3 (evCode P Γ call n f m (cAt [1, 1, 1, 1, 1, 0, 1, 0, 0, 1, 1, 0, 0] B18) s H) := at_block (by kernel_rfl) rfl s H
@[simp] theorem n18_59 (s : List V) (H : Heap) : evCode P Γ call n f m (cAt [1, 1, 1, 1, 1, 0, 1, 0, 0, 1, 1, 0, 0] B18) s H = seqNext P Γ call n f m (cAt [1, 1, 1, 1, 1, 0, 1, 0, 0, 1, 1, 0, 0, 1] B18) (evCode P Γ call n f m (cAt [1, 1, 1, 1, 1, 0, 1, 0, 0, 1, 1, 0, 0, 0] B18) s H) := at_seq (by kernel_rfl) rfl rfl s H
noncomputable def r18_60 : {l : List Oper // opsOf (cAt [1, 1, 1, 1, 1, 0, 1, 0, 0, 1, 1, 0, 0, 0] B18) = l} := by
  apply Subtype.mk
  dsimp only [opsOf, cAt, kids, B18, bodyOf, Tryd.f18, List.getD, List.getElem?_cons_zero, List.getElem?_cons_succ, Option.getD_some]
@[simp] theorem n18_60 (s : List V) (H : Heap) : evCode P Γ call n f m (cAt [1, 1, 1, 1, 1, 0, 1, 0, 0, 1, 1, 0, 0, 0] B18) s H = regNext (evOpsGo P Γ call r18_60.1 r18_60.1 s H) := at_region (by kernel_rfl) r18_60.2 s H
attribute [simp] r18_60
@[simp] theorem n18_61 (s : List V) (H : Heap) : evCode P Γ call n f m (cAt [1, 1, 1, 1, 1, 0, 1, 0, 0, 1, 1, 0, 0, 1] B18) s H = seqNext P Γ call n f m (cAt [1, 1, 1, 1, 1, 0, 1, 0, 0, 1, 1, 0, 0, 1, 1] B18) (evCode P Γ call n f m (cAt [1, 1, 1, 1, 1, 0, 1, 0, 0, 1, 1, 0, 0, 1, 0] B18) s H) := at_seq (by kernel_rfl) rfl rfl s H
noncomputable def r18_62 : {l : List Oper // opsOf (cAt [1, 1, 1, 1, 1, 0, 1, 0, 0, 1, 1, 0, 0, 1, 0] B18) = l} := by
  apply Subtype.mk
  dsimp only [opsOf, cAt, kids, B18, bodyOf, Tryd.f18, List.getD, List.getElem?_cons_zero, List.getElem?_cons_succ, Option.getD_some]
@[simp] theorem n18_62 (s : List V) (H : Heap) : evCode P Γ call n f m (cAt [1, 1, 1, 1, 1, 0, 1, 0, 0, 1, 1, 0, 0, 1, 0] B18) s H = regNext (evOpsGo P Γ call r18_62.1 r18_62.1 s H) := at_region (by kernel_rfl) r18_62.2 s H
attribute [simp] r18_62
@[simp] theorem n18_63 (s : List V) (H : Heap) : evCode P Γ call n f m (cAt [1, 1, 1, 1, 1, 0, 1, 0, 0, 1, 1, 0, 0, 1, 1] B18) s H = seqNext P Γ call n f m (cAt [1, 1, 1, 1, 1, 0, 1, 0, 0, 1, 1, 0, 0, 1, 1, 1] B18) (evCode P Γ call n f m (cAt [1, 1, 1, 1, 1, 0, 1, 0, 0, 1, 1, 0, 0, 1, 1, 0] B18) s H) := at_seq (by kernel_rfl) rfl rfl s H
noncomputable def r18_64 : {l : List Oper // opsOf (cAt [1, 1, 1, 1, 1, 0, 1, 0, 0, 1, 1, 0, 0, 1, 1, 0] B18) = l} := by
  apply Subtype.mk
  dsimp only [opsOf, cAt, kids, B18, bodyOf, Tryd.f18, List.getD, List.getElem?_cons_zero, List.getElem?_cons_succ, Option.getD_some]
@[simp] theorem n18_64 (s : List V) (H : Heap) : evCode P Γ call n f m (cAt [1, 1, 1, 1, 1, 0, 1, 0, 0, 1, 1, 0, 0, 1, 1, 0] B18) s H = regNext (drawR P Γ call r18_64.1 [([1, 4, 5, 6, 7], [73, 76, 77, 78, 79]), ([0, 4, 5, 6, 7], [72, 76, 77, 78, 79]), ([4, 5, 6, 7], [76, 77, 78, 79]), ([4, 5, 6, 7], [76, 77, 78, 79]), ([0, 1, 2, 3, 5], [72, 73, 74, 75, 77]), ([0, 1, 2, 3, 4], [72, 73, 74, 75, 76]), ([0, 1, 2, 3], [72, 73, 74, 75]), ([0, 1, 2, 3], [72, 73, 74, 75]), ([], []), ([], [])] s H) := at_drawT (by kernel_rfl) r18_64.2 (by kernel_rfl) s H
attribute [simp] r18_64
@[simp] theorem n18_65 (s : List V) (H : Heap) : evCode P Γ call n f m (cAt [1, 1, 1, 1, 1, 0, 1, 0, 0, 1, 1, 0, 0, 1, 1, 1] B18) s H = seqNext P Γ call n f m (cAt [1, 1, 1, 1, 1, 0, 1, 0, 0, 1, 1, 0, 0, 1, 1, 1, 1] B18) (evCode P Γ call n f m (cAt [1, 1, 1, 1, 1, 0, 1, 0, 0, 1, 1, 0, 0, 1, 1, 1, 0] B18) s H) := at_seq (by kernel_rfl) rfl rfl s H
noncomputable def r18_66 : {l : List Oper // opsOf (cAt [1, 1, 1, 1, 1, 0, 1, 0, 0, 1, 1, 0, 0, 1, 1, 1, 0] B18) = l} := by
  apply Subtype.mk
  dsimp only [opsOf, cAt, kids, B18, bodyOf, Tryd.f18, List.getD, List.getElem?_cons_zero, List.getElem?_cons_succ, Option.getD_some]
@[simp] theorem n18_66 (s : List V) (H : Heap) : evCode P Γ call n f m (cAt [1, 1, 1, 1, 1, 0, 1, 0, 0, 1, 1, 0, 0, 1, 1, 1, 0] B18) s H = regNext (evOpsGo P Γ call r18_66.1 r18_66.1 s H) := at_region (by kernel_rfl) r18_66.2 s H
attribute [simp] r18_66
@[simp] theorem n18_67 (s : List V) (H : Heap) : evCode P Γ call n f m (cAt [1, 1, 1, 1, 1, 0, 1, 0, 0, 1, 1, 0, 0, 1, 1, 1, 1] B18) s H = condW P Γ call n f m (cAt [1, 1, 1, 1, 1, 0, 1, 0, 0, 1, 1, 0, 0, 1, 1, 1, 1, 0] B18) (cAt [1, 1, 1, 1, 1, 0, 1, 0, 0, 1, 1, 0, 0, 1, 1, 1, 1, 1] B18) s H (evOperand Γ s (.tmp 96)) := at_cond (by kernel_rfl) (by kernel_rfl) rfl rfl s H
@[simp] theorem n18_68 (s : List V) (H : Heap) : evCode P Γ call n f m (cAt [1, 1, 1, 1, 1, 0, 1, 0, 0, 1, 1, 0, 0, 1, 1, 1, 1, 0] B18) s H = seqNext P Γ call n f m (cAt [1, 1, 1, 1, 1, 0, 1, 0, 0, 1, 1, 0, 0, 1, 1, 1, 1, 0, 1] B18) (evCode P Γ call n f m (cAt [1, 1, 1, 1, 1, 0, 1, 0, 0, 1, 1, 0, 0, 1, 1, 1, 1, 0, 0] B18) s H) := at_seq (by kernel_rfl) rfl rfl s H
noncomputable def r18_69 : {l : List Oper // opsOf (cAt [1, 1, 1, 1, 1, 0, 1, 0, 0, 1, 1, 0, 0, 1, 1, 1, 1, 0, 0] B18) = l} := by
  apply Subtype.mk
  dsimp only [opsOf, cAt, kids, B18, bodyOf, Tryd.f18, List.getD, List.getElem?_cons_zero, List.getElem?_cons_succ, Option.getD_some]
@[simp] theorem n18_69 (s : List V) (H : Heap) : evCode P Γ call n f m (cAt [1, 1, 1, 1, 1, 0, 1, 0, 0, 1, 1, 0, 0, 1, 1, 1, 1, 0, 0] B18) s H = regNext (evOpsGo P Γ call r18_69.1 r18_69.1 s H) := at_region (by kernel_rfl) r18_69.2 s H
attribute [simp] r18_69
@[simp] theorem n18_70 (s : List V) (H : Heap) : evCode P Γ call n f m (cAt [1, 1, 1, 1, 1, 0, 1, 0, 0, 1, 1, 0, 0, 1, 1, 1, 1, 0, 1] B18) s H = some (.ret, s, H) := at_ret (by kernel_rfl) s H
@[simp] theorem n18_71 (s : List V) (H : Heap) : evCode P Γ call n f m (cAt [1, 1, 1, 1, 1, 0, 1, 0, 0, 1, 1, 0, 0, 1, 1, 1, 1, 1] B18) s H = some (.normal, s, H) := at_skip (by kernel_rfl) s H
noncomputable def r18_72 : {l : List Oper // opsOf (cAt [1, 1, 1, 1, 1, 0, 1, 0, 0, 1, 1, 1] B18) = l} := by
  apply Subtype.mk
  dsimp only [opsOf, cAt, kids, B18, bodyOf, Tryd.f18, List.getD, List.getElem?_cons_zero, List.getElem?_cons_succ, Option.getD_some]
@[simp] theorem n18_72 (s : List V) (H : Heap) : evCode P Γ call n f m (cAt [1, 1, 1, 1, 1, 0, 1, 0, 0, 1, 1, 1] B18) s H = regNext (evOpsGo P Γ call r18_72.1 r18_72.1 s H) := at_region (by kernel_rfl) r18_72.2 s H
attribute [simp] r18_72
@[simp] theorem n18_73 (s : List V) (H : Heap) : evCode P Γ call n f m (cAt [1, 1, 1, 1, 1, 1] B18) s H = seqNext P Γ call n f m (cAt [1, 1, 1, 1, 1, 1, 1] B18) (evCode P Γ call n f m (cAt [1, 1, 1, 1, 1, 1, 0] B18) s H) := at_seq (by kernel_rfl) rfl rfl s H
@[simp] theorem n18_74 (s : List V) (H : Heap) : evCode P Γ call n f m (cAt [1, 1, 1, 1, 1, 1, 0] B18) s H = seqNext P Γ call n f m (cAt [1, 1, 1, 1, 1, 1, 0, 1] B18) (evCode P Γ call n f m (cAt [1, 1, 1, 1, 1, 1, 0, 0] B18) s H) := at_seq (by kernel_rfl) rfl rfl s H
noncomputable def r18_75 : {l : List Oper // opsOf (cAt [1, 1, 1, 1, 1, 1, 0, 0] B18) = l} := by
  apply Subtype.mk
  dsimp only [opsOf, cAt, kids, B18, bodyOf, Tryd.f18, List.getD, List.getElem?_cons_zero, List.getElem?_cons_succ, Option.getD_some]
@[simp] theorem n18_75 (s : List V) (H : Heap) : evCode P Γ call n f m (cAt [1, 1, 1, 1, 1, 1, 0, 0] B18) s H = regNext (evOpsGo P Γ call r18_75.1 r18_75.1 s H) := at_region (by kernel_rfl) r18_75.2 s H
attribute [simp] r18_75
@[simp] theorem n18_76 (s : List V) (H : Heap) : evCode P Γ call n f m (cAt [1, 1, 1, 1, 1, 1, 0, 1] B18) s H = blockNext 4 (evCode P Γ call n f m (cAt [1, 1, 1, 1, 1, 1, 0, 1, 0] B18) s H) := at_block (by kernel_rfl) rfl s H
@[simp] theorem n18_77 (s : List V) (H : Heap) : evCode P Γ call n f m (cAt [1, 1, 1, 1, 1, 1, 0, 1, 0] B18) s H = evLoopC P Γ call n f m (cAt [1, 1, 1, 1, 1, 1, 0, 1, 0, 0] B18) n s H := at_loop (by kernel_rfl) rfl s H
noncomputable abbrev L18_22 : Code := cAt [1, 1, 1, 1, 1, 1, 0, 1, 0, 0] B18
@[simp] theorem n18_77f : firstRegion (cAt [1, 1, 1, 1, 1, 1, 0, 1, 0, 0] B18) = 22 := by kernel_rfl
@[simp] theorem n18_78 (s : List V) (H : Heap) : evCode P Γ call n f m (cAt [1, 1, 1, 1, 1, 1, 0, 1, 0, 0] B18) s H = seqNext P Γ call n f m (cAt [1, 1, 1, 1, 1, 1, 0, 1, 0, 0, 1] B18) (evCode P Γ call n f m (cAt [1, 1, 1, 1, 1, 1, 0, 1, 0, 0, 0] B18) s H) := at_seq (by kernel_rfl) rfl rfl s H
noncomputable def r18_79 : {l : List Oper // opsOf (cAt [1, 1, 1, 1, 1, 1, 0, 1, 0, 0, 0] B18) = l} := by
  apply Subtype.mk
  dsimp only [opsOf, cAt, kids, B18, bodyOf, Tryd.f18, List.getD, List.getElem?_cons_zero, List.getElem?_cons_succ, Option.getD_some]
@[simp] theorem n18_79 (s : List V) (H : Heap) : evCode P Γ call n f m (cAt [1, 1, 1, 1, 1, 1, 0, 1, 0, 0, 0] B18) s H = regNext (evOpsGo P Γ call r18_79.1 r18_79.1 s H) := at_region (by kernel_rfl) r18_79.2 s H
attribute [simp] r18_79
@[simp] theorem n18_80 (s : List V) (H : Heap) : evCode P Γ call n f m (cAt [1, 1, 1, 1, 1, 1, 0, 1, 0, 0, 1] B18) s H = seqNext P Γ call n f m (cAt [1, 1, 1, 1, 1, 1, 0, 1, 0, 0, 1, 1] B18) (evCode P Γ call n f m (cAt [1, 1, 1, 1, 1, 1, 0, 1, 0, 0, 1, 0] B18) s H) := at_seq (by kernel_rfl) rfl rfl s H
@[simp] theorem n18_81 (s : List V) (H : Heap) : evCode P Γ call n f m (cAt [1, 1, 1, 1, 1, 1, 0, 1, 0, 0, 1, 0] B18) s H = condW P Γ call n f m (cAt [1, 1, 1, 1, 1, 1, 0, 1, 0, 0, 1, 0, 0] B18) (cAt [1, 1, 1, 1, 1, 1, 0, 1, 0, 0, 1, 0, 1] B18) s H (evOperand Γ s (.tmp 101)) := at_cond (by kernel_rfl) (by kernel_rfl) rfl rfl s H
@[simp] theorem n18_82 (s : List V) (H : Heap) : evCode P Γ call n f m (cAt [1, 1, 1, 1, 1, 1, 0, 1, 0, 0, 1, 0, 0] B18) s H = some (.normal, s, H) := at_skip (by kernel_rfl) s H
@[simp] theorem n18_83 (s : List V) (H : Heap) : evCode P Γ call n f m (cAt [1, 1, 1, 1, 1, 1, 0, 1, 0, 0, 1, 0, 1] B18) s H = some (.exit 4, s, H) := at_exit (by kernel_rfl) s H
@[simp] theorem n18_84 (s : List V) (H : Heap) : evCode P Γ call n f m (cAt [1, 1, 1, 1, 1, 1, 0, 1, 0, 0, 1, 1] B18) s H = seqNext P Γ call n f m (cAt [1, 1, 1, 1, 1, 1, 0, 1, 0, 0, 1, 1, 1] B18) (evCode P Γ call n f m (cAt [1, 1, 1, 1, 1, 1, 0, 1, 0, 0, 1, 1, 0] B18) s H) := at_seq (by kernel_rfl) rfl rfl s H
@[simp] theorem n18_85 (s : List V) (H : Heap) : evCode P Γ call n f m (cAt [1, 1, 1, 1, 1, 1, 0, 1, 0, 0, 1, 1, 0] B18) s H = blockNext 5 (evCode P Γ call n f m (cAt [1, 1, 1, 1, 1, 1, 0, 1, 0, 0, 1, 1, 0, 0] B18) s H) := at_block (by kernel_rfl) rfl s H
@[simp] theorem n18_86 (s : List V) (H : Heap) : evCode P Γ call n f m (cAt [1, 1, 1, 1, 1, 1, 0, 1, 0, 0, 1, 1, 0, 0] B18) s H = seqNext P Γ call n f m (cAt [1, 1, 1, 1, 1, 1, 0, 1, 0, 0, 1, 1, 0, 0, 1] B18) (evCode P Γ call n f m (cAt [1, 1, 1, 1, 1, 1, 0, 1, 0, 0, 1, 1, 0, 0, 0] B18) s H) := at_seq (by kernel_rfl) rfl rfl s H
noncomputable def r18_87 : {l : List Oper // opsOf (cAt [1, 1, 1, 1, 1, 1, 0, 1, 0, 0, 1, 1, 0, 0, 0] B18) = l} := by
  apply Subtype.mk
  dsimp only [opsOf, cAt, kids, B18, bodyOf, Tryd.f18, List.getD, List.getElem?_cons_zero, List.getElem?_cons_succ, Option.getD_some]
@[simp] theorem n18_87 (s : List V) (H : Heap) : evCode P Γ call n f m (cAt [1, 1, 1, 1, 1, 1, 0, 1, 0, 0, 1, 1, 0, 0, 0] B18) s H = regNext (evOpsGo P Γ call r18_87.1 r18_87.1 s H) := at_region (by kernel_rfl) r18_87.2 s H
attribute [simp] r18_87
@[simp] theorem n18_88 (s : List V) (H : Heap) : evCode P Γ call n f m (cAt [1, 1, 1, 1, 1, 1, 0, 1, 0, 0, 1, 1, 0, 0, 1] B18) s H = seqNext P Γ call n f m (cAt [1, 1, 1, 1, 1, 1, 0, 1, 0, 0, 1, 1, 0, 0, 1, 1] B18) (evCode P Γ call n f m (cAt [1, 1, 1, 1, 1, 1, 0, 1, 0, 0, 1, 1, 0, 0, 1, 0] B18) s H) := at_seq (by kernel_rfl) rfl rfl s H
noncomputable def r18_89 : {l : List Oper // opsOf (cAt [1, 1, 1, 1, 1, 1, 0, 1, 0, 0, 1, 1, 0, 0, 1, 0] B18) = l} := by
  apply Subtype.mk
  dsimp only [opsOf, cAt, kids, B18, bodyOf, Tryd.f18, List.getD, List.getElem?_cons_zero, List.getElem?_cons_succ, Option.getD_some]
@[simp] theorem n18_89 (s : List V) (H : Heap) : evCode P Γ call n f m (cAt [1, 1, 1, 1, 1, 1, 0, 1, 0, 0, 1, 1, 0, 0, 1, 0] B18) s H = regNext (evOpsGo P Γ call r18_89.1 r18_89.1 s H) := at_region (by kernel_rfl) r18_89.2 s H
attribute [simp] r18_89
@[simp] theorem n18_90 (s : List V) (H : Heap) : evCode P Γ call n f m (cAt [1, 1, 1, 1, 1, 1, 0, 1, 0, 0, 1, 1, 0, 0, 1, 1] B18) s H = seqNext P Γ call n f m (cAt [1, 1, 1, 1, 1, 1, 0, 1, 0, 0, 1, 1, 0, 0, 1, 1, 1] B18) (evCode P Γ call n f m (cAt [1, 1, 1, 1, 1, 1, 0, 1, 0, 0, 1, 1, 0, 0, 1, 1, 0] B18) s H) := at_seq (by kernel_rfl) rfl rfl s H
@[simp] theorem n18_91 (s : List V) (H : Heap) : evCode P Γ call n f m (cAt [1, 1, 1, 1, 1, 1, 0, 1, 0, 0, 1, 1, 0, 0, 1, 1, 0] B18) s H = seqNext P Γ call n f m (cAt [1, 1, 1, 1, 1, 1, 0, 1, 0, 0, 1, 1, 0, 0, 1, 1, 0, 1] B18) (evCode P Γ call n f m (cAt [1, 1, 1, 1, 1, 1, 0, 1, 0, 0, 1, 1, 0, 0, 1, 1, 0, 0] B18) s H) := at_seq (by kernel_rfl) rfl rfl s H
noncomputable def r18_92 : {l : List Oper // opsOf (cAt [1, 1, 1, 1, 1, 1, 0, 1, 0, 0, 1, 1, 0, 0, 1, 1, 0, 0] B18) = l} := by
  apply Subtype.mk
  dsimp only [opsOf, cAt, kids, B18, bodyOf, Tryd.f18, List.getD, List.getElem?_cons_zero, List.getElem?_cons_succ, Option.getD_some]
@[simp] theorem n18_92 (s : List V) (H : Heap) : evCode P Γ call n f m (cAt [1, 1, 1, 1, 1, 1, 0, 1, 0, 0, 1, 1, 0, 0, 1, 1, 0, 0] B18) s H = regNext (evOpsGo P Γ call r18_92.1 r18_92.1 s H) := at_region (by kernel_rfl) r18_92.2 s H
attribute [simp] r18_92
@[simp] theorem n18_93 (s : List V) (H : Heap) : evCode P Γ call n f m (cAt [1, 1, 1, 1, 1, 1, 0, 1, 0, 0, 1, 1, 0, 0, 1, 1, 0, 1] B18) s H = condW P Γ call n f m (cAt [1, 1, 1, 1, 1, 1, 0, 1, 0, 0, 1, 1, 0, 0, 1, 1, 0, 1, 0] B18) (cAt [1, 1, 1, 1, 1, 1, 0, 1, 0, 0, 1, 1, 0, 0, 1, 1, 0, 1, 1] B18) s H (evOperand Γ s (.tmp 111)) := at_cond (by kernel_rfl) (by kernel_rfl) rfl rfl s H
noncomputable def r18_94 : {l : List Oper // opsOf (cAt [1, 1, 1, 1, 1, 1, 0, 1, 0, 0, 1, 1, 0, 0, 1, 1, 0, 1, 0] B18) = l} := by
  apply Subtype.mk
  dsimp only [opsOf, cAt, kids, B18, bodyOf, Tryd.f18, List.getD, List.getElem?_cons_zero, List.getElem?_cons_succ, Option.getD_some]
@[simp] theorem n18_94 (s : List V) (H : Heap) : evCode P Γ call n f m (cAt [1, 1, 1, 1, 1, 1, 0, 1, 0, 0, 1, 1, 0, 0, 1, 1, 0, 1, 0] B18) s H = regNext (evOpsGo P Γ call r18_94.1 r18_94.1 s H) := at_region (by kernel_rfl) r18_94.2 s H
attribute [simp] r18_94
@[simp] theorem n18_95 (s : List V) (H : Heap) : evCode P Γ call n f m (cAt [1, 1, 1, 1, 1, 1, 0, 1, 0, 0, 1, 1, 0, 0, 1, 1, 0, 1, 1] B18) s H = some (.normal, s, H) := at_skip (by kernel_rfl) s H
@[simp] theorem n18_96 (s : List V) (H : Heap) : evCode P Γ call n f m (cAt [1, 1, 1, 1, 1, 1, 0, 1, 0, 0, 1, 1, 0, 0, 1, 1, 1] B18) s H = seqNext P Γ call n f m (cAt [1, 1, 1, 1, 1, 1, 0, 1, 0, 0, 1, 1, 0, 0, 1, 1, 1, 1] B18) (evCode P Γ call n f m (cAt [1, 1, 1, 1, 1, 1, 0, 1, 0, 0, 1, 1, 0, 0, 1, 1, 1, 0] B18) s H) := at_seq (by kernel_rfl) rfl rfl s H
noncomputable def r18_97 : {l : List Oper // opsOf (cAt [1, 1, 1, 1, 1, 1, 0, 1, 0, 0, 1, 1, 0, 0, 1, 1, 1, 0] B18) = l} := by
  apply Subtype.mk
  dsimp only [opsOf, cAt, kids, B18, bodyOf, Tryd.f18, List.getD, List.getElem?_cons_zero, List.getElem?_cons_succ, Option.getD_some]
@[simp] theorem n18_97 (s : List V) (H : Heap) : evCode P Γ call n f m (cAt [1, 1, 1, 1, 1, 1, 0, 1, 0, 0, 1, 1, 0, 0, 1, 1, 1, 0] B18) s H = regNext (evOpsGo P Γ call r18_97.1 r18_97.1 s H) := at_region (by kernel_rfl) r18_97.2 s H
attribute [simp] r18_97
@[simp] theorem n18_98 (s : List V) (H : Heap) : evCode P Γ call n f m (cAt [1, 1, 1, 1, 1, 1, 0, 1, 0, 0, 1, 1, 0, 0, 1, 1, 1, 1] B18) s H = condW P Γ call n f m (cAt [1, 1, 1, 1, 1, 1, 0, 1, 0, 0, 1, 1, 0, 0, 1, 1, 1, 1, 0] B18) (cAt [1, 1, 1, 1, 1, 1, 0, 1, 0, 0, 1, 1, 0, 0, 1, 1, 1, 1, 1] B18) s H (evOperand Γ s (.tmp 128)) := at_cond (by kernel_rfl) (by kernel_rfl) rfl rfl s H
@[simp] theorem n18_99 (s : List V) (H : Heap) : evCode P Γ call n f m (cAt [1, 1, 1, 1, 1, 1, 0, 1, 0, 0, 1, 1, 0, 0, 1, 1, 1, 1, 0] B18) s H = seqNext P Γ call n f m (cAt [1, 1, 1, 1, 1, 1, 0, 1, 0, 0, 1, 1, 0, 0, 1, 1, 1, 1, 0, 1] B18) (evCode P Γ call n f m (cAt [1, 1, 1, 1, 1, 1, 0, 1, 0, 0, 1, 1, 0, 0, 1, 1, 1, 1, 0, 0] B18) s H) := at_seq (by kernel_rfl) rfl rfl s H
noncomputable def r18_100 : {l : List Oper // opsOf (cAt [1, 1, 1, 1, 1, 1, 0, 1, 0, 0, 1, 1, 0, 0, 1, 1, 1, 1, 0, 0] B18) = l} := by
  apply Subtype.mk
  dsimp only [opsOf, cAt, kids, B18, bodyOf, Tryd.f18, List.getD, List.getElem?_cons_zero, List.getElem?_cons_succ, Option.getD_some]
@[simp] theorem n18_100 (s : List V) (H : Heap) : evCode P Γ call n f m (cAt [1, 1, 1, 1, 1, 1, 0, 1, 0, 0, 1, 1, 0, 0, 1, 1, 1, 1, 0, 0] B18) s H = regNext (evOpsGo P Γ call r18_100.1 r18_100.1 s H) := at_region (by kernel_rfl) r18_100.2 s H
attribute [simp] r18_100
@[simp] theorem n18_101 (s : List V) (H : Heap) : evCode P Γ call n f m (cAt [1, 1, 1, 1, 1, 1, 0, 1, 0, 0, 1, 1, 0, 0, 1, 1, 1, 1, 0, 1] B18) s H = some (.ret, s, H) := at_ret (by kernel_rfl) s H
@[simp] theorem n18_102 (s : List V) (H : Heap) : evCode P Γ call n f m (cAt [1, 1, 1, 1, 1, 1, 0, 1, 0, 0, 1, 1, 0, 0, 1, 1, 1, 1, 1] B18) s H = some (.normal, s, H) := at_skip (by kernel_rfl) s H
noncomputable def r18_103 : {l : List Oper // opsOf (cAt [1, 1, 1, 1, 1, 1, 0, 1, 0, 0, 1, 1, 1] B18) = l} := by
  apply Subtype.mk
  dsimp only [opsOf, cAt, kids, B18, bodyOf, Tryd.f18, List.getD, List.getElem?_cons_zero, List.getElem?_cons_succ, Option.getD_some]
@[simp] theorem n18_103 (s : List V) (H : Heap) : evCode P Γ call n f m (cAt [1, 1, 1, 1, 1, 1, 0, 1, 0, 0, 1, 1, 1] B18) s H = regNext (evOpsGo P Γ call r18_103.1 r18_103.1 s H) := at_region (by kernel_rfl) r18_103.2 s H
attribute [simp] r18_103
@[simp] theorem n18_104 (s : List V) (H : Heap) : evCode P Γ call n f m (cAt [1, 1, 1, 1, 1, 1, 1] B18) s H = seqNext P Γ call n f m (cAt [1, 1, 1, 1, 1, 1, 1, 1] B18) (evCode P Γ call n f m (cAt [1, 1, 1, 1, 1, 1, 1, 0] B18) s H) := at_seq (by kernel_rfl) rfl rfl s H
noncomputable def r18_105 : {l : List Oper // opsOf (cAt [1, 1, 1, 1, 1, 1, 1, 0] B18) = l} := by
  apply Subtype.mk
  dsimp only [opsOf, cAt, kids, B18, bodyOf, Tryd.f18, List.getD, List.getElem?_cons_zero, List.getElem?_cons_succ, Option.getD_some]
@[simp] theorem n18_105 (s : List V) (H : Heap) : evCode P Γ call n f m (cAt [1, 1, 1, 1, 1, 1, 1, 0] B18) s H = regNext (evOpsGo P Γ call r18_105.1 r18_105.1 s H) := at_region (by kernel_rfl) r18_105.2 s H
attribute [simp] r18_105
@[simp] theorem n18_106 (s : List V) (H : Heap) : evCode P Γ call n f m (cAt [1, 1, 1, 1, 1, 1, 1, 1] B18) s H = some (.ret, s, H) := at_ret (by kernel_rfl) s H
theorem b18 {k : Nat} (ho : ∀ args H, Γ.orc 18 args H = none) (args : List V) (H : Heap) (ha : args.length ≤ 130) : evF Tryd.prog Γ (k + 1) 18 args H = bodyEnd Tryd.prog [.tmp 8, .tmp 9] H.length (evCode Tryd.prog Γ (evF Tryd.prog Γ k) k 18 H.length (cAt [] B18) (mkL 130 V.undef (enumV 0 args)) H) := body_at Tryd.func18 (by decide) rfl ho rfl rfl args H ha
noncomputable def B29 : Code := bodyOf Tryd.f29
@[simp] theorem n29_1 (s : List V) (H : Heap) : evCode P Γ call n f m (cAt [] B29) s H = seqNext P Γ call n f m (cAt [1] B29) (evCode P Γ call n f m (cAt [0] B29) s H) := at_seq (by kernel_rfl) rfl rfl s H
noncomputable def r29_2 : {l : List Oper // opsOf (cAt [0] B29) = l} := by
  apply Subtype.mk
  dsimp only [opsOf, cAt, kids, B29, bodyOf, Tryd.f29, List.getD, List.getElem?_cons_zero, List.getElem?_cons_succ, Option.getD_some]
@[simp] theorem n29_2 (s : List V) (H : Heap) : evCode P Γ call n f m (cAt [0] B29) s H = regNext (evOpsGo P Γ call r29_2.1 r29_2.1 s H) := at_region (by kernel_rfl) r29_2.2 s H
attribute [simp] r29_2
@[simp] theorem n29_3 (s : List V) (H : Heap) : evCode P Γ call n f m (cAt [1] B29) s H = seqNext P Γ call n f m (cAt [1, 1] B29) (evCode P Γ call n f m (cAt [1, 0] B29) s H) := at_seq (by kernel_rfl) rfl rfl s H
noncomputable def r29_4 : {l : List Oper // opsOf (cAt [1, 0] B29) = l} := by
  apply Subtype.mk
  dsimp only [opsOf, cAt, kids, B29, bodyOf, Tryd.f29, List.getD, List.getElem?_cons_zero, List.getElem?_cons_succ, Option.getD_some]
@[simp] theorem n29_4 (s : List V) (H : Heap) : evCode P Γ call n f m (cAt [1, 0] B29) s H = regNext (evOpsGo P Γ call r29_4.1 r29_4.1 s H) := at_region (by kernel_rfl) r29_4.2 s H
attribute [simp] r29_4
@[simp] theorem n29_5 (s : List V) (H : Heap) : evCode P Γ call n f m (cAt [1, 1] B29) s H = seqNext P Γ call n f m (cAt [1, 1, 1] B29) (evCode P Γ call n f m (cAt [1, 1, 0] B29) s H) := at_seq (by kernel_rfl) rfl rfl s H
@[simp] theorem n29_6 (s : List V) (H : Heap) : evCode P Γ call n f m (cAt [1, 1, 0] B29) s H = seqNext P Γ call n f m (cAt [1, 1, 0, 1] B29) (evCode P Γ call n f m (cAt [1, 1, 0, 0] B29) s H) := at_seq (by kernel_rfl) rfl rfl s H
noncomputable def r29_7 : {l : List Oper // opsOf (cAt [1, 1, 0, 0] B29) = l} := by
  apply Subtype.mk
  dsimp only [opsOf, cAt, kids, B29, bodyOf, Tryd.f29, List.getD, List.getElem?_cons_zero, List.getElem?_cons_succ, Option.getD_some]
@[simp] theorem n29_7 (s : List V) (H : Heap) : evCode P Γ call n f m (cAt [1, 1, 0, 0] B29) s H = regNext (evOpsGo P Γ call r29_7.1 r29_7.1 s H) := at_region (by kernel_rfl) r29_7.2 s H
attribute [simp] r29_7
@[simp] theorem n29_8 (s : List V) (H : Heap) : evCode P Γ call n f m (cAt [1, 1, 0, 1] B29) s H = blockNext 0 (evCode P Γ call n f m (cAt [1, 1, 0, 1, 0] B29) s H) := at_block (by kernel_rfl) rfl s H
@[simp] theorem n29_9 (s : List V) (H : Heap) : evCode P Γ call n f m (cAt [1, 1, 0, 1, 0] B29) s H = evLoopC P Γ call n f m (cAt [1, 1, 0, 1, 0, 0] B29) n s H := at_loop (by kernel_rfl) rfl s H
noncomputable abbrev L29_3 : Code := cAt [1, 1, 0, 1, 0, 0] B29
@[simp] theorem n29_9f : firstRegion (cAt [1, 1, 0, 1, 0, 0] B29) = 3 := by kernel_rfl
@[simp] theorem n29_10 (s : List V) (H : Heap) : evCode P Γ call n f m (cAt [1, 1, 0, 1, 0, 0] B29) s H = seqNext P Γ call n f m (cAt [1, 1, 0, 1, 0, 0, 1] B29) (evCode P Γ call n f m (cAt [1, 1, 0, 1, 0, 0, 0] B29) s H) := at_seq (by kernel_rfl) rfl rfl s H
noncomputable def r29_11 : {l : List Oper // opsOf (cAt [1, 1, 0, 1, 0, 0, 0] B29) = l} := by
  apply Subtype.mk
  dsimp only [opsOf, cAt, kids, B29, bodyOf, Tryd.f29, List.getD, List.getElem?_cons_zero, List.getElem?_cons_succ, Option.getD_some]
@[simp] theorem n29_11 (s : List V) (H : Heap) : evCode P Γ call n f m (cAt [1, 1, 0, 1, 0, 0, 0] B29) s H = regNext (evOpsGo P Γ call r29_11.1 r29_11.1 s H) := at_region (by kernel_rfl) r29_11.2 s H
attribute [simp] r29_11
@[simp] theorem n29_12 (s : List V) (H : Heap) : evCode P Γ call n f m (cAt [1, 1, 0, 1, 0, 0, 1] B29) s H = seqNext P Γ call n f m (cAt [1, 1, 0, 1, 0, 0, 1, 1] B29) (evCode P Γ call n f m (cAt [1, 1, 0, 1, 0, 0, 1, 0] B29) s H) := at_seq (by kernel_rfl) rfl rfl s H
@[simp] theorem n29_13 (s : List V) (H : Heap) : evCode P Γ call n f m (cAt [1, 1, 0, 1, 0, 0, 1, 0] B29) s H = condW P Γ call n f m (cAt [1, 1, 0, 1, 0, 0, 1, 0, 0] B29) (cAt [1, 1, 0, 1, 0, 0, 1, 0, 1] B29) s H (evOperand Γ s (.tmp 12)) := at_cond (by kernel_rfl) (by kernel_rfl) rfl rfl s H
@[simp] theorem n29_14 (s : List V) (H : Heap) : evCode P Γ call n f m (cAt [1, 1, 0, 1, 0, 0, 1, 0, 0] B29) s H = some (.normal, s, H) := at_skip (by kernel_rfl) s H
@[simp] theorem n29_15 (s : List V) (H : Heap) : evCode P Γ call n f m (cAt [1, 1, 0, 1, 0, 0, 1, 0, 1] B29) s H = some (.exit 0, s, H) := at_exit (by kernel_rfl) s H
@[simp] theorem n29_16 (s : List V) (H : Heap) : evCode P Γ call n f m (cAt [1, 1, 0, 1, 0, 0, 1, 1] B29) s H = seqNext P Γ call n f m (cAt [1, 1, 0, 1, 0, 0, 1, 1, 1] B29) (evCode P Γ call n f m (cAt [1, 1, 0, 1, 0, 0, 1, 1, 0] B29) s H) := at_seq (by kernel_rfl) rfl rfl s H
@[simp] theorem n29_17 (s : List V) (H : Heap) : evCode P Γ call n f m (cAt [1, 1, 0, 1, 0, 0, 1, 1, 0] B29) s H = blockNext 1 (evCode P Γ call n f m (cAt [1, 1, 0, 1, 0, 0, 1, 1, 0, 0] B29) s H) := at_block (by kernel_rfl) rfl s H
@[simp] theorem n29_18 (s : List V) (H : Heap) : evCode P Γ call n f m (cAt [1, 1, 0, 1, 0, 0, 1, 1, 0, 0] B29) s H = seqNext P Γ call n f m (cAt [1, 1, 0, 1, 0, 0, 1, 1, 0, 0, 1] B29) (evCode P Γ call n f m (cAt [1, 1, 0, 1, 0, 0, 1, 1, 0, 0, 0] B29) s H) := at_seq (by kernel_rfl) rfl rfl s H
noncomputable def r29_19 : {l : List Oper // opsOf (cAt [1, 1, 0, 1, 0, 0, 1, 1, 0, 0, 0] B29) = l} := by
  apply Subtype.mk
  dsimp only [opsOf, cAt, kids, B29, bodyOf, Tryd.f29, List.getD, List.getElem?_cons_zero, List.getElem?_cons_succ, Option.getD_some]
@[simp] theorem n29_19 (s : List V) (H : Heap) : evCode P Γ call n f m (cAt [1, 1, 0, 1, 0, 0, 1, 1, 0, 0, 0] B29) s H = regNext (evOpsGo P Γ call r29_19.1 r29_19.1 s H) := at_region (by kernel_rfl) r29_19.2 s H
attribute [simp] r29_19
@[simp] theorem n29_20 (s : List V) (H : Heap) : evCode P Γ call n f m (cAt [1, 1, 0, 1, 0, 0, 1, 1, 0, 0, 1] B29) s H = seqNext P Γ call n f m (cAt [1, 1, 0, 1, 0, 0, 1, 1, 0, 0, 1, 1] B29) (evCode P Γ call n f m (cAt [1, 1, 0, 1, 0, 0, 1, 1, 0, 0, 1, 0] B29) s H) := at_seq (by kernel_rfl) rfl rfl s H
noncomputable def r29_21 : {l : List Oper // opsOf (cAt [1, 1, 0, 1, 0, 0, 1, 1, 0, 0, 1, 0] B29) = l} := by
  apply Subtype.mk
  dsimp only [opsOf, cAt, kids, B29, bodyOf, Tryd.f29, List.getD, List.getElem?_cons_zero, List.getElem?_cons_succ, Option.getD_some]
@[simp] theorem n29_21 (s : List V) (H : Heap) : evCode P Γ call n f m (cAt [1, 1, 0, 1, 0, 0, 1, 1, 0, 0, 1, 0] B29) s H = regNext (evOpsGo P Γ call r29_21.1 r29_21.1 s H) := at_region (by kernel_rfl) r29_21.2 s H
attribute [simp] r29_21
@[simp] theorem n29_22 (s : List V) (H : Heap) : evCode P Γ call n f m (cAt [1, 1, 0, 1, 0, 0, 1, 1, 0, 0, 1, 1] B29) s H = seqNext P Γ call n f m (cAt [1, 1, 0, 1, 0, 0, 1, 1, 0, 0, 1, 1, 1] B29) (evCode P Γ call n f m (cAt [1, 1, 0, 1, 0, 0, 1, 1, 0, 0, 1, 1, 0] B29) s H) := at_seq (by kernel_rfl) rfl rfl s H
noncomputable def r29_23 : {l : List Oper // opsOf (cAt [1, 1, 0, 1, 0, 0, 1, 1, 0, 0, 1, 1, 0] B29) = l} := by
  apply Subtype.mk
  dsimp only [opsOf, cAt, kids, B29, bodyOf, Tryd.f29, List.getD, List.getElem?_cons_zero, List.getElem?_cons_succ, Option.getD_some]
@[simp] theorem n29_23 (s : List V) (H : Heap) : evCode P Γ call n f m (cAt [1, 1, 0, 1, 0, 0, 1, 1, 0, 0, 1, 1, 0] B29) s H = regNext (evOpsGo P Γ call r29_23.1 r29_23.1 s H) := at_region (by kernel_rfl) r29_23.2 s H
attribute [simp] r29_23
@[simp] theorem n29_24 (s : List V) (H : Heap) : evCode P Γ call n f m (cAt [1, 1, 0, 1, 0, 0, 1, 1, 0, 0, 1, 1, 1] B29) s H = condW P Γ call n f m (cAt [1, 1, 0, 1, 0, 0, 1, 1, 0, 0, 1, 1, 1, 0] B29) (cAt [1, 1, 0, 1, 0, 0, 1, 1, 0, 0, 1, 1, 1, 1] B29) s H (evOperand Γ s (.tmp 20)) := at_cond (by kernel_rfl) (by kernel_rfl) rfl rfl s H
noncomputable def r29_25 : {l : List Oper // opsOf (cAt [1, 1, 0, 1, 0, 0, 1, 1, 0, 0, 1, 1, 1, 0] B29) = l} := by
  apply Subtype.mk
  dsimp only [opsOf, cAt, kids, B29, bodyOf, Tryd.f29, List.getD, List.getElem?_cons_zero, List.getElem?_cons_succ, Option.getD_some]
@[simp] theorem n29_25 (s : List V) (H : Heap) : evCode P Γ call n f m (cAt [1, 1, 0, 1, 0, 0, 1, 1, 0, 0, 1, 1, 1, 0] B29) s H = regNext (evOpsGo P Γ call r29_25.1 r29_25.1 s H) := at_region (by kernel_rfl) r29_25.2 s H
attribute [simp] r29_25
@[simp] theorem n29_26 (s : List V) (H : Heap) : evCode P Γ call n f m (cAt [1, 1, 0, 1, 0, 0, 1, 1, 0, 0, 1, 1, 1, 1] B29) s H = some (.normal, s, H) := at_skip (by kernel_rfl) s H
noncomputable def r29_27 : {l : List Oper // opsOf (cAt [1, 1, 0, 1, 0, 0, 1, 1, 1] B29) = l} := by
  apply Subtype.mk
  dsimp only [opsOf, cAt, kids, B29, bodyOf, Tryd.f29, List.getD, List.getElem?_cons_zero, List.getElem?_cons_succ, Option.getD_some]
@[simp] theorem n29_27 (s : List V) (H : Heap) : evCode P Γ call n f m (cAt [1, 1, 0, 1, 0, 0, 1, 1, 1] B29) s H = regNext (evOpsGo P Γ call r29_27.1 r29_27.1 s H) := at_region (by kernel_rfl) r29_27.2 s H
attribute [simp] r29_27
@[simp] theorem n29_28 (s : List V) (H : Heap) : evCode P Γ call n f m (cAt [1, 1, 1] B29) s H = seqNext P Γ call n f m (cAt [1, 1, 1, 1] B29) (evCode P Γ call n f m (cAt [1, 1, 1, 0] B29) s H) := at_seq (by kernel_rfl) rfl rfl s H
noncomputable def r29_29 : {l : List Oper // opsOf (cAt [1, 1, 1, 0] B29) = l} := by
  apply Subtype.mk
  dsimp only [opsOf, cAt, kids, B29, bodyOf, Tryd.f29, List.getD, List.getElem?_cons_zero, List.getElem?_cons_succ, Option.getD_some]
@[simp] theorem n29_29 (s : List V) (H : Heap) : evCode P Γ call n f m (cAt [1, 1, 1, 0] B29) s H = regNext (evOpsGo P Γ call r29_29.1 r29_29.1 s H) := at_region (by kernel_rfl) r29_29.2 s H
attribute [simp] r29_29
@[simp] theorem n29_30 (s : List V) (H : Heap) : evCode P Γ call n f m (cAt [1, 1, 1, 1] B29) s H = seqNext P Γ call n f m (cAt [1, 1, 1, 1, 1] B29) (evCode P Γ call n f m (cAt [1, 1, 1, 1, 0] B29) s H) := at_seq (by kernel_rfl) rfl rfl s H
@[simp] theorem n29_31 (s : List V) (H : Heap) : evCode P Γ call n f m (cAt [1, 1, 1, 1, 0] B29) s H = seqNext P Γ call n f m (cAt [1, 1, 1, 1, 0, 1] B29) (evCode P Γ call n f m (cAt [1, 1, 1, 1, 0, 0] B29) s H) := at_seq (by kernel_rfl) rfl rfl s H
noncomputable def r29_32 : {l : List Oper // opsOf (cAt [1, 1, 1, 1, 0, 0] B29) = l} := by
  apply Subtype.mk
  dsimp only [opsOf, cAt, kids, B29, bodyOf, Tryd.f29, List.getD, List.getElem?_cons_zero, List.getElem?_cons_succ, Option.getD_some]
@[simp] theorem n29_32 (s : List V) (H : Heap) : evCode P Γ call n f m (cAt [1, 1, 1, 1, 0, 0] B29) s H = regNext (evOpsGo P Γ call r29_32.1 r29_32.1 s H) := at_region (by kernel_rfl) r29_32.2 s H
attribute [simp] r29_32
@[simp] theorem n29_33 (s : List V) (H : Heap) : evCode P Γ call n f m (cAt [1, 1, 1, 1, 0, 1] B29) s H = blockNext 2 (evCode P Γ call n f m (cAt [1, 1, 1, 1, 0, 1, 0] B29) s H) := at_block (by kernel_rfl) rfl s H
@[simp] theorem n29_34 (s : List V) (H : Heap) : evCode P Γ call n f m (cAt [1, 1, 1, 1, 0, 1, 0] B29) s H = evLoopC P Γ call n f m (cAt [1, 1, 1, 1, 0, 1, 0, 0] B29) n s H := at_loop (by kernel_rfl) rfl s H
noncomputable abbrev L29_11 : Code := cAt [1, 1, 1, 1, 0, 1, 0, 0] B29
@[simp] theorem n29_34f : firstRegion (cAt [1, 1, 1, 1, 0, 1, 0, 0] B29) = 11 := by kernel_rfl
@[simp] theorem n29_35 (s : List V) (H : Heap) : evCode P Γ call n f m (cAt [1, 1, 1, 1, 0, 1, 0, 0] B29) s H = seqNext P Γ call n f m (cAt [1, 1, 1, 1, 0, 1, 0, 0, 1] B29) (evCode P Γ call n f m (cAt [1, 1, 1, 1, 0, 1, 0, 0, 0] B29) s H) := at_seq (by kernel_rfl) rfl rfl s H
noncomputable def r29_36 : {l : List Oper // opsOf (cAt [1, 1, 1, 1, 0, 1, 0, 0, 0] B29) = l} := by
  apply Subtype.mk
  dsimp only [opsOf, cAt, kids, B29, bodyOf, Tryd.f29, List.getD, List.getElem?_cons_zero, List.getElem?_cons_succ, Option.getD_some]
@[simp] theorem n29_36 (s : List V) (H : Heap) : evCode P Γ call n f m (cAt [1, 1, 1, 1, 0, 1, 0, 0, 0] B29) s H = regNext (evOpsGo P Γ call r29_36.1 r29_36.1 s H) := at_region (by kernel_rfl) r29_36.2 s H
attribute [simp] r29_36
@[simp] theorem n29_37 (s : List V) (H : Heap) : evCode P Γ call n f m (cAt [1, 1, 1, 1, 0, 1, 0, 0, 1] B29) s H = seqNext P Γ call n f m (cAt [1, 1, 1, 1, 0, 1, 0, 0, 1, 1] B29) (evCode P Γ call n f m (cAt [1, 1, 1, 1, 0, 1, 0, 0, 1, 0] B29) s H) := at_seq (by kernel_rfl) rfl rfl s H
@[simp] theorem n29_38 (s : List V) (H : Heap) : evCode P Γ call n f m (cAt [1, 1, 1, 1, 0, 1, 0, 0, 1, 0] B29) s H = condW P Γ call n f m (cAt [1, 1, 1, 1, 0, 1, 0, 0, 1, 0, 0] B29) (cAt [1, 1, 1, 1, 0, 1, 0, 0, 1, 0, 1] B29) s H (evOperand Γ s (.tmp 28)) := at_cond (by kernel_rfl) (by kernel_rfl) rfl rfl s H
@[simp] theorem n29_39 (s : List V) (H : Heap) : evCode P Γ call n f m (cAt [1, 1, 1, 1, 0, 1, 0, 0, 1, 0, 0] B29) s H = some (.normal, s, H) := at_skip (by kernel_rfl) s H
@[simp] theorem n29_40 (s : List V) (H : Heap) : evCode P Γ call n f m (cAt [1, 1, 1, 1, 0, 1, 0, 0, 1, 0, 1] B29) s H = some (.exit 2, s, H) := at_exit (by kernel_rfl) s H
@[simp] theorem n29_41 (s : List V) (H : Heap) : evCode P Γ call n f m (cAt [1, 1, 1, 1, 0, 1, 0, 0, 1, 1] B29) s H = seqNext P Γ call n f m (cAt [1, 1, 1, 1, 0, 1, 0, 0, 1, 1, 1] B29) (evCode P Γ call n f m (cAt [1, 1, 1, 1, 0, 1, 0, 0, 1, 1, 0] B29) s H) := at_seq (by kernel_rfl) rfl rfl s H
@[simp] theorem n29_42 (s : List V) (H : Heap) : evCode P Γ call n f m (cAt [1, 1, 1, 1, 0, 1, 0, 0, 1, 1, 0] B29) s H = blockNext 3 (evCode P Γ call n f m (cAt [1, 1, 1, 1, 0, 1, 0, 0, 1, 1, 0, 0] B29) s H) := at_block (by kernel_rfl) rfl s H
@[simp] theorem n29_43 (s : List V) (H : Heap) : evCode P Γ call n f m (cAt [1, 1, 1, 1, 0, 1, 0, 0, 1, 1, 0, 0] B29) s H = seqNext P Γ call n f m (cAt [1, 1, 1, 1, 0, 1, 0, 0, 1, 1, 0, 0, 1] B29) (evCode P Γ call n f m (cAt [1, 1, 1, 1, 0, 1, 0, 0, 1, 1, 0, 0, 0] B29) s H) := at_seq (by kernel_rfl) rfl rfl s H
noncomputable def r29_44 : {l : List Oper // opsOf (cAt [1, 1, 1, 1, 0, 1, 0, 0, 1, 1, 0, 0, 0] B29) = l} := by
  apply Subtype.mk
  dsimp only [opsOf, cAt, kids, B29, bodyOf, Tryd.f29, List.getD, List.getElem?_cons_zero, List.getElem?_cons_succ, Option.getD_some]
@[simp] theorem n29_44 (s : List V) (H : Heap) : evCode P Γ call n f m (cAt [1, 1, 1, 1, 0, 1, 0, 0, 1, 1, 0, 0, 0] B29) s H = regNext (evOpsGo P Γ call r29_44.1 r29_44.1 s H) := at_region (by kernel_rfl) r29_44.2 s H
attribute [simp] r29_44
noncomputable def r29_45 : {l : List Oper // opsOf (cAt [1, 1, 1, 1, 0, 1, 0, 0, 1, 1, 0, 0, 1] B29) = l} := by
  apply Subtype.mk
  dsimp only [opsOf, cAt, kids, B29, bodyOf, Tryd.f29, List.getD, List.getElem?_cons_zero, List.getElem?_cons_succ, Option.getD_some]
@[simp] theorem n29_45 (s : List V) (H : Heap) : evCode P Γ call n f m (cAt [1, 1, 1, 1, 0, 1, 0, 0, 1, 1, 0, 0, 1] B29) s H = regNext (evOpsGo P Γ call r29_45.1 r29_45.1 s H) := at_region (by kernel_rfl) r29_45.2 s H
attribute [simp] r29_45
noncomputable def r29_46 : {l : List Oper // opsOf (cAt [1, 1, 1, 1, 0, 1, 0, 0, 1, 1, 1] B29) = l} := by
  apply Subtype.mk
  dsimp only [opsOf, cAt, kids, B29, bodyOf, Tryd.f29, List.getD, List.getElem?_cons_zero, List.getElem?_cons_succ, Option.getD_some]
@[simp] theorem n29_46 (s : List V) (H : Heap) : evCode P Γ call n f m (cAt [1, 1, 1, 1, 0, 1, 0, 0, 1, 1, 1] B29) s H = regNext (evOpsGo P Γ call r29_46.1 r29_46.1 s H) := at_region (by kernel_rfl) r29_46.2 s H
attribute [simp] r29_46
@[simp] theorem n29_47 (s : List V) (H : Heap) : evCode P Γ call n f m (cAt [1, 1, 1, 1, 1] B29) s H = seqNext P Γ call n f m (cAt [1, 1, 1, 1, 1, 1] B29) (evCode P Γ call n f m (cAt [1, 1, 1, 1, 1, 0] B29) s H) := at_seq (by kernel_rfl) rfl rfl s H
noncomputable def r29_48 : {l : List Oper // opsOf (cAt [1, 1, 1, 1, 1, 0] B29) = l} := by
  apply Subtype.mk
  dsimp only [opsOf, cAt, kids, B29, bodyOf, Tryd.f29, List.getD, List.getElem?_cons_zero, List.getElem?_cons_succ, Option.getD_some]
@[simp] theorem n29_48 (s : List V) (H : Heap) : evCode P Γ call n f m (cAt [1, 1, 1, 1, 1, 0] B29) s H = regNext (evOpsGo P Γ call r29_48.1 r29_48.1 s H) := at_region (by kernel_rfl) r29_48.2 s H
attribute [simp] r29_48
@[simp] theorem n29_49 (s : List V) (H : Heap) : evCode P Γ call n f m (cAt [1, 1, 1, 1, 1, 1] B29) s H = some (.ret, s, H) := at_ret (by kernel_rfl) s H
theorem b29 {k : Nat} (ho : ∀ args H, Γ.orc 29 args H = none) (args : List V) (H : Heap) (ha : args.length ≤ 36) : evF Tryd.prog Γ (k + 1) 29 args H = bodyEnd Tryd.prog [.tmp 2] H.length (evCode Tryd.prog Γ (evF Tryd.prog Γ k) k 29 H.length (cAt [] B29) (mkL 36 V.undef (enumV 0 args)) H) := body_at Tryd.func29 (by decide) rfl ho rfl rfl args H ha
end
end Go.Ev.Tryd
